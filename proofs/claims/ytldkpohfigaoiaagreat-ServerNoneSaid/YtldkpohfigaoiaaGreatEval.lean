/- What the law's functions give, reckoned by the kernel. -/
import Derived.Test.YtldkpohfigaoiaaGreatTie0
set_option maxRecDepth 100000
namespace Go.Proofs.YtldkpohfigaoiaaGreat
open Go Go.Rf

def pA : CCode → CCode
  | .seq a _ => a
  | c => c
def pB : CCode → CCode
  | .seq _ b => b
  | c => c
def cA : CCode := pA cf3.body
def cB : CCode := pA (pA (pB cf3.body))
def cC : CCode := pB (pA (pB cf3.body))
def cD : CCode := pB (pB cf3.body)
theorem body_eq : cf3.body = .seq cA (.seq (.seq cB cC) cD) := by kernel_rfl

def s0 : AS := { heap := .leaf, next := 1 }
def xs (a b c n : Int) (sl : Value) : List Value := [.agg #[.int .i64 a, .int .i64 b, .int .i64 c, sl], .int .i64 n]
def sl1 (i len cap : Nat) : Value := .slice (some ⟨0, i, none⟩) len cap

theorem nil_true (a b c n : Int) : isT (callF cF (ev cF 2003) 3 (xs a b c n (.slice none 0 0)) s0) = true := by kernel_rfl

def rI (a b c n : Int) (i len cap : Nat) : Tr Value := initR cf3.ntmps 0 (xs a b c n (sl1 i len cap)) (Go.Rf.blank 11 1 0 cf3.ntmps)
def oA (a b c n : Int) (i len cap : Nat) : Out := ev cF 2002 cA (rI a b c n i len cap) s0
def oB (a b c n : Int) (i len cap : Nat) : Out := ev cF 2000 cB (outR (oA a b c n i len cap)) (outS (oA a b c n i len cap))
def rB (a b c n : Int) (i len cap : Nat) (g : Bool) : Tr Value := (outR (oB a b c n i len cap)).upd 20 (.bool g)
theorem oA_norm (a b c n : Int) (i len cap : Nat) : isNorm (oA a b c n i len cap) = true := by kernel_rfl
theorem oB_eq (a b c n : Int) (i len cap : Nat) : oB a b c n i len cap = .norm (rB a b c n i len cap (notB (ile (Int.ofNat len) 100))) (outS (oB a b c n i len cap)) := by kernel_rfl
/-- What follows the look at the length. -/
def oD (a b c n : Int) (i len cap : Nat) (g : Bool) : Option (Value × AS) :=
  finish cf3.res (match ev cF 2000 cC (rB a b c n i len cap g) (outS (oB a b c n i len cap)) with
    | .norm r s => ev cF 2001 cD r s
    | o => o)
theorem oD_long (a b c n : Int) (i len cap : Nat) : isT (oD a b c n i len cap true) = true := by kernel_rfl
theorem oD_short (a b c n : Int) (i len cap : Nat) : isT (oD a b c n i len cap false) = true := by kernel_rfl
theorem oD_true (a b c n : Int) (i len cap : Nat) (g : Bool) : isT (oD a b c n i len cap g) = true := by
  cases g
  · exact oD_short a b c n i len cap
  · exact oD_long a b c n i len cap

theorem slice_true (a b c n : Int) (i len cap : Nat) : isT (callF cF (ev cF 2003) 3 (xs a b c n (sl1 i len cap)) s0) = true := by
  have h : callF cF (ev cF 2003) 3 (xs a b c n (sl1 i len cap)) s0 = oD a b c n i len cap (notB (ile (Int.ofNat len) 100)) := by
    rw [callF_eq (cf := cf3) (by kernel_rfl) (by kernel_rfl), body_eq]
    have hA : ev cF 2002 cA (rI a b c n i len cap) s0 = .norm (outR (oA a b c n i len cap)) (outS (oA a b c n i len cap)) := isNorm_eq (oA_norm a b c n i len cap)
    have hB : ev cF 2000 cB (outR (oA a b c n i len cap)) (outS (oA a b c n i len cap)) = .norm (rB a b c n i len cap (notB (ile (Int.ofNat len) 100))) (outS (oB a b c n i len cap)) := oB_eq a b c n i len cap
    have h1 := ev_seq (n := 2002) (y := .seq (.seq cB cC) cD) hA
    have h2 := ev_seq (n := 2000) (y := cC) hB
    have h3 : ev cF 2002 (.seq (.seq cB cC) cD) (outR (oA a b c n i len cap)) (outS (oA a b c n i len cap)) = match ev cF 2001 (.seq cB cC) (outR (oA a b c n i len cap)) (outS (oA a b c n i len cap)) with
      | .norm r s => ev cF 2001 cD r s
      | o => o := ev_seq2 cF 2001 _ _ _ _
    have h4 : ev cF 2003 (.seq cA (.seq (.seq cB cC) cD)) (rI a b c n i len cap) s0 = match ev cF 2000 cC (rB a b c n i len cap (notB (ile (Int.ofNat len) 100))) (outS (oB a b c n i len cap)) with
      | .norm r s => ev cF 2001 cD r s
      | o => o := by rw [h1, h3, h2]
    exact congrArg (finish cf3.res) h4
  rw [h]
  exact oD_true a b c n i len cap _

end Go.Proofs.YtldkpohfigaoiaaGreat
