/- How the compiled functions are tied to the program. -/
import Derived.Test.YtldkpohfigaoiaaGreatRfDraw4
namespace Go.Rf
open Go Go.RowKit

def Tr.All {α : Type} (p : Nat → α → Prop) : Tr α → (Nat → Nat) → Prop
  | .leaf, _ => True
  | .node l v r, f => Tr.All p l (fun n => f (2 * n + 1)) ∧ (match v with | none => True | some x => p (f 0) x) ∧ Tr.All p r (fun n => f (2 * n + 2))

theorem Tr.all_get {α : Type} {p : Nat → α → Prop} : ∀ {t : Tr α} {f : Nat → Nat}, t.All p f → ∀ n x, t.get n = some x → p (f n) x
  | .leaf, _, _, n, x, h => by simp [Tr.get] at h
  | .node l v r, f, ⟨_, h2, _⟩, 0, x, h => by
    simp only [Tr.get] at h
    rw [h] at h2
    exact h2
  | .node l v r, f, ⟨h1, _, h3⟩, k + 1, x, h => by
    have hk : k % 2 + 2 * (k / 2) = k := Nat.mod_add_div k 2
    simp only [Tr.get] at h
    cases hm : Nat.mod k 2 with
    | zero =>
      rw [hm] at h
      have hm : k % 2 = 0 := hm
      have := Tr.all_get h1 _ x h
      have e : 2 * Nat.div k 2 + 1 = k + 1 := by show 2 * (k / 2) + 1 = k + 1; omega
      rw [e] at this
      exact this
    | succ m =>
      rw [hm] at h
      have hm : k % 2 = m + 1 := hm
      have := Tr.all_get h3 _ x h
      have e : 2 * Nat.div k 2 + 2 = k + 1 := by show 2 * (k / 2) + 2 = k + 1; omega
      rw [e] at this
      exact this

def Comp (P : Program) (f : Nat) (cf : CFn) : Prop := ∃ fn, P.funcs[f]? = some fn ∧ fnOf P fn = some cf

theorem env_of {P : Program} {F : Tr CFn} (h : F.All (Comp P) id) (hm : P.follows .mixedOrders = true) : Env P F := ⟨fun f cf hf => Tr.all_get h f cf hf, hm⟩

/-- Whatever the evaluator finds, the program does. -/
theorem calls_ok {P : Program} {F : Tr CFn} (hE : Env P F) (n : Nat) : CallOk P (callF F (ev F n)) := call_ok hE (draw_ok hE.mixed) n

/-! A function's code, piece by piece. -/
def isT : Option (Value × AS) → Bool
  | some (.bool true, _) => true
  | _ => false

theorem isT_some {o : Option (Value × AS)} (h : isT o = true) : ∃ s, o = some (.bool true, s) := by
  unfold isT at h
  split at h
  · exact ⟨_, rfl⟩
  · cases h

def isNorm : Out → Bool
  | .norm _ _ => true
  | _ => false
def outR : Out → Tr Value
  | .norm r _ => r
  | .ret r _ => r
  | .exit _ r _ => r
  | .fail => .leaf
def outS : Out → AS
  | .norm _ s => s
  | .ret _ s => s
  | .exit _ _ s => s
  | .fail => { heap := .leaf, next := 0 }
theorem isNorm_eq {o : Out} (h : isNorm o = true) : o = .norm (outR o) (outS o) := by cases o <;> simp [isNorm] at h <;> rfl

theorem ev_seq {F : Tr CFn} {n : Nat} {x y : CCode} {r r1 : Tr Value} {s s1 : AS} (h : ev F n x r s = .norm r1 s1) : ev F (n + 1) (.seq x y) r s = ev F n y r1 s1 := by
  simp only [ev, h]

theorem ev_seq2 (F : Tr CFn) (n : Nat) (x y : CCode) (r : Tr Value) (s : AS) : ev F (n + 1) (.seq x y) r s = match ev F n x r s with
    | .norm r s => ev F n y r s
    | o => o := rfl

/-- What is left of a call behind its code. -/
def finish (res : List RV) : Out → Option (Value × AS)
  | .norm r s => match rvs r s res with
    | some vs => some (oneOr vs, s)
    | none => none
  | .ret r s => match rvs r s res with
    | some vs => some (oneOr vs, s)
    | none => none
  | _ => none

theorem callF_eq {F : Tr CFn} {run : CCode → Tr Value → AS → Out} {f : Nat} {cf : CFn} {args : List Value} {s : AS} (hf : F.get f = some cf) (hn : Nat.ble (len args) cf.ntmps = true) :
    callF F run f args s = finish cf.res (run cf.body (initR cf.ntmps 0 args (blank 11 1 0 cf.ntmps)) s) := by
  unfold callF
  rw [hf]
  simp only [hn]
  cases run cf.body (initR cf.ntmps 0 args (blank 11 1 0 cf.ntmps)) s <;> rfl

end Go.Rf
