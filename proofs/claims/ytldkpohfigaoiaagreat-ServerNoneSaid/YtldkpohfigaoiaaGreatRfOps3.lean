/- Each operation but a call, third part: what two values give, and what one gives. -/
import Derived.Test.YtldkpohfigaoiaaGreatRfOps2
import Derived.Laws.StructEq
import Derived.LaidEql
namespace Go.Rf
open Go Go.RowKit

section
variable {P : Program} {w : World}

theorem kmod_eq (k : IntKind) : kmod k = 2 ^ k.bits := by cases k <;> rfl
theorem kmod_pos (k : IntKind) : 0 < kmod k := by cases k <;> decide
theorem kbits_eq (k : IntKind) : kbits k = k.bits := by cases k <;> rfl

theorem bv_toNat (k : IntKind) (x : Int) : (BitVec.ofInt k.bits x).toNat = umod (kmod k) x := by
  have h := umod_eq (kmod k) (kmod_pos k) x
  rw [BitVec.toNat_ofInt]
  have e : ((2 ^ k.bits : Nat) : Int) = ((kmod k : Nat) : Int) := by rw [kmod_eq]
  rw [e, ← h]
  simp

theorem bv_mod (k : IntKind) (x : Int) : (x % 2 ^ k.bits).toNat = umod (kmod k) x := by
  have := bv_toNat k x
  rw [BitVec.toNat_ofInt] at this
  rw [← this]
  congr 2


theorem andNot_bv {n : Nat} (a b : BitVec n) : a &&& ~~~b = a ^^^ (a &&& b) := by
  ext i hi
  simp
  cases a[i] <;> cases b[i] <;> rfl

theorem minN_eq (a b : Nat) : minN a b = min a b := by
  unfold minN
  rw [ble_dec]
  by_cases h : a ≤ b
  · simp [h] <;> omega
  · simp [h] <;> omega

theorem fdivF_eq (a : Int) (n : Nat) : fdivF a (Nat.pow 2 n) = a.fdiv (2 ^ n) := by
  have e : ((2 : Int) ^ n) = ((2 ^ n : Nat) : Int) := by simp
  rw [e]
  have hp : 0 < 2 ^ n := Nat.two_pow_pos n
  rw [Int.fdiv_eq_ediv_of_nonneg _ (by omega)]
  cases a with
  | ofNat m => rfl
  | negSucc m =>
    show Int.negSucc (m / 2 ^ n) = _
    rw [Int.negSucc_ediv _ (by omega)]
    have : ((m : Int).ediv ((2 ^ n : Nat) : Int)) = ((m / 2 ^ n : Nat) : Int) := by show (m : Int) / _ = _; simp
    rw [this, Int.negSucc_eq]

theorem binI_run {op : BinOp} {k : IntKind} {x y : Int} {v : Value} (t : TypeId) (h : binI op k x y = some v) : (binOp op t (.int k x) (.int k y)).run P w = .ok v w := by
  cases op <;> simp only [binI] at h
  case add => cases h; simp [binOp, Op.intArith, wrapF_eq]
  case sub => cases h; simp [binOp, Op.intArith, wrapF_eq]
  case mul => cases h; simp [binOp, Op.intArith, wrapF_eq]
  case quo =>
    have hz := ieq_eq y (.ofNat 0)
    split at h
    · cases h
    · rename_i hy
      cases h
      have hy' : ¬ y = 0 := by intro e; subst e; simp [ieq] at hy
      simp [binOp, Op.intDiv, hy', wrapF_eq]
  case rem =>
    split at h
    · cases h
    · rename_i hy
      cases h
      have hy' : ¬ y = 0 := by intro e; subst e; simp [ieq] at hy
      simp [binOp, Op.intDiv, hy']
  case and => cases h; simp [binOp, Op.intBits, wrapF_eq, BitVec.toNat_and, bv_mod]
  case or => cases h; simp [binOp, Op.intBits, wrapF_eq, BitVec.toNat_or, bv_mod]
  case xor => cases h; simp [binOp, Op.intBits, wrapF_eq, BitVec.toNat_xor, bv_mod]
  case andNot => cases h; simp [binOp, Op.intBits, wrapF_eq, andNot_bv, BitVec.toNat_xor, BitVec.toNat_and, bv_mod]
  case eql => cases h; simp [binOp, Op.intCmp, ieq_eq]
  case neq => cases h; simp [binOp, Op.intCmp, ieq_eq, notB_eq]; rfl
  case lss => cases h; simp [binOp, Op.intCmp, ile_eq, notB_eq]; rw [← decide_not, decide_eq_decide]; omega
  case leq => cases h; simp [binOp, Op.intCmp, ile_eq]
  case gtr => cases h; simp [binOp, Op.intCmp, ile_eq, notB_eq]; rw [← decide_not, decide_eq_decide]; omega
  case geq => cases h; simp [binOp, Op.intCmp, ile_eq]
  all_goals cases h

theorem shiftI_run {op : BinOp} {k j : IntKind} {x y : Int} {v : Value} (t : TypeId) (ho : op = .shl ∨ op = .shr) (h : shiftI op k x y = some v) : (binOp op t (.int k x) (.int j y)).run P w = .ok v w := by
  cases y with
  | negSucc n => simp [shiftI] at h
  | ofNat n =>
    rcases ho with rfl | rfl
    · simp only [shiftI, Option.some.injEq] at h
      subst h
      have h2 : ¬ (Int.ofNat n < 0) := by simp
      simp only [binOp, Op.shift, if_neg h2]
      simp only [Sem.run_pure, wrapF_eq, minN_eq, kbits_eq]
      congr 4

    · simp only [shiftI, Option.some.injEq] at h
      subst h
      have h2 : ¬ (Int.ofNat n < 0) := by simp
      simp only [binOp, Op.shift, if_neg h2]
      simp only [Sem.run_pure, fdivF_eq, minN_eq, kbits_eq]
      rfl

/-! Strings. -/
theorem u8_beq (a b : UInt8) : Nat.beq a.toNat b.toNat = (a == b) := by
  by_cases h : a = b
  · subst h; simp
  · have : a.toNat ≠ b.toNat := fun e => h (UInt8.toNat_inj.1 e)
    cases hb : Nat.beq a.toNat b.toNat with
    | true => exact absurd (Nat.eq_of_beq_eq_true hb) this
    | false => simp [h]

theorem beqL_eq : ∀ (x y : List UInt8), beqL x y = (x == y)
  | [], [] => rfl
  | [], _ :: _ => rfl
  | _ :: _, [] => rfl
  | a :: x, b :: y => by
    simp only [beqL, u8_beq]
    cases h : a == b with
    | true => simp [h, beqL_eq x y]
    | false => simp [h]

theorem ltL_eq : ∀ (x y : List UInt8), ltL x y = Op.bytesLess x y
  | [], [] => rfl
  | _ :: _, [] => rfl
  | [], _ :: _ => rfl
  | a :: x, b :: y => by
    simp only [ltL, Op.bytesLess, u8_beq, ltL_eq x y]
    have e : Nat.blt a.toNat b.toNat = decide (a < b) := by rw [blt_dec, decide_eq_decide]; exact UInt8.lt_iff_toNat_lt.symm
    rw [e]
    cases decide (a < b) <;> cases a == b <;> simp

theorem toList_bytesL (s : ByteArray) : s.toList = bytesL s := ByteArray.toList_eq s

theorem len_bytesL (s : ByteArray) : len (bytesL s) = s.size := by rw [len_eq]; rfl

theorem binS_run {op : BinOp} {x y : ByteArray} {v : Value} (t : TypeId) (h : binS op x y = some v) : (binOp op t (.string x) (.string y)).run P w = .ok v w := by
  cases op <;> simp only [binS] at h
  case add =>
    split at h
    · rename_i hb
      cases h
      have hlt : ¬ ((x.size + y.size : Nat) : Int) > IntKind.i64.max := by
        have := Nat.le_of_ble_eq_true hb
        rw [len_bytesL, len_bytesL] at this
        have e : IntKind.i64.max = 9223372036854775807 := by decide
        rw [e]
        have : x.size + y.size ≤ 9223372036854775807 := this
        omega
      simp only [binOp, Op.stringOp, if_neg hlt, Sem.run_pure]
      congr 2
      rw [app_eq]
      apply ByteArray.ext
      simp [ByteArray.data_append, bytesL]
    · cases h
  case eql => cases h; simp [binOp, Op.stringOp, beqL_eq, toList_bytesL]
  case neq => cases h; simp [binOp, Op.stringOp, beqL_eq, toList_bytesL, notB_eq]
  case lss => cases h; simp [binOp, Op.stringOp, ltL_eq, toList_bytesL]
  case leq => cases h; simp [binOp, Op.stringOp, ltL_eq, beqL_eq, toList_bytesL]; cases Op.bytesLess (bytesL x) (bytesL y) <;> rfl
  case gtr => cases h; simp [binOp, Op.stringOp, ltL_eq, beqL_eq, toList_bytesL, notB_eq]; cases Op.bytesLess (bytesL x) (bytesL y) <;> simp
  case geq => cases h; simp [binOp, Op.stringOp, ltL_eq, toList_bytesL, notB_eq]
  all_goals cases h

theorem unV_run {op : UnOp} {x v : Value} (h : unV op x = some v) : (Op.unary op x).run P w = .ok v w := by
  unfold unV at h
  split at h
  · cases h; simp [Op.unary, Op.intArith, wrapF_eq]
  · rename_i k n
    cases h
    simp only [Op.unary, Op.intBits, Sem.run_pure]
    congr 2
    rw [wrapF_eq]
    congr 1
    rw [BitVec.toNat_xor, bv_toNat, bv_toNat]
    congr 1
    have : umod (kmod k) (if k.signed then -1 else k.max) = kmod k - 1 := by cases k <;> decide
    rw [this]
    rfl
  · cases h; simp [Op.unary, notB_eq]
  · cases h

theorem unV_rel {ρ : Ren} {op : UnOp} {x u v : Value} (hx : VRel ρ x u) (h : unV op x = some v) : u = x ∧ VRel ρ v v := by
  unfold unV at h
  split at h
  · cases hx; cases h; exact ⟨rfl, .int _ _⟩
  · cases hx; cases h; exact ⟨rfl, .int _ _⟩
  · cases hx; cases h; exact ⟨rfl, .bool _⟩
  · cases h

theorem binI_rel {ρ : Ren} {op : BinOp} {k : IntKind} {x y : Int} {v : Value} (h : binI op k x y = some v) : VRel ρ v v := by
  cases op <;> simp only [binI] at h
  case quo => split at h <;> cases h; exact .int _ _
  case rem => split at h <;> cases h; exact .int _ _
  all_goals first | (cases h; first | exact .int _ _ | exact .bool _) | cases h

theorem shiftI_rel {ρ : Ren} {op : BinOp} {k : IntKind} {x y : Int} {v : Value} (h : shiftI op k x y = some v) : VRel ρ v v := by
  cases y with
  | negSucc n => simp [shiftI] at h
  | ofNat n =>
    cases op <;> simp only [shiftI] at h
    all_goals first | (cases h; exact .int _ _) | cases h

theorem binS_rel {ρ : Ren} {op : BinOp} {x y : ByteArray} {v : Value} (h : binS op x y = some v) : VRel ρ v v := by
  cases op <;> simp only [binS] at h
  case add => split at h <;> cases h; exact .string _
  all_goals first | (cases h; exact .bool _) | cases h

end
end Go.Rf
