/- Each operation but a call, second part: moves, memory, building, numbers, strings. -/
import Derived.Test.YtldkpohfigaoiaaGreatRfOps
import Derived.Laws.Strings
import Derived.Great.BuildSlice
namespace Go.Rf
open Go Go.RowKit

section
variable {P : Program} {B : Nat} {ρ : Ren} {s s' : AS} {w : World} {r : Tr Value} {a : Act} {v : Value}

theorem g_move {x : Operand} {y : Opd} (hR : Rel B ρ s w) (hr : RegsRel ρ r a.tmps) (hx : opdOf x = some y) (hv : y.ev r = some v) {m : Sem Next} (hm : m = pure (.value (a.eval x))) : Quiet P ρ s w m v s := by
  subst hm
  exact .here hR rfl (opd_rel hr hx hv)

theorem g_box {e : TypeId} {cs : List Value} {us : Array Value} (hn : ρ s.next = none) (hv : VsRel ρ cs us.toList) (h : mk s (.row cs e true 0) (fun n => .pointer (some ⟨n, 0, none⟩)) = some (v, s')) :
    Alloc P ρ s w (do pure (Next.value (← (do pure (Value.pointer (some (← newRow e us))) : Sem Value)))) v s' := by
  obtain ⟨hroom, rfl, rfl⟩ := mk_some h
  obtain ⟨h1, h2⟩ := new_row (P := P) (w := w) hn hv e 0
  refine ⟨_, _, _, _, w.alloc (.cells us e), hroom, rfl, run_v (u := .pointer (some ⟨w.heap.size, 0, none⟩)) (by simp [newRow]), rfl, rfl, rfl, rfl, rfl, h2, ?_⟩
  have := VRel.ptr (ρ := bind1 ρ s.next ⟨w.heap.size, 0, cs.length, 0⟩) s.next 0 _ (bind1_same _ _ _)
  simpa using this

/-! Building. -/
theorem foldl_set (l : List Value) : ∀ (off k : Nat) (c : Array Value), off + k + l.length ≤ c.size →
    ((l.zipIdx k).foldl (fun cs (p : Value × Nat) => cs.setIfInBounds (off + p.2) p.1) c).size = c.size ∧
    ∀ j, ((l.zipIdx k).foldl (fun cs (p : Value × Nat) => cs.setIfInBounds (off + p.2) p.1) c)[j]? = if off + k ≤ j ∧ j < off + k + l.length then l[j - (off + k)]? else c[j]? := by
  induction l with
  | nil => intro off k c _; refine ⟨rfl, fun j => ?_⟩; simp; omega
  | cons x l ih =>
    intro off k c hc
    simp only [List.length_cons] at hc
    have hs : (c.setIfInBounds (off + k) x).size = c.size := by simp
    obtain ⟨h1, h2⟩ := ih off (k + 1) (c.setIfInBounds (off + k) x) (by omega)
    simp only [List.zipIdx_cons, List.foldl_cons]
    refine ⟨h1.trans hs, fun j => ?_⟩
    rw [h2 j]
    simp only [List.length_cons]
    by_cases hj : off + (k + 1) ≤ j ∧ j < off + (k + 1) + l.length
    · rw [if_pos hj, if_pos (by omega)]
      have : j - (off + k) = (j - (off + (k + 1))) + 1 := by omega
      rw [this, List.getElem?_cons_succ]
    · rw [if_neg hj]
      by_cases e : j = off + k
      · subst e
        have hlt : off + k < c.size := by omega
        rw [if_pos (by omega)]
        simp [hlt]
      · rw [if_neg (by omega), Array.getElem?_setIfInBounds_ne (Ne.symm e)]

theorem fill_rel {place place' : Nat → Option (Nat × Nat)} (hp : ∀ i q, place i = some q → place' i = some q) : ∀ {ps qs : List (Nat × Value)}, PsRel ρ ps qs → ∀ {cs : List Value} {us : Array Value}, VsRel ρ cs us.toList →
    ∀ {cs' : List Value}, fillL place cs ps = some cs' → ∃ us', Instr.fill place' us qs = some us' ∧ VsRel ρ cs' us'.toList
  | _, _, .nil, cs, us, hv, cs', h => by
    simp only [fillL, Option.some.injEq] at h
    subst h
    exact ⟨us, rfl, hv⟩
  | _, _, .cons i x y l m hxy hlm, cs, us, hv, cs', h => by
    simp only [fillL] at h
    cases hpl : place i with
    | none => simp [hpl] at h
    | some q =>
      obtain ⟨off, size⟩ := q
      simp only [hpl] at h
      cases hb : Nat.beq (len (cellsL x)) size with
      | false => simp [hb] at h
      | true =>
        simp only [hb] at h
        cases ho : overAt cs off (cellsL x) with
        | none => simp [ho] at h
        | some c1 =>
          simp only [ho] at h
          have hsz : (cellsL x).length = size := by rw [← len_eq]; exact Nat.eq_of_beq_eq_true hb
          have hc := hxy.cells
          have hcl := hc.length
          have hus := hv.length
          obtain ⟨o1, o2, o3⟩ := overAt_some cs off _ c1 ho
          have hsize : y.cells.size = size := by simp at hcl; omega
          have hoff : off + size ≤ us.size ∨ size = 0 := by
            by_cases e : cellsL x = []
            · right; rw [← hsz, e]; rfl
            · left; rw [if_neg e] at o1; simp at hus; omega
          by_cases hz : size = 0
          · -- nothing is written
            have hc1 : c1 = cs := by
              apply List.ext_getElem?
              intro j
              rw [o3 j, if_neg (by omega)]
            subst hc1
            have hle : off ≤ us.size := by
              have := o1
              rw [show cellsL x = [] from List.eq_nil_of_length_eq_zero (by omega)] at this
              simp at this hus
              have hov : ∀ (l : List Value) (i : Nat) (q : List Value), overAt l i ([] : List Value) = some q → i ≤ l.length := by
                intro l
                induction l with
                | nil => intro i q hq; cases i <;> simp [overAt] at hq; omega
                | cons x l ih =>
                  intro i q hq
                  cases i with
                  | zero => omega
                  | succ i =>
                    simp only [overAt] at hq
                    cases hh : overAt l i ([] : List Value) with
                    | none => simp [hh] at hq
                    | some q' => have := ih i q' hh; simp; omega
              rw [show cellsL x = [] from List.eq_nil_of_length_eq_zero (by omega)] at ho
              have := hov _ _ _ ho
              omega
            obtain ⟨us', f1, f2⟩ := fill_rel hp hlm hv h
            refine ⟨us', ?_, f2⟩
            simp only [Instr.fill, hp _ _ hpl]
            rw [if_neg (by simp [hsize, hz]; omega)]
            have hyn : y.cells = #[] := by apply Array.eq_empty_of_size_eq_zero; omega
            have e0 : y.cells.zipIdx.foldl (fun cs (p : Value × Nat) => cs.setIfInBounds (off + p.2) p.1) us = us := by rw [← Array.foldl_toList, Array.toList_zipIdx, hyn]; rfl
            rw [← f1]
            congr 1
          · have hle : off + size ≤ us.size := hoff.resolve_right hz
            obtain ⟨g1, g2⟩ := foldl_set y.cells.toList off 0 us (by simp; omega)
            have hnew : VsRel ρ c1 ((y.cells.toList.zipIdx 0).foldl (fun cs (p : Value × Nat) => cs.setIfInBounds (off + p.2) p.1) us).toList := by
              refine VsRel.of_get _ _ (by simp only [Array.length_toList, g1, o2]; simpa using hus) fun j z hj => ?_
              rw [Array.getElem?_toList, g2 j]
              rw [o3 j] at hj
              simp only [Nat.add_zero, Array.length_toList]
              by_cases hc' : off ≤ j ∧ j < off + (cellsL x).length
              · rw [if_pos hc'] at hj
                rw [if_pos (by omega)]
                obtain ⟨u, q1, q2⟩ := hc.get _ _ hj
                exact ⟨u, q1, q2⟩
              · rw [if_neg hc'] at hj
                rw [if_neg (by omega)]
                obtain ⟨u, q1, q2⟩ := hv.get _ _ hj
                exact ⟨u, by simpa using q1, q2⟩
            obtain ⟨us', f1, f2⟩ := fill_rel hp hlm hnew h
            refine ⟨us', ?_, f2⟩
            simp only [Instr.fill, hp _ _ hpl]
            rw [if_neg (by simp [hsize]; omega)]
            rw [← f1]
            congr 1
            rw [← Array.foldl_toList, Array.toList_zipIdx]

theorem places_some : ∀ {fs : List Field} {pl : List (Nat × Nat)}, placesT P fs = some pl → fs.mapM (fun f => (P.info? f.type).map fun i => (f.offset, i.size)) = some pl
  | [], pl, h => by simp [placesT] at h; simp [h]
  | f :: fs, pl, h => by
    simp only [placesT] at h
    cases hs : sizeT P f.type with
    | none => simp [hs] at h
    | some n =>
      cases hp : placesT P fs with
      | none => simp [hs, hp] at h
      | some q =>
        simp only [hs, hp, Option.some.injEq] at h
        unfold sizeT at hs
        cases hi : P.info? f.type with
        | none => simp [hi] at hs
        | some i =>
          simp [hi] at hs
          simp [List.mapM_cons, hi, places_some hp, ← h, hs]

theorem zero_cells {z : Value} (hz : pureV 12 z = true) : VsRel ρ (cellsL z) z.cells.toList := (pure_rel ρ _ _ hz).cells

theorem parts_arr (ps : Array (Nat × Operand)) (f : Operand → Value) : (ps.map fun (i, x) => (i, f x)).toList = ps.toList.map fun p => (p.1, f p.2) := by
  rw [Array.toList_map]

/-! Whole numbers. -/
theorem kindEq_eq {j k : IntKind} (h : kindEq j k = true) : j = k := by cases j <;> cases k <;> simp_all [kindEq]
theorem kindEq_false {j k : IntKind} (h : kindEq j k = false) : j ≠ k := by cases j <;> cases k <;> simp_all [kindEq]

theorem ieq_eq (a b : Int) : ieq a b = (a == b) := by
  cases a with
  | ofNat m => cases b with
    | ofNat n =>
      simp only [ieq]
      by_cases h : m = n
      · subst h; simp
      · have : Nat.beq m n = false := by cases hb : Nat.beq m n with
          | false => rfl
          | true => exact absurd (Nat.eq_of_beq_eq_true hb) h
        rw [this]
        have h2 : ¬ (Int.ofNat m = Int.ofNat n) := fun e => h (Int.ofNat.inj e)
        simp [h2] <;> omega
    | negSucc n =>
      have h2 : ¬ (Int.ofNat m = Int.negSucc n) := by intro e; cases e
      simp [ieq, h2] <;> omega
  | negSucc m => cases b with
    | ofNat n =>
      have h2 : ¬ (Int.negSucc m = Int.ofNat n) := by intro e; cases e
      simp [ieq, h2] <;> omega
    | negSucc n =>
      simp only [ieq]
      by_cases h : m = n
      · subst h; simp
      · have : Nat.beq m n = false := by cases hb : Nat.beq m n with
          | false => rfl
          | true => exact absurd (Nat.eq_of_beq_eq_true hb) h
        rw [this]
        have h2 : ¬ (Int.negSucc m = Int.negSucc n) := fun e => h (Int.negSucc.inj e)
        simp [h2] <;> omega

theorem ble_dec (m n : Nat) : Nat.ble m n = decide (m ≤ n) := by
  by_cases h : m ≤ n
  · rw [Nat.ble_eq_true_of_le h]; simp [h]
  · cases hb : Nat.ble m n with
    | false => simp [h]
    | true => exact absurd (Nat.le_of_ble_eq_true hb) h

theorem blt_dec (m n : Nat) : Nat.blt m n = decide (m < n) := by
  show Nat.ble (m + 1) n = _
  rw [ble_dec]
  simp [Nat.lt_iff_add_one_le]

theorem ile_eq (a b : Int) : ile a b = decide (a ≤ b) := by
  cases a with
  | ofNat m => cases b with
    | ofNat n => simp only [ile, ble_dec]; rw [decide_eq_decide]; simp
    | negSucc n => simp only [ile]; symm; simp; omega
  | negSucc m => cases b with
    | ofNat n => simp only [ile]; symm; simp; omega
    | negSucc n => simp only [ile, ble_dec]; rw [decide_eq_decide]; omega

theorem notB_eq (b : Bool) : notB b = !b := by cases b <;> rfl

theorem umod_eq (M : Nat) (hM : 0 < M) (n : Int) : ((umod M n : Nat) : Int) = n % (M : Int) := by
  cases n with
  | ofNat m => simp [umod]; rfl
  | negSucc m =>
    have hlt : m % M < M := Nat.mod_lt _ hM
    have h1 : (umod M (Int.negSucc m)) = M - 1 - m % M := rfl
    rw [h1]
    have h2 : Int.negSucc m = -((m : Int) + 1) := rfl
    rw [h2]
    have h3 : ((M - 1 - m % M : Nat) : Int) = (M : Int) - 1 - ((m % M : Nat) : Int) := by omega
    rw [h3]
    have hm : (m : Int) = (M : Int) * ((m / M : Nat) : Int) + ((m % M : Nat) : Int) := by
      have := Nat.div_add_mod m M
      exact_mod_cast this.symm
    have h4 : -((m : Int) + 1) = ((M : Int) - 1 - ((m % M : Nat) : Int)) + (M : Int) * (-(((m / M : Nat) : Int) + 1)) := by
      rw [hm]
      have e1 : (((M : Int) * ((m / M : Nat) : Int) + ((m % M : Nat) : Int)).toNat % M) = m % M := by
        rw [← hm]; simp
      grind
    rw [h4, Int.add_mul_emod_self_left, Int.emod_eq_of_lt (by omega) (by omega)]

theorem umod_lt (M : Nat) (hM : 0 < M) (n : Int) : umod M n < M := by
  cases n with
  | ofNat m => exact Nat.mod_lt _ hM
  | negSucc m => have : umod M (Int.negSucc m) = M - 1 - m % M := rfl; omega

theorem sgn_eq (H M u : Nat) (hu : u < M) : sgn H M u = if (H : Int) ≤ (u : Int) then (u : Int) - M else (u : Int) := by
  unfold sgn
  cases hb : Nat.blt u H with
  | true =>
    have : u < H := by rw [blt_dec] at hb; simpa using hb
    rw [if_neg (by omega)]
    rfl
  | false =>
    have : ¬ u < H := by rw [blt_dec] at hb; simpa using hb
    rw [if_pos (by omega)]
    show Int.negSucc (M - 1 - u) = _
    rw [Int.negSucc_eq]
    omega

theorem wrapF_eq (k : IntKind) (n : Int) : wrapF k n = k.wrap n := by
  cases k <;> simp only [wrapF, IntKind.wrap, IntKind.signed, IntKind.bits, Bool.true_and, Bool.false_and, Bool.false_eq_true, if_false]
  case u8 => exact umod_eq 256 (by omega) n
  case u16 => exact umod_eq 65536 (by omega) n
  case u32 => exact umod_eq 4294967296 (by omega) n
  case u64 => exact umod_eq 18446744073709551616 (by omega) n
  case i8 =>
    rw [sgn_eq _ _ _ (umod_lt 256 (by omega) n), umod_eq 256 (by omega) n]
    simp
  case i16 =>
    rw [sgn_eq _ _ _ (umod_lt 65536 (by omega) n), umod_eq 65536 (by omega) n]
    simp
  case i32 =>
    rw [sgn_eq _ _ _ (umod_lt 4294967296 (by omega) n), umod_eq 4294967296 (by omega) n]
    simp
  case i64 =>
    rw [sgn_eq _ _ _ (umod_lt 18446744073709551616 (by omega) n), umod_eq 18446744073709551616 (by omega) n]
    simp

end
end Go.Rf
