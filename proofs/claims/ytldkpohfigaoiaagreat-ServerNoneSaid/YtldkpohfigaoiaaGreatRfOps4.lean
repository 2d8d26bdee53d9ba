/- Each operation but a call, fourth part: equality, parts of values, addresses, slices. -/
import Derived.Test.YtldkpohfigaoiaaGreatRfOps3
import Derived.Laws.BytesString
namespace Go.Rf
open Go Go.RowKit

section
variable {P : Program} {B : Nat} {ρ : Ren} {s s' : AS} {w : World} {r : Tr Value} {a : Act} {v : Value}

theorem run_part {t : TypeId} {b : Bool} {n off : Nat} {xs : Array Value} {x : Value} (ha : aggT P t = some b) (hs : sizeT P t = some n)
    (hx : match b with | true => ∃ l, seg xs.toList off n = some l ∧ x = .agg ⟨l⟩ | false => nth xs.toList off = some x) : (part t xs off).run P w = .ok x w := by
  cases b with
  | true =>
    obtain ⟨l, hl, rfl⟩ := hx
    obtain ⟨h1, h2, h3⟩ := seg_some hl
    simp only [part, Sem.run_bind, run_agg ha, Result.andThen_ok, if_true, run_size hs, Sem.run_pure]
    congr 2
    apply Array.ext'
    rw [h1, Array.toList_extract]
    simp [List.extract_eq_take_drop]
  | false =>
    simp only [] at hx
    rw [nth_eq] at hx
    have hx' : xs[off]? = some x := by simpa using hx
    simp [part, run_agg ha, hx']

theorem VsRel.seg {l m : List Value} (h : VsRel ρ l m) {i n : Nat} {r : List Value} (hs : seg l i n = some r) : ∃ q, Rf.seg m i n = some q ∧ VsRel ρ r q := by
  obtain ⟨h1, h2, h3⟩ := seg_some hs
  have hl := h.length
  have take?_of : ∀ (n : Nat) (l : List Value), n ≤ l.length → take? n l = some (l.take n) := by
    intro n
    induction n with
    | zero => intro l _; simp [take?]
    | succ n ih =>
      intro l hn
      cases l with
      | nil => simp at hn
      | cons x l => simp only [take?, ih l (by simpa using hn), List.take_succ_cons]
  have drop?_of : ∀ (n : Nat) (l : List Value), n ≤ l.length → drop? n l = some (l.drop n) := by
    intro n
    induction n with
    | zero => intro l _; simp [drop?]
    | succ n ih =>
      intro l hn
      cases l with
      | nil => simp at hn
      | cons x l => simp only [drop?, ih l (by simpa using hn), List.drop_succ_cons]
  refine ⟨(m.drop i).take n, ?_, ?_⟩
  · unfold Rf.seg
    rw [drop?_of i m (by omega)]
    simp only []
    rw [take?_of n _ (by simp; omega)]
  · rw [h1]
    exact (h.drop i).take n

/-! Equality. -/
set_option maxHeartbeats 4000000 in
theorem eq_rel (hR : Rel B ρ s w) : ∀ (d : Nat) (ty : TypeId) (t : EqD), eqD P d ty = some t → ∀ (n dd : Nat) (x y x' y' : Value) (b : Bool), VRel ρ x x' → VRel ρ y y' → eqV s n t x y = some b → d ≤ dd →
    (Op.equalIn dd ty x' y').run P w = .ok b w := by
  intro d
  induction d with
  | zero => intro ty t h; simp [eqD] at h
  | succ d ih =>
    intro ty t h n dd x y x' y' b hx hy he hd
    obtain ⟨dd, rfl⟩ : ∃ k, dd = k + 1 := ⟨dd - 1, by omega⟩
    cases n with
    | zero => simp [eqV] at he
    | succ n =>
    simp only [eqD] at h
    cases hu : P.underlying ty with
    | none => simp [hu] at h
    | some ud =>
      cases ud <;> simp only [hu] at h <;> try (cases h; done)
      case bool =>
        cases h
        cases hx <;> cases hy <;> simp only [eqV] at he <;> cases he
        rename_i p q
        simp [Op.equalIn, run_und hu]
        cases p <;> cases q <;> rfl
      case int k =>
        cases h
        cases hx <;> cases hy <;> simp only [eqV] at he <;> try (cases he; done)
        rename_i j p j' q
        split at he
        · rename_i hk
          cases he
          have := kindEq_eq hk
          subst this
          simp [Op.equalIn, run_und hu, ieq_eq]
        · cases he
      case string =>
        cases h
        cases hx <;> cases hy <;> simp only [eqV] at he <;> cases he
        rename_i p q
        simp [Op.equalIn, run_und hu, beqL_eq, ← toList_bytesL, ← beq_toListBytes]
      case pointer e =>
        cases hs : sizeT P e with
        | none => simp [hs] at h
        | some m =>
          simp only [hs] at h
          split at h
          · cases h
          · rename_i hm
            cases h
            cases hx <;> cases hy <;> simp only [eqV] at he <;> try (cases he; done)
            · cases he; simp [Op.equalIn, run_und hu]
            · cases he; simp [Op.equalIn, run_und hu]
            · cases he; simp [Op.equalIn, run_und hu]
            · rename_i n1 i1 t1 h1 n2 i2 t2 h2
              split at he
              · rename_i hb1 hb2
                obtain ⟨c1, f1, g1, _, _, _, _, _, p1⟩ := hR.row hb1 h1
                obtain ⟨c2, f2, g2, _, _, _, _, _, p2⟩ := hR.row hb2 h2
                have e1 := p1 rfl
                have e2 := p2 rfl
                subst e1 e2
                have hrun : (Op.equalIn (dd + 1) ty (.pointer (some ⟨t1.blk, i1 + t1.sh, none⟩)) (.pointer (some ⟨t2.blk, i2 + t2.sh, none⟩))).run P w = (sameAddr ⟨t1.blk, i1 + t1.sh, none⟩ ⟨t2.blk, i2 + t2.sh, none⟩).run P w := by
                  simp [Op.equalIn, run_und hu, run_size hs, hm]
                rw [hrun]
                split at he
                · rename_i hbn
                  cases he
                  have hnn : n1 = n2 := Nat.eq_of_beq_eq_true hbn
                  subst hnn
                  rw [h1] at h2
                  cases h2
                  by_cases hi : i1 = i2
                  · subst hi
                    rw [run_sameAddr_same]
                    simp
                  · have : Nat.beq i1 i2 = false := by cases hb : Nat.beq i1 i2 with
                      | true => exact absurd (Nat.eq_of_beq_eq_true hb) hi
                      | false => rfl
                    rw [this]
                    exact run_sameAddr_other w (by intro e; injection e; omega) g1 g2
                · rename_i hbn
                  cases he
                  have hnn : n1 ≠ n2 := by intro e; subst e; simp at hbn
                  refine run_sameAddr_other w (fun e => ?_) g1 g2
                  injection e with e1 _ _
                  exact hnn (hR.inj _ _ _ _ _ _ hb1 hb2 h1 h2 e1)
              · cases he
      case slice e =>
        cases h
        cases hx <;> cases hy <;> simp only [eqV] at he <;> cases he
        all_goals simp [Op.equalIn, run_und hu]
      case map k e =>
        cases h
        cases hx <;> cases hy <;> simp only [eqV] at he <;> cases he
        all_goals simp [Op.equalIn, run_und hu]
      case func p q z =>
        cases h
        cases hx <;> cases hy <;> simp only [eqV] at he <;> cases he
        all_goals simp [Op.equalIn, run_und hu]
      case struct fs =>
        split at h
        · cases h
        · rename_i hst
          cases hf : fieldsD (eqD P d) P fs.toList with
          | none => simp [hf] at h
          | some l =>
            simp only [hf, Option.some.injEq] at h
            subst h
            cases hx <;> cases hy <;> simp only [eqV] at he <;> try (cases he; done)
            rename_i xs xs' hxs ys ys' hys
            have hfo : P.fieldsOf ty = fs := by simp [Program.fieldsOf, hu]
            rw [run_equalIn_struct (P := P) (w := w) dd ty xs' ys' (by rw [hfo]; exact hu) (by simpa using hst), hfo]
            generalize fs.toList = fl at hf
            clear hfo hst hu
            induction fl generalizing l b with
            | nil =>
              simp only [fieldsD, Option.some.injEq] at hf
              subst hf
              simp only [structEq, Option.some.injEq] at he
              subst he
              simp [Op.eqFields]
            | cons f fl ihf =>
              simp only [fieldsD] at hf
              cases hr : fieldsD (eqD P d) P fl with
              | none => simp [hr] at hf
              | some r =>
                simp only [hr] at hf
                split at hf
                · rename_i hn
                  cases hf
                  simp only [Op.eqFields, hn, ne_eq, not_true_eq_false, if_false]
                  exact ihf _ _ he hr
                · rename_i hn
                  cases h1 : sizeT P f.type with
                  | none => simp [h1] at hf
                  | some k =>
                    cases h2 : aggT P f.type with
                    | none => simp [h1, h2] at hf
                    | some g =>
                      cases h3 : eqD P d f.type with
                      | none => simp [h1, h2, h3] at hf
                      | some q =>
                        simp only [h1, h2, h3, Option.some.injEq] at hf
                        subst hf
                        simp only [structEq] at he
                        simp only [Op.eqFields, ne_eq, hn, not_false_eq_true, if_true]
                        cases g with
                        | true =>
                          simp only [] at he
                          cases e1 : seg xs.toList f.offset k with
                          | none => simp [e1] at he
                          | some p1 =>
                            cases e2 : seg ys.toList f.offset k with
                            | none => simp [e1, e2] at he
                            | some p2 =>
                              simp only [e1, e2] at he
                              obtain ⟨q1, a1, b1⟩ := hxs.seg e1
                              obtain ⟨q2, a2, b2⟩ := hys.seg e2
                              rw [Sem.run_bind, run_part h2 h1 ⟨q1, a1, rfl⟩, Result.andThen_ok, Sem.run_bind, run_part h2 h1 ⟨q2, a2, rfl⟩, Result.andThen_ok]
                              cases e3 : eqV s n q (.agg ⟨p1⟩) (.agg ⟨p2⟩) with
                              | none => simp [e3] at he
                              | some c =>
                                have hrec := ih f.type q h3 n dd (.agg ⟨p1⟩) (.agg ⟨p2⟩) (.agg ⟨q1⟩) (.agg ⟨q2⟩) c (.agg _ _ b1) (.agg _ _ b2) e3 (by omega)
                                rw [Sem.run_bind, hrec, Result.andThen_ok]
                                cases c with
                                | true => simp only [e3] at he; simpa using ihf _ _ he hr
                                | false => simp only [e3, Option.some.injEq] at he; subst he; simp
                        | false =>
                          simp only [] at he
                          cases e1 : nth xs.toList f.offset with
                          | none => simp [e1] at he
                          | some p1 =>
                            cases e2 : nth ys.toList f.offset with
                            | none => simp [e1, e2] at he
                            | some p2 =>
                              simp only [e1, e2] at he
                              rw [nth_eq] at e1 e2
                              obtain ⟨q1, a1, b1⟩ := hxs.get _ _ e1
                              obtain ⟨q2, a2, b2⟩ := hys.get _ _ e2
                              rw [Sem.run_bind, run_part h2 h1 (show nth xs'.toList f.offset = some q1 by rw [nth_eq]; exact a1), Result.andThen_ok, Sem.run_bind, run_part h2 h1 (show nth ys'.toList f.offset = some q2 by rw [nth_eq]; exact a2), Result.andThen_ok]
                              cases e3 : eqV s n q p1 p2 with
                              | none => simp [e3] at he
                              | some c =>
                                have hrec := ih f.type q h3 n dd p1 p2 q1 q2 c b1 b2 e3 (by omega)
                                rw [Sem.run_bind, hrec, Result.andThen_ok]
                                cases c with
                                | true => simp only [e3] at he; simpa using ihf _ _ he hr
                                | false => simp only [e3, Option.some.injEq] at he; subst he; simp

end
end Go.Rf
