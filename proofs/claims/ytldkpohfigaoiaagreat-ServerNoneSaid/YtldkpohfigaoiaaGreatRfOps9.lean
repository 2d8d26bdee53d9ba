/- Each operation but a call, ninth part: append. -/
import Derived.Test.YtldkpohfigaoiaaGreatRfOps8
namespace Go.Rf
open Go Go.RowKit

section
variable {P : Program} {B : Nat} {ρ : Ren} {s s' : AS} {w : World} {r : Tr Value} {a : Act} {v : Value}

set_option maxHeartbeats 4000000 in
theorem app_fit {as : Array TypeId} {ty t t2 e : TypeId} {d2 : TypeDesc} {size n cap k : Nat} {u : Value} {us : Array Value} {base : Option Addr} {w' : World} (h0 : as[0]? = some t) (h1 : as[1]? = some t2) (hu : P.underlying t = some (.slice e))
    (hu2 : P.underlying t2 = some d2) (hd2 : ∀ k, d2 ≠ .int k) (hs : sizeT P e = some size) (hlen : (Builtin.lenOf u).run P w = .ok k w) (hsrc : (Builtin.firstCells size k u).run P w = .ok us w) (hle : n + k ≤ cap)
    (hst : (match base with | some a => storeCells (a.add (n * size)) us.toList | none => pure () : Sem Unit).run P w = .ok () w') :
    (Builtin.append_ as ty #[.slice base n cap, u]).run P w = .ok (.slice base (n + k) cap) w' := by
  cases d2 <;> first
    | (exact absurd rfl (hd2 _))
    | (unfold Builtin.append_
       simp only [h0, h1, List.getElem?_toArray, List.getElem?_cons_zero, List.getElem?_cons_succ, Sem.run_bind, run_und hu, run_und hu2, run_size hs, Result.andThen_ok, hlen, Sem.run_pure, Bool.false_eq_true, if_false]
       rw [if_pos hle]
       simp only [Bool.not_false, if_true, Sem.run_bind, hsrc, Result.andThen_ok]
       cases base with
       | none => cases hst; rfl
       | some b => simp only [] at hst; simp only [Sem.run_bind, hst, Result.andThen_ok]; rfl
       done)

set_option maxHeartbeats 4000000 in
theorem app_grow {as : Array TypeId} {ty t t2 e : TypeId} {d2 : TypeDesc} {n cap k : Nat} {u y : Value} {us old : Array Value} {base : Option Addr} {i : TypeInfo} (h0 : as[0]? = some t) (h1 : as[1]? = some t2) (hu : P.underlying t = some (.slice e))
    (hu2 : P.underlying t2 = some d2) (hd2 : ∀ k, d2 ≠ .int k) (hi : P.info? e = some i) (hz : (zeroValue e).run P w.drew = .ok y w.drew) (hlen : (Builtin.lenOf u).run P w = .ok k w)
    (hsrc : (Builtin.firstCells i.size k u).run P w.drew = .ok us w.drew) (hold : (Builtin.firstCells i.size n (.slice base n cap)).run P w.drew = .ok old w.drew) (hlt : ¬ n + k ≤ cap) (hb : (n + k) * 2 * i.bytes ≤ 140737488355328) (hm : n + k ≤ 4611686018427387904) :
    ∃ c, n + k ≤ c ∧ (Builtin.append_ as ty #[.slice base n cap, u]).run P w = .ok (.slice (some ⟨w.heap.size, 0, none⟩) (n + k) c) (w.drew.alloc (.cells (old ++ us ++ Builtin.zeroCells y.cells (c - (n + k))) e)) := by
  have hs : sizeT P e = some i.size := by simp [sizeT, hi]
  refine ⟨(Question.appendCap (n + k) cap e).cut (w.tape w.drawn (.appendCap (n + k) cap e)), by simp [Question.cut], ?_⟩
  have hmax : ¬ (((n + k : Nat) : Int) > IntKind.i64.max ∧ (false = true ∨ i.bytes = 0)) := by
    rintro ⟨hh, _⟩
    have e1 : IntKind.i64.max = 9223372036854775807 := by decide
    rw [e1] at hh
    omega
  have hcap : ¬ (Builtin.nextslicecap (n + k) cap * i.bytes > 2 ^ 48) := by
    have h2 := nextcap_le (n + k) cap (by omega)
    have h3 : Builtin.nextslicecap (n + k) cap * i.bytes ≤ 2 * (n + k) * i.bytes := Nat.mul_le_mul_right _ h2
    have h4 : 2 * (n + k) * i.bytes = (n + k) * 2 * i.bytes := by rw [Nat.mul_comm 2]
    omega
  have hask : ∀ (b : Nat) (w : World), (askRoom b).run P w = .ok () w := by
    intro b w
    unfold askRoom
    split
    · rfl
    · rfl
  generalize hcc : (Question.appendCap (n + k) cap e).cut (w.tape w.drawn (.appendCap (n + k) cap e)) = c
  have hch : (choose (.appendCap (n + k) cap e)).run P w = .ok c w.drew := by
    rw [run_choose_drew, if_neg (by simp [Question.forced]), hcc]
  cases d2 <;> first
    | (exact absurd rfl (hd2 _))
    | (unfold Builtin.append_
       simp only [h0, h1, List.getElem?_toArray, List.getElem?_cons_zero, List.getElem?_cons_succ, Sem.run_bind, run_und hu, run_und hu2, run_size hs, Result.andThen_ok, hlen, Sem.run_pure, Bool.false_eq_true, if_false]
       rw [if_neg hlt]
       simp only [Sem.run_bind, Sem.run_pure, Result.andThen_ok, typeInfo, run_program, hi]
       rw [if_neg (by simpa using hmax)]
       simp only [Sem.run_bind, Sem.run_pure, Result.andThen_ok, run_program, hi]
       rw [if_neg hcap]
       simp only [Sem.run_bind, Sem.run_pure, Result.andThen_ok, hch, hask, hold, hsrc, hz, run_program, hi]
       simp only [Bool.not_false, if_true, hsrc, hz, Sem.run_bind, Sem.run_pure, Result.andThen_ok]
       simp [newRow]
       done)

/-- What is appended, and where: all that the types say. -/
structure AppAt (P : Program) (as : Array TypeId) (e : TypeId) (i : TypeInfo) : Prop where
  h : ∃ t t2 d2 z, as[0]? = some t ∧ as[1]? = some t2 ∧ P.underlying t = some (.slice e) ∧ P.underlying t2 = some d2 ∧ (∀ k, d2 ≠ .int k) ∧ zeroCellsT P e = some z ∧ P.info? e = some i

theorem run_old0 {size : Nat} {b : Option Addr} {c : Nat} {w : World} : (Builtin.firstCells size 0 (.slice b 0 c)).run P w = .ok #[] w := by
  cases b <;> simp [Builtin.firstCells, loadCells, loadCellsFrom]

/-- The new row, when the model makes one. -/
theorem grown {as : Array TypeId} {ty e : TypeId} {i : TypeInfo} {n cap k : Nat} {u : Value} {base : Option Addr} {us old : Array Value} {csO csN : List Value} {s1 : AS} (hA : AppAt P as e i) (hR : Rel B ρ s w) (hroom : s.roomy = true)
    (hs1 : Nx B ρ s w.drew ρ s1 w.drew) (hn1 : s1.next = s.next) (hlen : (Builtin.lenOf u).run P w = .ok k w) (hsrc : (Builtin.firstCells i.size k u).run P w.drew = .ok us w.drew) (hus : VsRel ρ csN us.toList) (hcN : csN.length = k * i.size)
    (hold : (Builtin.firstCells i.size n (.slice base n cap)).run P w.drew = .ok old w.drew) (ho : VsRel ρ csO old.toList) (hcO : csO.length = n * i.size) (hlt : ¬ n + k ≤ cap) (hb : (n + k) * 2 * i.bytes ≤ 140737488355328) (hm : n + k ≤ 4611686018427387904) :
    Gives P B ρ s w (do pure (Next.value (← Builtin.append_ as ty #[.slice base n cap, u]))) (.slice (some ⟨s.next, 0, none⟩) (n + k) (n + k)) (s1.new (.row (csO ++ csN) e false i.size)) := by
  obtain ⟨t, t2, d2, z, h0, h1, hu, hu2, hd2, hz, hi⟩ := hA.h
  obtain ⟨y0, i0, z1, z2, z3, rfl, z4, z5, z6, z7⟩ := zeroCells_some hz
  rw [hi] at z1
  cases z1
  have hzs : y0.cells.size = i.size := by
    have := (zero_cells (ρ := ρ) z6).length
    simp at this
    omega
  obtain ⟨c, hc, hrun⟩ := app_grow (ty := ty) h0 h1 hu hu2 hd2 hi (zeroT_some (w := w.drew) z3).1 hlen hsrc hold hlt hb hm
  have hroom1 : s1.roomy = true := by unfold AS.roomy; rw [hn1]; exact hroom
  have hdraw : Nx B ρ s w ρ s w.drew := Nx.draw hR rfl rfl rfl rfl
  have hnew := Nx.new (t := ⟨w.heap.size, 0, c * i.size, i.size⟩) (o := .row (csO ++ csN) e false i.size) (o' := .cells (old ++ us ++ Builtin.zeroCells y0.cells (c - (n + k))) e) (w' := w.drew.alloc (.cells (old ++ us ++ Builtin.zeroCells y0.cells (c - (n + k))) e)) hs1.rel hroom1 rfl rfl rfl rfl rfl ?_
  · refine ⟨_, _, _, _, run_v hrun, .inl rfl, ?_, hdraw.trans (hs1.trans hnew)⟩
    rw [hn1]
    have := VRel.slice (ρ := bind1 ρ s.next ⟨w.heap.size, 0, c * i.size, i.size⟩) s.next 0 (n + k) (n + k) _ c (bind1_same _ _ _) (.inr ⟨hc, z5, by simp⟩)
    simpa using this
  · have hx : Ext ρ (bind1 ρ s1.next ⟨w.heap.size, 0, c * i.size, i.size⟩) := hs1.rel.ext1 _
    have hol := ho.length
    have hul := hus.length
    have hos : old.size = n * i.size := by simp at hol; omega
    have hss : us.size = k * i.size := by simp at hul; omega
    have hle : (n + k) * i.size ≤ c * i.size := Nat.mul_le_mul_right _ hc
    have hadd : (n + k) * i.size = n * i.size + k * i.size := Nat.add_mul _ _ _
    refine ⟨rfl, rfl, by show (csO ++ csN).length ≤ c * i.size; rw [List.length_append]; omega, ?_, fun j v hj => ?_, fun j _ _ => by simp, fun hh => by cases hh⟩
    · simp only [Array.size_append, Builtin.zeroCells, Array.size_map, Array.size_range, hzs, Nat.zero_add]
      have : (c - (n + k)) * i.size = c * i.size - (n + k) * i.size := Nat.sub_mul _ _ _
      omega
    · have hjl : j < csO.length + csN.length := by have := (List.getElem?_eq_some_iff.1 hj).1; simpa using this
      obtain ⟨u', q1, q2⟩ := (ho.append hus).get j v hj
      refine ⟨u', ?_, q2.mono hx⟩
      have e1 : (old ++ us)[j]? = some u' := by
        rw [← q1]
        simp [← Array.getElem?_toList]
      rw [Nat.add_zero, Array.getElem?_append_left (by simp; omega)]
      exact e1

theorem g_app {as : Array TypeId} {ty e : TypeId} {i : TypeInfo} {d x d' u : Value} (hA : AppAt P as e i) (hR : Rel B ρ s w) (hd : VRel ρ d d') (hx : VRel ρ x u) (h : appV s e i.size i.bytes d x = some (v, s')) :
    Gives P B ρ s w (do pure (Next.value (← Builtin.append_ as ty #[d', u]))) v s' := by
  obtain ⟨t, t2, d2, z, h0, h1, hu, hu2, hd2, hz, hi⟩ := hA.h
  obtain ⟨y0, i0, z1, z2, z3, rfl, z4, z5, z6, z7⟩ := zeroCells_some hz
  rw [hi] at z1
  cases z1
  unfold appV at h
  split at h
  · rename_i base n cap
    split at h
    · rename_i k hk
      have hlen := lenV_run (P := P) (w := w) hx hk
      split at h
      · rename_i csN hcs
        have hlenN : csN.length = k * i.size := by
          unfold srcCells at hcs
          split at hcs
          · split at hcs
            · cases hcs; simp
            · cases hcs
          · split at hcs
            · split at hcs
              · obtain ⟨_, _, q⟩ := seg_some hcs; exact q
              · cases hcs
            · cases hcs
          · split at hcs
            · rename_i hs1
              have hs1 : i.size = 1 := Nat.eq_of_beq_eq_true hs1
              obtain ⟨q1, q2⟩ := take?_some _ _ _ hcs
              rw [q1, List.length_take, hs1]
              omega
            · cases hcs
          · cases hcs
        obtain ⟨us, f1, f2⟩ := srcCells_run (P := P) hR hx hcs
        have hRd : Rel B ρ s w.drew := hR.of_heap rfl
        obtain ⟨us', f1', f2'⟩ := srcCells_run (P := P) hRd hx hcs
        split at h
        · rename_i hp
          split at h
          · rename_i hle
            have hle : n + k ≤ cap := Nat.le_of_ble_eq_true hle
            unfold fitV at h
            split at h
            · split at h
              · cases h
                cases hd
                exact .here hR (run_v (app_fit h0 h1 hu hu2 hd2 z7 hlen f1 hle rfl)) (.slice0 _ _)
              · cases h
            · rename_i b o
              split at h
              · rename_i cs e' pl z ho
                split at h
                · rename_i cs' hov
                  cases h
                  cases hd with
                  | slice _ _ _ _ tg c' hn hc =>
                    obtain ⟨w', g1, g2⟩ := store_row (P := P) hR ho hn f2 hp hov
                    refine ⟨ρ, _, w', _, run_v (app_fit h0 h1 hu hu2 hd2 z7 hlen f1 (cap := c') (by rcases hc with hc | hc <;> omega) ?_), .inl rfl, .slice _ _ _ _ _ _ hn hc, g2⟩
                    simp only [add_addr]
                    rw [show o + tg.sh + n * i.size = o + n * i.size + tg.sh by omega]
                    exact g1
                  | sliceE _ _ j tg hn =>
                    have hk0 : k = 0 := by omega
                    subst hk0
                    have hcs0 : csN = [] := List.eq_nil_of_length_eq_zero (by rw [hlenN]; exact Nat.zero_mul _)
                    subst hcs0
                    have hus : us = #[] := by
                      apply Array.ext'
                      have := f2.length
                      exact List.eq_nil_of_length_eq_zero (by simpa using this)
                    subst hus
                    obtain ⟨w', g1, g2⟩ := store_row (P := P) hR ho hn f2 hp hov
                    have hw' : w' = w := by simp [storeCells] at g1; exact g1.symm
                    subst hw'
                    refine ⟨ρ, _, w', _, run_v (app_fit (w' := w') h0 h1 hu hu2 hd2 z7 hlen f1 (Nat.le_refl 0) ?_), .inl rfl, .sliceE _ _ _ _ hn, g2⟩
                    simp [storeCells]
                · cases h
              · cases h
            · cases h
          · rename_i hlt
            have hlt : ¬ n + k ≤ cap := by intro hh; rw [show Nat.ble (n.add k) cap = decide (n + k ≤ cap) from ble_dec _ _] at hlt; simp [hh] at hlt
            split at h
            · rename_i hb
              have hb : (n + k) * 2 * i.bytes ≤ 140737488355328 := Nat.le_of_ble_eq_true hb
              split at h
              · rename_i hm
                have hm : n + k ≤ 4611686018427387904 := Nat.le_of_ble_eq_true hm
                split at h
                · rename_i hroom
                  unfold growV at h
                  split at h
                  · split at h
                    · cases h
                      cases hd
                      have := grown (ty := ty) (base := none) (csO := []) (old := #[]) hA hR hroom (Nx.refl hRd) rfl hlen f1' f2' hlenN run_old0 .nil (by simp) hlt hb hm
                      simpa using this
                    · cases h
                  · rename_i b o
                    split at h
                    · rename_i hf
                      split at h
                      · rename_i cs e' pl z ho
                        split at h
                        · rename_i hee
                          have hee : e = e' := Nat.eq_of_beq_eq_true hee
                          subst hee
                          split at h
                          · rename_i hzo
                            have hzo := zOk_some hzo
                            split at h
                            · rename_i csO hsg
                              cases h
                              obtain ⟨s1, s2, s3⟩ := seg_some hsg
                              have s3 : csO.length = n * i.size := s3
                              have hkill : Nx B ρ s w.drew ρ (s.kill b) w.drew := Nx.kill hRd hf
                              cases hd with
                              | sliceE _ _ j tg hn =>
                                have hO : csO = [] := List.eq_nil_of_length_eq_zero (by rw [s3]; exact Nat.zero_mul _)
                                subst hO
                                exact grown (ty := ty) (csO := []) (old := #[]) (s1 := s.kill b) hA hR hroom hkill rfl hlen f1' f2' hlenN run_old0 .nil (by simp) hlt hb hm
                              | slice _ _ _ _ tg c' hn hc =>
                                by_cases hfit : n + k ≤ c'
                                · -- in place
                                  have hloose : cap ≤ c' ∧ 0 < tg.esz ∧ o + c' * tg.esz ≤ tg.room := by
                                    rcases hc with hc | hc
                                    · omega
                                    · exact hc
                                  obtain ⟨c, fz, r1, r2, r3, r4, r5, r6, r7⟩ := hR.row ho hn
                                  have hes : tg.esz = i.size := by rcases hzo with hzo | hzo <;> omega
                                  rw [hes] at hloose
                                  obtain ⟨l1, l2, l3⟩ := hloose
                                  have hul := f2.length
                                  have hus : us.toList.length = k * i.size := by omega
                                  have hm1 : (n + k) * i.size ≤ c' * i.size := Nat.mul_le_mul_right _ hfit
                                  have hadd : (n + k) * i.size = n * i.size + k * i.size := Nat.add_mul _ _ _
                                  have hend : o + tg.sh + n * i.size + us.toList.length ≤ c.size := by omega
                                  have hst := run_stores (P := P) (i := o + tg.sh + n * i.size) r1 hend (fun j hj => r6 _ (by omega) (by omega)) (f2.plain hp)
                                  obtain ⟨c2, a1, a2, a3, a4, a5, a6⟩ := heap_setCells w tg.blk us.toList (o + tg.sh + n * i.size) c e fz r1 hend
                                  refine ⟨_, _, _, _, run_v (app_fit (w' := w.setCells tg.blk (o + tg.sh + n * i.size) us.toList) h0 h1 hu hu2 hd2 z7 hlen f1 hfit ?_), .inl rfl, ?_,
                                    Nx.adopt (t' := ⟨tg.blk, o + tg.sh, tg.room - o, i.size⟩) (o' := .cells c2 e fz) hR hroom hf ho hn rfl a1 a4 a5 a6 ?_⟩
                                  · simp only [add_addr]
                                    exact hst
                                  · have := VRel.slice (ρ := bind1 ρ s.next ⟨tg.blk, o + tg.sh, tg.room - o, i.size⟩) s.next 0 (n + k) (n + k) _ c' (bind1_same _ _ _) (.inr ⟨hfit, z5, by show 0 + c' * i.size ≤ tg.room - o; omega⟩)
                                    simpa using this
                                  · have hx1 : Ext ρ (bind1 ρ s.next ⟨tg.blk, o + tg.sh, tg.room - o, i.size⟩) := hR.ext1 _
                                    have hlc : csO.length + csN.length = (n + k) * i.size := by omega
                                    refine ⟨rfl, rfl, ?_, ?_, fun j y hj => ?_, fun j hj1 hj2 => ?_, fun hh => by cases hh⟩
                                    · show (app csO csN).length ≤ tg.room - o
                                      rw [app_eq, List.length_append]
                                      omega
                                    · show o + tg.sh + (tg.room - o) ≤ c2.size
                                      rw [a2]
                                      omega
                                    · show ∃ u, c2[j + (o + tg.sh)]? = some u ∧ _
                                      rw [app_eq, List.getElem?_append] at hj
                                      rw [a3]
                                      split at hj
                                      · rename_i hjl
                                        rw [if_neg (by omega)]
                                        rw [seg_get hsg j (by show j < n * i.size; omega)] at hj
                                        obtain ⟨u', q1, q2⟩ := r5 _ _ hj
                                        exact ⟨u', by rw [← q1]; congr 1; omega, q2.mono hx1⟩
                                      · rename_i hjl
                                        have hjn := (List.getElem?_eq_some_iff.1 hj).1
                                        rw [if_pos (by omega)]
                                        obtain ⟨u', q1, q2⟩ := f2.get _ _ hj
                                        exact ⟨u', by rw [← q1]; congr 1; omega, q2.mono hx1⟩
                                    · have hj1 : o + tg.sh ≤ j := hj1
                                      have hj2 : j < o + tg.sh + (tg.room - o) := hj2
                                      exact r6 j (by omega) (by omega)
                                · -- a new row
                                  obtain ⟨old, g1, g2⟩ := loads (P := P) hRd ho hn hsg
                                  have hold : (Builtin.firstCells i.size n (.slice (some ⟨tg.blk, o + tg.sh, none⟩) n c')).run P w.drew = .ok old w.drew := g1
                                  have := grown (ty := ty) (s1 := s.kill b) (cap := c') hA hR hroom hkill rfl hlen f1' f2' hlenN hold g2 s3 hfit hb hm
                                  rw [app_eq]
                                  exact this
                            · cases h
                          · cases h
                        · cases h
                      · cases h
                    · cases h
                  · cases h
                · cases h
              · cases h
            · cases h
        · cases h
      · cases h
    · cases h
  · cases h

end
end Go.Rf
