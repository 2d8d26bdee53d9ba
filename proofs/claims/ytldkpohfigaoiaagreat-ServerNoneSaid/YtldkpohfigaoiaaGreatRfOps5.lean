/- Each operation but a call, fifth part: the operations one by one, without maps and without append and copy. -/
import Derived.Test.YtldkpohfigaoiaaGreatRfOps4
namespace Go.Rf
open Go Go.RowKit

section
variable {P : Program} {B : Nat} {ρ : Ren} {s s' : AS} {w : World} {r : Tr Value} {a : Act} {v : Value}

/-! Loads and stores. -/
theorem rowOf_some {n : Nat} {cs : List Value} (h : rowOf s n = some cs) : ∃ e pl z, s.obj n = some (.row cs e pl z) := by
  unfold rowOf at h
  split at h
  · rename_i e pl z ho; cases h; exact ⟨_, _, _, ho⟩
  · cases h

theorem g_ld1 {x u : Value} {t : TypeId} (hR : Rel B ρ s w) (ht : aggT P t = some false) (hx : VRel ρ x u) (h : ld1V s x = some (v, s')) : Quiet P ρ s w (do pure (Next.value (← Instr.loadAt t u))) v s' := by
  cases hx <;> simp only [ld1V] at h <;> try (cases h; done)
  rename_i n i tg hn
  split at h
  · rename_i cs hc
    obtain ⟨e, pl, z, ho⟩ := rowOf_some hc
    split at h
    · rename_i y hy
      cases h
      obtain ⟨q, h1, h2⟩ := load_one (P := P) hR ho hn hy
      exact .here hR (run_v (by simp only [Instr.loadAt, Instr.sureAddr, loadVar, Sem.run_bind, Sem.run_pure, Result.andThen_ok, run_agg ht, Bool.false_eq_true, if_false]; exact h1)) h2
    · cases h
  · cases h

theorem g_ldn {x u : Value} {t : TypeId} {k : Nat} (hR : Rel B ρ s w) (ht : aggT P t = some true) (hk : sizeT P t = some k) (hx : VRel ρ x u) (h : ldnV s k x = some (v, s')) : Quiet P ρ s w (do pure (Next.value (← Instr.loadAt t u))) v s' := by
  cases hx <;> simp only [ldnV] at h <;> try (cases h; done)
  rename_i n i tg hn
  split at h
  · rename_i cs hc
    obtain ⟨e, pl, z, ho⟩ := rowOf_some hc
    split at h
    · rename_i y hy
      cases h
      obtain ⟨q, h1, h2⟩ := loads (P := P) hR ho hn hy
      exact .here hR (run_v (by simp [Instr.loadAt, Instr.sureAddr, loadVar, run_agg ht, run_size hk, h1])) (.agg _ _ h2)
    · cases h
  · cases h

theorem wrV_some {n i : Nat} {vs : List Value} (h : wrV s n i vs = some s') : ∃ cs cs' e pl z, s.obj n = some (.row cs e pl z) ∧ allPlain vs = true ∧ overAt cs i vs = some cs' ∧ s' = s.put n (.row cs' e pl z) := by
  unfold wrV at h
  split at h
  · rename_i cs e pl z ho
    split at h
    · rename_i hp
      split at h
      · rename_i cs' hw
        cases h
        exact ⟨cs, cs', e, pl, z, ho, hp, hw, rfl⟩
      · cases h
    · cases h
  · cases h

theorem g_st {x u y z : Value} {t : TypeId} {k : Nat} (hR : Rel B ρ s w) (hk : sizeT P t = some k) (hx : VRel ρ x u) (hy : VRel ρ y z) (h : stV s k x y = some (v, s')) : Gives P B ρ s w (do Instr.storeAt t u z; pure Next.skip) v s' := by
  cases hx <;> simp only [stV] at h <;> try (cases h; done)
  rename_i n i tg hn
  split at h
  · rename_i hb
    split at h
    · rename_i s1 hw
      cases h
      obtain ⟨cs, cs', e, pl, ez, ho, hp, hov, rfl⟩ := wrV_some hw
      have hc := hy.cells
      have hl := hc.length
      have hsz : z.cells.size = k := by
        have := Nat.eq_of_beq_eq_true hb
        rw [len_eq] at this
        simp at hl
        omega
      obtain ⟨w', h1, h2⟩ := store_row (P := P) hR ho hn hc hp hov
      refine ⟨ρ, undef, w', .skip, run_u ?_, .inr ⟨rfl, rfl⟩, undef_rel _, h2⟩
      simp [Instr.storeAt, Instr.sureAddr, storeVar, run_size hk, hsz, h1]
    · cases h
  · cases h

/-! Building. -/
theorem built_struct {t : TypeId} {fs : Array Field} {pl : List (Nat × Nat)} {z : Value} {ps : List (Nat × Value)} (hu : P.underlying t = some (.struct fs)) (hz : zeroT P t = some z) (hp : placesT P fs.toList = some pl) :
    P.built t ps = Instr.fill (fun i => (⟨pl⟩ : Array (Nat × Nat))[i]?) z.cells ps := by
  unfold zeroT at hz
  cases hi : P.info? t with
  | none => simp [hi] at hz
  | some i =>
    cases hzz : i.zero with
    | none => simp [hi, hzz] at hz
    | some y =>
      simp only [hi, hzz] at hz
      split at hz
      · cases hz
        simp [Program.built, hi, hu, hzz, places_some hp]
      · cases hz

theorem built_array {t e : TypeId} {n k : Nat} {z : Value} {ps : List (Nat × Value)} (hu : P.underlying t = some (.array n e)) (hz : zeroT P t = some z) (hp : sizeT P e = some k) :
    P.built t ps = Instr.fill (fun i => some (i * k, k)) z.cells ps := by
  unfold zeroT at hz
  unfold sizeT at hp
  cases hi : P.info? t with
  | none => simp [hi] at hz
  | some i =>
    cases hzz : i.zero with
    | none => simp [hi, hzz] at hz
    | some y =>
      cases hie : P.info? e with
      | none => simp [hie] at hp
      | some ie =>
        simp [hie] at hp
        simp only [hi, hzz] at hz
        split at hz
        · cases hz
          simp [Program.built, hi, hu, hzz, hie, hp]
        · cases hz

theorem g_build {t : TypeId} {ps : Array (Nat × Value)} {qs : List (Nat × Value)} {z : Value} {pl pl' : Nat → Option (Nat × Nat)} {cs : List Value} (hR : Rel B ρ s w) (hz : pureV 12 z = true) (hps : PsRel ρ qs ps.toList)
    (hb : P.built t ps.toList = Instr.fill pl' z.cells ps.toList) (hp : ∀ i q, pl i = some q → pl' i = some q) (hf : fillL pl (cellsL z) qs = some cs) :
    Quiet P ρ s w (do pure (Next.value (← Instr.build t ps))) (.agg ⟨cs⟩) s := by
  obtain ⟨us, h1, h2⟩ := fill_rel hp hps (zero_cells hz) hf
  exact .here hR (run_v (run_build w t ps us (by rw [hb]; exact h1))) (.agg _ _ h2)

theorem rep_get (n : Nat) (z : List Value) (j : Nat) (hz : 0 < z.length) : (rep n z)[j]? = if j < n * z.length then z[j % z.length]? else none := by
  induction n generalizing j with
  | zero => simp [rep]
  | succ n ih =>
    simp only [rep, app_eq]
    rw [List.getElem?_append]
    by_cases h : j < z.length
    · rw [if_pos h, if_pos (by have : z.length ≤ (n + 1) * z.length := Nat.le_mul_of_pos_left _ (by omega); omega), Nat.mod_eq_of_lt h]
    · rw [if_neg h, ih]
      have e : (n + 1) * z.length = n * z.length + z.length := Nat.succ_mul _ _
      have hm : (j - z.length) % z.length = j % z.length := by
        have : j = (j - z.length) + z.length := by omega
        conv => rhs; rw [this, Nat.add_mod_right]
      rw [hm]
      by_cases h2 : j < (n + 1) * z.length
      · rw [if_pos (by omega), if_pos h2]
      · rw [if_neg (by omega), if_neg h2]

theorem rep_length (n : Nat) (z : List Value) : (rep n z).length = n * z.length := by
  induction n with
  | zero => simp [rep]
  | succ n ih => simp only [rep, app_eq, List.length_append, ih, Nat.succ_mul]; omega

theorem zeroCells_some {e : TypeId} {z : List Value} (h : zeroCellsT P e = some z) : ∃ y i, P.info? e = some i ∧ i.zero = some y ∧ zeroT P e = some y ∧ z = cellsL y ∧ z.length = i.size ∧ 0 < i.size ∧ pureV 12 y = true ∧ sizeT P e = some i.size := by
  unfold zeroCellsT at h
  cases hz : zeroT P e with
  | none => simp [hz] at h
  | some y =>
    cases hs : sizeT P e with
    | none => simp [hz, hs] at h
    | some n =>
      simp only [hz, hs] at h
      split at h
      · rename_i hc
        cases h
        obtain ⟨h1, h2⟩ := hc
        have hp := (zeroT_some (w := default) hz).2
        unfold zeroT at hz
        unfold sizeT at hs
        cases hi : P.info? e with
        | none => simp [hi] at hs
        | some i =>
          simp [hi] at hs
          cases hzz : i.zero with
          | none => simp [hi, hzz] at hz
          | some y' =>
            have hy : y' = y := by
              simp only [hi, hzz] at hz
              split at hz
              · cases hz; rfl
              · cases hz
            subst hy
            rw [len_eq] at h1
            exact ⟨y', i, rfl, hzz, rfl, rfl, by omega, by omega, hp, by simp [hs]⟩
      · cases h

/-- The cells of a made row, as the model writes them. -/
theorem made_cells {y : Value} {k : Nat} (hy : pureV 12 y = true) (hl : (cellsL y).length = k) (hk : 0 < k) (n : Nat) : VsRel ρ (rep n (cellsL y)) ((Array.range (n * k)).map (y.cells[· % y.cells.size]!)).toList := by
  have hc := zero_cells (ρ := ρ) hy
  have hlen := hc.length
  have hsz : y.cells.size = k := by simp at hlen; omega
  refine VsRel.of_get _ _ (by simp [rep_length, hl]) fun j x hx => ?_
  rw [rep_get _ _ _ (by omega)] at hx
  split at hx
  · rename_i hj
    rw [hl] at hj hx
    obtain ⟨u, h1, h2⟩ := hc.get _ _ hx
    refine ⟨u, ?_, h2⟩
    have hmod : j % k < k := Nat.mod_lt _ hk
    have h1' : y.cells[j % k]? = some u := by simpa using h1
    have hlt : j % k < y.cells.size := by omega
    simp only [Array.toList_map, List.getElem?_map, Array.toList_range, List.getElem?_range hj, Option.map_some, hsz]
    rw [getElem!_pos y.cells (j % k) hlt]
    rw [Array.getElem?_eq_getElem hlt] at h1'
    exact h1'
  · cases hx

theorem g_bslice {t e : TypeId} {n k : Nat} {z : List Value} {ps : Array (Nat × Value)} {qs : List (Nat × Value)} {cs : List Value} (hn : ρ s.next = none) (hu : P.underlying t = some (.slice e)) (hk : sizeT P e = some k)
    (hz : zeroCellsT P e = some z) (hs : n * k ≤ 2 ^ 24) (hps : PsRel ρ qs ps.toList) (hf : fillL (fun i => some (Nat.mul i k, k)) (rep n z) qs = some cs)
    (h : mk s (.row cs e true k) (fun m => .slice (some ⟨m, 0, none⟩) n n) = some (v, s')) : Alloc P ρ s w (do pure (Next.value (← Instr.buildSlice t n ps))) v s' := by
  obtain ⟨y, i, h1, h2, _, rfl, h4, h5, h6, h7⟩ := zeroCells_some hz
  rw [hk] at h7
  cases h7
  obtain ⟨us, f1, f2⟩ := fill_rel (place' := fun j => some (j * i.size, i.size)) (fun j q hq => hq) hps (made_cells (ρ := ρ) h6 h4 h5 n) hf
  obtain ⟨hroom, rfl, rfl⟩ := mk_some h
  obtain ⟨a1, a2⟩ := new_row (P := P) (w := w) hn f2 e i.size
  have hval : VRel (bind1 ρ s.next ⟨w.heap.size, 0, cs.length, i.size⟩) (.slice (some ⟨s.next, 0, none⟩) n n) (.slice (some ⟨w.heap.size, 0, none⟩) n n) := by
    have := VRel.slice (ρ := bind1 ρ s.next ⟨w.heap.size, 0, cs.length, i.size⟩) s.next 0 n n _ n (bind1_same _ _ _) (.inl rfl)
    simpa using this
  by_cases hn0 : n = 0
  · subst hn0
    have f1' : Instr.fill (fun j => some (j * i.size, i.size)) #[] ps.toList = some us := by
      have e0 : (Array.range (0 * i.size)).map (y.cells[· % y.cells.size]!) = #[] := by rw [Nat.zero_mul]; simp
      rw [e0] at f1
      exact f1
    refine ⟨_, _, _, _, w.alloc (.cells us e), hroom, rfl, run_v (u := .slice (some ⟨w.heap.size, 0, none⟩) 0 0) ?_, rfl, rfl, rfl, rfl, rfl, a2, hval⟩
    have e1 : ∀ f : Nat → Value, (Array.range 0).map f = #[] := fun f => by simp
    simp only [Instr.buildSlice, Sem.run_bind, run_und hu, Result.andThen_ok, run_size hk, Nat.zero_mul, if_true, Sem.run_pure]
    rw [if_neg (by omega)]
    simp only [Sem.run_bind, Sem.run_pure, Result.andThen_ok, e1, f1', a1]
  · have hpos : 0 < n * i.size := Nat.mul_pos (by omega) h5
    exact ⟨_, _, _, _, _, hroom, rfl, run_v (run_buildSlice w t e n ps us i y hu h1 h2 (by omega) (by omega) f1), rfl, rfl, rfl, rfl, rfl, a2, hval⟩

/-! Parts of values, and addresses. -/
theorem g_nilck {x u : Value} (hR : Rel B ρ s w) (hx : VRel ρ x u) (h : nilckV s x = some (v, s')) : VRel ρ v u ∧ s' = s ∧ ((∃ a, u = .pointer (some a)) ∨ ∃ f a b, u = .func (.func f) a b) := by
  cases hx <;> simp only [nilckV] at h <;> try (cases h; done)
  · rename_i n i t hn
    cases h
    exact ⟨.ptr n i t hn, rfl, .inl ⟨_, rfl⟩⟩
  · rename_i fn a b a' b' ha hb
    cases fn <;> simp only [] at h <;> try (cases h; done)
    cases h
    exact ⟨.func _ _ _ _ _ ha hb, rfl, .inr ⟨_, _, _, rfl⟩⟩

theorem g_ext {x u : Value} {i : Nat} (hR : Rel B ρ s w) (hx : VRel ρ x u) (h : extV s i x = some (v, s')) : Quiet P ρ s w (do pure (Next.value (← Instr.extract u i))) v s' := by
  cases hx <;> simp only [extV] at h <;> try (cases h; done)
  rename_i a b hab
  split at h
  · rename_i y hy
    cases h
    rw [nth_eq] at hy
    obtain ⟨q, h1, h2⟩ := hab.get _ _ hy
    have h1' : b[i]? = some q := by simpa using h1
    exact .here hR (run_v (by simp [Instr.extract, h1'])) h2
  · cases h

theorem g_fad {x u : Value} {t : TypeId} {f : Nat} {fs : Array Field} {fd : Field} {k : Nat} (hR : Rel B ρ s w) (hx : VRel ρ x u) (hu : P.underlying t = some (.struct fs)) (hf : fs[f]? = some fd) (hk : sizeT P fd.type = some k) (hk0 : k ≠ 0)
    (h : fadV s fd.offset x = some (v, s')) : Quiet P ρ s w (do pure (Next.value (← Instr.fieldAt t u f))) v s' := by
  cases hx <;> simp only [fadV] at h <;> try (cases h; done)
  rename_i n i tg hn
  cases h
  refine .here hR (run_v (u := .pointer (some ⟨tg.blk, i + tg.sh + fd.offset, none⟩)) ?_) ?_
  · simp [Instr.fieldAt, run_und hu, hf, Instr.sureAddr, fieldPlace, run_size hk, hk0, add_addr]
  · have := VRel.ptr (ρ := ρ) n (i + fd.offset) tg hn
    rw [show i + tg.sh + fd.offset = i + fd.offset + tg.sh by omega]
    exact this

theorem g_part {x u : Value} {e : TypeId} {g : Bool} {k off : Nat} (hx : VRel ρ x u) (hg : aggT P e = some g) (hk : sizeT P e = some k) (h : partV g off k x = some v) : ∃ cs y, u = .agg cs ∧ (part e cs off).run P w = .ok y w ∧ VRel ρ v y := by
  cases hx <;> simp only [partV] at h <;> try (cases h; done)
  rename_i p q hpq
  cases g with
  | true =>
    simp only [] at h
    split at h
    · rename_i l hl
      cases h
      obtain ⟨m, h1, h2⟩ := hpq.seg hl
      exact ⟨q, .agg ⟨m⟩, rfl, run_part hg hk ⟨m, h1, rfl⟩, .agg _ _ h2⟩
    · cases h
  | false =>
    simp only [] at h
    rw [nth_eq] at h
    obtain ⟨y, h1, h2⟩ := hpq.get _ _ h
    exact ⟨q, y, rfl, run_part hg hk (show nth q.toList off = some y by rw [nth_eq]; exact h1), h2⟩

theorem fldV_some {x : Value} {g : Bool} {k off : Nat} (h : fldV s g off k x = some (v, s')) : partV g off k x = some v ∧ s' = s := by
  unfold fldV at h
  split at h
  · rename_i hp; cases h; exact ⟨hp, rfl⟩
  · cases h

theorem g_fld {x u : Value} {t : TypeId} {f : Nat} {fs : Array Field} {fd : Field} {k : Nat} {g : Bool} (hR : Rel B ρ s w) (hx : VRel ρ x u) (hu : P.underlying t = some (.struct fs)) (hf : fs[f]? = some fd)
    (hk : sizeT P fd.type = some k) (hg : aggT P fd.type = some g) (h : fldV s g fd.offset k x = some (v, s')) : Quiet P ρ s w (do pure (Next.value (← Instr.field t u f))) v s' := by
  obtain ⟨hq, rfl⟩ := fldV_some h
  obtain ⟨cs, y, rfl, h1, h2⟩ := g_part (w := w) hx hg hk hq
  exact .here hR (run_v (by simp [Instr.field, run_und hu, hf, asAgg, h1])) h2

theorem g_ixs {x u y z : Value} {t e : TypeId} {k : Nat} (hR : Rel B ρ s w) (hx : VRel ρ x u) (hy : VRel ρ y z) (hu : P.underlying t = some (.slice e)) (hk : sizeT P e = some k)
    (h : ixsV s k x y = some (v, s')) : Quiet P ρ s w (do pure (Next.value (← Instr.indexAt t u z))) v s' := by
  unfold ixsV at h
  split at h
  · rename_i b o n _
    split at h
    · rename_i ik j
      split at h
      · rename_i hlt
        cases h
        rw [blt_dec] at hlt
        have hj : j < n := by simpa using hlt
        cases hy
        cases hx with
        | slice _ _ _ _ tg c' hn hc =>
          refine .here hR (run_v (u := .pointer (some ⟨tg.blk, o + tg.sh + j * k, none⟩)) ?_) ?_
          · simp [Instr.indexAt, asIntOf, run_und hu, hj, run_size hk, add_addr]
          · have := VRel.ptr (ρ := ρ) b (o + j * k) tg hn
            rw [show o + tg.sh + j * k = o + j * k + tg.sh by omega]
            exact this
        | sliceE _ _ _ tg hn => exact absurd hj (Nat.not_lt_zero _)
      · cases h
    · cases h
  · cases h

theorem g_ixa {x u y z : Value} {t e : TypeId} {m k : Nat} (hR : Rel B ρ s w) (hx : VRel ρ x u) (hy : VRel ρ y z) (hu : P.underlying t = some (.array m e)) (hk : sizeT P e = some k)
    (h : ixaV s m k x y = some (v, s')) : Quiet P ρ s w (do pure (Next.value (← Instr.indexAt t u z))) v s' := by
  unfold ixaV at h
  split at h
  · rename_i b o
    split at h
    · rename_i ik j
      split at h
      · rename_i hlt
        cases h
        rw [blt_dec] at hlt
        have hj : j < m := by simpa using hlt
        cases hy
        cases hx with
        | ptr _ _ tg hn =>
          refine .here hR (run_v (u := .pointer (some ⟨tg.blk, o + tg.sh + j * k, none⟩)) ?_) ?_
          · simp [Instr.indexAt, asIntOf, run_und hu, hj, run_size hk, add_addr, Instr.sureAddr]
          · have := VRel.ptr (ρ := ρ) b (o + j * k) tg hn
            rw [show o + tg.sh + j * k = o + j * k + tg.sh by omega]
            exact this
      · cases h
    · cases h
  · cases h

theorem get_bytesL {str : ByteArray} {j : Nat} {b : UInt8} (h : (bytesL str)[j]? = some b) : str[j]? = some b := by
  have h1 : str.data[j]? = some b := by simpa [bytesL] using h
  obtain ⟨hlt, he⟩ := Array.getElem?_eq_some_iff.1 h1
  have hlt' : j < str.size := hlt
  rw [getElem?_pos str j hlt']
  exact congrArg some he

theorem g_ixst {x u y z : Value} {t : TypeId} (hR : Rel B ρ s w) (hx : VRel ρ x u) (hy : VRel ρ y z) (hu : P.underlying t = some .string)
    (h : ixstV s x y = some (v, s')) : Quiet P ρ s w (do pure (Next.value (← Instr.index t u z))) v s' := by
  unfold ixstV at h
  split at h
  · rename_i str
    split at h
    · rename_i ik j
      split at h
      · rename_i b hb
        cases h
        cases hx
        cases hy
        rw [nth_eq] at hb
        have hb' := get_bytesL hb
        exact .here hR (run_v (by simp [Instr.index, asIntOf, run_und hu, hb'])) (.int _ _)
      · cases h
    · cases h
  · cases h

theorem g_ixag {x u y z : Value} {t e : TypeId} {m k : Nat} {g : Bool} (hR : Rel B ρ s w) (hx : VRel ρ x u) (hy : VRel ρ y z) (hu : P.underlying t = some (.array m e)) (hk : sizeT P e = some k) (hg : aggT P e = some g)
    (h : ixagV s m k g x y = some (v, s')) : Quiet P ρ s w (do pure (Next.value (← Instr.index t u z))) v s' := by
  unfold ixagV at h
  split at h
  · rename_i ik j
    split at h
    · rename_i hlt
      rw [blt_dec] at hlt
      have hj : j < m := by simpa using hlt
      obtain ⟨hq, rfl⟩ := fldV_some h
      cases hy
      obtain ⟨cs, y, rfl, h1, h2⟩ := g_part (w := w) hx hg hk hq
      have h1' : (part e cs (j * k)).run P w = .ok y w := h1
      exact .here hR (run_v (by simp [Instr.index, asIntOf, run_und hu, hj, run_size hk, h1'])) h2
    · cases h
  · cases h

theorem g_mkfn {fn : Fn} {l m : List Operand} {l' m' : List Opd} {p q : List Value} (hR : Rel B ρ s w) (hr : RegsRel ρ r a.tmps) (h1 : opdsOf l = some l') (h2 : opdsOf m = some m') (h3 : evs r l' = some p) (h4 : evs r m' = some q)
    {x y : Array Value} (hx : x.toList = l.map a.eval) (hy : y.toList = m.map a.eval) : Quiet P ρ s w (do pure (Next.value (← Instr.makeFunc fn x y))) (.func fn ⟨p⟩ ⟨q⟩) s :=
  .here hR (run_v rfl) (.func _ _ _ _ _ (by rw [hx]; exact opds_rel hr h1 h3) (by rw [hy]; exact opds_rel hr h2 h4))

/-! Slices. -/
theorem bound_run {x u : Value} {y y' n : Nat} (code : BoundsCode) (hx : VRel ρ x u) (h : boundV x y = some n) (hy : y ≤ y') : (Instr.sliceBound u y' code).run P w = .ok n w ∧ n ≤ y := by
  unfold boundV at h
  split at h
  · rename_i ik m
    split at h
    · rename_i hb
      cases h
      have hle : n ≤ y := Nat.le_of_ble_eq_true hb
      cases hx
      have : n ≤ y' := by omega
      exact ⟨by simp [Instr.sliceBound, asIntOf, this], hle⟩
    · cases h
  · cases h

theorem optOf_some {x : Option Operand} {y : Option Opd} (h : optOf x = some y) : (x = none ∧ y = none) ∨ ∃ o p, x = some o ∧ y = some p ∧ opdOf o = some p := by
  cases x with
  | none => simp [optOf] at h; exact .inl ⟨rfl, h.symm⟩
  | some o =>
    simp only [optOf] at h
    split at h
    · rename_i p hp; cases h; exact .inr ⟨o, p, rfl, rfl, hp⟩
    · cases h

theorem opt_some {p : Opd} {y d n : Nat} (h : opt r (some p) y d = some n) : ∃ x, p.ev r = some x ∧ boundV x y = some n := by
  unfold opt at h
  split at h
  · rename_i e; cases e
  · rename_i q e
    cases e
    split at h
    · rename_i x hx; exact ⟨x, hx, h⟩
    · cases h

theorem bounds_run {lo hi mx : Option Operand} {lo' hi' mx' : Option Opd} {n cap cap' l h m : Nat} (isSlice : Bool) (hr : RegsRel ρ r a.tmps) (h1 : optOf lo = some lo') (h2 : optOf hi = some hi') (h3 : optOf mx = some mx')
    (hb : boundsV r n cap lo' hi' mx' = some (l, h, m)) (hc : cap ≤ cap') :
    ∃ m', (Instr.sliceBounds isSlice n cap' (lo.map a.eval) (hi.map a.eval) (mx.map a.eval)).run P w = .ok (l, h, m') w ∧ l ≤ h ∧ h ≤ m ∧ m ≤ cap ∧ (m' = m ∨ (m = cap ∧ m' = cap')) := by
  unfold boundsV at hb
  split at hb
  · cases hb
  · rename_i m0 hm0
    split at hb
    · cases hb
    · rename_i h0 hh0
      split at hb
      · cases hb
      · rename_i l0 hl0
        split at hb
        · rename_i hle
          cases hb
          have hhm : h ≤ m := Nat.le_of_ble_eq_true hle
          -- max
          have hmax : ∃ m', (m' = m ∨ (m = cap ∧ m' = cap')) ∧ m ≤ m' ∧ m ≤ cap ∧ ((mx = none ∧ mx' = none ∧ m' = cap') ∨ ∃ o p x, mx = some o ∧ mx' = some p ∧ opdOf o = some p ∧ p.ev r = some x ∧ boundV x cap = some m ∧ m' = m) := by
            rcases optOf_some h3 with ⟨rfl, rfl⟩ | ⟨o, p, rfl, rfl, ho⟩
            · simp only [Option.some.injEq] at hm0
              subst hm0
              exact ⟨cap', .inr ⟨rfl, rfl⟩, hc, Nat.le_refl _, .inl ⟨rfl, rfl, rfl⟩⟩
            · simp only [] at hm0
              obtain ⟨x, hx, hbx⟩ := opt_some hm0
              have := (bound_run (P := P) (w := w) .index (opd_rel hr ho hx) hbx (Nat.le_refl _)).2
              exact ⟨m, .inl rfl, Nat.le_refl _, this, .inr ⟨o, p, x, rfl, rfl, ho, hx, hbx, rfl⟩⟩
          obtain ⟨m', hm1, hm2, hm3, hm4⟩ := hmax
          refine ⟨m', ?_, ?_, hhm, hm3, hm1⟩
          · unfold Instr.sliceBounds
            rcases hm4 with ⟨rfl, rfl, rfl⟩ | ⟨o, p, x, rfl, rfl, ho, hx, hbx, rfl⟩
            · simp only [Option.map_none, Sem.run_bind, Sem.run_pure, Result.andThen_ok]
              rcases optOf_some h2 with ⟨rfl, rfl⟩ | ⟨o2, p2, rfl, rfl, ho2⟩
              · simp only [Option.some.injEq] at hh0
                subst hh0
                simp only [Option.map_none, Sem.run_pure, Result.andThen_ok]
                rcases optOf_some h1 with ⟨rfl, rfl⟩ | ⟨o1, p1, rfl, rfl, ho1⟩
                · simp only [opt, Option.some.injEq] at hl0
                  subst hl0
                  simp
                · obtain ⟨x1, hx1, hb1⟩ := opt_some hl0
                  simp [(bound_run (P := P) (w := w) .sliceB (opd_rel hr ho1 hx1) hb1 (Nat.le_refl _)).1]
              · simp only [] at hh0
                obtain ⟨x2, hx2, hb2⟩ := opt_some hh0
                simp only [Option.map_some, Sem.run_bind]
                rw [(bound_run (P := P) (w := w) (if isSlice then .sliceAcap else .sliceAlen) (opd_rel hr ho2 hx2) hb2 hm2).1]
                simp only [Result.andThen_ok]
                rcases optOf_some h1 with ⟨rfl, rfl⟩ | ⟨o1, p1, rfl, rfl, ho1⟩
                · simp only [opt, Option.some.injEq] at hl0
                  subst hl0
                  simp
                · obtain ⟨x1, hx1, hb1⟩ := opt_some hl0
                  simp [(bound_run (P := P) (w := w) .sliceB (opd_rel hr ho1 hx1) hb1 (Nat.le_refl _)).1]
            · simp only [Option.map_some, Sem.run_bind]
              rw [(bound_run (P := P) (w := w) (if isSlice then .slice3Acap else .slice3Alen) (opd_rel hr ho hx) hbx hc).1]
              simp only [Result.andThen_ok]
              rcases optOf_some h2 with ⟨rfl, rfl⟩ | ⟨o2, p2, rfl, rfl, ho2⟩
              · simp only [] at hh0; cases hh0
              · simp only [] at hh0
                obtain ⟨x2, hx2, hb2⟩ := opt_some hh0
                simp only [Option.map_some, Sem.run_bind]
                rw [(bound_run (P := P) (w := w) .slice3B (opd_rel hr ho2 hx2) hb2 (Nat.le_refl _)).1]
                simp only [Result.andThen_ok]
                rcases optOf_some h1 with ⟨rfl, rfl⟩ | ⟨o1, p1, rfl, rfl, ho1⟩
                · simp only [opt, Option.some.injEq] at hl0
                  subst hl0
                  simp
                · obtain ⟨x1, hx1, hb1⟩ := opt_some hl0
                  simp [(bound_run (P := P) (w := w) .slice3C (opd_rel hr ho1 hx1) hb1 (Nat.le_refl _)).1]
          · rcases optOf_some h1 with ⟨rfl, rfl⟩ | ⟨o1, p1, rfl, rfl, ho1⟩
            · simp only [opt, Option.some.injEq] at hl0; omega
            · obtain ⟨x1, hx1, hb1⟩ := opt_some hl0
              exact (bound_run (P := P) (w := w) .sliceB (opd_rel hr ho1 hx1) hb1 (Nat.le_refl _)).2
        · cases hb

theorem g_slst {x u : Value} {t : TypeId} {lo hi : Option Operand} {lo' hi' : Option Opd} (hR : Rel B ρ s w) (hr : RegsRel ρ r a.tmps) (hx : VRel ρ x u) (hu : P.underlying t = some .string) (h1 : optOf lo = some lo') (h2 : optOf hi = some hi')
    (h : slstV r s x lo' hi' = some (v, s')) : Quiet P ρ s w (do pure (Next.value (← Instr.sliceAt t u (lo.map a.eval) (hi.map a.eval) none))) v s' := by
  cases hx <;> simp only [slstV] at h <;> try (cases h; done)
  rename_i str
  split at h
  · rename_i l hh m hb
    split at h
    · rename_i q hq
      cases h
      rw [len_bytesL] at hb
      obtain ⟨m', b1, b2, b3, b4, b5⟩ := bounds_run (P := P) (w := w) (mx := none) false hr h1 h2 rfl hb (Nat.le_refl _)
      obtain ⟨q1, q2, q3⟩ := seg_some hq
      have e : str.extract l hh = ⟨⟨q⟩⟩ := by
        apply ByteArray.ext
        apply Array.ext'
        show (str.extract l hh).data.toList = q
        rw [ByteArray.data_extract, Array.toList_extract, q1]
        simp only [bytesL, List.extract_eq_take_drop]
        rfl
      refine .here hR (run_v (u := .string ⟨⟨q⟩⟩) ?_) (.string _)
      simp only [Option.map_none] at b1
      simp [Instr.sliceAt, Instr.slice, run_und hu, b1, e]
    · cases h
  · cases h

theorem zRow_some {n z : Nat} (h : zRow s n = some z) : ∃ cs e pl, s.obj n = some (.row cs e pl z) := by
  unfold zRow at h
  split at h
  · rename_i cs e pl z' ho; cases h; exact ⟨_, _, _, ho⟩
  · cases h

theorem zOk_some {z size : Nat} (h : zOk z size = true) : z = 0 ∨ z = size := by
  cases z with
  | zero => exact .inl rfl
  | succ n => exact .inr (Nat.eq_of_beq_eq_true h)

theorem g_slsl {x u : Value} {t e : TypeId} {k : Nat} {lo hi mx : Option Operand} {lo' hi' mx' : Option Opd} (hR : Rel B ρ s w) (hr : RegsRel ρ r a.tmps) (hx : VRel ρ x u) (hu : P.underlying t = some (.slice e)) (hk : sizeT P e = some k)
    (h1 : optOf lo = some lo') (h2 : optOf hi = some hi') (h3 : optOf mx = some mx') (h : slslV r s k x lo' hi' mx' = some (v, s')) :
    Quiet P ρ s w (do pure (Next.value (← Instr.sliceAt t u (lo.map a.eval) (hi.map a.eval) (mx.map a.eval)))) v s' := by
  unfold slslV at h
  split at h
  · rename_i n cap
    split at h
    · rename_i l hh m hb
      cases h
      cases hx
      obtain ⟨m', b1, b2, b3, b4, b5⟩ := bounds_run (P := P) (w := w) true hr h1 h2 h3 hb (Nat.le_refl _)
      have hm : m' = m := by rcases b5 with b5 | ⟨b5, b6⟩ <;> omega
      subst hm
      refine .here hR (run_v (u := .slice none (hh - l) (m' - l)) ?_) (.slice0 _ _)
      simp [Instr.sliceAt, Instr.slice, run_und hu, b1, run_size hk]
    · cases h
  · rename_i b o n cap
    split at h
    · rename_i z hz
      obtain ⟨cs, e', pl, ho⟩ := zRow_some hz
      split at h
      · rename_i hzo
        have hzo := zOk_some hzo
        split at h
        · rename_i l hh m hb
          cases h
          cases hx with
          | slice _ _ _ _ tg c' hn hc =>
            have hle : cap ≤ c' := by rcases hc with hc | hc <;> omega
            obtain ⟨m', b1, b2, b3, b4, b5⟩ := bounds_run (P := P) (w := w) true hr h1 h2 h3 hb hle
            obtain ⟨_, _, _, hze, _⟩ := hR.row ho hn
            have hmm : m ≤ m' := by rcases b5 with b5 | ⟨b5, b6⟩ <;> omega
            by_cases hml : m' = l
            · have e1 : hh - l = 0 := by omega
              have e2 : m - l = 0 := by omega
              refine .here hR (run_v (u := .slice (some ⟨tg.blk, o + tg.sh, none⟩) (hh - l) (m' - l)) ?_) ?_
              · simp [Instr.sliceAt, Instr.slice, run_und hu, b1, run_size hk, hml]
              · have e3 : m' - l = 0 := by omega
                have := VRel.sliceE (ρ := ρ) b (o + l * k) (o + tg.sh) tg hn
                rw [e1, e3]
                show VRel ρ (.slice (some ⟨b, o + l * k, none⟩) (hh - l) (m - l)) _
                rw [e1, e2]
                exact this
            · refine .here hR (run_v (u := .slice (some ⟨tg.blk, o + tg.sh + l * k, none⟩) (hh - l) (m' - l)) ?_) ?_
              · simp [Instr.sliceAt, Instr.slice, run_und hu, b1, run_size hk, hml, add_addr]
              · have := VRel.slice (ρ := ρ) b (o + l * k) (hh - l) (m - l) tg (m' - l) hn ?_
                · rw [show o + tg.sh + l * k = o + l * k + tg.sh by omega]
                  exact this
                · rcases b5 with b5 | ⟨b5, b6⟩
                  · exact .inl (by rw [b5])
                  · rcases hc with hc | ⟨hc1, hc2, hc3⟩
                    · exact .inl (by omega)
                    · right
                      refine ⟨by omega, hc2, ?_⟩
                      have hks : k = tg.esz := by rcases hzo with hzo | hzo <;> omega
                      rw [hks, Nat.sub_mul, b6]
                      have : l * tg.esz ≤ c' * tg.esz := Nat.mul_le_mul_right _ (by omega)
                      omega
          | sliceE _ _ j tg hn =>
            obtain ⟨m', b1, b2, b3, b4, b5⟩ := bounds_run (P := P) (w := w) true hr h1 h2 h3 hb (Nat.le_refl _)
            have hm : m' = 0 := by rcases b5 with b5 | ⟨b5, b6⟩ <;> omega
            have hm0 : m = 0 := by omega
            have hl : l = 0 := by omega
            have hh0 : hh = 0 := by omega
            subst hm hm0 hl hh0
            refine .here hR (run_v (u := .slice (some ⟨tg.blk, j, none⟩) 0 0) ?_) ?_
            · simp [Instr.sliceAt, Instr.slice, run_und hu, b1, run_size hk]
            · exact VRel.sliceE _ _ _ tg hn
        · cases h
      · cases h
    · cases h
  · cases h

theorem g_slar {x u : Value} {t : TypeId} {n k : Nat} {lo hi mx : Option Operand} {lo' hi' mx' : Option Opd} (hR : Rel B ρ s w) (hr : RegsRel ρ r a.tmps) (hx : VRel ρ x u)
    (hu : (∃ e, P.underlying t = some (.array n e) ∧ sizeT P e = some k) ∨ ∃ q e, P.underlying t = some (.pointer q) ∧ P.underlying q = some (.array n e) ∧ sizeT P e = some k)
    (h1 : optOf lo = some lo') (h2 : optOf hi = some hi') (h3 : optOf mx = some mx') (h : slarV r s n k x lo' hi' mx' = some (v, s')) :
    Quiet P ρ s w (do pure (Next.value (← Instr.sliceAt t u (lo.map a.eval) (hi.map a.eval) (mx.map a.eval)))) v s' := by
  unfold slarV at h
  split at h
  · rename_i b o
    split at h
    · rename_i l hh m hb
      cases h
      cases hx with
      | ptr _ _ tg hn =>
        obtain ⟨m', b1, b2, b3, b4, b5⟩ := bounds_run (P := P) (w := w) false hr h1 h2 h3 hb (Nat.le_refl _)
        have hm : m' = m := by rcases b5 with b5 | ⟨b5, b6⟩ <;> omega
        subst hm
        have hrun : (Instr.sliceAt t (.pointer (some ⟨tg.blk, o + tg.sh, none⟩)) (lo.map a.eval) (hi.map a.eval) (mx.map a.eval)).run P w = .ok (.slice (some (if m' = l then ⟨tg.blk, o + tg.sh, none⟩ else ⟨tg.blk, o + tg.sh + l * k, none⟩)) (hh - l) (m' - l)) w := by
          rcases hu with ⟨e, hu, hk⟩ | ⟨q, e, hu, hq, hk⟩
          · simp [Instr.sliceAt, run_und hu, Instr.sureAddr, b1, run_size hk, add_addr]
          · simp [Instr.sliceAt, Instr.slice, run_und hu, run_und hq, asAddr, b1, run_size hk, add_addr]
        refine .here hR (run_v hrun) ?_
        by_cases hml : m' = l
        · rw [if_pos hml]
          have e1 : hh - l = 0 := by omega
          have e2 : m' - l = 0 := by omega
          have := VRel.sliceE (ρ := ρ) b (o + l * k) (o + tg.sh) tg hn
          show VRel ρ (.slice (some ⟨b, o + l * k, none⟩) (hh - l) (m' - l)) (.slice _ (hh - l) (m' - l))
          rw [e1, e2]
          exact this
        · rw [if_neg hml]
          have := VRel.slice (ρ := ρ) b (o + l * k) (hh - l) (m' - l) tg (m' - l) hn (.inl rfl)
          rw [show o + tg.sh + l * k = o + l * k + tg.sh by omega]
          exact this
    · cases h
  · cases h

end
end Go.Rf
