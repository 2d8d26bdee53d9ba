/- Each operation but a call, eighth part: append, copy, clear, min and max. -/
import Derived.Test.YtldkpohfigaoiaaGreatRfOps7
namespace Go.Rf
open Go Go.RowKit

section
variable {P : Program} {B : Nat} {ρ : Ren} {s s' : AS} {w : World} {r : Tr Value} {a : Act} {v : Value}

/-! What is appended or copied. -/
theorem lenV_run {x u : Value} {k : Nat} (hx : VRel ρ x u) (h : lenV x = some k) : (Builtin.lenOf u).run P w = .ok k w := by
  unfold lenV at h
  split at h
  · cases h
    cases hx <;> simp [Builtin.lenOf]
  · cases h
    cases hx
    simp [Builtin.lenOf, len_bytesL]
  · cases h

theorem srcCells_run {x u : Value} {size n : Nat} {cs : List Value} (hR : Rel B ρ s w) (hx : VRel ρ x u) (h : srcCells s size n x = some cs) : ∃ us : Array Value, (Builtin.firstCells size n u).run P w = .ok us w ∧ VsRel ρ cs us.toList := by
  unfold srcCells at h
  split at h
  · cases hx
    split at h
    · cases h
      exact ⟨#[], by simp [Builtin.firstCells], .nil⟩
    · cases h
  · rename_i b i m _
    split at h
    · rename_i hle
      have hle : n ≤ m := Nat.le_of_ble_eq_true hle
      split at h
      · rename_i l e pl z ho
        cases hx with
        | slice _ _ _ _ tg c' hn _ =>
          obtain ⟨us, h1, h2⟩ := loads (P := P) hR ho hn h
          exact ⟨us, h1, h2⟩
        | sliceE _ _ j tg hn =>
          obtain ⟨q1, q2, q3⟩ := seg_some h
          have hn0 : n = 0 := by omega
          subst hn0
          have : cs = [] := List.eq_nil_of_length_eq_zero (by rw [q3]; exact Nat.zero_mul _)
          subst this
          exact ⟨#[], by simp [Builtin.firstCells, loadCells, loadCellsFrom], .nil⟩
      · cases h
    · cases h
  · rename_i str
    split at h
    case h_2 => cases h
    obtain ⟨h1, h2⟩ := take?_some _ _ _ h
    cases hx
    refine ⟨(str.extract 0 n).data.map fun b => .int .u8 b.toNat, by simp [Builtin.firstCells], ?_⟩
    have e : ((str.extract 0 n).data.map fun b => Value.int .u8 b.toNat).toList = cs := by
      rw [h1, cellsOfBytes_eq, Array.toList_map, ByteArray.data_extract, Array.toList_extract]
      simp [bytesL, List.extract_eq_take_drop, List.map_take]
    rw [e]
    have key : ∀ l : List UInt8, VsRel ρ (cellsOfBytes l) (cellsOfBytes l) := by
      intro l
      induction l with
      | nil => exact .nil
      | cons b l ih => exact .cons _ _ _ _ (.int _ _) ih
    rw [h1]
    exact (key _).take n
  · cases h

theorem g_copy {d x d' u : Value} {t e : TypeId} {k : Nat} {as : Array TypeId} {ty : TypeId} (hR : Rel B ρ s w) (hd : VRel ρ d d') (hx : VRel ρ x u) (has : as[0]? = some t) (hu : P.underlying t = some (.slice e)) (hk : sizeT P e = some k)
    (h : copyV s k d x = some (v, s')) : Gives P B ρ s w (do pure (Next.value (← Builtin.copy_ as ty #[d', u]))) v s' := by
  unfold copyV at h
  split at h
  · rename_i base n cap
    split at h
    · rename_i m hm
      have hlen := lenV_run (P := P) (w := w) hx hm
      split at h
      · rename_i cs hcs
        rw [minN_eq] at hcs
        obtain ⟨us, f1, f2⟩ := srcCells_run (P := P) hR hx hcs
        have hmin : Nat.min m n = min m n := rfl
        split at h
        · split at h
          · cases h
            cases hd
            refine .here hR (run_v (u := .int .i64 (.ofNat (minN m n))) ?_) (.int _ _)
            simp [Builtin.copy_, has, run_und hu, hlen, run_size hk, hmin, f1, goInt, minN_eq]
          · cases h
        · rename_i b i
          split at h
          · rename_i s1 hw
            cases h
            obtain ⟨c0, cs', e', pl, ez, ho, hp, hov, rfl⟩ := wrV_some hw
            cases hd with
            | slice _ _ _ _ tg c' hn _ =>
              obtain ⟨w', g1, g2⟩ := store_row (P := P) hR ho hn f2 hp hov
              refine ⟨ρ, _, w', _, run_v (u := .int .i64 (.ofNat (minN m n))) ?_, .inl rfl, .int _ _, g2⟩
              simp [Builtin.copy_, has, run_und hu, hlen, run_size hk, hmin, f1, g1, goInt, minN_eq]
            | sliceE _ _ j tg hn =>
              have hz : min m 0 = 0 := by omega
              rw [hz] at hcs f1
              have hcs0 : cs = [] := by
                unfold srcCells at hcs
                split at hcs
                · cases hcs; rfl
                · split at hcs
                  · split at hcs
                    · obtain ⟨_, _, q⟩ := seg_some hcs
                      exact List.eq_nil_of_length_eq_zero (by rw [q]; exact Nat.zero_mul _)
                    · cases hcs
                  · cases hcs
                · split at hcs
                  · simp [take?] at hcs; exact hcs
                  · cases hcs
                · cases hcs
              subst hcs0
              have hus : us = #[] := by
                apply Array.ext'
                have := f2.length
                exact List.eq_nil_of_length_eq_zero (by simpa using this)
              subst hus
              obtain ⟨w', g1, g2⟩ := store_row (P := P) hR ho hn f2 hp hov
              have hw' : w' = w := by simp [storeCells] at g1; exact g1.symm
              subst hw'
              refine ⟨ρ, _, w', _, run_v (u := .int .i64 (.ofNat (minN m 0))) ?_, .inl rfl, .int _ _, g2⟩
              simp [Builtin.copy_, has, run_und hu, hlen, run_size hk, hmin, f1, goInt, minN_eq, storeCells]
          · cases h
        · cases h
      · cases h
    · cases h
  · cases h

theorem g_clr {x u : Value} {t : TypeId} {m : Bool} {z : List Value} {as : Array TypeId} {ty : TypeId} (hR : Rel B ρ s w) (hx : VRel ρ x u) (has : as[0]? = some t)
    (hu : match m with | true => ∃ k e, P.underlying t = some (.map k e) | false => ∃ e, P.underlying t = some (.slice e) ∧ zeroCellsT P e = some z)
    (h : clrV s m z x = some (v, s')) : Gives P B ρ s w (do pure (Next.value (← Builtin.clear_ as ty #[u]))) v s' := by
  unfold clrV at h
  split at h
  · cases h
    obtain ⟨k, e, hu⟩ := hu
    cases hx
    exact .here hR (run_v (u := .tuple #[]) (by simp [Builtin.clear_, has, run_und hu])) (undef_rel _)
  · rename_i m
    obtain ⟨k, e, hu⟩ := hu
    split at h
    · rename_i es c hmo
      cases h
      have ho := mapOf_some hmo
      cases hx with
      | map _ tg hn =>
        obtain ⟨fs, b1, b2, b3⟩ := hR.map ho hn
        have hrun : (Builtin.clear_ as ty #[.map (some tg.blk)]).run P w = .ok (.tuple #[]) { w with heap := w.heap.setIfInBounds tg.blk (.map #[] c) } := by
          simp [Builtin.clear_, has, run_und hu, MapKept.run_getObj_map b1, run_setMap b1]
        exact ⟨ρ, _, _, _, run_v hrun, .inl rfl, undef_rel _, Nx.map hR ho hn .nil⟩
    · cases h
  · cases h
    obtain ⟨e, hu, _⟩ := hu
    cases hx
    exact .here hR (run_v (u := .tuple #[]) (by simp [Builtin.clear_, has, run_und hu])) (undef_rel _)
  · rename_i b i n c
    obtain ⟨e, hu, hz⟩ := hu
    obtain ⟨y0, i0, z1, z2, z3, rfl, z4, z5, z6, z7⟩ := zeroCells_some hz
    cases n with
    | zero =>
      cases h
      cases hx
      all_goals exact .here hR (run_v (u := .tuple #[]) (by simp [Builtin.clear_, has, run_und hu])) (undef_rel _)
    | succ n =>
      simp only [] at h
      split at h
      · rename_i s1 hw
        cases h
        obtain ⟨c0, cs', e', pl, ez, ho, hp, hov, rfl⟩ := wrV_some hw
        cases hx with
        | slice _ _ _ _ tg c' hn _ =>
          have hv := made_cells (ρ := ρ) z6 z4 z5 (n + 1)
          have hzs : y0.cells.size = i0.size := by
            have := (zero_cells (ρ := ρ) z6).length
            simp at this
            omega
          have e1 : Builtin.zeroCells y0.cells (n + 1) = (Array.range ((n + 1) * i0.size)).map (y0.cells[· % y0.cells.size]!) := by
            unfold Builtin.zeroCells
            rw [hzs]
          generalize (Array.range ((n + 1) * i0.size)).map (y0.cells[· % y0.cells.size]!) = A at hv e1
          obtain ⟨w', g1, g2⟩ := store_row (P := P) hR ho hn hv hp hov
          refine ⟨ρ, _, w', _, run_v (u := .tuple #[]) ?_, .inl rfl, undef_rel _, g2⟩
          simp [Builtin.clear_, has, run_und hu, (zeroT_some z3).1, e1, g1]
      · cases h
  · cases h

theorem mnmx_run {mx : Bool} {x y z x' y' : Value} (hx : VRel ρ x x') (hy : VRel ρ y y') (h : mnmxV mx x y = some z) : (match mx with | true => Builtin.max2 x' y' | false => Builtin.min2 x' y').run P w = .ok z w ∧ VRel ρ z z := by
  unfold mnmxV at h
  split at h
  · rename_i k p j q
    cases hx
    cases hy
    split at h
    · cases h
      refine ⟨?_, .int _ _⟩
      simp only [Builtin.max2, Sem.run_pure, ile_eq]
      congr 2
      by_cases hc : q ≤ p
      · rw [decide_eq_true hc]
        rw [if_neg (by omega)]
      · rw [decide_eq_false hc]
        rw [if_pos (by omega)]
    · cases h
      refine ⟨?_, .int _ _⟩
      simp only [Builtin.min2, Sem.run_pure, ile_eq]
      congr 2
      by_cases hc : p ≤ q
      · rw [decide_eq_true hc]
        rw [if_neg (by omega)]
      · rw [decide_eq_false hc]
        rw [if_pos (by omega)]
  · cases h

theorem mnmxL_run {mx : Bool} : ∀ {l m : List Value} {x x' z : Value}, VsRel ρ l m → VRel ρ x x' → mnmxL mx x l = some z → ∃ z', (m.foldlM (match mx with | true => Builtin.max2 | false => Builtin.min2) x').run P w = .ok z' w ∧ VRel ρ z z'
  | _, _, x, x', z, .nil, hx, h => by
    simp only [mnmxL, Option.some.injEq] at h
    subst h
    exact ⟨x', by simp, hx⟩
  | _, _, x, x', z, .cons y y' l m hy hl, hx, h => by
    simp only [mnmxL] at h
    cases hq : mnmxV mx x y with
    | none => simp [hq] at h
    | some q =>
      simp only [hq] at h
      obtain ⟨h1, h2⟩ := mnmx_run (P := P) (w := w) hx hy hq
      obtain ⟨z', g1, g2⟩ := mnmxL_run hl h2 h
      refine ⟨z', ?_, g2⟩
      simp only [List.foldlM_cons, Sem.run_bind]
      cases mx with
      | true => simp only [] at h1 g1 ⊢; rw [h1]; exact g1
      | false => simp only [] at h1 g1 ⊢; rw [h1]; exact g1

theorem g_mnmx {mx : Bool} {x : Value} {l : List Value} {m : Array Value} {as : Array TypeId} {ty : TypeId} (hR : Rel B ρ s w) (hm : VsRel ρ (x :: l) m.toList) (h : mnmxL mx x l = some v) :
    Quiet P ρ s w (do pure (Next.value (← (match mx with | true => Builtin.max_ as ty m | false => Builtin.min_ as ty m)))) v s := by
  cases hml : m.toList with
  | nil => rw [hml] at hm; cases hm
  | cons y q =>
    rw [hml] at hm
    cases hm with
    | cons _ _ _ _ hx hl =>
      obtain ⟨z, g1, g2⟩ := mnmxL_run (P := P) (w := w) hl hx h
      refine .here hR (run_v (u := z) ?_) g2
      cases mx with
      | true => simp only [Builtin.max_, hml]; exact g1
      | false => simp only [Builtin.min_, hml]; exact g1

/-! Append. -/
theorem growBy_le (n : Nat) : ∀ (r c : Nat), 256 ≤ c → c < 2 * n ∨ c = n → Builtin.growBy n r c ≤ 2 * n
  | 0, c, _, h => by simp only [Builtin.growBy]; omega
  | r + 1, c, h1, h2 => by
    simp only [Builtin.growBy]
    split
    · omega
    · rename_i hc
      exact growBy_le n r _ (by omega) (by omega)

theorem nextcap_le (n c : Nat) (h : c < n) : Builtin.nextslicecap n c ≤ 2 * n := by
  unfold Builtin.nextslicecap
  split
  · omega
  · split
    · omega
    · exact growBy_le n 4 c (by omega) (by omega)

theorem zeroCells_eq {y : Value} {k n : Nat} (h : y.cells.size = k) : Builtin.zeroCells y.cells n = (Array.range (n * k)).map (y.cells[· % y.cells.size]!) := by
  unfold Builtin.zeroCells
  rw [h]

/-- The elder block is not used any more: another name may stand for it. -/
theorem Nx.kill {n : Nat} (hR : Rel B ρ s w) (hf : fits 22 n = true) : Nx B ρ s w ρ (s.kill n) w := by
  refine ⟨.refl _, ⟨hR.base, hR.nx, hR.ub, fun m o ho => hR.live m o (AS.obj_kill ho hf).2, fun m m' o o' t t' h1 h2 => hR.inj m m' o o' t t' (AS.obj_kill h1 hf).2 (AS.obj_kill h2 hf).2⟩, .refl _ _, fun _ _ _ => rfl,
    fun m o t h1 h2 _ => ⟨m, o, t, (AS.obj_kill h1 hf).2, h2, rfl⟩, Nat.le_refl _⟩

theorem Nx.adopt {n : Nat} {q o : AObj} {o' : Obj} {t t' : Tgt} {w' : World} (hR : Rel B ρ s w) (hr : s.roomy = true) (hf : fits 22 n = true) (hq : s.obj n = some q) (hn : ρ n = some t) (ht : t'.blk = t.blk)
    (e : w'.heap = w.heap.setIfInBounds t.blk o') (ho : w'.os = w.os) (hta : w'.tape = w.tape) (hp : w'.output = w.output) (hO : ORel (bind1 ρ s.next t') t' o o') :
    Nx B ρ s w (bind1 ρ s.next t') ((s.kill n).new o) w' := by
  have hx := hR.ext1 t'
  have hlt := hR.ub _ _ hn
  have hB : B ≤ t.blk := by
    obtain ⟨u, _, a, b, _⟩ := hR.live _ _ hq
    rw [hn] at a; cases a; exact b
  have hsz : w'.heap.size = w.heap.size := by rw [e]; simp
  have hold : ∀ k, k ≠ t.blk → w'.heap[k]? = w.heap[k]? := fun k hk => by rw [e, Array.getElem?_setIfInBounds_ne (Ne.symm hk)]
  have hrk : (s.kill n).roomy = true := hr
  have hobj : ∀ m x, ((s.kill n).new o).obj m = some x → (m = s.next ∧ x = o) ∨ (m ≠ s.next ∧ m ≠ n ∧ s.obj m = some x) := by
    intro m x hm
    rw [AS.obj_new hrk] at hm
    split at hm
    · rename_i hh; cases hm; exact .inl ⟨hh, rfl⟩
    · rename_i hh
      obtain ⟨a1, a2⟩ := AS.obj_kill hm hf
      exact .inr ⟨hh, a1, a2⟩
  refine ⟨hx, ⟨by rw [hsz]; exact hR.base, ?_, ?_, ?_, ?_⟩, ⟨ho, hta, hp, by omega, fun k hk => hold k (by omega)⟩, fun k _ hk => hold k (fun hh => hk n q t hq hn hh.symm), ?_, by simp [AS.new, AS.kill]⟩
  · intro m u hu
    simp only [AS.new, AS.kill]
    unfold bind1 at hu
    split at hu
    · omega
    · have := hR.nx _ _ hu; omega
  · intro m u hu
    rw [hsz]
    unfold bind1 at hu
    split at hu
    · cases hu; omega
    · exact hR.ub _ _ hu
  · intro m x hm
    rcases hobj m x hm with ⟨rfl, rfl⟩ | ⟨h1, h2, h3⟩
    · exact ⟨t', o', bind1_same _ _ _, by rw [ht]; exact hB, by rw [ht, e]; simp [hlt], hO⟩
    · obtain ⟨u, x', a, b, c, d⟩ := hR.live m x h3
      refine ⟨u, x', hx _ _ a, b, ?_, d.mono hx⟩
      rw [hold]
      · exact c
      · exact fun hb => h2 (hR.inj m n x q u t h3 hq a hn hb)
  · intro m m' x x' u u' hm hm' hu hu' hb
    unfold bind1 at hu hu'
    rcases hobj m x hm with ⟨rfl, rfl⟩ | ⟨h1, h2, h3⟩ <;> rcases hobj m' x' hm' with ⟨rfl, rfl⟩ | ⟨h1', h2', h3'⟩
    · rfl
    · rw [if_pos rfl] at hu
      rw [if_neg h1'] at hu'
      cases hu
      exact absurd (hR.inj m' n _ _ u' t h3' hq hu' hn (by omega)) h2'
    · rw [if_neg h1] at hu
      rw [if_pos rfl] at hu'
      cases hu'
      exact absurd (hR.inj m n _ _ u t h3 hq hu hn (by omega)) h2
    · rw [if_neg h1] at hu
      rw [if_neg h1'] at hu'
      exact hR.inj m m' x x' u u' h3 h3' hu hu' hb
  · intro m x u hm hu _
    unfold bind1 at hu
    rcases hobj m x hm with ⟨rfl, rfl⟩ | ⟨h1, h2, h3⟩
    · rw [if_pos rfl] at hu
      cases hu
      exact ⟨n, q, t, hq, hn, ht.symm⟩
    · rw [if_neg h1] at hu
      exact ⟨m, x, u, h3, hu, rfl⟩

end
end Go.Rf
