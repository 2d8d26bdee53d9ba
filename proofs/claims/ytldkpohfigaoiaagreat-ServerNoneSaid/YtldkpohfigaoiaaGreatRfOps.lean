/- Each operation but a call: what the evaluator gives is what the model's run gives, up to the names of blocks. First part: operands, types, memory, and what reads or writes a row. -/
import Derived.Test.YtldkpohfigaoiaaGreatRfRel
import Derived.Test.YtldkpohfigaoiaaGreatRfComp
import Derived.Laws.Sem
import Derived.Laws.NewFold
namespace Go.Rf
open Go Go.RowKit

def Gives (P : Program) (B : Nat) (ρ : Ren) (s : AS) (w : World) (x : Sem Next) (v : Value) (s' : AS) : Prop :=
  ∃ ρ' u w' n, x.run P w = .ok n w' ∧ (n = .value u ∨ (n = .skip ∧ u = undef)) ∧ VRel ρ' v u ∧ Nx B ρ s w ρ' s' w'

theorem Gives.here {P : Program} {B : Nat} {ρ : Ren} {s : AS} {w : World} {x : Sem Next} {v u : Value} (h : Rel B ρ s w) (hx : x.run P w = .ok (.value u) w) (hv : VRel ρ v u) : Gives P B ρ s w x v s :=
  ⟨ρ, u, w, _, hx, .inl rfl, hv, .refl h⟩

/-- What turns nothing. -/
def Quiet (P : Program) (ρ : Ren) (s : AS) (w : World) (x : Sem Next) (v : Value) (s' : AS) : Prop := s' = s ∧ ∃ u, x.run P w = .ok (.value u) w ∧ VRel ρ v u

theorem Quiet.here {P : Program} {B : Nat} {ρ : Ren} {s : AS} {w : World} {x : Sem Next} {v u : Value} (h : Rel B ρ s w) (hx : x.run P w = .ok (.value u) w) (hv : VRel ρ v u) : Quiet P ρ s w x v s := by
  have _ := h
  exact ⟨rfl, u, hx, hv⟩

theorem Quiet.gives {P : Program} {B : Nat} {ρ : Ren} {s s' : AS} {w : World} {x : Sem Next} {v : Value} (q : Quiet P ρ s w x v s') (h : Rel B ρ s w) : Gives P B ρ s w x v s' := by
  obtain ⟨rfl, u, hx, hv⟩ := q
  exact .here h hx hv

/-- What makes one block, and turns nothing else. -/
def Alloc (P : Program) (ρ : Ren) (s : AS) (w : World) (x : Sem Next) (v : Value) (s' : AS) : Prop :=
  ∃ o t o' u w', s.roomy = true ∧ s' = s.new o ∧ x.run P w = .ok (.value u) w' ∧ t.blk = w.heap.size ∧ w'.heap = w.heap.push o' ∧ w'.os = w.os ∧ w'.tape = w.tape ∧ w'.output = w.output ∧
    ORel (bind1 ρ s.next t) t o o' ∧ VRel (bind1 ρ s.next t) v u

theorem Alloc.gives {P : Program} {B : Nat} {ρ : Ren} {s s' : AS} {w : World} {x : Sem Next} {v : Value} (q : Alloc P ρ s w x v s') (h : Rel B ρ s w) : Gives P B ρ s w x v s' := by
  obtain ⟨o, t, o', u, w', hr, rfl, hx, h1, h2, h3, h4, h5, h6, h7⟩ := q
  exact ⟨_, u, w', _, hx, .inl rfl, h7, Nx.new h hr t h1 h2 h3 h4 h5 h6⟩

theorem ext1_of {ρ : Ren} {n : Nat} (h : ρ n = none) (t : Tgt) : Ext ρ (bind1 ρ n t) := fun m u e => by
  unfold bind1
  split
  · rename_i hm; rw [hm, h] at e; cases e
  · exact e

/-- What runs to a value, in the place of an operation. -/
theorem run_v {P : Program} {x : Sem Value} {w w' : World} {u : Value} (h : x.run P w = .ok u w') : (do pure (Next.value (← x)) : Sem Next).run P w = .ok (.value u) w' := by
  simp [h]

theorem run_u {P : Program} {x : Sem Unit} {w w' : World} (h : x.run P w = .ok () w') : (do x; pure Next.skip : Sem Next).run P w = .ok .skip w' := by
  simp [h]

/-! Operands. -/
theorem opd_rel {ρ : Ren} {r : Tr Value} {a : Act} (hr : RegsRel ρ r a.tmps) {x : Operand} {y : Opd} (hc : opdOf x = some y) {v : Value} (h : y.ev r = some v) : VRel ρ v (a.eval x) := by
  cases x with
  | tmp t =>
    simp only [opdOf, Option.some.injEq] at hc
    subst hc
    obtain ⟨u, h1, h2⟩ := hr t v h
    simp only [Act.eval, Array.getD_eq_getD_getElem?, h1]
    exact h2
  | const c =>
    simp only [opdOf] at hc
    split at hc
    · rename_i hp
      cases hc
      simp only [Opd.ev, Option.some.injEq] at h
      subst h
      exact pure_rel ρ _ _ hp
    · cases hc
  | func f =>
    simp only [opdOf, Option.some.injEq] at hc
    subst hc
    simp only [Opd.ev, Option.some.injEq] at h
    subst h
    exact .func _ _ _ _ _ .nil .nil
  | global g => simp [opdOf] at hc

theorem opds_rel {ρ : Ren} {r : Tr Value} {a : Act} (hr : RegsRel ρ r a.tmps) : ∀ {l : List Operand} {ys : List Opd}, opdsOf l = some ys → ∀ {vs : List Value}, evs r ys = some vs → VsRel ρ vs (l.map a.eval)
  | [], ys, hc, vs, h => by
    simp only [opdsOf, Option.some.injEq] at hc
    subst hc
    simp only [evs, Option.some.injEq] at h
    subst h
    exact .nil
  | x :: l, ys, hc, vs, h => by
    simp only [opdsOf] at hc
    cases hx : opdOf x with
    | none => simp [hx] at hc
    | some y =>
      cases hl : opdsOf l with
      | none => simp [hx, hl] at hc
      | some m =>
        simp only [hx, hl, Option.some.injEq] at hc
        subst hc
        simp only [evs] at h
        cases hv : y.ev r with
        | none => simp [hv] at h
        | some v =>
          cases hm : evs r m with
          | none => simp [hv, hm] at h
          | some q =>
            simp only [hv, hm, Option.some.injEq] at h
            subst h
            exact .cons _ _ _ _ (opd_rel hr hx hv) (opds_rel hr hl hm)

inductive PsRel (ρ : Ren) : List (Nat × Value) → List (Nat × Value) → Prop
  | nil : PsRel ρ [] []
  | cons (i : Nat) (v u : Value) (l m : List (Nat × Value)) : VRel ρ v u → PsRel ρ l m → PsRel ρ ((i, v) :: l) ((i, u) :: m)

theorem parts_rel {ρ : Ren} {r : Tr Value} {a : Act} (hr : RegsRel ρ r a.tmps) : ∀ {l : List (Nat × Operand)} {ys : List (Nat × Opd)}, partsOf l = some ys → ∀ {vs : List (Nat × Value)}, evps r ys = some vs →
    PsRel ρ vs (l.map fun p => (p.1, a.eval p.2))
  | [], ys, hc, vs, h => by
    simp only [partsOf, Option.some.injEq] at hc
    subst hc
    simp only [evps, Option.some.injEq] at h
    subst h
    exact .nil
  | (i, x) :: l, ys, hc, vs, h => by
    simp only [partsOf] at hc
    cases hx : opdOf x with
    | none => simp [hx] at hc
    | some y =>
      cases hl : partsOf l with
      | none => simp [hx, hl] at hc
      | some m =>
        simp only [hx, hl, Option.some.injEq] at hc
        subst hc
        simp only [evps] at h
        cases hv : y.ev r with
        | none => simp [hv] at h
        | some v =>
          cases hm : evps r m with
          | none => simp [hv, hm] at h
          | some q =>
            simp only [hv, hm, Option.some.injEq] at h
            subst h
            exact .cons _ _ _ _ _ (opd_rel hr hx hv) (parts_rel hr hl hm)

/-! Types. -/
section
variable {P : Program} {w : World}

theorem run_und {t : TypeId} {d : TypeDesc} (h : P.underlying t = some d) : (underlying t).run P w = .ok d w := by simp [underlying, h]
theorem run_size {t : TypeId} {n : Nat} (h : sizeT P t = some n) : (sizeOf t).run P w = .ok n w := by
  unfold sizeT at h
  cases hi : P.info? t with
  | none => simp [hi] at h
  | some i => simp [hi] at h; simp [sizeOf, typeInfo, hi, h]
theorem run_agg {t : TypeId} {b : Bool} (h : aggT P t = some b) : (isAgg t).run P w = .ok b w := by
  unfold aggT at h
  cases hu : P.underlying t with
  | none => simp [hu] at h
  | some d =>
    cases d <;> simp [hu] at h <;> subst h <;> simp [isAgg, run_und hu]
theorem zeroT_some {t : TypeId} {z : Value} (h : zeroT P t = some z) : (zeroValue t).run P w = .ok z w ∧ pureV 12 z = true := by
  unfold zeroT at h
  cases hi : P.info? t with
  | none => simp [hi] at h
  | some i =>
    cases hz : i.zero with
    | none => simp [hi, hz] at h
    | some y =>
      simp only [hi, hz] at h
      split at h
      · rename_i hp
        cases h
        exact ⟨by simp [zeroValue, typeInfo, hi, hz], hp⟩
      · cases h
end

/-! Memory. -/
theorem add_addr (b i n : Nat) : (⟨b, i, none⟩ : Addr).add n = ⟨b, i + n, none⟩ := by
  unfold Addr.add
  split
  · rename_i h; simp [h]
  · rfl

theorem cell_row {w : World} {b : Nat} {c : Array Value} {e : TypeId} {fz : Nat × Nat} (h : w.heap[b]? = some (.cells c e fz)) (i : Nat) : w.cell? ⟨b, i, none⟩ = c[i]? := by
  simp [World.cell?, h]

theorem run_load1 {P : Program} {w : World} {a : Addr} {v : Value} (h : w.cell? a = some v) : (load a).run P w = .ok v w := by
  simp [load, Sem.run, h]

theorem loads {P : Program} {B : Nat} {ρ : Ren} {s : AS} {w : World} (h : Rel B ρ s w) {n i k : Nat} {cs : List Value} {e : TypeId} {pl : Bool} {z : Nat} {t : Tgt} (ho : s.obj n = some (.row cs e pl z)) (ht : ρ n = some t)
    {vs : List Value} (hs : seg cs i k = some vs) : ∃ us, (loadCells ⟨t.blk, i + t.sh, none⟩ k).run P w = .ok us w ∧ VsRel ρ vs us.toList := by
  obtain ⟨c, fz, hb, _, h3, h4, h5, _⟩ := h.row ho ht
  obtain ⟨_, hle, hlen⟩ := seg_some hs
  have hcell : ∀ j, j < k → ∃ u, c[i + t.sh + j]? = some u ∧ ∀ v, vs[j]? = some v → VRel ρ v u := by
    intro j hj
    have hj' : i + j < cs.length := by omega
    obtain ⟨u, hu, hv⟩ := h5 (i + j) _ (List.getElem?_eq_getElem hj')
    refine ⟨u, by rw [← hu]; congr 1; omega, fun v hvj => ?_⟩
    rw [seg_get hs j hj, List.getElem?_eq_getElem hj'] at hvj
    cases hvj
    exact hv
  refine ⟨((List.range k).map fun j => c.getD (i + t.sh + j) undef).toArray, ?_, ?_⟩
  · refine run_loadCells w _ k _ fun j hj => ?_
    obtain ⟨u, hu, _⟩ := hcell j hj
    rw [add_addr, cell_row hb, hu]
    simp [Array.getD_eq_getD_getElem?, hu]
  · refine VsRel.of_get _ _ (by simp [hlen]) fun j v hv => ?_
    have hj : j < k := by have := (List.getElem?_eq_some_iff.1 hv).1; omega
    obtain ⟨u, hu, hr⟩ := hcell j hj
    exact ⟨u, by simp [hj, Array.getD_eq_getD_getElem?, hu], hr v hv⟩

theorem load_one {P : Program} {B : Nat} {ρ : Ren} {s : AS} {w : World} (h : Rel B ρ s w) {n i : Nat} {cs : List Value} {e : TypeId} {pl : Bool} {z : Nat} {t : Tgt} (ho : s.obj n = some (.row cs e pl z)) (ht : ρ n = some t)
    {v : Value} (hs : nth cs i = some v) : ∃ u, (load ⟨t.blk, i + t.sh, none⟩).run P w = .ok u w ∧ VRel ρ v u := by
  obtain ⟨c, fz, hb, _, h3, h4, h5, _⟩ := h.row ho ht
  rw [nth_eq] at hs
  obtain ⟨u, hu, hv⟩ := h5 i v hs
  exact ⟨u, run_load1 (by rw [cell_row hb]; exact hu), hv⟩

/-- Cells written: the row of the block, and nothing else. -/
theorem heap_setCells (w : World) (b : Nat) : ∀ (vs : List Value) (o : Nat) (c : Array Value) (e : TypeId) (fz : Nat × Nat), w.heap[b]? = some (.cells c e fz) → o + vs.length ≤ c.size →
    ∃ c', (w.setCells b o vs).heap = w.heap.setIfInBounds b (.cells c' e fz) ∧ c'.size = c.size ∧ (∀ j, c'[j]? = if o ≤ j ∧ j < o + vs.length then vs[j - o]? else c[j]?) ∧
      (w.setCells b o vs).os = w.os ∧ (w.setCells b o vs).tape = w.tape ∧ (w.setCells b o vs).output = w.output
  | [], o, c, e, fz, h, hl => by
    refine ⟨c, ?_, rfl, fun j => by simp; omega, rfl, rfl, rfl⟩
    have hlt : b < w.heap.size := (Array.getElem?_eq_some_iff.1 h).1
    have hv : w.heap[b] = .cells c e fz := (Array.getElem?_eq_some_iff.1 h).2
    show w.heap = _
    rw [← hv]
    simp [Array.setIfInBounds, hlt]
  | v :: vs, o, c, e, fz, h, hl => by
    have hlt : b < w.heap.size := (Array.getElem?_eq_some_iff.1 h).1
    have hheap : (w.setCell ⟨b, o, none⟩ v).heap = w.heap.setIfInBounds b (.cells (c.setIfInBounds o v) e fz) := by
      have hv : w.heap[b] = .cells c e fz := (Array.getElem?_eq_some_iff.1 h).2
      apply Array.ext_getElem?
      intro j
      simp only [World.setCell, Array.getElem?_modify, Array.getElem?_setIfInBounds]
      by_cases hj : b = j
      · subst hj; simp [hlt, hv]
      · simp [hj]
    have h1 : (w.setCell ⟨b, o, none⟩ v).heap[b]? = some (.cells (c.setIfInBounds o v) e fz) := by rw [hheap]; simp [hlt]
    obtain ⟨c', a1, a2, a3, a4, a5, a6⟩ := heap_setCells (w.setCell ⟨b, o, none⟩ v) b vs (o + 1) _ e fz h1 (by simp at hl ⊢; omega)
    refine ⟨c', ?_, by simpa using a2, fun j => ?_, a4, a5, a6⟩
    · show ((w.setCell ⟨b, o, none⟩ v).setCells b (o + 1) vs).heap = _
      rw [a1, hheap]
      simp
    · rw [a3]
      simp only [List.length_cons] at hl ⊢
      by_cases hc : o + 1 ≤ j ∧ j < o + 1 + vs.length
      · rw [if_pos hc, if_pos (by omega)]
        have : j - o = (j - (o + 1)) + 1 := by omega
        rw [this, List.getElem?_cons_succ]
      · rw [if_neg hc]
        by_cases hj : j = o
        · subst hj
          have : j < c.size := by omega
          rw [if_pos (by omega)]
          simp [this]
        · rw [if_neg (by omega), Array.getElem?_setIfInBounds_ne (Ne.symm hj)]

theorem frozen_row {w : World} {b : Nat} {c : Array Value} {e : TypeId} {fz : Nat × Nat} (h : w.heap[b]? = some (.cells c e fz)) (i : Nat) (hn : ¬ (fz.1 ≤ i ∧ i < fz.2)) : w.frozen? ⟨b, i, none⟩ = false := by
  simp only [World.frozen?, h]
  by_cases h1 : fz.1 ≤ i
  · have h2 : ¬ i < fz.2 := fun x => hn ⟨h1, x⟩
    simp [h2]
  · simp [h1]

theorem run_stores {P : Program} {w : World} {b i : Nat} {c : Array Value} {e : TypeId} {fz : Nat × Nat} {us : List Value} (h : w.heap[b]? = some (.cells c e fz)) (hl : i + us.length ≤ c.size)
    (hf : ∀ j, j < us.length → ¬ (fz.1 ≤ i + j ∧ i + j < fz.2)) (hp : ∀ u ∈ us, u.oneCell' = true) : (storeCells ⟨b, i, none⟩ us).run P w = .ok () (w.setCells b i us) := by
  have := run_storeCells_cells (P := P) b i us 0 w (fun j hj => by rw [cell_row h]; simp; omega) (fun j hj => frozen_row h _ (by simpa using hf j hj)) hp
  simpa using this

/-- A store into a row of the heap: at 'i', as many cells as 'vs' has, the row known that far. -/
theorem store_row {P : Program} {B : Nat} {ρ : Ren} {s : AS} {w : World} (h : Rel B ρ s w) {n i : Nat} {cs cs' : List Value} {e : TypeId} {pl : Bool} {z : Nat} {t : Tgt} (ho : s.obj n = some (.row cs e pl z)) (ht : ρ n = some t)
    {vs us : List Value} (hv : VsRel ρ vs us) (hp : allPlain vs = true) (hw : overAt cs i vs = some cs') :
    ∃ w', (storeCells ⟨t.blk, i + t.sh, none⟩ us).run P w = .ok () w' ∧ Nx B ρ s w ρ (s.put n (.row cs' e pl z)) w' := by
  obtain ⟨c, fz, hb, h2, h3, h4, h5, h6, h7⟩ := h.row ho ht
  obtain ⟨hle, hlen, hget⟩ := overAt_some cs i vs cs' hw
  have hul := hv.length
  by_cases hvs : vs = []
  · subst hvs
    have hus : us = [] := by simpa using hul
    subst hus
    refine ⟨w, rfl, ?_⟩
    have hcs : cs' = cs := by
      apply List.ext_getElem?
      intro j
      rw [hget j, if_neg (by simp)]
    subst hcs
    refine Nx.put (o' := .cells c e fz) h ho ht ?_ rfl rfl rfl ⟨rfl, h2, h3, h4, h5, h6, h7⟩
    have hlt : t.blk < w.heap.size := (Array.getElem?_eq_some_iff.1 hb).1
    have hv : w.heap[t.blk] = .cells c e fz := (Array.getElem?_eq_some_iff.1 hb).2
    rw [← hv]
    simp [Array.setIfInBounds, hlt]
  · rw [if_neg hvs] at hle
    have hle' : i + t.sh + us.length ≤ c.size := by omega
    refine ⟨w.setCells t.blk (i + t.sh) us, run_stores hb hle' (fun j hj => h6 _ (by omega) (by omega)) (hv.plain hp), ?_⟩
    obtain ⟨c', a1, a2, a3, a4, a5, a6⟩ := heap_setCells w t.blk us (i + t.sh) c e fz hb hle'
    refine Nx.put (o' := .cells c' e fz) h ho ht a1 a4 a5 a6 ⟨rfl, h2, by omega, by omega, fun j v hj => ?_, h6, h7⟩
    rw [hget j] at hj
    rw [a3]
    by_cases hc : i ≤ j ∧ j < i + vs.length
    · rw [if_pos hc] at hj
      rw [if_pos (by omega)]
      obtain ⟨u, q1, q2⟩ := hv.get _ _ hj
      exact ⟨u, by rw [← q1]; congr 1; omega, q2⟩
    · rw [if_neg hc] at hj
      rw [if_neg (by omega)]
      exact h5 j v hj

/-- A new row. -/
theorem new_row {P : Program} {ρ : Ren} {s : AS} {w : World} (hn : ρ s.next = none) {cs : List Value} {us : Array Value} (hv : VsRel ρ cs us.toList) (e : TypeId) (z : Nat) :
    (newRow e us).run P w = .ok ⟨w.heap.size, 0, none⟩ (w.alloc (.cells us e)) ∧
    ORel (bind1 ρ s.next ⟨w.heap.size, 0, cs.length, z⟩) ⟨w.heap.size, 0, cs.length, z⟩ (.row cs e true z) (.cells us e) := by
  refine ⟨by simp [newRow], ?_⟩
  have hl := hv.length
  refine ⟨rfl, rfl, Nat.le_refl _, by simp at hl ⊢; omega, fun i v hi => ?_, fun j _ _ => by simp, fun _ => rfl⟩
  obtain ⟨u, a, b⟩ := hv.get i v hi
  exact ⟨u, by simpa using a, b.mono (ext1_of hn _)⟩

theorem bind1_same (ρ : Ren) (n : Nat) (t : Tgt) : bind1 ρ n t n = some t := by simp [bind1]

theorem mk_some {s : AS} {o : AObj} {f : Nat → Value} {v : Value} {s' : AS} (h : mk s o f = some (v, s')) : s.roomy = true ∧ v = f s.next ∧ s' = s.new o := by
  unfold mk at h
  split at h
  · rename_i hr
    simp only [Option.some.injEq, Prod.mk.injEq] at h
    exact ⟨hr, h.1.symm, h.2.symm⟩
  · cases h

end Go.Rf
