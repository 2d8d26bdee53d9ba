/- A region that draws its order, fourth part: the step that takes in what was run early, the step that writes, and the whole. -/
import Derived.Test.YtldkpohfigaoiaaGreatRfDraw3
namespace Go.Rf
open Go Go.RowKit

section
variable {P : Program} {callf : Nat → List Value → AS → Res}
variable {ops : Array Oper} {l : List Item} {ord : List Nat} {its : List Item} {pr : List (List Nat)} {M : List Nat} {R : Nat → Tr Value} {S : Nat → AS} {V : Nat → Value} {W : Nat → Bool} {old : Nat → List AS} {B : Nat} {ρ0 : Ren} {w0 : World} {a0 : Act}

theorem res_up {N N' : Nat} {ρ : Ren} (h : N ≤ N') : Ext (res N ρ) (res N' ρ) := fun k t e => by
  obtain ⟨h1, h2⟩ := res_some e
  rw [res_lt (by omega)]
  exact h2

/-- What was run early is taken in when its place comes. -/
theorem DInv.take (C : Ctx P callf ops l ord its pr M R S V W old B ρ0 w0 a0) {D : Nat → Bool} {m : Nat} {ρE : Ren} {a : Act} {w : World} (I : DInv ops its pr R S V W B ρ0 w0 a0 D m ρE a w) (hD : D m = true) (hm : m < ops.size) :
    DInv ops its pr R S V W B ρ0 w0 a0 D (m + 1) ρE a w := by
  obtain ⟨it, hit⟩ := C.get (q := m) hm
  have hc := I.early m it (Nat.le_refl _) hit hD
  have hpre : ∀ q, q < m + 1 → D q = true := fun q hq => by
    rcases Nat.lt_succ_iff_lt_or_eq.1 hq with h | h
    · exact I.pre q h
    · rw [h]; exact hD
  by_cases hs : it.op.cls ≤ 1 ∨ W m = false
  · have hS := C.same hit hs
    have hne : ∀ q it', m ≤ q → its[q]? = some it' → W q = true → it'.op.cls = 2 → m + 1 ≤ q := by
      intro q it' h1 h2 h3 h4
      rcases Nat.lt_or_ge m q with h | h
      · exact h
      · have : q = m := by omega
        subst this
        rw [hit] at h2
        cases h2
        rcases hs with h | h
        · omega
        · rw [h3] at h; cases h
    refine ⟨by omega, I.closed, hpre, fun q it' h1 h2 h3 => I.early q it' (by omega) h2 h3, by rw [hS]; exact I.nx, I.regs, I.defs, fun k t h => ?_, fun q it' h1 h2 h3 h4 h5 => ?_, fun q q' it1 it2 t1 t2 a1 a2 => I.gdis q q' it1 it2 t1 t2 (by omega) (by omega)⟩
    · rw [hS]
      rcases I.dom k t h with h | ⟨q', it', d1, d2, d3, d4, d5, d6⟩
      · exact .inl h
      · exact .inr ⟨q', it', hne q' it' d1 d2 d4 d5, d2, d3, d4, d5, d6⟩
    · rw [hS]
      exact I.gar q it' (by omega) h2 h3 h4 h5
  · have hW : W m = true := by
      cases h : W m with
      | true => rfl
      | false => exact absurd (.inr h) hs
    have hc2 : it.op.cls = 2 := by
      rcases Nat.lt_or_ge it.op.cls 2 with h | h
      · exact absurd (.inl (by omega)) hs
      · omega
    obtain ⟨o, t, o', g1, g2, g3, g4, g5, g6⟩ := I.gar m it (Nat.le_refl _) hit hD hW hc2
    have hroom := C.roomy hit hc2 hW
    have hnext := C.allocNext hit hc2 hW
    have hobj : ∀ k, (S (m + 1)).obj k = if k = (S m).next then some o else (S m).obj k := fun k => by rw [g1]; exact AS.obj_new hroom k
    have hn := I.nx
    have hR := hn.rel
    have hup : Ext (res (S m).next ρE) (res (S (m + 1)).next ρE) := res_up (by omega)
    have hlt : t.blk < w.heap.size := (Array.getElem?_eq_some_iff.1 g4).1
    have hB := C.rel0.base
    refine ⟨by omega, I.closed, hpre, fun q it' h1 h2 h3 => I.early q it' (by omega) h2 h3, ⟨hn.ext.trans hup, ⟨hR.base, fun k t' h => (res_some h).1, fun k t' h => ?_, fun k o2 h => ?_, fun k k' o1 o2 t1 t2 h1 h2 h3 h4 h5 => ?_⟩, hn.below, hn.fr, fun k o2 t2 h1 h2 h3 => ?_, by have := hn.nmono; omega⟩, I.regs, I.defs, fun k t' h => ?_, fun q it' h1 h2 h3 h4 h5 => ?_, fun q q' it1 it2 t1 t2 a1 a2 => I.gdis q q' it1 it2 t1 t2 (by omega) (by omega)⟩
    · obtain ⟨h1, h2⟩ := res_some h
      by_cases hk : k = (S m).next
      · rw [hk, g2] at h2
        cases h2
        exact hlt
      · exact hR.ub k t' (by rw [res_lt (by omega)]; exact h2)
    · rw [hobj] at h
      split at h
      · rename_i hk
        cases h
        obtain ⟨ρc, ac, wc, k1, k2⟩ := C.canon (m + 1) (by omega)
        obtain ⟨tc, oc, e1, e2, e3, e4⟩ := k1.live (S m).next o (by rw [hobj, if_pos rfl])
        exact ⟨t, o', by rw [hk, res_lt (by omega)]; exact g2, by omega, g4, g5.restrict k1.nx e4⟩
      · obtain ⟨t1, o1, e1, e2, e3, e4⟩ := hR.live k o2 h
        exact ⟨t1, o1, hup _ _ e1, e2, e3, e4.mono hup⟩
    · obtain ⟨b1, b2⟩ := res_some h3
      obtain ⟨b3, b4⟩ := res_some h4
      rw [hobj] at h1 h2
      split at h1 <;> split at h2
      · rename_i e1 e2; rw [e1, e2]
      · rename_i e1 e2
        rw [e1, g2] at b2
        cases b2
        exact absurd h5.symm (g6 k' o2 t2 h2 (by omega) b4)
      · rename_i e1 e2
        rw [e2, g2] at b4
        cases b4
        exact absurd h5 (g6 k o1 t1 h1 (by omega) b2)
      · rename_i e1 e2
        exact hR.inj k k' o1 o2 t1 t2 h1 h2 (by rw [res_lt (by omega)]; exact b2) (by rw [res_lt (by omega)]; exact b4) h5
    · obtain ⟨b1, b2⟩ := res_some h2
      rw [hobj] at h1
      split at h1
      · rename_i e
        rw [e, g2] at b2
        cases b2
        omega
      · exact hn.ow k o2 t2 h1 (by rw [res_lt (by omega)]; exact b2) h3
    · rcases I.dom k t' h with h | ⟨q', it', d1, d2, d3, d4, d5, d6⟩
      · exact .inl (by omega)
      · by_cases hq : q' = m
        · subst hq; exact .inl (by omega)
        · exact .inr ⟨q', it', by omega, d2, d3, d4, d5, d6⟩
    · obtain ⟨o1, t1, o1', f1, f2, f3, f4, f5, f6⟩ := I.gar q it' (by omega) h2 h3 h4 h5
      refine ⟨o1, t1, o1', f1, f2, f3, f4, f5, fun k o2 t2 e1 e2 e3 => ?_⟩
      rw [hobj] at e1
      split at e1
      · rename_i hk
        rw [hk] at e3
        exact I.gdis m q it it' t2 t1 (Nat.le_refl _) (by omega) (by omega) hit h2 hD h3 hW h4 hc2 h5 e3 f2
      · exact f6 k o2 t2 e1 (by omega) e3

theorem DInv.takes (C : Ctx P callf ops l ord its pr M R S V W old B ρ0 w0 a0) {D : Nat → Bool} {ρE : Ren} {a : Act} {w : World} {m : Nat} (I : DInv ops its pr R S V W B ρ0 w0 a0 D m ρE a w) : ∀ j, m ≤ j → j ≤ ops.size → (∀ q, q < j → D q = true) →
    DInv ops its pr R S V W B ρ0 w0 a0 D j ρE a w := by
  intro j
  induction j with
  | zero => intro h _ _; rw [Nat.le_zero.1 h] at I; exact I
  | succ j ih =>
    intro h1 h2 h3
    by_cases e : m = j + 1
    · rw [← e]; exact I
    · exact (ih (by omega) (by omega) (fun q hq => h3 q (by omega))).take C (h3 j (by omega)) (by omega)

/-- An operation that writes: all the elder places have been run. -/
theorem DInv.heavy (C : Ctx P callf ops l ord its pr M R S V W old B ρ0 w0 a0) {D : Nat → Bool} {m : Nat} {ρE : Ren} {a : Act} {w : World} (I : DInv ops its pr R S V W B ρ0 w0 a0 D m ρE a w) {q : Nat} {it : Item} (hit : its[q]? = some it) (hq : D q = false)
    (hp : ∀ p, p ∈ pr.getD q [] → D p = true) (hc : it.op.cls = 3) {K : Act → World → Prop} {Q : Exit → Act → World → Prop}
    (hk : ∀ ρE' a' w', DInv ops its pr R S V W B ρ0 w0 a0 (fun n => D n || n == q) (q + 1) ρE' a' w' → K a' w') : wpOp P ops Q (ord.getD q 0) K a w := by
  have hlt := C.lt hit
  have hmq : m ≤ q := by
    rcases Nat.lt_or_ge q m with h | h
    · rw [I.pre q h] at hq; cases hq
    · exact h
  have hall : ∀ p, p < q → D p = true := fun p h => C.anc I.closed q hlt hp p h (C.plan.eff p q it h hit hc)
  have I := I.takes C q hmq (by omega) hall
  obtain ⟨o, ho, hi⟩ := C.item q it hit
  obtain ⟨s1, s2, s3, s4, _⟩ := C.tr.step q it hit
  have hlook := I.looks C hit hq hp
  have hwt : Region.wanted o (yielded ops a.tmps) = W q := by
    refine wanted_rel (ops := ops) (r := R q) (ρ := res (S q).next ρE) hi (fun t v hg hv => ?_) s1
    obtain ⟨b, hg⟩ := hg
    exact hlook t v (by rw [Tr.get_keep, if_pos (by simpa using guard_looks hg)]; exact hv)
  unfold wpOp
  simp only [ho]
  rw [hwt]
  have hDq : ∀ q', (D q' || q' == q) = true → q' ≠ q → D q' = true := fun q' h1 h2 => by
    simp only [Bool.or_eq_true, beq_iff_eq] at h1
    exact h1.resolve_right h2
  have pre' : ∀ q', q' < q + 1 → (D q' || q' == q) = true := fun q' h => by
    rcases Nat.lt_succ_iff_lt_or_eq.1 h with h | h
    · simp [hall q' h]
    · simp [h]
  have early' : ∀ q' it', q + 1 ≤ q' → its[q']? = some it' → (D q' || q' == q) = true → it'.op.cls ≤ 2 := fun q' it' h1 h2 h3 => I.early q' it' (by omega) h2 (hDq q' h3 (by omega))
  cases hW : W q with
  | false =>
    simp only [Bool.false_eq_true, if_false]
    rw [← hi.dst]
    obtain ⟨hV, hS⟩ := s3 hW
    refine hk ρE _ w ⟨by omega, closed_add I.closed hp, pre', early', by rw [hS]; exact I.nx, I.regs' C hit hq (.refl _) (by rw [hV]; exact undef_rel _), by rw [← I.defs]; cases it.dst <;> rfl, fun k t h => ?_, fun q' it' h1 h2 h3 h4 h5 => ?_,
      fun q1 q2 it1 it2 t1 t2 b1 b2 b3 b4 b5 b6 b7 => I.gdis q1 q2 it1 it2 t1 t2 (by omega) (by omega) b3 b4 b5 (hDq q1 b6 (by omega)) (hDq q2 b7 (by omega))⟩
    · rw [hS]
      rcases I.dom k t h with h | ⟨q', it', d1, d2, d3, d4, d5, d6⟩
      · exact .inl h
      · have hne : q' ≠ q := fun e => by rw [e, hq] at d3; cases d3
        exact .inr ⟨q', it', by omega, d2, by simp [d3], d4, d5, d6⟩
    · rw [hS]
      exact I.gar q' it' (by omega) h2 (hDq q' h3 (by omega)) h4 h5
  | true =>
    simp only [if_true]
    left
    obtain ⟨hev, _⟩ := s2 hW
    have hev2 := hev
    rw [← keep_ev] at hev2
    refine op_wp C.call I.nx.rel hlook hi.op hev2 fun ρ' u w' hu hn => ?_
    rw [← hi.dst]
    have hlow : ∀ k t, ρE k = some t → k < (S q).next ∨ (S (q + 1)).next ≤ k := by
      intro k t h
      rcases I.dom k t h with h | ⟨q', it', d1, d2, d3, d4, d5, d6⟩
      · exact .inl h
      · have hne : q' ≠ q := fun e => by rw [e, hq] at d3; cases d3
        have := C.next (p := q + 1) q' (by omega) (by have := C.lt d2; omega)
        exact .inr (by omega)
    have hkeep : ∀ k t, ρE k = some t → k < (S q).next → ρ' k = some t := fun k t h1 h2 => hn.ext k t (by rw [res_lt h2]; exact h1)
    have hx : Ext ρE (fun k => match ρ' k with | some t => some t | none => ρE k) := by
      intro k t h
      rcases hlow k t h with h1 | h1
      · simp only [hkeep k t h h1]
      · cases hh : ρ' k with
        | none => simpa only [hh] using h
        | some t' => have := hn.rel.nx k t' hh; omega
    have hx' : Ext ρ' (fun k => match ρ' k with | some t => some t | none => ρE k) := fun k t h => by simp only [h]
    have hres : res (S (q + 1)).next (fun k => match ρ' k with | some t => some t | none => ρE k) = ρ' := by
      funext k
      unfold res
      split
      · rename_i hk'
        cases hh : ρ' k with
        | some t => simp only [hh]
        | none =>
          simp only [hh]
          cases he : ρE k with
          | none => rfl
          | some t =>
            rcases hlow k t he with h1 | h1
            · rw [hkeep k t he h1] at hh; cases hh
            · omega
      · rename_i hk'
        cases hh : ρ' k with
        | none => rfl
        | some t => have := hn.rel.nx k t hh; omega
    refine hk _ _ w' ⟨by omega, closed_add I.closed hp, pre', early', by rw [hres]; exact I.nx.trans hn, I.regs' C hit hq hx (hu.mono hx'), by rw [← I.defs]; cases it.dst <;> rfl, fun k t h => ?_, fun q' it' h1 h2 h3 h4 h5 => ?_, fun q1 q2 it1 it2 t1 t2 b1 b2 b3 b4 b5 b6 b7 c1 c2 c3 c4 c5 c6 => ?_⟩
    · cases hh : ρ' k with
      | some t' => exact .inl (hn.rel.nx k t' hh)
      | none =>
        simp only [hh] at h
        rcases I.dom k t h with h | ⟨q', it', d1, d2, d3, d4, d5, d6⟩
        · exact .inl (by have := hn.nmono; omega)
        · have hne : q' ≠ q := fun e => by rw [e, hq] at d3; cases d3
          exact .inr ⟨q', it', by omega, d2, by simp [d3], d4, d5, d6⟩
    · obtain ⟨o1, t1, o1', f1, f2, f3, f4, f5, f6⟩ := I.gar q' it' (by omega) h2 (hDq q' h3 (by omega)) h4 h5
      have hsz := (Array.getElem?_eq_some_iff.1 f4).1
      refine ⟨o1, t1, o1', f1, hx _ _ f2, f3, ?_, f5.mono hx, fun k o2 t2 e1 e2 e3 => ?_⟩
      · rw [hn.fr t1.blk hsz (fun k o2 t2 e1 e2 => by
          obtain ⟨e3, e4⟩ := res_some e2
          exact f6 k o2 t2 e1 e3 e4)]
        exact f4
      · have e4 : ρ' k = some t2 := by rw [← hres, res_lt e2]; exact e3
        intro hb
        obtain ⟨k', o3, t3, x1, x2, x3⟩ := hn.ow k o2 t2 e1 e4 (by omega)
        obtain ⟨x4, x5⟩ := res_some x2
        exact f6 k' o3 t3 x1 x4 x5 (x3.trans hb)
    · obtain ⟨_, u1, _, _, g1, _⟩ := I.gar q1 it1 (by omega) b4 (hDq q1 b6 (by omega)) c1 c3
      obtain ⟨_, u2, _, _, g2, _⟩ := I.gar q2 it2 (by omega) b5 (hDq q2 b7 (by omega)) c2 c4
      have e1 := hx _ _ g1
      have e2 := hx _ _ g2
      cases Option.some.inj (e1.symm.trans c5)
      cases Option.some.inj (e2.symm.trans c6)
      exact I.gdis q1 q2 it1 it2 _ _ (by omega) (by omega) b3 b4 b5 (hDq q1 b6 (by omega)) (hDq q2 b7 (by omega)) c1 c2 c3 c4 g1 g2

theorem cls_le (c : COp) : c.cls ≤ 3 := by
  cases c <;> simp [COp.cls]
  split <;> omega

theorem count_set : ∀ (l : List Bool) (i : Nat), l[i]? = some false → (l.set i true).countP (fun b => !b) + 1 = l.countP (fun b => !b)
  | [], i, h => by simp at h
  | b :: l, 0, h => by
    simp only [List.getElem?_cons_zero, Option.some.injEq] at h
    subst h
    simp [List.countP_cons]
  | b :: l, i + 1, h => by
    simp only [List.getElem?_cons_succ] at h
    have := count_set l i h
    simp only [List.set_cons_succ, List.countP_cons]
    omega

theorem mapM_get {α β : Type} {f : α → Option β} : ∀ {l : List α} {m : List β}, l.mapM f = some m → ∀ {i : Nat} {y : β}, m[i]? = some y → ∃ x, l[i]? = some x ∧ f x = some y
  | [], m, h, i, y, hy => by simp at h; subst h; simp at hy
  | x :: l, m, h, i, y, hy => by
    simp only [List.mapM_cons, Option.bind_eq_bind, Option.pure_def] at h
    obtain ⟨z, hz, h⟩ := bind_some' h
    obtain ⟨m', hm, h⟩ := bind_some' h
    cases h
    cases i with
    | zero =>
      simp only [List.getElem?_cons_zero, Option.some.injEq] at hy
      subst hy
      exact ⟨x, by simp, hz⟩
    | succ i =>
      simp only [List.getElem?_cons_succ] at hy
      simpa using mapM_get hm hy

/-- Places and their numbers. -/
def Listed (ops : Array Oper) (ord : List Nat) (D : Nat → Bool) (listed : Array Bool) : Prop := ∀ q, q < ops.size → D q = listed.getD (ord.getD q 0) false

theorem Plan.place {ops : Array Oper} {l : List Item} {ord : List Nat} {its : List Item} {pr : List (List Nat)} {M : List Nat} (p : Plan ops l ord its pr M) {i : Nat} (h : i < ops.size) : ∃ q, q < ops.size ∧ ord.getD q 0 = i := by
  obtain ⟨q, hq, e⟩ := List.mem_iff_getElem.1 (p.all i h)
  exact ⟨q, by rw [← p.len]; exact hq, by simp [List.getD, hq, e]⟩

theorem ready_none (C : Ctx P callf ops l ord its pr M R S V W old B ρ0 w0 a0) {D : Nat → Bool} {listed : Array Bool} (hs : listed.size = ops.size) (hL : Listed ops ord D listed) (h : Region.ready .any ops listed = []) : ∀ q, q < ops.size → D q = true := by
  intro q
  induction q using Nat.strongRecOn with
  | _ q ih =>
    intro hq
    cases hD : D q with
    | true => rfl
    | false =>
      exfalso
      have hlt := C.plan.lt q hq
      rw [hL q hq] at hD
      have hm : ord.getD q 0 ∈ Region.ready .any ops listed := by
        unfold Region.ready
        rw [List.mem_filter]
        refine ⟨List.mem_range.2 hlt, ?_⟩
        have h1 : listed.getD (ord.getD q 0) true = false := by
          have hlt' : ord.getD q 0 < listed.size := by omega
          simp only [Array.getD_eq_getD_getElem?, Array.getElem?_eq_getElem hlt', Option.getD_some] at hD ⊢
          exact hD
        rw [h1]
        have h2 : ops[ord.getD q 0]? = some (ops.getD (ord.getD q 0) default) := by
          simp only [Array.getD_eq_getD_getElem?, Array.getElem?_eq_getElem hlt, Option.getD_some]
        rw [h2]
        simp only [Option.map_some, Option.getD_some, Bool.not_false, Bool.true_and]
        rw [Array.all_eq_true_iff_forall_mem]
        intro e he
        cases hb : Region.binds .any e with
        | false => rfl
        | true =>
          obtain ⟨p, p1, p2⟩ := C.plan.edge q e hq he hb
          have p3 := C.plan.prl q p hq p1
          have := ih p p3 (by omega)
          rw [hL p (by omega), p2] at this
          simpa using this
      rw [h] at hm
      cases hm

/-- The whole, from whatever has been run. -/
theorem DInv.all (C : Ctx P callf ops l ord its pr M R S V W old B ρ0 w0 a0) (hpr : ∀ q p, q < ops.size → p ∈ pr.getD q [] → ∃ e, e ∈ (ops.getD (ord.getD q 0) default).after ∧ Region.binds .any e = true ∧ ord.getD p 0 = e.on)
    {Q : Exit → Act → World → Prop} (hq : ∀ ρ' a' w', Nx B ρ0 (S 0) w0 ρ' (S ops.size) w' → RegsRel ρ' (R ops.size) a'.tmps → a'.defers = a0.defers → Q .normal a' w') :
    ∀ (fuel : Nat) (listed : Array Bool) (a : Act) (w : World) (D : Nat → Bool) (m : Nat) (ρE : Ren), listed.size = ops.size → Listed ops ord D listed → listed.toList.countP (fun b => !b) ≤ fuel → DInv ops its pr R S V W B ρ0 w0 a0 D m ρE a w → wpAny P .any ops Q fuel listed a w := by
  have fin : ∀ (listed : Array Bool) (a : Act) (w : World) (D : Nat → Bool) (m : Nat) (ρE : Ren), listed.size = ops.size → Listed ops ord D listed → DInv ops its pr R S V W B ρ0 w0 a0 D m ρE a w → Region.ready .any ops listed = [] → Q .normal a w := by
    intro listed a w D m ρE hs hL I hr
    have hD := ready_none C hs hL hr
    have I := I.takes C ops.size I.le (Nat.le_refl _) hD
    refine hq _ a w I.nx (fun t v hv => ?_) I.defs
    rw [rg_prefix C.tr ops.size (by rw [C.plan.leni]; exact Nat.le_refl _) t] at hv
    have hv2 : (rg V D its 0 (R 0)).get t = some v := by
      rw [← hv]
      refine rg_agree t its 0 _ _ rfl (fun j x hj _ => ?_)
      have := C.lt hj
      rw [Nat.zero_add, hD j this]
      simp [this]
    obtain ⟨u, h1, h2⟩ := I.regs t v hv2
    obtain ⟨ρc, ac, wc, k1, k2⟩ := C.canon ops.size (Nat.le_refl _)
    have hv3 : (R ops.size).get t = some v := by rw [rg_prefix C.tr ops.size (by rw [C.plan.leni]; exact Nat.le_refl _) t]; exact hv
    obtain ⟨uc, _, k3⟩ := k2 t v hv3
    exact ⟨u, h1, h2.restrict k1.nx k3⟩
  intro fuel
  induction fuel with
  | zero =>
    intro listed a w D m ρE hs hL hf I
    have hr : Region.ready .any ops listed = [] := by
      unfold Region.ready
      rw [List.filter_eq_nil_iff]
      intro i hi
      have hi : i < ops.size := List.mem_range.1 hi
      have hi' : i < listed.size := by omega
      have h0 : listed.toList.countP (fun b => !b) = 0 := by omega
      rw [List.countP_eq_zero] at h0
      have := h0 listed[i] (by simp)
      simp only [Array.getD_eq_getD_getElem?, Array.getElem?_eq_getElem hi', Option.getD_some]
      simp at this
      simp [this]
    exact ⟨hr, fin listed a w D m ρE hs hL I hr⟩
  | succ fuel ih =>
    intro listed a w D m ρE hs hL hf I
    refine ⟨fin listed a w D m ρE hs hL I, fun i hi => ?_⟩
    unfold Region.ready at hi
    rw [List.mem_filter] at hi
    obtain ⟨hi, hi2⟩ := hi
    have hi : i < ops.size := List.mem_range.1 hi
    have hil : i < listed.size := by omega
    obtain ⟨q, hq1, hq2⟩ := C.plan.place hi
    rw [Bool.and_eq_true] at hi2
    obtain ⟨hn, haft⟩ := hi2
    have hno : listed[i] = false := by
      simpa only [Array.getD_eq_getD_getElem?, Array.getElem?_eq_getElem hil, Option.getD_some, Bool.not_eq_true'] using hn
    have hDq : D q = false := by
      rw [hL q hq1, hq2]
      simp only [Array.getD_eq_getD_getElem?, Array.getElem?_eq_getElem hil, Option.getD_some]
      exact hno
    have hop : ops[i]? = some (ops.getD i default) := by
      simp only [Array.getD_eq_getD_getElem?, Array.getElem?_eq_getElem hi, Option.getD_some]
    rw [hop] at haft
    simp only [Option.map_some, Option.getD_some] at haft
    rw [Array.all_eq_true_iff_forall_mem] at haft
    have hp : ∀ p, p ∈ pr.getD q [] → D p = true := by
      intro p hp
      obtain ⟨e, e1, e2, e3⟩ := hpr q p hq1 hp
      rw [hq2] at e1
      have := haft e e1
      rw [e2] at this
      have p3 := C.plan.prl q p hq1 hp
      rw [hL p (by omega), e3]
      simpa using this
    obtain ⟨it, hit⟩ := C.get hq1
    have hs' : (listed.setIfInBounds i true).size = ops.size := by simp [hs]
    have hL' : Listed ops ord (fun n => D n || n == q) (listed.setIfInBounds i true) := by
      intro q' hq'
      simp only [Array.getD_eq_getD_getElem?]
      by_cases e : q' = q
      · subst e
        rw [hq2]
        simp [hil]
      · have hne : i ≠ ord.getD q' 0 := by
          intro hh
          rcases Nat.lt_or_gt_of_ne e with h | h
          · exact C.plan.inj q' q h hq1 (by rw [hq2]; exact hh.symm)
          · exact C.plan.inj q q' h hq' (by rw [hq2]; exact hh)
        rw [Array.getElem?_setIfInBounds_ne hne]
        have := hL q' hq'
        simp only [Array.getD_eq_getD_getElem?] at this
        rw [this]
        have : (q' == q) = false := by simpa using e
        rw [this, Bool.or_false]
    have hf' : (listed.setIfInBounds i true).toList.countP (fun b => !b) ≤ fuel := by
      have h1 : (listed.setIfInBounds i true).toList = listed.toList.set i true := by simp
      have := count_set listed.toList i (by simp [hil, hno])
      rw [h1]
      omega
    rw [← hq2]
    rcases Nat.lt_or_ge it.op.cls 3 with hc | hc
    · refine I.light C hit hDq hp (by omega) fun ρE' a' w' I' => ?_
      rw [hq2]
      exact ih _ a' w' _ m ρE' hs' hL' hf' I'
    · refine I.heavy C hit hDq hp (by have := cls_le it.op; omega) fun ρE' a' w' I' => ?_
      rw [hq2]
      exact ih _ a' w' _ (q + 1) ρE' hs' hL' hf' I'

end

theorem posOf_get : ∀ (l : List Nat) (i : Nat), posOf l i < l.length → l.getD (posOf l i) 0 = i
  | [], i, h => by simp [posOf] at h
  | x :: l, i, h => by
    simp only [posOf] at h ⊢
    split
    · rename_i e; simp [e]
    · rename_i e
      rw [if_neg e, List.length_cons] at h
      have := posOf_get l i (by omega)
      simpa using this

theorem draw_ok {P : Program} (hm : P.follows .mixedOrders = true) : DrawOk P := by
  intro id ops ord its hc callf hcall B ρ r r' s s' a w Q h hR hr hq
  simp only [codeOf] at hc
  split at hc
  · cases hc
  · rename_i l hl
    split at hc
    · rename_i its' hits
      split at hc
      · rename_i hok
        cases hc
        generalize lazyOrder (l.map (·.op.cls)) (Region.before ops) = ord at *
        have hplan := plan_of hits hok
        obtain ⟨R, S, V, W, old, t1, t2, t3, t4, t5, t6⟩ := trace_of its [] r r' s s' h
        have hmap := itemsOf_mapM hl
        have C : Ctx P callf ops l ord its (predsP ops ord) (masksP (predsP ops ord)) R S V W old B ρ w a := by
          refine ⟨hplan, t6, t3, hcall, fun q it hit => ?_, by rw [t2]; exact hR, by rw [t1]; exact hr⟩
          obtain ⟨it0, e1, e2, e3, e4, _⟩ := hplan.item q it hit
          obtain ⟨o, o1, o2⟩ := mapM_get hmap e1
          have o1 : ops[ord.getD q 0]? = some o := by simpa using o1
          have := itemOf_some o2
          exact ⟨o, o1, by rw [e4]; exact this.op, by rw [e2]; exact this.dst, by rw [e3]; exact this.guard⟩
        refine wp_region_any hm ?_
        have hres : res (S 0).next ρ = ρ := by
          funext k
          unfold res
          split
          · rfl
          · rename_i hk
            cases hh : ρ k with
            | none => rfl
            | some t => have := hR.nx k t hh; rw [t2] at hk; exact absurd this hk
        refine DInv.all C (fun q p hq' hp => ?_) (fun ρ' a' w' n1 n2 n3 => hq ρ' a' w' (by rw [← t2, ← t5, hplan.leni]; exact n1) (by rw [← t4, hplan.leni]; exact n2) n3) ops.size (Array.replicate ops.size false) a _ (fun _ => false) 0 ρ (by simp) (fun q hq' => ?_) (by have := List.countP_le_length (p := fun b : Bool => !b) (l := (Array.replicate ops.size false).toList); simpa using this) ?_
        · have hqo : q < ord.length := by rw [hplan.len]; exact hq'
          have hpl := hplan.prl q p hq' hp
          unfold predsP at hp
          simp only [List.getD_eq_getElem?_getD, List.getElem?_map, List.getElem?_eq_getElem hqo, Option.map_some, Option.getD_some, List.mem_map, List.mem_filter, Array.mem_toList_iff] at hp
          obtain ⟨e, ⟨e1, e2⟩, e3⟩ := hp
          refine ⟨e, ?_, e2, ?_⟩
          · simpa only [List.getD_eq_getElem?_getD, List.getElem?_eq_getElem hqo, Option.getD_some] using e1
          · rw [← e3]
            exact posOf_get ord e.on (by omega)
        · have := hplan.lt q hq'
          simp only [Array.getD_eq_getD_getElem?]
          rw [Array.getElem?_replicate, if_pos this]
          rfl
        · refine ⟨Nat.zero_le _, fun _ _ h => by (cases h), fun q h => absurd h (Nat.not_lt_zero _), fun _ _ _ _ h => by (cases h), ?_, ?_, rfl, fun k t h => .inl (by rw [t2]; exact hR.nx k t h), fun _ _ _ _ h => by (cases h), fun _ _ _ _ _ _ _ _ _ _ _ h => by (cases h)⟩
          · rw [hres, t2]
            exact Nx.draw hR rfl rfl rfl rfl
          · intro t v hv
            rw [rg_none t its 0 (R 0) (fun _ _ _ _ => rfl), t1] at hv
            exact hr t v hv
      · cases hc
    · cases hc

end Go.Rf
