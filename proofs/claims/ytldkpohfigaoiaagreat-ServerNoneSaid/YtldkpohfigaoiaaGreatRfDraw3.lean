/- A region that draws its order, third part: what holds at each time of whatever order, and each step. -/
import Derived.Test.YtldkpohfigaoiaaGreatRfDraw2
namespace Go.Rf
open Go Go.RowKit

def Tr.keep {α : Type} : Tr α → (Nat → Bool) → Tr α
  | .leaf, _ => .leaf
  | .node l v r, p => .node (l.keep fun n => p (2 * n + 1)) (if p 0 = true then v else none) (r.keep fun n => p (2 * n + 2))

theorem Tr.get_keep {α : Type} : ∀ (t : Tr α) (p : Nat → Bool) (n : Nat), (t.keep p).get n = if p n = true then t.get n else none
  | .leaf, p, n => by simp [Tr.keep, Tr.get]
  | .node l v r, p, 0 => by simp [Tr.keep, Tr.get]
  | .node l v r, p, k + 1 => by
    have hk : k % 2 + 2 * (k / 2) = k := Nat.mod_add_div k 2
    simp only [Tr.keep, Tr.get]
    cases hm : Nat.mod k 2 with
    | zero =>
      have hm : k % 2 = 0 := hm
      simp only []
      rw [Tr.get_keep l]
      have e : 2 * Nat.div k 2 + 1 = k + 1 := by show 2 * (k / 2) + 1 = k + 1; omega
      rw [e]
    | succ m =>
      have hm : k % 2 = m + 1 := hm
      simp only []
      rw [Tr.get_keep r]
      have e : 2 * Nat.div k 2 + 2 = k + 1 := by show 2 * (k / 2) + 2 = k + 1; omega
      rw [e]

section
variable {P : Program} {callf : Nat → List Value → AS → Res}
variable {ops : Array Oper} {l : List Item} {ord : List Nat} {its : List Item} {pr : List (List Nat)} {M : List Nat} {R : Nat → Tr Value} {S : Nat → AS} {V : Nat → Value} {W : Nat → Bool} {old : Nat → List AS} {B : Nat} {ρ0 : Ren} {w0 : World} {a0 : Act}

structure DInv (ops : Array Oper) (its : List Item) (pr : List (List Nat)) (R : Nat → Tr Value) (S : Nat → AS) (V : Nat → Value) (W : Nat → Bool) (B : Nat) (ρ0 : Ren) (w0 : World) (a0 : Act) (D : Nat → Bool) (m : Nat) (ρE : Ren) (a : Act) (w : World) : Prop where
  le : m ≤ ops.size
  closed : Closed ops.size pr D
  pre : ∀ q, q < m → D q = true
  early : ∀ q it, m ≤ q → its[q]? = some it → D q = true → it.op.cls ≤ 2
  nx : Nx B ρ0 (S 0) w0 (res (S m).next ρE) (S m) w
  regs : RegsRel ρE (rg V D its 0 (R 0)) a.tmps
  defs : a.defers = a0.defers
  dom : ∀ k t, ρE k = some t → k < (S m).next ∨ ∃ q it, m ≤ q ∧ its[q]? = some it ∧ D q = true ∧ W q = true ∧ it.op.cls = 2 ∧ k = (S q).next
  gar : ∀ q it, m ≤ q → its[q]? = some it → D q = true → W q = true → it.op.cls = 2 → ∃ o t o', S (q + 1) = (S q).new o ∧ ρE (S q).next = some t ∧ w0.heap.size ≤ t.blk ∧ w.heap[t.blk]? = some o' ∧ ORel ρE t o o' ∧
    ∀ k o2 t2, (S m).obj k = some o2 → k < (S m).next → ρE k = some t2 → t2.blk ≠ t.blk
  gdis : ∀ q q' it it' t t', m ≤ q → m ≤ q' → q ≠ q' → its[q]? = some it → its[q']? = some it' → D q = true → D q' = true → W q = true → W q' = true → it.op.cls = 2 → it'.op.cls = 2 → ρE (S q).next = some t → ρE (S q').next = some t' → t.blk ≠ t'.blk

theorem Ctx.nextLt (C : Ctx P callf ops l ord its pr M R S V W old B ρ0 w0 a0) {q q' : Nat} {it : Item} (hit : its[q]? = some it) (hc : it.op.cls = 2) (hW : W q = true) (h : q < q') (hq' : q' ≤ ops.size) : (S q).next < (S q').next := by
  have h1 := C.allocNext hit hc hW
  have h2 := C.next (p := q + 1) q' (by omega) hq'
  omega

theorem Ctx.roomy (C : Ctx P callf ops l ord its pr M R S V W old B ρ0 w0 a0) {q : Nat} {it : Item} (hit : its[q]? = some it) (hc : it.op.cls = 2) (hW : W q = true) : (S q).roomy = true := by
  obtain ⟨ρc, ac, wc, h1, h2⟩ := C.canon q (by have := C.lt hit; omega)
  obtain ⟨o, ho, hi⟩ := C.item q it hit
  obtain ⟨_, s2, _⟩ := C.tr.step q it hit
  have hb := op_both h1 h2 hi.op (fun f as e => by rw [e] at hc; simp [COp.cls] at hc) (s2 hW).1
  obtain ⟨_, _, _, _, _, hr, _⟩ := hb.alloc hc
  exact hr

theorem clash_left {x y : Item} {t : Nat} (h : x.dst = some t) (hy : t ∈ y.looks ∨ y.dst = some t) : clash x y = true := by
  unfold clash
  rw [h]
  rcases hy with hy | hy
  · simp [hy]
  · simp [hy]

theorem clash_right {x y : Item} {t : Nat} (h : y.dst = some t) (hx : t ∈ x.looks) : clash x y = true := by
  unfold clash
  rw [h]
  simp [hx]

/-- The operands of an operation whose time has come. -/
theorem DInv.looks (C : Ctx P callf ops l ord its pr M R S V W old B ρ0 w0 a0) {D : Nat → Bool} {m : Nat} {ρE : Ren} {a : Act} {w : World} (I : DInv ops its pr R S V W B ρ0 w0 a0 D m ρE a w) {q : Nat} {it : Item} (hit : its[q]? = some it) (hq : D q = false)
    (hp : ∀ p, p ∈ pr.getD q [] → D p = true) : RegsRel (res (S q).next ρE) ((R q).keep fun n => it.looks.contains n) a.tmps := by
  have hlt := C.lt hit
  intro t v hv
  rw [Tr.get_keep] at hv
  split at hv
  · rename_i hl
    have hl : t ∈ it.looks := by simpa using hl
    have hagree : (rg V (fun q' => decide (q' < q)) its 0 (R 0)).get t = (rg V D its 0 (R 0)).get t := by
      refine rg_agree t its 0 _ _ rfl (fun j x hj hd => ?_)
      rw [Nat.zero_add]
      rcases Nat.lt_trichotomy j q with h | h | h
      · have hb := C.plan.apart j q x it h hj hit (clash_left hd (.inl hl))
        rw [C.anc I.closed q hlt hp j h hb]
        simp [h]
      · subst h; rw [hq]; simp
      · have hb := C.plan.apart q j it x h hit hj (clash_right hd hl)
        cases hDj : D j with
        | false => simp; omega
        | true =>
          have := C.anc I.closed j (C.lt hj) (I.closed j (C.lt hj) hDj) q h hb
          rw [hq] at this
          cases this
    rw [rg_prefix C.tr q (by rw [C.plan.leni]; omega) t, hagree] at hv
    obtain ⟨u, h1, h2⟩ := I.regs t v hv
    obtain ⟨ρc, ac, wc, k1, k2⟩ := C.canon q (by omega)
    have hv' : (R q).get t = some v := by rw [rg_prefix C.tr q (by rw [C.plan.leni]; omega) t, hagree]; exact hv
    obtain ⟨uc, _, k3⟩ := k2 t v hv'
    exact ⟨u, h1, h2.restrict k1.nx k3⟩
  · cases hv

theorem keep_ev {callf : Nat → List Value → AS → Res} {it : Item} {r : Tr Value} {s : AS} : it.op.ev callf (r.keep fun n => it.looks.contains n) s = it.op.ev callf r s := by
  refine ev_congr fun x hx => ?_
  cases x with
  | c v => rfl
  | t n =>
    simp only [Opd.ev]
    rw [Tr.get_keep, if_pos]
    have : n ∈ it.looks := by
      unfold Item.looks
      rw [List.mem_append]
      right
      rw [List.mem_filterMap]
      exact ⟨.t n, hx, rfl⟩
    simpa using this

theorem guard_looks {it : Item} {t : Nat} {b : Bool} (h : it.guard = some (t, b)) : t ∈ it.looks := by
  unfold Item.looks
  rw [h]
  simp

/-- The registers behind one place more. -/
theorem DInv.regs' (C : Ctx P callf ops l ord its pr M R S V W old B ρ0 w0 a0) {D : Nat → Bool} {m : Nat} {ρE ρE' : Ren} {a : Act} {w : World} (I : DInv ops its pr R S V W B ρ0 w0 a0 D m ρE a w) {q : Nat} {it : Item} (hit : its[q]? = some it) (hq : D q = false)
    (hx : Ext ρE ρE') {u : Value} (hu : VRel ρE' (V q) u) : RegsRel ρE' (rg V (fun n => D n || n == q) its 0 (R 0)) (a.put it.dst u).tmps := by
  have hp := (I.regs.mono hx).putA it.dst hu
  intro t v hv
  refine hp t v ?_
  rw [← hv]
  symm
  refine rg_add its 0 (R 0) (R 0) it (fun _ => rfl) (Nat.zero_le _) (by simpa using hit) hq (fun j x t' hj hlt hD hd hx' => ?_) t
  rw [Nat.zero_add] at hlt hD
  have hb := C.plan.apart q j it x hlt hit hj (clash_left hd (.inr hx'))
  have := C.anc I.closed j (C.lt hj) (I.closed j (C.lt hj) hD) q hlt hb
  rw [hq] at this
  cases this

theorem closed_add {n : Nat} {D : Nat → Bool} {q : Nat} (h : Closed n pr D) (hp : ∀ p, p ∈ pr.getD q [] → D p = true) : Closed n pr (fun k => D k || k == q) := by
  intro k hk hD p hpk
  simp only [Bool.or_eq_true, beq_iff_eq] at hD ⊢
  rcases hD with hD | rfl
  · exact .inl (h k hk hD p hpk)
  · exact .inl (hp p hpk)

/-- The relation at the time of an operation whose place in the evaluator's order may be later. -/
theorem DInv.rel (C : Ctx P callf ops l ord its pr M R S V W old B ρ0 w0 a0) {D : Nat → Bool} {m : Nat} {ρE : Ren} {a : Act} {w : World} (I : DInv ops its pr R S V W B ρ0 w0 a0 D m ρE a w) {q : Nat} (hm : m ≤ q) (hq : q ≤ ops.size) :
    Rel B (res (S q).next ρE) ⟨(S m).heap, (S q).next⟩ w := by
  have hn := C.next q hm hq
  have hR := I.nx.rel
  have hup : Ext (res (S m).next ρE) (res (S q).next ρE) := fun k t h => by
    obtain ⟨h1, h2⟩ := res_some h
    rw [res_lt (by omega)]
    exact h2
  refine ⟨hR.base, fun k t h => (res_some h).1, fun k t h => ?_, fun k o h => ?_, fun k k' o o' t t' h1 h2 h3 h4 h5 => ?_⟩
  · obtain ⟨h1, h2⟩ := res_some h
    rcases I.dom k t h2 with h3 | ⟨q', it, d1, d2, d3, d4, d5, d6⟩
    · exact hR.ub k t (by rw [res_lt h3]; exact h2)
    · obtain ⟨o, t', o', g1, g2, g3, g4, _⟩ := I.gar q' it d1 d2 d3 d4 d5
      rw [d6, g2] at h2
      cases h2
      exact (Array.getElem?_eq_some_iff.1 g4).1
  · obtain ⟨t, o', h1, h2, h3, h4⟩ := hR.live k o h
    exact ⟨t, o', hup _ _ h1, h2, h3, h4.mono hup⟩
  · obtain ⟨t1, _, e1, _⟩ := hR.live k o h1
    obtain ⟨t2, _, e2, _⟩ := hR.live k' o' h2
    have f1 := hup _ _ e1
    have f2 := hup _ _ e2
    rw [h3] at f1
    rw [h4] at f2
    cases f1
    cases f2
    exact hR.inj k k' o o' _ _ h1 h2 e1 e2 h5

/-- An operation that does not write, at any time. -/
theorem DInv.light (C : Ctx P callf ops l ord its pr M R S V W old B ρ0 w0 a0) {D : Nat → Bool} {m : Nat} {ρE : Ren} {a : Act} {w : World} (I : DInv ops its pr R S V W B ρ0 w0 a0 D m ρE a w) {q : Nat} {it : Item} (hit : its[q]? = some it) (hq : D q = false)
    (hp : ∀ p, p ∈ pr.getD q [] → D p = true) (hc : it.op.cls ≤ 2) {K : Act → World → Prop} {Q : Exit → Act → World → Prop}
    (hk : ∀ ρE' a' w', DInv ops its pr R S V W B ρ0 w0 a0 (fun n => D n || n == q) m ρE' a' w' → K a' w') : wpOp P ops Q (ord.getD q 0) K a w := by
  have hlt := C.lt hit
  have hmq : m ≤ q := by
    rcases Nat.lt_or_ge q m with h | h
    · rw [I.pre q h] at hq; cases hq
    · exact h
  obtain ⟨o, ho, hi⟩ := C.item q it hit
  obtain ⟨s1, s2, s3, s4, _⟩ := C.tr.step q it hit
  have hlook := I.looks C hit hq hp
  have hanc : ∀ p z, p < q → its[p]? = some z → z.op.cls = 3 → (M.getD q 0).testBit p = true → p < m := by
    intro p z h1 h2 h3 h4
    have hD := C.anc I.closed q hlt hp p h1 h4
    rcases Nat.lt_or_ge p m with h | h
    · exact h
    · have := I.early p z h h2 hD; omega
  have hwt : Region.wanted o (yielded ops a.tmps) = W q := by
    refine wanted_rel (ops := ops) (r := R q) (ρ := res (S q).next ρE) hi (fun t v hg hv => ?_) s1
    obtain ⟨b, hg⟩ := hg
    exact hlook t v (by rw [Tr.get_keep, if_pos (by simpa using guard_looks hg)]; exact hv)
  unfold wpOp
  simp only [ho]
  rw [hwt]
  have early' : ∀ q' it', m ≤ q' → its[q']? = some it' → (D q' || q' == q) = true → it'.op.cls ≤ 2 := by
    intro q' it' h1 h2 h3
    simp only [Bool.or_eq_true, beq_iff_eq] at h3
    rcases h3 with h3 | rfl
    · exact I.early q' it' h1 h2 h3
    · rw [hit] at h2; cases h2; exact hc
  -- nothing is made: all but the registers stays
  have quiet : ∀ u, VRel ρE (V q) u → (W q = false ∨ it.op.cls ≤ 1) → DInv ops its pr R S V W B ρ0 w0 a0 (fun n => D n || n == q) m ρE (a.put it.dst u) w := by
    intro u hu hna
    refine ⟨I.le, closed_add I.closed hp, fun q' h => by simp [I.pre q' h], early', I.nx, I.regs' C hit hq (.refl _) hu, by rw [← I.defs]; cases it.dst <;> rfl, fun k t h => ?_, fun q' it' h1 h2 h3 h4 h5 => ?_, fun q1 q2 it1 it2 t1 t2 a1 a2 a3 a4 a5 a6 a7 a8 a9 b1 b2 b3 b4 => ?_⟩
    · rcases I.dom k t h with h | ⟨q', it', d1, d2, d3, d4⟩
      · exact .inl h
      · exact .inr ⟨q', it', d1, d2, by simp [d3], d4⟩
    · have hD : D q' = true := by
        simp only [Bool.or_eq_true, beq_iff_eq] at h3
        rcases h3 with h3 | rfl
        · exact h3
        · rw [hit] at h2; cases h2
          rcases hna with e | e
          · rw [h4] at e; cases e
          · omega
      exact I.gar q' it' h1 h2 hD h4 h5
    · have hD : ∀ q' it', its[q']? = some it' → (D q' || q' == q) = true → W q' = true → it'.op.cls = 2 → D q' = true := by
        intro q' it' h2 h3 h4 h5
        simp only [Bool.or_eq_true, beq_iff_eq] at h3
        rcases h3 with h3 | rfl
        · exact h3
        · rw [hit] at h2; cases h2
          rcases hna with e | e
          · rw [h4] at e; cases e
          · omega
      exact I.gdis q1 q2 it1 it2 t1 t2 a1 a2 a3 a4 a5 (hD q1 it1 a4 a6 a8 b1) (hD q2 it2 a5 a7 a9 b2) a8 a9 b1 b2 b3 b4
  cases hW : W q with
  | false =>
    simp only [Bool.false_eq_true, if_false]
    rw [← hi.dst]
    exact hk ρE _ w (quiet undef (by rw [(s3 hW).1]; exact undef_rel _) (.inl hW))
  | true =>
    simp only [if_true]
    left
    have hR := I.rel C hmq (by omega)
    have hnc : ∀ f as, it.op ≠ .call f as := fun f as e => by rw [e] at hc; simp [COp.cls] at hc
    by_cases hc1 : it.op.cls ≤ 1
    · have hev := C.early hit hc1 hW hmq hanc (S q).next
      rw [← keep_ev] at hev
      have hb := op_both hR hlook hi.op hnc hev
      obtain ⟨_, u, h1, h2⟩ := hb.quiet hc1
      unfold Oper.wp
      rw [h1, Oper.upon_value, ← hi.dst]
      exact hk ρE _ w (quiet u (h2.mono (res_ext _ _)) (.inr hc1))
    · have hc2 : it.op.cls = 2 := by omega
      obtain ⟨ob, hS, hev⟩ := C.alloc hit hc2 hW
      have hev := hev ⟨(S m).heap, (S q).next⟩ rfl
      rw [← keep_ev] at hev
      have hb := op_both hR hlook hi.op hnc hev
      obtain ⟨o1, t, o', u, w', hroom, e1, hrun, hblk, hheap, hos, htape, hout, hO, hv⟩ := hb.alloc hc2
      -- the block that is made
      have ho1 : o1 = ob := by
        have h1 := AS.obj_new (s := (⟨(S m).heap, (S q).next⟩ : AS)) (o := ob) hroom (S q).next
        have h2 := AS.obj_new (s := (⟨(S m).heap, (S q).next⟩ : AS)) (o := o1) hroom (S q).next
        rw [e1] at h1
        rw [h2] at h1
        simpa using h1
      subst ho1
      have hnone : ρE (S q).next = none := by
        cases hh : ρE (S q).next with
        | none => rfl
        | some t' =>
          rcases I.dom _ _ hh with h | ⟨q', it', d1, d2, d3, d4, d5, d6⟩
          · have := C.next q hmq (by omega); omega
          · have hne : q' ≠ q := by intro e; subst e; rw [hq] at d3; cases d3
            rcases Nat.lt_or_gt_of_ne hne with h | h
            · have := C.nextLt d2 d5 d4 h (by omega); omega
            · have := C.nextLt hit hc2 hW h (by have := C.lt d2; omega); omega
      have hx : Ext ρE (bind1 ρE (S q).next t) := ext1_of hnone t
      have hx2 : Ext (bind1 (res (S q).next ρE) (S q).next t) (bind1 ρE (S q).next t) := by
        intro k t' h
        unfold bind1 at h ⊢
        split at h
        · rename_i hk'; rw [if_pos hk']; exact h
        · rename_i hk'; rw [if_neg hk']; exact (res_some h).2
      have hsz : w'.heap.size = w.heap.size + 1 := by rw [hheap]; simp
      have hold : ∀ b, b < w.heap.size → w'.heap[b]? = w.heap[b]? := fun b hb' => by rw [hheap, Array.getElem?_push, if_neg (by omega)]
      have hgar : ∀ q' it', m ≤ q' → its[q']? = some it' → D q' = true → W q' = true → it'.op.cls = 2 → ∀ t', ρE (S q').next = some t' → t'.blk < w.heap.size := by
        intro q' it' h1 h2 h3 h4 h5 t' ht'
        obtain ⟨o3, t3, o3', g1, g2, g3, g4, _⟩ := I.gar q' it' h1 h2 h3 h4 h5
        rw [g2] at ht'
        cases ht'
        exact (Array.getElem?_eq_some_iff.1 g4).1
      have hresm : res (S m).next (bind1 ρE (S q).next t) = res (S m).next ρE := by
        funext k
        unfold res
        split
        · rename_i hk'
          have := C.next q hmq (by omega)
          unfold bind1
          rw [if_neg (by omega)]
        · rfl
      unfold Oper.wp
      rw [hrun, Oper.upon_value, ← hi.dst]
      refine hk (bind1 ρE (S q).next t) _ w' ⟨I.le, closed_add I.closed hp, fun q' h => by simp [I.pre q' h], early', ?_, I.regs' C hit hq hx (hv.mono hx2), by rw [← I.defs]; cases it.dst <;> rfl, fun k t' h => ?_, fun q' it' h1 h2 h3 h4 h5 => ?_, fun q1 q2 it1 it2 t1 t2 a1 a2 a3 a4 a5 a6 a7 a8 a9 b1 b2 b3 b4 => ?_⟩
      · rw [hresm]
        have hn := I.nx
        have hRm := hn.rel
        refine ⟨hn.ext, ⟨by have := hRm.base; omega, hRm.nx, fun k t' h => by have := hRm.ub k t' h; omega, fun k o3 h => ?_, hRm.inj⟩, hn.below.trans ⟨hos, htape, hout, by omega, fun b hb' => hold b (by have := hRm.base; omega)⟩, fun b hb' hnn => ?_, hn.ow, hn.nmono⟩
        · obtain ⟨t3, o3', h1, h2, h3, h4⟩ := hRm.live k o3 h
          exact ⟨t3, o3', h1, h2, by rw [hold _ (hRm.ub _ _ h1)]; exact h3, h4⟩
        · rw [hold b (by have := hn.below.size; omega)]
          exact hn.fr b hb' hnn
      · unfold bind1 at h
        split at h
        · rename_i hk'
          exact .inr ⟨q, it, hmq, hit, by simp, hW, hc2, hk'⟩
        · rcases I.dom k t' h with h | ⟨q', it', d1, d2, d3, d4⟩
          · exact .inl h
          · exact .inr ⟨q', it', d1, d2, by simp [d3], d4⟩
      · by_cases hqq : q' = q
        · subst hqq
          rw [hit] at h2
          cases h2
          refine ⟨o1, t, o', hS, bind1_same _ _ _, by rw [hblk]; exact I.nx.below.size, by rw [hblk, hheap]; simp, hO.mono hx2, fun k o2 t2 k1 k2 k3 => ?_⟩
          unfold bind1 at k3
          rw [if_neg (by have := C.next q' hmq (by omega); omega)] at k3
          have := I.nx.rel.ub k t2 (by rw [res_lt k2]; exact k3)
          omega
        · have hD : D q' = true := by
            simp only [Bool.or_eq_true, beq_iff_eq] at h3
            exact h3.resolve_right hqq
          obtain ⟨o3, t3, o3', g1, g2, g3, g4, g5, g6⟩ := I.gar q' it' h1 h2 hD h4 h5
          refine ⟨o3, t3, o3', g1, hx _ _ g2, g3, by rw [hold _ (Array.getElem?_eq_some_iff.1 g4).1]; exact g4, g5.mono hx, fun k o2 t2 k1 k2 k3 => ?_⟩
          unfold bind1 at k3
          rw [if_neg (by have := C.next q hmq (by omega); omega)] at k3
          exact g6 k o2 t2 k1 k2 k3
      · have hD : ∀ q', (D q' || q' == q) = true → q' ≠ q → D q' = true := by
          intro q' h3 h4
          simp only [Bool.or_eq_true, beq_iff_eq] at h3
          exact h3.resolve_right h4
        have hne : ∀ q' it', its[q']? = some it' → q' ≠ q → W q' = true → it'.op.cls = 2 → (S q').next ≠ (S q).next := by
          intro q' it' h2 h3 h4 h5
          rcases Nat.lt_or_gt_of_ne h3 with h | h
          · have := C.nextLt h2 h5 h4 h (by omega); omega
          · have := C.nextLt hit hc2 hW h (by have := C.lt h2; omega); omega
        by_cases e1' : q1 = q
        · subst e1'
          have e2' : q2 ≠ q1 := fun e => a3 e.symm
          rw [bind1_same] at b3
          cases b3
          unfold bind1 at b4
          rw [if_neg (hne q2 it2 a5 e2' a9 b2)] at b4
          have := hgar q2 it2 a2 a5 (hD q2 a7 e2') a9 b2 t2 b4
          omega
        · by_cases e2' : q2 = q
          · subst e2'
            rw [bind1_same] at b4
            cases b4
            unfold bind1 at b3
            rw [if_neg (hne q1 it1 a4 e1' a8 b1)] at b3
            have := hgar q1 it1 a1 a4 (hD q1 a6 e1') a8 b1 t1 b3
            omega
          · unfold bind1 at b3 b4
            rw [if_neg (hne q1 it1 a4 e1' a8 b1)] at b3
            rw [if_neg (hne q2 it2 a5 e2' a9 b2)] at b4
            exact I.gdis q1 q2 it1 it2 t1 t2 a1 a2 a3 a4 a5 (hD q1 a6 e1') (hD q2 a7 e2') a8 a9 b1 b2 b3 b4

end
end Go.Rf
