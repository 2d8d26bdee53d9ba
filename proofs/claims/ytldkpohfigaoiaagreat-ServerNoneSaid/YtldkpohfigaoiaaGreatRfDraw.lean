/- A region that draws its order: whatever order is drawn, the outcome is that of the evaluator's one order. First part: the run in that order, taken apart; what is known of the order. -/
import Derived.Test.YtldkpohfigaoiaaGreatRfRun
namespace Go.Rf
open Go Go.RowKit

/-! The run in the evaluator's order, place by place. -/
structure Trace (callf : Nat → List Value → AS → Res) (its : List Item) (R : Nat → Tr Value) (S : Nat → AS) (V : Nat → Value) (W : Nat → Bool) (old : Nat → List AS) : Prop where
  step : ∀ q it, its[q]? = some it → wantedR (R q) it.guard = some (W q) ∧
    (W q = true → it.op.ev callf (R q) (S q) = some (V q, S (q + 1)) ∧ sameBack (it.op.ev callf (R q)) (V q) it.back (old q) = true) ∧
    (W q = false → V q = undef ∧ S (q + 1) = S q) ∧ R (q + 1) = putR (R q) it.dst (V q) ∧ old (q + 1) = if it.eff = true then S q :: old q else old q

theorem trace_of {callf : Nat → List Value → AS → Res} : ∀ (its : List Item) (old0 : List AS) (r r' : Tr Value) (s s' : AS), ditems callf its old0 r s = some (r', s') →
    ∃ R S V W old, R 0 = r ∧ S 0 = s ∧ old 0 = old0 ∧ R its.length = r' ∧ S its.length = s' ∧ Trace callf its R S V W old
  | [], old0, r, r', s, s', h => by
    simp only [ditems, Option.some.injEq, Prod.mk.injEq] at h
    obtain ⟨rfl, rfl⟩ := h
    exact ⟨fun _ => r, fun _ => s, fun _ => undef, fun _ => true, fun _ => old0, rfl, rfl, rfl, rfl, rfl, ⟨fun q it hq => by simp at hq⟩⟩
  | it :: its, old0, r, r', s, s', h => by
    have key : ∀ (b : Bool) (v : Value) (s1 : AS), wantedR r it.guard = some b → (b = true → it.op.ev callf r s = some (v, s1) ∧ sameBack (it.op.ev callf r) v it.back old0 = true) → (b = false → v = undef ∧ s1 = s) →
        ditems callf its (match it.eff with | true => s :: old0 | false => old0) (putR r it.dst v) s1 = some (r', s') →
        ∃ R S V W old, R 0 = r ∧ S 0 = s ∧ old 0 = old0 ∧ R (it :: its).length = r' ∧ S (it :: its).length = s' ∧ Trace callf (it :: its) R S V W old := by
      intro b v s1 hw h1 h2 hd
      obtain ⟨R, S, V, W, old, a1, a2, a3, a4, a5, a6⟩ := trace_of its _ _ _ _ _ hd
      refine ⟨fun n => match n with | 0 => r | n + 1 => R n, fun n => match n with | 0 => s | n + 1 => S n, fun n => match n with | 0 => v | n + 1 => V n, fun n => match n with | 0 => b | n + 1 => W n, fun n => match n with | 0 => old0 | n + 1 => old n, rfl, rfl, rfl, a4, a5, ⟨fun q x hq => ?_⟩⟩
      cases q with
      | zero =>
        simp only [List.getElem?_cons_zero, Option.some.injEq] at hq
        subst hq
        refine ⟨hw, fun hb => ?_, fun hb => ?_, a1, ?_⟩
        · show it.op.ev callf r s = some (v, S 0) ∧ sameBack (it.op.ev callf r) v it.back old0 = true
          rw [a2]; exact h1 hb
        · show v = undef ∧ S 0 = s
          rw [a2]; exact h2 hb
        · show old 0 = if it.eff = true then s :: old0 else old0
          rw [a3]; cases it.eff <;> rfl
      | succ q =>
        simp only [List.getElem?_cons_succ] at hq
        exact a6.step q x hq
    simp only [ditems] at h
    split at h
    · rename_i hw
      split at h
      · rename_i v s1 hv
        split at h
        · rename_i hsb
          exact key true v s1 hw (fun _ => ⟨hv, hsb⟩) (fun hb => by cases hb) h
        · cases h
      · cases h
    · rename_i hw
      exact key false undef s hw (fun hb => by cases hb) (fun _ => ⟨rfl, rfl⟩) h
    · cases h

/-! Equality of values, and the elder states. -/
theorem addrEq_eq {a b : Addr} (h : addrEq a b = true) : a = b := by
  unfold addrEq at h
  split at h
  · split at h
    · rename_i h1
      rw [Nat.eq_of_beq_eq_true h1, Nat.eq_of_beq_eq_true h]
    · cases h
  · cases h

theorem optEq_eq {a b : Option Addr} (h : optEq addrEq a b = true) : a = b := by
  cases a <;> cases b <;> simp only [optEq] at h <;> first | rfl | (cases h; done) | rw [addrEq_eq h]

theorem veqL_eq {f : Value → Value → Bool} (hf : ∀ x y, f x y = true → x = y) : ∀ {l m : List Value}, veqL f l m = true → l = m
  | [], [], _ => rfl
  | [], _ :: _, h => by simp [veqL] at h
  | _ :: _, [], h => by simp [veqL] at h
  | x :: l, y :: m, h => by
    simp only [veqL] at h
    split at h
    · rename_i h1; rw [hf _ _ h1, veqL_eq hf h]
    · cases h

theorem ieq_true {a b : Int} (h : ieq a b = true) : a = b := by rw [ieq_eq] at h; simpa using h

theorem veq_eq : ∀ (d : Nat) (x y : Value), veq d x y = true → x = y
  | 0, x, y, h => by simp [veq] at h
  | d + 1, x, y, h => by
    have hf := veq_eq d
    simp only [veq] at h
    split at h
    · rename_i a b; cases a <;> cases b <;> simp [boolEq, notB] at h <;> rfl
    · split at h
      · rename_i hk; rw [kindEq_eq hk, ieq_true h]
      · cases h
    · rw [beqL_eq] at h; rw [bytes_inj (eq_of_beq h)]
    · rw [optEq_eq h]
    · split at h
      · rename_i h1
        split at h
        · rename_i h2
          rw [optEq_eq h1, Nat.eq_of_beq_eq_true h2, Nat.eq_of_beq_eq_true h]
        · cases h
      · cases h
    · rfl
    · rw [Nat.eq_of_beq_eq_true h]
    · rfl
    · rfl
    · rw [Array.ext' (veqL_eq hf h)]
    · rw [Array.ext' (veqL_eq hf h)]
    · split at h
      · rename_i h1
        split at h
        · rename_i h2
          rw [Nat.eq_of_beq_eq_true h1, Array.ext' (veqL_eq hf h2), Array.ext' (veqL_eq hf h)]
        · cases h
      · cases h
    · cases h

theorem sameBack_get {f : AS → Res} {v : Value} : ∀ {n : Nat} {l : List AS}, sameBack f v n l = true → ∀ {i : Nat} {s : AS}, i < n → l[i]? = some s → ∃ s', f s = some (v, s')
  | 0, l, _, i, s, hi, _ => absurd hi (Nat.not_lt_zero _)
  | n + 1, [], h, i, s, _, _ => by simp [sameBack] at h
  | n + 1, x :: l, h, i, s, hi, hg => by
    simp only [sameBack] at h
    split at h
    · rename_i u s1 hu
      split at h
      · rename_i hv
        cases i with
        | zero =>
          simp only [List.getElem?_cons_zero, Option.some.injEq] at hg
          subst hg
          exact ⟨s1, by rw [hu, veq_eq _ _ _ hv]⟩
        | succ i =>
          simp only [List.getElem?_cons_succ] at hg
          exact sameBack_get h (by omega) hg
      · cases h
    · cases h

/-! What the look at the order found. -/
structure Plan (ops : Array Oper) (l : List Item) (ord : List Nat) (its : List Item) (pr : List (List Nat)) (M : List Nat) : Prop where
  len : ord.length = ops.size
  leni : its.length = ops.size
  all : ∀ i, i < ops.size → i ∈ ord
  item : ∀ q it, its[q]? = some it → ∃ it0, l[ord.getD q 0]? = some it0 ∧ it.dst = it0.dst ∧ it.guard = it0.guard ∧ it.op = it0.op ∧ (it.eff = true ↔ 2 ≤ it.op.cls)
  lt : ∀ q, q < ops.size → ord.getD q 0 < ops.size
  inj : ∀ p q, p < q → q < ops.size → ord.getD p 0 ≠ ord.getD q 0
  prl : ∀ q p, q < ops.size → p ∈ pr.getD q [] → p < q
  edge : ∀ q e, q < ops.size → e ∈ (ops.getD (ord.getD q 0) default).after → Region.binds .any e = true → ∃ p, p ∈ pr.getD q [] ∧ ord.getD p 0 = e.on
  mask : ∀ q k, q < ops.size → k < q → (M.getD q 0).testBit k = true → k ∈ pr.getD q [] ∨ ∃ p, p ∈ pr.getD q [] ∧ k < p ∧ (M.getD p 0).testBit k = true
  eff : ∀ p q it, p < q → its[q]? = some it → it.op.cls = 3 → (M.getD q 0).testBit p = true
  apart : ∀ p q x y, p < q → its[p]? = some x → its[q]? = some y → clash x y = true → (M.getD q 0).testBit p = true
  back : ∀ p q x y, p < q → its[p]? = some x → its[q]? = some y → y.op.cls = 1 → 2 ≤ x.op.cls → between (its.map (·.op.cls)) p q < y.back ∨ ∃ p' z, p ≤ p' ∧ p' < q ∧ its[p']? = some z ∧ z.op.cls = 3 ∧ (M.getD q 0).testBit p' = true

theorem mkIts_get : ∀ {l : List Item} {ord bk : List Nat} {its : List Item}, mkIts l ord bk = some its → ∀ q it, its[q]? = some it → ∃ it0, l[ord.getD q 0]? = some it0 ∧ it.dst = it0.dst ∧ it.guard = it0.guard ∧ it.op = it0.op ∧ (it.eff = true ↔ 2 ≤ it.op.cls)
  | l, [], [], its, h, q, it, hq => by simp [mkIts] at h; subst h; simp at hq
  | l, [], _ :: _, its, h, q, it, hq => by simp [mkIts] at h
  | l, _ :: _, [], its, h, q, it, hq => by simp [mkIts] at h
  | l, i :: ord, b :: bk, its, h, q, it, hq => by
    simp only [mkIts] at h
    split at h
    · rename_i it0 r h1 h2
      cases h
      cases q with
      | zero =>
        simp only [List.getElem?_cons_zero, Option.some.injEq] at hq
        subst hq
        exact ⟨it0, by simpa using h1, rfl, rfl, rfl, by simp⟩
      | succ q =>
        simp only [List.getElem?_cons_succ] at hq
        simpa using mkIts_get h2 q it hq
    · cases h

theorem cls_getD {its : List Item} {q : Nat} {it : Item} (h : its[q]? = some it) : (its.map (·.op.cls)).getD q 0 = it.op.cls := by
  simp [List.getD, h]

theorem plan_of {ops : Array Oper} {l : List Item} {ord bk : List Nat} {its : List Item} (hi : mkIts l ord bk = some its) (hd : dOk ops ord its = true) : Plan ops l ord its (predsP ops ord) (masksP (predsP ops ord)) := by
  unfold dOk at hd
  simp only [Bool.and_eq_true, beq_iff_eq, List.all_eq_true, List.mem_range] at hd
  obtain ⟨⟨⟨h1, h2⟩, h3⟩, h4⟩ := hd
  generalize predsP ops ord = pr at h4 ⊢
  generalize masksP pr = M at h4 ⊢
  have at_ : ∀ q, q < ops.size → ∃ it, its[q]? = some it ∧ ord.getD q 0 < ops.size ∧ (∀ p ∈ pr.getD q [], p < q) ∧
      (∀ e ∈ (ops.getD (ord.getD q 0) default).after, Region.binds .any e = true → ∃ p, p ∈ pr.getD q [] ∧ ord.getD p 0 = e.on) ∧
      (∀ k, k < q → (M.getD q 0).testBit k = true → k ∈ pr.getD q [] ∨ ∃ p, p ∈ pr.getD q [] ∧ k < p ∧ (M.getD p 0).testBit k = true) ∧
      (∀ p, p < q → ord.getD p 0 ≠ ord.getD q 0 ∧ (it.op.cls = 3 → (M.getD q 0).testBit p = true) ∧ ∀ x, its[p]? = some x → clash x it = true → (M.getD q 0).testBit p = true) ∧
      (it.op.cls = 1 → ∀ p, p < q → 2 ≤ (its.map (·.op.cls)).getD p 0 → between (its.map (·.op.cls)) p q < it.back ∨ ∃ p', p' < q ∧ p ≤ p' ∧ (its.map (·.op.cls)).getD p' 0 = 3 ∧ (M.getD q 0).testBit p' = true) := by
    intro q hq
    have := h4 q hq
    unfold dAt at this
    simp only [] at this
    split at this
    · cases this
    · rename_i it hit
      simp only [Bool.and_eq_true, decide_eq_true_eq, beq_iff_eq, List.all_eq_true, Array.mem_toList_iff, Bool.or_eq_true, Bool.not_eq_true', List.any_eq_true, List.mem_range, bne_iff_ne, ne_eq, List.contains_iff_mem] at this
      obtain ⟨⟨⟨⟨⟨⟨a1, _⟩, a3⟩, a4⟩, a5⟩, a6⟩, a7⟩ := this
      refine ⟨it, hit, a1, a3, ?_, ?_, ?_, ?_⟩
      · intro e he hb
        rcases a4 e he with h | h
        · rw [hb] at h; cases h
        · exact h
      · intro k hk hb
        rcases a5 k hk with (h | h) | h
        · rw [hb] at h; cases h
        · exact .inl h
        · exact .inr h
      · intro p hp
        obtain ⟨⟨b1, b2⟩, b3⟩ := a6 p hp
        refine ⟨b1, fun hc => b2.resolve_left (fun h => h hc), fun x hx hcl => ?_⟩
        rw [hx] at b3
        simp only [Bool.or_eq_true, Bool.not_eq_true'] at b3
        rcases b3 with h | h
        · rw [hcl] at h; cases h
        · exact h
      · intro hc p hp h2c
        rcases a7 with h | h
        · exact absurd hc h
        · rcases h p hp with (h | h) | h
          · rw [decide_eq_true h2c] at h; cases h
          · exact .inl h
          · obtain ⟨p', c1, ⟨c2, c3⟩, c4⟩ := h
            exact .inr ⟨p', c1, c2, c3, c4⟩
  have lt_of : ∀ {q it}, its[q]? = some it → q < ops.size := fun h => by have := (List.getElem?_eq_some_iff.1 h).1; omega
  refine ⟨h1, h2, fun i hi => by simpa using h3 i hi, mkIts_get hi, fun q hq => ?_, fun p q hpq hq => ?_, fun q p hq hp => ?_, fun q e hq he hb => ?_, fun q k hq hk hb => ?_, fun p q it hpq hit hc => ?_, fun p q x y hpq hx hy hcl => ?_, fun p q x y hpq hx hy hc h2c => ?_⟩
  · obtain ⟨it, a⟩ := at_ q hq; exact a.2.1
  · obtain ⟨it, a⟩ := at_ q hq; exact (a.2.2.2.2.2.1 p hpq).1
  · obtain ⟨it, a⟩ := at_ q hq; exact a.2.2.1 p hp
  · obtain ⟨it, a⟩ := at_ q hq; exact a.2.2.2.1 e he hb
  · obtain ⟨it, a⟩ := at_ q hq; exact a.2.2.2.2.1 k hk hb
  · obtain ⟨it', a⟩ := at_ q (lt_of hit)
    rw [hit] at a
    obtain ⟨rfl⟩ := Option.some.inj a.1
    exact (a.2.2.2.2.2.1 p hpq).2.1 hc
  · obtain ⟨it', a⟩ := at_ q (lt_of hy)
    rw [hy] at a
    obtain ⟨rfl⟩ := Option.some.inj a.1
    exact (a.2.2.2.2.2.1 p hpq).2.2 x hx hcl
  · obtain ⟨it', a⟩ := at_ q (lt_of hy)
    rw [hy] at a
    obtain ⟨rfl⟩ := Option.some.inj a.1
    rcases a.2.2.2.2.2.2 hc p hpq (by rw [cls_getD hx]; exact h2c) with h | ⟨p', b1, b2, b3, b4⟩
    · exact .inl h
    · have hlt : p' < its.length := by have := lt_of hy; omega
      refine .inr ⟨p', its[p'], b2, b1, List.getElem?_eq_getElem hlt, ?_, b4⟩
      rw [← b3, cls_getD (List.getElem?_eq_getElem hlt)]

/-! Registers by the places that have been run. -/
def rg (V : Nat → Value) (D : Nat → Bool) : List Item → Nat → Tr Value → Tr Value
  | [], _, r => r
  | it :: l, k, r => rg V D l (k + 1) (if D k = true then putR r it.dst (V k) else r)

theorem putR_get {r : Tr Value} {d : Option Nat} {v : Value} (t : Nat) : (putR r d v).get t = if d = some t ∧ (r.get t).isSome = true then some v else r.get t := by
  cases d with
  | none => simp [putR]
  | some d =>
    simp only [putR, Option.some.injEq]
    by_cases h : d = t
    · subst h
      cases hr : r.get d with
      | none => rw [Tr.get_upd_none _ _ _ _ hr]; simp
      | some x => rw [Tr.get_upd_same _ _ _ _ hr]; simp
    · rw [Tr.get_upd_ne _ _ _ _ (Ne.symm h)]
      simp [h]

theorem rg_isSome {V : Nat → Value} {D : Nat → Bool} (t : Nat) : ∀ (l : List Item) (k : Nat) (r : Tr Value), ((rg V D l k r).get t).isSome = (r.get t).isSome
  | [], _, _ => rfl
  | it :: l, k, r => by
    simp only [rg]
    rw [rg_isSome t l (k + 1)]
    split
    · rw [putR_get]
      split
      · rename_i h; simp [h.2]
      · rfl
    · rfl

theorem rg_agree {V : Nat → Value} {D D' : Nat → Bool} (t : Nat) : ∀ (l : List Item) (k : Nat) (r r' : Tr Value), r.get t = r'.get t → (∀ j it, l[j]? = some it → it.dst = some t → D (k + j) = D' (k + j)) → (rg V D l k r).get t = (rg V D' l k r').get t
  | [], _, _, _, h, _ => h
  | it :: l, k, r, r', h, hd => by
    simp only [rg]
    refine rg_agree t l (k + 1) _ _ ?_ (fun j x hj hx => by
      have := hd (j + 1) x (by simpa using hj) hx
      rw [show k + (j + 1) = k + 1 + j by omega] at this
      exact this)
    by_cases hdst : it.dst = some t
    · have := hd 0 it (by simp) hdst
      rw [Nat.add_zero] at this
      rw [this]
      split
      · rw [putR_get, putR_get, h]
      · exact h
    · have e1 : (if D k = true then putR r it.dst (V k) else r).get t = r.get t := by
        split
        · rw [putR_get, if_neg (fun hh => hdst hh.1)]
        · rfl
      have e2 : (if D' k = true then putR r' it.dst (V k) else r').get t = r'.get t := by
        split
        · rw [putR_get, if_neg (fun hh => hdst hh.1)]
        · rfl
      rw [e1, e2, h]

theorem rg_none {V : Nat → Value} {D : Nat → Bool} (t : Nat) : ∀ (l : List Item) (k : Nat) (r : Tr Value), (∀ j it, l[j]? = some it → it.dst = some t → D (k + j) = false) → (rg V D l k r).get t = r.get t
  | [], _, _, _ => rfl
  | it :: l, k, r, h => by
    simp only [rg]
    rw [rg_none t l (k + 1) _ (fun j x hj hx => by
      have := h (j + 1) x (by simpa using hj) hx
      rw [show k + (j + 1) = k + 1 + j by omega] at this
      exact this)]
    split
    · rename_i hD
      rw [putR_get]
      split
      · rename_i hh
        have := h 0 it (by simp) hh.1
        rw [Nat.add_zero] at this
        rw [this] at hD
        cases hD
      · rfl
    · rfl

/-- One place more. -/
theorem rg_add {V : Nat → Value} {D : Nat → Bool} {q : Nat} : ∀ (l : List Item) (k : Nat) (r r' : Tr Value) (it : Item), (∀ t, r.get t = r'.get t) → k ≤ q → l[q - k]? = some it → D q = false → (∀ j x t, l[j]? = some x → q < k + j → D (k + j) = true → it.dst = some t → x.dst ≠ some t) →
    ∀ t, (rg V (fun n => D n || n == q) l k r).get t = (putR (rg V D l k r') it.dst (V q)).get t
  | [], k, r, r', it, _, _, h, _, _, t => by simp at h
  | x :: l, k, r, r', it, hrr, hk, h, hD, hlater, t => by
    simp only [rg]
    by_cases hkq : k = q
    · subst hkq
      simp only [Nat.sub_self, List.getElem?_cons_zero, Option.some.injEq] at h
      subst h
      simp only [BEq.rfl, Bool.or_true, if_true, hD, Bool.false_eq_true, if_false]
      -- behind q the two agree but for what x writes
      have e1 : ∀ t', (rg V (fun n => D n || n == k) l (k + 1) (putR r x.dst (V k))).get t' = (rg V D l (k + 1) (putR r x.dst (V k))).get t' := fun t' =>
        rg_agree t' l (k + 1) _ _ rfl (fun j y hj _ => by
          have : (k + 1 + j == k) = false := by simp; omega
          simp [this])
      rw [e1, putR_get]
      by_cases ht : x.dst = some t
      · have e2 : (rg V D l (k + 1) (putR r x.dst (V k))).get t = (putR r x.dst (V k)).get t := by
          refine rg_none t l (k + 1) _ (fun j y hj hy => ?_)
          cases hDj : D (k + 1 + j) with
          | false => rfl
          | true =>
            have := hlater (j + 1) y t (by simpa using hj) (by omega) (by rw [show k + (j + 1) = k + 1 + j by omega]; exact hDj) ht
            exact absurd hy this
        rw [e2, putR_get, rg_isSome, ← hrr]
        by_cases hs : (r.get t).isSome = true
        · rw [if_pos ⟨ht, hs⟩, if_pos ⟨ht, hs⟩]
        · rw [if_neg (fun hh => hs hh.2), if_neg (fun hh => hs hh.2)]
          have h1 : r.get t = none := by cases hh : r.get t with
            | none => rfl
            | some _ => rw [hh] at hs; simp at hs
          have h2 : ((rg V D l (k + 1) r').get t).isSome = false := by rw [rg_isSome, ← hrr, h1]; rfl
          cases hh : (rg V D l (k + 1) r').get t with
          | none => exact h1
          | some _ => rw [hh] at h2; cases h2
      · rw [if_neg (fun hh => ht hh.1)]
        refine rg_agree t l (k + 1) _ _ ?_ (fun _ _ _ _ => rfl)
        rw [putR_get, if_neg (fun hh => ht hh.1), hrr]
    · have e : (k == q) = false := by simpa using hkq
      simp only [e, Bool.or_false]
      have hq : l[q - (k + 1)]? = some it := by
        have : q - k = (q - (k + 1)) + 1 := by omega
        rw [this, List.getElem?_cons_succ] at h
        exact h
      refine rg_add l (k + 1) _ _ it (fun t' => ?_) (by omega) hq hD (fun j y t' hj hlt hDj hd => ?_) t
      · split
        · rw [putR_get, putR_get, hrr]
        · exact hrr t'
      · exact hlater (j + 1) y t' (by simpa using hj) (by omega) (by rw [show k + (j + 1) = k + 1 + j by omega]; exact hDj) hd

/-- The registers of the evaluator's order. -/
theorem rg_prefix {callf : Nat → List Value → AS → Res} {R : Nat → Tr Value} {S : Nat → AS} {V : Nat → Value} {W : Nat → Bool} {old : Nat → List AS} {its : List Item} (hT : Trace callf its R S V W old) :
    ∀ m, m ≤ its.length → ∀ t, (R m).get t = (rg V (fun q => decide (q < m)) its 0 (R 0)).get t := by
  intro m
  induction m with
  | zero =>
    intro _ t
    rw [rg_none t its 0 (R 0) (fun j it _ _ => by simp)]
  | succ m ih =>
    intro hm t
    have hlt : m < its.length := by omega
    have hit := List.getElem?_eq_getElem hlt
    obtain ⟨_, _, _, hR, _⟩ := hT.step m _ hit
    rw [hR]
    have h1 := rg_add (V := V) (D := fun q => decide (q < m)) (q := m) its 0 (R 0) (R 0) its[m] (fun _ => rfl) (Nat.zero_le _) (by simp [hit]) (by simp) (fun j x t' _ hj hD _ => by simp at hD; omega) t
    have h2 : (rg V (fun q => decide (q < m + 1)) its 0 (R 0)).get t = (rg V (fun n => decide (n < m) || n == m) its 0 (R 0)).get t :=
      rg_agree t its 0 _ _ rfl (fun j it _ _ => by
        simp only [Nat.zero_add]
        by_cases h : j < m
        · simp [h]; omega
        · by_cases h' : j = m
          · subst h'; simp
          · have : (j == m) = false := by simpa using h'
            simp [h, this]; omega)
    rw [h2, h1, putR_get, putR_get, ih (by omega) t]

end Go.Rf
