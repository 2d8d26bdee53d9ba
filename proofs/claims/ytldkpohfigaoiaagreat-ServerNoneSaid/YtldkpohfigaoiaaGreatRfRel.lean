/- How the evaluator's heap stands to the model's world: names for blocks, values and objects that are the same but for the names, and what one step leaves. -/
import Derived.Test.YtldkpohfigaoiaaGreatRfDef
import Derived.Laws.Tables
import Derived.Laws.IdiomCopy
namespace Go.Rf
open Go Go.RowKit

/-! Trees. -/
theorem Tr.get_upd_same {α : Type} : ∀ (t : Tr α) (n : Nat) (x y : α), t.get n = some y → (t.upd n x).get n = some x
  | .leaf, _, _, _, h => by simp [Tr.get] at h
  | .node l v r, 0, x, y, h => by
    simp only [Tr.get] at h
    simp [Tr.upd, Tr.get, h]
  | .node l v r, k + 1, x, y, h => by
    simp only [Tr.get] at h
    simp only [Tr.upd]
    cases hk : Nat.mod k 2 with
    | zero => simp only [hk] at h; simp only [Tr.get, hk]; exact Tr.get_upd_same l _ x y h
    | succ m => simp only [hk] at h; simp only [Tr.get, hk]; exact Tr.get_upd_same r _ x y h

theorem Tr.get_upd_none {α : Type} : ∀ (t : Tr α) (n m : Nat) (x : α), t.get m = none → (t.upd n x).get m = none
  | .leaf, _, _, _, h => by simpa [Tr.upd] using h
  | .node l v r, 0, m, x, h => by
    cases m with
    | zero => simp only [Tr.get] at h; simp [Tr.upd, Tr.get, h]
    | succ j => simp only [Tr.get] at h; simp only [Tr.upd, Tr.get]; exact h
  | .node l v r, k + 1, m, x, h => by
    cases m with
    | zero =>
      simp only [Tr.get] at h
      simp only [Tr.upd]
      cases hk : Nat.mod k 2 <;> simp [Tr.get, h]
    | succ j =>
      simp only [Tr.get] at h
      simp only [Tr.upd]
      cases hk : Nat.mod k 2 with
      | zero =>
        simp only [Tr.get]
        cases hj : Nat.mod j 2 with
        | zero => simp only [hj] at h; exact Tr.get_upd_none l _ _ x h
        | succ _ => simp only [hj] at h; exact h
      | succ _ =>
        simp only [Tr.get]
        cases hj : Nat.mod j 2 with
        | zero => simp only [hj] at h; exact h
        | succ _ => simp only [hj] at h; exact Tr.get_upd_none r _ _ x h

theorem half_ne {j k m m' : Nat} (hjk : j ≠ k) (hk : Nat.mod k 2 = m) (hj : Nat.mod j 2 = m') (hm : (m = 0 ∧ m' = 0) ∨ (0 < m ∧ 0 < m')) : Nat.div j 2 ≠ Nat.div k 2 := by
  have hk' : k % 2 = m := hk
  have hj' : j % 2 = m' := hj
  show j / 2 ≠ k / 2
  omega

theorem Tr.get_upd_ne {α : Type} : ∀ (t : Tr α) (n m : Nat) (x : α), m ≠ n → (t.upd n x).get m = t.get m
  | .leaf, _, _, _, _ => rfl
  | .node l v r, 0, m, x, h => by
    cases m with
    | zero => exact absurd rfl h
    | succ j => simp [Tr.upd, Tr.get]
  | .node l v r, k + 1, m, x, h => by
    cases m with
    | zero =>
      simp only [Tr.upd]
      cases hk : Nat.mod k 2 <;> simp [Tr.get]
    | succ j =>
      have hjk : j ≠ k := fun e => h (by rw [e])
      simp only [Tr.upd]
      cases hk : Nat.mod k 2 with
      | zero =>
        simp only [Tr.get]
        cases hj : Nat.mod j 2 with
        | zero => exact Tr.get_upd_ne l _ _ x (half_ne hjk hk hj (.inl ⟨rfl, rfl⟩))
        | succ _ => rfl
      | succ _ =>
        simp only [Tr.get]
        cases hj : Nat.mod j 2 with
        | zero => rfl
        | succ _ => exact Tr.get_upd_ne r _ _ x (half_ne hjk hk hj (.inr ⟨Nat.succ_pos _, Nat.succ_pos _⟩))

theorem Tr.get_set_same {α : Type} : ∀ (d : Nat) (t : Tr α) (n : Nat) (x : Option α), fits d n = true → (Tr.set d t n x).get n = x
  | 0, _, _, _, h => by simp [fits] at h
  | d + 1, t, n, x, h => by
    cases t with
    | leaf =>
      cases n with
      | zero => simp [Tr.set, Tr.get]
      | succ k =>
        simp only [fits] at h
        simp only [Tr.set]
        cases hk : Nat.mod k 2 with
        | zero => simp only [Tr.get, hk]; exact Tr.get_set_same d _ _ x h
        | succ _ => simp only [Tr.get, hk]; exact Tr.get_set_same d _ _ x h
    | node l v r =>
      cases n with
      | zero => simp [Tr.set, Tr.get]
      | succ k =>
        simp only [fits] at h
        simp only [Tr.set]
        cases hk : Nat.mod k 2 with
        | zero => simp only [Tr.get, hk]; exact Tr.get_set_same d _ _ x h
        | succ _ => simp only [Tr.get, hk]; exact Tr.get_set_same d _ _ x h

theorem Tr.get_set_ne {α : Type} : ∀ (d : Nat) (t : Tr α) (n m : Nat) (x : Option α), m ≠ n → (Tr.set d t n x).get m = t.get m
  | 0, _, _, _, _, _ => rfl
  | d + 1, t, n, m, x, h => by
    cases t with
    | leaf =>
      cases n with
      | zero =>
        cases m with
        | zero => exact absurd rfl h
        | succ j => simp only [Tr.set, Tr.get]; cases Nat.mod j 2 <;> rfl
      | succ k =>
        simp only [Tr.set]
        cases m with
        | zero => cases hk : Nat.mod k 2 <;> simp [Tr.get]
        | succ j =>
          have hjk : j ≠ k := fun e => h (by rw [e])
          cases hk : Nat.mod k 2 with
          | zero =>
            simp only [Tr.get]
            cases hj : Nat.mod j 2 with
            | zero => simp only []; rw [Tr.get_set_ne d .leaf _ _ x (half_ne hjk hk hj (.inl ⟨rfl, rfl⟩))]; rfl
            | succ _ => rfl
          | succ _ =>
            simp only [Tr.get]
            cases hj : Nat.mod j 2 with
            | zero => rfl
            | succ _ => simp only []; rw [Tr.get_set_ne d .leaf _ _ x (half_ne hjk hk hj (.inr ⟨Nat.succ_pos _, Nat.succ_pos _⟩))]; rfl
    | node l v r =>
      cases n with
      | zero =>
        cases m with
        | zero => exact absurd rfl h
        | succ j => simp [Tr.set, Tr.get]
      | succ k =>
        simp only [Tr.set]
        cases m with
        | zero => cases hk : Nat.mod k 2 <;> simp [Tr.get]
        | succ j =>
          have hjk : j ≠ k := fun e => h (by rw [e])
          cases hk : Nat.mod k 2 with
          | zero =>
            simp only [Tr.get]
            cases hj : Nat.mod j 2 with
            | zero => exact Tr.get_set_ne d l _ _ x (half_ne hjk hk hj (.inl ⟨rfl, rfl⟩))
            | succ _ => rfl
          | succ _ =>
            simp only [Tr.get]
            cases hj : Nat.mod j 2 with
            | zero => rfl
            | succ _ => exact Tr.get_set_ne d r _ _ x (half_ne hjk hk hj (.inr ⟨Nat.succ_pos _, Nat.succ_pos _⟩))

theorem Tr.get_set_none {α : Type} : ∀ (d : Nat) (t : Tr α) (n : Nat), (Tr.set d t n none).get n = none ∨ (Tr.set d t n none).get n = t.get n
  | 0, _, _ => .inr rfl
  | d + 1, t, n => by
    cases t with
    | leaf =>
      cases n with
      | zero => simp [Tr.set, Tr.get]
      | succ k =>
        left
        simp only [Tr.set]
        cases hk : Nat.mod k 2 with
        | zero =>
          simp only [Tr.get, hk]
          rcases Tr.get_set_none d (.leaf : Tr α) (Nat.div k 2) with h | h
          · exact h
          · rw [h]; rfl
        | succ _ =>
          simp only [Tr.get, hk]
          rcases Tr.get_set_none d (.leaf : Tr α) (Nat.div k 2) with h | h
          · exact h
          · rw [h]; rfl
    | node l v r =>
      cases n with
      | zero => simp [Tr.set, Tr.get]
      | succ k =>
        simp only [Tr.set]
        cases hk : Nat.mod k 2 with
        | zero => simp only [Tr.get, hk]; exact Tr.get_set_none d l _
        | succ _ => simp only [Tr.get, hk]; exact Tr.get_set_none d r _

/-! Lists. -/
theorem nth_eq {α : Type} : ∀ (l : List α) (n : Nat), nth l n = l[n]?
  | [], _ => by simp [nth]
  | _ :: _, 0 => by simp [nth]
  | _ :: l, n + 1 => by simp [nth, nth_eq l n]

theorem len_eq {α : Type} : ∀ (l : List α), len l = l.length
  | [] => rfl
  | _ :: l => by simp [len, len_eq l]

theorem take?_some {α : Type} : ∀ (n : Nat) (l r : List α), take? n l = some r → r = l.take n ∧ n ≤ l.length
  | 0, l, r, h => by simp [take?] at h; simp [← h]
  | n + 1, [], r, h => by simp [take?] at h
  | n + 1, x :: l, r, h => by
    simp only [take?] at h
    cases ht : take? n l with
    | none => simp [ht] at h
    | some q =>
      simp only [ht, Option.some.injEq] at h
      obtain ⟨h1, h2⟩ := take?_some n l q ht
      subst h1
      simp [← h]; omega

theorem drop?_some {α : Type} : ∀ (n : Nat) (l r : List α), drop? n l = some r → r = l.drop n ∧ n ≤ l.length
  | 0, l, r, h => by simp [drop?] at h; simp [← h]
  | n + 1, [], r, h => by simp [drop?] at h
  | n + 1, x :: l, r, h => by
    simp only [drop?] at h
    obtain ⟨h1, h2⟩ := drop?_some n l r h
    simp [h1]; omega

theorem seg_some {α : Type} {l r : List α} {i n : Nat} (h : seg l i n = some r) : r = (l.drop i).take n ∧ i + n ≤ l.length ∧ r.length = n := by
  unfold seg at h
  cases hd : drop? i l with
  | none => simp [hd] at h
  | some q =>
    simp only [hd] at h
    obtain ⟨h1, h2⟩ := drop?_some i l q hd
    obtain ⟨h3, h4⟩ := take?_some n q r h
    subst h1
    simp at h4
    refine ⟨h3, by omega, ?_⟩
    rw [h3]; simp; omega

theorem seg_get {α : Type} {l r : List α} {i n : Nat} (h : seg l i n = some r) (j : Nat) (hj : j < n) : r[j]? = l[i + j]? := by
  obtain ⟨h1, h2, _⟩ := seg_some h
  rw [h1, List.getElem?_take, if_pos hj, List.getElem?_drop]

theorem over_some {α : Type} : ∀ (l vs r : List α), over l vs = some r → r = vs ++ l.drop vs.length ∧ vs.length ≤ l.length
  | l, [], r, h => by cases l <;> simp [over] at h <;> simp [← h]
  | [], v :: vs, r, h => by simp [over] at h
  | x :: l, v :: vs, r, h => by
    simp only [over] at h
    cases ho : over l vs with
    | none => simp [ho] at h
    | some q =>
      simp only [ho, Option.some.injEq] at h
      obtain ⟨h1, h2⟩ := over_some l vs q ho
      subst h1
      simp [← h]; omega

theorem overAt_some {α : Type} : ∀ (l : List α) (i : Nat) (vs r : List α), overAt l i vs = some r → i + vs.length ≤ l.length + (if vs = [] then i else 0) ∧ r.length = l.length ∧ ∀ j, r[j]? = if i ≤ j ∧ j < i + vs.length then vs[j - i]? else l[j]?
  | l, 0, vs, r, h => by
    simp only [overAt] at h
    obtain ⟨h1, h2⟩ := over_some l vs r h
    refine ⟨by split <;> omega, by rw [h1]; simp; omega, fun j => ?_⟩
    rw [h1, List.getElem?_append]
    by_cases hj : j < vs.length
    · simp [hj]
    · simp [hj]; congr 1; omega
  | [], i + 1, vs, r, h => by
    cases vs <;> simp [overAt] at h
  | x :: l, i + 1, vs, r, h => by
    simp only [overAt] at h
    cases ho : overAt l i vs with
    | none => simp [ho] at h
    | some q =>
      simp only [ho, Option.some.injEq] at h
      obtain ⟨h1, h2, h3⟩ := overAt_some l i vs q ho
      subst h
      refine ⟨by simp only [List.length_cons]; split at h1 <;> simp_all <;> omega, by simp [h2], fun j => ?_⟩
      cases j with
      | zero => simp
      | succ j =>
        simp only [List.getElem?_cons_succ, h3 j]
        have e : j + 1 - (i + 1) = j - i := by omega
        rw [e]
        by_cases hc : i ≤ j ∧ j < i + vs.length
        · rw [if_pos hc, if_pos (by omega)]
        · rw [if_neg hc, if_neg (by omega)]

theorem app_eq {α : Type} : ∀ (l m : List α), app l m = l ++ m
  | [], _ => rfl
  | x :: l, m => by simp [app, app_eq l m]

theorem rep_eq {α : Type} : ∀ (n : Nat) (l : List α), rep n l = (List.replicate n l).flatten
  | 0, _ => by simp [rep]
  | n + 1, l => by simp [rep, app_eq, rep_eq n l, List.replicate_succ]

/-! Values, the same but for the names of blocks. -/
structure Tgt where
  blk : Nat
  sh : Nat
  room : Nat
  esz : Nat

abbrev Ren := Nat → Option Tgt

mutual
inductive VRel (ρ : Ren) : Value → Value → Prop
  | bool (b : Bool) : VRel ρ (.bool b) (.bool b)
  | int (k : IntKind) (n : Int) : VRel ρ (.int k n) (.int k n)
  | string (s : ByteArray) : VRel ρ (.string s) (.string s)
  | ptr0 : VRel ρ (.pointer none) (.pointer none)
  | ptr (n i : Nat) (t : Tgt) : ρ n = some t → VRel ρ (.pointer (some ⟨n, i, none⟩)) (.pointer (some ⟨t.blk, i + t.sh, none⟩))
  | slice0 (n c : Nat) : VRel ρ (.slice none n c) (.slice none n c)
  | slice (b i n c : Nat) (t : Tgt) (c' : Nat) : ρ b = some t → (c' = c ∨ (c ≤ c' ∧ 0 < t.esz ∧ i + c' * t.esz ≤ t.room)) →
      VRel ρ (.slice (some ⟨b, i, none⟩) n c) (.slice (some ⟨t.blk, i + t.sh, none⟩) n c')
  | sliceE (b i j : Nat) (t : Tgt) : ρ b = some t → VRel ρ (.slice (some ⟨b, i, none⟩) 0 0) (.slice (some ⟨t.blk, j, none⟩) 0 0)
  | map0 : VRel ρ (.map none) (.map none)
  | map (n : Nat) (t : Tgt) : ρ n = some t → VRel ρ (.map (some n)) (.map (some t.blk))
  | func (fn : Fn) (a b a' b' : Array Value) : VsRel ρ a.toList a'.toList → VsRel ρ b.toList b'.toList → VRel ρ (.func fn a b) (.func fn a' b')
  | nilFunc : VRel ρ .nilFunc .nilFunc
  | iface (t : TypeId) (v u : Value) : VRel ρ v u → VRel ρ (.iface t v) (.iface t u)
  | nilIface : VRel ρ .nilIface .nilIface
  | agg (a b : Array Value) : VsRel ρ a.toList b.toList → VRel ρ (.agg a) (.agg b)
  | tuple (a b : Array Value) : VsRel ρ a.toList b.toList → VRel ρ (.tuple a) (.tuple b)
inductive VsRel (ρ : Ren) : List Value → List Value → Prop
  | nil : VsRel ρ [] []
  | cons (v u : Value) (l m : List Value) : VRel ρ v u → VsRel ρ l m → VsRel ρ (v :: l) (u :: m)
end

def Ext (ρ ρ' : Ren) : Prop := ∀ n t, ρ n = some t → ρ' n = some t
theorem Ext.refl (ρ : Ren) : Ext ρ ρ := fun _ _ h => h
theorem Ext.trans {a b c : Ren} (h : Ext a b) (k : Ext b c) : Ext a c := fun n t x => k n t (h n t x)

mutual
theorem VRel.mono {ρ ρ' : Ren} (h : Ext ρ ρ') : ∀ {v u : Value}, VRel ρ v u → VRel ρ' v u
  | _, _, .bool b => .bool b
  | _, _, .int k n => .int k n
  | _, _, .string s => .string s
  | _, _, .ptr0 => .ptr0
  | _, _, .ptr n i t e => .ptr n i t (h _ _ e)
  | _, _, .slice0 n c => .slice0 n c
  | _, _, .slice b i n c t c' e q => .slice b i n c t c' (h _ _ e) q
  | _, _, .sliceE b i j t e => .sliceE b i j t (h _ _ e)
  | _, _, .map0 => .map0
  | _, _, .map n t e => .map n t (h _ _ e)
  | _, _, .func fn a b a' b' x y => .func fn a b a' b' (VsRel.mono h x) (VsRel.mono h y)
  | _, _, .nilFunc => .nilFunc
  | _, _, .iface t v u x => .iface t v u (VRel.mono h x)
  | _, _, .nilIface => .nilIface
  | _, _, .agg a b x => .agg a b (VsRel.mono h x)
  | _, _, .tuple a b x => .tuple a b (VsRel.mono h x)
theorem VsRel.mono {ρ ρ' : Ren} (h : Ext ρ ρ') : ∀ {l m : List Value}, VsRel ρ l m → VsRel ρ' l m
  | _, _, .nil => .nil
  | _, _, .cons v u l m x y => .cons v u l m (VRel.mono h x) (VsRel.mono h y)
end

theorem VsRel.length {ρ : Ren} : ∀ {l m : List Value}, VsRel ρ l m → m.length = l.length
  | _, _, .nil => rfl
  | _, _, .cons _ _ _ _ _ y => by simp [VsRel.length y]

theorem VsRel.get {ρ : Ren} : ∀ {l m : List Value}, VsRel ρ l m → ∀ (i : Nat) (v : Value), l[i]? = some v → ∃ u, m[i]? = some u ∧ VRel ρ v u
  | _, _, .nil, i, v, h => by simp at h
  | _, _, .cons x y l m hx hl, 0, v, h => by simp at h; exact ⟨y, by simp, h ▸ hx⟩
  | _, _, .cons x y l m hx hl, i + 1, v, h => by
    simp only [List.getElem?_cons_succ] at h
    obtain ⟨u, h1, h2⟩ := VsRel.get hl i v h
    exact ⟨u, by simpa using h1, h2⟩

theorem VsRel.of_get {ρ : Ren} : ∀ (l m : List Value), m.length = l.length → (∀ (i : Nat) (v : Value), l[i]? = some v → ∃ u, m[i]? = some u ∧ VRel ρ v u) → VsRel ρ l m
  | [], [], _, _ => .nil
  | [], _ :: _, h, _ => by simp at h
  | _ :: _, [], h, _ => by simp at h
  | x :: l, y :: m, h, hg => by
    obtain ⟨u, h1, h2⟩ := hg 0 x (by simp)
    simp at h1
    subst h1
    exact .cons x y l m h2 (VsRel.of_get l m (by simpa using h) fun i v hi => by
      obtain ⟨u, h1, h2⟩ := hg (i + 1) v (by simpa using hi)
      exact ⟨u, by simpa using h1, h2⟩)

theorem VsRel.append {ρ : Ren} : ∀ {l m l' m' : List Value}, VsRel ρ l m → VsRel ρ l' m' → VsRel ρ (l ++ l') (m ++ m')
  | _, _, _, _, .nil, h => h
  | _, _, _, _, .cons v u l m x y, h => .cons v u _ _ x (VsRel.append y h)

theorem VsRel.drop {ρ : Ren} : ∀ (n : Nat) {l m : List Value}, VsRel ρ l m → VsRel ρ (l.drop n) (m.drop n)
  | 0, _, _, h => by simpa using h
  | n + 1, _, _, .nil => by simpa using VsRel.nil
  | n + 1, _, _, .cons v u l m x y => by simpa using VsRel.drop n y

theorem VsRel.take {ρ : Ren} : ∀ (n : Nat) {l m : List Value}, VsRel ρ l m → VsRel ρ (l.take n) (m.take n)
  | 0, _, _, _ => by simpa using VsRel.nil
  | n + 1, _, _, .nil => by simpa using VsRel.nil
  | n + 1, _, _, .cons v u l m x y => by simpa using VsRel.cons v u _ _ x (VsRel.take n y)

theorem VRel.plain {ρ : Ren} {v u : Value} (h : VRel ρ v u) (hp : plainV v = true) : u.oneCell' = true := by
  cases h <;> simp [plainV] at hp <;> rfl

theorem VRel.cells {ρ : Ren} {v u : Value} (h : VRel ρ v u) : VsRel ρ (cellsL v) u.cells.toList := by
  cases h with
  | agg a b x => exact x
  | _ => simp only [cellsL, Value.cells]; refine .cons _ _ _ _ ?_ .nil; constructor <;> assumption

theorem allPlain_mem : ∀ {l : List Value}, allPlain l = true → ∀ v ∈ l, plainV v = true
  | [], _, v, h => by simp at h
  | x :: l, hp, v, h => by
    simp only [allPlain] at hp
    cases hx : plainV x with
    | false => simp [hx] at hp
    | true =>
      simp only [hx] at hp
      rcases List.mem_cons.1 h with e | e
      · rw [e]; exact hx
      · exact allPlain_mem hp v e

theorem VsRel.plain {ρ : Ren} : ∀ {l m : List Value}, VsRel ρ l m → allPlain l = true → ∀ u ∈ m, u.oneCell' = true
  | _, _, .nil, _, u, h => by simp at h
  | _, _, .cons v x l m hv hl, hp, u, h => by
    have hv' := allPlain_mem hp v (by simp)
    have hl' : allPlain l = true := by simp only [allPlain, hv'] at hp; exact hp
    rcases List.mem_cons.1 h with e | e
    · rw [e]; exact hv.plain hv'
    · exact VsRel.plain hl hl' u e

theorem pure_rel (ρ : Ren) : ∀ (d : Nat) (v : Value), pureV d v = true → VRel ρ v v
  | 0, v, h => by simp [pureV] at h
  | d + 1, v, h => by
    have key : ∀ l : List Value, l.all (pureV d) = true → VsRel ρ l l := by
      intro l hl
      induction l with
      | nil => exact .nil
      | cons x l ih =>
        simp only [List.all_cons, Bool.and_eq_true] at hl
        exact .cons _ _ _ _ (pure_rel ρ d x hl.1) (ih hl.2)
    cases v with
    | bool b => exact .bool b
    | int k n => exact .int k n
    | string s => exact .string s
    | pointer a => cases a with
      | none => exact .ptr0
      | some a => simp [pureV] at h
    | slice a n c => cases a with
      | none => exact .slice0 n c
      | some a => simp [pureV] at h
    | map r => cases r with
      | none => exact .map0
      | some a => simp [pureV] at h
    | nilFunc => exact .nilFunc
    | nilIface => exact .nilIface
    | agg cs => simp only [pureV] at h; exact .agg _ _ (key _ h)
    | tuple cs => simp only [pureV] at h; exact .tuple _ _ (key _ h)
    | func f a b => simp only [pureV, Bool.and_eq_true] at h; exact .func _ _ _ _ _ (key _ h.1) (key _ h.2)
    | iface t v => simp only [pureV] at h; exact .iface _ _ _ (pure_rel ρ d v h)
    | float k b => simp [pureV] at h
    | complex k a b => simp [pureV] at h
    | chan r => simp [pureV] at h

theorem undef_rel (ρ : Ren) : VRel ρ undef undef := .tuple _ _ .nil

/-! Objects. -/
inductive EsRel (ρ : Ren) : List MapEntry → List MapEntry → Prop
  | nil : EsRel ρ [] []
  | cons (e f : MapEntry) (l m : List MapEntry) : VRel ρ e.key f.key → VRel ρ e.val f.val → f.born = e.born → EsRel ρ l m → EsRel ρ (e :: l) (f :: m)

theorem EsRel.mono {ρ ρ' : Ren} (h : Ext ρ ρ') {l m : List MapEntry} (x : EsRel ρ l m) : EsRel ρ' l m := by
  induction x with
  | nil => exact .nil
  | cons e f l m a b c _ ih => exact .cons e f l m (a.mono h) (b.mono h) c ih

def MRel (ρ : Ren) : Option Nat → Option Nat → Prop
  | none, none => True
  | some n, some k => ∃ t, ρ n = some t ∧ t.blk = k
  | _, _ => False

def ORel (ρ : Ren) (t : Tgt) : AObj → Obj → Prop
  | .row cs e pl z, .cells c e' fz => e' = e ∧ z = t.esz ∧ cs.length ≤ t.room ∧ t.sh + t.room ≤ c.size ∧
      (∀ i v, cs[i]? = some v → ∃ u, c[i + t.sh]? = some u ∧ VRel ρ v u) ∧
      (∀ j, t.sh ≤ j → j < t.sh + t.room → ¬ (fz.1 ≤ j ∧ j < fz.2)) ∧ (pl = true → fz = (0, 0))
  | .map es ck, .map es' ck' => t.sh = 0 ∧ ck' = ck ∧ EsRel ρ es es'.toList
  | .miter m since seen st, .mapIter m' since' seen' st' => t.sh = 0 ∧ MRel ρ m m' ∧ since' = since ∧ seen'.toList = seen ∧ st' = st
  | _, _ => False

theorem ORel.mono {ρ ρ' : Ren} (h : Ext ρ ρ') {t : Tgt} {o : AObj} {o' : Obj} (x : ORel ρ t o o') : ORel ρ' t o o' := by
  cases o <;> cases o' <;> simp only [ORel] at x ⊢
  case row.cells =>
    obtain ⟨a, b, c, d, e, f, g⟩ := x
    exact ⟨a, b, c, d, fun i v hi => let ⟨u, p, q⟩ := e i v hi; ⟨u, p, q.mono h⟩, f, g⟩
  case map.map => exact ⟨x.1, x.2.1, x.2.2.mono h⟩
  case miter.mapIter =>
    rename_i m _ _ _ m' _ _ _
    refine ⟨x.1, ?_, x.2.2⟩
    have := x.2.1
    cases m <;> cases m' <;> simp only [MRel] at this ⊢
    obtain ⟨t, a, b⟩ := this
    exact ⟨t, h _ _ a, b⟩

/-! The relation of a heap to a world, and what a step keeps. -/
structure Rel (B : Nat) (ρ : Ren) (s : AS) (w : World) : Prop where
  base : B ≤ w.heap.size
  nx : ∀ n t, ρ n = some t → n < s.next
  ub : ∀ n t, ρ n = some t → t.blk < w.heap.size
  live : ∀ n o, s.obj n = some o → ∃ t o', ρ n = some t ∧ B ≤ t.blk ∧ w.heap[t.blk]? = some o' ∧ ORel ρ t o o'
  inj : ∀ n m o o' t t', s.obj n = some o → s.obj m = some o' → ρ n = some t → ρ m = some t' → t.blk = t'.blk → n = m

structure Nx (B : Nat) (ρ : Ren) (s : AS) (w : World) (ρ' : Ren) (s' : AS) (w' : World) : Prop where
  ext : Ext ρ ρ'
  rel : Rel B ρ' s' w'
  below : Below B w w'
  fr : ∀ k, k < w.heap.size → (∀ n o t, s.obj n = some o → ρ n = some t → t.blk ≠ k) → w'.heap[k]? = w.heap[k]?
  ow : ∀ n o t, s'.obj n = some o → ρ' n = some t → t.blk < w.heap.size → ∃ n' o' t', s.obj n' = some o' ∧ ρ n' = some t' ∧ t'.blk = t.blk
  nmono : s.next ≤ s'.next

theorem Nx.refl {B : Nat} {ρ : Ren} {s : AS} {w : World} (h : Rel B ρ s w) : Nx B ρ s w ρ s w :=
  ⟨.refl _, h, .refl _ _, fun _ _ _ => rfl, fun n o t a b _ => ⟨n, o, t, a, b, rfl⟩, Nat.le_refl _⟩

theorem Nx.trans {B : Nat} {ρ ρ' ρ'' : Ren} {s s' s'' : AS} {w w' w'' : World} (h : Nx B ρ s w ρ' s' w') (k : Nx B ρ' s' w' ρ'' s'' w'') : Nx B ρ s w ρ'' s'' w'' := by
  refine ⟨h.ext.trans k.ext, k.rel, h.below.trans k.below, fun b hb hn => ?_, fun n o t a b c => ?_, Nat.le_trans h.nmono k.nmono⟩
  · rw [k.fr b (Nat.lt_of_lt_of_le hb h.below.size) (fun n o t a e hk => ?_), h.fr b hb hn]
    obtain ⟨n', o', t', x, y, z⟩ := h.ow n o t a e (by omega)
    exact hn n' o' t' x y (z.trans hk)
  · obtain ⟨n', o', t', x, y, z⟩ := k.ow n o t a b (Nat.lt_of_lt_of_le c h.below.size)
    obtain ⟨n2, o2, t2, x2, y2, z2⟩ := h.ow n' o' t' x y (by omega)
    exact ⟨n2, o2, t2, x2, y2, z2.trans z⟩

/-- A draw turns nothing. -/
theorem Rel.of_heap {B : Nat} {ρ : Ren} {s : AS} {w w' : World} (h : Rel B ρ s w) (e : w'.heap = w.heap) : Rel B ρ s w' := by
  obtain ⟨a, b, c, d, i⟩ := h
  exact ⟨by rw [e]; exact a, b, by rw [e]; exact c, by rw [e]; exact d, i⟩

theorem Nx.draw {B : Nat} {ρ : Ren} {s : AS} {w w' : World} (h : Rel B ρ s w) (e : w'.heap = w.heap) (ho : w'.os = w.os) (ht : w'.tape = w.tape) (hp : w'.output = w.output) : Nx B ρ s w ρ s w' :=
  ⟨.refl _, h.of_heap e, ⟨ho, ht, hp, by rw [e]; exact Nat.le_refl _, fun k _ => by rw [e]⟩, fun _ _ _ => by rw [e], fun n o t a b _ => ⟨n, o, t, a, b, rfl⟩, Nat.le_refl _⟩

def bind1 (ρ : Ren) (n : Nat) (t : Tgt) : Ren := fun m => if m = n then some t else ρ m

theorem Rel.fresh {B : Nat} {ρ : Ren} {s : AS} {w : World} (h : Rel B ρ s w) : ρ s.next = none := by
  cases hr : ρ s.next with
  | none => rfl
  | some t => exact absurd (h.nx _ _ hr) (Nat.lt_irrefl _)

theorem Rel.ext1 {B : Nat} {ρ : Ren} {s : AS} {w : World} (h : Rel B ρ s w) (t : Tgt) : Ext ρ (bind1 ρ s.next t) := fun n u e => by
  unfold bind1
  split
  · rename_i hn; rw [hn, h.fresh] at e; cases e
  · exact e

theorem AS.obj_new {s : AS} {o : AObj} (hr : s.roomy = true) (n : Nat) : (s.new o).obj n = if n = s.next then some o else s.obj n := by
  unfold AS.obj AS.new
  split
  · rename_i e; subst e; exact Tr.get_set_same _ _ _ _ hr
  · rename_i e; exact Tr.get_set_ne _ _ _ _ _ e

theorem Rel.no_next {B : Nat} {ρ : Ren} {s : AS} {w : World} (h : Rel B ρ s w) : s.obj s.next = none := by
  cases ho : s.obj s.next with
  | none => rfl
  | some o =>
    obtain ⟨t, _, ht, _⟩ := h.live _ _ ho
    rw [h.fresh] at ht; cases ht

/-- A new block. -/
theorem Nx.new {B : Nat} {ρ : Ren} {s : AS} {w w' : World} {o : AObj} {o' : Obj} (h : Rel B ρ s w) (hr : s.roomy = true) (t : Tgt) (ht : t.blk = w.heap.size)
    (e : w'.heap = w.heap.push o') (ho : w'.os = w.os) (hta : w'.tape = w.tape) (hp : w'.output = w.output) (hO : ORel (bind1 ρ s.next t) t o o') :
    Nx B ρ s w (bind1 ρ s.next t) (s.new o) w' := by
  have hx := h.ext1 t
  have hsz : w'.heap.size = w.heap.size + 1 := by rw [e]; simp
  have hold : ∀ k, k < w.heap.size → w'.heap[k]? = w.heap[k]? := fun k hk => by rw [e, Array.getElem?_push, if_neg (by omega)]
  refine ⟨hx, ⟨by have := h.base; omega, ?_, ?_, ?_, ?_⟩, ⟨ho, hta, hp, by omega, fun k hk => hold k (by have := h.base; omega)⟩, fun k hk _ => hold k hk, ?_, by simp [AS.new]⟩
  · intro n u hu
    simp only [AS.new]
    unfold bind1 at hu
    split at hu
    · omega
    · have := h.nx _ _ hu; omega
  · intro n u hu
    unfold bind1 at hu
    split at hu
    · cases hu; omega
    · have := h.ub _ _ hu; omega
  · intro n q hq
    rw [AS.obj_new hr] at hq
    split at hq
    · rename_i hn
      cases hq
      refine ⟨t, o', by simp [bind1, hn], by rw [ht]; exact h.base, by rw [ht, e]; simp, hO⟩
    · rename_i hn
      obtain ⟨u, q', a, b, c, d⟩ := h.live n q hq
      exact ⟨u, q', hx _ _ a, b, by rw [hold _ (h.ub _ _ a)]; exact c, d.mono hx⟩
  · intro n m q q' u u' hn hm hu hu' hb
    rw [AS.obj_new hr] at hn hm
    unfold bind1 at hu hu'
    split at hn <;> split at hm
    · rename_i a b; rw [a, b]
    · rename_i a b
      rw [if_pos a] at hu
      rw [if_neg b] at hu'
      cases hu
      have := h.ub _ _ hu'
      omega
    · rename_i a b
      rw [if_neg a] at hu
      rw [if_pos b] at hu'
      cases hu'
      have := h.ub _ _ hu
      omega
    · rename_i a b
      rw [if_neg a] at hu
      rw [if_neg b] at hu'
      exact h.inj n m q q' u u' hn hm hu hu' hb
  · intro n q u hn hu hlt
    rw [AS.obj_new hr] at hn
    unfold bind1 at hu
    split at hn
    · rename_i a
      rw [if_pos a] at hu
      cases hu
      omega
    · rename_i a
      rw [if_neg a] at hu
      exact ⟨n, q, u, hn, hu, rfl⟩

theorem AS.obj_put {s : AS} {n : Nat} {o q : AObj} (h : s.obj n = some q) (m : Nat) : (s.put n o).obj m = if m = n then some o else s.obj m := by
  unfold AS.obj AS.put
  split
  · rename_i e; subst e; exact Tr.get_upd_same _ _ _ _ h
  · rename_i e; exact Tr.get_upd_ne _ _ _ _ e

/-- A block written. -/
theorem Nx.put {B : Nat} {ρ : Ren} {s : AS} {w w' : World} {n : Nat} {o q : AObj} {o' : Obj} {t : Tgt} (h : Rel B ρ s w) (hq : s.obj n = some q) (ht : ρ n = some t)
    (e : w'.heap = w.heap.setIfInBounds t.blk o') (ho : w'.os = w.os) (hta : w'.tape = w.tape) (hp : w'.output = w.output) (hO : ORel ρ t o o') :
    Nx B ρ s w ρ (s.put n o) w' := by
  have hlt := h.ub _ _ ht
  have hB : B ≤ t.blk := by
    obtain ⟨u, _, a, b, _⟩ := h.live _ _ hq
    rw [ht] at a; cases a; exact b
  have hsz : w'.heap.size = w.heap.size := by rw [e]; simp
  have hold : ∀ k, k ≠ t.blk → w'.heap[k]? = w.heap[k]? := fun k hk => by rw [e, Array.getElem?_setIfInBounds_ne (Ne.symm hk)]
  refine ⟨.refl _, ⟨by rw [hsz]; exact h.base, fun m u hu => by simpa [AS.put] using h.nx m u hu, by rw [hsz]; exact h.ub, ?_, ?_⟩, ⟨ho, hta, hp, by omega, fun k hk => hold k (by omega)⟩, fun k hk hn => hold k (fun hk' => hn n q t hq ht hk'.symm), ?_, by simp [AS.put]⟩
  · intro m x hx
    rw [AS.obj_put hq] at hx
    split at hx
    · rename_i hm
      cases hx
      exact ⟨t, o', by rw [hm]; exact ht, hB, by rw [e]; simp [hlt], hO⟩
    · rename_i hm
      obtain ⟨u, x', a, b, c, d⟩ := h.live m x hx
      refine ⟨u, x', a, b, ?_, d⟩
      rw [hold]
      · exact c
      · exact fun hb => hm (h.inj m n x q u t hx hq a ht hb)
  · intro m m' x x' u u' hm hm' hu hu' hb
    rw [AS.obj_put hq] at hm hm'
    have h1 : ∃ y, s.obj m = some y := by
      split at hm
      · rename_i a; exact ⟨q, by rw [a]; exact hq⟩
      · exact ⟨_, hm⟩
    have h2 : ∃ y, s.obj m' = some y := by
      split at hm'
      · rename_i a; exact ⟨q, by rw [a]; exact hq⟩
      · exact ⟨_, hm'⟩
    obtain ⟨y, hy⟩ := h1
    obtain ⟨y', hy'⟩ := h2
    exact h.inj m m' y y' u u' hy hy' hu hu' hb
  · intro m x u hm hu _
    rw [AS.obj_put hq] at hm
    split at hm
    · rename_i a
      exact ⟨n, q, u, hq, by rw [← a]; exact hu, rfl⟩
    · exact ⟨m, x, u, hm, hu, rfl⟩

theorem AS.obj_kill {s : AS} {n m : Nat} {o : AObj} (h : (s.kill n).obj m = some o) (hf : fits 22 n = true) : m ≠ n ∧ s.obj m = some o := by
  unfold AS.obj AS.kill at h
  by_cases e : m = n
  · subst e
    rw [Tr.get_set_same _ _ _ _ hf] at h
    cases h
  · exact ⟨e, by rw [Tr.get_set_ne _ _ _ _ _ e] at h; exact h⟩

/-- An object of the heap and its counterpart. -/
theorem Rel.at {B : Nat} {ρ : Ren} {s : AS} {w : World} (h : Rel B ρ s w) {n : Nat} {o : AObj} {t : Tgt} (ho : s.obj n = some o) (ht : ρ n = some t) : ∃ o', w.heap[t.blk]? = some o' ∧ ORel ρ t o o' := by
  obtain ⟨u, o', a, _, c, d⟩ := h.live _ _ ho
  rw [ht] at a
  cases a
  exact ⟨o', c, d⟩

theorem Rel.row {B : Nat} {ρ : Ren} {s : AS} {w : World} (h : Rel B ρ s w) {n : Nat} {cs : List Value} {e : TypeId} {pl : Bool} {z : Nat} {t : Tgt} (ho : s.obj n = some (.row cs e pl z)) (ht : ρ n = some t) :
    ∃ c fz, w.heap[t.blk]? = some (.cells c e fz) ∧ z = t.esz ∧ cs.length ≤ t.room ∧ t.sh + t.room ≤ c.size ∧ (∀ i v, cs[i]? = some v → ∃ u, c[i + t.sh]? = some u ∧ VRel ρ v u) ∧
      (∀ j, t.sh ≤ j → j < t.sh + t.room → ¬ (fz.1 ≤ j ∧ j < fz.2)) ∧ (pl = true → fz = (0, 0)) := by
  obtain ⟨o', a, b⟩ := h.at ho ht
  cases o' <;> simp only [ORel] at b
  obtain ⟨rfl, b⟩ := b
  exact ⟨_, _, a, b⟩

theorem Rel.map {B : Nat} {ρ : Ren} {s : AS} {w : World} (h : Rel B ρ s w) {n : Nat} {es : List MapEntry} {ck : Nat} {t : Tgt} (ho : s.obj n = some (.map es ck)) (ht : ρ n = some t) :
    ∃ es', w.heap[t.blk]? = some (.map es' ck) ∧ t.sh = 0 ∧ EsRel ρ es es'.toList := by
  obtain ⟨o', a, b⟩ := h.at ho ht
  cases o' <;> simp only [ORel] at b
  obtain ⟨h1, rfl, h2⟩ := b
  exact ⟨_, a, h1, h2⟩

/-! Registers and operands. -/
def RegsRel (ρ : Ren) (r : Tr Value) (tmps : Array Value) : Prop := ∀ t v, r.get t = some v → ∃ u, tmps[t]? = some u ∧ VRel ρ v u

theorem RegsRel.mono {ρ ρ' : Ren} (h : Ext ρ ρ') {r : Tr Value} {tmps : Array Value} (x : RegsRel ρ r tmps) : RegsRel ρ' r tmps :=
  fun t v hv => let ⟨u, a, b⟩ := x t v hv; ⟨u, a, b.mono h⟩

theorem RegsRel.put {ρ : Ren} {r : Tr Value} {tmps : Array Value} (x : RegsRel ρ r tmps) (d : Nat) {v u : Value} (hv : VRel ρ v u) : RegsRel ρ (r.upd d v) (tmps.setIfInBounds d u) := by
  intro t y hy
  by_cases e : t = d
  · subst e
    cases hr : r.get t with
    | none => rw [Tr.get_upd_none _ _ _ _ hr] at hy; cases hy
    | some z =>
      rw [Tr.get_upd_same _ _ _ _ hr] at hy
      cases hy
      obtain ⟨u', a, _⟩ := x t z hr
      have hlt : t < tmps.size := (Array.getElem?_eq_some_iff.1 a).1
      exact ⟨u, by simp [hlt], hv⟩
  · rw [Tr.get_upd_ne _ _ _ _ e] at hy
    obtain ⟨u', a, b⟩ := x t y hy
    exact ⟨u', by rw [Array.getElem?_setIfInBounds_ne (Ne.symm e)]; exact a, b⟩

theorem RegsRel.putA {ρ : Ren} {r : Tr Value} {a : Act} (x : RegsRel ρ r a.tmps) (d : Option Nat) {v u : Value} (hv : VRel ρ v u) : RegsRel ρ (putR r d v) (a.put d u).tmps := by
  cases d with
  | none => exact x
  | some d => exact x.put d hv

end Go.Rf
