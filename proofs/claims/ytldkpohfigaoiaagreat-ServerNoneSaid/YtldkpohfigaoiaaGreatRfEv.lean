/- What the operations of the evaluator hang on: their operands' registers, the heap, the next name. -/
import Derived.Test.YtldkpohfigaoiaaGreatRfOps10
namespace Go.Rf
open Go Go.RowKit

theorem evs_congr {r r' : Tr Value} : ∀ (l : List Opd), (∀ x ∈ l, x.ev r = x.ev r') → evs r l = evs r' l
  | [], _ => rfl
  | x :: l, h => by simp only [evs, h x (by simp), evs_congr l (fun y hy => h y (by simp [hy]))]

theorem evps_congr {r r' : Tr Value} : ∀ (l : List (Nat × Opd)), (∀ x ∈ l.map (·.2), x.ev r = x.ev r') → evps r l = evps r' l
  | [], _ => rfl
  | x :: l, h => by simp only [evps, h x.2 (by simp), evps_congr l (fun y hy => h y (by simp at hy ⊢; exact .inr hy))]

theorem opt_congr {r r' : Tr Value} {o : Option Opd} {y d : Nat} (h : ∀ x ∈ optL o, x.ev r = x.ev r') : opt r o y d = opt r' o y d := by
  cases o with
  | none => rfl
  | some x => simp only [opt, h x (by simp [optL])]

theorem bounds_congr {r r' : Tr Value} {n cap : Nat} {lo hi mx : Option Opd} (h1 : ∀ x ∈ optL lo, x.ev r = x.ev r') (h2 : ∀ x ∈ optL hi, x.ev r = x.ev r') (h3 : ∀ x ∈ optL mx, x.ev r = x.ev r') : boundsV r n cap lo hi mx = boundsV r' n cap lo hi mx := by
  have e1 : ∀ y d, opt r lo y d = opt r' lo y d := fun y d => opt_congr h1
  have e2 : ∀ y d, opt r hi y d = opt r' hi y d := fun y d => opt_congr h2
  have e3 : ∀ y d, opt r mx y d = opt r' mx y d := fun y d => opt_congr h3
  unfold boundsV
  cases mx <;> cases hi <;> simp only [e1, e2, e3]

theorem ev_congr {callf : Nat → List Value → AS → Res} {c : COp} {r r' : Tr Value} {s : AS} (h : ∀ x ∈ c.opds, x.ev r = x.ev r') : c.ev callf r s = c.ev callf r' s := by
  cases c <;> simp only [COp.opds] at h
  case build z p q => simp only [COp.ev, evps_congr _ h]
  case bslice e l k z q => simp only [COp.ev, evps_congr _ h]
  case slst x lo hi =>
    have hx := h x (by simp)
    have hb : ∀ n cap, boundsV r n cap lo hi none = boundsV r' n cap lo hi none := fun n cap => bounds_congr (fun y hy => h y (by simp [hy])) (fun y hy => h y (by simp [hy])) (fun y hy => by simp [optL] at hy)
    simp only [COp.ev, hx, slstV, hb]
  case slsl k x lo hi mx =>
    have hx := h x (by simp)
    have hb : ∀ n cap, boundsV r n cap lo hi mx = boundsV r' n cap lo hi mx := fun n cap => bounds_congr (fun y hy => h y (by simp [hy])) (fun y hy => h y (by simp [hy])) (fun y hy => h y (by simp [hy]))
    simp only [COp.ev, hx, slslV, hb]
  case slar n k x lo hi mx =>
    have hx := h x (by simp)
    have hb : ∀ n cap, boundsV r n cap lo hi mx = boundsV r' n cap lo hi mx := fun n cap => bounds_congr (fun y hy => h y (by simp [hy])) (fun y hy => h y (by simp [hy])) (fun y hy => h y (by simp [hy]))
    simp only [COp.ev, hx, slarV, hb]
  case mkfn fn p q => simp only [COp.ev, evs_congr p (fun y hy => h y (by simp [hy])), evs_congr q (fun y hy => h y (by simp [hy]))]
  case mkmap o => cases o <;> simp only [COp.ev]; rw [h _ (by simp [optL])]
  case mnmx m l => simp only [COp.ev, evs_congr l h]
  case call f l => simp only [COp.ev, h f (by simp), evs_congr l (fun y hy => h y (by simp [hy]))]
  all_goals simp_all [COp.ev]

/-! The heap. -/
section
variable {s s2 : AS}

theorem obj_heap (e : s2.heap = s.heap) (n : Nat) : s2.obj n = s.obj n := by unfold AS.obj; rw [e]
theorem rowOf_heap (e : s2.heap = s.heap) (n : Nat) : rowOf s2 n = rowOf s n := by unfold rowOf; rw [obj_heap e]
theorem zRow_heap (e : s2.heap = s.heap) (n : Nat) : zRow s2 n = zRow s n := by unfold zRow; rw [obj_heap e]
theorem mapOf_heap (e : s2.heap = s.heap) (n : Nat) : mapOf s2 n = mapOf s n := by unfold mapOf; rw [obj_heap e]
theorem entriesV_heap (e : s2.heap = s.heap) (m : Value) : entriesV s2 m = entriesV s m := by
  unfold entriesV
  split
  · rfl
  · rw [obj_heap e]
  · rfl
theorem eqV_heap (e : s2.heap = s.heap) : ∀ d, eqV s2 d = eqV s d
  | 0 => by funext t x y; rfl
  | d + 1 => by
    funext t x y
    simp only [eqV, eqV_heap e d, obj_heap e]
theorem binV_heap (e : s2.heap = s.heap) (op : BinOp) (d : EqD) (x y : Value) : binV s2 op d x y = binV s op d x y := by
  unfold binV
  simp only [eqV_heap e]

theorem ret_heap (o : Option Value) : ret s2 o = (ret s o).map fun p => (p.1, s2) := by cases o <;> rfl
theorem ret_same {o : Option Value} {p : Value × AS} (h : ret s o = some p) : p.2 = s := by
  cases o with
  | none => cases h
  | some v => cases h; rfl

theorem ld1V_heap (e : s2.heap = s.heap) (x : Value) : ld1V s2 x = (ld1V s x).map fun p => (p.1, s2) := by
  unfold ld1V
  try simp only [obj_heap e, rowOf_heap e, mapOf_heap e, entriesV_heap e]
  repeat' (first | rfl | split)
theorem ld1V_same (x : Value) {p : Value × AS} (h : ld1V s x = some p) : p.2 = s := by
  unfold ld1V at h
  repeat' (first | (cases h; done) | (cases h; rfl) | split at h)

theorem ldnV_heap (e : s2.heap = s.heap) (k : Nat) (x : Value) : ldnV s2 k x = (ldnV s k x).map fun p => (p.1, s2) := by
  unfold ldnV
  try simp only [obj_heap e, rowOf_heap e, mapOf_heap e, entriesV_heap e]
  repeat' (first | rfl | split)
theorem ldnV_same (k : Nat) (x : Value) {p : Value × AS} (h : ldnV s k x = some p) : p.2 = s := by
  unfold ldnV at h
  repeat' (first | (cases h; done) | (cases h; rfl) | split at h)

theorem nilckV_heap (e : s2.heap = s.heap) (x : Value) : nilckV s2 x = (nilckV s x).map fun p => (p.1, s2) := by
  unfold nilckV
  try simp only [obj_heap e, rowOf_heap e, mapOf_heap e, entriesV_heap e]
  repeat' (first | rfl | split)
theorem nilckV_same (x : Value) {p : Value × AS} (h : nilckV s x = some p) : p.2 = s := by
  unfold nilckV at h
  repeat' (first | (cases h; done) | (cases h; rfl) | split at h)

theorem cviV_heap (e : s2.heap = s.heap) (k : IntKind) (x : Value) : cviV s2 k x = (cviV s k x).map fun p => (p.1, s2) := by
  unfold cviV
  try simp only [obj_heap e, rowOf_heap e, mapOf_heap e, entriesV_heap e]
  repeat' (first | rfl | split)
theorem cviV_same (k : IntKind) (x : Value) {p : Value × AS} (h : cviV s k x = some p) : p.2 = s := by
  unfold cviV at h
  repeat' (first | (cases h; done) | (cases h; rfl) | split at h)

theorem cvbsV_heap (e : s2.heap = s.heap) (x : Value) : cvbsV s2 x = (cvbsV s x).map fun p => (p.1, s2) := by
  unfold cvbsV
  try simp only [obj_heap e, rowOf_heap e, mapOf_heap e, entriesV_heap e]
  repeat' (first | rfl | split)
theorem cvbsV_same (x : Value) {p : Value × AS} (h : cvbsV s x = some p) : p.2 = s := by
  unfold cvbsV at h
  repeat' (first | (cases h; done) | (cases h; rfl) | split at h)

theorem cvssV_heap (e : s2.heap = s.heap) (x : Value) : cvssV s2 x = (cvssV s x).map fun p => (p.1, s2) := by
  unfold cvssV
  try simp only [obj_heap e, rowOf_heap e, mapOf_heap e, entriesV_heap e]
  repeat' (first | rfl | split)
theorem cvssV_same (x : Value) {p : Value × AS} (h : cvssV s x = some p) : p.2 = s := by
  unfold cvssV at h
  repeat' (first | (cases h; done) | (cases h; rfl) | split at h)

theorem extV_heap (e : s2.heap = s.heap) (i : Nat) (x : Value) : extV s2 i x = (extV s i x).map fun p => (p.1, s2) := by
  unfold extV
  try simp only [obj_heap e, rowOf_heap e, mapOf_heap e, entriesV_heap e]
  repeat' (first | rfl | split)
theorem extV_same (i : Nat) (x : Value) {p : Value × AS} (h : extV s i x = some p) : p.2 = s := by
  unfold extV at h
  repeat' (first | (cases h; done) | (cases h; rfl) | split at h)

theorem fadV_heap (e : s2.heap = s.heap) (i : Nat) (x : Value) : fadV s2 i x = (fadV s i x).map fun p => (p.1, s2) := by
  unfold fadV
  try simp only [obj_heap e, rowOf_heap e, mapOf_heap e, entriesV_heap e]
  repeat' (first | rfl | split)
theorem fadV_same (i : Nat) (x : Value) {p : Value × AS} (h : fadV s i x = some p) : p.2 = s := by
  unfold fadV at h
  repeat' (first | (cases h; done) | (cases h; rfl) | split at h)

theorem fldV_heap (e : s2.heap = s.heap) (g : Bool) (o k : Nat) (x : Value) : fldV s2 g o k x = (fldV s g o k x).map fun p => (p.1, s2) := by
  unfold fldV
  try simp only [obj_heap e, rowOf_heap e, mapOf_heap e, entriesV_heap e]
  repeat' (first | rfl | split)
theorem fldV_same (g : Bool) (o k : Nat) (x : Value) {p : Value × AS} (h : fldV s g o k x = some p) : p.2 = s := by
  unfold fldV at h
  repeat' (first | (cases h; done) | (cases h; rfl) | split at h)

theorem ixsV_heap (e : s2.heap = s.heap) (k : Nat) (x i : Value) : ixsV s2 k x i = (ixsV s k x i).map fun p => (p.1, s2) := by
  unfold ixsV
  try simp only [obj_heap e, rowOf_heap e, mapOf_heap e, entriesV_heap e]
  repeat' (first | rfl | split)
theorem ixsV_same (k : Nat) (x i : Value) {p : Value × AS} (h : ixsV s k x i = some p) : p.2 = s := by
  unfold ixsV at h
  repeat' (first | (cases h; done) | (cases h; rfl) | split at h)

theorem ixaV_heap (e : s2.heap = s.heap) (n k : Nat) (x i : Value) : ixaV s2 n k x i = (ixaV s n k x i).map fun p => (p.1, s2) := by
  unfold ixaV
  try simp only [obj_heap e, rowOf_heap e, mapOf_heap e, entriesV_heap e]
  repeat' (first | rfl | split)
theorem ixaV_same (n k : Nat) (x i : Value) {p : Value × AS} (h : ixaV s n k x i = some p) : p.2 = s := by
  unfold ixaV at h
  repeat' (first | (cases h; done) | (cases h; rfl) | split at h)

theorem ixstV_heap (e : s2.heap = s.heap) (x i : Value) : ixstV s2 x i = (ixstV s x i).map fun p => (p.1, s2) := by
  unfold ixstV
  try simp only [obj_heap e, rowOf_heap e, mapOf_heap e, entriesV_heap e]
  repeat' (first | rfl | split)
theorem ixstV_same (x i : Value) {p : Value × AS} (h : ixstV s x i = some p) : p.2 = s := by
  unfold ixstV at h
  repeat' (first | (cases h; done) | (cases h; rfl) | split at h)

theorem ixagV_heap (e : s2.heap = s.heap) (n k : Nat) (g : Bool) (x i : Value) : ixagV s2 n k g x i = (ixagV s n k g x i).map fun p => (p.1, s2) := by
  unfold ixagV
  split
  · split
    · exact fldV_heap e _ _ _ _
    · rfl
  · rfl
theorem ixagV_same (n k : Nat) (g : Bool) (x i : Value) {p : Value × AS} (h : ixagV s n k g x i = some p) : p.2 = s := by
  unfold ixagV at h
  split at h
  · split at h
    · exact fldV_same _ _ _ _ h
    · cases h
  · cases h

theorem mlookV_heap (e : s2.heap = s.heap) (kt : KT) (z : Value) (ok : Bool) (m k : Value) : mlookV s2 kt z ok m k = (mlookV s kt z ok m k).map fun p => (p.1, s2) := by
  unfold mlookV
  try simp only [obj_heap e, rowOf_heap e, mapOf_heap e, entriesV_heap e]
  repeat' (first | rfl | split)
theorem mlookV_same (kt : KT) (z : Value) (ok : Bool) (m k : Value) {p : Value × AS} (h : mlookV s kt z ok m k = some p) : p.2 = s := by
  unfold mlookV at h
  repeat' (first | (cases h; done) | (cases h; rfl) | split at h)

theorem lenOfV_heap (e : s2.heap = s.heap) (kt : Nat) (x : Value) : lenOfV s2 kt x = (lenOfV s kt x).map fun p => (p.1, s2) := by
  unfold lenOfV
  try simp only [obj_heap e, rowOf_heap e, mapOf_heap e, entriesV_heap e]
  repeat' (first | rfl | split)
theorem lenOfV_same (kt : Nat) (x : Value) {p : Value × AS} (h : lenOfV s kt x = some p) : p.2 = s := by
  unfold lenOfV at h
  repeat' (first | (cases h; done) | (cases h; rfl) | split at h)

theorem entV_heap (e : s2.heap = s.heap) (x : Value) : entV s2 x = (entV s x).map fun p => (p.1, s2) := by
  unfold entV
  try simp only [obj_heap e, rowOf_heap e, mapOf_heap e, entriesV_heap e]
  repeat' (first | rfl | split)
theorem entV_same (x : Value) {p : Value × AS} (h : entV s x = some p) : p.2 = s := by
  unfold entV at h
  repeat' (first | (cases h; done) | (cases h; rfl) | split at h)

theorem slstV_heap {r : Tr Value} (e : s2.heap = s.heap) (x : Value) (lo hi : Option Opd) : slstV r s2 x lo hi = (slstV r s x lo hi).map fun p => (p.1, s2) := by
  unfold slstV
  try simp only [zRow_heap e]
  repeat' (first | rfl | split)
theorem slstV_same {r : Tr Value} (x : Value) (lo hi : Option Opd) {p : Value × AS} (h : slstV r s x lo hi = some p) : p.2 = s := by
  unfold slstV at h
  repeat' (first | (cases h; done) | (cases h; rfl) | split at h)

theorem slslV_heap {r : Tr Value} (e : s2.heap = s.heap) (k : Nat) (x : Value) (lo hi mx : Option Opd) : slslV r s2 k x lo hi mx = (slslV r s k x lo hi mx).map fun p => (p.1, s2) := by
  unfold slslV
  try simp only [zRow_heap e]
  repeat' (first | rfl | split)
theorem slslV_same {r : Tr Value} (k : Nat) (x : Value) (lo hi mx : Option Opd) {p : Value × AS} (h : slslV r s k x lo hi mx = some p) : p.2 = s := by
  unfold slslV at h
  repeat' (first | (cases h; done) | (cases h; rfl) | split at h)

theorem slarV_heap {r : Tr Value} (e : s2.heap = s.heap) (n k : Nat) (x : Value) (lo hi mx : Option Opd) : slarV r s2 n k x lo hi mx = (slarV r s n k x lo hi mx).map fun p => (p.1, s2) := by
  unfold slarV
  try simp only [zRow_heap e]
  repeat' (first | rfl | split)
theorem slarV_same {r : Tr Value} (n k : Nat) (x : Value) (lo hi mx : Option Opd) {p : Value × AS} (h : slarV r s n k x lo hi mx = some p) : p.2 = s := by
  unfold slarV at h
  repeat' (first | (cases h; done) | (cases h; rfl) | split at h)

theorem bindmap {α : Type} {o : Option α} {f g : α → Res} {k : Value × AS → Value × AS} (h : ∀ x, f x = (g x).map k) : o.bind f = (o.bind g).map k := by
  cases o with
  | none => rfl
  | some x => exact h x

theorem bind_same {α : Type} {o : Option α} {f : α → Res} {p : Value × AS} (h : o.bind f = some p) (hf : ∀ x, f x = some p → p.2 = s) : p.2 = s := by
  cases o with
  | none => cases h
  | some x => exact hf x h

/-- What does not write depends on the heap alone. -/
theorem quiet_heap {callf : Nat → List Value → AS → Res} {c : COp} {r : Tr Value} (hc : c.cls ≤ 1) (e : s2.heap = s.heap) : c.ev callf r s2 = (c.ev callf r s).map fun p => (p.1, s2) := by
  cases c <;> simp only [COp.cls] at hc <;> (try (exact absurd hc (by decide))) <;> simp only [COp.ev]
  case mv x => exact ret_heap _
  case pick a b d =>
    split
    · exact ret_heap _
    · exact ret_heap _
    · rfl
  case build z p q => exact bindmap fun x => ret_heap _
  case bin op d x y => exact bindmap fun x => bindmap fun y => by rw [binV_heap e]; exact ret_heap _
  case un op x => exact bindmap fun x => ret_heap _
  case mkfn fn p q => exact bindmap fun x => bindmap fun y => rfl
  case mnmx m l =>
    split
    · exact ret_heap _
    · rfl
  case ld1 x => exact bindmap fun x => ld1V_heap e x
  case ldn k x => exact bindmap fun x => ldnV_heap e k x
  case nilck x => exact bindmap fun x => nilckV_heap e x
  case cvi k x => exact bindmap fun x => cviV_heap e k x
  case cvbs x => exact bindmap fun x => cvbsV_heap e x
  case cvss x => exact bindmap fun x => cvssV_heap e x
  case ext i x => exact bindmap fun x => extV_heap e i x
  case fad i x => exact bindmap fun x => fadV_heap e i x
  case fld o k g x => exact bindmap fun x => fldV_heap e g o k x
  case ixs k x i => exact bindmap fun x => bindmap fun y => ixsV_heap e k x y
  case ixa n k x i => exact bindmap fun x => bindmap fun y => ixaV_heap e n k x y
  case ixst x i => exact bindmap fun x => bindmap fun y => ixstV_heap e x y
  case ixag n k g x i => exact bindmap fun x => bindmap fun y => ixagV_heap e n k g x y
  case slst x lo hi => exact bindmap fun x => slstV_heap e x lo hi
  case slsl k x lo hi mx => exact bindmap fun x => slslV_heap e k x lo hi mx
  case slar n k x lo hi mx => exact bindmap fun x => slarV_heap e n k x lo hi mx
  case mlook kt z ok m k => exact bindmap fun x => bindmap fun y => mlookV_heap e kt z ok x y
  case len k x => exact bindmap fun x => lenOfV_heap e k x
  case ent x => exact bindmap fun x => entV_heap e x

theorem quiet_same {callf : Nat → List Value → AS → Res} {c : COp} {r : Tr Value} (hc : c.cls ≤ 1) {p : Value × AS} (h : c.ev callf r s = some p) : p.2 = s := by
  cases c <;> simp only [COp.cls] at hc <;> (try (exact absurd hc (by decide))) <;> simp only [COp.ev] at h
  case mv x => exact ret_same h
  case pick a b d =>
    split at h
    · exact ret_same h
    · exact ret_same h
    · cases h
  case build z p q => exact bind_same h fun x h => ret_same h
  case bin op d x y => exact bind_same h fun x h => bind_same h fun y h => ret_same h
  case un op x => exact bind_same h fun x h => ret_same h
  case mkfn fn p q => exact bind_same h fun x h => bind_same h fun y h => by cases h; rfl
  case mnmx m l =>
    split at h
    · exact ret_same h
    · cases h
  case ld1 x => exact bind_same h fun x h => ld1V_same x h
  case ldn k x => exact bind_same h fun x h => ldnV_same k x h
  case nilck x => exact bind_same h fun x h => nilckV_same x h
  case cvi k x => exact bind_same h fun x h => cviV_same k x h
  case cvbs x => exact bind_same h fun x h => cvbsV_same x h
  case cvss x => exact bind_same h fun x h => cvssV_same x h
  case ext i x => exact bind_same h fun x h => extV_same i x h
  case fad i x => exact bind_same h fun x h => fadV_same i x h
  case fld o k g x => exact bind_same h fun x h => fldV_same g o k x h
  case ixs k x i => exact bind_same h fun x h => bind_same h fun y h => ixsV_same k x y h
  case ixa n k x i => exact bind_same h fun x h => bind_same h fun y h => ixaV_same n k x y h
  case ixst x i => exact bind_same h fun x h => bind_same h fun y h => ixstV_same x y h
  case ixag n k g x i => exact bind_same h fun x h => bind_same h fun y h => ixagV_same n k g x y h
  case slst x lo hi => exact bind_same h fun x h => slstV_same x lo hi h
  case slsl k x lo hi mx => exact bind_same h fun x h => slslV_same k x lo hi mx h
  case slar n k x lo hi mx => exact bind_same h fun x h => slarV_same n k x lo hi mx h
  case mlook kt z ok m k => exact bind_same h fun x h => bind_same h fun y h => mlookV_same kt z ok x y h
  case len k x => exact bind_same h fun x h => lenOfV_same k x h
  case ent x => exact bind_same h fun x h => entV_same x h

/-- What only computes does not depend on the heap. -/
theorem binV_pure {op : BinOp} {d : EqD} {x y : Value} (hd : COp.cls (.bin op d (.t 0) (.t 0)) = 0) : ∀ n, eqV s2 n d x y = eqV s n d x y := by
  intro n
  cases n with
  | zero => rfl
  | succ n =>
    simp only [eqV]
    split <;> first | rfl | (simp [COp.cls] at hd; done)

theorem pure_heap {callf : Nat → List Value → AS → Res} {c : COp} {r : Tr Value} (hc : c.cls = 0) : c.ev callf r s2 = (c.ev callf r s).map fun p => (p.1, s2) := by
  cases c <;> simp only [COp.cls] at hc <;> (try (exact absurd hc (by decide))) <;> simp only [COp.ev]
  case mv x => exact ret_heap _
  case pick a b d =>
    split
    · exact ret_heap _
    · exact ret_heap _
    · rfl
  case build z p q => exact bindmap fun x => ret_heap _
  case bin op d x y =>
    refine bindmap fun x => bindmap fun y => ?_
    have e : binV s2 op d x y = binV s op d x y := by
      unfold binV
      simp only [binV_pure (s := s) (s2 := s2) (op := op) (d := d) (by simpa [COp.cls] using hc)]
    rw [e]
    exact ret_heap _
  case un op x => exact bindmap fun x => ret_heap _
  case mkfn fn p q => exact bindmap fun x => bindmap fun y => rfl
  case mnmx m l =>
    split
    · exact ret_heap _
    · rfl
  case nilck x => exact bindmap fun x => by unfold nilckV; repeat' (first | rfl | split)
  case cvi k x => exact bindmap fun x => by unfold cviV; repeat' (first | rfl | split)
  case cvss x => exact bindmap fun x => by unfold cvssV; repeat' (first | rfl | split)
  case ext i x => exact bindmap fun x => by unfold extV; repeat' (first | rfl | split)
  case fad i x => exact bindmap fun x => by unfold fadV; repeat' (first | rfl | split)
  case fld o k g x => exact bindmap fun x => by unfold fldV; repeat' (first | rfl | split)
  case ixs k x i => exact bindmap fun x => bindmap fun y => by unfold ixsV; repeat' (first | rfl | split)
  case ixa n k x i => exact bindmap fun x => bindmap fun y => by unfold ixaV; repeat' (first | rfl | split)
  case ixst x i => exact bindmap fun x => bindmap fun y => by unfold ixstV; repeat' (first | rfl | split)
  case ixag n k g x i => exact bindmap fun x => bindmap fun y => by unfold ixagV fldV; repeat' (first | rfl | split)
  case slst x lo hi => exact bindmap fun x => by unfold slstV; repeat' (first | rfl | split)
  case slar n k x lo hi mx => exact bindmap fun x => by unfold slarV; repeat' (first | rfl | split)

/-- What makes a block: the same block and the same value wherever the next name is the same. -/
theorem mk_next {o : AObj} {f : Nat → Value} {v : Value} {s' : AS} (h : mk s o f = some (v, s')) (e : s2.next = s.next) : s' = s.new o ∧ mk s2 o f = some (v, s2.new o) := by
  obtain ⟨h1, rfl, rfl⟩ := mk_some h
  refine ⟨rfl, ?_⟩
  have : s2.roomy = true := by unfold AS.roomy; rw [e]; exact h1
  simp [mk, this, e]

theorem alloc_next {callf : Nat → List Value → AS → Res} {c : COp} {r : Tr Value} {v : Value} {s' : AS} (hc : c.cls = 2) (h : c.ev callf r s = some (v, s')) : ∃ o, s' = s.new o ∧ ∀ s2 : AS, s2.next = s.next → c.ev callf r s2 = some (v, s2.new o) := by
  cases c <;> simp only [COp.cls] at hc <;> (try (exact absurd hc (by decide))) <;> simp only [COp.ev] at h ⊢
  case bin op d x y => cases d <;> simp at hc
  case box e x =>
    obtain ⟨x, hx, h⟩ := bind_some' h
    refine ⟨_, (mk_next (s2 := s) h rfl).1, fun s2 e => ?_⟩
    simp only [hx, Option.bind_some]
    exact (mk_next h e).2
  case bslice e l k z q =>
    obtain ⟨x, hx, h⟩ := bind_some' h
    obtain ⟨y, hy, h⟩ := bind_some' h
    refine ⟨_, (mk_next (s2 := s) h rfl).1, fun s2 e => ?_⟩
    simp only [hx, hy, Option.bind_some]
    exact (mk_next h e).2
  case cvsb e x =>
    obtain ⟨x, hx, h⟩ := bind_some' h
    cases x <;> simp only [cvsbV] at h <;> try (cases h; done)
    refine ⟨_, (mk_next (s2 := s) h rfl).1, fun s2 e => ?_⟩
    simp only [hx, Option.bind_some, cvsbV]
    exact (mk_next h e).2
  case mkmap o =>
    cases o with
    | none => exact ⟨_, (mk_next (s2 := s) h rfl).1, fun s2 e => (mk_next h e).2⟩
    | some x =>
      simp only [] at h
      obtain ⟨x, hx, h⟩ := bind_some' h
      split at h
      · rename_i hi
        refine ⟨_, (mk_next (s2 := s) h rfl).1, fun s2 e => ?_⟩
        simp only [hx, Option.bind_some, hi]
        exact (mk_next h e).2
      · cases h
  case mkslice e b z l k =>
    obtain ⟨x, hx, h⟩ := bind_some' h
    obtain ⟨y, hy, h⟩ := bind_some' h
    unfold mksliceV at h
    split at h
    · split at h
      · rename_i h1
        split at h
        · rename_i h2
          split at h
          · rename_i h3
            refine ⟨_, (mk_next (s2 := s) h rfl).1, fun s2 e => ?_⟩
            simp only [hx, hy, Option.bind_some, mksliceV, h1, h2, h3]
            exact (mk_next h e).2
          · cases h
        · cases h
      · cases h
    · cases h

end
end Go.Rf
