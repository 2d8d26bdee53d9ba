/- A region that draws its order, second part: the run in the evaluator's order, and what may be asked of it at other times. -/
import Derived.Test.YtldkpohfigaoiaaGreatRfDraw
namespace Go.Rf
open Go Go.RowKit

/-- The names below a number. -/
def res (N : Nat) (ρ : Ren) : Ren := fun n => if n < N then ρ n else none

theorem res_lt {N n : Nat} {ρ : Ren} (h : n < N) : res N ρ n = ρ n := by simp [res, h]
theorem res_some {N n : Nat} {ρ : Ren} {t : Tgt} (h : res N ρ n = some t) : n < N ∧ ρ n = some t := by
  unfold res at h
  split at h
  · exact ⟨by assumption, h⟩
  · cases h
theorem res_ext (N : Nat) (ρ : Ren) : Ext (res N ρ) ρ := fun _ _ h => (res_some h).2

mutual
theorem VRel.restrict {ρ ρc : Ren} {N : Nat} (hN : ∀ n t, ρc n = some t → n < N) : ∀ {v u uc : Value}, VRel ρ v u → VRel ρc v uc → VRel (res N ρ) v u
  | _, _, _, .bool b, _ => .bool b
  | _, _, _, .int k n, _ => .int k n
  | _, _, _, .string s, _ => .string s
  | _, _, _, .ptr0, _ => .ptr0
  | _, _, _, .ptr n i t e, h => .ptr n i t (by
      cases h with
      | ptr _ _ tc ec => rw [res_lt (hN _ _ ec)]; exact e)
  | _, _, _, .slice0 n c, _ => .slice0 n c
  | _, _, _, .slice b i n c t c' e q, h => .slice b i n c t c' (by
      cases h with
      | slice _ _ _ _ tc _ ec _ => rw [res_lt (hN _ _ ec)]; exact e
      | sliceE _ _ _ tc ec => rw [res_lt (hN _ _ ec)]; exact e) q
  | _, _, _, .sliceE b i j t e, h => .sliceE b i j t (by
      cases h with
      | slice _ _ _ _ tc _ ec _ => rw [res_lt (hN _ _ ec)]; exact e
      | sliceE _ _ _ tc ec => rw [res_lt (hN _ _ ec)]; exact e)
  | _, _, _, .map0, _ => .map0
  | _, _, _, .map n t e, h => .map n t (by
      cases h with
      | map _ tc ec => rw [res_lt (hN _ _ ec)]; exact e)
  | _, _, _, .func fn a b a' b' x y, .func _ _ _ ac bc xc yc => .func fn a b a' b' (VsRel.restrict hN x xc) (VsRel.restrict hN y yc)
  | _, _, _, .nilFunc, _ => .nilFunc
  | _, _, _, .iface t v u x, .iface _ _ uc xc => .iface t v u (VRel.restrict hN x xc)
  | _, _, _, .nilIface, _ => .nilIface
  | _, _, _, .agg a b x, .agg _ bc xc => .agg a b (VsRel.restrict hN x xc)
  | _, _, _, .tuple a b x, .tuple _ bc xc => .tuple a b (VsRel.restrict hN x xc)
theorem VsRel.restrict {ρ ρc : Ren} {N : Nat} (hN : ∀ n t, ρc n = some t → n < N) : ∀ {l m mc : List Value}, VsRel ρ l m → VsRel ρc l mc → VsRel (res N ρ) l m
  | _, _, _, .nil, _ => .nil
  | _, _, _, .cons v u l m x y, .cons _ uc _ mc xc yc => .cons v u l m (VRel.restrict hN x xc) (VsRel.restrict hN y yc)
end

theorem EsRel.restrict {ρ ρc : Ren} {N : Nat} (hN : ∀ n t, ρc n = some t → n < N) {l m mc : List MapEntry} (h : EsRel ρ l m) (hc : EsRel ρc l mc) : EsRel (res N ρ) l m := by
  induction h generalizing mc with
  | nil => exact .nil
  | cons e f l m a b c _ ih =>
    cases hc with
    | cons _ fc _ mc ac bc _ hc => exact .cons e f l m (a.restrict hN ac) (b.restrict hN bc) c (ih hc)

theorem ORel.restrict {ρ ρc : Ren} {N : Nat} (hN : ∀ n t, ρc n = some t → n < N) {t tc : Tgt} {o : AObj} {o' oc : Obj} (h : ORel ρ t o o') (hc : ORel ρc tc o oc) : ORel (res N ρ) t o o' := by
  cases o <;> cases o' <;> simp only [ORel] at h <;> cases oc <;> simp only [ORel] at hc
  case row.cells.cells =>
    obtain ⟨a, b, c, d, e, f, g⟩ := h
    obtain ⟨_, _, _, _, ec, _, _⟩ := hc
    refine ⟨a, b, c, d, fun i v hi => ?_, f, g⟩
    obtain ⟨u, p, q⟩ := e i v hi
    obtain ⟨uc, _, qc⟩ := ec i v hi
    exact ⟨u, p, q.restrict hN qc⟩
  case map.map.map => exact ⟨h.1, h.2.1, h.2.2.restrict hN hc.2.2⟩
  case miter.mapIter.mapIter =>
    rename_i m _ _ _ m' _ _ _ mc _ _ _
    refine ⟨h.1, ?_, h.2.2⟩
    have h1 := h.2.1
    have h2 := hc.2.1
    cases m <;> cases m' <;> cases mc <;> simp only [MRel] at h1 h2 ⊢
    obtain ⟨t, a, b⟩ := h1
    obtain ⟨tc, ac, _⟩ := h2
    exact ⟨t, by rw [res_lt (hN _ _ ac)]; exact a, b⟩

section
variable {P : Program} {callf : Nat → List Value → AS → Res}

theorem op_some {B : Nat} {ρ : Ren} {s s' : AS} {w : World} {r : Tr Value} {a : Act} {v : Value} {o : Oper} {c : COp} (hcall : CallOk P callf) (hR : Rel B ρ s w) (hr : RegsRel ρ r a.tmps) (hc : copOf P o.op = some c) (h : c.ev callf r s = some (v, s')) :
    ∃ ρ' u w', VRel ρ' v u ∧ Nx B ρ s w ρ' s' w' := by
  by_cases hcl : ∃ f as, c = .call f as
  · obtain ⟨f, as, rfl⟩ := hcl
    obtain ⟨g, args, ts, hop, hg, has⟩ := copOf_call hc
    simp only [COp.ev] at h
    split at h
    · rename_i k p q hf
      obtain ⟨vs, hvs, h⟩ := bind_some' h
      have hfr := opd_rel hr hg hf
      have har := opds_rel hr has hvs
      obtain ⟨_, hrun⟩ := hcall _ _ _ _ _ h
      cases hev : a.eval g <;> rw [hev] at hfr <;> cases hfr
      rename_i p' q' hp hq
      have hvr : VsRel ρ (app p.toList (app vs q.toList)) (p' ++ (args.map a.eval) ++ q').toList := by
        rw [app_eq, app_eq]
        have := hp.append (har.append hq)
        simpa using this
      obtain ⟨e, w', fr, ⟨u, ρ', _, hv, hn⟩, _⟩ := hrun B ρ w _ hR hvr []
      exact ⟨ρ', u, w', hv, hn⟩
    · cases h
  · obtain ⟨ρ', u, w', n, h1, h2, h3, h4⟩ := op_gives hR hr hc (fun f as e => hcl ⟨f, as, e⟩) h
    exact ⟨ρ', u, w', h3, h4⟩

/-- All that is given. -/
structure Ctx (P : Program) (callf : Nat → List Value → AS → Res) (ops : Array Oper) (l : List Item) (ord : List Nat) (its : List Item) (pr : List (List Nat)) (M : List Nat) (R : Nat → Tr Value) (S : Nat → AS) (V : Nat → Value) (W : Nat → Bool) (old : Nat → List AS)
    (B : Nat) (ρ0 : Ren) (w0 : World) (a0 : Act) : Prop where
  plan : Plan ops l ord its pr M
  tr : Trace callf its R S V W old
  old0 : old 0 = []
  call : CallOk P callf
  item : ∀ q it, its[q]? = some it → ∃ o, ops[ord.getD q 0]? = some o ∧ ItemOf P ops o it
  rel0 : Rel B ρ0 (S 0) w0
  regs0 : RegsRel ρ0 (R 0) a0.tmps

variable {ops : Array Oper} {l : List Item} {ord : List Nat} {its : List Item} {pr : List (List Nat)} {M : List Nat} {R : Nat → Tr Value} {S : Nat → AS} {V : Nat → Value} {W : Nat → Bool} {old : Nat → List AS} {B : Nat} {ρ0 : Ren} {w0 : World} {a0 : Act}

theorem Ctx.get (C : Ctx P callf ops l ord its pr M R S V W old B ρ0 w0 a0) {q : Nat} (h : q < ops.size) : ∃ it, its[q]? = some it := by
  have : q < its.length := by rw [C.plan.leni]; exact h
  exact ⟨its[q], List.getElem?_eq_getElem this⟩

theorem Ctx.lt (C : Ctx P callf ops l ord its pr M R S V W old B ρ0 w0 a0) {q : Nat} {it : Item} (h : its[q]? = some it) : q < ops.size := by
  have := (List.getElem?_eq_some_iff.1 h).1
  rw [C.plan.leni] at this
  exact this

/-- The run in the evaluator's order, somewhere. -/
theorem Ctx.canon (C : Ctx P callf ops l ord its pr M R S V W old B ρ0 w0 a0) : ∀ m, m ≤ ops.size → ∃ (ρc : Ren) (ac : Act) (wc : World), Rel B ρc (S m) wc ∧ RegsRel ρc (R m) ac.tmps := by
  intro m
  induction m with
  | zero => intro _; exact ⟨ρ0, a0, w0, C.rel0, C.regs0⟩
  | succ m ih =>
    intro hm
    obtain ⟨ρc, ac, wc, h1, h2⟩ := ih (by omega)
    obtain ⟨it, hit⟩ := C.get (q := m) (by omega)
    obtain ⟨o, ho, hi⟩ := C.item m it hit
    obtain ⟨_, s2, s3, s4, _⟩ := C.tr.step m it hit
    cases hW : W m with
    | true =>
      obtain ⟨hev, _⟩ := s2 hW
      obtain ⟨ρ', u, w', hv, hn⟩ := op_some C.call h1 h2 hi.op hev
      exact ⟨ρ', ac.put it.dst u, w', hn.rel, by rw [s4]; exact (h2.mono hn.ext).putA it.dst hv⟩
    | false =>
      obtain ⟨hV, hS⟩ := s3 hW
      exact ⟨ρc, ac.put it.dst undef, wc, by rw [hS]; exact h1, by rw [s4, hV]; exact h2.putA it.dst (undef_rel _)⟩

theorem Ctx.next1 (C : Ctx P callf ops l ord its pr M R S V W old B ρ0 w0 a0) {m : Nat} (hm : m < ops.size) : (S m).next ≤ (S (m + 1)).next := by
  obtain ⟨ρc, ac, wc, h1, h2⟩ := C.canon m (by omega)
  obtain ⟨it, hit⟩ := C.get (q := m) hm
  obtain ⟨o, ho, hi⟩ := C.item m it hit
  obtain ⟨_, s2, s3, s4, _⟩ := C.tr.step m it hit
  cases hW : W m with
  | true =>
    obtain ⟨hev, _⟩ := s2 hW
    obtain ⟨ρ', u, w', hv, hn⟩ := op_some C.call h1 h2 hi.op hev
    exact hn.nmono
  | false => rw [(s3 hW).2]; exact Nat.le_refl _

theorem Ctx.next (C : Ctx P callf ops l ord its pr M R S V W old B ρ0 w0 a0) {p : Nat} : ∀ q, p ≤ q → q ≤ ops.size → (S p).next ≤ (S q).next := by
  intro q
  induction q with
  | zero => intro h _; rw [Nat.le_zero.1 h]; exact Nat.le_refl _
  | succ q ih =>
    intro h hq
    by_cases e : p = q + 1
    · rw [e]; exact Nat.le_refl _
    · exact Nat.le_trans (ih (by omega) (by omega)) (C.next1 (by omega))

/-- What makes a block. -/
theorem Ctx.alloc (C : Ctx P callf ops l ord its pr M R S V W old B ρ0 w0 a0) {q : Nat} {it : Item} (hit : its[q]? = some it) (hc : it.op.cls = 2) (hW : W q = true) :
    ∃ o, S (q + 1) = (S q).new o ∧ ∀ s2 : AS, s2.next = (S q).next → it.op.ev callf (R q) s2 = some (V q, s2.new o) := by
  obtain ⟨_, s2, _⟩ := C.tr.step q it hit
  exact alloc_next hc (s2 hW).1

theorem Ctx.allocNext (C : Ctx P callf ops l ord its pr M R S V W old B ρ0 w0 a0) {q : Nat} {it : Item} (hit : its[q]? = some it) (hc : it.op.cls = 2) (hW : W q = true) : (S (q + 1)).next = (S q).next + 1 := by
  obtain ⟨o, h, _⟩ := C.alloc hit hc hW
  rw [h]
  rfl

/-- What does not write leaves the state alone. -/
theorem Ctx.same (C : Ctx P callf ops l ord its pr M R S V W old B ρ0 w0 a0) {q : Nat} {it : Item} (hit : its[q]? = some it) (hc : it.op.cls ≤ 1 ∨ W q = false) : S (q + 1) = S q := by
  obtain ⟨_, s2, s3, _⟩ := C.tr.step q it hit
  cases hW : W q with
  | true =>
    rcases hc with hc | hc
    · exact quiet_same hc (s2 hW).1
    · rw [hW] at hc; cases hc
  | false => exact (s3 hW).2

theorem between_succ (cls : List Nat) (p q : Nat) : between cls p (q + 1) = between cls p q + if p < q ∧ 2 ≤ cls.getD q 0 then 1 else 0 := by
  unfold between
  rw [List.range_succ, List.filter_append, List.length_append]
  congr 1
  rw [List.filter_cons]
  by_cases h : p < q ∧ 2 ≤ cls.getD q 0
  · rw [if_pos h, if_pos (by simp only [Bool.and_eq_true, decide_eq_true_eq]; exact h)]
    rfl
  · rw [if_neg h, if_neg (by simp only [Bool.and_eq_true, decide_eq_true_eq]; exact h)]
    rfl

theorem Ctx.oldAt (C : Ctx P callf ops l ord its pr M R S V W old B ρ0 w0 a0) : ∀ q, q ≤ ops.size → ∀ p x, p < q → its[p]? = some x → 2 ≤ x.op.cls → (old q)[between (its.map (·.op.cls)) p q]? = some (S p) := by
  intro q
  induction q with
  | zero => intro _ p x hp; omega
  | succ q ih =>
    intro hq p x hp hx h2
    obtain ⟨it, hit⟩ := C.get (q := q) (by omega)
    obtain ⟨_, _, _, _, s5⟩ := C.tr.step q it hit
    obtain ⟨_, _, _, _, _, heff⟩ := C.plan.item q it hit
    rw [between_succ, cls_getD hit]
    by_cases hpq : p = q
    · subst hpq
      rw [hit] at hx
      have e0 : it = x := Option.some.inj hx
      subst e0
      have he : it.eff = true := heff.2 h2
      rw [s5, if_pos he, if_neg (by omega)]
      have hb : between (its.map (·.op.cls)) p p = 0 := by
        unfold between
        rw [List.length_eq_zero_iff, List.filter_eq_nil_iff]
        intro k hk
        simp at hk ⊢
        omega
      rw [hb]
      simp
    · have := ih (by omega) p x (by omega) hx h2
      by_cases h2c : 2 ≤ it.op.cls
      · rw [s5, if_pos (heff.2 h2c), if_pos ⟨by omega, h2c⟩, List.getElem?_cons_succ]
        exact this
      · rw [s5, if_neg (fun e => h2c (heff.1 e)), if_neg (fun e => h2c e.2)]
        exact this

/-- A reader asked at an elder state. -/
theorem Ctx.reader (C : Ctx P callf ops l ord its pr M R S V W old B ρ0 w0 a0) {q : Nat} {it : Item} (hit : its[q]? = some it) (hc : it.op.cls = 1) (hW : W q = true) : ∀ (d m : Nat), q - m = d → m ≤ q →
    (∀ p z, p < q → its[p]? = some z → z.op.cls = 3 → (M.getD q 0).testBit p = true → p < m) → it.op.ev callf (R q) (S m) = some (V q, S m) := by
  have hq := C.lt hit
  obtain ⟨_, s2, _⟩ := C.tr.step q it hit
  obtain ⟨hev, hsb⟩ := s2 hW
  intro d
  induction d with
  | zero =>
    intro m hd hm _
    have : m = q := by omega
    subst this
    have := quiet_same (by omega) hev
    simp only at this
    rw [this] at hev
    exact hev
  | succ d ih =>
    intro m hd hm hanc
    obtain ⟨x, hx⟩ := C.get (q := m) (by omega)
    by_cases h2 : 2 ≤ x.op.cls
    · rcases C.plan.back m q x it (by omega) hx hit hc h2 with hb | ⟨p', z, h3, h4, h5, h6, h7⟩
      · obtain ⟨s', hs'⟩ := sameBack_get hsb hb (C.oldAt q (by omega) m x (by omega) hx h2)
        have := quiet_same (by omega) hs'
        simp only at this
        rw [this] at hs'
        exact hs'
      · have := hanc p' z h4 h5 h6 h7
        omega
    · have hS := C.same hx (.inl (by omega))
      have := ih (m + 1) (by omega) (by omega) (fun p z a b c e => by have := hanc p z a b c e; omega)
      rw [hS] at this
      exact this

/-- What does not write, asked early. -/
theorem Ctx.early (C : Ctx P callf ops l ord its pr M R S V W old B ρ0 w0 a0) {q m : Nat} {it : Item} (hit : its[q]? = some it) (hc : it.op.cls ≤ 1) (hW : W q = true) (hm : m ≤ q)
    (hanc : ∀ p z, p < q → its[p]? = some z → z.op.cls = 3 → (M.getD q 0).testBit p = true → p < m) (N : Nat) : it.op.ev callf (R q) ⟨(S m).heap, N⟩ = some (V q, ⟨(S m).heap, N⟩) := by
  obtain ⟨_, s2, _⟩ := C.tr.step q it hit
  by_cases h0 : it.op.cls = 0
  · rw [pure_heap (s := S q) h0, (s2 hW).1]
    rfl
  · have h1 := C.reader hit (by omega) hW _ m rfl hm hanc
    rw [quiet_heap (s := S m) (s2 := ⟨(S m).heap, N⟩) hc rfl, h1]
    rfl

/-! Sets of places that are closed. -/
def Closed (n : Nat) (pr : List (List Nat)) (D : Nat → Bool) : Prop := ∀ q, q < n → D q = true → ∀ p, p ∈ pr.getD q [] → D p = true

theorem Ctx.anc (C : Ctx P callf ops l ord its pr M R S V W old B ρ0 w0 a0) {D : Nat → Bool} (hD : Closed ops.size pr D) : ∀ q, q < ops.size → (∀ p, p ∈ pr.getD q [] → D p = true) → ∀ k, k < q → (M.getD q 0).testBit k = true → D k = true := by
  intro q
  induction q using Nat.strongRecOn with
  | _ q ih =>
    intro hq hp k hk hb
    rcases C.plan.mask q k hq hk hb with h | ⟨p, h1, h2, h3⟩
    · exact hp k h
    · have hpq := C.plan.prl q p hq h1
      exact ih p hpq (by omega) (hD p (by omega) (hp p h1)) k h2 h3

end
end Go.Rf
