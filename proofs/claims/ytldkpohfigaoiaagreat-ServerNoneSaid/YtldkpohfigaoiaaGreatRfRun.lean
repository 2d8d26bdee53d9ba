/- The evaluator's run of a function, and the model's. -/
import Derived.Test.YtldkpohfigaoiaaGreatRfItems
import Derived.LoopN
import Derived.Scope
namespace Go.Rf
open Go Go.RowKit

/-- The compiled functions are those of the program. -/
structure Env (P : Program) (F : Tr CFn) : Prop where
  fn : ∀ f cf, F.get f = some cf → ∃ fn, P.funcs[f]? = some fn ∧ fnOf P fn = some cf
  mixed : P.follows .mixedOrders = true

/-- A region that draws its order (proved apart). -/
def DrawOk (P : Program) : Prop :=
  ∀ (id : Nat) (ops : Array Oper) (ord : List Nat) (l : List Item), codeOf P (.region id ops true) = some (.dops ord l) → ∀ {callf : Nat → List Value → AS → Res}, CallOk P callf →
    ∀ {B : Nat} {ρ : Ren} {r r' : Tr Value} {s s' : AS} {a : Act} {w : World} {Q : Exit → Act → World → Prop}, ditems callf l [] r s = some (r', s') → Rel B ρ s w → RegsRel ρ r a.tmps →
      (∀ ρ' a' w', Nx B ρ s w ρ' s' w' → RegsRel ρ' r' a'.tmps → a'.defers = a.defers → Q .normal a' w') → (Code.region id ops true).wp P Q a w

def Goes (B : Nat) (ρ : Ren) (s : AS) (w : World) (a : Act) (r' : Tr Value) (s' : AS) (K : Act → World → Prop) : Prop :=
  ∀ ρ' a' w', Nx B ρ s w ρ' s' w' → RegsRel ρ' r' a'.tmps → a'.defers = a.defers → K a' w'

def OutOk (B : Nat) (ρ : Ren) (s : AS) (w : World) (a : Act) (Q : Exit → Act → World → Prop) : Out → Prop
  | .norm r' s' => Goes B ρ s w a r' s' (Q .normal)
  | .exit id r' s' => Goes B ρ s w a r' s' (Q (.exit id))
  | .ret r' s' => Goes B ρ s w a r' s' (Q .ret)
  | .fail => False

theorem Goes.later {B : Nat} {ρ ρ1 : Ren} {s s1 s' : AS} {w w1 : World} {a a1 : Act} {r' : Tr Value} {K : Act → World → Prop} (h : Goes B ρ s w a r' s' K) (n : Nx B ρ s w ρ1 s1 w1) (hd : a1.defers = a.defers) : Goes B ρ1 s1 w1 a1 r' s' K :=
  fun ρ' a' w' n1 n2 n3 => h ρ' a' w' (n.trans n1) n2 (n3.trans hd)

theorem OutOk.later {B : Nat} {ρ ρ1 : Ren} {s s1 : AS} {w w1 : World} {a a1 : Act} {Q : Exit → Act → World → Prop} {o : Out} (h : OutOk B ρ s w a Q o) (n : Nx B ρ s w ρ1 s1 w1) (hd : a1.defers = a.defers) : OutOk B ρ1 s1 w1 a1 Q o := by
  cases o with
  | norm r s => exact Goes.later h n hd
  | exit id r s => exact Goes.later h n hd
  | ret r s => exact Goes.later h n hd
  | fail => exact h

section
variable {P : Program} {F : Tr CFn}

/-- What 'ev' gives at a fuel. -/
def EvOk (P : Program) (F : Tr CFn) (n : Nat) : Prop :=
  ∀ (code : Code) (c : CCode), codeOf P code = some c → ∀ {B : Nat} {ρ : Ren} {r : Tr Value} {s : AS} {a : Act} {w : World} {Q : Exit → Act → World → Prop}, Rel B ρ s w → RegsRel ρ r a.tmps → OutOk B ρ s w a Q (ev F n c r s) → code.wp P Q a w

/-! A function's frame. -/
theorem blank_get : ∀ (d a b n t : Nat) (v : Value), (blank d a b n).get t = some v → v = undef ∧ a * t + b < n
  | 0, _, _, _, _, _, h => by simp [blank, Tr.get] at h
  | d + 1, a, b, n, t, v, h => by
    simp only [blank] at h
    split at h
    · simp [Tr.get] at h
    · rename_i hb
      rw [ble_dec] at hb
      have hb : b < n := by simpa using hb
      cases t with
      | zero =>
        simp only [Tr.get, Option.some.injEq] at h
        exact ⟨h.symm, by omega⟩
      | succ k =>
        simp only [Tr.get] at h
        have hk : k % 2 + 2 * (k / 2) = k := Nat.mod_add_div k 2
        cases hm : Nat.mod k 2 with
        | zero =>
          simp only [hm] at h
          obtain ⟨h1, h2⟩ := blank_get d (2 * a) (a + b) n _ v h
          refine ⟨h1, ?_⟩
          have h2 : 2 * a * (k / 2) + (a + b) < n := h2
          have hm : k % 2 = 0 := hm
          have e : a * (k + 1) + b = 2 * a * (k / 2) + (a + b) := by
            have : k = 2 * (k / 2) := by omega
            conv => lhs; rw [this]
            rw [Nat.mul_add, Nat.mul_one, ← Nat.mul_assoc, Nat.mul_comm a 2]
            omega
          omega
        | succ m =>
          simp only [hm] at h
          obtain ⟨h1, h2⟩ := blank_get d (2 * a) (2 * a + b) n _ v h
          refine ⟨h1, ?_⟩
          have h2 : 2 * a * (k / 2) + (2 * a + b) < n := h2
          have hm : k % 2 = m + 1 := hm
          have e : a * (k + 1) + b = 2 * a * (k / 2) + (2 * a + b) := by
            have : k = 2 * (k / 2) + 1 := by omega
            conv => lhs; rw [this]
            have e2 : a * (2 * (k / 2) + 1 + 1) = a * (2 * (k / 2)) + 2 * a := by rw [Nat.mul_add, Nat.mul_add, Nat.mul_one]; omega
            rw [e2, ← Nat.mul_assoc, Nat.mul_comm a 2]
            omega
          omega

theorem frame_rel {ρ : Ren} {n : Nat} {args : List Value} {us : Array Value} (hv : VsRel ρ args us.toList) (hn : args.length ≤ n) : RegsRel ρ (initR n 0 args (blank 11 1 0 n)) (us ++ Array.replicate (n - us.size) undef) := by
  have hl := hv.length
  have hl : us.size = args.length := by simpa using hl
  have hb : RegsRel ρ (blank 11 1 0 n) (Array.replicate n undef) := by
    intro t v h
    obtain ⟨rfl, h2⟩ := blank_get _ _ _ _ _ _ h
    have h2 : t < n := by omega
    exact ⟨undef, by simp [h2], undef_rel ρ⟩
  -- first the blanks under the arguments, then the arguments
  have key : ∀ (l us : List Value) (i : Nat) (r : Tr Value) (tmps : Array Value), VsRel ρ l us → RegsRel ρ r tmps → i + us.length ≤ tmps.size →
      ∃ tmps' : Array Value, RegsRel ρ (initR n i l r) tmps' ∧ tmps'.size = tmps.size ∧ ∀ j, tmps'[j]? = if i ≤ j ∧ j < i + us.length then us[j - i]? else tmps[j]? := by
    intro l
    induction l with
    | nil =>
      intro us i r tmps hv hr hs
      cases hv
      exact ⟨tmps, hr, rfl, fun j => by simp; omega⟩
    | cons v l ih =>
      intro us i r tmps hv hr hs
      cases hv with
      | cons _ u _ m hvu hlm =>
        simp only [List.length_cons] at hs
        obtain ⟨t', h1, h2, h3⟩ := ih m (i + 1) (r.upd i v) (tmps.setIfInBounds i u) hlm (hr.put i hvu) (by simp; omega)
        refine ⟨t', h1, by simpa using h2, fun j => ?_⟩
        rw [h3]
        simp only [List.length_cons]
        by_cases hj : i + 1 ≤ j ∧ j < i + 1 + m.length
        · rw [if_pos hj, if_pos (by omega)]
          have : j - i = (j - (i + 1)) + 1 := by omega
          rw [this, List.getElem?_cons_succ]
        · rw [if_neg hj]
          by_cases e : j = i
          · subst e
            have : j < tmps.size := by omega
            rw [if_pos (by omega)]
            simp [this]
          · rw [if_neg (by omega), Array.getElem?_setIfInBounds_ne (Ne.symm e)]
  obtain ⟨t', h1, h2, h3⟩ := key args us.toList 0 _ _ hv hb (by simp; omega)
  have e : t' = us ++ Array.replicate (n - us.size) undef := by
    apply Array.ext_getElem?
    intro j
    rw [h3, Array.getElem?_append]
    simp only [Nat.zero_le, true_and, Nat.zero_add, Array.length_toList, Nat.sub_zero]
    by_cases hj : j < us.size
    · rw [if_pos hj, if_pos hj]; simp
    · rw [if_neg hj, if_neg hj]
      simp only [Array.getElem?_replicate]
      by_cases h4 : j < n
      · rw [if_pos h4, if_pos (by omega)]
      · rw [if_neg h4, if_neg (by omega)]
  rw [← e]
  exact h1

/-! Results. -/
def resG (a : Act) : ResultVar → Sem Value
  | .tmp t => pure (a.tmps.getD t undef)
  | .cell b t => do loadVar t (← asAddr (a.tmps.getD b undef))

theorem rv_run {B : Nat} {ρ : Ren} {r : Tr Value} {s : AS} {a : Act} {w : World} {x : ResultVar} {y : RV} {v : Value} (hR : Rel B ρ s w) (hr : RegsRel ρ r a.tmps) (hx : rvOf P x = some y) (h : rv r s y = some v) :
    ∃ u, (resG a x).run P w = .ok u w ∧ VRel ρ v u := by
  have look : ∀ {t : Nat} {v : Value}, r.get t = some v → VRel ρ v (a.tmps.getD t undef) := by
    intro t v h
    obtain ⟨u, h1, h2⟩ := hr t v h
    simp only [Array.getD_eq_getD_getElem?, h1]
    exact h2
  cases x with
  | tmp t =>
    simp only [rvOf, Option.some.injEq] at hx
    subst hx
    exact ⟨_, rfl, look h⟩
  | cell b t =>
    simp only [rvOf] at hx
    split at hx
    · rename_i n hg hk
      cases hx
      simp only [rv] at h
      split at h
      · rename_i m i hm
        have hp := look hm
        cases hu : a.tmps.getD b undef <;> rw [hu] at hp <;> cases hp
        rename_i tg hn
        split at h
        · rename_i cs e pl z ho
          split at h
          · rename_i l hl
            cases h
            obtain ⟨q, h1, h2⟩ := loads (P := P) hR ho hn hl
            refine ⟨.agg q, ?_, .agg _ _ h2⟩
            simp only [resG, hu, asAddr, Sem.run_bind, Sem.run_pure, Result.andThen_ok, loadVar, run_agg hg, if_true, run_size hk, h1]
          · cases h
        · cases h
      · cases h
    · rename_i hg
      cases hx
      simp only [rv] at h
      split at h
      · rename_i m i hm
        have hp := look hm
        cases hu : a.tmps.getD b undef <;> rw [hu] at hp <;> cases hp
        rename_i tg hn
        split at h
        · rename_i cs e pl z ho
          obtain ⟨q, h1, h2⟩ := load_one (P := P) hR ho hn h
          refine ⟨q, ?_, h2⟩
          simp only [resG, hu, asAddr, Sem.run_bind, Sem.run_pure, Result.andThen_ok, loadVar, run_agg hg, Bool.false_eq_true, if_false]
          exact h1
        · cases h
      · cases h
    · cases hx

theorem rvs_run {B : Nat} {ρ : Ren} {r : Tr Value} {s : AS} {a : Act} {w : World} (hR : Rel B ρ s w) (hr : RegsRel ρ r a.tmps) : ∀ {l : List ResultVar} {ys : List RV} {vs : List Value}, rvsOf P l = some ys → rvs r s ys = some vs →
    ∃ us, (l.mapM (resG a)).run P w = .ok us w ∧ VsRel ρ vs us
  | [], ys, vs, hl, h => by
    simp only [rvsOf, Option.some.injEq] at hl
    subst hl
    simp only [rvs, Option.some.injEq] at h
    subst h
    exact ⟨[], by simp, .nil⟩
  | x :: l, ys, vs, hl, h => by
    simp only [rvsOf] at hl
    split at hl
    · rename_i y hy
      split at hl
      · rename_i q hq
        cases hl
        simp only [rvs] at h
        split at h
        · rename_i v hv
          split at h
          · rename_i vs' hvs
            cases h
            obtain ⟨u, h1, h2⟩ := rv_run hR hr hy hv
            obtain ⟨us, g1, g2⟩ := rvs_run hR hr hq hvs
            refine ⟨u :: us, ?_, .cons _ _ _ _ h2 g2⟩
            rw [List.mapM_cons, Sem.run_bind, h1, Result.andThen_ok, Sem.run_bind, g1]
            rfl
          · cases h
        · cases h
      · cases hl
    · cases hl

theorem results_run {B : Nat} {ρ : Ren} {r : Tr Value} {s : AS} {a : Act} {w : World} {fn : Func} {ys : List RV} {vs : List Value} (hR : Rel B ρ s w) (hr : RegsRel ρ r a.tmps) (hl : rvsOf P fn.results.toList = some ys) (h : rvs r s ys = some vs) :
    ∃ u, (results fn a.tmps).run P w = .ok u w ∧ VRel ρ (oneOr vs) u := by
  obtain ⟨us, h1, h2⟩ := rvs_run hR hr hl h
  have hm : (fn.results.mapM (resG a)).run P w = .ok us.toArray w := by
    simp [Array.mapM_eq_mapM_toList, h1]
  have e : (results fn a.tmps).run P w = ((fn.results.mapM (resG a)).run P w).andThen (fun vs w' => .ok (if h : vs.size = 1 then vs[0] else .tuple vs) w') := by
    unfold results
    rw [Sem.run_bind]
    rfl
  rw [e, hm]
  refine ⟨_, rfl, ?_⟩
  cases h2 with
  | nil => exact .tuple _ _ .nil
  | cons v u l m hv hl =>
    cases hl with
    | nil => simpa [oneOr] using hv
    | cons v2 u2 l m hv2 hl =>
      simp only [oneOr]
      rw [dif_neg (by simp)]
      exact .tuple _ _ (.cons _ _ _ _ hv (.cons _ _ _ _ hv2 hl))

theorem callF_ok {n : Nat} (hE : Env P F) (hev : EvOk P F n) : CallOk P (callF F (ev F n)) := by
  intro f args s v s' h
  unfold callF at h
  split at h
  · cases h
  · rename_i cf hcf
    obtain ⟨fn, hfn, hof⟩ := hE.fn f cf hcf
    unfold fnOf at hof
    split at hof
    · cases hof
    · rename_i c hbody
      split at hof
      · rename_i cb cr hcb hcr
        split at hof
        · cases hof
        · rename_i hname
          cases hof
          refine ⟨⟨fn, c, hfn, hbody, hname⟩, fun B ρ w us hR hv => ?_⟩
          split at h
          · cases h
          · rename_i hlen
            have hlen : args.length ≤ fn.ntmps := by
              have := Nat.le_of_ble_eq_true hlen
              rw [len_eq] at this
              exact this
            refine calls_of_wp hfn hbody ?_
            refine hev c cb hcb (a := { tmps := us ++ Array.replicate (fn.ntmps - us.size) undef, defers := [] }) hR (frame_rel hv hlen) ?_
            have fin : ∀ r' s1 vs, rvs r' s1 cr = some vs → some (oneOr vs, s1) = some (v, s') → ∀ (ρ' : Ren) (a' : Act) (w' : World), Nx B ρ s w ρ' s1 w' → RegsRel ρ' r' a'.tmps → a'.defers = [] →
                a'.defers = [] ∧ ∃ u, (results fn a'.tmps).run P w' = .ok u w' ∧ ∃ u' ρ'', Ending.returned u = .returned u' ∧ VRel ρ'' v u' ∧ Nx B ρ s w ρ'' s' w' := by
              intro r' s1 vs hvs he ρ' a' w' n1 n2 n3
              cases he
              obtain ⟨u, h1, h2⟩ := results_run (P := P) n1.rel n2 hcr hvs
              exact ⟨n3, u, h1, u, ρ', rfl, h2, n1⟩
            split at h
            · rename_i r' s1 hr
              rw [hr]
              split at h
              · rename_i vs hvs
                exact fun ρ' a' w' n1 n2 n3 => fin r' s1 vs hvs h ρ' a' w' n1 n2 n3
              · cases h
            · rename_i r' s1 hr
              rw [hr]
              split at h
              · rename_i vs hvs
                exact fun ρ' a' w' n1 n2 n3 => fin r' s1 vs hvs h ρ' a' w' n1 n2 n3
              · cases h
            · cases h
      · cases hof

/-- The rounds of a loop. -/
theorem loop_rounds {n : Nat} {body : Code} {cb : CCode} (hcb : codeOf P body = some cb) (hev : ∀ m, m ≤ n → EvOk P F m) : ∀ (m : Nat), m ≤ n + 1 → ∀ {B : Nat} {ρ : Ren} {r : Tr Value} {s : AS} {a : Act} {w : World} {Q : Exit → Act → World → Prop}, Rel B ρ s w → RegsRel ρ r a.tmps →
    OutOk B ρ s w a Q (ev F m (.loop cb) r s) → Code.rounds P body Q m a w
  | 0, _, B, ρ, r, s, a, w, Q, hR, hr, h => by simp [ev, OutOk] at h
  | m + 1, hm, B, ρ, r, s, a, w, Q, hR, hr, h => by
    rw [rounds_succ]
    simp only [ev] at h
    refine hev m (by omega) body cb hcb hR hr ?_
    cases ho : ev F m cb r s with
    | norm r1 s1 =>
      rw [ho] at h
      simp only [] at h
      exact fun ρ' a' w' n1 n2 n3 => loop_rounds hcb hev m (by omega) n1.rel n2 (h.later n1 n3)
    | exit id r1 s1 => rw [ho] at h; exact h
    | ret r1 s1 => rw [ho] at h; exact h
    | fail => rw [ho] at h; exact h

theorem ev_ok (hE : Env P F) (hD : DrawOk P) : ∀ n, EvOk P F n := by
  intro n
  induction n using Nat.strongRecOn with
  | _ n ih =>
    intro code c hc B ρ r s a w Q hR hr h
    cases n with
    | zero => simp [ev, OutOk] at h
    | succ n =>
      have hn : EvOk P F n := ih n (Nat.lt_succ_self n)
      cases code <;> simp only [codeOf] at hc <;> try (cases hc; done)
      case skip =>
        cases hc
        exact wp_skip (h ρ a w (.refl hR) hr rfl)
      case label l =>
        cases hc
        exact wp_label (h ρ a w (.refl hR) hr rfl)
      case region id ops draw =>
        cases draw with
        | false =>
          split at hc
          · cases hc
          · rename_i l hl
            cases hc
            simp only [ev] at h
            split at h
            · rename_i r' s' hi
              exact region_wp (callF_ok hE hn) hl hi hR hr h
            · exact h.elim
        | true =>
          have hc0 := hc
          split at hc
          · cases hc
          · rename_i l hl
            simp only [] at hc
            split at hc
            · rename_i its hits
              split at hc
              · cases hc
                simp only [ev] at h
                split at h
                · rename_i r' s' hi
                  exact hD id ops _ _ (by simp only [codeOf]; exact hc0) (callF_ok hE hn) hi hR hr h
                · exact h.elim
              · cases hc
            · cases hc
      case seq x y =>
        split at hc
        · rename_i cx cy hx hy
          cases hc
          refine wp_seq (hn x cx hx hR hr ?_)
          simp only [ev] at h
          cases ho : ev F n cx r s with
          | norm r1 s1 =>
            rw [ho] at h
            exact fun ρ' a' w' n1 n2 n3 => hn y cy hy n1.rel n2 (h.later n1 n3)
          | exit id r1 s1 => rw [ho] at h; exact h
          | ret r1 s1 => rw [ho] at h; exact h
          | fail => rw [ho] at h; exact h
        · cases hc
      case cond x y z =>
        split at hc
        · rename_i cx cy cz hx hy hz
          cases hc
          simp only [ev] at h
          split at h
          · rename_i hb
            have hv := opd_rel hr hx hb
            have he : a.eval x = .bool true := by cases hh : a.eval x <;> rw [hh] at hv <;> cases hv; rfl
            exact wp_cond_true he (hn y cy hy hR hr h)
          · rename_i hb
            have hv := opd_rel hr hx hb
            have he : a.eval x = .bool false := by cases hh : a.eval x <;> rw [hh] at hv <;> cases hv; rfl
            exact wp_cond_false he (hn z cz hz hR hr h)
          · exact h.elim
        · cases hc
      case block id x =>
        obtain ⟨cx, hx, rfl⟩ := map_some hc
        refine wp_block (hn x cx hx hR hr ?_)
        simp only [ev] at h
        cases ho : ev F n cx r s with
        | norm r1 s1 => rw [ho] at h; exact h
        | exit i r1 s1 =>
          rw [ho] at h
          simp only [] at h
          split at h
          · rename_i hb
            have hb : i = id := Nat.eq_of_beq_eq_true hb
            intro ρ' a' w' n1 n2 n3
            show Exit.inBlock id Q (.exit i) a' w'
            simp only [Exit.inBlock, hb, if_true]
            exact h ρ' a' w' n1 n2 n3
          · rename_i hb
            have hb : i ≠ id := by intro e; subst e; simp at hb
            intro ρ' a' w' n1 n2 n3
            show Exit.inBlock id Q (.exit i) a' w'
            simp only [Exit.inBlock, hb, if_false]
            exact h ρ' a' w' n1 n2 n3
        | ret r1 s1 => rw [ho] at h; exact h
        | fail => rw [ho] at h; exact h
      case loop x =>
        obtain ⟨cx, hx, rfl⟩ := map_some hc
        exact wp_loop_rounds (n + 1) (loop_rounds (n := n) hx (fun m hm => ih m (by omega)) (n + 1) (Nat.le_refl _) hR hr h)
      case exit id =>
        cases hc
        exact wp_exit (h ρ a w (.refl hR) hr rfl)
      case scope x =>
        obtain ⟨cx, hx, rfl⟩ := map_some hc
        refine wp_scope_straight (hn x cx hx hR hr ?_)
        simp only [ev] at h
        cases ho : ev F n cx r s with
        | norm r1 s1 => rw [ho] at h; exact h
        | exit i r1 s1 => rw [ho] at h; exact h
        | ret r1 s1 => rw [ho] at h; exact h
        | fail => rw [ho] at h; exact h
      case ret =>
        cases hc
        exact wp_ret (h ρ a w (.refl hR) hr rfl)

theorem call_ok (hE : Env P F) (hD : DrawOk P) (n : Nat) : CallOk P (callF F (ev F n)) := callF_ok hE (ev_ok hE hD n)

end
end Go.Rf
