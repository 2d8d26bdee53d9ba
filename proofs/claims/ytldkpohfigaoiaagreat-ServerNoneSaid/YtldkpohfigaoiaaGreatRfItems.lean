/- One operation of a region, calls among them, and a region that is run in its text's order. -/
import Derived.Test.YtldkpohfigaoiaaGreatRfEv
namespace Go.Rf
open Go Go.RowKit

/-- What a run of a function gives, for every world. -/
def CallOk (P : Program) (callf : Nat → List Value → AS → Res) : Prop :=
  ∀ f args s v s', callf f args s = some (v, s') → (∃ fn c, P.funcs[f]? = some fn ∧ fn.body = some c ∧ fn.name ≠ "runtime.NumGoroutine") ∧
    ∀ (B : Nat) (ρ : Ren) (w : World) (us : Array Value), Rel B ρ s w → VsRel ρ args us.toList → Calls P f us w fun e w' => ∃ u ρ', e = .returned u ∧ VRel ρ' v u ∧ Nx B ρ s w ρ' s' w'

section
variable {P : Program} {B : Nat} {ρ : Ren} {s s' : AS} {w : World} {r : Tr Value} {a : Act} {v : Value} {callf : Nat → List Value → AS → Res}

theorem copOf_call {op : Op} {f : Opd} {as : List Opd} (h : copOf P op = some (.call f as)) : ∃ g args ts, op = .call { callee := .value g, args := args, argTypes := ts } ∧ opdOf g = some f ∧ opdsOf args.toList = some as := by
  cases op
  case call c =>
    obtain ⟨callee, args, ts⟩ := c
    cases callee with
    | value g =>
      simp only [copOf] at h
      split at h
      · rename_i f' as' hf has
        cases h
        exact ⟨g, args, ts, rfl, hf, has⟩
      · cases h
    | invoke _ _ => simp only [copOf] at h; cases h
    | builtin b =>
      exfalso
      simp only [copOf] at h
      repeat' (first | (cases h; done) | split at h)
      all_goals first | contradiction | (obtain ⟨_, _, e⟩ := map_some h; cases e)
  all_goals
    exfalso
    simp only [copOf] at h
    repeat' (first | (cases h; done) | split at h)
    all_goals first | contradiction | (obtain ⟨_, _, e⟩ := map_some h; cases e)

theorem op_wp {o : Oper} {c : COp} {K : Act → World → Prop} {Q : Exit → Act → World → Prop} (hcall : CallOk P callf) (hR : Rel B ρ s w) (hr : RegsRel ρ r a.tmps) (hc : copOf P o.op = some c) (h : c.ev callf r s = some (v, s'))
    (hk : ∀ ρ' u w', VRel ρ' v u → Nx B ρ s w ρ' s' w' → K (a.put o.dst u) w') : o.wp P a w K Q := by
  by_cases hcl : ∃ f as, c = .call f as
  · obtain ⟨f, as, rfl⟩ := hcl
    obtain ⟨g, args, ts, hop, hg, has⟩ := copOf_call hc
    simp only [COp.ev] at h
    split at h
    · rename_i k p q hf
      obtain ⟨vs, hvs, h⟩ := bind_some' h
      have hfr := opd_rel hr hg hf
      have har := opds_rel hr has hvs
      obtain ⟨⟨fn, body, hfn, hbody, hname⟩, hrun⟩ := hcall _ _ _ _ _ h
      cases hev : a.eval g <;> rw [hev] at hfr <;> cases hfr
      rename_i p' q' hp hq
      unfold Oper.wp
      have hx : (execOp a.eval o).run P w = .ok (.enter k (p' ++ args.map a.eval ++ q')) w := by
        obtain ⟨dst, op, type, pos, after, guard⟩ := o
        simp only at hop
        subst hop
        have h1 : ¬ (fn.name == "runtime.NumGoroutine") = true := by simpa using hname
        simp only [execOp, resolve, Deferred.ofValue, hev, Sem.run_bind, Sem.run_pure, Result.andThen_ok, invoke, callFunc, run_program, hfn]
        rw [if_neg h1, if_neg (by simp [hbody])]
        rfl
      rw [hx, Oper.upon_enter]
      refine Calls.mono (hrun B ρ w (p' ++ args.map a.eval ++ q') hR ?_) ?_
      · rw [app_eq, app_eq]
        have := hp.append (har.append hq)
        simpa using this
      · rintro e w' ⟨u, ρ', rfl, hv, hn⟩
        exact hk ρ' u w' hv hn
    · cases h
  · obtain ⟨ρ', u, w', n, h1, h2, h3, h4⟩ := op_gives hR hr hc (fun f as e => hcl ⟨f, as, e⟩) h
    unfold Oper.wp
    rw [h1]
    rcases h2 with rfl | ⟨rfl, rfl⟩
    · exact hk ρ' u w' h3 h4
    · exact hk ρ' undef w' h3 h4

/-! Guards. -/
/-- An item is what an operation compiles to. -/
structure ItemOf (P : Program) (ops : Array Oper) (o : Oper) (it : Item) : Prop where
  op : copOf P o.op = some it.op
  dst : it.dst = o.dst
  guard : (o.guard = none ∧ it.guard = none) ∨ ∃ j want t, o.guard = some (j, want) ∧ (ops[j]?).bind (·.dst) = some t ∧ it.guard = some (t, want)

theorem itemOf_some {ops : Array Oper} {o : Oper} {it : Item} (h : itemOf P ops o = some it) : ItemOf P ops o it := by
  unfold itemOf at h
  split at h
  · rename_i c g hc hg
    cases h
    refine ⟨hc, rfl, ?_⟩
    split at hg
    · cases hg; exact .inl ⟨by assumption, rfl⟩
    · rename_i j want hgd
      split at hg
      · rename_i t ht
        cases hg
        exact .inr ⟨j, want, t, hgd, ht, rfl⟩
      · cases hg
  · cases h

theorem wanted_rel {ops : Array Oper} {o : Oper} {it : Item} (hi : ItemOf P ops o it) (hr : ∀ t v, (∃ w, it.guard = some (t, w)) → r.get t = some v → ∃ u, a.tmps[t]? = some u ∧ VRel ρ v u) {b : Bool} (h : wantedR r it.guard = some b) : Region.wanted o (yielded ops a.tmps) = b := by
  unfold wantedR at h
  rcases hi.guard with ⟨h1, h2⟩ | ⟨j, want, t, h1, h2, h3⟩
  · rw [h2] at h
    cases h
    simp [Region.wanted, h1]
  · rw [h3] at h
    simp only [] at h
    split at h
    · rename_i c hc
      cases h
      obtain ⟨u, q1, q2⟩ := hr t _ ⟨want, h3⟩ hc
      cases q2
      simp only [Region.wanted, h1, yielded, h2, Option.bind_some, q1]
      cases c <;> cases want <;> rfl
    · rename_i x hx hb
      cases h
      obtain ⟨u, q1, q2⟩ := hr t _ ⟨want, h3⟩ hb
      have hnb : ∀ c, u ≠ .bool c := by
        rintro c rfl
        cases q2
        exact hx _ rfl
      simp only [Region.wanted, h1, yielded, h2, Option.bind_some, q1]
      cases u <;> first | rfl | exact absurd rfl (hnb _)
    · cases h

/-- One operation of a region, wanted or not. -/
theorem item_wp {ops : Array Oper} {i : Nat} {o : Oper} {it : Item} {K : Act → World → Prop} {Q : Exit → Act → World → Prop} (hcall : CallOk P callf) (ho : ops[i]? = some o) (hi : ItemOf P ops o it) (hR : Rel B ρ s w) (hr : RegsRel ρ r a.tmps)
    {b : Bool} (hw : wantedR r it.guard = some b) (h : match b with | true => it.op.ev callf r s = some (v, s') | false => v = undef ∧ s' = s)
    (hk : ∀ ρ' u w', VRel ρ' v u → Nx B ρ s w ρ' s' w' → K (a.put it.dst u) w') : wpOp P ops Q i K a w := by
  unfold wpOp
  simp only [ho]
  have hwt := wanted_rel (ops := ops) hi (fun t v _ hv => hr t v hv) hw
  rw [hwt]
  cases b with
  | true =>
    simp only [if_true]
    left
    refine op_wp hcall hR hr hi.op h fun ρ' u w' h1 h2 => ?_
    rw [← hi.dst]
    exact hk ρ' u w' h1 h2
  | false =>
    simp only [Bool.false_eq_true, if_false]
    obtain ⟨rfl, rfl⟩ := h
    rw [← hi.dst]
    exact hk ρ undef w (undef_rel _) (.refl hR)

theorem items_wp {ops : Array Oper} {Q : Exit → Act → World → Prop} (hcall : CallOk P callf) : ∀ (l : List Item) (os : List Oper) (k : Nat), (∀ j (h : j < os.length), ops[k + j]? = some os[j]) → os.mapM (itemOf P ops) = some l → ∀ {r r' : Tr Value} {s s' : AS} {ρ : Ren} {a : Act} {w : World},
    items callf l r s = some (r', s') → Rel B ρ s w → RegsRel ρ r a.tmps → (∀ ρ' a' w', Nx B ρ s w ρ' s' w' → RegsRel ρ' r' a'.tmps → a'.defers = a.defers → Q .normal a' w') →
    wpOps P ops Q (List.range' k os.length) a w
  | l, [], k, _, hm, r, r', s, s', ρ, a, w, h, hR, hr, hq => by
    simp at hm
    subst hm
    simp only [items, Option.some.injEq, Prod.mk.injEq] at h
    obtain ⟨rfl, rfl⟩ := h
    simp only [List.length_nil, List.range'_zero, wpOps]
    exact hq ρ a w (.refl hR) hr rfl
  | l, o :: os, k, hget, hm, r, r', s, s', ρ, a, w, h, hR, hr, hq => by
    simp only [List.mapM_cons, Option.bind_eq_bind, Option.pure_def] at hm
    obtain ⟨it, hit, hm⟩ := bind_some' hm
    obtain ⟨l2, hl2, hm⟩ := bind_some' hm
    cases hm
    have ho : ops[k]? = some o := hget 0 (by simp)
    have hget' : ∀ j (h : j < os.length), ops[k + 1 + j]? = some os[j] := by
      intro j hj
      have := hget (j + 1) (by simpa using hj)
      rw [show k + 1 + j = k + (j + 1) by omega, this]
      simp
    have hi := itemOf_some hit
    simp only [List.length_cons, List.range'_succ]
    rw [wpOps_cons]
    simp only [items] at h
    split at h
    · rename_i hw
      split at h
      · rename_i v s1 hv
        refine item_wp (b := true) hcall ho hi hR hr hw hv fun ρ' u w' h1 h2 => ?_
        exact items_wp hcall l2 os (k + 1) hget' hl2 h h2.rel ((hr.mono h2.ext).putA it.dst h1) fun ρ'' a' w'' n1 n2 n3 => hq ρ'' a' w'' (h2.trans n1) n2 (by rw [n3]; cases it.dst <;> rfl)
      · cases h
    · rename_i hw
      refine item_wp (v := undef) (s' := s) (b := false) hcall ho hi hR hr hw ⟨rfl, rfl⟩ fun ρ' u w' h1 h2 => ?_
      exact items_wp hcall l2 os (k + 1) hget' hl2 h h2.rel ((hr.mono h2.ext).putA it.dst h1) fun ρ'' a' w'' n1 n2 n3 => hq ρ'' a' w'' (h2.trans n1) n2 (by rw [n3]; cases it.dst <;> rfl)
    · cases h

theorem itemsOf_mapM {ops : Array Oper} : ∀ {os : List Oper} {l : List Item}, itemsOf P ops os = some l → os.mapM (itemOf P ops) = some l
  | [], l, h => by simp [itemsOf] at h; simp [h]
  | o :: os, l, h => by
    simp only [itemsOf] at h
    split at h
    · rename_i it hit
      split at h
      · rename_i q hq
        cases h
        simp [List.mapM_cons, hit, itemsOf_mapM hq]
      · cases h
    · cases h

/-- A region in its text's order. -/
theorem region_wp {id : Nat} {ops : Array Oper} {l : List Item} {r' : Tr Value} {Q : Exit → Act → World → Prop} (hcall : CallOk P callf) (hl : itemsOf P ops ops.toList = some l) (h : items callf l r s = some (r', s')) (hR : Rel B ρ s w) (hr : RegsRel ρ r a.tmps)
    (hq : ∀ ρ' a' w', Nx B ρ s w ρ' s' w' → RegsRel ρ' r' a'.tmps → a'.defers = a.defers → Q .normal a' w') : (Code.region id ops false).wp P Q a w := by
  refine wp_region ?_
  have := items_wp (Q := Q) hcall l ops.toList 0 (fun j hj => by simp at hj; simp [hj]) (itemsOf_mapM hl) h hR hr hq
  rw [List.range_eq_range']
  simpa using this

end
end Go.Rf
