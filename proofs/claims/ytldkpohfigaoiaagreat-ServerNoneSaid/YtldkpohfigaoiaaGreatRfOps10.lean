/- Each operation but a call, tenth part: all of them together. -/
import Derived.Test.YtldkpohfigaoiaaGreatRfOps9
namespace Go.Rf
open Go Go.RowKit

section
variable {P : Program} {B : Nat} {ρ : Ren} {s s' : AS} {w : World} {r : Tr Value} {a : Act} {v : Value}

theorem map_some {α β : Type} {f : α → β} {o : Option α} {b : β} (h : o.map f = some b) : ∃ x, o = some x ∧ f x = b := by
  cases o with
  | none => cases h
  | some x => exact ⟨x, rfl, by simpa using h⟩

theorem bind_some' {α β : Type} {f : α → Option β} {o : Option α} {b : β} (h : o.bind f = some b) : ∃ x, o = some x ∧ f x = some b := by
  cases o with
  | none => cases h
  | some x => exact ⟨x, rfl, h⟩

theorem PsRel.conv {qs : List (Nat × Value)} {ps : Array (Nat × Operand)} (h : PsRel ρ qs (ps.toList.map fun p => (p.1, a.eval p.2))) : PsRel ρ qs (ps.map fun (i, x) => (i, a.eval x)).toList := by
  rw [parts_arr]
  exact h

theorem runPick {x y : Operand} {b : Bool} (hb : a.eval x = .bool b) {z : Operand} : (do pure (Next.value (if ← asBool (a.eval x) then a.eval y else a.eval z)) : Sem Next).run P w = .ok (.value (if b then a.eval y else a.eval z)) w := by
  rw [hb]
  simp [asBool]

theorem opds_one {l : List Operand} {x : Opd} (h : opdsOf l = some [x]) : ∃ o, l = [o] ∧ opdOf o = some x := by
  cases l with
  | nil => simp [opdsOf] at h
  | cons o l =>
    simp only [opdsOf] at h
    cases ho : opdOf o with
    | none => simp [ho] at h
    | some y =>
      cases hl : opdsOf l with
      | none => simp [ho, hl] at h
      | some q =>
        simp only [ho, hl, Option.some.injEq, List.cons.injEq] at h
        obtain ⟨rfl, rfl⟩ := h
        cases l with
        | nil => exact ⟨o, rfl, ho⟩
        | cons o2 l =>
          simp only [opdsOf] at hl
          split at hl
          · split at hl
            · cases hl
            · cases hl
          · cases hl

theorem opds_two {l : List Operand} {x y : Opd} (h : opdsOf l = some [x, y]) : ∃ o q, l = [o, q] ∧ opdOf o = some x ∧ opdOf q = some y := by
  cases l with
  | nil => simp [opdsOf] at h
  | cons o l =>
    simp only [opdsOf] at h
    cases ho : opdOf o with
    | none => simp [ho] at h
    | some y' =>
      cases hl : opdsOf l with
      | none => simp [ho, hl] at h
      | some q =>
        simp only [ho, hl, Option.some.injEq, List.cons.injEq] at h
        obtain ⟨rfl, rfl⟩ := h
        obtain ⟨q, rfl, hq⟩ := opds_one hl
        exact ⟨o, q, rfl, ho, hq⟩

theorem run_builtin {c : Call} {b : Builtin} {ty : TypeId} {x : Sem Next} (hb : c.callee = .builtin b) (h : builtin b c.argTypes ty (c.args.map fun | .const _ => true | _ => false) (c.args.map a.eval) = x) :
    (do let d ← resolve a.eval c ty; invoke d.target d.args : Sem Next).run P w = x.run P w := by
  obtain ⟨callee, args, argTypes⟩ := c
  simp only at hb
  subst hb
  simp only [resolve, Sem.run_bind, Sem.run_pure, Result.andThen_ok, invoke]
  subst h
  rfl

theorem Gives.of_run {x y : Sem Next} (h : Gives P B ρ s w y v s') (e : x.run P w = y.run P w) : Gives P B ρ s w x v s' := by
  obtain ⟨ρ', u, w', n, h1, h2⟩ := h
  exact ⟨ρ', u, w', n, by rw [e]; exact h1, h2⟩

/-- What an operation but a call gives, by its class. -/
structure Both (P : Program) (B : Nat) (ρ : Ren) (s : AS) (w : World) (x : Sem Next) (v : Value) (s' : AS) (k : Nat) : Prop where
  quiet : k ≤ 1 → Quiet P ρ s w x v s'
  alloc : k = 2 → Alloc P ρ s w x v s'
  gives : Gives P B ρ s w x v s'

theorem Both.q {x : Sem Next} {k : Nat} (hR : Rel B ρ s w) (h : Quiet P ρ s w x v s') (hk : k ≠ 2) : Both P B ρ s w x v s' k := ⟨fun _ => h, fun e => absurd e hk, h.gives hR⟩
theorem Both.al {x : Sem Next} (hR : Rel B ρ s w) (h : Alloc P ρ s w x v s') : Both P B ρ s w x v s' 2 := ⟨fun e => absurd e (by decide), fun _ => h, h.gives hR⟩
theorem Both.g {x : Sem Next} (h : Gives P B ρ s w x v s') : Both P B ρ s w x v s' 3 := ⟨fun e => absurd e (by decide), fun e => absurd e (by decide), h⟩

theorem Quiet.of_run {x y : Sem Next} (h : Quiet P ρ s w y v s') (e : x.run P w = y.run P w) : Quiet P ρ s w x v s' := by
  obtain ⟨h0, u, h1, h2⟩ := h
  exact ⟨h0, u, by rw [e]; exact h1, h2⟩

theorem Both.of_run {x y : Sem Next} {k : Nat} (h : Both P B ρ s w y v s' k) (e : x.run P w = y.run P w) : Both P B ρ s w x v s' k := by
  refine ⟨fun hk => (h.quiet hk).of_run e, fun hk => ?_, h.gives.of_run e⟩
  obtain ⟨o, t, o', u, w', a1, a2, a3, a4⟩ := h.alloc hk
  exact ⟨o, t, o', u, w', a1, a2, by rw [e]; exact a3, a4⟩

theorem cls_bin_ne (op : BinOp) (d : EqD) (x y : Opd) : COp.cls (.bin op d x y) ≠ 2 := by cases d <;> simp [COp.cls]

set_option maxHeartbeats 4000000 in
theorem op_both {callf : Nat → List Value → AS → Res} {o : Oper} {c : COp} (hR : Rel B ρ s w) (hr : RegsRel ρ r a.tmps) (hc : copOf P o.op = some c) (hnc : ∀ f as, c ≠ .call f as) (h : c.ev callf r s = some (v, s')) :
    Both P B ρ s w (execOp a.eval o) v s' c.cls := by
  have hfr := hR.fresh
  obtain ⟨dst, op, type, pos, after, guard⟩ := o
  simp only at hc
  cases op <;> simp only [copOf] at hc <;> try (cases hc; done)
  case move x =>
    obtain ⟨y, hy, rfl⟩ := map_some hc
    obtain ⟨h1, rfl⟩ := ret_some h
    exact .q hR (g_move hR hr hy h1 rfl) (by simp [COp.cls])
  case assign x =>
    obtain ⟨y, hy, rfl⟩ := map_some hc
    obtain ⟨h1, rfl⟩ := ret_some h
    exact .q hR (g_move hR hr hy h1 rfl) (by simp [COp.cls])
  case pick x y z =>
    split at hc
    · rename_i x' y' z' hx hy hz
      cases hc
      simp only [COp.ev] at h
      split at h
      · rename_i hb
        obtain ⟨h1, rfl⟩ := ret_some h
        have hbr := opd_rel hr hx hb
        have hbe : a.eval x = .bool true := by cases hh : a.eval x <;> rw [hh] at hbr <;> cases hbr; rfl
        exact .q hR (.here hR (runPick hbe) (opd_rel hr hy h1)) (by simp [COp.cls])
      · rename_i hb
        obtain ⟨h1, rfl⟩ := ret_some h
        have hbr := opd_rel hr hx hb
        have hbe : a.eval x = .bool false := by cases hh : a.eval x <;> rw [hh] at hbr <;> cases hbr; rfl
        exact .q hR (.here hR (runPick hbe) (opd_rel hr hz h1)) (by simp [COp.cls])
      · cases h
    · cases hc
  case alloc e =>
    split at hc
    · rename_i z hz
      cases hc
      have h : boxV s e z = some (v, s') := h
      obtain ⟨h1, h2⟩ := zeroT_some (w := w) hz
      refine .of_run (.al hR (g_box (P := P) (w := w) (e := e) hfr (zero_cells h2) h)) ?_
      simp [execOp, Instr.alloc, h1, newVar]
    · cases hc
  case box e x =>
    obtain ⟨y, hy, rfl⟩ := map_some hc
    obtain ⟨x', hx, h⟩ := bind_some' h
    refine .of_run (.al hR (g_box (P := P) (w := w) (e := e) hfr (opd_rel hr hy hx).cells h)) ?_
    simp [execOp, Instr.box, newVar]
  case build t ps =>
    split at hc
    · rename_i z qs hz hqs
      obtain ⟨_, hzp⟩ := zeroT_some (w := w) hz
      split at hc
      · rename_i fs hu
        split at hc
        · rename_i pl hpl
          cases hc
          obtain ⟨vs, hvs, h⟩ := bind_some' h
          obtain ⟨h1, rfl⟩ := ret_some h
          obtain ⟨cs, hcs, h1⟩ := bind_some' h1
          cases h1
          exact .q hR (g_build hR hzp (parts_rel hr hqs hvs).conv (built_struct hu hz hpl) (fun i q hq => by rw [nth_eq] at hq; simpa using hq) hcs) (by simp [COp.cls])
        · cases hc
      · rename_i n e hu
        split at hc
        · rename_i k hk
          split at hc
          · cases hc
            obtain ⟨vs, hvs, h⟩ := bind_some' h
            obtain ⟨h1, rfl⟩ := ret_some h
            obtain ⟨cs, hcs, h1⟩ := bind_some' h1
            cases h1
            refine .q hR (g_build hR hzp (parts_rel hr hqs hvs).conv (built_array hu hz hk) (fun i q hq => ?_) hcs) (by simp [COp.cls])
            rw [nth_eq, List.getElem?_map] at hq
            cases hi : (List.range n)[i]? with
            | none => simp [hi] at hq
            | some j =>
              have : j = i := by
                obtain ⟨h1, h2⟩ := List.getElem?_eq_some_iff.1 hi
                simpa using h2.symm
              subst this
              simpa [hi] using hq
          · cases hc
        · cases hc
      · cases hc
    · cases hc
  case buildSlice t n ps =>
    split at hc
    · rename_i e qs hu hqs
      split at hc
      · rename_i k z hk hz
        split at hc
        · rename_i hle
          cases hc
          obtain ⟨vs, hvs, h⟩ := bind_some' h
          obtain ⟨cs, hcs, h⟩ := bind_some' h
          exact .al hR (g_bslice hfr hu hk hz hle (parts_rel hr hqs hvs).conv hcs h)
        · cases hc
      · cases hc
    · cases hc
  case load t x =>
    split at hc
    · rename_i n y hg hk hy
      cases hc
      obtain ⟨x', hx, h⟩ := bind_some' h
      exact .q hR (g_ldn hR hg hk (opd_rel hr hy hx) h) (by simp [COp.cls])
    · rename_i y hg hy
      cases hc
      obtain ⟨x', hx, h⟩ := bind_some' h
      exact .q hR (g_ld1 hR hg (opd_rel hr hy hx) h) (by simp [COp.cls])
    · cases hc
  case store t x y =>
    split at hc
    · rename_i n x' y' hk hx hy
      cases hc
      obtain ⟨p, hp, h⟩ := bind_some' h
      obtain ⟨q, hq, h⟩ := bind_some' h
      exact .g (g_st hR hk (opd_rel hr hx hp) (opd_rel hr hy hq) h)
    · cases hc
  case nilCheck x =>
    obtain ⟨y, hy, rfl⟩ := map_some hc
    obtain ⟨x', hx, h⟩ := bind_some' h
    obtain ⟨h1, rfl, h2⟩ := g_nilck hR (opd_rel hr hy hx) h
    rcases h2 with ⟨ad, h2⟩ | ⟨f, p, q, h2⟩
    · rw [h2] at h1
      exact .q hR (.here hR (by simp only [execOp, h2]; rfl) h1) (by simp [COp.cls])
    · rw [h2] at h1
      exact .q hR (.here hR (by simp only [execOp, h2]; rfl) h1) (by simp [COp.cls])
  case binOp op t x y t2 =>
    split at hc
    · rename_i x' y' hx hy
      have key : ∀ d, c = .bin op d x' y' → ((op = .eql ∨ op = .neq) → eqD P 20 t = some d ∧ P.eqGuardType P.depth t = false) → Both P B ρ s w (execOp a.eval ⟨dst, .binOp op t x y t2, type, pos, after, guard⟩) v s' c.cls := by
        intro d hcd hd
        subst hcd
        obtain ⟨p, hp, h⟩ := bind_some' h
        obtain ⟨q, hq, h⟩ := bind_some' h
        obtain ⟨h1, rfl⟩ := ret_some h
        exact .q hR (binV_rel (X := x) (Y := y) (ty2 := t2) hR (opd_rel hr hx hp) (opd_rel hr hy hq) h1 hd) (cls_bin_ne _ _ _ _)
      split at hc
      · split at hc
        · rename_i d hd
          split at hc
          · cases hc
          · rename_i hg
            cases hc
            exact key d rfl fun _ => ⟨hd, by simpa using hg⟩
        · cases hc
      · split at hc
        · rename_i d hd
          split at hc
          · cases hc
          · rename_i hg
            cases hc
            exact key d rfl fun _ => ⟨hd, by simpa using hg⟩
        · cases hc
      · rename_i h1 h2
        cases hc
        exact key .no rfl fun hh => by rcases hh with hh | hh <;> simp_all
    · cases hc
  case unOp op t x =>
    obtain ⟨y, hy, rfl⟩ := map_some hc
    obtain ⟨x', hx, h⟩ := bind_some' h
    obtain ⟨h1, rfl⟩ := ret_some h
    obtain ⟨h2, h3⟩ := unV_rel (opd_rel hr hy hx) h1
    exact .q hR (.here hR (run_v (by rw [h2]; exact unV_run h1)) h3) (by simp [COp.cls])
  case convert src dst2 x =>
    split at hc
    · rename_i y j k hy h1 h2
      cases hc
      obtain ⟨x', hx, h⟩ := bind_some' h
      exact .q hR (g_cvi hR (opd_rel hr hy hx) h1 h2 h) (by simp [COp.cls])
    · rename_i y hy h1 h2
      cases hc
      obtain ⟨x', hx, h⟩ := bind_some' h
      exact .q hR (g_cvss hR (opd_rel hr hy hx) h1 h2 h) (by simp [COp.cls])
    · rename_i y e hy h1 h2
      split at hc
      · rename_i he
        cases hc
        obtain ⟨x', hx, h⟩ := bind_some' h
        have he' : P.underlying e = some (.int .u8) := by
          have := he.1
          unfold u8T at this
          split at this
          · assumption
          · cases this
        exact .al hR (g_cvsb hfr (opd_rel hr hy hx) h1 h2 he' h)
      · cases hc
    · rename_i y e hy h1 h2
      split at hc
      · rename_i he
        cases hc
        obtain ⟨x', hx, h⟩ := bind_some' h
        have he' : P.underlying e = some (.int .u8) := by
          have := he
          unfold u8T at this
          split at this
          · assumption
          · cases this
        exact .q hR (g_cvbs hR (opd_rel hr hy hx) h1 h2 he' h) (by simp [COp.cls])
      · cases hc
    · cases hc
  case makeFunc fn f2 cap =>
    split at hc
    · rename_i p q hp hq
      cases hc
      obtain ⟨x, hx, h⟩ := bind_some' h
      obtain ⟨y, hy, h⟩ := bind_some' h
      cases h
      exact .q hR (g_mkfn hR hr hp hq hx hy (by simp) (by simp)) (by simp [COp.cls])
    · cases hc
  case makeMap t m =>
    split at hc
    · rename_i kt et m' hu hm
      cases hc
      rcases optOf_some hm with ⟨rfl, rfl⟩ | ⟨p, q, rfl, rfl, hp⟩
      · exact .al hR (g_mkmap hfr hu (.inl rfl) h)
      · obtain ⟨x, hx, h⟩ := bind_some' h
        split at h
        · rename_i hi
          have := opd_rel hr hp hx
          refine .al hR (g_mkmap hfr hu (.inr ?_) h)
          cases x <;> simp [isInt] at hi
          cases hh : a.eval p <;> rw [hh] at this <;> cases this
          exact ⟨_, _, congrArg some hh⟩
        · cases h
    · cases hc
  case makeSlice t l k =>
    split at hc
    · rename_i e l' k' hu hl hk
      split at hc
      · rename_i z i hz hi
        cases hc
        obtain ⟨x, hx, h⟩ := bind_some' h
        obtain ⟨y, hy, h⟩ := bind_some' h
        exact .al hR (g_mkslice hfr hu hz hi (opd_rel hr hl hx) (opd_rel hr hk hy) h)
      · cases hc
    · cases hc
  case slice t x lo hi mx =>
    split at hc
    · rename_i x' lo' hi' mx' hx h1 h2 h3
      split at hc
      · rename_i n e hu
        obtain ⟨k, hk, rfl⟩ := map_some hc
        obtain ⟨y, hy, h⟩ := bind_some' h
        exact .q hR (g_slar hR hr (opd_rel hr hx hy) (.inl ⟨e, hu, hk⟩) h1 h2 h3 h) (by simp [COp.cls])
      · rename_i hu
        split at hc
        · cases hc
          obtain ⟨y, hy, h⟩ := bind_some' h
          rcases optOf_some h3 with ⟨rfl, _⟩ | ⟨_, _, _, h4, _⟩
          · exact .q hR (g_slst hR hr (opd_rel hr hx hy) hu h1 h2 h) (by simp [COp.cls])
          · cases h4
        · cases hc
      · rename_i e hu
        obtain ⟨k, hk, rfl⟩ := map_some hc
        obtain ⟨y, hy, h⟩ := bind_some' h
        exact .q hR (g_slsl hR hr (opd_rel hr hx hy) hu hk h1 h2 h3 h) (by simp [COp.cls])
      · rename_i q hu
        split at hc
        · rename_i n e hq
          obtain ⟨k, hk, rfl⟩ := map_some hc
          obtain ⟨y, hy, h⟩ := bind_some' h
          exact .q hR (g_slar hR hr (opd_rel hr hx hy) (.inr ⟨q, e, hu, hq, hk⟩) h1 h2 h3 h) (by simp [COp.cls])
        · cases hc
      · cases hc
    · cases hc
  case fieldAddr t x f =>
    split at hc
    · rename_i fs y hu hy
      split at hc
      · rename_i fd hf
        split at hc
        · rename_i n hn
          split at hc
          · cases hc
          · rename_i hn0
            cases hc
            obtain ⟨x', hx, h⟩ := bind_some' h
            exact .q hR (g_fad hR (opd_rel hr hy hx) hu hf hn hn0 h) (by simp [COp.cls])
        · cases hc
      · cases hc
    · cases hc
  case field t x f =>
    split at hc
    · rename_i fs y hu hy
      split at hc
      · rename_i fd hf
        split at hc
        · rename_i n g hn hg
          cases hc
          obtain ⟨x', hx, h⟩ := bind_some' h
          exact .q hR (g_fld hR (opd_rel hr hy hx) hu hf hn hg h) (by simp [COp.cls])
        · cases hc
      · cases hc
    · cases hc
  case indexAddr t x i =>
    split at hc
    · rename_i x' i' e hx hi hu
      obtain ⟨k, hk, rfl⟩ := map_some hc
      obtain ⟨p, hp, h⟩ := bind_some' h
      obtain ⟨q, hq, h⟩ := bind_some' h
      exact .q hR (g_ixs hR (opd_rel hr hx hp) (opd_rel hr hi hq) hu hk h) (by simp [COp.cls])
    · rename_i x' i' n e hx hi hu
      obtain ⟨k, hk, rfl⟩ := map_some hc
      obtain ⟨p, hp, h⟩ := bind_some' h
      obtain ⟨q, hq, h⟩ := bind_some' h
      exact .q hR (g_ixa hR (opd_rel hr hx hp) (opd_rel hr hi hq) hu hk h) (by simp [COp.cls])
    · cases hc
  case index t x i =>
    split at hc
    · rename_i x' i' hx hi hu
      cases hc
      obtain ⟨p, hp, h⟩ := bind_some' h
      obtain ⟨q, hq, h⟩ := bind_some' h
      exact .q hR (g_ixst hR (opd_rel hr hx hp) (opd_rel hr hi hq) hu h) (by simp [COp.cls])
    · rename_i x' i' n e hx hi hu
      split at hc
      · rename_i k g hk hg
        cases hc
        obtain ⟨p, hp, h⟩ := bind_some' h
        obtain ⟨q, hq, h⟩ := bind_some' h
        exact .q hR (g_ixag hR (opd_rel hr hx hp) (opd_rel hr hi hq) hu hk hg h) (by simp [COp.cls])
      · cases hc
    · cases hc
  case lookup t x i ok =>
    split at hc
    · rename_i kt et x' i' hu hx hi
      split at hc
      · rename_i k z hk hz
        cases hc
        obtain ⟨p, hp, h⟩ := bind_some' h
        obtain ⟨q, hq, h⟩ := bind_some' h
        exact .q hR (g_mlook hR (opd_rel hr hx hp) (opd_rel hr hi hq) hu hk hz h) (by simp [COp.cls])
      · cases hc
    · cases hc
  case mapUpdate t m k x =>
    split at hc
    · rename_i kt et m' k' x' hu hm hk hx
      obtain ⟨n, hn, rfl⟩ := map_some hc
      obtain ⟨p, hp, h⟩ := bind_some' h
      obtain ⟨q, hq, h⟩ := bind_some' h
      obtain ⟨y, hy, h⟩ := bind_some' h
      exact .g (g_mupd hR (opd_rel hr hm hp) (opd_rel hr hk hq) (opd_rel hr hx hy) hu hn h)
    · cases hc
  case insert t m k x =>
    split at hc
    · rename_i kt et m' k' x' hu hm hk hx
      obtain ⟨n, hn, rfl⟩ := map_some hc
      obtain ⟨p, hp, h⟩ := bind_some' h
      obtain ⟨q, hq, h⟩ := bind_some' h
      obtain ⟨y, hy, h⟩ := bind_some' h
      exact .g (g_mupd hR (opd_rel hr hm hp) (opd_rel hr hk hq) (opd_rel hr hx hy) hu hn h)
    · cases hc
  case mapEntry t m k =>
    split at hc
    · rename_i kt et m' k' hu hm hk
      split at hc
      · rename_i n z hn hz
        cases hc
        obtain ⟨p, hp, h⟩ := bind_some' h
        obtain ⟨q, hq, h⟩ := bind_some' h
        exact .g (g_ment hR (opd_rel hr hm hp) (opd_rel hr hk hq) hu hn hz h)
      · cases hc
    · cases hc
  case entryStore t m k x =>
    split at hc
    · rename_i m' k' x' hm hk hx
      cases hc
      obtain ⟨p, hp, h⟩ := bind_some' h
      obtain ⟨q, hq, h⟩ := bind_some' h
      obtain ⟨y, hy, h⟩ := bind_some' h
      exact .g (g_mest hR (opd_rel hr hm hp) (opd_rel hr hk hq) (opd_rel hr hx hy) h)
    · cases hc
  case range t x =>
    split at hc
    · rename_i kt et y hu hy
      cases hc
      obtain ⟨p, hp, h⟩ := bind_some' h
      exact .g (g_rangem hR (opd_rel hr hy hp) hu h)
    · cases hc
  case next x str =>
    cases str with
    | true => cases hc
    | false =>
      obtain ⟨y, hy, rfl⟩ := map_some hc
      obtain ⟨p, hp, h⟩ := bind_some' h
      exact .g (g_nextm hR (opd_rel hr hy hp) h)
  case entry x =>
    obtain ⟨y, hy, rfl⟩ := map_some hc
    obtain ⟨p, hp, h⟩ := bind_some' h
    exact .q hR (g_ent hR (opd_rel hr hy hp) h) (by simp [COp.cls])
  case extract x i =>
    obtain ⟨y, hy, rfl⟩ := map_some hc
    obtain ⟨p, hp, h⟩ := bind_some' h
    exact .q hR (g_ext hR (opd_rel hr hy hp) h) (by simp [COp.cls])
  case call c2 =>
    obtain ⟨callee, args, argTypes⟩ := c2
    cases callee with
    | invoke _ _ => cases hc
    | value f =>
      simp only at hc
      split at hc
      · cases hc; exact absurd rfl (hnc _ _)
      · cases hc
    | builtin b =>
      simp only at hc
      split at hc
      · cases hc
      · rename_i as has
        have hargs : ∀ l : List Operand, args.toList = l → args.map a.eval = (l.map a.eval).toArray := by
          intro l hl
          apply Array.ext'
          simp [hl]
        have fin : ∀ x : Sem Next, builtin b argTypes type (args.map fun | .const _ => true | _ => false) (args.map a.eval) = x → Both P B ρ s w x v s' c.cls → Both P B ρ s w (execOp a.eval ⟨dst, .call ⟨.builtin b, args, argTypes⟩, type, pos, after, guard⟩) v s' c.cls :=
          fun x hx hg => hg.of_run (run_builtin (c := ⟨.builtin b, args, argTypes⟩) rfl hx)
        have at0 : ∀ {t : TypeId} {l : List TypeId}, argTypes.toList = t :: l → argTypes[0]? = some t := by
          intro t l hl
          have : argTypes.toList[0]? = some t := by rw [hl]; rfl
          simpa using this
        have at1 : ∀ {t u : TypeId} {l : List TypeId}, argTypes.toList = t :: u :: l → argTypes[1]? = some u := by
          intro t u l hl
          have : argTypes.toList[1]? = some u := by rw [hl]; rfl
          simpa using this
        split at hc
        · -- len
          rename_i x t hat
          obtain ⟨o, ho, hx⟩ := opds_one has
          have e := hargs _ ho
          refine fin _ rfl ?_
          rw [e]
          split at hc
          · rename_i hu
            cases hc
            obtain ⟨p, hp, h⟩ := bind_some' h
            exact .q hR (g_len (k := 0) hR (opd_rel hr hx hp) hat hu h) (by simp [COp.cls])
          · rename_i e' hu
            cases hc
            obtain ⟨p, hp, h⟩ := bind_some' h
            exact .q hR (g_len (k := 1) hR (opd_rel hr hx hp) hat ⟨_, hu⟩ h) (by simp [COp.cls])
          · rename_i k' e' hu
            cases hc
            obtain ⟨p, hp, h⟩ := bind_some' h
            exact .q hR (g_len (k := 2) hR (opd_rel hr hx hp) hat ⟨_, _, hu⟩ h) (by simp [COp.cls])
          · rename_i n e' hu
            cases hc
            have h : ret s (some (.int .i64 (.ofNat n))) = some (v, s') := h
            obtain ⟨h1, rfl⟩ := ret_some h
            cases h1
            refine .q hR (.here hR (run_v ?_) (.int _ _)) (by simp [COp.cls])
            simp [Builtin.len_, at0 hat, run_und hu, goInt]
          · cases hc
        · -- append
          rename_i d x t u hat
          obtain ⟨o, q, ho, hd, hx⟩ := opds_two has
          have e := hargs _ ho
          refine fin _ rfl ?_
          rw [e]
          split at hc
          · cases hc
          · rename_i e' d2 hni hu hu2
            split at hc
            · rename_i z i hz hi
              cases hc
              obtain ⟨p, hp, h⟩ := bind_some' h
              obtain ⟨p2, hp2, h⟩ := bind_some' h
              refine .g (g_app ⟨t, u, d2, z, at0 hat, at1 hat, hu, hu2, fun k hk => ?_, hz, hi⟩ hR (opd_rel hr hd hp) (opd_rel hr hx hp2) h)
              subst hk
              exact hni _ rfl
            · cases hc
          · cases hc
        · -- copy
          rename_i d x t u hat
          obtain ⟨o, q, ho, hd, hx⟩ := opds_two has
          have e := hargs _ ho
          refine fin _ rfl ?_
          rw [e]
          split at hc
          · rename_i e' hu
            obtain ⟨k, hk, rfl⟩ := map_some hc
            obtain ⟨p, hp, h⟩ := bind_some' h
            obtain ⟨p2, hp2, h⟩ := bind_some' h
            exact .g (g_copy hR (opd_rel hr hd hp) (opd_rel hr hx hp2) (at0 hat) hu hk h)
          · cases hc
        · -- delete
          rename_i m k t u hat
          obtain ⟨o, q, ho, hm, hk⟩ := opds_two has
          have e := hargs _ ho
          refine fin _ rfl ?_
          rw [e]
          split at hc
          · rename_i kt e' hu
            obtain ⟨n, hn, rfl⟩ := map_some hc
            obtain ⟨p, hp, h⟩ := bind_some' h
            obtain ⟨p2, hp2, h⟩ := bind_some' h
            exact .g (g_mdel hR (opd_rel hr hm hp) (opd_rel hr hk hp2) (at0 hat) hu hn h)
          · cases hc
        · -- clear
          rename_i x t hat
          obtain ⟨o, ho, hx⟩ := opds_one has
          have e := hargs _ ho
          refine fin _ rfl ?_
          rw [e]
          split at hc
          · rename_i kt e' hu
            cases hc
            obtain ⟨p, hp, h⟩ := bind_some' h
            exact .g (g_clr (m := true) hR (opd_rel hr hx hp) (at0 hat) ⟨_, _, hu⟩ h)
          · rename_i e' hu
            split at hc
            · rename_i z hz
              cases hc
              obtain ⟨p, hp, h⟩ := bind_some' h
              exact .g (g_clr (m := false) hR (opd_rel hr hx hp) (at0 hat) ⟨_, hu, hz⟩ h)
            · cases hc
          · cases hc
        · -- min
          rename_i l
          cases hc
          simp only [COp.ev] at h
          split at h
          · rename_i x l hl
            obtain ⟨h1, rfl⟩ := ret_some h
            have := opds_rel hr has hl
            exact fin _ rfl (.q hR (g_mnmx (mx := false) hR (by simpa using this) h1) (by simp [COp.cls]))
          · cases h
        · -- max
          rename_i l
          cases hc
          simp only [COp.ev] at h
          split at h
          · rename_i x l hl
            obtain ⟨h1, rfl⟩ := ret_some h
            have := opds_rel hr has hl
            exact fin _ rfl (.q hR (g_mnmx (mx := true) hR (by simpa using this) h1) (by simp [COp.cls]))
          · cases h
        · cases hc

theorem op_gives {callf : Nat → List Value → AS → Res} {o : Oper} {c : COp} (hR : Rel B ρ s w) (hr : RegsRel ρ r a.tmps) (hc : copOf P o.op = some c) (hnc : ∀ f as, c ≠ .call f as) (h : c.ev callf r s = some (v, s')) :
    Gives P B ρ s w (execOp a.eval o) v s' := (op_both hR hr hc hnc h).gives

end
end Go.Rf
