/- Proved: whatever step and number tagcachelaw29.ServerNone is called with, it returns true and its arguments read afterwards as before. No conditions of ours: it is the given statement 'ServerNoneSaid'. -/
import Derived.Test.YtldkpohfigaoiaaGreatEval
import Derived.Test.YtldkpohfigaoiaaGreatFact3
import Derived.ProofKit
import Derived.Lib.SmallJoins
import Derived.Below
import Derived.ChangeSame
set_option maxRecDepth 100000
namespace Go.Proofs.YtldkpohfigaoiaaGreat
open Go.ChangeShapes Go.WideShapes Go.ChangeAt Go.RowKit Go.Joins

theorem Tryz.own : ownKnob Tryz.prog.godebug = none := by kernel_rfl
theorem Tryz.laidOut : laidOutB Tryz.prog = true := by kernel_rfl

section
variable {H : Type} {enc : TypeId × Value → H} {P : Program}
theorem post_of_below {f : Func} {s : ChangeSpec} {apart fresh handsOn again : Bool} {W W' : World} {args : Array Value} {v : Value} {ds gs : List (DataW H)} {before pa pv : List MemPlace}
    (hW : DataW.Whole enc P f.params.toList s.vars apart W args.toList ds gs before)
    (hres : ∀ (b : Nat) (sp : Nat → Bool) (hd : Bool), DataW.TrodAll enc P W' b sp hd f.resultTypes.toList (v.resultList f.resultTypes.size) (s.fn H (ds ++ gs)).results [])
    (hargs : ∀ sp : Nat → Bool, (∀ p ∈ before, sp p.block = true) → DataW.TrodAll enc P W' 0 sp true f.params.toList args.toList (s.fn H (ds ++ gs)).args pa)
    (hvars : ∀ sp : Nat → Bool, (∀ p ∈ before, sp p.block = true) → DataW.TrodVars enc P W' sp s.vars (s.fn H (ds ++ gs)).vars pv)
    (hps : before = pa ++ pv) (hb : Below W.heap.size W W')
    (hok : ∀ (j : Nat) (t : TypeId) (r : Value), f.resultTypes[j]? = some t → (v.resultList f.resultTypes.size)[j]? = some r → Value.okWide P W' .any 0 t r) :
    s.post enc P f apart fresh handsOn again W args v W' := by
  have hlt : ∀ p ∈ before, p.block < W.heap.size := fun p hp => hW.lt p hp
  have hold : ∀ p ∈ before, (fun b => decide (b < W.heap.size)) p.block = true := fun p hp => by simpa using hlt p hp
  refine ⟨ds, gs, before, [], pa, pv, hW, hres _ _ _, hargs _ hold, hvars _ hold, World.keptBut_mono (fun p hp => ⟨hp, ?_⟩) (hb.frame (· ∈ before)), fun _ => ?_⟩
  · rw [hps, List.mem_append] at hp
    exact Or.inr hp
  · obtain ⟨_, _, _, _, _, hz, hn⟩ := hW
    refine ⟨hok, _, _, ([] ++ pa) ++ pv, ⟨[] ++ pa, pv, trodAll_append (hargs _ (fun _ _ => rfl)) (hres _ _ _), hvars _ (fun _ _ => rfl), rfl, ?_, ?_⟩, ?_⟩
    · intro b off hp
      have hin : MemPlace.cell b off ∈ before := by rw [hps]; simpa using hp
      rw [hb.frozen (hlt _ hin)]
      exact hz b off hin
    · intro ha
      have := hn ha
      rw [hps] at this
      simpa using this
    · intro p hp _
      rw [hps]
      simpa using hp
end

/-- The forms of a step. -/
def StepForm (w : World) (v : Value) : Prop := ∃ a b c sl, v = .agg #[.int .i64 a, .int .i64 b, .int .i64 c, sl] ∧
  (sl = .slice none 0 0 ∨ ∃ blk off len cap, sl = .slice (some ⟨blk, off, none⟩) len cap ∧ blk < w.heap.size)

theorem step_cells : Tryz.prog.cellTypes Tryz.prog.depth 25 = some [22, 3, 3, 23] := by kernel_rfl
theorem step_size : Tryz.prog.cellsOf 25 = 4 := by kernel_rfl

theorem cell_int {w : World} {r : Reach} {base : Nat} {t : TypeId} {v : Value} (ht : Tryz.prog.underlying t = some (.int .i64)) (h : Cell.okWide Tryz.prog w r base t v) : ∃ n, v = .int .i64 n :=
  okWide_int ht (by simpa only [Value.okWide, ht] using h)

theorem step_form {w : World} {r : Reach} {base : Nat} {v : Value} (h : Value.okWide Tryz.prog w r base 25 v) : StepForm w v := by
  simp only [Value.okWide, Tryz.underlying25] at h
  obtain ⟨cs, rfl, hsz, ts, hts, _, hc⟩ := h
  rw [step_cells] at hts
  cases hts
  rw [step_size] at hsz
  obtain ⟨c0, c1, c2, c3, rfl⟩ := array4 hsz
  obtain ⟨u0, e0, h0⟩ := hc 0 c0 rfl
  obtain ⟨u1, e1, h1⟩ := hc 1 c1 rfl
  obtain ⟨u2, e2, h2⟩ := hc 2 c2 rfl
  obtain ⟨u3, e3, h3⟩ := hc 3 c3 rfl
  cases e0
  cases e1
  cases e2
  cases e3
  obtain ⟨a, rfl⟩ := cell_int Tryz.underlying22 h0
  obtain ⟨b, rfl⟩ := cell_int Tryz.underlying3 h1
  obtain ⟨c, rfl⟩ := cell_int Tryz.underlying3 h2
  refine ⟨a, b, c, c3, rfl, ?_⟩
  have h3' : Value.okWide Tryz.prog w r base 23 c3 := by simpa only [Value.okWide, Tryz.underlying23] using h3
  obtain ⟨x, len, cap, rfl⟩ := okWide_slice Tryz.underlying23 h3'
  cases x with
  | none =>
    left
    simp only [Cell.okWide, Tryz.underlying23, Cell.ok] at h3
    cases len <;> cases cap <;> first | rfl | exact h3.elim
  | some x =>
    right
    obtain ⟨blk, off, spot⟩ := x
    simp only [Cell.okWide, Tryz.underlying23, Cell.ok, World.has] at h3
    obtain ⟨_, _, _, hs, row, cells, hsh, _⟩ := h3
    subst hs
    refine ⟨blk, off, len, cap, rfl, ?_⟩
    unfold World.shape? at hsh
    cases hb : w.heap[blk]? with
    | none => rw [hb] at hsh; cases hsh
    | some o => exact (Array.getElem?_eq_some_iff.1 hb).1

theorem none_any (w : World) (v : Value) (n : Int) (hv : StepForm w v) : Calls Tryz.prog 3 #[v, .int .i64 n] w fun e w' => e = .returned (.bool true) ∧ Below w.heap.size w w' := by
  have ok := Rf.calls_ok env_cF 2003
  have leaf : ∀ k o, s0.obj k = some o → False := fun k o h => by simp [s0, Rf.AS.obj, Rf.Tr.get] at h
  obtain ⟨a, b, c, sl, rfl, rfl | ⟨blk, off, len, cap, rfl, hlt⟩⟩ := hv
  · obtain ⟨s', hs⟩ := Rf.isT_some (nil_true a b c n)
    refine ((ok _ _ _ _ _ hs).2 w.heap.size (fun _ => none) w _ ⟨Nat.le_refl _, fun _ _ h => by (cases h), fun _ _ h => by (cases h), fun k o h => (leaf k o h).elim, fun k _ o _ _ _ h => (leaf k o h).elim⟩
      (.cons _ _ _ _ (.agg _ _ (.cons _ _ _ _ (.int _ _) (.cons _ _ _ _ (.int _ _) (.cons _ _ _ _ (.int _ _) (.cons _ _ _ _ (.slice0 _ _) .nil))))) (.cons _ _ _ _ (.int _ _) .nil))).mono ?_
    rintro e w' ⟨u, ρ', rfl, hu, hn⟩
    cases hu
    exact ⟨rfl, hn.below⟩
  · obtain ⟨s', hs⟩ := Rf.isT_some (slice_true a b c n off len cap)
    refine ((ok _ _ _ _ _ hs).2 w.heap.size (fun k => if k = 0 then some ⟨blk, 0, 0, 1⟩ else none) w _ ⟨Nat.le_refl _, fun k t h => ?_, fun k t h => ?_, fun k o h => (leaf k o h).elim, fun k _ o _ _ _ h => (leaf k o h).elim⟩
      (.cons _ _ _ _ (.agg _ _ (.cons _ _ _ _ (.int _ _) (.cons _ _ _ _ (.int _ _) (.cons _ _ _ _ (.int _ _) (.cons _ _ _ _ (.slice 0 off len cap ⟨blk, 0, 0, 1⟩ cap rfl (.inl rfl)) .nil))))) (.cons _ _ _ _ (.int _ _) .nil))).mono ?_
    · split at h
      · rename_i e; subst e; exact Nat.zero_lt_one
      · cases h
    · split at h
      · cases h; exact hlt
      · cases h
    · rintro e w' ⟨u, ρ', rfl, hu, hn⟩
      cases hu
      exact ⟨rfl, hn.below⟩

theorem none_lifted (os : Os) (started : os.Started) (H : Type) (enc : TypeId × Value → H) :
    ReturnsInHanded {} Tryz.checked os 3 .any (Rows.serverNoneSpec.pre6 enc Tryz.prog Tryz.f3 Rows.serverNoneRow.domain false) (Rows.serverNoneSpec.post enc Tryz.prog Tryz.f3 false true false false) := by
  refine returnsInHanded_of_change (C := Tryz.checked) Tryz.own started (by kernel_rfl) Tryz.func3
    (ChangeSpec.witness6 (enc := enc) (C := Tryz.checked) false ⟨#[], #[.agg #[.int .i64 0, .int .i64 0, .int .i64 0, .slice none 0 0], .int .i64 0], []⟩ 8 (by kernel_rfl) (by kernel_rfl) (by kernel_rfl) (by kernel_rfl)) ?_
  intro W base args ds gs before hval0 hW hcnd _
  have hval : ∀ (j : Nat) t v, Tryz.f3.params[j]? = some t → args[j]? = some v → Value.okWide Tryz.prog W .any base t v := hval0
  have hW' := hW
  obtain ⟨p, q, hA0, hV, rfl, hfz, hnd⟩ := hW
  have hA : DataW.TrodAll enc Tryz.prog W 0 (fun _ => true) true Tryz.f3.params.toList args.toList ds p := hA0
  rw [Tryz.params3] at hA hval
  obtain ⟨v0, v1, d0, d1, p0, p1, rfl, rfl, rfl, h0, h1⟩ := trodAll_two hA
  obtain ⟨rfl, rfl⟩ := trodVars_none hV
  have h1k := h1
  obtain ⟨n, rfl, rfl, rfl, wn⟩ := open_int Tryz.underlying3 (hval 1 3 v1 rfl rfl) h1
  have hform := step_form (hval 0 25 v0 rfl rfl)
  clear hA0 hval0
  have hlt : ∀ x ∈ p0, x.block < W.heap.size := fun x hx => hW'.lt x (by simp [hx])
  refine (none_any W v0 n hform).mono fun e W' ⟨he, hb⟩ => ?_
  subst he
  exact ⟨_, rfl, post_of_below (pa := p0 ++ []) (pv := []) hW' (fun _ _ _ => trodAll_mk1 (shut_bool Tryz.underlying4 true))
    (fun sp hsp => trodAll_mk2 (WideElems.Trod_stays Tryz.laidOut (by kernel_rfl) (of_decide_eq_true (by kernel_rfl)) h0 (fun x hx => hb.same (hlt x hx)) (fun x hx => hsp x (by simp [hx]))) (shut_int Tryz.underlying3 wn)) (fun _ _ => rfl) rfl
    hb (ok_one (by kernel_rfl) rfl (okWide_bool_mk Tryz.underlying4 true))⟩

theorem none_holds : Rows.ServerNoneSaid :=
  OpenClaim.holds_of_wide 3 Tryz.f3 rfl rfl rfl rfl rfl rfl rfl ⟨rfl, rfl, rfl, rfl, rfl⟩ rfl rfl rfl rfl rfl (by kernel_rfl) Tryz.func3 facts3
    (of_decide_eq_true (by kernel_rfl)) (by unfold Func.isWrapper; first | (rw [if_pos (by decide +kernel)]; kernel_rfl) | (rw [if_neg (by decide +kernel)]; exact ⟨rfl, rfl⟩))
    (fun os started H enc _ => none_lifted os started H enc)

end Go.Proofs.YtldkpohfigaoiaaGreat
