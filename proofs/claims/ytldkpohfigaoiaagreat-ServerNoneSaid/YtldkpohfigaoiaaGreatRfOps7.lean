/- Each operation but a call, seventh part: maps and their iterators. -/
import Derived.Test.YtldkpohfigaoiaaGreatRfOps6
namespace Go.Rf
open Go Go.RowKit

section
variable {P : Program} {B : Nat} {ρ : Ren} {s s' : AS} {w : World} {r : Tr Value} {a : Act} {v : Value}

/-- The type of a key. -/
def KT.desc : KT → TypeDesc
  | .int k => .int k
  | .str => .string
  | .bl => .bool

theorem ktOk_of {t : TypeId} {kt : KT} (h : keyT P t = some kt) : P.underlying t = some kt.desc := by
  unfold keyT at h
  split at h
  · rename_i k hk; cases h; exact hk
  · rename_i hk; cases h; exact hk
  · rename_i hk; cases h; exact hk
  · cases h

theorem key_same {kt : KT} {k u : Value} (hk : keyOk kt k = true) (h : VRel ρ k u) : u = k := by
  cases kt <;> cases h <;> simp [keyOk] at hk <;> rfl

theorem isKey_of {kt : KT} {k : Value} (hk : keyOk kt k = true) : MapKept.IsKey kt.desc k := by
  cases kt <;> cases k <;> simp [keyOk] at hk <;> simp [KT.desc, MapKept.IsKey]
  exact kindEq_eq hk

theorem bytes_inj {x y : ByteArray} (h : bytesL x = bytesL y) : x = y := by
  apply ByteArray.ext
  exact Array.ext' h

theorem keyEq_run {kt : KT} {k x u : Value} {b : Bool} (hk : keyOk kt k = true) (hx : VRel ρ x u) (h : keyEq k x = some b) :
    u = x ∧ Instr.sameNow kt.desc k u = some b ∧ (b = true → x = k) := by
  unfold keyEq at h
  split at h
  · rename_i j p j2 q
    cases hx
    split at h
    · rename_i hj
      have := kindEq_eq hj
      subst this
      simp only [Option.some.injEq] at h
      cases kt <;> simp [keyOk] at hk
      rw [ieq_eq] at h
      refine ⟨rfl, by simp [Instr.sameNow, KT.desc, h], fun hb => ?_⟩
      subst hb
      have : p = q := by simpa using h
      rw [this]
    · cases h
  · rename_i p q
    cases hx
    simp only [Option.some.injEq] at h
    cases kt <;> simp [keyOk] at hk
    refine ⟨rfl, ?_, fun hb => ?_⟩
    · simp only [Instr.sameNow, KT.desc, Option.some.injEq]
      rw [← h, beqL_eq, beq_toListBytes, toList_bytesL, toList_bytesL]
    · subst hb
      rw [beqL_eq] at h
      have := bytes_inj (eq_of_beq h)
      rw [this]
  · rename_i p q
    cases hx
    simp only [Option.some.injEq] at h
    cases kt <;> simp [keyOk] at hk
    refine ⟨rfl, ?_, fun hb => ?_⟩
    · simp only [Instr.sameNow, KT.desc, Option.some.injEq]
      rw [← h]
      cases p <;> cases q <;> rfl
    · subst hb
      cases p <;> cases q <;> simp [notB] at h <;> rfl
  · cases h

theorem findK_rel {kt : KT} {k : Value} (hk : keyOk kt k = true) : ∀ {es fs : List MapEntry}, EsRel ρ es fs → ∀ {i : Nat} {q : Option (Nat × Value)}, findK k es i = some q →
    (q = none ∧ Instr.findNow kt.desc k fs i = some none) ∨ ∃ j x u e f, q = some (i + j, x) ∧ Instr.findNow kt.desc k fs i = some (some (i + j, u)) ∧ VRel ρ x u ∧ es[j]? = some e ∧ fs[j]? = some f ∧ e.key = k ∧ f.key = k ∧ e.val = x ∧ f.val = u ∧ f.born = e.born
  | _, _, .nil, i, q, h => by
    simp only [findK, Option.some.injEq] at h
    exact .inl ⟨h.symm, rfl⟩
  | _, _, .cons e f l m hkey hval hborn hlm, i, q, h => by
    simp only [findK] at h
    cases hq : keyEq k e.key with
    | none => simp [hq] at h
    | some b =>
      obtain ⟨h1, h2, h3⟩ := keyEq_run hk hkey hq
      cases b with
      | true =>
        simp only [hq, Option.some.injEq] at h
        have he := h3 rfl
        right
        exact ⟨0, e.val, f.val, e, f, h.symm, by simp [Instr.findNow, h2], hval, rfl, rfl, he, h1.trans he, rfl, rfl, hborn⟩
      | false =>
        simp only [hq] at h
        rcases findK_rel hk hlm h with ⟨a1, a2⟩ | ⟨j, x, u, e', f', a1, a2, a3, a4, a5, a6⟩
        · exact .inl ⟨a1, by simp [Instr.findNow, h2, a2]⟩
        · right
          refine ⟨j + 1, x, u, e', f', by rw [a1]; congr 2; omega, ?_, a3, by simpa using a4, by simpa using a5, a6⟩
          simp only [Instr.findNow, h2, a2]
          congr 3
          omega

theorem EsRel.get {l m : List MapEntry} (h : EsRel ρ l m) (i : Nat) {e : MapEntry} (he : l[i]? = some e) : ∃ f, m[i]? = some f ∧ VRel ρ e.key f.key ∧ VRel ρ e.val f.val ∧ f.born = e.born := by
  induction h generalizing i with
  | nil => simp at he
  | cons a b l m h1 h2 h3 _ ih =>
    cases i with
    | zero => simp at he; subst he; exact ⟨b, rfl, h1, h2, h3⟩
    | succ i => simpa using ih i (by simpa using he)

theorem EsRel.append {l m l' m' : List MapEntry} (h : EsRel ρ l m) (k : EsRel ρ l' m') : EsRel ρ (l ++ l') (m ++ m') := by
  induction h with
  | nil => exact k
  | cons a b l m h1 h2 h3 _ ih => exact .cons a b _ _ h1 h2 h3 ih

theorem setVal_rel {l m : List MapEntry} (h : EsRel ρ l m) (i : Nat) {k x u : Value} (hk : VRel ρ k k) (hx : VRel ρ x u) : EsRel ρ (setVal x k l i) (m.modify i fun e => { e with key := k, val := u }) := by
  induction h generalizing i with
  | nil => cases i <;> exact .nil
  | cons a b l m h1 h2 h3 hlm ih =>
    cases i with
    | zero => exact .cons _ _ _ _ hk hx h3 hlm
    | succ i => simpa [setVal] using EsRel.cons a b _ _ h1 h2 h3 (ih i)

theorem dropAt_rel {l m : List MapEntry} (h : EsRel ρ l m) (i : Nat) : EsRel ρ (dropAt l i) (m.eraseIdx i) := by
  induction h generalizing i with
  | nil => cases i <;> exact .nil
  | cons a b l m h1 h2 h3 hlm ih =>
    cases i with
    | zero => exact hlm
    | succ i => simpa [dropAt] using EsRel.cons a b _ _ h1 h2 h3 (ih i)

theorem bornAt_eq {l : List MapEntry} {i : Nat} {e : MapEntry} (h : l[i]? = some e) : bornAt l i = e.born := by
  induction l generalizing i with
  | nil => simp at h
  | cons x l ih =>
    cases i with
    | zero => simp at h; simp [bornAt, h]
    | succ i => simpa [bornAt] using ih (by simpa using h)

/-- A map written. -/
theorem Nx.map {n : Nat} {es es2 : List MapEntry} {c c2 : Nat} {fs2 : Array MapEntry} {tg : Tgt} (hR : Rel B ρ s w) (ho : s.obj n = some (.map es c)) (hn : ρ n = some tg) (he : EsRel ρ es2 fs2.toList) :
    Nx B ρ s w ρ (s.put n (.map es2 c2)) { w with heap := w.heap.setIfInBounds tg.blk (.map fs2 c2) } := by
  obtain ⟨fs, h1, h2, h3⟩ := hR.map ho hn
  exact Nx.put (o' := .map fs2 c2) hR ho hn rfl rfl rfl rfl ⟨h2, rfl, he⟩

theorem run_setMap {r : Nat} {es es2 : Array MapEntry} {c c2 : Nat} (h : w.heap[r]? = some (.map es c)) : (setObj r (.map es2 c2)).run P w = .ok () { w with heap := w.heap.setIfInBounds r (.map es2 c2) } := MapKept.run_setObj_map _ h

theorem g_mlook {m k m' k' z : Value} {t kt et : TypeId} {n : KT} {ok : Bool} (hR : Rel B ρ s w) (hm : VRel ρ m m') (hk : VRel ρ k k') (hu : P.underlying t = some (.map kt et)) (hkt : keyT P kt = some n) (hz : zeroT P et = some z)
    (h : mlookV s n z ok m k = some (v, s')) : Quiet P ρ s w (do pure (Next.value (← Instr.lookup t m' k' ok))) v s' := by
  unfold mlookV at h
  split at h
  · rename_i hko
    have hd := ktOk_of hkt
    obtain rfl := key_same hko hk
    have hik := isKey_of hko
    obtain ⟨hz1, hz2⟩ := zeroT_some (w := w) hz
    split at h
    · rename_i es hes
      -- the entries, as the model sees them
      have hent : ∃ fs : Array MapEntry, EsRel ρ es fs.toList ∧ ∀ (K : Array MapEntry → Sem Value), (do
          let es ← match m' with
            | .map none => pure #[]
            | .map (some r) => do
              let .map es _ ← getObj r | stuck "Lookup: map expected"
              pure es
            | _ => stuck "Lookup: map expected"
          K es : Sem Value).run P w = (K fs).run P w := by
        unfold entriesV at hes
        split at hes
        · cases hes
          cases hm
          exact ⟨#[], .nil, fun K => by simp⟩
        · rename_i b
          split at hes
          · rename_i es' c ho
            cases hes
            cases hm with
            | map _ tg hn =>
              obtain ⟨fs, b1, b2, b3⟩ := hR.map ho hn
              exact ⟨fs, b3, fun K => by simp [MapKept.run_getObj_map b1]⟩
          · cases hes
        · cases hes
      obtain ⟨fs, f1, f2⟩ := hent
      have fin : ∀ (x u : Value) (found : Bool), (match found with | true => ∃ j, Instr.findNow n.desc k' fs.toList 0 = some (some (j, u)) | false => Instr.findNow n.desc k' fs.toList 0 = some none ∧ u = z) → VRel ρ x u →
          Quiet P ρ s w (do pure (Next.value (← Instr.lookup t m' k' ok))) (okV ok found x) s := by
        intro x u found hf hxu
        have hrun : (Instr.lookup t m' k' ok).run P w = .ok (okV ok found u) w := by
          unfold Instr.lookup
          rw [Sem.run_bind, run_und hu, Result.andThen_ok]
          simp only []
          refine (f2 _).trans ?_
          rw [Sem.run_bind, MapKept.run_checkKey hd hik _ 9999, Result.andThen_ok, Sem.run_bind]
          cases found with
          | true =>
            obtain ⟨j, hf⟩ := hf
            rw [MapKept.run_findKey hd hf]
            simp only [Result.andThen_ok, Sem.run_pure]
            cases ok <;> rfl
          | false =>
            obtain ⟨hf, rfl⟩ := hf
            rw [MapKept.run_findKey hd hf]
            simp only [Result.andThen_ok, Sem.run_pure, Sem.run_bind, hz1]
            cases ok <;> rfl
        refine .here hR (run_v hrun) ?_
        cases ok with
        | true => exact .tuple _ _ (.cons _ _ _ _ hxu (.cons _ _ _ _ (.bool _) .nil))
        | false => exact hxu
      cases hfk : findK k' es 0 with
      | none => simp [hfk] at h
      | some q =>
        rcases findK_rel hko f1 hfk with ⟨rfl, a2⟩ | ⟨j, x, u, e, f, rfl, a2, a3, _⟩
        · simp only [hfk, Option.some.injEq, Prod.mk.injEq] at h
          obtain ⟨rfl, rfl⟩ := h
          exact fin z z false ⟨a2, rfl⟩ (pure_rel _ _ _ hz2)
        · simp only [hfk, Option.some.injEq, Prod.mk.injEq] at h
          obtain ⟨rfl, rfl⟩ := h
          exact fin x u true ⟨_, a2⟩ a3
    · cases h
  · cases h

theorem g_mupd {m k x m' k' u : Value} {t kt et : TypeId} {n : KT} (hR : Rel B ρ s w) (hm : VRel ρ m m') (hk : VRel ρ k k') (hx : VRel ρ x u) (hu : P.underlying t = some (.map kt et)) (hkt : keyT P kt = some n)
    (h : mupdV s n m k x = some (v, s')) : Gives P B ρ s w (do Instr.mapUpdate t m' k' u; pure Next.skip) v s' := by
  unfold mupdV at h
  split at h
  · rename_i hko
    have hd := ktOk_of hkt
    obtain rfl := key_same hko hk
    have hik := isKey_of hko
    split at h
    · rename_i b
      split at h
      · rename_i es c hmo
        have ho := mapOf_some hmo
        cases hm with
        | map _ tg hn =>
          obtain ⟨fs, b1, b2, b3⟩ := hR.map ho hn
          cases hfk : findK k' es 0 with
          | none => simp [hfk] at h
          | some q =>
            rcases findK_rel hko b3 hfk with ⟨rfl, a2⟩ | ⟨j, x0, u0, e, f, rfl, a2, a3, a4, a5, a6, a7, _⟩
            · simp only [hfk, Option.some.injEq, Prod.mk.injEq] at h
              obtain ⟨rfl, rfl⟩ := h
              have hrun : (Instr.mapUpdate t (.map (some tg.blk)) k' u).run P w = .ok () { w with heap := w.heap.setIfInBounds tg.blk (.map (fs.push { key := k', val := u, born := c }) (c + 1)) } := by
                simp [Instr.mapUpdate, run_und hu, MapKept.run_getObj_map b1, MapKept.run_checkKey hd hik, MapKept.run_findKey hd a2, run_setMap b1]
              refine ⟨ρ, undef, _, .skip, run_u hrun, .inr ⟨rfl, rfl⟩, undef_rel _, Nx.map hR ho hn ?_⟩
              rw [app_eq, Array.toList_push]
              exact b3.append (.cons _ _ _ _ hk hx rfl .nil)
            · simp only [hfk, Option.some.injEq, Prod.mk.injEq] at h
              obtain ⟨rfl, rfl⟩ := h
              rw [Nat.zero_add] at a2
              have hf : fs[j]? = some f := by simpa using a5
              have hrun : (Instr.mapUpdate t (.map (some tg.blk)) k' u).run P w = .ok () { w with heap := w.heap.setIfInBounds tg.blk (.map (fs.modify j fun e => { e with key := k', val := u }) c) } := by
                simp [Instr.mapUpdate, run_und hu, MapKept.run_getObj_map b1, MapKept.run_checkKey hd hik, MapKept.run_findKey hd a2, hf, a7, MapKept.run_keyThatStays hik, run_setMap b1]
              refine ⟨ρ, undef, _, .skip, run_u hrun, .inr ⟨rfl, rfl⟩, undef_rel _, Nx.map hR ho hn ?_⟩
              rw [Array.toList_modify, Nat.zero_add]
              exact setVal_rel b3 j hk hx
      · cases h
    · cases h
  · cases h

theorem g_mdel {m k m' k' : Value} {t kt et : TypeId} {n : KT} {as : Array TypeId} {ty : TypeId} (hR : Rel B ρ s w) (hm : VRel ρ m m') (hk : VRel ρ k k') (has : as[0]? = some t) (hu : P.underlying t = some (.map kt et)) (hkt : keyT P kt = some n)
    (h : mdelV s n m k = some (v, s')) : Gives P B ρ s w (do pure (Next.value (← Builtin.delete_ as ty #[m', k']))) v s' := by
  unfold mdelV at h
  split at h
  · rename_i hko
    have hd := ktOk_of hkt
    obtain rfl := key_same hko hk
    have hik := isKey_of hko
    split at h
    · cases h
      cases hm
      exact .here hR (run_v (u := .tuple #[]) (by simp [Builtin.delete_, has, run_und hu, MapKept.run_checkKey hd hik])) (undef_rel _)
    · rename_i b
      split at h
      · rename_i es c hmo
        have ho := mapOf_some hmo
        cases hm with
        | map _ tg hn =>
          obtain ⟨fs, b1, b2, b3⟩ := hR.map ho hn
          cases hfk : findK k' es 0 with
          | none => simp [hfk] at h
          | some q =>
            rcases findK_rel hko b3 hfk with ⟨rfl, a2⟩ | ⟨j, x0, u0, e, f, rfl, a2, a3, a4, a5, a6, a7, _⟩
            · simp only [hfk, Option.some.injEq, Prod.mk.injEq] at h
              obtain ⟨rfl, rfl⟩ := h
              have hrun : (Builtin.delete_ as ty #[.map (some tg.blk), k']).run P w = .ok (.tuple #[]) { w with heap := w.heap.setIfInBounds tg.blk (.map fs c) } := by
                simp [Builtin.delete_, has, run_und hu, MapKept.run_getObj_map b1, MapKept.run_checkKey hd hik, MapKept.run_findKey hd a2, run_setMap b1]
              exact ⟨ρ, _, _, _, run_v hrun, .inl rfl, undef_rel _, Nx.map hR ho hn b3⟩
            · simp only [hfk, Option.some.injEq, Prod.mk.injEq] at h
              obtain ⟨rfl, rfl⟩ := h
              rw [Nat.zero_add] at a2
              have hf : fs[j]? = some f := by simpa using a5
              have hrun : (Builtin.delete_ as ty #[.map (some tg.blk), k']).run P w = .ok (.tuple #[]) { w with heap := w.heap.setIfInBounds tg.blk (.map (fs.eraseIdxIfInBounds j) c) } := by
                simp [Builtin.delete_, has, run_und hu, MapKept.run_getObj_map b1, MapKept.run_checkKey hd hik, MapKept.run_findKey hd a2, run_setMap b1]
              refine ⟨ρ, _, _, _, run_v hrun, .inl rfl, undef_rel _, Nx.map hR ho hn ?_⟩
              have hlt : j < fs.size := (Array.getElem?_eq_some_iff.1 hf).1
              rw [Nat.zero_add]
              have he : (fs.eraseIdxIfInBounds j).toList = fs.toList.eraseIdx j := by simp [Array.eraseIdxIfInBounds, hlt]
              rw [he]
              exact dropAt_rel b3 j
      · cases h
    · cases h
  · cases h

theorem g_ment {m k m' k' z : Value} {t kt et : TypeId} {n : KT} (hR : Rel B ρ s w) (hm : VRel ρ m m') (hk : VRel ρ k k') (hu : P.underlying t = some (.map kt et)) (hkt : keyT P kt = some n) (hz : zeroT P et = some z)
    (h : mentV s n z m k = some (v, s')) : Gives P B ρ s w (do pure (Next.value (← Instr.mapEntry t m' k'))) v s' := by
  unfold mentV at h
  split at h
  · rename_i hko
    have hd := ktOk_of hkt
    obtain rfl := key_same hko hk
    have hik := isKey_of hko
    obtain ⟨hz1, hz2⟩ := zeroT_some (w := w) hz
    split at h
    · rename_i b
      split at h
      · rename_i es c hmo
        have ho := mapOf_some hmo
        cases hm with
        | map _ tg hn =>
          obtain ⟨fs, b1, b2, b3⟩ := hR.map ho hn
          cases hfk : findK k' es 0 with
          | none => simp [hfk] at h
          | some q =>
            rcases findK_rel hko b3 hfk with ⟨rfl, a2⟩ | ⟨j, x0, u0, e, f, rfl, a2, a3, a4, a5, a6, a7, a8, a9, a10⟩
            · simp only [hfk, Option.some.injEq, Prod.mk.injEq] at h
              obtain ⟨rfl, rfl⟩ := h
              have hrun : (Instr.mapEntry t (.map (some tg.blk)) k').run P w = .ok (.tuple #[z, goInt c]) { w with heap := w.heap.setIfInBounds tg.blk (.map (fs.push { key := k', val := z, born := c }) (c + 1)) } := by
                simp [Instr.mapEntry, run_und hu, MapKept.run_getObj_map b1, MapKept.run_checkKey hd hik, MapKept.run_findKey hd a2, hz1, run_setMap b1]
              refine ⟨ρ, _, _, _, run_v hrun, .inl rfl, .tuple _ _ (.cons _ _ _ _ (pure_rel _ _ _ hz2) (.cons _ _ _ _ (.int _ _) .nil)), Nx.map hR ho hn ?_⟩
              rw [app_eq, Array.toList_push]
              exact b3.append (.cons _ _ _ _ hk (pure_rel _ _ _ hz2) rfl .nil)
            · simp only [hfk, Option.some.injEq, Prod.mk.injEq] at h
              obtain ⟨rfl, rfl⟩ := h
              rw [Nat.zero_add] at a2
              have hf : fs[j]? = some f := by simpa using a5
              have hrun : (Instr.mapEntry t (.map (some tg.blk)) k').run P w = .ok (.tuple #[u0, goInt f.born]) { w with heap := w.heap.setIfInBounds tg.blk (.map (fs.modify j fun e => { e with key := k' }) c) } := by
                simp [Instr.mapEntry, run_und hu, MapKept.run_getObj_map b1, MapKept.run_checkKey hd hik, MapKept.run_findKey hd a2, hf, a7, MapKept.run_keyThatStays hik, run_setMap b1]
              refine ⟨ρ, _, _, _, run_v hrun, .inl rfl, .tuple _ _ (.cons _ _ _ _ a3 (.cons _ _ _ _ ?_ .nil)), Nx.map hR ho hn ?_⟩
              · rw [Nat.zero_add, bornAt_eq a4, a10]
                exact .int _ _
              · rw [Array.toList_modify, Nat.zero_add]
                have e1 : (fs.toList.modify j fun e => { e with key := k' }) = fs.toList.modify j fun e => { e with key := k', val := u0 } := by
                  apply List.ext_getElem?
                  intro i
                  rw [List.getElem?_modify, List.getElem?_modify]
                  by_cases hij : j = i
                  · subst hij
                    rw [a5]
                    simp [a9]
                  · simp [hij]
                rw [e1]
                exact setVal_rel b3 j hk a3
      · cases h
    · cases h
  · cases h

theorem setBorn_rel {l m l2 : List MapEntry} {x u : Value} {b : Nat} (h : EsRel ρ l m) (hx : VRel ρ x u) (hs : setBorn x b l = some l2) : ∃ i, m.findIdx? (fun e => (e.born : Int) == (b : Int)) = some i ∧ EsRel ρ l2 (m.modify i fun e => { e with val := u }) := by
  induction h generalizing l2 with
  | nil => simp [setBorn] at hs
  | cons e f l m h1 h2 h3 hlm ih =>
    simp only [setBorn] at hs
    split at hs
    · rename_i hb
      cases hs
      have hb : e.born = b := Nat.eq_of_beq_eq_true hb
      refine ⟨0, by simp [List.findIdx?_cons, h3, hb], ?_⟩
      exact .cons _ _ _ _ h1 hx h3 hlm
    · rename_i hb
      split at hs
      · rename_i r hr
        cases hs
        obtain ⟨i, g1, g2⟩ := ih hr
        have hb : e.born ≠ b := by intro e'; rw [e'] at hb; simp at hb
        refine ⟨i + 1, ?_, ?_⟩
        · have : ((f.born : Int) == (b : Int)) = false := by rw [h3]; simp; omega
          simp [List.findIdx?_cons, this, g1]
        · simpa using EsRel.cons e f _ _ h1 h2 h3 g2
      · cases hs

theorem g_mest {m b x m' b' u : Value} {t : TypeId} (hR : Rel B ρ s w) (hm : VRel ρ m m') (hb : VRel ρ b b') (hx : VRel ρ x u)
    (h : mestV s m b x = some (v, s')) : Gives P B ρ s w (do Instr.entryStore t m' b' u; pure Next.skip) v s' := by
  unfold mestV at h
  split at h
  · rename_i n ik q
    split at h
    · rename_i es c hmo
      have ho := mapOf_some hmo
      split at h
      · rename_i es2 hs
        cases h
        cases hm with
        | map _ tg hn =>
          cases hb
          obtain ⟨fs, b1, b2, b3⟩ := hR.map ho hn
          obtain ⟨i, g1, g2⟩ := setBorn_rel b3 hx hs
          have g1' : fs.findIdx? (fun e => (e.born : Int) == ((Int.ofNat q))) = some i := by
            have e0 : fs = fs.toList.toArray := by simp
            rw [e0, List.findIdx?_toArray]
            exact g1
          have hrun : (Instr.entryStore t (.map (some tg.blk)) (.int ik (Int.ofNat q)) u).run P w = .ok () { w with heap := w.heap.setIfInBounds tg.blk (.map (fs.modify i fun e => { e with val := u }) c) } := by
            simp only [Instr.entryStore, Sem.run_bind, MapKept.run_getObj_map b1, Result.andThen_ok, asInt, asIntOf, Sem.run_pure, g1', run_setMap b1]
          refine ⟨ρ, undef, _, .skip, run_u hrun, .inr ⟨rfl, rfl⟩, undef_rel _, Nx.map hR ho hn ?_⟩
          rw [Array.toList_modify]
          exact g2
      · cases h
    · cases h
  · cases h

/-! Iterators. -/
theorem g_rangem {x u : Value} {t kt et : TypeId} (hR : Rel B ρ s w) (hx : VRel ρ x u) (hu : P.underlying t = some (.map kt et)) (h : rangemV s x = some (v, s')) :
    Gives P B ρ s w (do pure (Next.value (← Instr.range t u))) v s' := by
  unfold rangemV at h
  split at h
  · obtain ⟨hroom, rfl, rfl⟩ := mk_some h
    cases hx
    have hrun : (Instr.range t (.map none)).run P w = .ok (.pointer (some ⟨w.heap.size, 0, none⟩)) (w.alloc (.mapIter none 0 #[] 0)) := by simp [Instr.range, run_und hu]
    refine ⟨_, _, _, _, run_v hrun, .inl rfl, ?_, Nx.new (t := ⟨w.heap.size, 0, 0, 0⟩) (o' := .mapIter none 0 #[] 0) hR hroom rfl rfl rfl rfl rfl ⟨rfl, trivial, rfl, rfl, rfl⟩⟩
    have := VRel.ptr (ρ := bind1 ρ s.next ⟨w.heap.size, 0, 0, 0⟩) s.next 0 _ (bind1_same _ _ _)
    simpa using this
  · rename_i m
    split at h
    · rename_i es c hmo
      have ho := mapOf_some hmo
      obtain ⟨hroom, rfl, rfl⟩ := mk_some h
      cases hx with
      | map _ tg hn =>
        obtain ⟨fs, b1, b2, b3⟩ := hR.map ho hn
        have hrun : (Instr.range t (.map (some tg.blk))).run P w = .ok (.pointer (some ⟨w.heap.size, 0, none⟩)) (w.alloc (.mapIter (some tg.blk) c #[] c)) := by simp [Instr.range, run_und hu, MapKept.run_getObj_map b1]
        refine ⟨_, _, _, _, run_v hrun, .inl rfl, ?_, Nx.new (t := ⟨w.heap.size, 0, 0, 0⟩) (o' := .mapIter (some tg.blk) c #[] c) hR hroom rfl rfl rfl rfl rfl ⟨rfl, ⟨tg, hR.ext1 _ _ _ hn, rfl⟩, rfl, rfl, rfl⟩⟩
        have := VRel.ptr (ρ := bind1 ρ s.next ⟨w.heap.size, 0, 0, 0⟩) s.next 0 _ (bind1_same _ _ _)
        simpa using this
    · cases h
  · cases h

theorem Rel.iter (hR : Rel B ρ s w) {n since st : Nat} {m : Option Nat} {seen : List Nat} {t : Tgt} (ho : s.obj n = some (.miter m since seen st)) (ht : ρ n = some t) :
    ∃ m' seen', w.heap[t.blk]? = some (.mapIter m' since seen' st) ∧ t.sh = 0 ∧ MRel ρ m m' ∧ seen'.toList = seen := by
  obtain ⟨o', a, b⟩ := hR.at ho ht
  cases o' <;> simp only [ORel] at b
  obtain ⟨h1, h2, rfl, h3, rfl⟩ := b
  exact ⟨_, _, a, h1, h2, h3⟩

theorem isSeen_eq (b : Nat) : ∀ (l : List Nat), isSeen b l = l.contains b
  | [] => rfl
  | x :: l => by
    simp only [isSeen, isSeen_eq b l, List.contains_cons]
    by_cases h : b = x
    · subst h; simp
    · have : Nat.beq b x = false := by cases hb : Nat.beq b x with
        | true => exact absurd (Nat.eq_of_beq_eq_true hb) h
        | false => rfl
      simp [this, h]

theorem unseen_rel {seen : List Nat} {l m : List MapEntry} (h : EsRel ρ l m) : EsRel ρ (unseen seen l) (m.filter fun e => !seen.contains e.born) := by
  induction h with
  | nil => exact .nil
  | cons e f l m h1 h2 h3 hlm ih =>
    simp only [unseen, isSeen_eq, List.filter_cons, h3]
    cases seen.contains e.born with
    | true => simpa using ih
    | false => simpa using EsRel.cons e f _ _ h1 h2 h3 ih

theorem run_getIter {n since st : Nat} {m : Option Nat} {seen : Array Nat} (h : w.heap[n]? = some (.mapIter m since seen st)) : (getObj n).run P w = .ok (.mapIter m since seen st) w := by
  simp [getObj, Sem.run, h]

theorem run_setIter {n since st : Nat} {m : Option Nat} {seen : Array Nat} (o : Obj) (h : w.heap[n]? = some (.mapIter m since seen st)) : (setObj n o).run P w = .ok () { w with heap := w.heap.setIfInBounds n o } := by
  simp [setObj, Sem.run, h]

theorem g_nextm {x u : Value} {ty : TypeId} (hR : Rel B ρ s w) (hx : VRel ρ x u) (h : nextmV s x = some (v, s')) : Gives P B ρ s w (do pure (Next.value (← Instr.next u false ty))) v s' := by
  unfold nextmV at h
  split at h
  · rename_i n
    split at h
    · rename_i since seen st ho
      cases h
      cases hx with
      | ptr _ _ tg hn =>
        obtain ⟨m', seen', b1, b2, b3, b4⟩ := hR.iter ho hn
        cases m' with
        | some _ => exact b3.elim
        | none =>
          refine .here hR (run_v (u := .tuple #[.bool false]) ?_) (.tuple _ _ (.cons _ _ _ _ (.bool _) .nil))
          rw [b2]
          simp [Instr.next, run_getIter b1]
    · rename_i m since seen st ho
      split at h
      · rename_i es c hmo
        have hm := mapOf_some hmo
        split at h
        · rename_i hc1
          split at h
          · rename_i hc2
            split at h
            · rename_i hold
              have hc1 : c = since := Nat.eq_of_beq_eq_true hc1
              have hc2 : st = since := Nat.eq_of_beq_eq_true hc2
              subst hc1 hc2
              cases hx with
              | ptr _ _ tg hn =>
                obtain ⟨m', seen', b1, b2, b3, b4⟩ := hR.iter ho hn
                cases m' with
                | none => exact b3.elim
                | some k =>
                  obtain ⟨tm, t1, t2⟩ := b3
                  subst t2
                  obtain ⟨fs, d1, d2, d3⟩ := hR.map hm t1
                  have hcond : (!seen'.isEmpty && !fs.isEmpty && fs.all (·.born ≥ st)) = false := by
                    cases es with
                    | nil =>
                      have : fs.toList = [] := by cases hfs : fs.toList with
                        | nil => rfl
                        | cons _ _ => rw [hfs] at d3; cases d3
                      have : fs = #[] := Array.ext' this
                      simp [this]
                    | cons e es =>
                      cases hfs : fs.toList with
                      | nil => rw [hfs] at d3; cases d3
                      | cons f fl =>
                        rw [hfs] at d3
                        cases d3 with
                        | cons _ _ _ _ q1 q2 q3 q4 =>
                          simp only [oldOk] at hold
                          rw [blt_dec] at hold
                          have hlt : e.born < st := by simpa using hold
                          have : fs.all (·.born ≥ st) = false := by
                            rw [← Array.all_toList, hfs]
                            simp [q3]
                            omega
                          simp [this]
                  have hleft := unseen_rel (seen := seen) d3
                  have hfl : (fs.filter fun e => !seen'.contains e.born).toList = fs.toList.filter fun e => !seen.contains e.born := by
                    rw [Array.toList_filter]
                    congr 1
                    funext e
                    rw [← b4]
                    simp
                  split at h
                  · rename_i hun
                    cases h
                    rw [hun] at hleft
                    have hnil : (fs.filter fun e => !seen'.contains e.born) = #[] := by
                      apply Array.ext'
                      rw [hfl]
                      cases hh : fs.toList.filter fun e => !seen.contains e.born with
                      | nil => rfl
                      | cons _ _ => rw [hh] at hleft; cases hleft
                    refine .here hR (run_v (u := .tuple #[.bool false]) ?_) (.tuple _ _ (.cons _ _ _ _ (.bool _) .nil))
                    rw [b2]
                    simp only [Instr.next, Nat.zero_add, Sem.run_bind, run_getIter b1, Result.andThen_ok, MapKept.run_getObj_map d1]
                    rw [hcond]
                    simp only [Bool.false_eq_true, if_false, hnil]
                    simp [choose, Sem.run, Question.forced]
                  · rename_i e hun
                    split at h
                    · rename_i hborn
                      cases h
                      rw [blt_dec] at hborn
                      have hborn : e.born < st := by simpa using hborn
                      rw [hun] at hleft
                      cases hh : fs.toList.filter fun e => !seen.contains e.born with
                      | nil => rw [hh] at hleft; cases hleft
                      | cons f fl =>
                        rw [hh] at hleft
                        cases hleft with
                        | cons _ _ _ _ q1 q2 q3 q4 =>
                          cases q4
                          have hone : (fs.filter fun e => !seen'.contains e.born) = #[f] := by
                            apply Array.ext'
                            rw [hfl, hh]
                          have hfb : f.born < st := by omega
                          have hrun : (Instr.next (.pointer (some ⟨tg.blk, 0 + tg.sh, none⟩)) false ty).run P w = .ok (.tuple #[.bool true, f.key, f.val]) { w with heap := w.heap.setIfInBounds tg.blk (.mapIter (some tm.blk) st (seen'.push f.born) st) } := by
                            rw [b2]
                            simp only [Instr.next, Nat.zero_add, Sem.run_bind, run_getIter b1, Result.andThen_ok, MapKept.run_getObj_map d1]
                            rw [hcond]
                            simp only [Bool.false_eq_true, if_false, hone]
                            have e1 : (#[f] : Array MapEntry).filter (fun x => decide (x.born < st)) = #[f] := by simp [hfb]
                            have e2 : (#[f] : Array MapEntry).filter (fun x => decide (x.born ≥ st)) = #[] := by simp; omega
                            rw [e1, e2]
                            simp [choose, Sem.run, Question.forced]
                            have := run_setIter (P := P) (.mapIter (some tm.blk) st (seen'.push f.born) st) b1
                            rw [this]
                            simp
                          refine ⟨ρ, _, _, _, run_v hrun, .inl rfl, .tuple _ _ (.cons _ _ _ _ (.bool _) (.cons _ _ _ _ q1 (.cons _ _ _ _ q2 .nil))), ?_⟩
                          exact Nx.put (o' := .mapIter (some tm.blk) st (seen'.push f.born) st) hR ho hn rfl rfl rfl rfl ⟨b2, ⟨tm, t1, rfl⟩, rfl, by rw [app_eq, Array.toList_push, b4, q3], rfl⟩
                    · cases h
                  · cases h
            · cases h
          · cases h
        · cases h
      · cases h
    · cases h
  · cases h

theorem lastN_eq : ∀ {l : List Nat} {b : Nat}, lastN l = some b → l.getLast? = some b
  | [], b, h => by simp [lastN] at h
  | [x], b, h => by simpa [lastN] using h
  | _ :: y :: l, b, h => by
    simp only [lastN] at h
    have := lastN_eq h
    simpa [List.getLast?_cons_cons] using this

theorem entryOf_rel {b : Nat} {l m : List MapEntry} {e : MapEntry} (h : EsRel ρ l m) (he : entryOf b l = some e) : ∃ f, m.find? (·.born == b) = some f ∧ VRel ρ e.key f.key ∧ VRel ρ e.val f.val := by
  induction h with
  | nil => simp [entryOf] at he
  | cons x y l m h1 h2 h3 hlm ih =>
    simp only [entryOf] at he
    split at he
    · rename_i hb
      cases he
      have hb : e.born = b := Nat.eq_of_beq_eq_true hb
      exact ⟨y, by simp [List.find?_cons, h3, hb], h1, h2⟩
    · rename_i hb
      obtain ⟨f, g1, g2⟩ := ih he
      have hb : x.born ≠ b := by intro e'; rw [e'] at hb; simp at hb
      exact ⟨f, by simp [List.find?_cons, h3, hb, g1], g2⟩

theorem g_ent {x u : Value} (hR : Rel B ρ s w) (hx : VRel ρ x u) (h : entV s x = some (v, s')) : Quiet P ρ s w (do pure (Next.value (← Instr.entry u))) v s' := by
  unfold entV at h
  split at h
  · rename_i n
    split at h
    · rename_i m since seen st ho
      split at h
      · rename_i b hl
        split at h
        · rename_i es c hmo
          have hm := mapOf_some hmo
          split at h
          · rename_i hc
            have hc : c = st := Nat.eq_of_beq_eq_true hc
            subst hc
            split at h
            · rename_i e he
              cases h
              cases hx with
              | ptr _ _ tg hn =>
                obtain ⟨m', seen', b1, b2, b3, b4⟩ := hR.iter ho hn
                cases m' with
                | none => exact b3.elim
                | some k =>
                  obtain ⟨tm, t1, t2⟩ := b3
                  subst t2
                  obtain ⟨fs, d1, d2, d3⟩ := hR.map hm t1
                  obtain ⟨f, q1, q2, q3⟩ := entryOf_rel d3 he
                  have hback : seen'.back? = some b := by
                    have := lastN_eq hl
                    rw [← b4] at this
                    rw [← Array.getLast?_toList]
                    exact this
                  have hfind : fs.find? (·.born == b) = some f := by rw [← Array.find?_toList]; exact q1
                  refine .here hR (run_v (u := .tuple #[f.key, f.val]) ?_) (.tuple _ _ (.cons _ _ _ _ q2 (.cons _ _ _ _ q3 .nil)))
                  rw [b2]
                  simp [Instr.entry, run_getIter b1, MapKept.run_getObj_map d1, hback, hfind]
            · cases h
          · cases h
        · cases h
      · cases h
    · cases h
  · cases h

end
end Go.Rf
