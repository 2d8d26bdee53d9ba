/- Each operation but a call, sixth part: conversions, making, maps. -/
import Derived.Test.YtldkpohfigaoiaaGreatRfOps5
import Derived.MapKept
namespace Go.Rf
open Go Go.RowKit

section
variable {P : Program} {B : Nat} {ρ : Ren} {s s' : AS} {w : World} {r : Tr Value} {a : Act} {v : Value}

theorem ret_some {o : Option Value} (h : ret s o = some (v, s')) : o = some v ∧ s' = s := by
  unfold ret at h
  split at h
  · cases h; exact ⟨rfl, rfl⟩
  · cases h

theorem binV_rel {op : BinOp} {ty ty2 : TypeId} {d : EqD} {X Y : Operand} {x y x' y' : Value} (hR : Rel B ρ s w) (hx : VRel ρ x x') (hy : VRel ρ y y') (h : binV s op d x y = some v)
    (hd : (op = .eql ∨ op = .neq) → eqD P 20 ty = some d ∧ P.eqGuardType P.depth ty = false) :
    Quiet P ρ s w (do pure (Next.value (← (do eqGuard op ty X Y x' y'; binOp op ty x' y' : Sem Value)))) v s := by
  have _ := ty2
  have guard0 : ∀ (x' y' : Value), (∀ c, x' ≠ .agg c) → x' ≠ .nilIface → (eqGuard op ty X Y x' y').run P w = .ok () w := by
    intro x' y' h1 h2
    unfold eqGuard
    cases op <;> simp <;> cases x' <;> cases y' <;> simp_all
  unfold binV at h
  split at h
  · rename_i k p j q
    cases hx
    cases hy
    have hg := guard0 (.int k p) (.int j q) (by intro c; simp) (by simp)
    split at h
    · exact .here hR (run_v (by simp only [Sem.run_bind, hg, Result.andThen_ok]; exact shiftI_run ty (.inl rfl) h)) (shiftI_rel h)
    · exact .here hR (run_v (by simp only [Sem.run_bind, hg, Result.andThen_ok]; exact shiftI_run ty (.inr rfl) h)) (shiftI_rel h)
    · split at h
      · rename_i hk
        have := kindEq_eq hk
        subst this
        exact .here hR (run_v (by simp only [Sem.run_bind, hg, Result.andThen_ok]; exact binI_run ty h)) (binI_rel h)
      · cases h
  · rename_i p q
    cases hx
    cases hy
    have hg := guard0 (.string p) (.string q) (by intro c; simp) (by simp)
    exact .here hR (run_v (by simp only [Sem.run_bind, hg, Result.andThen_ok]; exact binS_run ty h)) (binS_rel h)
  · rename_i hni hns
    have key : ∀ (neg : Bool) (b : Bool), op = (if neg then .neq else .eql) → eqV s 20 d x y = some b → v = .bool (if neg then notB b else b) → Quiet P ρ s w (do pure (Next.value (← (do eqGuard op ty X Y x' y'; binOp op ty x' y' : Sem Value)))) v s := by
      intro neg b ho he hv
      obtain ⟨h1, h2⟩ := hd (by cases neg <;> simp [ho])
      have hrun := eq_rel (P := P) hR 20 ty d h1 20 Op.maxDepth x y x' y' b hx hy he (by decide)
      have hg : (eqGuard op ty X Y x' y').run P w = .ok () w := by
        unfold eqGuard
        subst ho
        cases hx <;> cases hy <;> first
          | (cases neg <;> simp; done)
          | (exfalso; simp only [eqV] at he; cases d <;> simp at he; done)
          | (cases neg <;> simp [h2]; done)
      have hb : (binOp op ty x' y').run P w = .ok v w := by
        subst hv ho
        have hi : ∀ k n j m, ¬ (x' = .int k n ∧ y' = .int j m) := by
          rintro k n j m ⟨rfl, rfl⟩
          cases hx; cases hy
          exact hni _ _ _ _ rfl rfl
        have hs : ∀ p q, ¬ (x' = .string p ∧ y' = .string q) := by
          rintro p q ⟨rfl, rfl⟩
          cases hx; cases hy
          exact hns _ _ rfl rfl
        have hr' : (Op.equal ty x' y').run P w = .ok b w := hrun
        cases hx <;> cases hy <;> first
          | (exfalso; exact hi _ _ _ _ ⟨rfl, rfl⟩)
          | (exfalso; exact hs _ _ ⟨rfl, rfl⟩)
          | (cases neg <;> simp [binOp, hr', notB_eq]; done)
          | (exfalso; simp only [eqV] at he; cases d <;> simp at he; done)
      exact .here hR (run_v (by simp only [Sem.run_bind, hg, Result.andThen_ok]; exact hb)) (by rw [hv]; exact .bool _)
    split at h
    · split at h
      · rename_i b he
        cases h
        exact key false b rfl he rfl
      · cases h
    · split at h
      · rename_i b he
        cases h
        exact key true b rfl he rfl
      · cases h
    · cases h

theorem g_cvi {x u : Value} {src dst : TypeId} {j k : IntKind} (hR : Rel B ρ s w) (hx : VRel ρ x u) (h1 : P.underlying src = some (.int j)) (h2 : P.underlying dst = some (.int k)) (h : cviV s k x = some (v, s')) :
    Quiet P ρ s w (do pure (Next.value (← convert src dst u))) v s' := by
  cases hx <;> simp only [cviV] at h <;> try (cases h; done)
  cases h
  exact .here hR (run_v (by simp [convert, run_und h1, run_und h2, Conv.intToInt, wrapF_eq])) (.int _ _)

theorem g_cvss {x u : Value} {src dst : TypeId} (hR : Rel B ρ s w) (hx : VRel ρ x u) (h1 : P.underlying src = some .string) (h2 : P.underlying dst = some .string) (h : cvssV s x = some (v, s')) :
    Quiet P ρ s w (do pure (Next.value (← convert src dst u))) v s' := by
  cases hx <;> simp only [cvssV] at h <;> try (cases h; done)
  cases h
  exact .here hR (run_v (by simp [convert, run_und h1, run_und h2])) (.string _)

theorem cellsOfBytes_eq : ∀ (l : List UInt8), cellsOfBytes l = l.map fun b => Value.int .u8 b.toNat
  | [] => rfl
  | b :: l => by simp [cellsOfBytes, cellsOfBytes_eq l]

theorem bytesOfCells_some : ∀ {l : List Value} {t : List UInt8}, bytesOfCells l = some t → ∃ ns : List Int, l = ns.map (Value.int .u8) ∧ t = ns.map (fun n => UInt8.ofNat n.toNat)
  | [], t, h => by simp [bytesOfCells] at h; exact ⟨[], rfl, by simp [h]⟩
  | v :: l, t, h => by
    unfold bytesOfCells at h
    split at h
    · rename_i n
      split at h
      · rename_i r hr
        cases h
        obtain ⟨ns, h1, h2⟩ := bytesOfCells_some hr
        exact ⟨(n : Int) :: ns, by simp [h1], by simp [h2]⟩
      · cases h
    · cases h

theorem VsRel.ints : ∀ {ns : List Int} {m : List Value}, VsRel ρ (ns.map (Value.int .u8)) m → m = ns.map (Value.int .u8)
  | [], m, h => by cases h; rfl
  | n :: ns, m, h => by
    simp only [List.map_cons] at h
    cases h with
    | cons _ u _ q hu hq =>
      cases hu
      rw [VsRel.ints hq]
      rfl

theorem fold_push (ns : List Int) : ∀ (r : ByteArray), (ns.foldl (fun r n => r.push (UInt8.ofNat n.toNat)) r).data.toList = r.data.toList ++ ns.map (fun n => UInt8.ofNat n.toNat) := by
  induction ns with
  | nil => intro r; simp
  | cons n ns ih =>
    intro r
    simp only [List.foldl_cons, ih, List.map_cons]
    simp [ByteArray.push]

theorem g_cvbs {x u : Value} {src dst e : TypeId} (hR : Rel B ρ s w) (hx : VRel ρ x u) (h1 : P.underlying src = some (.slice e)) (h2 : P.underlying dst = some .string) (he : P.underlying e = some (.int .u8)) (h : cvbsV s x = some (v, s')) :
    Quiet P ρ s w (do pure (Next.value (← convert src dst u))) v s' := by
  unfold cvbsV at h
  split at h
  · rename_i n c
    cases h
    cases hx
    refine .here hR (run_v (u := .string ⟨⟨[]⟩⟩) ?_) (.string _)
    simp [convert, run_und h1, run_und h2, run_und he, Conv.bytesToString]
    rfl
  · rename_i b i n c
    split at h
    · rename_i cs hc
      obtain ⟨e', pl, z, ho⟩ := rowOf_some hc
      split at h
      · rename_i l hl
        split at h
        · rename_i t ht
          cases h
          obtain ⟨ns, n1, n2⟩ := bytesOfCells_some ht
          have fin : ∀ (k j c' : Nat), (loadCells ⟨k, j, none⟩ n).run P w = .ok (ns.map (Value.int .u8)).toArray w → Quiet P ρ s w (do pure (Next.value (← convert src dst (.slice (some ⟨k, j, none⟩) n c')))) (.string ⟨⟨t⟩⟩) s := by
            intro k j c' hload
            refine .here hR (run_v (u := .string ⟨⟨t⟩⟩) ?_) (.string _)
            have e1 : ns.foldl (fun r n => r.push (UInt8.ofNat n.toNat)) ByteArray.empty = ⟨⟨t⟩⟩ := by
              apply ByteArray.ext
              apply Array.ext'
              rw [fold_push, n2]
              rfl
            have e2 : (convert src dst (.slice (some ⟨k, j, none⟩) n c')).run P w = (Conv.bytesToString (.slice (some ⟨k, j, none⟩) n c')).run P w := by
              simp [convert, run_und h1, run_und h2, run_und he]
            rw [e2, run_bytesToString w _ n c' ns hload, e1]
          cases hx with
          | slice _ _ _ _ tg c' hn _ =>
            obtain ⟨us, l1, l2⟩ := loads (P := P) hR ho hn hl
            rw [n1] at l2
            have := VsRel.ints l2
            refine fin _ _ _ ?_
            rw [l1, ← this]
          | sliceE _ _ j tg hn =>
            have hl0 : l = [] := by
              obtain ⟨_, _, q⟩ := seg_some hl
              exact List.eq_nil_of_length_eq_zero q
            subst hl0
            have hns : ns = [] := by cases ns with
              | nil => rfl
              | cons _ _ => simp at n1
            subst hns
            refine fin _ _ _ ?_
            simp [loadCells, loadCellsFrom]
        · cases h
      · cases h
    · cases h
  · cases h

theorem heap_freeze {c : Array Value} {e : TypeId} {i k : Nat} (h : w.heap[k]? = some (.cells c e (0, 0))) : (w.freeze ⟨k, i, none⟩ 1).heap = w.heap.setIfInBounds k (.cells c e (i, i + 1)) ∧
    (w.freeze ⟨k, i, none⟩ 1).os = w.os ∧ (w.freeze ⟨k, i, none⟩ 1).tape = w.tape ∧ (w.freeze ⟨k, i, none⟩ 1).output = w.output := by
  refine ⟨?_, rfl, rfl, rfl⟩
  have hlt : k < w.heap.size := (Array.getElem?_eq_some_iff.1 h).1
  have hv : w.heap[k] = .cells c e (0, 0) := (Array.getElem?_eq_some_iff.1 h).2
  apply Array.ext_getElem?
  intro j
  simp only [World.freeze, Nat.succ_ne_zero, if_false, Array.getElem?_modify, Array.getElem?_setIfInBounds]
  by_cases hj : k = j
  · subst hj; simp [hlt, hv]
  · simp [hj]

theorem g_cvsb {x u : Value} {src dst e : TypeId} (hn : ρ s.next = none) (hx : VRel ρ x u) (h1 : P.underlying src = some .string) (h2 : P.underlying dst = some (.slice e)) (he : P.underlying e = some (.int .u8)) (h : cvsbV s e x = some (v, s')) :
    Alloc P ρ s w (do pure (Next.value (← convert src dst u))) v s' := by
  cases hx <;> simp only [cvsbV] at h <;> try (cases h; done)
  rename_i str
  obtain ⟨hroom, rfl, rfl⟩ := mk_some h
  -- the capacity that is drawn
  have hq : ∃ cap w1, (choose (.appendCap str.size 0 e)).run P w = .ok cap w1 ∧ str.size ≤ cap ∧ w1.heap = w.heap ∧ w1.os = w.os ∧ w1.tape = w.tape ∧ w1.output = w.output := by
    refine ⟨(Question.appendCap str.size 0 e).cut (w.tape w.drawn (.appendCap str.size 0 e)), w.drew, by simp [Question.forced], ?_, rfl, rfl, rfl, rfl⟩
    simp [Question.cut]
  obtain ⟨cap, w1, c1, c2, c3, c4, c5, c6⟩ := hq
  let cells : Array Value := (str.data.map fun b => Value.int .u8 b.toNat) ++ Array.replicate (cap - str.size) (.int .u8 0)
  have hcs : cells.size = cap := by
    simp only [cells, Array.size_append, Array.size_map, Array.size_replicate]
    have : str.data.size = str.size := rfl
    omega
  let w2 := w1.alloc (.cells cells e)
  have hw2 : w2.heap[w.heap.size]? = some (.cells cells e (0, 0)) := by simp [w2, World.alloc, c3]
  obtain ⟨f1, f2, f3, f4⟩ := heap_freeze (i := cap) hw2
  have hrun : (convert src dst (.string str)).run P w = .ok (.slice (some ⟨w.heap.size, 0, none⟩) str.size cap) (w2.freeze ⟨w.heap.size, cap, none⟩ 1) := by
    have hsh : w2.shape? w.heap.size = some (e, cap) := by simp [World.shape?, hw2, hcs]
    simp only [convert, Sem.run_bind, run_und h1, run_und h2, Result.andThen_ok, run_und he, Conv.stringToBytes, c1]
    have hnr : (newRow e cells).run P w1 = .ok ⟨w.heap.size, 0, none⟩ w2 := by simp [newRow, w2, c3]
    show (Sem.run P (newRow e cells) w1).andThen _ = _
    rw [hnr]
    simp only [Result.andThen_ok, markStringish, Sem.run_bind, run_shape, hsh]
    rfl
  have hheap : (w2.freeze ⟨w.heap.size, cap, none⟩ 1).heap = w.heap.push (.cells cells e (cap, cap + 1)) := by
    rw [f1]
    simp only [w2, World.alloc, c3]
    apply Array.ext_getElem?
    intro j
    simp only [Array.getElem?_setIfInBounds, Array.getElem?_push, Array.size_push]
    by_cases hj : w.heap.size = j
    · subst hj; simp
    · simp [hj, Ne.symm hj]
  refine ⟨_, ⟨w.heap.size, 0, cap, 1⟩, .cells cells e (cap, cap + 1), _, _, hroom, rfl, run_v hrun, rfl, hheap, f2.trans c4, f3.trans c5, f4.trans c6, ?_, ?_⟩
  rotate_left
  · have := VRel.slice (ρ := bind1 ρ s.next ⟨w.heap.size, 0, cap, 1⟩) s.next 0 str.size str.size _ cap (bind1_same _ _ _) (.inr ⟨c2, Nat.one_pos, by simp⟩)
    rw [len_bytesL]
    simpa using this
  · have hlen : (cellsOfBytes (bytesL str)).length = str.size := by rw [cellsOfBytes_eq, List.length_map]; rfl
    refine ⟨rfl, rfl, by rw [hlen]; exact c2, by rw [hcs]; exact Nat.le_of_eq (Nat.zero_add _), fun i x hi => ?_, fun j _ hj => ?_, fun hh => by cases hh⟩
    · rw [cellsOfBytes_eq, List.getElem?_map] at hi
      cases hb : (bytesL str)[i]? with
      | none => simp [hb] at hi
      | some b =>
        simp only [hb, Option.map_some, Option.some.injEq] at hi
        subst hi
        have hlt : i < str.data.size := by
          have := (List.getElem?_eq_some_iff.1 hb).1
          simpa [bytesL] using this
        refine ⟨.int .u8 b.toNat, ?_, .int _ _⟩
        simp only [cells, Nat.add_zero]
        rw [Array.getElem?_append_left (by simpa using hlt), Array.getElem?_map]
        have hb' : str.data[i]? = some b := by simpa [bytesL] using hb
        rw [hb']
        rfl
    · simp only [Nat.zero_add] at hj
      omega

theorem g_mkmap {t : TypeId} {kt et : TypeId} {m : Option Value} (_hn : ρ s.next = none) (hu : P.underlying t = some (.map kt et)) (hm : m = none ∨ ∃ k n, m = some (.int k n)) (h : mkmapV s = some (v, s')) :
    Alloc P ρ s w (do pure (Next.value (← Instr.makeMap t m))) v s' := by
  obtain ⟨hroom, rfl, rfl⟩ := mk_some h
  have hrun : (Instr.makeMap t m).run P w = .ok (.map (some w.heap.size)) (w.alloc (.map #[] 0)) := by
    rcases hm with rfl | ⟨k, n, rfl⟩
    · simp [Instr.makeMap]
    · simp [Instr.makeMap, run_und hu, asInt, asIntOf]
  refine ⟨_, ⟨w.heap.size, 0, 0, 0⟩, .map #[] 0, _, _, hroom, rfl, run_v hrun, rfl, rfl, rfl, rfl, rfl, ⟨rfl, rfl, .nil⟩, ?_⟩
  exact VRel.map s.next ⟨w.heap.size, 0, 0, 0⟩ (bind1_same _ _ _)

theorem wrap_nat (n : Nat) (h : n ≤ 9223372036854775807) : IntKind.i64.wrap (Int.ofNat n) = n := by
  rw [← wrapF_eq]
  simp only [wrapF, umod, sgn]
  rw [show Nat.mod n 18446744073709551616 = n from Nat.mod_eq_of_lt (by omega), blt_dec, decide_eq_true (by omega)]
  rfl

theorem g_mkslice {t e : TypeId} {z : List Value} {i : TypeInfo} {x y u q : Value} (hn : ρ s.next = none) (hu : P.underlying t = some (.slice e)) (hz : zeroCellsT P e = some z) (hi : P.info? e = some i) (hx : VRel ρ x u) (hy : VRel ρ y q)
    (h : mksliceV s e i.bytes z x y = some (v, s')) : Alloc P ρ s w (do pure (Next.value (← Instr.makeSlice t u q))) v s' := by
  unfold mksliceV at h
  split at h
  · rename_i j1 l j2 c
    split at h
    · rename_i h1
      split at h
      · rename_i h2
        split at h
        · rename_i h3
          obtain ⟨hroom, rfl, rfl⟩ := mk_some h
          cases hx
          cases hy
          have h1 : l ≤ c := Nat.le_of_ble_eq_true h1
          have h2 : i.bytes * c ≤ 140737488355328 := Nat.le_of_ble_eq_true h2
          have h3 : c ≤ 9223372036854775807 := Nat.le_of_ble_eq_true h3
          obtain ⟨y0, i0, z1, z2, z3, rfl, z4, z5, z6, z7⟩ := zeroCells_some hz
          rw [hi] at z1
          cases z1
          have hwc : IntKind.i64.wrap (Int.ofNat c) = c := wrap_nat c h3
          have hwl : IntKind.i64.wrap (Int.ofNat l) = l := wrap_nat l (by omega)
          have hv := made_cells (ρ := ρ) z6 z4 z5 c
          obtain ⟨a1, a2⟩ := new_row (P := P) (w := w) hn hv e (len (cellsL y0))
          have hsz : (sizeOf e).run P w = .ok i.size w := run_size z7
          have hc2 : (i.bytes : Int) * (c : Int) ≤ 140737488355328 := by rw [← Int.natCast_mul]; exact Int.ofNat_le.2 h2
          have hc3 : ¬ ((i.bytes : Int) * (c : Int) > 281474976710656) := by omega
          have hroom2 : (askRoom (c * i.bytes)).run P w = .ok () w := by
            have : ¬ (c * i.bytes > roomBytes) := by unfold roomBytes; rw [Nat.mul_comm]; omega
            unfold askRoom
            rw [if_neg this]
            rfl
          have hrun : (Instr.makeSlice t (.int j1 (Int.ofNat l)) (.int j2 (Int.ofNat c))).run P w = .ok (.slice (some ⟨w.heap.size, 0, none⟩) l c) (w.alloc (.cells ((Array.range (c * i.size)).map (y0.cells[· % y0.cells.size]!)) e)) := by
            have e1 : ¬ ((c : Int) < 0) := by omega
            have e2 : ¬ ((l : Int) < 0) := by omega
            have e3 : ¬ ((l : Int) > (c : Int)) := by omega
            have e5 : ((decide ((c : Int) < 0) || decide ((i.bytes : Int) * (c : Int) > 2 ^ 48)) || decide ((l : Int) < 0) || decide ((l : Int) > (c : Int))) = false := by
              simp only [Bool.or_eq_false_iff, decide_eq_false_iff_not]
              exact ⟨⟨⟨e1, by simpa using hc3⟩, e2⟩, e3⟩
            unfold Instr.makeSlice
            simp only [Sem.run_bind, run_und hu, Result.andThen_ok, asInt, asIntOf, Sem.run_pure, hwc, hwl, typeInfo, run_program, hi]
            rw [if_neg (by rw [← Bool.not_eq_true] at e5; exact e5)]
            simp only [Int.toNat_natCast, Sem.run_bind, hroom2, Result.andThen_ok, hsz]
            by_cases h0 : c * i.size = 0
            · rw [if_pos h0]
              simp only [Sem.run_bind, Sem.run_pure, Result.andThen_ok]
              have e6 : (Array.range (c * i.size)).map ((#[] : Array Value)[· % (#[] : Array Value).size]!) = (Array.range (c * i.size)).map (y0.cells[· % y0.cells.size]!) := by rw [h0]; simp
              rw [e6, a1]
              rfl
            · rw [if_neg h0]
              simp only [Sem.run_bind, (zeroT_some z3).1, Result.andThen_ok, Sem.run_pure]
              rw [a1]
              rfl
          refine ⟨_, _, _, _, _, hroom, rfl, run_v hrun, rfl, rfl, rfl, rfl, rfl, a2, ?_⟩
          have hcap : c * i.size ≤ (rep c (cellsL y0)).length := by rw [rep_length, z4]; exact Nat.le_refl _
          have hzl : len (cellsL y0) = i.size := by rw [len_eq]; exact z4
          have := VRel.slice (ρ := bind1 ρ s.next ⟨w.heap.size, 0, (rep c (cellsL y0)).length, len (cellsL y0)⟩) s.next 0 l c _ c (bind1_same _ _ _) (.inl rfl)
          simpa using this
        · cases h
      · cases h
    · cases h
  · cases h

theorem EsRel.length {l m : List MapEntry} (h : EsRel ρ l m) : m.length = l.length := by
  induction h with
  | nil => rfl
  | cons e f l m _ _ _ _ ih => simp [ih]

theorem mapOf_some {n : Nat} {es : List MapEntry} {c : Nat} (h : mapOf s n = some (es, c)) : s.obj n = some (.map es c) := by
  unfold mapOf at h
  split at h
  · rename_i ho; cases h; exact ho
  · cases h

theorem g_len {x u : Value} {t : TypeId} {k : Nat} {as : Array TypeId} {ty : TypeId} (hR : Rel B ρ s w) (hx : VRel ρ x u) (ht : as.toList = [t])
    (hu : match k with | 0 => P.underlying t = some .string | 1 => ∃ e, P.underlying t = some (.slice e) | _ => ∃ k e, P.underlying t = some (.map k e))
    (h : lenOfV s k x = some (v, s')) : Quiet P ρ s w (do pure (Next.value (← Builtin.len_ as ty #[u]))) v s' := by
  have has : as[0]? = some t := by
    have : as.toList[0]? = some t := by rw [ht]; rfl
    simpa using this
  unfold lenOfV at h
  split at h
  · rename_i str
    cases h
    cases hx
    refine .here hR (run_v (u := .int .i64 (.ofNat (len (bytesL str)))) ?_) (.int _ _)
    simp [Builtin.len_, has, run_und hu, goInt, len_bytesL]
  · rename_i b n c
    cases h
    obtain ⟨e, hty⟩ := hu
    cases hx
    all_goals exact .here hR (run_v (by simp [Builtin.len_, has, run_und hty, goInt])) (.int _ _)
  · cases h
    obtain ⟨k, e, hty⟩ := hu
    cases hx
    exact .here hR (run_v (u := .int .i64 (.ofNat 0)) (by simp [Builtin.len_, has, run_und hty, goInt])) (.int _ _)
  · rename_i n
    obtain ⟨k, e, hty⟩ := hu
    split at h
    · rename_i es ck hm
      cases h
      have ho := mapOf_some hm
      cases hx with
      | map _ tg hn =>
        obtain ⟨es2, b1, b2, b3⟩ := hR.map ho hn
        have hl : es2.size = es.length := by simpa using b3.length
        exact .here hR (run_v (u := .int .i64 (.ofNat (len es))) (by simp [Builtin.len_, has, run_und hty, goInt, MapKept.run_getObj_map b1, hl, len_eq])) (.int _ _)
    · cases h
  · cases h

end
end Go.Rf
