/- Conversions, copies, values built, maps, ranges over strings. -/
import Derived.Test.YtajdleoobkfckaaGreatDoorWelOp4
import Derived.Laws.IdiomStrings
import Derived.Laws.BytesArg
set_option linter.unusedSimpArgs false
set_option linter.unusedVariables false
namespace Go.Wel
open Go

section
variable {P : Program} {L : Lays} {H : Heap} {w : World}

theorem isU8_und {e : TypeId} (h : isU8 P e = true) : P.underlying e = some (.int .u8) := by
  unfold isU8 at h
  split at h
  · assumption
  · cases h

theorem bytesOf_eq : ∀ {vs : List Value} {ns : List Int}, bytesOf vs = some ns → vs = ns.map (Value.int .u8)
  | [], ns, h => by simp [bytesOf] at h; subst h; rfl
  | v :: vs, ns, h => by
    cases v with
    | int k n =>
      cases k with
      | u8 =>
        simp only [bytesOf] at h
        obtain ⟨r, hr, rfl⟩ := Option.map_eq_some_iff.1 h
        rw [bytesOf_eq hr]; rfl
      | _ => simp [bytesOf] at h
    | _ => simp [bytesOf] at h

theorem VRs.ints {L : Lays} {k : IntKind} : ∀ {ns : List Int} {l : List Value}, VRs L (ns.map (Value.int k)) l → l = ns.map (Value.int k)
  | [], _, h => by cases h; rfl
  | n :: ns, _, h => by
    cases h with
    | cons h1 h2 => rw [h1.int_inv, VRs.ints h2]; rfl

theorem sound_conv (h : Sim P L H w) {x x' : Value} (hx : TR L x x') (s d : TypeId) : Snd P L w (convert s d x') (aConv P s d x H) := by
  unfold aConv
  split
  · rename_i u k kk n hs hd
    obtain rfl := hx.int
    exact .pure h (by simp [convert, run_und hs, run_und hd, Conv.intToInt]) (.int _ _)
  · rename_i u kk n hs hd
    obtain rfl := hx.int
    exact .pure h (by simp [convert, run_und hs, run_und hd, Conv.intToString]) (.string _)
  · rename_i u b hs hd
    obtain rfl := hx.string
    exact .pure h (by simp [convert, run_und hs, run_und hd]) (.string _)
  · rename_i u e b hs hd
    split
    · rename_i hu
      obtain ⟨hu, hc1⟩ := hu
      have hu := isU8_und hu
      obtain rfl := hx.string
      -- a new block, as long as the tape says
      obtain ⟨cap, hcapd⟩ : ∃ c, c = (Question.appendCap b.size 0 e).cut (w.tape w.drawn (.appendCap b.size 0 e)) := ⟨_, rfl⟩
      have hcap : b.size ≤ cap := by rw [hcapd]; simp only [Question.cut]; omega
      obtain ⟨elems, helems⟩ : ∃ x : Array Value, x = b.data.map fun c => .int .u8 c.toNat := ⟨_, rfl⟩
      obtain ⟨C, hCd⟩ : ∃ x : Array Value, x = elems ++ Array.replicate (cap - b.size) (.int .u8 0) := ⟨_, rfl⟩
      have hel : elems.size = b.size := by rw [helems, Array.size_map]; rfl
      have hC : C.size = cap := by rw [hCd, Array.size_append, hel, Array.size_replicate]; omega
      have hrun : (convert s d (.string b)).run P w = .ok (.slice (some ⟨w.heap.size, 0, none⟩) b.size cap) { w with drawn := w.drawn + 1, heap := w.heap.push (.cells C e (cap, cap + 1)) } := by
        have hsh : World.shape? { w with drawn := w.drawn + 1, heap := w.heap.push (.cells C e) } w.heap.size = some (e, C.size) := by simp [World.shape?]
        have hfr : World.freeze { w with drawn := w.drawn + 1, heap := w.heap.push (.cells C e) } ⟨w.heap.size, C.size, none⟩ 1 = { w with drawn := w.drawn + 1, heap := w.heap.push (.cells C e (cap, cap + 1)) } := by
          unfold World.freeze
          rw [if_neg (by decide)]
          congr 1
          apply Array.ext_getElem?
          intro j
          rw [Array.getElem?_modify, Array.getElem?_push, Array.getElem?_push]
          by_cases hj : w.heap.size = j
          · subst hj; simp [hC]
          · have : ¬ j = w.heap.size := fun he => hj he.symm
            simp [hj, this]
        simp only [convert, Sem.run_bind, run_und hs, run_und hd, Result.andThen_ok, run_und hu, Conv.stringToBytes, run_choose, Question.forced, Bool.false_eq_true, if_false, newRow, run_newObj, Sem.run_pure, markStringish, run_shape]
        rw [← hcapd, ← helems, ← hCd]
        show ((match World.shape? { w with drawn := w.drawn + 1, heap := w.heap.push (.cells C e) } w.heap.size with | some (_, n) => freeze ⟨w.heap.size, n, none⟩ 1 | _ => Pure.pure ()).run P { w with drawn := w.drawn + 1, heap := w.heap.push (.cells C e) }).andThen _ = _
        rw [hsh]
        simp only [run_freeze, Result.andThen_ok, hfr]
      refine ⟨L ++ [⟨w.heap.size, b.size, cap, P.cellsOf e, none⟩], _, _, hrun, Lays.le_append _ _, ?_, .sliceU (h.newPtr _) (.inl ⟨rfl, ?_, ?_, hcap⟩)⟩
      · refine (h.drew (w.drawn + 1)).alloc _ _ _ _ _ ⟨C, (cap, cap + 1), rfl, .inl rfl, by rw [List.length_map, Array.length_toList]; rfl, hC, hcap, (fun hh => by cases hh), rfl, ?_⟩
        intro i v hi
        simp only [List.getElem?_map, Array.getElem?_toList] at hi
        obtain ⟨c, hc, rfl⟩ := Option.map_eq_some_iff.1 hi
        refine ⟨_, ?_, .inr (.int _ _)⟩
        have hlt : i < elems.size := by
          have := (Array.getElem?_eq_some_iff.1 hc).1
          rw [helems, Array.size_map]; exact this
        rw [hCd, Array.getElem?_append_left hlt, helems, Array.getElem?_map, hc]
        rfl
      · simp [hc1]; exact hcap
      · simp [hc1]
    · trivial
  · rename_i e n c hs hd
    split
    · rename_i hu
      obtain ⟨hu, rfl⟩ := hu
      have hu := isU8_und hu
      obtain rfl := (hx.vr (by simp [undef])).nils_inv
      exact .pure h (by simp [convert, run_und hs, run_und hd, run_und hu, Conv.bytesToString]) (.string _)
    · trivial
  · rename_i e a n c hs hd
    split
    · rename_i hu
      have hu := isU8_und hu
      split
      · rename_i hn
        subst hn
        obtain ⟨_, _, rfl⟩ := (hx.vr (by simp [undef])).slice_some
        refine .pure (v' := .string .empty) h ?_ (.string _)
        rw [run_convert_bytes_string w s d e _ 0 _ hs hu hd, run_bytesToString w _ 0 _ [] (by simp [loadCells, loadCellsFrom])]
        rfl
      · rename_i hn
        split
        · rename_i vs hg
          split
          · rename_i ns hb
            obtain ⟨l, cap', hl, rfl⟩ := hx.slice (Nat.pos_of_ne_zero hn)
            obtain ⟨h1, vs', h2, h3⟩ := h.getN hl hg
            have e1 := bytesOf_eq hb
            subst e1
            obtain rfl := VRs.ints h2
            refine .pure (v' := .string ⟨(ns.map fun n => UInt8.ofNat n.toNat).toArray⟩) h ?_ (.string _)
            rw [run_convert_bytes_string w s d e _ n _ hs hu hd, run_bytesToString w _ n _ ns (h3 P w rfl), foldl_push_bytes]
            simp [ByteArray.empty, ByteArray.emptyWithCapacity]
            rfl
          · trivial
        · trivial
    · trivial
  · trivial

theorem sound_copy (h : Sim P L H w) {x x' y y' : Value} (hx : TR L x x') (hy : TR L y y') (t st ty : TypeId) : Snd P L w (Builtin.copy_ #[t, st] ty #[x', y']) (aCopy P t x y H) := by
  unfold aCopy
  split
  · rename_i e base dl dc hu
    split
    · rename_i hi
      have hxs : ∃ a' c', x' = .slice a' dl c' ∧ (∀ a, base = some a → 0 < dl → ∃ l, L[a.block]? = some l ∧ a' = some ⟨l.b, a.off, none⟩) := by
        cases base with
        | none => exact ⟨_, _, (hx.vr (by simp [undef])).nils_inv, fun a h => by cases h⟩
        | some a =>
          rcases Nat.eq_zero_or_pos dl with h0 | h0
          · obtain ⟨_, _, h3⟩ := (hx.vr (by simp [undef])).slice_some
            exact ⟨_, _, h3, fun b _ hp => by omega⟩
          · obtain ⟨l, cap', hl, he⟩ := hx.slice h0
            exact ⟨_, _, he, fun b hb _ => by cases hb; exact ⟨l, hl, rfl⟩⟩
      obtain ⟨a', c', rfl, hxa⟩ := hxs
      split
      · rename_i b
        obtain rfl := hy.string
        split
        · split
          · rename_i hz
            refine .pure (v' := .int .i64 0) h ?_ (.int _ _)
            have hm : Nat.min b.size dl = 0 := hz
            simp only [Builtin.copy_, List.getElem?_toArray, List.getElem?_cons_zero, List.getElem?_cons_succ, Sem.run_bind, run_und hu, Result.andThen_ok, Builtin.lenOf, Sem.run_pure, run_size hi, hm, Builtin.firstCells]
            have h9 : (b.extract 0 0).size = 0 := by rw [ByteArray.size_extract]; omega
            have hb0 : (b.extract 0 0).data = #[] := Array.eq_empty_of_size_eq_zero h9
            rw [hb0]
            cases a' <;> simp [storeCells, goInt]
          · trivial
        · rename_i hz
          split
          · rename_i a
            split
            · rename_i H' hp
              have hpos : 0 < dl := by
                rcases Nat.eq_zero_or_pos dl with h0 | h0
                · exact absurd (.inl (by simp [h0])) hz
                · exact h0
              obtain ⟨l, hl, rfl⟩ := hxa a rfl hpos
              obtain ⟨w', h1, h2⟩ := h.putN hl hp (vs' := ((b.extract 0 (min b.size dl)).data.toList).map fun c => .int .u8 c.toNat) (by
                refine VRs.of_get rfl fun i v v' q1 q2 => ?_
                rw [q1] at q2; cases q2
                simp only [List.getElem?_map] at q1
                obtain ⟨c, _, rfl⟩ := Option.map_eq_some_iff.1 q1
                exact .int _ _)
              refine ⟨L, .int .i64 (min b.size dl : Nat), w', ?_, Lays.le_refl L, h1, .int _ _⟩
              have h2' := h2 P
              simp only [Builtin.copy_, List.getElem?_toArray, List.getElem?_cons_zero, List.getElem?_cons_succ, Sem.run_bind, run_und hu, Result.andThen_ok, Builtin.lenOf, Sem.run_pure, run_size hi, Builtin.firstCells]
              show ((storeCells ⟨l.b, a.off, none⟩ ((((b.extract 0 (min b.size dl)).data.map fun b => Value.int .u8 b.toNat)).toList)).run P w).andThen _ = _
              rw [Array.toList_map, h2']
              rfl
            · trivial
          · trivial
      · rename_i sb sl sc
        have hys : ∃ b' c'', y' = .slice b' sl c'' ∧ (∀ b, sb = some b → 0 < sl → ∃ l, L[b.block]? = some l ∧ b' = some ⟨l.b, b.off, none⟩) := by
          cases sb with
          | none => exact ⟨_, _, (hy.vr (by simp [undef])).nils_inv, fun a h => by cases h⟩
          | some a =>
            rcases Nat.eq_zero_or_pos sl with h0 | h0
            · obtain ⟨_, _, h3⟩ := (hy.vr (by simp [undef])).slice_some
              exact ⟨_, _, h3, fun b _ hp => by omega⟩
            · obtain ⟨l, cap', hl, he⟩ := hy.slice h0
              exact ⟨_, _, he, fun b hb _ => by cases hb; exact ⟨l, hl, rfl⟩⟩
        obtain ⟨b', c'', rfl, hyb⟩ := hys
        split
        · split
          · rename_i hz
            refine .pure (v' := .int .i64 0) h ?_ (.int _ _)
            have hm : Nat.min sl dl = 0 := hz
            simp only [Builtin.copy_, List.getElem?_toArray, List.getElem?_cons_zero, List.getElem?_cons_succ, Sem.run_bind, run_und hu, Result.andThen_ok, Builtin.lenOf, Sem.run_pure, run_size hi, hm]
            have hfc : (Builtin.firstCells (P.cellsOf e) 0 (.slice b' sl c'')).run P w = .ok #[] w := by
              cases b' <;> simp [Builtin.firstCells, loadCells, loadCellsFrom]
            rw [hfc]
            cases a' <;> simp [storeCells, goInt]
          · trivial
        · rename_i hz
          split
          · rename_i a b
            split
            · rename_i vs hg
              split
              · rename_i H' hp
                have hposd : 0 < dl := by
                  rcases Nat.eq_zero_or_pos dl with h0 | h0
                  · exact absurd (by simp [h0]) hz
                  · exact h0
                have hposs : 0 < sl := by
                  rcases Nat.eq_zero_or_pos sl with h0 | h0
                  · exact absurd (by simp [h0]) hz
                  · exact h0
                obtain ⟨l, hl, rfl⟩ := hxa a rfl hposd
                obtain ⟨l2, hl2, rfl⟩ := hyb b rfl hposs
                obtain ⟨q1, vs', q2, q3⟩ := h.getN hl2 hg
                obtain ⟨w', h1, h2⟩ := h.putN hl hp q2
                refine ⟨L, .int .i64 (min sl dl : Nat), w', ?_, Lays.le_refl L, h1, .int _ _⟩
                have h2' := h2 P
                have h3' := q3 P w rfl
                simp only [Builtin.copy_, List.getElem?_toArray, List.getElem?_cons_zero, List.getElem?_cons_succ, Sem.run_bind, run_und hu, Result.andThen_ok, Builtin.lenOf, Sem.run_pure, run_size hi, Builtin.firstCells]
                have h3'' : (loadCells ⟨l2.b, b.off, none⟩ (Nat.min sl dl * P.cellsOf e)).run P w = .ok vs'.toArray w := h3'
                rw [h3'']
                simp only [Result.andThen_ok, h2']
                rfl
              · trivial
            · trivial
          · trivial
      · trivial
    · trivial
  · trivial

theorem sound_clear (h : Sim P L H w) {x x' : Value} (hx : TR L x x') (t ty : TypeId) : Snd P L w (Builtin.clear_ #[t] ty #[x']) (aClear P t x H) := by
  have und : VR L undef undef := .tuple .nil Token.nil
  unfold aClear
  split
  · rename_i e n c hu
    obtain rfl := (hx.vr (by simp [undef])).nils_inv
    exact .pure (v' := undef) h (by simp [Builtin.clear_, run_und hu, undef]) und
  · rename_i e a n c hu
    split
    · rename_i hn
      subst hn
      obtain ⟨_, _, rfl⟩ := (hx.vr (by simp [undef])).slice_some
      exact .pure (v' := undef) h (by simp [Builtin.clear_, run_und hu, undef]) und
    · rename_i hn
      split
      · rename_i z hz
        split
        · rename_i hc
          split
          · rename_i H' hp
            obtain ⟨l, cap', hl, rfl⟩ := hx.slice (Nat.pos_of_ne_zero hn)
            obtain ⟨w', h1, h2⟩ := h.putN hl hp (flat_zeroCells hc.1 n)
            refine ⟨L, undef, w', ?_, Lays.le_refl L, h1, und⟩
            obtain ⟨m, rfl⟩ : ∃ m, n = m + 1 := ⟨n - 1, by omega⟩
            simp [Builtin.clear_, run_und hu, run_zero hz, h2 P, undef]
          · trivial
        · trivial
      · trivial
  · rename_i k e hu
    obtain rfl := (hx.vr (by simp [undef])).nilm_inv
    exact .pure (v' := undef) h (by simp [Builtin.clear_, run_und hu, undef]) und
  · rename_i k e r hu
    split
    · rename_i es hk
      obtain ⟨l, hl, rfl⟩ := (hx.vr (by simp [undef])).map_inv
      obtain ⟨es', ck, h1, h2⟩ := h.blk _ _ _ hl hk
      refine ⟨L, undef, { w with heap := w.heap.setIfInBounds l.b (.map #[] ck) }, ?_, Lays.le_refl L, h.setBlk hl hk rfl rfl ⟨rfl, rfl⟩ ⟨#[], ck, rfl, .nil⟩, und⟩
      simp [Builtin.clear_, run_und hu, getObj, setObj, Sem.run, h1, undef]
    · trivial
  · trivial

theorem sound_makeSlice (h : Sim P L H w) {x x' y y' : Value} (hx : TR L x x') (hy : TR L y y') (t : TypeId) : Snd P L w (Instr.makeSlice t x' y') (aMakeSlice P t x y H) := by
  unfold aMakeSlice
  split
  · rename_i e k1 ln k2 cp hu
    split
    · rename_i z hz
      split
      · rename_i hc
        obtain ⟨c1, c2, c3, c4, c5, c6, c7⟩ := hc
        obtain rfl := hx.int; obtain rfl := hy.int
        obtain ⟨ie, hie⟩ := Option.isSome_iff_exists.1 c7
        have hby : ie.bytes = P.bytesOf e := by simp [Program.bytesOf, hie]
        have hw1 : IntKind.i64.wrap ln = ln := IntWalk.i64_in _ (by omega)
        have hw2 : IntKind.i64.wrap cp = cp := IntWalk.i64_in _ (by omega)
        have hlarge : (decide (cp < 0) || decide ((ie.bytes : Int) * cp > 2 ^ 48)) = false := by
          rw [hby]; simp; omega
        have hcells : (if cp.toNat * P.cellsOf e = 0 then (Array.map (fun x => (#[] : Array Value)[x % (#[] : Array Value).size]!) (Array.range (cp.toNat * P.cellsOf e))) else (Array.map (fun x => z.cells[x % z.cells.size]!) (Array.range (cp.toNat * P.cellsOf e)))) = Builtin.zeroCells z.cells cp.toNat := by
          split
          · rename_i h0
            apply Array.ext'
            simp [Builtin.zeroCells, c6, h0]
          · simp [Builtin.zeroCells, c6]
        refine ⟨_, .slice (some ⟨w.heap.size, 0, none⟩) ln.toNat cp.toNat, _, ?_, Lays.le_append _ _, h.newRow e (flat_zeroCells c5 cp.toNat), .slice (h.newPtr _) (by unfold capE capU; omega)⟩
        simp only [Instr.makeSlice, Sem.run_bind, run_und hu, Result.andThen_ok, asInt, asIntOf, Sem.run_pure, typeInfo, run_program, hie, hw1, hw2, hlarge]
        have g1 : (decide (ln < 0) || decide (ln > cp)) = false := by simp; omega
        have g2 : (ln < 0 ∨ ln > cp) ↔ False := by simp; omega
        simp only [Bool.false_eq_true, false_or, g2, if_false, run_askRoom, Result.andThen_ok, run_size c7, Bool.false_or, g1, Sem.run_ite, Sem.run_bind, Sem.run_pure, run_zero hz, newRow, run_newObj]
        by_cases h0 : cp.toNat * P.cellsOf e = 0
        · simp only [h0, if_true, Result.andThen_ok] at hcells ⊢
          rw [hcells]
        · simp only [h0, if_false, Result.andThen_ok] at hcells ⊢
          rw [hcells]
      · trivial
    · trivial
  · trivial
end
end Go.Wel
