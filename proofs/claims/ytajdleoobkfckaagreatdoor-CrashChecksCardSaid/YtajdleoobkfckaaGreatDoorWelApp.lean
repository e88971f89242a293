/- append, over the abstract memory: in place where there is room for sure; else new cells (what was grown is not looked at any more, where it is not known whether it was grown in place). -/
import Derived.Test.YtajdleoobkfckaaGreatDoorWelOp2
import Derived.IntWalk
set_option linter.unusedSimpArgs false
set_option linter.unusedVariables false
namespace Go.Wel
open Go Go.Builtin

section
variable {P : Program} {L : Lays} {H : Heap} {w : World}

/-- A block handed on under a new number: the elder one is not looked at any more. -/
theorem Sim.rebind (h : Sim P L H w) {i : Nat} {l : Lay} {k0 k : Blk} {o : Obj} (hl : L[i]? = some l) (hk : H[i]? = some k0) (ha : k0.alive = true)
    {w' : World} (hw : w'.heap = w.heap.setIfInBounds l.b o) (hos : w'.os = w.os ∧ w'.output = w.output) (n N sz : Nat) (hb : BR P (L ++ [⟨l.b, n, N, sz, none⟩]) ⟨l.b, n, N, sz, none⟩ k (some o)) :
    Sim P (L ++ [⟨l.b, n, N, sz, none⟩]) (H.set i .dead ++ [k]) w' := by
  have hi : i < H.length := (List.getElem?_eq_some_iff.1 hk).1
  have hlt := h.lt i l hl
  have hold : ∀ (j : Nat) (x : Lay), (L ++ [(⟨l.b, n, N, sz, none⟩ : Lay)])[j]? = some x → (j < L.length ∧ L[j]? = some x) ∨ (j = L.length ∧ x = ⟨l.b, n, N, sz, none⟩) := by
    intro j x hj
    rcases Nat.lt_trichotomy j L.length with hlt | heq | hgt
    · rw [List.getElem?_append_left hlt] at hj; exact .inl ⟨hlt, hj⟩
    · subst heq; simp at hj; exact .inr ⟨rfl, hj.symm⟩
    · rw [List.getElem?_eq_none (by simp; omega)] at hj; cases hj
  have hblk : ∀ (j : Nat) (x : Blk), j < L.length → (H.set i .dead ++ [k])[j]? = some x → x.alive = true → i ≠ j ∧ H[j]? = some x := by
    intro j x hj hx hxa
    rw [List.getElem?_append_left (by simp; rw [← h.len]; exact hj)] at hx
    by_cases hij : i = j
    · subst hij; rw [List.getElem?_set_self hi] at hx; cases hx; simp [Blk.alive] at hxa
    · rw [List.getElem?_set_ne hij] at hx; exact ⟨hij, hx⟩
  refine ⟨by simp [h.len], ?_, ?_, ?_, ?_⟩
  rotate_right
  · intro j x s hj ho
    rcases hold j x hj with ⟨_, hx⟩ | ⟨_, rfl⟩
    · obtain ⟨h1, h2⟩ := h.out j x s hx ho
      refine ⟨by rw [hos.1, hos.2]; exact h1, fun b hb => ?_⟩
      obtain ⟨h3, h4, h5⟩ := h2 b hb
      refine ⟨by rw [hw]; simpa using h3, ?_, fun j l' hj => ?_⟩
      · rw [hw, Array.getElem?_setIfInBounds_ne (h5 i l hl)]
        exact h4
      · rcases hold j l' hj with ⟨_, hl'⟩ | ⟨_, rfl⟩
        · exact h5 j l' hl'
        · exact h5 i l hl
    · cases ho
  · intro j x hj
    rw [hw]
    rcases hold j x hj with ⟨_, hx⟩ | ⟨_, rfl⟩
    · simpa using h.lt j x hx
    · simpa using hlt
  · intro a b la lb ka kb hla hlb hka hkb aa ab he
    rcases hold a la hla with ⟨hal, hla'⟩ | ⟨hal, rfl⟩ <;> rcases hold b lb hlb with ⟨hbl, hlb'⟩ | ⟨hbl, rfl⟩
    · exact h.inj a b la lb ka kb hla' hlb' (hblk a ka hal hka aa).2 (hblk b kb hbl hkb ab).2 aa ab he
    · obtain ⟨hne, hka'⟩ := hblk a ka hal hka aa
      exact absurd (h.inj i a l la k0 ka hl hla' hk hka' ha aa he.symm) hne
    · obtain ⟨hne, hkb'⟩ := hblk b kb hbl hkb ab
      exact absurd (h.inj i b l lb k0 kb hl hlb' hk hkb' ha ab he) hne
    · omega
  · intro j x y hj hy
    rcases hold j x hj with ⟨hjl, hx⟩ | ⟨hjl, rfl⟩
    · by_cases hya : y.alive = true
      · obtain ⟨hne, hy'⟩ := hblk j y hjl hy hya
        have hnb : l.b ≠ x.b := fun he => hne (h.inj i j l x k0 y hl hx hk hy' ha hya he)
        rw [hw, Array.getElem?_setIfInBounds_ne hnb]
        exact (h.blk j x y hx hy').mono (Lays.le_append _ _)
      · cases y with
        | dead => trivial
        | _ => simp [Blk.alive] at hya
    · subst hjl
      have : y = k := by simpa [h.len] using hy.symm
      subst this
      rw [hw, Array.getElem?_setIfInBounds_self_of_lt hlt]
      exact hb

/-- Cells that are written, one behind the other, into a block as it lies. -/
theorem run_storeCells_obj (P : Program) (b o : Nat) (e : TypeId) (f : Nat × Nat) : ∀ (vs : List Value) (i : Nat) (cur : Array Value) (w : World), w.heap[b]? = some (.cells cur e f) → o + i + vs.length ≤ cur.size →
    (∀ v ∈ vs, v.oneCell' = true) → (∀ j, j < vs.length → ¬ (f.1 ≤ o + i + j ∧ o + i + j < f.2)) →
    ∃ w' cur', (storeCells ⟨b, o, none⟩ vs i).run P w = .ok () w' ∧ w'.heap = w.heap.setIfInBounds b (.cells cur' e f) ∧ (w'.os = w.os ∧ w'.output = w.output) ∧ cur'.size = cur.size ∧
      (∀ j, j < o + i ∨ o + i + vs.length ≤ j → cur'[j]? = cur[j]?) ∧ (∀ j, j < vs.length → cur'[o + i + j]? = vs[j]?)
  | [], i, cur, w, hb, _, _, _ => by
    refine ⟨w, cur, rfl, ?_, ⟨rfl, rfl⟩, rfl, fun _ _ => rfl, fun j hj => absurd hj (by simp)⟩
    apply Array.ext_getElem?
    intro j
    rw [Array.getElem?_setIfInBounds]
    split
    · rename_i hj; subst hj; split
      · exact hb
      · rename_i hn; rw [Array.getElem?_eq_none (by omega)] at hb; cases hb
    · rfl
  | v :: vs, i, cur, w, hb, hlen, ho, hf => by
    simp only [List.length_cons] at hlen hf
    have hc : w.cell? ⟨b, o + i, none⟩ = some (cur[o + i]'(by omega)) := by simp [World.cell?, hb, Array.getElem?_eq_getElem (show o + i < cur.size by omega)]
    have hz : w.frozen? ⟨b, o + i, none⟩ = false := by
      have := hf 0 (by omega)
      obtain ⟨lo, hi⟩ := f
      simp [World.frozen?, hb] at this ⊢
      omega
    have hbl : b < w.heap.size := by
      rcases Nat.lt_or_ge b w.heap.size with h | h
      · exact h
      · rw [Array.getElem?_eq_none h] at hb; cases hb
    have hset : (w.setCell ⟨b, o + i, none⟩ v).heap = w.heap.setIfInBounds b (.cells (cur.setIfInBounds (o + i) v) e f) := by
      simp only [World.setCell]
      apply Array.ext_getElem?
      intro j
      rw [Array.getElem?_modify, Array.getElem?_setIfInBounds]
      by_cases hj : b = j
      · subst hj; rw [if_pos rfl, if_pos rfl, if_pos hbl, hb]; simp
      · simp [hj]
    have hb2 : (w.setCell ⟨b, o + i, none⟩ v).heap[b]? = some (.cells (cur.setIfInBounds (o + i) v) e f) := by
      rw [hset, Array.getElem?_setIfInBounds_self_of_lt hbl]
    obtain ⟨w', cur', h1, h2, hos, h3, h4, h5⟩ := run_storeCells_obj P b o e f vs (i + 1) (cur.setIfInBounds (o + i) v) (w.setCell ⟨b, o + i, none⟩ v) hb2 (by simp; omega)
      (fun x hx => ho x (by simp [hx])) (fun j hj => by have := hf (j + 1) (by omega); rwa [show o + i + (j + 1) = o + (i + 1) + j by omega] at this)
    refine ⟨w', cur', ?_, ?_, hos, by simpa using h3, ?_, ?_⟩
    · simp only [storeCells, Sem.run_bind, add_eq, run_store P w _ _ _ (ho v (by simp)), hc, hz, Bool.false_eq_true, if_false, Result.andThen_ok]
      exact h1
    · rw [h2, hset]; simp
    · intro j hj
      rw [h4 j (by simp only [List.length_cons] at hj; omega), Array.getElem?_setIfInBounds_ne (by simp only [List.length_cons] at hj; omega)]
    · intro j hj
      cases j with
      | zero =>
        rw [Nat.add_zero, h4 (o + i) (by omega), Array.getElem?_setIfInBounds_self_of_lt (by omega)]; rfl
      | succ j =>
        have := h5 j (by simpa using hj)
        rw [show o + i + (j + 1) = o + (i + 1) + j by omega, this]; simp

theorem nextcap_le {need cap : Nat} (h : cap < need) : nextslicecap need cap ≤ 2 * need + 192 := by
  unfold nextslicecap
  split
  · omega
  · split
    · omega
    · have key : ∀ (k c : Nat), c ≤ 2 * need + 192 → growBy need k c ≤ 2 * need + 192 := by
        intro k
        induction k with
        | zero => intro c hc; exact hc
        | succ k ih =>
          intro c hc
          unfold growBy
          split
          · exact hc
          · exact ih _ (by omega)
      exact key 4 cap (by omega)

theorem zeroCells_size (z : Array Value) (n : Nat) : (zeroCells z n).size = n * z.size := by simp [zeroCells]

/-- The elements that are appended: how many, and their cells. -/
def news (P : Program) (xt e : TypeId) (x : Value) (H : Heap) : Option (Nat × List Value) := match P.underlying xt with
  | some (.int _) => match x, (P.info? e).bind (·.zero) with
    | .int _ n, some z => if 0 ≤ n ∧ n * P.bytesOf e ≤ 2 ^ 48 ∧ n < 2 ^ 62 ∧ flat z = true ∧ z.cells.size = P.cellsOf e then some (n.toNat, (zeroCells z.cells n.toNat).toList) else none
    | _, _ => none
  | some _ => match x with
    | .slice none n _ => if n = 0 then some (0, []) else none
    | .slice (some a) n _ => if n * P.cellsOf e = 0 then some (n, []) else (H.getN a.block a.off (n * P.cellsOf e)).map fun vs => (n, vs)
    | .string s => some (s.size, s.data.toList.map fun b => .int .u8 b.toNat)
    | _ => none
  | none => none
end

section
variable {P : Program} {L : Lays} {H : Heap} {w : World}

theorem flat_part {z : Value} (hz : flat z = true) : ∀ v ∈ z.cells.toList, VR L v v := by
  intro v hv
  obtain ⟨i, hi⟩ := List.mem_iff_getElem?.1 hv
  obtain ⟨v', h1, h2⟩ := (flat_cells (L := L) hz).get hi
  rw [hi] at h1; cases h1; exact h2

theorem flat_zeroCells {z : Value} (hz : flat z = true) (n : Nat) : VRs L (zeroCells z.cells n).toList (zeroCells z.cells n).toList := by
  refine VRs.of_get rfl fun i v v' h1 h2 => ?_
  rw [h1] at h2; cases h2
  simp only [zeroCells, Array.toList_map, Array.toList_range, List.getElem?_map] at h1
  obtain ⟨j, hj, rfl⟩ := Option.map_eq_some_iff.1 h1
  have hjn : j < n * z.cells.size := by
    have h2 := List.mem_of_getElem? hj
    simpa using h2
  have hpos : 0 < z.cells.size := by
    rcases Nat.eq_zero_or_pos z.cells.size with h | h
    · rw [h] at hjn; omega
    · exact h
  have hm : j % z.cells.size < z.cells.size := Nat.mod_lt _ hpos
  have : z.cells[j % z.cells.size]! = z.cells[j % z.cells.size] := by simp [hm]
  rw [this]
  exact flat_part hz _ (by simp)

/-- What stands behind 'the elements that are appended' in the model. -/
theorem news_run (h : Sim P L H w) {xt e : TypeId} {x x' : Value} (hx : TR L x x') {n : Nat} {vs : List Value} (hn : news P xt e x H = some (n, vs)) (hi : (P.info? e).isSome = true) :
    ∃ vs' : Array Value, VRs L vs vs'.toList ∧ (∃ u, P.underlying xt = some u ∧
      ((∃ k, u = .int k ∧ ∃ kk, x' = .int kk n ∧ n < 2 ^ 62 ∧ n * P.bytesOf e ≤ 2 ^ 48 ∧ ∃ z, (P.info? e).bind (·.zero) = some z ∧ z.cells.size = P.cellsOf e ∧ (n * P.cellsOf e ≠ 0 → vs' = zeroCells z.cells n) ∧ (n * P.cellsOf e = 0 → vs' = #[])) ∨
       ((∀ k, u ≠ .int k) ∧ (∀ w0, (lenOf x').run P w0 = .ok n w0) ∧ ∀ w0 : World, w0.heap = w.heap → (firstCells (P.cellsOf e) n x').run P w0 = .ok vs' w0))) := by
  unfold news at hn
  split at hn
  · rename_i kk hu
    split at hn
    · rename_i k m z hz
      split at hn
      · rename_i hc
        obtain ⟨c1, c2, c3, c4, c5⟩ := hc
        simp only [Option.some.injEq, Prod.mk.injEq] at hn
        obtain ⟨rfl, rfl⟩ := hn
        obtain rfl := hx.int
        refine ⟨zeroCells z.cells m.toNat, flat_zeroCells c4 _, _, hu, .inl ⟨_, rfl, k, by rw [Int.toNat_of_nonneg c1], by omega, ?_, z, hz, c5, fun _ => rfl, fun h0 => ?_⟩⟩
        · have : ((m.toNat * P.bytesOf e : Nat) : Int) ≤ 2 ^ 48 := by rw [Int.natCast_mul, Int.toNat_of_nonneg c1]; exact c2
          exact_mod_cast this
        · apply Array.eq_empty_of_size_eq_zero
          rw [zeroCells_size, c5]; exact h0
      · cases hn
    · cases hn
  · rename_i u hnot hu
    have hni : ∀ k, u ≠ .int k := fun k hk => hnot k (by first | exact hk | (rw [← hk]))
    split at hn
    · split at hn
      · rename_i h0; subst h0
        cases hn
        obtain rfl := (hx.vr (by simp [undef])).nils_inv
        exact ⟨#[], .nil, _, hu, .inr ⟨hni, fun _ => rfl, fun _ _ => rfl⟩⟩
      · cases hn
    · rename_i a m cap
      split at hn
      · rename_i h0
        cases hn
        obtain ⟨_, _, rfl⟩ := (hx.vr (by simp [undef])).slice_some
        exact ⟨#[], .nil, _, hu, .inr ⟨hni, fun _ => rfl, fun w0 _ => by simp [firstCells, h0, loadCells, loadCellsFrom]⟩⟩
      · rename_i h0
        cases hg : H.getN a.block a.off (m * P.cellsOf e) with
        | none => simp [hg] at hn
        | some us =>
          simp only [hg, Option.map_some, Option.some.injEq, Prod.mk.injEq] at hn
          obtain ⟨rfl, rfl⟩ := hn
          have hpos : 0 < m := Nat.pos_of_ne_zero fun hm => h0 (by simp [hm])
          obtain ⟨l, cap', hl, rfl⟩ := hx.slice hpos
          obtain ⟨h1, vs', h2, h3⟩ := h.getN hl hg
          exact ⟨vs'.toArray, by simpa using h2, _, hu, .inr ⟨hni, fun _ => rfl, fun w0 hw0 => h3 P w0 hw0⟩⟩
    · rename_i s
      cases hn
      obtain rfl := hx.string
      refine ⟨s.data.map fun b => .int .u8 b.toNat, ?_, _, hu, .inr ⟨hni, fun _ => rfl, fun w0 _ => ?_⟩⟩
      · refine VRs.of_get (by simp) fun i v v' h1 h2 => ?_
        simp only [List.getElem?_map, Array.toList_map] at h1 h2
        rw [h1] at h2; cases h2
        obtain ⟨b, _, rfl⟩ := Option.map_eq_some_iff.1 h1
        exact .int _ _
      · simp [firstCells]
    · cases hn
  · cases hn
end

/-- append(s, x). -/
def aAppend (P : Program) (st xt : TypeId) (s x : Value) : M Value := fun H => match P.underlying st with
  | some (.slice e) => match news P xt e x H with
    | some (n, vs) => match s with
      | .slice base ln cp =>
        if (P.info? e).isSome = true ∧ 0 < P.cellsOf e ∧ 0 < P.bytesOf e ∧ vs.length = n * P.cellsOf e ∧ (2 * (ln + n) + 192) * P.bytesOf e ≤ 2 ^ 48 then
          if n = 0 ∧ (cp = capU ∨ ln ≤ cp) then .ret (.slice base ln cp) H
          else match base with
          | none => if ln = 0 ∧ cp = 0 then
              match (P.info? e).bind (·.zero) with
              | some z => if z.cells.size = P.cellsOf e then .ret (.slice (some ⟨H.length, 0, none⟩) n capU) (H ++ [.cells vs e (0, 0) false]) else .bad
              | none => .bad
            else .bad
          | some a =>
            if cp ≠ capU then
              if cp < capU then
                if ln + n ≤ cp then
                  match H.putN a.block (a.off + ln * P.cellsOf e) vs with
                  | some H' => .ret (.slice (some a) (ln + n) cp) H'
                  | none => .bad
                else
                  match (if n = 0 then none else if ln * P.cellsOf e = 0 then some [] else H.getN a.block a.off (ln * P.cellsOf e)), (P.info? e).bind (·.zero) with
                  | some old, some z => if z.cells.size = P.cellsOf e then .ret (.slice (some ⟨H.length, 0, none⟩) (ln + n) capU) (H ++ [.cells (old ++ vs) e (0, 0) false]) else .bad
                  | _, _ => .bad
              else .bad
            else match H[a.block]? with
              | some (.cells c e' fr str) =>
                if e' = e ∧ a.off + (ln + n) * P.cellsOf e ≤ c.length then
                  match H.putN a.block (a.off + ln * P.cellsOf e) vs with
                  | some H' => .ret (.slice (some a) (ln + n) capU) H'
                  | none => .bad
                else if e' = e ∧ a.off = 0 ∧ ln * P.cellsOf e ≤ c.length ∧ c.length ≤ (ln + n) * P.cellsOf e ∧ fr = (0, 0) ∧ ((c.take (ln * P.cellsOf e)).all isVal = true) ∧ vs.all one = true then
                  match (P.info? e).bind (·.zero) with
                  | some z => if z.cells.size = P.cellsOf e then
                      .ret (.slice (some ⟨H.length, 0, none⟩) (ln + n) capU) (H.set a.block .dead ++ [.cells (c.take (ln * P.cellsOf e) ++ vs) e (0, 0) str])
                    else .bad
                  | none => .bad
                else .bad
              | _ => .bad
        else .bad
      | _ => .bad
    | none => .bad
  | _ => .bad

section
variable {P : Program} {L : Lays} {H : Heap} {w : World}

/-- New cells of which the last ones are not looked at. -/
theorem Sim.newLoose (h : Sim P L H w) {vs : List Value} {vs' : Array Value} (e : TypeId) (hv : VRs L vs vs'.toList) (rest : Array Value) (d : Nat) (str : Bool := false) :
    Sim P (L ++ [⟨w.heap.size, vs.length, vs.length + rest.size, P.cellsOf e, none⟩]) (H ++ [.cells vs e (0, 0) str]) { w with drawn := d, heap := w.heap.push (.cells (vs' ++ rest) e) } := by
  have := (h.drew d).alloc (.cells (vs' ++ rest) e) (.cells vs e (0, 0) str) vs.length (vs.length + rest.size) (P.cellsOf e) ⟨vs' ++ rest, _, rfl, by
      cases str
      · rfl
      · exact .inr rfl, rfl, by
      have := hv.length; simp at this; simp [this], Nat.le_add_right _ _, fun _ => trivial, rfl, ?_⟩
  · exact this
  · intro i v hi
    obtain ⟨v', h1, h2⟩ := hv.get hi
    have hlt : i < vs'.size := by have := (List.getElem?_eq_some_iff.1 h1).1; simpa using this
    refine ⟨v', ?_, .inr (h2.mono (Lays.le_append _ _))⟩
    rw [Array.getElem?_append_left hlt]
    simpa using h1

/-- The run of the model's append where it makes new cells. -/
theorem run_append_new {st xt e : TypeId} {x' : Value} {base : Option Addr} {len cap n : Nat} {old' vs' : Array Value} {z : Value}
    (hu : P.underlying st = some (.slice e)) (hi : (P.info? e).isSome = true) (hb : 0 < P.bytesOf e) (hz : (P.info? e).bind (·.zero) = some z)
    (hcap : cap < len + n) (hsz : (2 * (len + n) + 192) * P.bytesOf e ≤ 2 ^ 48) (hpos : n * P.cellsOf e ≠ 0)
    (hold : ∀ w0 : World, w0.heap = w.heap → (firstCells (P.cellsOf e) len (.slice base len cap)).run P w0 = .ok old' w0)
    (hnew : ∃ u, P.underlying xt = some u ∧
      ((∃ k, u = .int k ∧ ∃ kk, x' = .int kk n ∧ n < 2 ^ 62 ∧ n * P.bytesOf e ≤ 2 ^ 48 ∧ ∃ z, (P.info? e).bind (·.zero) = some z ∧ z.cells.size = P.cellsOf e ∧ (n * P.cellsOf e ≠ 0 → vs' = zeroCells z.cells n) ∧ (n * P.cellsOf e = 0 → vs' = #[])) ∨
       ((∀ k, u ≠ .int k) ∧ (∀ w0, (lenOf x').run P w0 = .ok n w0) ∧ ∀ w0 : World, w0.heap = w.heap → (firstCells (P.cellsOf e) n x').run P w0 = .ok vs' w0))) :
    ∃ newCap, len + n ≤ newCap ∧ (append_ #[st, xt] st #[.slice base len cap, x']).run P w =
      .ok (.slice (some ⟨w.heap.size, 0, none⟩) (len + n) newCap) { w with drawn := w.drawn + 1, heap := w.heap.push (.cells (old' ++ vs' ++ zeroCells z.cells (newCap - (len + n))) e) } := by
  obtain ⟨u, hxu, hnew⟩ := hnew
  have hinfo : ∃ ie, P.info? e = some ie ∧ ie.bytes = P.bytesOf e := by
    obtain ⟨ie, hie⟩ := Option.isSome_iff_exists.1 hi
    exact ⟨ie, hie, by simp [Program.bytesOf, hie]⟩
  obtain ⟨ie, hie, hby⟩ := hinfo
  have hti : ∀ w0 : World, (typeInfo e).run P w0 = .ok ie w0 := fun w0 => by simp [typeInfo, hie]
  have hnc := nextcap_le hcap
  have hroom : ¬ (nextslicecap (len + n) cap * ie.bytes > 2 ^ 48) := by
    rw [hby]
    have : nextslicecap (len + n) cap * P.bytesOf e ≤ (2 * (len + n) + 192) * P.bytesOf e := Nat.mul_le_mul_right _ hnc
    omega
  have hneed : len + n < 2 ^ 48 := by
    have : (2 * (len + n) + 192) * 1 ≤ (2 * (len + n) + 192) * P.bytesOf e := Nat.mul_le_mul_left _ hb
    omega
  have hov : ¬ (((len + n : Nat) : Int) > IntKind.i64.max) := by
    have hm : IntKind.i64.max = 9223372036854775807 := by decide
    rw [hm]; omega
  refine ⟨(Question.appendCap (len + n) cap e).cut (w.tape w.drawn (.appendCap (len + n) cap e)), by simp [Question.cut], ?_⟩
  rcases hnew with ⟨k, rfl, kk, rfl, hn62, hn48, z2, hz2, hzs, hv1, _⟩ | ⟨hni, hl, hf⟩
  · obtain rfl : z2 = z := by rw [hz] at hz2; exact (Option.some.inj hz2).symm
    have hwrap : IntKind.i64.wrap (n : Int) = n := by
      have : ((n : Nat) : Int) < 2 ^ 62 := by exact_mod_cast hn62
      exact IntWalk.i64_in _ (by omega)
    have hzz : (zeroValue e).run P = fun w0 => .ok z2 w0 := funext fun w0 => run_zero hz w0
    have h0 : ¬ ((n : Int) < 0) := by omega
    have h48 : ¬ ((n : Int) * (ie.bytes : Int) > 2 ^ 48) := by
      rw [hby]
      have : ((n * P.bytesOf e : Nat) : Int) ≤ 2 ^ 48 := by exact_mod_cast hn48
      rw [Int.natCast_mul] at this
      omega
    have hnc' : ¬ (len + n ≤ cap) := by omega
    simp only [append_, List.getElem?_toArray, List.getElem?_cons_zero, List.getElem?_cons_succ, Sem.run_bind, run_und hu, Result.andThen_ok, run_size hi, run_und hxu, Sem.run_pure, if_true, asInt, asIntOf, hwrap,
      Sem.run_ite, h0, if_false, hti, h48, Int.toNat_natCast, hnc', hov, false_and, hroom, run_choose, Question.forced, Bool.false_eq_true, run_askRoom, Bool.not_true, hpos, run_zero hz, newRow, run_newObj, hv1 hpos]
    rw [hold { w with drawn := w.drawn + 1 } rfl]
    rfl
  · have hfl : (match u with | .int _ => true | _ => false) = false := by
      cases u <;> first | rfl | exact absurd rfl (hni _)
    have hnc' : ¬ (len + n ≤ cap) := by omega
    have hby0 : ¬ (ie.bytes = 0) := by omega
    simp only [append_, List.getElem?_toArray, List.getElem?_cons_zero, List.getElem?_cons_succ, Sem.run_bind, run_und hu, Result.andThen_ok, run_size hi, run_und hxu, Sem.run_pure]
    simp only [Bool.false_eq_true, if_false, hl, Sem.run_bind, Result.andThen_ok, Sem.run_ite, hnc', hov, false_and, hti, hroom, run_choose, Question.forced, run_askRoom, Bool.not_false, if_true, run_zero hz, newRow, run_newObj, Sem.run_pure]
    rw [hold { w with drawn := w.drawn + 1 } rfl]
    simp only [Result.andThen_ok]
    rw [hf { w with drawn := w.drawn + 1 } rfl]
    rfl

/-- The run of the model's append where there is room. -/
theorem run_append_in {st xt e : TypeId} {x' : Value} {base : Option Addr} {len cap n : Nat} {vs' : Array Value}
    (hu : P.underlying st = some (.slice e)) (hi : (P.info? e).isSome = true) (hcap : len + n ≤ cap)
    (hnew : ∃ u, P.underlying xt = some u ∧
      ((∃ k, u = .int k ∧ ∃ kk, x' = .int kk n ∧ n < 2 ^ 62 ∧ n * P.bytesOf e ≤ 2 ^ 48 ∧ ∃ z, (P.info? e).bind (·.zero) = some z ∧ z.cells.size = P.cellsOf e ∧ (n * P.cellsOf e ≠ 0 → vs' = zeroCells z.cells n) ∧ (n * P.cellsOf e = 0 → vs' = #[])) ∨
       ((∀ k, u ≠ .int k) ∧ (∀ w0, (lenOf x').run P w0 = .ok n w0) ∧ ∀ w0 : World, w0.heap = w.heap → (firstCells (P.cellsOf e) n x').run P w0 = .ok vs' w0))) :
    (append_ #[st, xt] st #[.slice base len cap, x']).run P w =
      (match base with
      | some a => (storeCells (a.add (len * P.cellsOf e)) vs'.toList).run P w
      | none => .ok () w).andThen fun _ w' => .ok (.slice base (len + n) cap) w' := by
  obtain ⟨u, hxu, hnew⟩ := hnew
  have hinfo : ∃ ie, P.info? e = some ie ∧ ie.bytes = P.bytesOf e := by
    obtain ⟨ie, hie⟩ := Option.isSome_iff_exists.1 hi
    exact ⟨ie, hie, by simp [Program.bytesOf, hie]⟩
  obtain ⟨ie, hie, hby⟩ := hinfo
  have hti : ∀ w0 : World, (typeInfo e).run P w0 = .ok ie w0 := fun w0 => by simp [typeInfo, hie]
  rcases hnew with ⟨k, rfl, kk, rfl, hn62, hn48, z2, hz2, hzs, hv1, hv2⟩ | ⟨hni, hl, hf⟩
  · have hwrap : IntKind.i64.wrap (n : Int) = n := by
      have : ((n : Nat) : Int) < 2 ^ 62 := by exact_mod_cast hn62
      exact IntWalk.i64_in _ (by omega)
    have h0 : ¬ ((n : Int) < 0) := by omega
    have h48 : ¬ ((n : Int) * (ie.bytes : Int) > 2 ^ 48) := by
      rw [hby]
      have : ((n * P.bytesOf e : Nat) : Int) ≤ 2 ^ 48 := by exact_mod_cast hn48
      rw [Int.natCast_mul] at this
      omega
    have hnewrun : (if n * P.cellsOf e = 0 then (.ok #[] w : Result (Array Value)) else .ok (zeroCells z2.cells n) w) = .ok vs' w := by
      by_cases hz : n * P.cellsOf e = 0
      · rw [if_pos hz, hv2 hz]
      · rw [if_neg hz, hv1 hz]
    simp only [append_, List.getElem?_toArray, List.getElem?_cons_zero, List.getElem?_cons_succ, Sem.run_bind, run_und hu, Result.andThen_ok, run_size hi, run_und hxu, Sem.run_pure, if_true, asInt, asIntOf, hwrap,
      Sem.run_ite, h0, if_false, hti, h48, Int.toNat_natCast, hcap, Bool.false_eq_true, Bool.not_true, run_zero hz2]
    rw [hnewrun]
    cases base with
    | none => rfl
    | some a => simp only [Result.andThen_ok, Sem.run_bind, Sem.run_pure]
  · have hfl : (match u with | .int _ => true | _ => false) = false := by
      cases u <;> first | rfl | exact absurd rfl (hni _)
    simp only [append_, List.getElem?_toArray, List.getElem?_cons_zero, List.getElem?_cons_succ, Sem.run_bind, run_und hu, Result.andThen_ok, run_size hi, run_und hxu, Sem.run_pure]
    simp only [Bool.false_eq_true, if_false, hl, Sem.run_bind, Result.andThen_ok, Sem.run_ite, hcap, Bool.not_false, if_true, hf w rfl]
    cases base with
    | none => rfl
    | some a => simp only [Result.andThen_ok, Sem.run_bind, Sem.run_pure]

theorem CapU.room {l : Lay} {off off' len cap k : Nat} (h : CapU l off off' len cap) (hs : off + k * l.sz ≤ l.n) (hp : 0 < l.sz) (hk : 0 < k) : k ≤ cap ∧ off' = off := by
  rcases h with ⟨h1, h2, h3, h4⟩ | ⟨h1, h2, h3⟩
  · refine ⟨?_, h1⟩
    have : k * l.sz ≤ cap * l.sz := by omega
    exact Nat.le_of_mul_le_mul_right this hp
  · have : 0 < k * l.sz := Nat.mul_pos hk hp
    omega

theorem sound_append (h : Sim P L H w) {s s' x x' : Value} (hs : TR L s s') (hx : TR L x x') (st xt : TypeId) :
    Snd P L w (append_ #[st, xt] st #[s', x']) (aAppend P st xt s x H) := by
  unfold aAppend
  split
  · rename_i e hu
    split
    · rename_i n vs hn
      split
      · rename_i base len cap
        split
        · rename_i hc
          obtain ⟨hi, hsz, hby, hlen, hbig⟩ := hc
          obtain ⟨vs', hvs, hnew⟩ := news_run h hx hn hi
          have hvl : vs'.size = n * P.cellsOf e := by have := hvs.length; simp at this; omega
          split
          · rename_i hn0
            obtain ⟨rfl, hcc⟩ := hn0
            have hvs0 : vs'.toList = [] := by
              apply List.eq_nil_of_length_eq_zero; simp [hvl]
            have hvs00 : vs' = #[] := by simpa using hvs0
            cases base with
            | none =>
              obtain rfl := (hs.vr (by simp [undef])).nils_inv
              refine .pure (v' := .slice none len cap) h ?_ (.nils _ _)
              by_cases hle : len ≤ cap
              · rw [run_append_in hu hi (n := 0) (by simpa using hle) hnew]; rfl
              · rcases hcc with rfl | hle'
                · exfalso
                  have : (2 * (len + 0) + 192) * 1 ≤ (2 * (len + 0) + 192) * P.bytesOf e := Nat.mul_le_mul_left _ hby
                  unfold capU at hle
                  omega
                · exact absurd hle' hle
            | some a =>
              obtain ⟨a', cap', rfl, hle⟩ := (hs.vr (by simp [undef])).slice_le hcc
              refine .pure (v' := .slice (some a') len cap') h ?_ (hs.vr (by simp [undef]))
              rw [run_append_in hu hi (n := 0) (by simpa using hle) hnew, hvs0]
              rfl
          · rename_i hn0
            cases base with
            | none =>
              obtain rfl := (hs.vr (by simp [undef])).nils_inv
              dsimp only
              split
              · rename_i hz0
                obtain ⟨rfl, rfl⟩ := hz0
                have hnpos : 0 < n := by
                  rcases Nat.eq_zero_or_pos n with h0 | h0
                  · exact absurd ⟨h0, .inr (Nat.le_refl _)⟩ hn0
                  · exact h0
                split
                · rename_i z hz
                  split
                  · rename_i hzs
                    obtain ⟨newCap, hge, hrun⟩ := run_append_new (w := w) (base := none) (len := 0) (cap := 0) (old' := #[]) hu hi hby hz (by omega) (by simpa using hbig) (by have := Nat.mul_pos hnpos hsz; omega)
                      (fun w0 _ => rfl) hnew
                    simp only [Nat.zero_add] at hrun hge
                    refine ⟨L ++ [⟨w.heap.size, vs.length, vs.length + (zeroCells z.cells (newCap - n)).size, P.cellsOf e, none⟩], _, _, hrun, Lays.le_append _ _, ?_, ?_⟩
                    · have := h.newLoose e hvs (zeroCells z.cells (newCap - n)) (w.drawn + 1)
                      simpa using this
                    · refine .sliceU (h.newPtr _) (.inl ⟨rfl, ?_, ?_, by omega⟩)
                      · simp only [Nat.zero_add, hlen]
                        exact Nat.mul_le_mul_right _ (by omega)
                      · simp only [Nat.zero_add, hlen, zeroCells_size, hzs, ← Nat.add_mul]
                        exact Nat.mul_le_mul_right _ (by omega)
                  · trivial
                · trivial
              · trivial
            | some a =>
              by_cases hE : cap = capE
              · subst hE
                dsimp only
                rw [if_pos (by have := capE_eq; omega), if_neg (by have := capE_eq; omega)]
                trivial
              obtain ⟨l, off', cap', hl, ha, rfl, hcd⟩ := (hs.vr (by simp [undef])).slice_inv (.inl hE)
              dsimp only
              split
              · rename_i hcu
                split
                · rename_i hlt
                  obtain ⟨rfl, rfl⟩ : cap' = cap ∧ off' = a.off := by
                    rcases hcd with ⟨_, q⟩ | ⟨q, _⟩
                    · exact q
                    · exact absurd q hcu
                  split
                  · rename_i hroom
                    split
                    · rename_i H' hp
                      obtain ⟨w', h1, h2⟩ := h.putN hl hp hvs
                      refine ⟨L, _, w', ?_, Lays.le_refl L, h1, (by rw [ha]; exact .slice hl ⟨hcu, hE⟩ : VR L (.slice (some a) (len + n) cap') (.slice (some ⟨l.b, a.off, none⟩) (len + n) cap'))⟩
                      rw [run_append_in hu hi hroom hnew]
                      simp only [add_eq, h2 P, Result.andThen_ok]
                    · trivial
                  · rename_i hroom
                    split
                    · rename_i old z ho hz
                      split
                      · rename_i hzs
                        have hn00 : n ≠ 0 := fun h0 => by simp [h0] at ho
                        have hold : ∃ old' : Array Value, VRs L old old'.toList ∧ old.length = len * P.cellsOf e ∧ ∀ w0 : World, w0.heap = w.heap → (firstCells (P.cellsOf e) len (.slice (some ⟨l.b, a.off, none⟩) len cap')).run P w0 = .ok old' w0 := by
                          rw [if_neg hn00] at ho
                          split at ho
                          · rename_i hz0; cases ho
                            exact ⟨#[], .nil, by simp [hz0], fun w0 _ => by simp [firstCells, hz0, loadCells, loadCellsFrom]⟩
                          · obtain ⟨h1, o', h2, h3⟩ := h.getN hl ho
                            exact ⟨o'.toArray, by simpa using h2, h1, fun w0 hw0 => by simp [firstCells, h3 P w0 hw0]⟩
                        obtain ⟨old', hov, hol, hold⟩ := hold
                        have hnpos : 0 < n := Nat.pos_of_ne_zero hn00
                        obtain ⟨newCap, hge, hrun⟩ := run_append_new (w := w) hu hi hby hz (by omega) hbig (by have := Nat.mul_pos hnpos hsz; omega) hold hnew
                        have hov2 : VRs L (old ++ vs) (old' ++ vs').toList := by simpa using hov.append hvs
                        refine ⟨_, _, _, hrun, Lays.le_append _ _, h.newLoose e hov2 (zeroCells z.cells (newCap - (len + n))) (w.drawn + 1), ?_⟩
                        refine .sliceU (h.newPtr _) (.inl ⟨rfl, ?_, ?_, by omega⟩)
                        · simp only [List.length_append, Nat.zero_add, hlen, hol, ← Nat.add_mul]
                          exact Nat.mul_le_mul_right _ (by omega)
                        · simp only [List.length_append, Nat.zero_add, hlen, hol, zeroCells_size, hzs, ← Nat.add_mul]
                          exact Nat.mul_le_mul_right _ (by omega)
                      · trivial
                    · trivial
                · trivial
              · rename_i hcu
                obtain rfl : cap = capU := Decidable.of_not_not hcu
                have hcap : CapU l a.off off' len cap' := by
                  rcases hcd with ⟨q, _⟩ | ⟨_, q⟩
                  · exact absurd rfl q
                  · exact q
                have hnpos : 0 < n := by
                  rcases Nat.eq_zero_or_pos n with h0 | h0
                  · exact absurd ⟨h0, .inl rfl⟩ hn0
                  · exact h0
                split
                · rename_i c e' fr str hk
                  obtain ⟨c', f, g1, g8, g2, g3, g4, g5, g7, g6⟩ := h.blk _ _ _ hl hk
                  split
                  · rename_i hin
                    obtain ⟨rfl, hin⟩ := hin
                    split
                    · rename_i H' hp
                      obtain ⟨hle, rfl⟩ := hcap.room (k := len + n) (by rw [g7, ← g2]; exact hin) (by omega) (by omega)
                      obtain ⟨w', h1, h2⟩ := h.putN hl hp hvs
                      have hvr : VR L (.slice (some a) (len + n) capU) (.slice (some ⟨l.b, a.off, none⟩) (len + n) cap') := by
                        rw [ha]
                        refine .sliceU hl (.inl ?_)
                        rcases hcap with ⟨q1, q2, q3, q4⟩ | ⟨q1, q2, q3⟩
                        · exact ⟨rfl, q2, q3, hle⟩
                        · omega
                      refine ⟨L, _, w', ?_, Lays.le_refl L, h1, hvr⟩
                      rw [run_append_in hu hi hle hnew]
                      simp only [add_eq, h2 P, Result.andThen_ok]
                    · trivial
                  · rename_i hin
                    split
                    · rename_i hamb
                      obtain ⟨rfl, hoff, htk, hsm, rfl, hval, hone⟩ := hamb
                      split
                      · rename_i z hz
                        split
                        · rename_i hzs
                          have hlz : len * P.cellsOf e' ≤ c'.size := by omega
                          have holdV : VRs L (c.take (len * P.cellsOf e')) (c'.toList.take (len * P.cellsOf e')) := by
                            refine VRs.of_get (by simp; omega) fun j v v' hv hv' => ?_
                            have hj : j < len * P.cellsOf e' := by have := (List.getElem?_eq_some_iff.1 hv).1; simp at this; omega
                            rw [List.getElem?_take_of_lt hj] at hv hv'
                            obtain ⟨v2, q1, q2⟩ := g6 j v hv
                            have : v2 = v' := by simp only [Array.getElem?_toList] at hv'; rw [q1] at hv'; exact Option.some.inj hv'
                            subst this
                            refine q2.vr (List.all_eq_true.1 hval v ?_)
                            exact List.mem_of_getElem? (i := j) (by rw [List.getElem?_take_of_lt hj]; exact hv)
                          have holdlen : (c.take (len * P.cellsOf e')).length = len * P.cellsOf e' := by simp; omega
                          by_cases hle : len + n ≤ cap'
                          · -- there was room: it was grown in place
                            have hoff' : off' = 0 := by
                              rcases hcap with ⟨q1, _⟩ | ⟨q1, q2, q3⟩
                              · rw [q1, hoff]
                              · omega
                            subst hoff'
                            have hN : (len + n) * P.cellsOf e' ≤ l.N := by
                              rcases hcap with ⟨_, _, q3, _⟩ | ⟨q1, q2, q3⟩
                              · have : (len + n) * P.cellsOf e' ≤ cap' * P.cellsOf e' := Nat.mul_le_mul_right _ hle
                                rw [g7] at q3; omega
                              · omega
                            have hone' : ∀ v ∈ vs'.toList, v.oneCell' = true := by
                              intro v hv
                              obtain ⟨j, hj⟩ := List.mem_iff_getElem?.1 hv
                              have hjl : j < vs.length := by have := (List.getElem?_eq_some_iff.1 hj).1; rw [hvs.length]; exact this
                              obtain ⟨v2, q1, q2⟩ := hvs.get (List.getElem?_eq_getElem hjl)
                              rw [hj] at q1; cases q1
                              exact q2.one (List.all_eq_true.1 hone _ (List.getElem_mem hjl))
                            have hfz : ∀ j, j < vs'.toList.length → ¬ (f.1 ≤ 0 + len * P.cellsOf e' + j ∧ 0 + len * P.cellsOf e' + j < f.2) := by
                              intro j hj
                              simp only [Array.length_toList, hvl] at hj
                              have : len * P.cellsOf e' + j < l.N := by
                                have : len * P.cellsOf e' + n * P.cellsOf e' = (len + n) * P.cellsOf e' := by rw [Nat.add_mul]
                                omega
                              unfold FrOk at g8
                              split at g8
                              · rcases g8 with rfl | rfl <;> simp <;> omega
                              · subst g8; simp
                            obtain ⟨w', cur', r1, r2, r6, r3, r4, r5⟩ := run_storeCells_obj P l.b 0 e' f vs'.toList (len * P.cellsOf e') c' w g1 (by
                              simp only [Array.length_toList, hvl]
                              have : len * P.cellsOf e' + n * P.cellsOf e' = (len + n) * P.cellsOf e' := by rw [Nat.add_mul]
                              omega) hone' hfz
                            have hlv : (c.take (len * P.cellsOf e') ++ vs).length = (len + n) * P.cellsOf e' := by
                              rw [List.length_append, holdlen, hlen, Nat.add_mul]
                            have hsim := h.rebind (k := .cells (c.take (len * P.cellsOf e') ++ vs) e' (0, 0) str) (o := .cells cur' e' f) hl hk rfl r2 r6 ((len + n) * P.cellsOf e') l.N (P.cellsOf e')
                              ⟨cur', f, rfl, g8, hlv, by rw [r3, g3], hN, fun _ => trivial, rfl, fun j v hj => by
                                by_cases hjl : j < len * P.cellsOf e'
                                · rw [List.getElem?_append_left (by rw [holdlen]; exact hjl)] at hj
                                  obtain ⟨v', q1, q2⟩ := holdV.get hj
                                  rw [List.getElem?_take_of_lt hjl] at q1
                                  exact ⟨v', by rw [r4 j (.inl (by omega))]; simpa using q1, .inr (q2.mono (Lays.le_append _ _))⟩
                                · rw [List.getElem?_append_right (by rw [holdlen]; omega), holdlen] at hj
                                  obtain ⟨v', q1, q2⟩ := hvs.get hj
                                  have hjv := (List.getElem?_eq_some_iff.1 q1).1
                                  have := r5 (j - len * P.cellsOf e') hjv
                                  rw [show 0 + len * P.cellsOf e' + (j - len * P.cellsOf e') = j by omega] at this
                                  exact ⟨v', by rw [this]; exact q1, .inr (q2.mono (Lays.le_append _ _))⟩⟩
                            refine ⟨L ++ [⟨l.b, (len + n) * P.cellsOf e', l.N, P.cellsOf e', none⟩], _, w', ?_, Lays.le_append _ _, hsim, .sliceU (off' := 0) (cap := cap') (h.newPtr _) (.inl ⟨rfl, ?_, ?_, hle⟩)⟩
                            · rw [run_append_in hu hi hle hnew]
                              have ha2 : Addr.add ⟨l.b, 0, none⟩ (len * P.cellsOf e') = ⟨l.b, len * P.cellsOf e', none⟩ := by rw [add_eq, Nat.zero_add]
                              have hsame : (storeCells ⟨l.b, len * P.cellsOf e', none⟩ vs'.toList).run P w = .ok () w' := by
                                have shift : ∀ (vs : List Value) (i : Nat), storeCells ⟨l.b, len * P.cellsOf e', none⟩ vs i = storeCells ⟨l.b, 0, none⟩ vs (len * P.cellsOf e' + i) := by
                                  intro vs
                                  induction vs with
                                  | nil => intro i; rfl
                                  | cons v vs ih =>
                                    intro i
                                    simp only [storeCells, add_eq, Nat.zero_add, ih (i + 1), Nat.add_assoc]
                                rw [shift]; exact r1
                              simp only [ha2, hsame, Result.andThen_ok]
                            · simp only [Nat.zero_add]; exact Nat.mul_le_mul_right _ hle
                            · simp only [Nat.zero_add]
                              rcases hcap with ⟨_, _, q3, _⟩ | ⟨q1, q2, q3⟩
                              · rw [g7] at q3; omega
                              · omega
                          · -- there was none: it lies in new cells
                            have hgn : len * P.cellsOf e' ≠ 0 → H.getN a.block a.off (len * P.cellsOf e') = some (c.take (len * P.cellsOf e')) := by
                              intro _
                              unfold Heap.getN
                              rw [hk]
                              simp only [hoff, List.drop_zero, Nat.zero_add]
                              rw [if_pos ⟨htk, hval⟩]
                            have hold : ∃ old' : Array Value, VRs L (c.take (len * P.cellsOf e')) old'.toList ∧ ∀ w0 : World, w0.heap = w.heap → (firstCells (P.cellsOf e') len (.slice (some ⟨l.b, off', none⟩) len cap')).run P w0 = .ok old' w0 := by
                              by_cases hz0 : len * P.cellsOf e' = 0
                              · exact ⟨#[], by rw [hz0]; exact .nil, fun w0 _ => by simp [firstCells, hz0, loadCells, loadCellsFrom]⟩
                              · obtain ⟨h1, o', h2, h3⟩ := h.getN hl (hgn hz0)
                                have hoo : off' = a.off := by
                                  rcases hcap with ⟨q1, _⟩ | ⟨q1, _⟩
                                  · exact q1
                                  · exact absurd (by rw [q1]; simp) hz0
                                exact ⟨o'.toArray, by simpa using h2, fun w0 hw0 => by rw [hoo]; simp [firstCells, h3 P w0 hw0]⟩
                            obtain ⟨old', hov, hold⟩ := hold
                            obtain ⟨newCap, hge, hrun⟩ := run_append_new (w := w) hu hi hby hz (by omega) hbig (by have := Nat.mul_pos hnpos hsz; omega) hold hnew
                            have hov2 : VRs L (c.take (len * P.cellsOf e') ++ vs) (old' ++ vs').toList := by simpa using hov.append hvs
                            have hk2 := h.kill a.block
                            have hlv : (c.take (len * P.cellsOf e') ++ vs).length = (len + n) * P.cellsOf e' := by
                              rw [List.length_append, holdlen, hlen, Nat.add_mul]
                            refine ⟨_, _, _, hrun, Lays.le_append _ _, hk2.newLoose e' hov2 (zeroCells z.cells (newCap - (len + n))) (w.drawn + 1) str, ?_⟩
                            refine .sliceU (h.newPtr _) (.inl ⟨rfl, ?_, ?_, by omega⟩)
                            · simp only [hlv, Nat.zero_add]
                              exact Nat.mul_le_mul_right _ (by omega)
                            · simp only [hlv, Nat.zero_add, zeroCells_size, hzs, ← Nat.add_mul]
                              exact Nat.mul_le_mul_right _ (by omega)
                        · trivial
                      · trivial
                    · trivial
                · trivial
        · trivial
      · trivial
    · trivial
  · trivial
end
end Go.Wel
