/- Cells: read, written, made. -/
import Derived.Test.YtajdleoobkfckaaGreatDoorWelOps
import Derived.Laws.Entries
set_option linter.unusedSimpArgs false
set_option linter.unusedVariables false
namespace Go.Wel
open Go

def isVal : Value → Bool
  | .tuple _ => false
  | _ => true

theorem CR.vr {L : Lays} {v v' : Value} (h : CR L v v') (hv : isVal v = true) : VR L v v' := by
  rcases h with h | h
  · subst h; simp [isVal] at hv
  · exact h

def Heap.get1 (H : Heap) (i off : Nat) : Option Value := match H[i]? with
  | some (.cells c _ _ _) => match c[off]? with
    | some v => if isVal v then some v else none
    | none => none
  | _ => none

def Heap.getN (H : Heap) (i off n : Nat) : Option (List Value) := match H[i]? with
  | some (.cells c _ _ _) => if off + n ≤ c.length ∧ ((c.drop off).take n).all isVal = true then some ((c.drop off).take n) else none
  | _ => none

def putL (c : List Value) (off : Nat) : List Value → List Value
  | [] => c
  | v :: r => putL (c.set off v) (off + 1) r

theorem putL_length (c : List Value) (off : Nat) (l : List Value) : (putL c off l).length = c.length := by
  induction l generalizing c off with
  | nil => rfl
  | cons v r ih => simp [putL, ih]

def one : Value → Bool
  | .agg _ | .tuple _ => false
  | _ => true

def melts (fr : Nat × Nat) (s : Bool) (off n : Nat) : Bool := s || decide (fr.2 ≤ off) || decide (off + n ≤ fr.1)

def Heap.put1 (H : Heap) (i off : Nat) (v : Value) : Option Heap := match H[i]? with
  | some (.cells c e fr s) => if off < c.length ∧ one v = true ∧ melts fr s off 1 = true then some (H.set i (.cells (c.set off v) e fr s)) else none
  | _ => none

def Heap.putN (H : Heap) (i off : Nat) (vs : List Value) : Option Heap := match H[i]? with
  | some (.cells c e fr s) => if off + vs.length ≤ c.length ∧ vs.all one = true ∧ melts fr s off vs.length = true then some (H.set i (.cells (putL c off vs) e fr s)) else none
  | _ => none

section
variable {P : Program} {L : Lays} {H : Heap} {w : World}

theorem Sim.get1 (h : Sim P L H w) {i off : Nat} {l : Lay} {v : Value} (hl : L[i]? = some l) (hv : H.get1 i off = some v) :
    ∃ v', w.cell? ⟨l.b, off, none⟩ = some v' ∧ VR L v v' := by
  unfold Heap.get1 at hv
  split at hv
  · rename_i c e fr s hk
    split at hv
    · rename_i x hx
      split at hv
      · rename_i hi
        cases hv
        obtain ⟨v', h1, h2⟩ := h.cell hl hk hx
        exact ⟨v', h1, h2.vr hi⟩
      · cases hv
    · cases hv
  · cases hv

theorem Sim.getN (h : Sim P L H w) {i off n : Nat} {l : Lay} {vs : List Value} (hl : L[i]? = some l) (hv : H.getN i off n = some vs) :
    vs.length = n ∧ ∃ vs', VRs L vs vs' ∧ ∀ (Q : Program) (w0 : World), w0.heap = w.heap → (loadCells ⟨l.b, off, none⟩ n).run Q w0 = .ok vs'.toArray w0 := by
  unfold Heap.getN at hv
  split at hv
  · rename_i c e fr s hk
    split at hv
    · rename_i hc
      obtain ⟨hc1, hc2⟩ := hc
      cases hv
      have hlen : ((c.drop off).take n).length = n := by simp; omega
      refine ⟨hlen, ?_⟩
      have key : ∀ j, j < n → ∃ v', w.cell? (Addr.add ⟨l.b, off, none⟩ j) = some v' ∧ ∀ v, ((c.drop off).take n)[j]? = some v → VR L v v' := by
        intro j hj
        have hlt : off + j < c.length := by omega
        obtain ⟨v', h1, h2⟩ := h.cell hl hk (List.getElem?_eq_getElem hlt)
        refine ⟨v', ?_, ?_⟩
        · unfold Addr.add
          split
          · rename_i hz; subst hz; exact h1
          · exact h1
        · intro v hv
          have : v = c[off + j] := by
            have := List.getElem?_eq_some_iff.1 hv
            obtain ⟨hh, he⟩ := this
            rw [← he]; simp
          subst this
          exact h2.vr (List.all_eq_true.1 hc2 _ (List.mem_of_getElem? hv))
      have ch : ∃ f : Nat → Value, ∀ j, j < n → w.cell? (Addr.add ⟨l.b, off, none⟩ j) = some (f j) ∧ ∀ v, ((c.drop off).take n)[j]? = some v → VR L v (f j) := by
        refine ⟨fun j => if hj : j < n then Classical.choose (key j hj) else undef, fun j hj => ?_⟩
        simp only [hj, dif_pos]
        exact Classical.choose_spec (key j hj)
      obtain ⟨f, hf⟩ := ch
      refine ⟨(List.range n).map f, VRs.of_get (by simp [hlen]) ?_, fun Q w0 hw0 => ?_⟩
      · intro j v v' hv hv'
        have hj : j < n := by have := (List.getElem?_eq_some_iff.1 hv).1; omega
        have : v' = f j := by simp [hj] at hv'; exact hv'.symm
        subst this
        exact (hf j hj).2 v hv
      · exact run_loadCells w0 _ n f fun j hj => by
          have := (hf j hj).1
          simpa [World.cell?, hw0] using this
    · cases hv
  · cases hv

theorem VR.one {v v' : Value} (h : VR L v v') (ho : one v = true) : v'.oneCell' = true := by
  cases h <;> simp_all [Wel.one, Value.oneCell']

theorem melts_one {fr : Nat × Nat} {s : Bool} {off n j : Nat} (h : melts fr s off n = true) (hj : j < n) : s = true ∨ ¬ (fr.1 ≤ off + j ∧ off + j < fr.2) := by
  simp only [melts, Bool.or_eq_true, decide_eq_true_eq] at h
  rcases h with (h | h) | h
  · exact .inl h
  · right; omega
  · right; omega

theorem Sim.put1 (h : Sim P L H w) {i off : Nat} {l : Lay} {v v' : Value} {H' : Heap} (hl : L[i]? = some l) (hp : H.put1 i off v = some H') (hv : VR L v v') :
    Sim P L H' (w.setCell ⟨l.b, off, none⟩ v') ∧ ∀ Q, (store ⟨l.b, off, none⟩ v').run Q w = .ok () (w.setCell ⟨l.b, off, none⟩ v') := by
  unfold Heap.put1 at hp
  split at hp
  · rename_i c e fr s hk
    split at hp
    · rename_i hc
      obtain ⟨hc1, hc2, hc3⟩ := hc
      cases hp
      refine ⟨h.setCell hl hk hv, fun Q => ?_⟩
      obtain ⟨u, hu, _⟩ := h.cell hl hk (List.getElem?_eq_getElem hc1)
      obtain ⟨c', f, h1, h8, h2, h3, h4, h5, _, h6⟩ := h.blk i l _ hl hk
      have hz := h.unfrozen hl hk (off := off) (by omega) (by simpa using melts_one hc3 (j := 0) (by omega))
      rw [run_store Q w _ _ _ (hv.one hc2), hu]
      simp [hz]
    · cases hp
  · cases hp

theorem Sim.putN (h : Sim P L H w) {i off : Nat} {l : Lay} {vs vs' : List Value} {H' : Heap} (hl : L[i]? = some l) (hp : H.putN i off vs = some H') (hv : VRs L vs vs') :
    ∃ w', Sim P L H' w' ∧ (∀ Q, (storeCells ⟨l.b, off, none⟩ vs').run Q w = .ok () w') := by
  unfold Heap.putN at hp
  split at hp
  · rename_i c e fr s hk
    split at hp
    · rename_i hc
      obtain ⟨hc1, hc2, hc3⟩ := hc
      cases hp
      have key : ∀ (vs vs' : List Value) (c : List Value) (H : Heap) (w : World) (k : Nat), VRs L vs vs' → Sim P L H w → H[i]? = some (.cells c e fr s) → vs.all one = true → off + k + vs.length ≤ c.length →
          (∀ j, j < vs.length → s = true ∨ ¬ (fr.1 ≤ off + k + j ∧ off + k + j < fr.2)) →
          ∃ w', Sim P L (H.set i (.cells (putL c (off + k) vs) e fr s)) w' ∧ ∀ Q, (storeCells ⟨l.b, off, none⟩ vs' k).run Q w = .ok () w' := by
        intro vs
        induction vs with
        | nil =>
          intro vs' c H w k hv h hk _ _ _
          cases hv
          have : H.set i (.cells c e fr s) = H := by
            apply List.ext_getElem?
            intro j
            by_cases hij : i = j
            · subst hij; rw [List.getElem?_set_self (List.getElem?_eq_some_iff.1 hk).1, hk]
            · rw [List.getElem?_set_ne hij]
          exact ⟨w, by simpa [putL, this] using h, fun Q => rfl⟩
        | cons v vs ih =>
          intro vs' c H w k hv h hk ho hlen hm
          cases hv with
          | @cons _ x' _ r' h1 h2 =>
            simp only [List.length_cons] at hlen hm
            simp only [List.all_cons, Bool.and_eq_true] at ho
            obtain ⟨u, hu, _⟩ := h.cell hl hk (List.getElem?_eq_getElem (show off + k < c.length by omega))
            obtain ⟨c', f, g1, g8, g2, g3, g4, g5, _, g6⟩ := h.blk i l _ hl hk
            have hz := h.unfrozen hl hk (off := off + k) (by omega) (by simpa using hm 0 (by omega))
            have hs := h.setCell hl hk (off := off + k) h1
            have hi : i < H.length := (List.getElem?_eq_some_iff.1 hk).1
            obtain ⟨w', hw1, hw2⟩ := ih _ (c.set (off + k) v) _ _ (k + 1) h2 hs (by rw [List.getElem?_set_self hi]) ho.2 (by simp; omega)
              (fun j hj => by have := hm (j + 1) (by omega); rwa [show off + k + (j + 1) = off + (k + 1) + j by omega] at this)
            refine ⟨w', ?_, fun Q => ?_⟩
            · rw [List.set_set] at hw1
              simpa [putL, Nat.add_assoc] using hw1
            · have ha : Addr.add ⟨l.b, off, none⟩ k = ⟨l.b, off + k, none⟩ := by
                unfold Addr.add; split
                · rename_i hz; subst hz; rfl
                · rfl
              have hr : (store (Addr.add ⟨l.b, off, none⟩ k) x').run Q w = .ok () (w.setCell ⟨l.b, off + k, none⟩ x') := by
                rw [ha, run_store Q w _ _ _ (h1.one ho.1), hu]
                simp only [hz, Bool.false_eq_true, if_false]
              simp only [storeCells, Sem.run_bind, hr, Result.andThen_ok]
              exact hw2 Q
      have := key vs vs' c H w 0 hv h hk hc2 (by simpa using hc1) (fun j hj => by simpa using melts_one hc3 hj)
      simpa using this
    · cases hp
  · cases hp

/-- New cells. -/
theorem Sim.newRow (h : Sim P L H w) {vs : List Value} {vs' : Array Value} (e : TypeId) (hv : VRs L vs vs'.toList) :
    Sim P (L ++ [⟨w.heap.size, vs.length, vs.length, P.cellsOf e, none⟩]) (H ++ [.cells vs e (0, 0) false]) { w with heap := w.heap.push (.cells vs' e) } := by
  refine h.alloc _ _ _ _ _ ⟨vs', _, rfl, rfl, rfl, by simpa using hv.length.symm, Nat.le_refl _, fun _ => trivial, rfl, ?_⟩
  intro i v hi
  obtain ⟨v', h1, h2⟩ := hv.get hi
  exact ⟨v', by simpa using h1, .inr (h2.mono (Lays.le_append _ _))⟩

theorem Sim.newPtr (h : Sim P L H w) (x : Lay) : (L ++ [x])[H.length]? = some x := by simp [← h.len]
end
end Go.Wel
