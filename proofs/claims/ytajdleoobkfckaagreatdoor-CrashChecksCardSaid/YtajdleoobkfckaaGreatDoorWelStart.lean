/- Where a call begins: the model's memory as it lies; and that what was not touched lies as it did. -/
import Derived.Test.YtajdleoobkfckaaGreatDoorWelLim
set_option linter.unusedSimpArgs false
set_option linter.unusedVariables false
namespace Go.Wel
open Go

/-- Each block stands for itself. -/
def layOf (P : Program) (w : World) (i : Nat) : Lay := match w.heap[i]? with
  | some (.cells c e _) => ⟨i, c.size, c.size, P.cellsOf e, some ⟨w, []⟩⟩
  | _ => ⟨i, 0, 0, 0, some ⟨w, []⟩⟩

def laysOf (P : Program) (w : World) : Lays := (List.range w.heap.size).map (layOf P w)

/-- A value that stands for itself, and for no other. -/
def Exact (L : Lays) (v : Value) : Prop := (VR L v v ∧ ∀ c, v ≠ .tuple c) ∧ ∀ L' v', L.le L' → VR L' v v' → v' = v

/-- What is handed on of a value whose address is not known: of an empty slice, its length. -/
def dim : Value → Value
  | .slice (some a) 0 0 => .slice (some a) 0 capE
  | v => .tuple #[v]

noncomputable def cellOf (L : Lays) (v : Value) : Value := open Classical in if Exact L v then v else dim v

noncomputable def blkOf (L : Lays) : Obj → Blk
  | .cells c e f => .cells (c.toList.map (cellOf L)) e f false
  | o => .foreign o

noncomputable def heapOf (P : Program) (w : World) : Heap := w.heap.toList.map (blkOf (laysOf P w))

section
variable {P : Program} {w : World}

theorem layOf_b (i : Nat) : (layOf P w i).b = i := by unfold layOf; split <;> rfl
theorem layOf_o (i : Nat) : (layOf P w i).o = some ⟨w, []⟩ := by unfold layOf; split <;> rfl

theorem lays_get {i : Nat} (h : i < w.heap.size) : (laysOf P w)[i]? = some (layOf P w i) := by simp [laysOf, h]
theorem lays_inv {i : Nat} {l : Lay} (h : (laysOf P w)[i]? = some l) : i < w.heap.size ∧ l = layOf P w i := by
  simp only [laysOf, List.getElem?_map] at h
  by_cases hi : i < w.heap.size
  · simp [hi] at h; exact ⟨hi, h.symm⟩
  · simp [hi] at h

theorem heap_get (i : Nat) : (heapOf P w)[i]? = (w.heap[i]?).map (blkOf (laysOf P w)) := by simp [heapOf]

theorem Exact.bool {L : Lays} (b : Bool) : Exact L (.bool b) := ⟨⟨.bool b, nofun⟩, fun _ _ _ h => by cases h; rfl⟩
theorem Exact.int {L : Lays} (k : IntKind) (n : Int) : Exact L (.int k n) := ⟨⟨.int k n, nofun⟩, fun _ _ _ h => by cases h; rfl⟩
theorem Exact.string {L : Lays} (s : ByteArray) : Exact L (.string s) := ⟨⟨.string s, nofun⟩, fun _ _ _ h => by cases h; rfl⟩
theorem Exact.nils {L : Lays} (n c : Nat) : Exact L (.slice none n c) := ⟨⟨.nils n c, nofun⟩, fun _ _ _ h => by cases h; rfl⟩
theorem Exact.ptr {i off : Nat} (h : i < w.heap.size) : Exact (laysOf P w) (.pointer (some ⟨i, off, none⟩)) := by
  refine ⟨⟨?_, nofun⟩, fun L' v' hle hv => ?_⟩
  · have := VR.ptr (off := off) (lays_get (P := P) h)
    rwa [layOf_b] at this
  · cases hv with
    | ptr h' =>
      have := hle _ _ (lays_get (P := P) h)
      rw [this] at h'; cases h'
      rw [layOf_b]
theorem Exact.slice {i off len cap : Nat} (h : i < w.heap.size) (hc : cap ≠ capU ∧ cap ≠ capE) : Exact (laysOf P w) (.slice (some ⟨i, off, none⟩) len cap) := by
  refine ⟨⟨?_, nofun⟩, fun L' v' hle hv => ?_⟩
  · have := VR.slice (off := off) (len := len) (lays_get (P := P) h) hc
    rwa [layOf_b] at this
  · cases hv with
    | slice h' _ =>
      have := hle _ _ (lays_get (P := P) h)
      rw [this] at h'; cases h'
      rw [layOf_b]
    | sliceU => exact absurd rfl hc.1
    | lit => exact absurd rfl hc.2

theorem cellOf_exact {L : Lays} {v : Value} (h : Exact L v) : cellOf L v = v := by unfold cellOf; rw [if_pos h]

theorem cellOf_rel (L : Lays) (v : Value) : CR L (cellOf L v) v := by
  unfold cellOf
  split
  · rename_i h; exact .inr h.1.1
  · unfold dim
    split
    · exact .inr (.lit _)
    · exact .inl rfl

theorem cellOf_back {L L' : Lays} {v v' : Value} (hle : L.le L') (h : CR L' (cellOf L v) v') : v' = v := by
  unfold cellOf at h
  split at h
  · rename_i hx
    rcases h with h | h
    · exact absurd h (hx.1.2 _)
    · exact hx.2 L' v' hle h
  · rename_i hx
    unfold dim at h
    split at h
    · rcases h with h | h
      · cases h
      · generalize hq : capE = q at h
        cases h with
        | slice _ hc => exact absurd hq.symm hc.2
        | sliceU => have := capE_eq; omega
        | lit => rfl
    rcases h with h | h
    · have := congrArg (fun x : Value => match x with | .tuple c => c[0]? | _ => none) h
      simp at this; exact this.symm
    · exfalso
      cases h with
      | tuple h hn =>
        refine hn ⟨rfl, fun b hb => ?_⟩
        have := congrArg (fun a : Array Value => a[0]?) hb
        simp at this
        exact hx (this ▸ Exact.bool b)

/-- The memory at the start. -/
theorem start_sim (P : Program) (w : World) : Sim P (laysOf P w) (heapOf P w) w := by
  refine ⟨by simp [laysOf, heapOf], ?_, ?_, ?_, ?_⟩
  · intro i l hl
    obtain ⟨h1, rfl⟩ := lays_inv hl
    rw [layOf_b]; exact h1
  · intro i j l l' k k' hl hl' _ _ _ _ he
    obtain ⟨_, rfl⟩ := lays_inv hl
    obtain ⟨_, rfl⟩ := lays_inv hl'
    rwa [layOf_b, layOf_b] at he
  · intro i l k hl hk
    obtain ⟨hi, rfl⟩ := lays_inv hl
    rw [heap_get] at hk
    rw [layOf_b]
    cases ho : w.heap[i]? with
    | none => rw [ho] at hk; cases hk
    | some o =>
      rw [ho] at hk
      simp only [Option.map_some, Option.some.injEq] at hk
      subst hk
      cases o with
      | cells c e f =>
        have hlay : layOf P w i = ⟨i, c.size, c.size, P.cellsOf e, some ⟨w, []⟩⟩ := by unfold layOf; rw [ho]
        rw [hlay]
        refine ⟨c, f, rfl, rfl, by simp, rfl, Nat.le_refl _, fun _ => trivial, rfl, fun j v hj => ?_⟩
        rw [List.getElem?_map] at hj
        cases hc : c[j]? with
        | none => rw [← Array.getElem?_toList] at hc; rw [hc] at hj; cases hj
        | some x =>
          have hc' := hc
          rw [← Array.getElem?_toList] at hc; rw [hc] at hj
          cases hj
          exact ⟨x, rfl, cellOf_rel _ x⟩
      | _ => rfl
  · intro i l w₀ hl ho
    obtain ⟨_, rfl⟩ := lays_inv hl
    rw [layOf_o] at ho; cases ho
    exact ⟨⟨rfl, rfl⟩, nofun⟩

theorem start_glob {gn : Nat} (h : gn ≤ w.heap.size) : Glob gn (laysOf P w) := fun g hg => ⟨_, lays_get (Nat.lt_of_lt_of_le hg h), layOf_b g⟩

/-- What was not touched lies as it did. -/
theorem back {L' : Lays} {H' : Heap} {w' : World} (hle : (laysOf P w).le L') (hs : Sim P L' H' w') {i : Nat} (hi : i < w.heap.size) (hH : H'[i]? = (heapOf P w)[i]?) : w'.heap[i]? = w.heap[i]? := by
  have hl := hle _ _ (lays_get (P := P) hi)
  rw [heap_get, Array.getElem?_eq_getElem hi, Option.map_some] at hH
  have hb := hs.blk i _ _ hl hH
  rw [layOf_b] at hb
  rw [Array.getElem?_eq_getElem hi]
  generalize ho : w.heap[i] = o at hb hH
  have ho' : w.heap[i]? = some o := by rw [Array.getElem?_eq_getElem hi, ho]
  cases o with
  | cells c e f =>
    have hlay : layOf P w i = ⟨i, c.size, c.size, P.cellsOf e, some ⟨w, []⟩⟩ := by unfold layOf; rw [ho']
    rw [hlay] at hb
    obtain ⟨c', f', h1, h2, h3, h4, h5, _, _, h6⟩ := hb
    simp only [FrOk, Bool.false_eq_true, if_false] at h2
    subst h2
    have : c' = c := by
      apply Array.ext_getElem?
      intro j
      cases hc : c[j]? with
      | none =>
        rw [Array.getElem?_eq_none_iff] at hc
        rw [Array.getElem?_eq_none_iff, h4]; exact hc
      | some x =>
        obtain ⟨v', h7, h8⟩ := h6 j (cellOf (laysOf P w) x) (by rw [List.getElem?_map, Array.getElem?_toList, hc]; rfl)
        rw [h7, cellOf_back hle h8]
    rw [h1, this]
  | _ => exact hb

/-- And the outer world. -/
theorem back_out {L' : Lays} {H' : Heap} {w' : World} (hle : (laysOf P w).le L') (hs : Sim P L' H' w') (h0 : 0 < w.heap.size) : w'.os = w.os ∧ w'.output = w.output :=
  (hs.out 0 _ ⟨w, []⟩ (hle _ _ (lays_get h0)) (layOf_o 0)).1

/-- A call that leaves all as it was, and makes new blocks at most. -/
theorem calls_of {E : Env} (hov : OvOK E) {keep : FuncId → Ex → List Nat} {ann : FuncId → An} {f : FuncId} {args : List Value} {args' : Array Value} {v : Value} {J : Heap} (hg : E.gn ≤ w.heap.size) (h0 : 0 < w.heap.size) (ha : TRs (laysOf E.P w) args args'.toList)
    (h : callΩ E keep ann (.call f args) (heapOf E.P w) = .ret v (heapOf E.P w ++ J)) :
    Calls E.P f args' w fun e w' => ∃ L' v', e = .returned v' ∧ VR L' v v' ∧ (w'.os = w.os ∧ w'.output = w.output) ∧ ∀ i, i < w.heap.size → w'.heap[i]? = w.heap[i]? := by
  have hc := (sound_callΩ E keep ann hov).call f args (heapOf E.P w) (by rw [h]; simp) (laysOf E.P w) w args'.toList (start_sim E.P w) ha (start_glob hg)
  rw [h, callsIn_wide, Array.toArray_toList] at hc
  refine Calls.mono hc fun e w' ⟨L', v', he, hle, hs, hv⟩ => ⟨L', v', he, hv, back_out hle hs h0, fun i hi => back hle hs hi ?_⟩
  rw [List.getElem?_append_left (by simp [heapOf]; exact hi)]
end
end Go.Wel
