/- What an argument's reading says of the memory at the start; and what is asked of old memory behind a call. -/
import Derived.Test.YtajdleoobkfckaaGreatDoorWelLib
import Derived.ProofKit
import Derived.Lib.SmallJoins
set_option linter.unusedSimpArgs false
set_option linter.unusedVariables false
namespace Go.Wel
open Go

section
variable {P : Program} {w : World}

theorem cell_block {a : Addr} {v : Value} (h : w.cell? a = some v) : a.spot = none ∧ ∃ c e f, w.heap[a.block]? = some (.cells c e f) ∧ c[a.off]? = some v := by
  unfold World.cell? at h
  split at h
  · rename_i c e f hb
    split at h
    · cases h
    · rename_i hs
      exact ⟨by cases hh : a.spot with
        | none => rfl
        | some x => simp [hh] at hs, c, e, f, hb, h⟩
  · cases h

theorem cell_lt {a : Addr} {v : Value} (h : w.cell? a = some v) : a.block < w.heap.size := by
  obtain ⟨_, c, e, f, hb, _⟩ := cell_block h
  exact (Array.getElem?_eq_some_iff.1 hb).1

theorem heap_row {b off : Nat} {l l' : List Value} (hl : 0 < l.length) (h : ∀ j v, l[j]? = some v → w.cell? ⟨b, off + j, none⟩ = some v) (hv : l.map (cellOf (laysOf P w)) = l') (ha : l'.all isVal = true) :
    (heapOf P w).getN b off l.length = some l' := by
  subst hv
  have h0 := h 0 l[0] (by simp)
  obtain ⟨_, c, e, f, hb, _⟩ := cell_block h0
  have hc : ∀ j v, l[j]? = some v → c[off + j]? = some v := fun j v hj => by
    obtain ⟨_, c', e', f', hb', hc'⟩ := cell_block (h j v hj)
    dsimp only at hb hb' hc'
    rw [hb] at hb'; cases hb'; exact hc'
  have hlen : off + l.length ≤ c.size := by
    have := hc (l.length - 1) _ (List.getElem?_eq_getElem (by omega))
    have := (Array.getElem?_eq_some_iff.1 this).1
    omega
  have heq : ((c.toList.map (cellOf (laysOf P w))).drop off).take l.length = l.map (cellOf (laysOf P w)) := by
    apply List.ext_getElem?
    intro j
    by_cases hj : j < l.length
    · rw [List.getElem?_take, if_pos hj, List.getElem?_drop, List.getElem?_map, List.getElem?_map, Array.getElem?_toList, hc j _ (List.getElem?_eq_getElem hj), List.getElem?_eq_getElem hj]
    · rw [List.getElem?_take, if_neg hj, List.getElem?_eq_none (by simp; omega)]
  have hH : (heapOf P w)[b]? = some (.cells (c.toList.map (cellOf (laysOf P w))) e f false) := by
    rw [heap_get]; dsimp only at hb; rw [hb]; rfl
  unfold Heap.getN
  rw [hH]
  dsimp only
  rw [heq, if_pos ⟨by simpa using hlen, ha⟩]

theorem heap_at {b off : Nat} {v : Value} (h : w.cell? ⟨b, off, none⟩ = some v) (hv : isVal (cellOf (laysOf P w) v) = true) : (heapOf P w).get1 b off = some (cellOf (laysOf P w) v) := by
  obtain ⟨_, c, e, f, hb, hc⟩ := cell_block h
  dsimp only at hb hc
  have hH : (heapOf P w)[b]? = some (.cells (c.toList.map (cellOf (laysOf P w))) e f false) := by
    rw [heap_get, hb]; rfl
  unfold Heap.get1
  rw [hH]
  dsimp only
  rw [List.getElem?_map, Array.getElem?_toList, hc]
  simp [hv]

@[simp] theorem cellOf_int (L : Lays) (k : IntKind) (n : Int) : cellOf L (.int k n) = .int k n := cellOf_exact (.int k n)
@[simp] theorem cellOf_bool (L : Lays) (b : Bool) : cellOf L (.bool b) = .bool b := cellOf_exact (.bool b)
@[simp] theorem cellOf_string (L : Lays) (s : ByteArray) : cellOf L (.string s) = .string s := cellOf_exact (.string s)
@[simp] theorem cellOf_nils (L : Lays) (n c : Nat) : cellOf L (.slice none n c) = .slice none n c := cellOf_exact (.nils n c)

theorem maxLen_capU {cap : Nat} (h : cap ≤ maxLen) : cap ≠ capU ∧ cap ≠ capE := by unfold maxLen at h; unfold capU capE; omega

theorem exact_slice {a : Addr} {len cap : Nat} (hs : a.spot = none) (hb : a.block < w.heap.size) (hc : cap ≤ maxLen) : Exact (laysOf P w) (.slice (some a) len cap) := by
  obtain ⟨b, off, spot⟩ := a
  dsimp only at hs hb
  subst hs
  exact Exact.slice hb (maxLen_capU hc)

/-- A slice in old memory: its place and length are known, or it is empty and without room. -/
theorem cellOf_slice {a : Addr} {len cap : Nat} (hc : cap ≤ maxLen) (hl : len ≤ cap) (h : 0 < cap → ∃ v, w.cell? a = some v) : ∃ cap', cellOf (laysOf P w) (.slice (some a) len cap) = .slice (some a) len cap' := by
  rcases Nat.eq_zero_or_pos cap with h0 | h0
  · obtain rfl : len = 0 := by omega
    subst h0
    by_cases he : Exact (laysOf P w) (.slice (some a) 0 0)
    · exact ⟨_, cellOf_exact he⟩
    · refine ⟨capE, ?_⟩
      unfold cellOf
      rw [if_neg he]; rfl
  · obtain ⟨v, hv⟩ := h h0
    exact ⟨_, cellOf_exact (exact_slice (cell_block hv).1 (cell_lt hv) hc)⟩
end

/-- Each old block lies as it did: so nothing was turned. -/
theorem kept_of {w w' : World} (ho : w'.os = w.os) (ho' : w'.output = w.output) (h : ∀ i, i < w.heap.size → w'.heap[i]? = w.heap[i]?) (may : MemPlace → Prop) : w.keptBut w' may := by
  refine ⟨ho, ho', fun i hi => ?_⟩
  rw [h i hi]
  cases w.heap[i]? with
  | none => simp
  | some o => cases o <;> simp

theorem same_of {w w' : World} (h : ∀ i, i < w.heap.size → w'.heap[i]? = w.heap[i]?) {p : MemPlace} (hp : p.block < w.heap.size) : w.sameAt w' p := by
  cases p with
  | cell b off => show w'.cell? _ = w.cell? _; unfold World.cell?; rw [h b hp]
  | map b => exact h b hp
end Go.Wel
