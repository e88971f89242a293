/- Contracts: which scripts may be: the document's answer. -/
import Derived.Test.YtajdleoobkfckaaGreatDoorCrA
set_option linter.unusedSimpArgs false
set_option linter.unusedVariables false
namespace Go.Wel
open Go Go.Proofs

theorem same19_spec (H : Heap) (a b : Option Addr) (c d : Nat) : vW (.call 35 [.slice a 0 c, .slice b 0 d]) H = .ret (.bool true) H := by
  refine v35_call ?_ (by simp)
  have h : loopΩ (v35_L2 vW) [.slice a 0 c, .slice b 0 d, .int .i64 0] H = .ret ⟨.exit 0, []⟩ H := loopΩ_done (by simp [v35_L2, v35_b0, aBuiltin]) (by simp)
  simp [v35, v35_c, v35_k3, h, resM, isVal]
theorem cur22_spec (H : Heap) (a b : Option Addr) (c d : Nat) : vW (.call 36 [.slice a 0 c, .slice b 0 d]) H = .ret (.bool true) H := by
  refine v36_call ?_ (by simp)
  have h : loopΩ (v36_L2 vW) [.slice a 0 c, .slice b 0 d, .int .i64 0] H = .ret ⟨.exit 0, []⟩ H := loopΩ_done (by simp [v36_L2, v36_b0, aBuiltin]) (by simp)
  simp [v36, v36_c, v36_k3, h, resM, isVal]
theorem eqTexts_spec (H : Heap) (a b : Option Addr) (c d : Nat) : vW (.call 37 [.slice a 0 c, .slice b 0 d]) H = .ret (.bool true) H := by
  refine v37_call ?_ (by simp)
  have h : loopΩ (v37_L2 vW) [.slice a 0 c, .slice b 0 d, .int .i64 0] H = .ret ⟨.exit 0, []⟩ H := loopΩ_done (by simp [v37_L2, v37_b0, aBuiltin]) (by simp)
  simp [v37, v37_c, v37_k3, h, resM, isVal]

theorem g65 : Tryz.prog.eqGuardType Tryz.prog.depth 65 = false := by kernel_rfl
theorem g67 : Tryz.prog.eqGuardType Tryz.prog.depth 67 = false := by kernel_rfl
theorem g72 : Tryz.prog.eqGuardType Tryz.prog.depth 72 = false := by kernel_rfl
theorem e65 (H : Heap) : eqv Tryz.prog 65 (.agg #[.int .i64 0, .int .i64 0]) (.agg #[.int .i64 0, .int .i64 0]) H = some true := by kernel_rfl
theorem e67 (H : Heap) : eqv Tryz.prog 67 (.agg #[.int .i64 0, .int .i64 0]) (.agg #[.int .i64 0, .int .i64 0]) H = some true := by kernel_rfl
theorem e72 (H : Heap) : eqv Tryz.prog 72 (.agg #[.int .i64 0, .int .i64 0, .int .i64 0, .int .i64 0, .int .i64 0, .int .i64 0, .int .i64 0, .int .i64 0, .int .i64 0]) (.agg #[.int .i64 0, .int .i64 0, .int .i64 0, .int .i64 0, .int .i64 0, .int .i64 0, .int .i64 0, .int .i64 0, .int .i64 0]) H = some true := by kernel_rfl
theorem b65 (x y : Operand) (H : Heap) : aBin Tryz.prog .eql 65 x y (.agg #[.int .i64 0, .int .i64 0]) (.agg #[.int .i64 0, .int .i64 0]) H = .ret (.bool true) H := by
  rw [bin_agg g65]; exact congrArg (fun o => eqOut .eql o H) (e65 H)
theorem b67 (x y : Operand) (H : Heap) : aBin Tryz.prog .eql 67 x y (.agg #[.int .i64 0, .int .i64 0]) (.agg #[.int .i64 0, .int .i64 0]) H = .ret (.bool true) H := by
  rw [bin_agg g67]; exact congrArg (fun o => eqOut .eql o H) (e67 H)
theorem b72 (x y : Operand) (H : Heap) : aBin Tryz.prog .eql 72 x y (.agg #[.int .i64 0, .int .i64 0, .int .i64 0, .int .i64 0, .int .i64 0, .int .i64 0, .int .i64 0, .int .i64 0, .int .i64 0]) (.agg #[.int .i64 0, .int .i64 0, .int .i64 0, .int .i64 0, .int .i64 0, .int .i64 0, .int .i64 0, .int .i64 0, .int .i64 0]) H = .ret (.bool true) H := by
  rw [bin_agg g72]; exact congrArg (fun o => eqOut .eql o H) (e72 H)
theorem bool_eql {P : Program} {t : TypeId} {x y : Operand} {a b : Bool} {H : Heap} (h : P.underlying t = some .bool) : aBin P .eql t x y (.bool a) (.bool b) H = .ret (.bool (a == b)) H := by
  simp [aBin, eqv, h, eqOut]
theorem str_eql {P : Program} {t : TypeId} {x y : Operand} {a b : ByteArray} {H : Heap} : aBin P .eql t x y (.string a) (.string b) H = .ret (.bool (a.toList == b.toList)) H := by
  simp [aBin, strBin]
/-- The reply of which nothing is said. -/
def rep0 : List Value := [.int .i64 0, .int .i64 0, .int .i64 0, .int .i64 0, .string .empty, .bool false, .int .i64 0, .int .i64 0, .slice none 0 0, .slice none 0 0, .slice none 0 0, .int .i64 0, .int .i64 0, .int .i64 0, .int .i64 0, .int .i64 0, .int .i64 0, .int .i64 0, .int .i64 0, .int .i64 0]

theorem same25_spec (H : Heap) : ∃ J, vW (.call 21 [.agg rep0.toArray, .agg rep0.toArray]) H = .ret (.bool true) (H ++ J) := by
  refine ⟨[.cells rep0 74 (0, 0) false, .cells rep0 74 (0, 0) false], v21_call (H := H) (r := .ret (.bool true) (H ++ [.cells rep0 74 (0, 0) false, .cells rep0 74 (0, 0) false])) ?_ (by simp)⟩
  simp [v21, v21_c, rep0, isVal, b65, b67, b72, bool_eql Tryz.underlying4, str_eql, inv_eq v35_ok, inv_eq v36_ok, inv_eq v37_ok, same19_spec, cur22_spec, eqTexts_spec, resM]

/-- none: is nothing said? -/
theorem none_spec (H : Heap) (s : Step) : ∃ J, vW (.call 23 [.agg s.cells.toArray]) H = .ret (.bool s.bare) (H ++ J) := by
  obtain ⟨J, hJ⟩ := same25_spec (H ++ [.cells s.cells 50 (0, 0) false])
  refine ⟨[.cells s.cells 50 (0, 0) false] ++ J, v23_call (H := H) (r := .ret (.bool s.bare) (H ++ ([.cells s.cells 50 (0, 0) false] ++ J))) ?_ (by simp)⟩
  simp only [rep0, Step.cells, Cmd.cells, List.append_assoc] at hJ
  simp at hJ
  simp [v23, v23_c, inv_eq v21_ok, hJ, isVal, Step.cells, Cmd.cells, buildS, Instr.fill, Value.cells, cmd_bin]
  by_cases h1 : s.cmd.none = true
  · by_cases h2 : s.after = 0
    · by_cases h3 : s.n = 0
      · by_cases h4 : s.at' = 0
        · by_cases h5 : s.by' = 0 <;>
            simp [Step.bare, h1, h2, h3, h4, h5, isVal, resM]
        · simp [Step.bare, h1, h2, h3, h4, isVal, resM]
      · simp [Step.bare, h1, h2, h3, isVal, resM]
    · simp [Step.bare, h1, h2, isVal, resM]
  · simp [Step.bare, h1, isVal, resM]

/-- What a step may be, on a device of a size. -/
def Step.may (s : Step) (size : Int) (xs : List Int) : Bool :=
  if s.kind = 1 then Step.bare { s with cmd := Cmd.zero }
  else if s.kind = 2 then (if s.after < 1 then false else if s.after > 2147483647 then false else if (s.n : Int) > 65536 then false else if xs.any (fun x => decide (x < 0)) = true then false else Step.bare { s with after := 0, keep := none, n := 0, cap := 0 })
  else if s.kind = 3 then s.bare
  else if s.kind = 4 then (if s.at' < 0 then false else if s.at' ≥ size then false else Step.bare { s with at' := 0, by' := 0 })
  else false

/-- What a step's cells come to. -/
theorem Step.cells_mk (k : Int) (c : Cmd) (a : Int) (p : Option Addr) (n cap : Nat) (x y : Int) : Step.cells ⟨k, c, a, p, n, cap, x, y⟩ =
    [.int .i64 k, .int .i64 c.kind, .string c.doc, .int .u32 c.id, .int .i64 c.lo, .int .i64 c.hi, .string c.text, .int .u8 c.gr, .int .i64 a, .slice p n cap, .int .i64 x, .int .u8 y] := rfl

section may
variable (H : Heap) (cmd : Cmd) (after : Int) (keep : Option Addr) (n cap : Nat) (at' by' size : Int)

theorem may1 : ∃ J, v11 vW (.agg (Step.cells ⟨1, cmd, after, keep, n, cap, at', by'⟩).toArray) (.int .i64 size) H = .ret (.bool (Step.bare ⟨1, .zero, after, keep, n, cap, at', by'⟩)) (H ++ J) := by
  obtain ⟨J, hJ⟩ := bare_spec (H ++ [.cells (Step.cells ⟨1, .zero, after, keep, n, cap, at', by'⟩) 50 (0, 0) false]) ⟨1, .zero, after, keep, n, cap, at', by'⟩
  refine ⟨[.cells (Step.cells ⟨1, .zero, after, keep, n, cap, at', by'⟩) 50 (0, 0) false] ++ J, ?_⟩
  simp [Step.cells_mk, Cmd.zero] at hJ
  simp [v11, v11_c, v11_k3, v11_k2, inv_eq v22_ok, isVal, Step.cells_mk, Cmd.zero, buildS, Instr.fill, Value.cells, putL, one, melts, resM, hJ]

theorem may3 : ∃ J, v11 vW (.agg (Step.cells ⟨3, cmd, after, keep, n, cap, at', by'⟩).toArray) (.int .i64 size) H = .ret (.bool (Step.bare ⟨3, cmd, after, keep, n, cap, at', by'⟩)) (H ++ J) := by
  obtain ⟨J, hJ⟩ := bare_spec (H ++ [.cells (Step.cells ⟨3, cmd, after, keep, n, cap, at', by'⟩) 50 (0, 0) false]) ⟨3, cmd, after, keep, n, cap, at', by'⟩
  refine ⟨[.cells (Step.cells ⟨3, cmd, after, keep, n, cap, at', by'⟩) 50 (0, 0) false] ++ J, ?_⟩
  simp [Step.cells_mk] at hJ
  simp [v11, v11_c, v11_k3, v11_k2, v11_k1, v11_k0, inv_eq v22_ok, isVal, Step.cells_mk, resM, hJ]

theorem may4 : ∃ J, v11 vW (.agg (Step.cells ⟨4, cmd, after, keep, n, cap, at', by'⟩).toArray) (.int .i64 size) H =
    .ret (.bool (if at' < 0 then false else if at' ≥ size then false else Step.bare ⟨4, cmd, after, keep, n, cap, 0, 0⟩)) (H ++ J) := by
  by_cases h1 : at' < 0
  · exact ⟨[.cells (Step.cells ⟨4, cmd, after, keep, n, cap, at', by'⟩) 50 (0, 0) false], by
      simp [v11, v11_c, v11_k3, v11_k2, v11_k1, v11_k0, isVal, Step.cells_mk, resM, h1]⟩
  · by_cases h2 : at' ≥ size
    · exact ⟨[.cells (Step.cells ⟨4, cmd, after, keep, n, cap, at', by'⟩) 50 (0, 0) false], by
        simp [v11, v11_c, v11_k3, v11_k2, v11_k1, v11_k0, isVal, Step.cells_mk, resM, h1, h2]⟩
    · obtain ⟨J, hJ⟩ := bare_spec (H ++ [.cells (Step.cells ⟨4, cmd, after, keep, n, cap, 0, 0⟩) 50 (0, 0) false]) ⟨4, cmd, after, keep, n, cap, 0, 0⟩
      refine ⟨[.cells (Step.cells ⟨4, cmd, after, keep, n, cap, 0, 0⟩) 50 (0, 0) false] ++ J, ?_⟩
      simp [Step.cells_mk] at hJ
      simp [v11, v11_c, v11_k3, v11_k2, v11_k1, v11_k0, inv_eq v22_ok, isVal, Step.cells_mk, putL, one, melts, resM, hJ, h1, h2]
theorem may2 (xs : List Int) (hx : Ints H keep n xs) : ∃ J, v11 vW (.agg (Step.cells ⟨2, cmd, after, keep, n, cap, at', by'⟩).toArray) (.int .i64 size) H =
    .ret (.bool (if after < 1 then false else if after > 2147483647 then false else if (n : Int) > 65536 then false else if xs.any (fun x => decide (x < 0)) = true then false else Step.bare ⟨2, cmd, 0, none, 0, 0, at', by'⟩)) (H ++ J) := by
  have hneg := neg_spec (H ++ [.cells (Step.cells ⟨2, cmd, after, keep, n, cap, at', by'⟩) 50 (0, 0) false]) keep n cap xs hx.app
  simp [Step.cells_mk] at hneg
  by_cases h1 : after < 1
  · exact ⟨[.cells (Step.cells ⟨2, cmd, after, keep, n, cap, at', by'⟩) 50 (0, 0) false], by
      simp [v11, v11_c, v11_k3, v11_k2, v11_k1, v11_k0, isVal, Step.cells_mk, resM, h1]⟩
  · by_cases h2 : after > 2147483647
    · exact ⟨[.cells (Step.cells ⟨2, cmd, after, keep, n, cap, at', by'⟩) 50 (0, 0) false], by
        simp [v11, v11_c, v11_k3, v11_k2, v11_k1, v11_k0, isVal, Step.cells_mk, resM, h1, h2]⟩
    · by_cases h3 : (n : Int) > 65536
      · exact ⟨[.cells (Step.cells ⟨2, cmd, after, keep, n, cap, at', by'⟩) 50 (0, 0) false], by
          simp [v11, v11_c, v11_k3, v11_k2, v11_k1, v11_k0, isVal, Step.cells_mk, resM, h1, h2, h3]⟩
      · cases h4 : xs.any (fun x => decide (x < 0)) with
        | true =>
          rw [h4] at hneg
          exact ⟨[.cells (Step.cells ⟨2, cmd, after, keep, n, cap, at', by'⟩) 50 (0, 0) false], by
            simp [v11, v11_c, v11_k3, v11_k2, v11_k1, v11_k0, isVal, Step.cells_mk, resM, inv_eq v16_ok, hneg, h1, h2, h3]⟩
        | false =>
          rw [h4] at hneg
          obtain ⟨J, hJ⟩ := bare_spec (H ++ [.cells (Step.cells ⟨2, cmd, 0, none, 0, 0, at', by'⟩) 50 (0, 0) false]) ⟨2, cmd, 0, none, 0, 0, at', by'⟩
          refine ⟨[.cells (Step.cells ⟨2, cmd, 0, none, 0, 0, at', by'⟩) 50 (0, 0) false] ++ J, ?_⟩
          simp [Step.cells_mk] at hJ
          simp [v11, v11_c, v11_k3, v11_k2, v11_k1, v11_k0, inv_eq v22_ok, inv_eq v16_ok, isVal, Step.cells_mk, one, melts, buildS, Instr.fill, Value.cells, putL, one, melts, resM, hneg, hJ, h1, h2, h3]

theorem may0 (kind : Int) (k1 : kind ≠ 1) (k2 : kind ≠ 2) (k3 : kind ≠ 3) (k4 : kind ≠ 4) : ∃ J, v11 vW (.agg (Step.cells ⟨kind, cmd, after, keep, n, cap, at', by'⟩).toArray) (.int .i64 size) H = .ret (.bool false) (H ++ J) := by
  have e1 : (kind == 1) = false := by simpa using k1
  have e2 : (kind == 2) = false := by simpa using k2
  have e3 : (kind == 3) = false := by simpa using k3
  have e4 : (kind == 4) = false := by simpa using k4
  exact ⟨[.cells (Step.cells ⟨kind, cmd, after, keep, n, cap, at', by'⟩) 50 (0, 0) false], by
    simp [v11, v11_c, v11_k3, v11_k2, v11_k1, v11_k0, isVal, Step.cells_mk, resM, e1, e2, e3, e4]⟩
end may

theorem may_spec (H : Heap) (s : Step) (size : Int) (xs : List Int) (hx : Ints H s.keep s.n xs) : ∃ J, vW (.call 11 [.agg s.cells.toArray, .int .i64 size]) H = .ret (.bool (s.may size xs)) (H ++ J) := by
  obtain ⟨kind, cmd, after, keep, n, cap, at', by'⟩ := s
  have fin : ∀ b, (∃ J, v11 vW (.agg (Step.cells ⟨kind, cmd, after, keep, n, cap, at', by'⟩).toArray) (.int .i64 size) H = .ret (.bool b) (H ++ J)) →
      ∃ J, vW (.call 11 [.agg (Step.cells ⟨kind, cmd, after, keep, n, cap, at', by'⟩).toArray, .int .i64 size]) H = .ret (.bool b) (H ++ J) := fun b ⟨J, hJ⟩ => ⟨J, v11_call hJ (by simp)⟩
  refine fin _ ?_
  unfold Step.may
  simp only
  by_cases k1 : kind = 1
  · subst k1; rw [if_pos rfl]; exact may1 ..
  · by_cases k2 : kind = 2
    · subst k2; rw [if_neg (by decide), if_pos rfl]; exact may2 (hx := hx) ..
    · by_cases k3 : kind = 3
      · subst k3; rw [if_neg (by decide), if_neg (by decide), if_pos rfl]; exact may3 ..
      · by_cases k4 : kind = 4
        · subst k4; rw [if_neg (by decide), if_neg (by decide), if_neg (by decide), if_pos rfl]; exact may4 ..
        · rw [if_neg k1, if_neg k2, if_neg k3, if_neg k4]; exact may0 (k1 := k1) (k2 := k2) (k3 := k3) (k4 := k4) ..

/-! ### The document's -/
section rmay
variable (H : Heap) (cmd : Cmd) (after : Int) (keep : Option Addr) (n cap : Nat) (at' by' size : Int)

theorem rmay1 : ∃ J, v12 vW (.agg (Step.cells ⟨1, cmd, after, keep, n, cap, at', by'⟩).toArray) (.int .i64 size) H = .ret (.bool (Step.bare ⟨1, .zero, after, keep, n, cap, at', by'⟩)) (H ++ J) := by
  obtain ⟨J, hJ⟩ := none_spec (H ++ [.cells (Step.cells ⟨1, cmd, after, keep, n, cap, at', by'⟩) 50 (0, 0) false, .cells (Step.cells ⟨1, .zero, after, keep, n, cap, at', by'⟩) 50 (0, 0) false]) ⟨1, .zero, after, keep, n, cap, at', by'⟩
  refine ⟨[.cells (Step.cells ⟨1, cmd, after, keep, n, cap, at', by'⟩) 50 (0, 0) false, .cells (Step.cells ⟨1, .zero, after, keep, n, cap, at', by'⟩) 50 (0, 0) false] ++ J, ?_⟩
  simp [Step.cells_mk, Cmd.zero] at hJ
  simp [v12, v12_c, v12_k7, v12_k6, inv_eq v23_ok, isVal, Step.cells_mk, Cmd.zero, buildS, Instr.fill, Value.cells, putL, one, melts, resM, hJ]

theorem rmay3 : ∃ J, v12 vW (.agg (Step.cells ⟨3, cmd, after, keep, n, cap, at', by'⟩).toArray) (.int .i64 size) H = .ret (.bool (Step.bare ⟨3, cmd, after, keep, n, cap, at', by'⟩)) (H ++ J) := by
  obtain ⟨J, hJ⟩ := none_spec (H ++ [.cells (Step.cells ⟨3, cmd, after, keep, n, cap, at', by'⟩) 50 (0, 0) false, .cells (Step.cells ⟨3, cmd, after, keep, n, cap, at', by'⟩) 50 (0, 0) false]) ⟨3, cmd, after, keep, n, cap, at', by'⟩
  refine ⟨[.cells (Step.cells ⟨3, cmd, after, keep, n, cap, at', by'⟩) 50 (0, 0) false, .cells (Step.cells ⟨3, cmd, after, keep, n, cap, at', by'⟩) 50 (0, 0) false] ++ J, ?_⟩
  simp [Step.cells_mk] at hJ
  simp [v12, v12_c, v12_k7, v12_k6, v12_k5, v12_k4, inv_eq v23_ok, isVal, Step.cells_mk, putL, one, melts, resM, hJ]

theorem rmay4 : ∃ J, v12 vW (.agg (Step.cells ⟨4, cmd, after, keep, n, cap, at', by'⟩).toArray) (.int .i64 size) H =
    .ret (.bool (if at' < 0 then false else if at' ≥ size then false else Step.bare ⟨4, cmd, after, keep, n, cap, 0, 0⟩)) (H ++ J) := by
  by_cases h1 : at' < 0
  · exact ⟨[.cells (Step.cells ⟨4, cmd, after, keep, n, cap, at', by'⟩) 50 (0, 0) false, .cells (Step.cells ⟨4, cmd, after, keep, n, cap, 0, 0⟩) 50 (0, 0) false], by
      simp [v12, v12_c, v12_k7, v12_k6, v12_k5, v12_k4, isVal, Step.cells_mk, putL, one, melts, resM, h1]⟩
  · by_cases h2 : at' ≥ size
    · exact ⟨[.cells (Step.cells ⟨4, cmd, after, keep, n, cap, at', by'⟩) 50 (0, 0) false, .cells (Step.cells ⟨4, cmd, after, keep, n, cap, 0, 0⟩) 50 (0, 0) false], by
        simp [v12, v12_c, v12_k7, v12_k6, v12_k5, v12_k4, isVal, Step.cells_mk, putL, one, melts, resM, h1, h2]⟩
    · obtain ⟨J, hJ⟩ := none_spec (H ++ [.cells (Step.cells ⟨4, cmd, after, keep, n, cap, at', by'⟩) 50 (0, 0) false, .cells (Step.cells ⟨4, cmd, after, keep, n, cap, 0, 0⟩) 50 (0, 0) false]) ⟨4, cmd, after, keep, n, cap, 0, 0⟩
      refine ⟨[.cells (Step.cells ⟨4, cmd, after, keep, n, cap, at', by'⟩) 50 (0, 0) false, .cells (Step.cells ⟨4, cmd, after, keep, n, cap, 0, 0⟩) 50 (0, 0) false] ++ J, ?_⟩
      simp [Step.cells_mk] at hJ
      simp [v12, v12_c, v12_k7, v12_k6, v12_k5, v12_k4, inv_eq v23_ok, isVal, Step.cells_mk, putL, one, melts, resM, hJ, h1, h2]

theorem rmay0 (kind : Int) (k1 : kind ≠ 1) (k2 : kind ≠ 2) (k3 : kind ≠ 3) (k4 : kind ≠ 4) : ∃ J, v12 vW (.agg (Step.cells ⟨kind, cmd, after, keep, n, cap, at', by'⟩).toArray) (.int .i64 size) H = .ret (.bool false) (H ++ J) := by
  have e1 : (kind == 1) = false := by simpa using k1
  have e2 : (kind == 2) = false := by simpa using k2
  have e3 : (kind == 3) = false := by simpa using k3
  have e4 : (kind == 4) = false := by simpa using k4
  exact ⟨[.cells (Step.cells ⟨kind, cmd, after, keep, n, cap, at', by'⟩) 50 (0, 0) false, .cells (Step.cells ⟨kind, cmd, after, keep, n, cap, at', by'⟩) 50 (0, 0) false], by
    simp [v12, v12_c, v12_k7, v12_k6, v12_k5, v12_k4, isVal, Step.cells_mk, putL, one, melts, resM, e1, e2, e3, e4]⟩

/-- The document's loop over what is kept. -/
theorem rneg_loop (H : Heap) (cmd : Cmd) (after : Int) (keep : Option Addr) (n cap : Nat) (at' by' : Int) (K : Blk) (xs : List Int) (hs : Ints H keep n xs) :
    ∀ (m k : Nat), k + m = xs.length →
      loopΩ (v12_L2 vW) [.pointer (some ⟨H.length, 0, none⟩), .pointer (some ⟨H.length + 1, 0, none⟩), .int .i64 k] (H ++ [.cells (Step.cells ⟨2, cmd, after, keep, n, cap, at', by'⟩) 50 (0, 0) false, K]) =
        if (xs.drop k).any (fun x => decide (x < 0)) = true then .ret ⟨.ret, [.bool false]⟩ (H ++ [.cells (Step.cells ⟨2, cmd, after, keep, n, cap, at', by'⟩) 50 (0, 0) false, K])
        else .ret ⟨.exit 1, [.pointer (some ⟨H.length + 1, 0, none⟩)]⟩ (H ++ [.cells (Step.cells ⟨2, cmd, after, keep, n, cap, at', by'⟩) 50 (0, 0) false, K])
  | 0, k, hk => by
    have : xs.drop k = [] := by rw [List.drop_eq_nil_iff]; omega
    rw [this]
    have hk' : ¬ (k : Int) < n := by have := hs.1; omega
    exact loopΩ_done (x := ⟨.exit 1, [.pointer (some ⟨H.length + 1, 0, none⟩)]⟩) (by simp [v12_L2, v12_b0, Step.cells_mk, isVal, hk']) (by simp)
  | m + 1, k, hk => by
    have hlt : k < xs.length := by omega
    have hk' : (k : Int) < n := by have := hs.1; omega
    obtain ⟨b, off, hkp, hx⟩ := hs.2.2 k _ (List.getElem?_eq_getElem hlt)
    have hd : xs.drop k = xs[k] :: xs.drop (k + 1) := by rw [List.drop_eq_getElem_cons hlt]
    rw [hd]
    subst hkp
    by_cases hn : xs[k] < 0
    · simp only [List.any_cons, hn, decide_true, Bool.true_or, if_true]
      refine loopΩ_done (x := ⟨.ret, [.bool false]⟩) ?_ (by simp)
      simp [v12_L2, v12_b0, Step.cells_mk, isVal, hk', get1_app hx, hn]
    · simp only [List.any_cons, hn, decide_false, Bool.false_or]
      have hw := wrap_succ (n := k) (by have := hs.1; have := hs.2.1; omega)
      refine loopΩ_step (p' := [.pointer (some ⟨H.length, 0, none⟩), .pointer (some ⟨H.length + 1, 0, none⟩), .int .i64 (k + 1 : Nat)]) ?_ (rneg_loop H cmd after _ n cap at' by' K xs hs m (k + 1) (by omega)) (by split <;> simp)
      simp [v12_L2, v12_b0, v12_k1, Step.cells_mk, isVal, hk', get1_app hx, hn, hw]
end rmay
end Go.Wel
