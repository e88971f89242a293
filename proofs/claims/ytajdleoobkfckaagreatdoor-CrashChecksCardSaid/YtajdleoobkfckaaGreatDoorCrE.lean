/- Contracts: what refuses; the statement's own function. -/
import Derived.Test.YtajdleoobkfckaaGreatDoorCrD
set_option linter.unusedSimpArgs false
set_option linter.unusedVariables false
namespace Go.Wel
open Go Go.Proofs

/-- The report of which nothing is said. -/
def rpt0 : List Value := [.slice none 0 0, .int .i64 0, .int .i64 0, .int .i64 0, .int .i64 0]

section refuse
variable (H : Heap) (size : Int) (a : Option Addr) (n cap : Nat) (l : List (Step × List Int))

theorem run_refuses (hs : Steps H a n l) (hc : chk size l ≠ 0) : ∃ H', vW (.call 6 [.agg #[.int .i64 size, .slice a n cap]]) H = .ret (.tuple #[.agg rpt0.toArray, .int .i64 (chk size l)]) H' ∧ Pre H H' := by
  obtain ⟨H', h1, hp⟩ := check_spec (H ++ [Blk.cells [.int .i64 size, .slice a n cap] 24 (0, 0) false, Blk.cells rpt0 31 (0, 0) false]) size a n cap l hs.app
  obtain ⟨J, rfl⟩ := hp
  refine ⟨_, v6_call (r := .ret (.tuple #[.agg rpt0.toArray, .int .i64 (chk size l)]) (H ++ [Blk.cells [.int .i64 size, .slice a n cap] 24 (0, 0) false, Blk.cells rpt0 31 (0, 0) false] ++ J)) ?_ (by simp), (Pre.add _ _).trans (Pre.add _ _)⟩
  simp [rpt0] at h1
  have e : (chk size l != 0) = true := by simpa using hc
  simp [v6, v6_c, rpt0, inv_eq v4_ok, isVal, h1, e, buildS, Instr.fill, Value.cells, putL, one, melts, resM, oneOf]

theorem points_refuses (hs : Steps H a n l) (hc : chk size l ≠ 0) : ∃ H', vW (.call 7 [.agg #[.int .i64 size, .slice a n cap]]) H = .ret (.tuple #[.int .i64 0, .int .i64 (chk size l)]) H' ∧ Pre H H' := by
  obtain ⟨H', h1, hp⟩ := run_refuses (H ++ [Blk.cells [.int .i64 size, .slice a n cap] 24 (0, 0) false]) size a n cap l hs.app hc
  refine ⟨_, v7_call (r := .ret (.tuple #[.int .i64 0, .int .i64 (chk size l)]) (H' ++ [Blk.cells rpt0 31 (0, 0) false])) ?_ (by simp), ((Pre.add _ _).trans hp).trans (Pre.add _ _)⟩
  simp [rpt0] at h1
  simp [v7, v7_c, rpt0, inv_eq v6_ok, isVal, h1, putL, one, melts, resM, oneOf]

theorem at_refuses (x y : Value) (hs : Steps H a n l) (hc : chk size l ≠ 0) : ∃ H', vW (.call 8 [.agg #[.int .i64 size, .slice a n cap], x, y]) H = .ret (.tuple #[.agg rpt0.toArray, .int .i64 (chk size l)]) H' ∧ Pre H H' := by
  obtain ⟨H', h1, hp⟩ := check_spec (H ++ [Blk.cells [.int .i64 size, .slice a n cap] 24 (0, 0) false, Blk.cells rpt0 31 (0, 0) false]) size a n cap l hs.app
  obtain ⟨J, rfl⟩ := hp
  refine ⟨_, v8_call (r := .ret (.tuple #[.agg rpt0.toArray, .int .i64 (chk size l)]) (H ++ [Blk.cells [.int .i64 size, .slice a n cap] 24 (0, 0) false, Blk.cells rpt0 31 (0, 0) false] ++ J)) ?_ (by simp), (Pre.add _ _).trans (Pre.add _ _)⟩
  simp [rpt0] at h1
  have e : (chk size l != 0) = true := by simpa using hc
  simp [v8, v8_c, rpt0, inv_eq v4_ok, isVal, h1, e, buildS, Instr.fill, Value.cells, putL, one, melts, resM, oneOf]
end refuse

theorem g29 : Tryz.prog.eqGuardType Tryz.prog.depth 29 = false := by kernel_rfl
theorem e29 (H : Heap) : eqv Tryz.prog 29 (.agg #[.int .i64 0, .int .i64 0, .int .i64 0]) (.agg #[.int .i64 0, .int .i64 0, .int .i64 0]) H = some true := by kernel_rfl
theorem n29 (x y : Operand) (H : Heap) : aBin Tryz.prog .neq 29 x y (.agg #[.int .i64 0, .int .i64 0, .int .i64 0]) (.agg #[.int .i64 0, .int .i64 0, .int .i64 0]) H = .ret (.bool false) H := by
  rw [bin_agg g29]; exact congrArg (fun o => eqOut .neq o H) (e29 H)

theorem same_rpt (H : Heap) : ∃ H', vW (.call 9 [.agg rpt0.toArray, .agg rpt0.toArray]) H = .ret (.bool true) H' ∧ Pre H H' := by
  refine ⟨_, v9_call (r := .ret (.bool true) (H ++ [Blk.cells rpt0 31 (0, 0) false, Blk.cells rpt0 31 (0, 0) false])) ?_ (by simp), Pre.add _ _⟩
  have h : loopΩ (v9_L2 vW) [.pointer (some ⟨H.length, 0, none⟩), .pointer (some ⟨H.length + 1, 0, none⟩), .int .i64 0] (H ++ [Blk.cells rpt0 31 (0, 0) false, Blk.cells rpt0 31 (0, 0) false]) =
      .ret ⟨.exit 0, []⟩ (H ++ [Blk.cells rpt0 31 (0, 0) false, Blk.cells rpt0 31 (0, 0) false]) := loopΩ_done (by simp [v9_L2, v9_b0, rpt0, isVal]) (by simp)
  simp [rpt0] at h
  simp [v9, v9_c, v9_k3, rpt0, isVal, n29, h, resM]

/-- The statement's own function: whatever the script. -/
theorem law_spec (H : Heap) (size : Int) (a : Option Addr) (n cap : Nat) (l : List (Step × List Int)) (hs : Steps H a n l) :
    ∃ H', vW (.call 3 [.agg #[.int .i64 size, .slice a n cap]]) H = .ret (.bool true) H' ∧ Pre H H' := by
  have b0 : Steps (H ++ [Blk.cells [.int .i64 size, .slice a n cap] 24 (0, 0) false]) a n l := hs.app
  have hb : ∀ H', Pre (H ++ [Blk.cells [.int .i64 size, .slice a n cap] 24 (0, 0) false]) H' → H'.getN H.length 0 2 = some [.int .i64 size, .slice a n cap] := fun H' hp => hp.getN (by simp [isVal])
  obtain ⟨H1, h1, p1⟩ := check_spec (H ++ [Blk.cells [.int .i64 size, .slice a n cap] 24 (0, 0) false]) size a n cap l b0
  obtain ⟨H2, h2, p2⟩ := rcheck_spec H1 size a n cap l (b0.pre p1)
  have q1 := hb _ (Pre.refl _)
  have q2 := hb _ p1
  have q3 := hb _ (p1.trans p2)
  have e0 : (chk size l != chk size l) = false := by simp
  by_cases hc : chk size l = 0
  · refine ⟨H2, v3_call (r := .ret (.bool true) H2) ?_ (by simp), (Pre.add _ _).trans (p1.trans p2)⟩
    simp [hc] at h1 h2
    simp [v3, v3_c, q1, q2, inv_eq v4_ok, inv_eq v5_ok, h1, h2, resM, isVal]
  · have e1 : (chk size l == 0) = false := by simpa using hc
    obtain ⟨H3, h3, p3⟩ := run_refuses H2 size a n cap l (b0.pre (p1.trans p2)) hc
    have P3 := p1.trans (p2.trans p3)
    have q4 := hb _ (P3.trans (Pre.add H3 [Blk.cells rpt0 31 (0, 0) false]))
    obtain ⟨H4, h4, p4⟩ := points_refuses (H3 ++ [Blk.cells rpt0 31 (0, 0) false]) size a n cap l (b0.pre (P3.trans (Pre.add _ _))) hc
    have P4 := P3.trans ((Pre.add H3 [Blk.cells rpt0 31 (0, 0) false]).trans p4)
    have q5 := hb _ P4
    obtain ⟨H5, h5, p5⟩ := at_refuses H4 size a n cap l (.int .i64 0) (.slice none 0 0) (b0.pre P4) hc
    have P5 := P4.trans p5
    have r1 : (H5 ++ [Blk.cells rpt0 31 (0, 0) false]).getN H3.length 0 5 = some rpt0 := (p4.trans (p5.trans (Pre.add _ _))).getN (by simp [isVal, rpt0])
    obtain ⟨H6, h6, p6⟩ := same_rpt (H5 ++ [Blk.cells rpt0 31 (0, 0) false])
    have r2 : H6.getN H5.length 0 5 = some rpt0 := p6.getN (by simp [isVal, rpt0])
    obtain ⟨H7, h7, p7⟩ := same_rpt H6
    refine ⟨H7, v3_call (r := .ret (.bool true) H7) ?_ (by simp), (Pre.add _ _).trans (P5.trans ((Pre.add _ _).trans (p6.trans p7)))⟩
    simp [rpt0] at h3 h4 h5 h6 h7 r1 r2 q4
    simp [v3, v3_c, q1, q2, q3, q4, q5, inv_eq v4_ok, inv_eq v5_ok, inv_eq v6_ok, inv_eq v7_ok, inv_eq v8_ok, inv_eq v9_ok, h1, h2, h3, h4, h5, h6, h7, r1, r2, e1, buildS, Instr.fill, Value.cells, putL, one, melts, resM, isVal]
end Go.Wel
