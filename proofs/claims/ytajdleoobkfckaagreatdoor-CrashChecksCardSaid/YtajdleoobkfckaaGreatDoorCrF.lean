/- The script, as it lies when the call begins. -/
import Derived.Test.YtajdleoobkfckaaGreatDoorCrE
import Derived.Test.YtajdleoobkfckaaGreatDoorWelArg
set_option linter.unusedSimpArgs false
set_option linter.unusedVariables false
set_option maxRecDepth 100000
namespace Go.Wel
open Go Go.Proofs Go.Deep Go.RowKit Go.ChangeShapes Go.WideShapes

section
variable {A : Type} {enc : TypeId × Value → A} {W : World}

theorem add_mk (b off i : Nat) : (⟨b, off, none⟩ : Addr).add i = ⟨b, off + i, none⟩ := by unfold Addr.add; split <;> simp_all
theorem add_zero (a : Addr) : a.add 0 = a := by simp [Addr.add]

theorem keep_reads {fuel : Nat} {cs : List Value} {x : DataW A × List MemPlace} (h : DataW.trod enc Tryz.prog W 0 (fun _ => true) true fuel 46 cs = some x) :
    ∃ (a : Option Addr) (n cap cap' : Nat) (xs : List Int), cs = [.slice a n cap] ∧ cellOf (laysOf Tryz.prog W) (.slice a n cap) = .slice a n cap' ∧ Ints (heapOf Tryz.prog W) a n xs := by
  rcases open_slice1 Tryz.underlying46 c3 h with ⟨rfl, _⟩ | ⟨a, len, cap, m, n, V, D, Pl, rfl, _, hl, hm, hmm, _, hV⟩
  · exact ⟨none, 0, 0, 0, [], rfl, by simp, rfl, by omega, fun i x hx => by simp at hx⟩
  · simp only [if_true] at hmm
    subst hmm
    obtain ⟨cap', hcap'⟩ := cellOf_slice (P := Tryz.prog) (w := W) (a := a) hm hl (fun h0 => ⟨_, by have := (hV 0 h0).1; rwa [add_zero] at this⟩)
    refine ⟨some a, len, m, cap', (List.range len).map fun i => intOf (V i), rfl, hcap', by simp, by unfold maxLen at hm; omega, fun i x hx => ?_⟩
    have hi : i < len := by
      have := (List.getElem?_eq_some_iff.1 hx).1
      simpa using this
    obtain ⟨h1, h2⟩ := hV i (by omega)
    obtain ⟨k, h3, _⟩ := DataW.trod_int Tryz.underlying3 h2
    have h4 : V i = .int .i64 k := by simpa using h3
    have h5 : x = k := by
      rw [List.getElem?_map, List.getElem?_range hi] at hx
      simp [h4, intOf] at hx
      exact hx.symm
    subst h5
    rw [h4] at h1
    have hsp := (cell_block (hV 0 (by omega)).1).1
    rw [add_zero] at hsp
    obtain ⟨b, off, spot⟩ := a
    dsimp only at hsp
    subst hsp
    rw [add_mk] at h1
    refine ⟨b, off, rfl, ?_⟩
    have := heap_at (P := Tryz.prog) h1 (by simp [isVal])
    simpa using this

theorem step_reads {fuel : Nat} {cs : List Value} {x : DataW A × List MemPlace} (h : DataW.trod enc Tryz.prog W 0 (fun _ => true) true fuel 50 cs = some x) :
    ∃ s : Step × List Int, cs.map (cellOf (laysOf Tryz.prog W)) = s.1.cells ∧ Ints (heapOf Tryz.prog W) s.1.keep s.1.n s.2 := by
  obtain ⟨xs, n, _, _, hlen, hxl, hf⟩ := DataW.trod_struct Tryz.underlying50 h
  rw [c50] at hlen
  match cs, hlen with
  | [q0, q1, q2, q3, q4, q5, q6, q7, q8, q9, q10, q11], _ =>
    have f0 : DataW.trod enc Tryz.prog W 0 (fun _ => true) true n 3 (List.take (Tryz.prog.cellsOf 3) (List.drop 0 [q0, q1, q2, q3, q4, q5, q6, q7, q8, q9, q10, q11])) = xs[0]? := hf 0 _ rfl
    rw [c3] at f0
    have f1 : DataW.trod enc Tryz.prog W 0 (fun _ => true) true n 45 (List.take (Tryz.prog.cellsOf 45) (List.drop 1 [q0, q1, q2, q3, q4, q5, q6, q7, q8, q9, q10, q11])) = xs[1]? := hf 1 _ rfl
    rw [c45] at f1
    have f2 : DataW.trod enc Tryz.prog W 0 (fun _ => true) true n 48 (List.take (Tryz.prog.cellsOf 48) (List.drop 8 [q0, q1, q2, q3, q4, q5, q6, q7, q8, q9, q10, q11])) = xs[2]? := hf 2 _ rfl
    rw [c48] at f2
    have f3 : DataW.trod enc Tryz.prog W 0 (fun _ => true) true n 3 (List.take (Tryz.prog.cellsOf 3) (List.drop 10 [q0, q1, q2, q3, q4, q5, q6, q7, q8, q9, q10, q11])) = xs[3]? := hf 3 _ rfl
    rw [c3] at f3
    have f4 : DataW.trod enc Tryz.prog W 0 (fun _ => true) true n 5 (List.take (Tryz.prog.cellsOf 5) (List.drop 11 [q0, q1, q2, q3, q4, q5, q6, q7, q8, q9, q10, q11])) = xs[4]? := hf 4 _ rfl
    rw [c5] at f4
    have hx : xs.length = 5 := hxl
    match xs, hx with
    | [x0, x1, x2, x3, x4], _ =>
      obtain ⟨k0, e0, _⟩ := DataW.trod_int Tryz.underlying3 f0
      obtain ⟨k3, e3, _⟩ := DataW.trod_int Tryz.underlying3 f3
      obtain ⟨k4, e4, _⟩ := DataW.trod_int Tryz.underlying5 f4
      obtain ⟨ys, m, _, _, _, hyl, hg⟩ := DataW.trod_struct Tryz.underlying45 f1
      obtain ⟨zs, m', _, _, _, hzl, hh⟩ := DataW.trod_struct Tryz.underlying48 f2
      have g0 : DataW.trod enc Tryz.prog W 0 (fun _ => true) true m 3 (List.take (Tryz.prog.cellsOf 3) (List.drop 0 [q1, q2, q3, q4, q5, q6, q7])) = ys[0]? := hg 0 _ rfl
      rw [c3] at g0
      have g1 : DataW.trod enc Tryz.prog W 0 (fun _ => true) true m 9 (List.take (Tryz.prog.cellsOf 9) (List.drop 1 [q1, q2, q3, q4, q5, q6, q7])) = ys[1]? := hg 1 _ rfl
      rw [c9] at g1
      have g2 : DataW.trod enc Tryz.prog W 0 (fun _ => true) true m 43 (List.take (Tryz.prog.cellsOf 43) (List.drop 2 [q1, q2, q3, q4, q5, q6, q7])) = ys[2]? := hg 2 _ rfl
      rw [c43] at g2
      have g3 : DataW.trod enc Tryz.prog W 0 (fun _ => true) true m 3 (List.take (Tryz.prog.cellsOf 3) (List.drop 3 [q1, q2, q3, q4, q5, q6, q7])) = ys[3]? := hg 3 _ rfl
      rw [c3] at g3
      have g4 : DataW.trod enc Tryz.prog W 0 (fun _ => true) true m 3 (List.take (Tryz.prog.cellsOf 3) (List.drop 4 [q1, q2, q3, q4, q5, q6, q7])) = ys[4]? := hg 4 _ rfl
      rw [c3] at g4
      have g5 : DataW.trod enc Tryz.prog W 0 (fun _ => true) true m 9 (List.take (Tryz.prog.cellsOf 9) (List.drop 5 [q1, q2, q3, q4, q5, q6, q7])) = ys[5]? := hg 5 _ rfl
      rw [c9] at g5
      have g6 : DataW.trod enc Tryz.prog W 0 (fun _ => true) true m 5 (List.take (Tryz.prog.cellsOf 5) (List.drop 6 [q1, q2, q3, q4, q5, q6, q7])) = ys[6]? := hg 6 _ rfl
      rw [c5] at g6
      have h0 : DataW.trod enc Tryz.prog W 0 (fun _ => true) true m' 3 (List.take (Tryz.prog.cellsOf 3) (List.drop 0 [q8, q9])) = zs[0]? := hh 0 _ rfl
      rw [c3] at h0
      have h1 : DataW.trod enc Tryz.prog W 0 (fun _ => true) true m' 46 (List.take (Tryz.prog.cellsOf 46) (List.drop 1 [q8, q9])) = zs[1]? := hh 1 _ rfl
      rw [c46] at h1
      have hy : ys.length = 7 := hyl
      have hz : zs.length = 2 := hzl
      match ys, hy, zs, hz with
      | [y0, y1, y2, y3, y4, y5, y6], _, [z0, z1], _ =>
        obtain ⟨a0, d0, _⟩ := DataW.trod_int Tryz.underlying3 g0
        obtain ⟨a1, d1, _⟩ := DataW.trod_string Tryz.underlying9 g1
        obtain ⟨a2, d2, _⟩ := DataW.trod_int Tryz.underlying43 g2
        obtain ⟨a3, d3, _⟩ := DataW.trod_int Tryz.underlying3 g3
        obtain ⟨a4, d4, _⟩ := DataW.trod_int Tryz.underlying3 g4
        obtain ⟨a5, d5, _⟩ := DataW.trod_string Tryz.underlying9 g5
        obtain ⟨a6, d6, _⟩ := DataW.trod_int Tryz.underlying5 g6
        obtain ⟨k8, e8, _⟩ := DataW.trod_int Tryz.underlying3 h0
        obtain ⟨p, n9, cap, cap', ks, e9, hc, hi⟩ := keep_reads h1
        cases e0; cases e3; cases e4; cases d0; cases d1; cases d2; cases d3; cases d4; cases d5; cases d6; cases e8; cases e9
        exact ⟨(⟨k0, ⟨a0, a1, a2, a3, a4, a5, a6⟩, k8, p, n9, cap', k3, k4⟩, ks), by simp [Step.cells, Cmd.cells, hc], hi⟩

theorem one24 : oneCellFields Tryz.prog (Tryz.prog.fieldsOf 24) = true := by kernel_rfl
theorem f24 : Tryz.prog.underlying 24 = some (.struct (Tryz.prog.fieldsOf 24)) := by kernel_rfl
theorem ct24 : Tryz.prog.cellTypes Tryz.prog.depth 24 = some [3, 22] := by kernel_rfl

instance : Inhabited (Step × List Int) := ⟨(⟨0, .zero, 0, none, 0, 0, 0, 0⟩, [])⟩

theorem script_reads {r : Reach} {b0 : Nat} {v : Value} {d : DataW A} {ps : List MemPlace} (hv : Value.okWide Tryz.prog W r b0 24 v) (h : DataW.Trod enc Tryz.prog W 0 (fun _ => true) true 24 v d ps) :
    ∃ (size : Int) (a : Option Addr) (n cap : Nat) (l : List (Step × List Int)), v = .agg #[.int .i64 size, .slice a n cap] ∧ VR (laysOf Tryz.prog W) v v ∧ Steps (heapOf Tryz.prog W) a n l := by
  obtain ⟨v0, v1, y0, y1, m, rfl, _, _, t0, t1⟩ := Joins.open_agg2 Tryz.underlying24 one24 c24 hv h
  obtain ⟨size, e0, _⟩ := DataW.trod_int Tryz.underlying3 t0
  cases e0
  have hcell : Cell.okWide Tryz.prog W r b0 22 v1 := by
    unfold Value.okWide at hv
    rw [Tryz.underlying24] at hv
    obtain ⟨cs, e, _, ts, h1, _, h2⟩ := hv
    cases e
    rw [ct24] at h1; cases h1
    obtain ⟨u, hu, hc⟩ := h2 1 v1 rfl
    cases hu
    exact hc
  rcases open_slice Tryz.underlying22 t1 with ⟨e1, _⟩ | ⟨a, len, cap, q, n, D, Pl, e1, _, hl, hm, hmm, _, hV⟩
  · cases e1
    exact ⟨size, none, 0, 0, [], rfl, .agg (.cons (.int _ _) (.cons (.nils _ _) .nil)), rfl, by omega, fun i s hs => by simp at hs⟩
  · cases e1
    simp only [if_true] at hmm
    subst hmm
    unfold Cell.okWide at hcell
    rw [Tryz.underlying22] at hcell
    unfold Cell.ok at hcell
    simp only [Tryz.underlying22] at hcell
    obtain ⟨_, _, _, hsp, row, cells, hsh, _⟩ := hcell
    have hb : a.block < W.heap.size := by
      rcases Nat.lt_or_ge a.block W.heap.size with h' | h'
      · exact h'
      · unfold World.shape? at hsh
        rw [Array.getElem?_eq_none h'] at hsh; cases hsh
    have hex := (exact_slice (P := Tryz.prog) (len := len) hsp hb hm).1.1
    rw [c50] at hV
    obtain ⟨f, hf⟩ := choose_lt (α := Step × List Int) (n := len) (p := fun i s => ∃ b off, some a = some (⟨b, off, none⟩ : Addr) ∧ (heapOf Tryz.prog W).getN b (off + i * 12) 12 = some s.1.cells ∧ Ints (heapOf Tryz.prog W) s.1.keep s.1.n s.2) (fun i hi => by
      obtain ⟨cs', h1, h2⟩ := hV i (by omega)
      obtain ⟨_, hlen, hcs⟩ := World.cells?_some h1
      obtain ⟨s, hs, hk⟩ := step_reads h2
      obtain ⟨b, off, spot⟩ := a
      dsimp only at hsp
      subst hsp
      refine ⟨s, b, off, rfl, ?_, hk⟩
      have := heap_row (P := Tryz.prog) (w := W) (b := b) (off := off + i * 12) (l := cs') (by omega) (fun j v hj => by
        have hj' : j < 12 := by rw [← hlen]; exact (List.getElem?_eq_some_iff.1 hj).1
        have := hcs j hj'
        rw [add_mk, add_mk, hj] at this
        exact this) hs (by rfl)
      rwa [hlen] at this)
    refine ⟨size, some a, len, q, (List.range len).map f, rfl, .agg (.cons (.int _ _) (.cons hex .nil)), by simp, by unfold maxLen at hm; omega, fun i s hs => ?_⟩
    have hi : i < len := by
      have := (List.getElem?_eq_some_iff.1 hs).1
      simpa using this
    rw [List.getElem?_map, List.getElem?_range hi] at hs
    cases hs
    exact hf i hi
end
end Go.Wel
