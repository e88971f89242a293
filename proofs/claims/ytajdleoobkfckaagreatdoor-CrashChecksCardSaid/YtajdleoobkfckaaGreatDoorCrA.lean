/- Contracts: which scripts may be. -/
import Derived.Test.YtajdleoobkfckaaGreatDoorCrTf
import Derived.Laws.StructEq
set_option linter.unusedSimpArgs false
set_option linter.unusedVariables false
namespace Go.Wel
open Go Go.Proofs

/-- A command, as it lies. -/
structure Cmd where
  kind : Int
  doc : ByteArray
  id : Int
  lo : Int
  hi : Int
  text : ByteArray
  gr : Int

def Cmd.cells (c : Cmd) : List Value := [.int .i64 c.kind, .string c.doc, .int .u32 c.id, .int .i64 c.lo, .int .i64 c.hi, .string c.text, .int .u8 c.gr]
def Cmd.none (c : Cmd) : Bool := c.kind == 0 && (c.doc.toList == []) && c.id == 0 && c.lo == 0 && c.hi == 0 && (c.text.toList == []) && c.gr == 0
def Cmd.zero : Cmd := ⟨0, .empty, 0, 0, 0, .empty, 0⟩

theorem g45 : Tryz.prog.eqGuardType Tryz.prog.depth 45 = false := by kernel_rfl
theorem s45 : Tryz.prog.stoodInHeld 45 = false := by kernel_rfl
theorem f45 : Tryz.prog.fieldsOf 45 = #[{ name := "Kind", type := 3, offset := 0, embedded := false, tag := "", pkgPath := "", byteOffset := 0 },
        { name := "Doc", type := 9, offset := 1, embedded := false, tag := "", pkgPath := "", byteOffset := 8 },
        { name := "Id", type := 43, offset := 2, embedded := false, tag := "", pkgPath := "", byteOffset := 24 },
        { name := "From", type := 3, offset := 3, embedded := false, tag := "", pkgPath := "", byteOffset := 32 },
        { name := "To", type := 3, offset := 4, embedded := false, tag := "", pkgPath := "", byteOffset := 40 },
        { name := "Text", type := 9, offset := 5, embedded := false, tag := "", pkgPath := "", byteOffset := 48 },
        { name := "Gravity", type := 5, offset := 6, embedded := false, tag := "", pkgPath := "", byteOffset := 64 }] := by kernel_rfl

theorem cmd_eq (c : Cmd) (H : Heap) : eqv Tryz.prog 45 (.agg c.cells.toArray) (.agg Cmd.zero.cells.toArray) H = some c.none := by
  have hrun : (Op.equal 45 (.agg c.cells.toArray) (.agg Cmd.zero.cells.toArray)).run Tryz.prog default = .ok c.none default := by
    show (Op.equalIn 10000 45 _ _).run Tryz.prog default = _
    rw [run_equalIn_agg default 9999 45 _ _ (by rw [f45]; exact Tryz.underlying45) s45, f45]
    simp [Op.eqFields, Cmd.cells, Cmd.zero, part, run_isAggT a3, run_isAggT a5, run_isAggT a9, run_isAggT a43, run_equalIn_int _ _ _ _ _ _ _ Tryz.underlying3, run_equalIn_int _ _ _ _ _ _ _ Tryz.underlying5, run_equalIn_int _ _ _ _ _ _ _ Tryz.underlying43, run_equalIn_string _ _ _ _ _ Tryz.underlying9]
    simp only [Cmd.none]
    repeat' split
    all_goals simp_all
  unfold eqv
  rw [Tryz.underlying45]
  simp only
  rw [if_pos (by simp [flat, flatD, Cmd.cells, Cmd.zero])]
  rw [hrun]

theorem cmd_bin (c : Cmd) (x y : Operand) (H : Heap) : aBin Tryz.prog .eql 45 x y (.agg #[.int .i64 c.kind, .string c.doc, .int .u32 c.id, .int .i64 c.lo, .int .i64 c.hi, .string c.text, .int .u8 c.gr])
    (.agg #[.int .i64 0, .string .empty, .int .u32 0, .int .i64 0, .int .i64 0, .string .empty, .int .u8 0]) H = .ret (.bool c.none) H := by
  rw [bin_agg g45]
  exact congrArg (fun o => eqOut .eql o H) (cmd_eq c H)

/-- A step, as it lies. -/
structure Step where
  kind : Int
  cmd : Cmd
  after : Int
  keep : Option Addr
  n : Nat
  cap : Nat
  at' : Int
  by' : Int

def Step.cells (s : Step) : List Value := [.int .i64 s.kind] ++ s.cmd.cells ++ [.int .i64 s.after, .slice s.keep s.n s.cap, .int .i64 s.at', .int .u8 s.by']
/-- Is nothing said by it beside its kind? -/
def Step.bare (s : Step) : Bool := s.cmd.none && s.after == 0 && s.n == 0 && s.at' == 0 && s.by' == 0

/-- Numbers, as they lie. -/
def Ints (H : Heap) (a : Option Addr) (n : Nat) (xs : List Int) : Prop := xs.length = n ∧ n < 2 ^ 63 ∧ ∀ i x, xs[i]? = some x → ∃ b off, a = some ⟨b, off, none⟩ ∧ H.get1 b (off + i) = some (.int .i64 x)

theorem Ints.app {H J : Heap} {a : Option Addr} {n : Nat} {xs : List Int} (h : Ints H a n xs) : Ints (H ++ J) a n xs :=
  ⟨h.1, h.2.1, fun i x hx => let ⟨b, off, h1, h2⟩ := h.2.2 i x hx; ⟨b, off, h1, get1_app h2⟩⟩

theorem wrap_nat {n : Nat} (h : n < 2 ^ 63) : IntKind.i64.wrap (n : Int) = n := by simp [IntKind.wrap, IntKind.bits]; omega
theorem wrap_succ {n : Nat} (h : n + 1 < 2 ^ 63) : IntKind.i64.wrap ((n : Int) + 1) = ((n + 1 : Nat) : Int) := by simp [IntKind.wrap, IntKind.bits]; omega

theorem neg_loop (H : Heap) (a : Option Addr) (n cap : Nat) (xs : List Int) (hs : Ints H a n xs) :
    ∀ (m k : Nat), k + m = xs.length →
      loopΩ (v16_L2 vW) [.slice a n cap, .int .i64 n, .int .i64 k] H =
        if (xs.drop k).any (fun x => decide (x < 0)) = true then .ret ⟨.ret, [.bool true]⟩ H else .ret ⟨.exit 0, []⟩ H
  | 0, k, hk => by
    have : xs.drop k = [] := by rw [List.drop_eq_nil_iff]; omega
    rw [this]
    have hk' : ¬ (k : Int) < n := by have := hs.1; omega
    exact loopΩ_done (x := ⟨.exit 0, []⟩) (by simp [v16_L2, v16_b0, hk']) (by simp)
  | m + 1, k, hk => by
    have hlt : k < xs.length := by omega
    have hk' : (k : Int) < n := by have := hs.1; omega
    obtain ⟨b, off, rfl, hx⟩ := hs.2.2 k _ (List.getElem?_eq_getElem hlt)
    have hd : xs.drop k = xs[k] :: xs.drop (k + 1) := by rw [List.drop_eq_getElem_cons hlt]
    rw [hd]
    by_cases hn : xs[k] < 0
    · simp only [List.any_cons, hn, decide_true, Bool.true_or, if_true]
      exact loopΩ_done (x := ⟨.ret, [.bool true]⟩) (by simp [v16_L2, v16_b0, hk', hx, hn]) (by simp)
    · simp only [List.any_cons, hn, decide_false, Bool.false_or]
      have hw := wrap_succ (n := k) (by have := hs.1; have := hs.2.1; omega)
      refine loopΩ_step (p' := [.slice (some ⟨b, off, none⟩) n cap, .int .i64 n, .int .i64 (k + 1 : Nat)]) (H' := H) ?_ (neg_loop H _ n cap xs hs m (k + 1) (by omega)) (by split <;> simp)
      simp [v16_L2, v16_b0, v16_k1, hk', hx, hn, hw]

/-- negative: is one of them below zero? -/
theorem neg_spec (H : Heap) (a : Option Addr) (n cap : Nat) (xs : List Int) (hs : Ints H a n xs) :
    vW (.call 16 [.slice a n cap]) H = .ret (.bool (xs.any fun x => decide (x < 0))) H := by
  refine v16_call ?_ (by simp)
  have h := neg_loop H a n cap xs hs xs.length 0 (by omega)
  simp only [List.drop_zero] at h
  rw [show (Value.int IntKind.i64 ((0 : Nat) : Int)) = Value.int IntKind.i64 0 from rfl] at h
  cases hb : xs.any fun x => decide (x < 0) <;> simp [v16, v16_c, v16_k3, vE_P, h, hb, resM, isVal]

/-- bare: is nothing said? -/
theorem bare_spec (H : Heap) (s : Step) : ∃ J, vW (.call 22 [.agg s.cells.toArray]) H = .ret (.bool s.bare) (H ++ J) := by
  refine ⟨[.cells s.cells 50 (0, 0) false], v22_call (H := H) (r := .ret (.bool s.bare) (H ++ [.cells s.cells 50 (0, 0) false])) ?_ (by simp)⟩
  by_cases h1 : s.cmd.none = true
  · by_cases h2 : s.after = 0
    · by_cases h3 : s.n = 0
      · by_cases h4 : s.at' = 0
        · by_cases h5 : s.by' = 0 <;>
            simp [v22, v22_c, isVal, Step.cells, Cmd.cells, buildS, Instr.fill, Value.cells, cmd_bin, Step.bare, h1, h2, h3, h4, h5, resM]
        · simp [v22, v22_c, isVal, Step.cells, Cmd.cells, buildS, Instr.fill, Value.cells, cmd_bin, Step.bare, h1, h2, h3, h4, resM]
      · simp [v22, v22_c, isVal, Step.cells, Cmd.cells, buildS, Instr.fill, Value.cells, cmd_bin, Step.bare, h1, h2, h3, resM]
    · simp [v22, v22_c, isVal, Step.cells, Cmd.cells, buildS, Instr.fill, Value.cells, cmd_bin, Step.bare, h1, h2, resM]
  · simp [v22, v22_c, isVal, Step.cells, Cmd.cells, buildS, Instr.fill, Value.cells, cmd_bin, Step.bare, h1, resM]
end Go.Wel
