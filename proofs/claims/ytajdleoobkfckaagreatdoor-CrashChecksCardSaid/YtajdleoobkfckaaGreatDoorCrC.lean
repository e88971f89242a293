/- Contracts: which scripts may be: the document's step, both checks. -/
import Derived.Test.YtajdleoobkfckaaGreatDoorCrB
set_option linter.unusedSimpArgs false
set_option linter.unusedVariables false
namespace Go.Wel
open Go Go.Proofs

section rmay
variable (H : Heap) (cmd : Cmd) (after : Int) (keep : Option Addr) (n cap : Nat) (at' by' size : Int)
theorem rmay2 (xs : List Int) (hx : Ints H keep n xs) : ∃ J, v12 vW (.agg (Step.cells ⟨2, cmd, after, keep, n, cap, at', by'⟩).toArray) (.int .i64 size) H =
    .ret (.bool (if after < 1 then false else if after > 2147483647 then false else if (n : Int) > 65536 then false else if xs.any (fun x => decide (x < 0)) = true then false else Step.bare ⟨2, cmd, 0, none, 0, 0, at', by'⟩)) (H ++ J) := by
  have hloop := rneg_loop H cmd after keep n cap at' by' (.cells (Step.cells ⟨2, cmd, 0, none, 0, 0, at', by'⟩) 50 (0, 0) false) xs hx xs.length 0 (by omega)
  rw [List.drop_zero] at hloop
  simp [Step.cells_mk] at hloop
  by_cases h1 : after < 1
  · exact ⟨[.cells (Step.cells ⟨2, cmd, after, keep, n, cap, at', by'⟩) 50 (0, 0) false, .cells (Step.cells ⟨2, cmd, 0, none, 0, 0, at', by'⟩) 50 (0, 0) false], by
      simp [v12, v12_c, v12_k7, v12_k6, v12_k5, v12_k4, isVal, Step.cells_mk, buildS, Instr.fill, Value.cells, putL, one, melts, resM, h1]⟩
  · by_cases h2 : after > 2147483647
    · exact ⟨[.cells (Step.cells ⟨2, cmd, after, keep, n, cap, at', by'⟩) 50 (0, 0) false, .cells (Step.cells ⟨2, cmd, 0, none, 0, 0, at', by'⟩) 50 (0, 0) false], by
        simp [v12, v12_c, v12_k7, v12_k6, v12_k5, v12_k4, isVal, Step.cells_mk, buildS, Instr.fill, Value.cells, putL, one, melts, resM, h1, h2]⟩
    · by_cases h3 : (n : Int) > 65536
      · exact ⟨[.cells (Step.cells ⟨2, cmd, after, keep, n, cap, at', by'⟩) 50 (0, 0) false, .cells (Step.cells ⟨2, cmd, 0, none, 0, 0, at', by'⟩) 50 (0, 0) false], by
          simp [v12, v12_c, v12_k7, v12_k6, v12_k5, v12_k4, isVal, Step.cells_mk, buildS, Instr.fill, Value.cells, putL, one, melts, resM, h1, h2, h3]⟩
      · cases h4 : xs.any (fun x => decide (x < 0)) with
        | true =>
          have h4' : ∃ x, x ∈ xs ∧ x < 0 := by simpa using h4
          rw [if_pos h4'] at hloop
          exact ⟨[.cells (Step.cells ⟨2, cmd, after, keep, n, cap, at', by'⟩) 50 (0, 0) false, .cells (Step.cells ⟨2, cmd, 0, none, 0, 0, at', by'⟩) 50 (0, 0) false], by
            simp [v12, v12_c, v12_k7, v12_k6, v12_k5, v12_k4, v12_k3, isVal, Step.cells_mk, buildS, Instr.fill, Value.cells, putL, one, melts, resM, h1, h2, h3, hloop]⟩
        | false =>
          have h4' : ¬ ∃ x, x ∈ xs ∧ x < 0 := by simpa using h4
          rw [if_neg h4'] at hloop
          obtain ⟨J, hJ⟩ := none_spec (H ++ [.cells (Step.cells ⟨2, cmd, after, keep, n, cap, at', by'⟩) 50 (0, 0) false, .cells (Step.cells ⟨2, cmd, 0, none, 0, 0, at', by'⟩) 50 (0, 0) false]) ⟨2, cmd, 0, none, 0, 0, at', by'⟩
          refine ⟨[.cells (Step.cells ⟨2, cmd, after, keep, n, cap, at', by'⟩) 50 (0, 0) false, .cells (Step.cells ⟨2, cmd, 0, none, 0, 0, at', by'⟩) 50 (0, 0) false] ++ J, ?_⟩
          simp [Step.cells_mk] at hJ
          simp [v12, v12_c, v12_k7, v12_k6, v12_k5, v12_k4, v12_k3, inv_eq v23_ok, isVal, Step.cells_mk, buildS, Instr.fill, Value.cells, putL, one, melts, resM, h1, h2, h3, hloop, hJ]
end rmay

theorem rmay_spec (H : Heap) (s : Step) (size : Int) (xs : List Int) (hx : Ints H s.keep s.n xs) : ∃ J, vW (.call 12 [.agg s.cells.toArray, .int .i64 size]) H = .ret (.bool (s.may size xs)) (H ++ J) := by
  obtain ⟨kind, cmd, after, keep, n, cap, at', by'⟩ := s
  have fin : ∀ b, (∃ J, v12 vW (.agg (Step.cells ⟨kind, cmd, after, keep, n, cap, at', by'⟩).toArray) (.int .i64 size) H = .ret (.bool b) (H ++ J)) →
      ∃ J, vW (.call 12 [.agg (Step.cells ⟨kind, cmd, after, keep, n, cap, at', by'⟩).toArray, .int .i64 size]) H = .ret (.bool b) (H ++ J) := fun b ⟨J, hJ⟩ => ⟨J, v12_call hJ (by simp)⟩
  refine fin _ ?_
  unfold Step.may
  simp only
  by_cases k1 : kind = 1
  · subst k1; rw [if_pos rfl]; exact rmay1 ..
  · by_cases k2 : kind = 2
    · subst k2; rw [if_neg (by decide), if_pos rfl]; exact rmay2 (hx := hx) ..
    · by_cases k3 : kind = 3
      · subst k3; rw [if_neg (by decide), if_neg (by decide), if_pos rfl]; exact rmay3 ..
      · by_cases k4 : kind = 4
        · subst k4; rw [if_neg (by decide), if_neg (by decide), if_neg (by decide), if_pos rfl]; exact rmay4 ..
        · rw [if_neg k1, if_neg k2, if_neg k3, if_neg k4]; exact rmay0 (k1 := k1) (k2 := k2) (k3 := k3) (k4 := k4) ..

/-! ### Sizes -/
def planOk (n : Int) : Bool := decide (36992 ≤ n) && decide (n ≤ 4194304) && decide (n.tmod 64 = 0)

theorem plan_spec (H : Heap) (n : Int) : ∃ (J : Heap) (v : List Value), vW (.call 10 [.int .i64 n]) H = .ret (.tuple #[.agg v.toArray, .int .i64 (if planOk n = true then 0 else 80)]) (H ++ J) ∧ v.length = 5 ∧ v.all one = true := by
  by_cases h1 : n < 36992
  · have hp : planOk n = false := by simp [planOk]; omega
    refine ⟨[.cells [.int .i64 0, .int .i64 0, .int .i64 0, .int .i64 0, .int .i64 0] 40 (0, 0) false], [.int .i64 0, .int .i64 0, .int .i64 0, .int .i64 0, .int .i64 0], v10_call ?_ (by simp), rfl, rfl⟩
    simp [v10, v10_c, buildS, Instr.fill, Value.cells, putL, one, melts, resM, isVal, oneOf, h1, hp]
  · by_cases h2 : n > 4194304
    · have hp : planOk n = false := by simp [planOk]; omega
      refine ⟨[.cells [.int .i64 0, .int .i64 0, .int .i64 0, .int .i64 0, .int .i64 0] 40 (0, 0) false], [.int .i64 0, .int .i64 0, .int .i64 0, .int .i64 0, .int .i64 0], v10_call ?_ (by simp), rfl, rfl⟩
      simp [v10, v10_c, buildS, Instr.fill, Value.cells, putL, one, melts, resM, isVal, oneOf, h1, h2, hp]
    · by_cases h3 : n.tmod 64 = 0
      · have hp : planOk n = true := by simp [planOk, h3]; omega
        refine ⟨[.cells [.int .i64 n, .int .i64 128, .int .i64 32768, .int .i64 32896, .int .i64 (IntKind.i64.wrap ((IntKind.i64.wrap (n - 32896)).tdiv 256))] 40 (0, 0) false], [.int .i64 n, .int .i64 128, .int .i64 32768, .int .i64 32896, .int .i64 (IntKind.i64.wrap ((IntKind.i64.wrap (n - 32896)).tdiv 256))], v10_call ?_ (by simp), rfl, rfl⟩
        simp [v10, v10_c, buildS, Instr.fill, Value.cells, putL, one, melts, resM, isVal, oneOf, h1, h2, h3, hp, bin_rem, bin_quo]
      · have hp : planOk n = false := by simp [planOk, h3]
        refine ⟨[.cells [.int .i64 0, .int .i64 0, .int .i64 0, .int .i64 0, .int .i64 0] 40 (0, 0) false], [.int .i64 0, .int .i64 0, .int .i64 0, .int .i64 0, .int .i64 0], v10_call ?_ (by simp), rfl, rfl⟩
        have e3 : (n.tmod 64 != 0) = true := by simpa using h3
        simp [v10, v10_c, buildS, Instr.fill, Value.cells, putL, one, melts, resM, isVal, oneOf, h1, h2, e3, hp, bin_rem]

/-! ### Scripts -/
/-- The steps of a script, and what each keeps, as they lie. -/
def Steps (H : Heap) (a : Option Addr) (n : Nat) (l : List (Step × List Int)) : Prop :=
  l.length = n ∧ n < 2 ^ 63 ∧ ∀ i s, l[i]? = some s → ∃ b off, a = some ⟨b, off, none⟩ ∧ H.getN b (off + i * 12) 12 = some s.1.cells ∧ Ints H s.1.keep s.1.n s.2

theorem Steps.app {H J : Heap} {a : Option Addr} {n : Nat} {l : List (Step × List Int)} (h : Steps H a n l) : Steps (H ++ J) a n l :=
  ⟨h.1, h.2.1, fun i s hs => let ⟨b, off, h1, h2, h3⟩ := h.2.2 i s hs; ⟨b, off, h1, getN_app h2, h3.app⟩⟩

def chk (size : Int) (l : List (Step × List Int)) : Int := if planOk size = true then (if l.length > 256 then 300 else if l.all (fun s => s.1.may size s.2) = true then 0 else 300) else 300

theorem cells_size (s : Step) : s.cells.length = 12 := rfl
theorem cells_one (s : Step) : s.cells.all one = true := rfl
theorem cells_val (s : Step) : s.cells.all isVal = true := rfl
theorem putL_all : ∀ (c l : List Value), c.length = l.length → putL c 0 l = l := by
  have key : ∀ (l p c : List Value), c.length = l.length → putL (p ++ c) p.length l = p ++ l := by
    intro l
    induction l with
    | nil => intro p c h; have : c = [] := List.eq_nil_of_length_eq_zero h; subst this; rfl
    | cons x l ih =>
      intro p c h
      cases c with
      | nil => cases h
      | cons y c =>
        simp only [putL]
        have h1 : (p ++ y :: c).set p.length x = (p ++ [x]) ++ c := by
          refine (List.set_append_right _ _ (Nat.le_refl _)).trans ?_
          simp
        rw [h1]
        have := ih (p ++ [x]) c (by simpa using h)
        rw [List.length_append] at this
        simpa using this
  intro c l h
  exact key l [] c h

theorem chk_loop (b0 : Nat) (size : Int) (a : Option Addr) (n cap : Nat) (l : List (Step × List Int)) :
    ∀ (m k : Nat) (H : Heap), k + m = l.length → H.get1 b0 0 = some (.int .i64 size) → Steps H a n l →
      ∃ J, loopΩ (v4_L2 vW) [.pointer (some ⟨b0, 0, none⟩), .slice a n cap, .int .i64 n, .int .i64 k] H =
        if (l.drop k).all (fun s => s.1.may size s.2) = true then .ret ⟨.exit 0, []⟩ (H ++ J) else .ret ⟨.ret, [.int .i64 300]⟩ (H ++ J)
  | 0, k, H, hk, hz, hs => by
    have : l.drop k = [] := by rw [List.drop_eq_nil_iff]; omega
    rw [this]
    have hk' : ¬ (k : Int) < n := by have := hs.1; omega
    refine ⟨[], loopΩ_done (x := ⟨.exit 0, []⟩) ?_ (by simp)⟩
    simp [v4_L2, v4_b0, hk']
  | m + 1, k, H, hk, hz, hs => by
    have hlt : k < l.length := by omega
    have hk' : (k : Int) < n := by have := hs.1; omega
    obtain ⟨b, off, hkp, hx, hi⟩ := hs.2.2 k _ (List.getElem?_eq_getElem hlt)
    have hd : l.drop k = l[k] :: l.drop (k + 1) := by rw [List.drop_eq_getElem_cons hlt]
    rw [hd]
    subst hkp
    generalize hsk : l[k] = s at hx hi
    obtain ⟨s, xs⟩ := s
    simp only at hx hi
    obtain ⟨J, hJ⟩ := may_spec (H ++ [.cells s.cells 50 (0, 0) false]) s size xs hi.app
    have hw := wrap_succ (n := k) (by have := hs.1; have := hs.2.1; omega)
    have hp := putL_all [.int .i64 0, .int .i64 0, .string .empty, .int .u32 0, .int .i64 0, .int .i64 0, .string .empty, .int .u8 0, .int .i64 0, .slice none 0 0, .int .i64 0, .int .u8 0] s.cells rfl
    have ht : List.take 12 s.cells = s.cells := rfl
    have hv : ∀ x ∈ s.cells, isVal x = true := by have := cells_val s; rwa [List.all_eq_true] at this
    have ho : ∀ x ∈ s.cells, one x = true := by have := cells_one s; rwa [List.all_eq_true] at this
    have hl := cells_size s
    cases hm : s.may size xs with
    | false =>
      refine ⟨[.cells s.cells 50 (0, 0) false] ++ J, ?_⟩
      rw [if_neg (by simp [hm])]
      refine loopΩ_done (x := ⟨.ret, [.int .i64 300]⟩) ?_ (by simp)
      simp [v4_L2, v4_b0, hk', hx, hp, eq_true ho, hl, ht, eq_true hv, melts, get1_app hz, inv_eq v11_ok, hJ, hm]
    | true =>
      obtain ⟨J', hJ'⟩ := chk_loop b0 size (some ⟨b, off, none⟩) n cap l m (k + 1) (H ++ ([.cells s.cells 50 (0, 0) false] ++ J)) (by omega) (get1_app hz) hs.app
      refine ⟨([.cells s.cells 50 (0, 0) false] ++ J) ++ J', ?_⟩
      simp only [List.all_cons, hm, Bool.true_and, ← List.append_assoc] at hJ' ⊢
      refine loopΩ_step (H' := H ++ [.cells s.cells 50 (0, 0) false] ++ J) ?_ hJ' (by split <;> simp)
      simp [v4_L2, v4_b0, v4_k1, hk', hx, hp, eq_true ho, hl, ht, eq_true hv, melts, get1_app hz, inv_eq v11_ok, hJ, hm, hw]
end Go.Wel
