/- Contracts: the checks, what refuses, the statement's own function. -/
import Derived.Test.YtajdleoobkfckaaGreatDoorCrC
set_option linter.unusedSimpArgs false
set_option linter.unusedVariables false
namespace Go.Wel
open Go Go.Proofs

theorem Steps.pre {H H' : Heap} {a : Option Addr} {n : Nat} {l : List (Step × List Int)} (hp : Pre H H') (h : Steps H a n l) : Steps H' a n l := by
  obtain ⟨J, rfl⟩ := hp; exact h.app

section checks
variable (H : Heap) (size : Int) (a : Option Addr) (n cap : Nat) (l : List (Step × List Int))

theorem check_spec (hs : Steps H a n l) : ∃ H', vW (.call 4 [.agg #[.int .i64 size, .slice a n cap]]) H = .ret (.int .i64 (chk size l)) H' ∧ Pre H H' := by
  obtain ⟨J, v, hJ, hv1, hv2⟩ := plan_spec (H ++ [Blk.cells [.int .i64 size, .slice a n cap] 24 (0, 0) false]) size
  have hput : putL [.int .i64 0, .int .i64 0, .int .i64 0, .int .i64 0, .int .i64 0] 0 v = v := putL_all _ _ (by simp [hv1])
  have ho' : ∀ x ∈ v, one x = true := by rwa [List.all_eq_true] at hv2
  have f0 : (H ++ [Blk.cells [.int .i64 size, .slice a n cap] 24 (0, 0) false] ++ J).get1 H.length 0 = some (.int .i64 size) := get1_app (by simp [isVal])
  have f1 : (H ++ [Blk.cells [.int .i64 size, .slice a n cap] 24 (0, 0) false] ++ J).get1 H.length 1 = some (.slice a n cap) := get1_app (by simp [isVal])
  have hpre : Pre H (H ++ [Blk.cells [.int .i64 size, .slice a n cap] 24 (0, 0) false] ++ J) := (Pre.add _ _).trans (Pre.add _ _)
  generalize hH1 : H ++ [Blk.cells [.int .i64 size, .slice a n cap] 24 (0, 0) false] ++ J = H1 at hJ f0 f1 hpre
  cases hp : planOk size with
  | false =>
    rw [hp] at hJ
    simp at hJ
    refine ⟨H1 ++ [Blk.cells v 40 (0, 0) false], v4_call ?_ (by simp), hpre.trans (Pre.add _ _)⟩
    simp [v4, v4_c, inv_eq v10_ok, isVal, hJ, hv1, hput, eq_true ho', melts, resM, chk, hp]
  | true =>
    rw [hp] at hJ
    simp at hJ
    by_cases hn : (n : Int) > 256
    · refine ⟨H1 ++ [Blk.cells v 40 (0, 0) false], v4_call ?_ (by simp), hpre.trans (Pre.add _ _)⟩
      have hl : 256 < l.length := by have := hs.1; omega
      simp [v4, v4_c, inv_eq v10_ok, isVal, hJ, hv1, hput, eq_true ho', melts, resM, chk, hp, get1_app f1, hn, hl]
    · have hl : ¬ 256 < l.length := by have := hs.1; omega
      obtain ⟨J2, h2⟩ := chk_loop H.length size a n cap l l.length 0 (H1 ++ [Blk.cells v 40 (0, 0) false]) (by omega) (get1_app f0) (Steps.pre (hpre.trans (Pre.add _ _)) hs)
      rw [List.drop_zero] at h2
      simp only [Int.natCast_zero] at h2
      cases hm : l.all (fun s => s.1.may size s.2) with
      | true =>
        rw [if_pos hm] at h2
        refine ⟨H1 ++ [Blk.cells v 40 (0, 0) false] ++ J2, v4_call ?_ (by simp), (hpre.trans (Pre.add _ _)).trans (Pre.add _ _)⟩
        have hc : chk size l = 0 := by unfold chk; rw [if_pos hp, if_neg hl, if_pos hm]
        simp [v4, v4_c, v4_k3, inv_eq v10_ok, isVal, hJ, hv1, hput, eq_true ho', melts, resM, hc, get1_app f1, hn, h2]
      | false =>
        rw [if_neg (by simp [hm])] at h2
        refine ⟨H1 ++ [Blk.cells v 40 (0, 0) false] ++ J2, v4_call ?_ (by simp), (hpre.trans (Pre.add _ _)).trans (Pre.add _ _)⟩
        have hc : chk size l = 300 := by unfold chk; rw [if_pos hp, if_neg hl, if_neg (by simp [hm])]
        simp [v4, v4_c, v4_k3, inv_eq v10_ok, isVal, hJ, hv1, hput, eq_true ho', melts, resM, hc, get1_app f1, hn, h2]

theorem rchk_loop (b0 : Nat) : ∀ (m k : Nat) (H : Heap), k + m = l.length → H.get1 b0 0 = some (.int .i64 size) → H.get1 b0 1 = some (.slice a n cap) → Steps H a n l →
      ∃ J, loopΩ (v5_L2 vW) [.pointer (some ⟨b0, 0, none⟩), .int .i64 k] H =
        if (l.drop k).all (fun s => s.1.may size s.2) = true then .ret ⟨.exit 0, []⟩ (H ++ J) else .ret ⟨.ret, [.int .i64 300]⟩ (H ++ J)
  | 0, k, H, hk, hz, hz1, hs => by
    have : l.drop k = [] := by rw [List.drop_eq_nil_iff]; omega
    rw [this]
    have hk' : ¬ (k : Int) < n := by have := hs.1; omega
    refine ⟨[], loopΩ_done (x := ⟨.exit 0, []⟩) ?_ (by simp)⟩
    simp [v5_L2, v5_b0, hk', hz1]
  | m + 1, k, H, hk, hz, hz1, hs => by
    have hlt : k < l.length := by omega
    have hk' : (k : Int) < n := by have := hs.1; omega
    obtain ⟨b, off, hkp, hx, hi⟩ := hs.2.2 k _ (List.getElem?_eq_getElem hlt)
    have hd : l.drop k = l[k] :: l.drop (k + 1) := by rw [List.drop_eq_getElem_cons hlt]
    rw [hd]
    generalize hsk : l[k] = s at hx hi
    obtain ⟨s, xs⟩ := s
    simp only at hx hi
    obtain ⟨J, hJ⟩ := rmay_spec H s size xs hi
    have hw := wrap_succ (n := k) (by have := hs.1; have := hs.2.1; omega)
    cases hm : s.may size xs with
    | false =>
      refine ⟨J, ?_⟩
      rw [if_neg (by simp [hm])]
      refine loopΩ_done (x := ⟨.ret, [.int .i64 300]⟩) ?_ (by simp)
      subst hkp
      simp [v5_L2, v5_b0, hk', hx, hz, hz1, inv_eq v12_ok, hJ, hm]
    | true =>
      obtain ⟨J', hJ'⟩ := rchk_loop b0 m (k + 1) (H ++ J) (by omega) (get1_app hz) (get1_app hz1) hs.app
      refine ⟨J ++ J', ?_⟩
      simp only [List.all_cons, hm, Bool.true_and, ← List.append_assoc] at hJ' ⊢
      refine loopΩ_step (H' := H ++ J) ?_ hJ' (by split <;> simp)
      subst hkp
      simp [v5_L2, v5_b0, v5_k1, hk', hx, hz, hz1, inv_eq v12_ok, hJ, hm, hw]

theorem rcheck_spec (hs : Steps H a n l) : ∃ H', vW (.call 5 [.agg #[.int .i64 size, .slice a n cap]]) H = .ret (.int .i64 (chk size l)) H' ∧ Pre H H' := by
  have go0 : planOk size = false → ∃ H', vW (.call 5 [.agg #[.int .i64 size, .slice a n cap]]) H = .ret (.int .i64 (chk size l)) H' ∧ Pre H H' := by
    intro hp
    refine ⟨H ++ [Blk.cells [.int .i64 size, .slice a n cap] 24 (0, 0) false], v5_call ?_ (by simp), Pre.add _ _⟩
    by_cases h1 : size < 36992
    · simp [v5, v5_c, isVal, resM, chk, hp, h1]
    · by_cases h2 : size > 4194304
      · simp [v5, v5_c, isVal, resM, chk, hp, h1, h2]
      · have h3 : (size.tmod 64 != 0) = true := by
          have : size.tmod 64 ≠ 0 := fun h => by simp [planOk, h] at hp; omega
          simpa using this
        simp [v5, v5_c, isVal, resM, chk, hp, h1, h2, bin_rem, h3]
  cases hp : planOk size with
  | false => exact go0 hp
  | true =>
    have h1 : ¬ size < 36992 := by simp [planOk] at hp; omega
    have h2 : ¬ size > 4194304 := by simp [planOk] at hp; omega
    have h3 : (size.tmod 64 != 0) = false := by simp [planOk] at hp; simp [hp.2]
    by_cases hn : (n : Int) > 256
    · refine ⟨H ++ [Blk.cells [.int .i64 size, .slice a n cap] 24 (0, 0) false], v5_call ?_ (by simp), Pre.add _ _⟩
      have hl : 256 < l.length := by have := hs.1; omega
      simp [v5, v5_c, isVal, resM, chk, hp, h1, h2, bin_rem, h3, hn, hl]
    · have hl : ¬ 256 < l.length := by have := hs.1; omega
      obtain ⟨J2, h5⟩ := rchk_loop size a n cap l H.length l.length 0 (H ++ [Blk.cells [.int .i64 size, .slice a n cap] 24 (0, 0) false]) (by omega) (by simp [isVal]) (by simp [isVal]) hs.app
      rw [List.drop_zero] at h5
      simp only [Int.natCast_zero] at h5
      cases hm : l.all (fun s => s.1.may size s.2) with
      | true =>
        rw [if_pos hm] at h5
        refine ⟨H ++ [Blk.cells [.int .i64 size, .slice a n cap] 24 (0, 0) false] ++ J2, v5_call ?_ (by simp), (Pre.add _ _).trans (Pre.add _ _)⟩
        have hc : chk size l = 0 := by unfold chk; rw [if_pos hp, if_neg hl, if_pos hm]
        simp [v5, v5_c, v5_k3, isVal, resM, hc, h1, h2, bin_rem, h3, hn, h5]
      | false =>
        rw [if_neg (by simp [hm])] at h5
        refine ⟨H ++ [Blk.cells [.int .i64 size, .slice a n cap] 24 (0, 0) false] ++ J2, v5_call ?_ (by simp), (Pre.add _ _).trans (Pre.add _ _)⟩
        have hc : chk size l = 300 := by unfold chk; rw [if_pos hp, if_neg hl, if_neg (by simp [hm])]
        simp [v5, v5_c, v5_k3, isVal, resM, hc, h1, h2, bin_rem, h3, hn, h5]
end checks
end Go.Wel
