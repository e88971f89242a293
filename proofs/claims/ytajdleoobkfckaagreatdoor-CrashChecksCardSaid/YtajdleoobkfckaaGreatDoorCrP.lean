/- CrashChecks: the row's contract: whatever the script, true; the script reads as it did. -/
import Derived.Test.YtajdleoobkfckaaGreatDoorCrF
import Derived.Test.YtajdleoobkfckaaGreatDoorCrW
namespace Go.Proofs.YtajdleoobkfckaaGreatDoor
open Go.ChangeShapes Go.WideShapes Go.RowKit

/-- The memory isn't empty. -/
theorem heap_pos {W : World} (h : laidMetH Tryz.prog Rows.crashChecksRow.laid W) : 0 < W.heap.size := by
  have h' : laidMet Tryz.prog [("unicode/utf8.first", Rows.laid_unicode_utf8_first), ("unicode/utf8.acceptRanges", Rows.laid_unicode_utf8_acceptRanges)] W ∧ handlesMet Tryz.prog [("errors.errorType", Rows.laid_errors_errorType)] W := h
  obtain ⟨name, u, ty, _, _, _, _, e5⟩ := h'.2 _ (List.mem_singleton.2 rfl)
  rcases Nat.eq_zero_or_pos W.heap.size with h0 | h0
  · exfalso
    unfold World.var? at e5
    rw [show Tryz.prog.globalNamed "errors.errorType" = some 0 by kernel_rfl] at e5
    simp [Array.getElem?_eq_none (Nat.le_of_eq h0)] at e5
  · exact h0

set_option maxRecDepth 100000 in
theorem law_lifted (os : Os) (started : os.Started) (H : Type) (enc : TypeId × Value → H) :
    ReturnsInHanded {} Tryz.checked os 3 .any (fun w args => (Rows.crashChecksSpec.pre enc Tryz.prog Tryz.f3 [] false w args ∧ laidMetH Tryz.prog Rows.crashChecksRow.laid w) ∧ sizedMet enc Tryz.prog Tryz.f3 (OpenSpec.ofChange Rows.crashChecksSpec) false w args)
      (Rows.crashChecksSpec.post enc Tryz.prog Tryz.f3 false true false false) := by
  refine returnsInHanded_of_change_and (C := Tryz.checked) (X := fun w _ => laidMetH Tryz.prog Rows.crashChecksRow.laid w) (fun _ _ _ hh h => h.of_heap hh) own_knob started (by kernel_rfl) Tryz.func3
    (own_witness os H enc) ?_
  intro W base args ds gs before hval0 hW _ _ hL _
  have hval : ∀ (j : Nat) t v, Tryz.f3.params[j]? = some t → args[j]? = some v → Value.okWide Tryz.prog W .any base t v := hval0
  have hW' := hW
  have hlt := hW'.lt
  obtain ⟨p, q, hA0, hV, rfl, _, _⟩ := hW
  have hA : DataW.TrodAll enc Tryz.prog W 0 (fun _ => true) true Tryz.f3.params.toList args.toList ds p := hA0
  rw [Tryz.params3] at hA hval
  obtain ⟨v0, d0, rfl, rfl, h0⟩ := trodAll_one hA
  obtain ⟨rfl, rfl⟩ := trodVars_none hV
  simp only [List.append_nil] at hW' hlt
  obtain ⟨size, a, n, cap, l, rfl, hvr, hst⟩ := Wel.script_reads (hval 0 24 v0 rfl rfl) h0
  obtain ⟨H', hlaw, J, hJ⟩ := Wel.law_spec (Wel.heapOf Tryz.prog W) size a n cap l hst
  subst hJ
  have hlaw' : Wel.callΩ Wel.vE Wel.vkeep Wel.vann (.call 3 [.agg #[.int .i64 size, .slice a n cap]]) (Wel.heapOf Wel.vE.P W) = .ret (.bool true) (Wel.heapOf Wel.vE.P W ++ J) := hlaw
  have hc := Wel.calls_of (E := Wel.vE) (fun f g h => by cases (show (none : Option (List Value → Wel.M Value)) = some g from h)) (args' := #[.agg #[.int .i64 size, .slice a n cap]]) (Nat.zero_le _) (heap_pos hL) (.cons (.inr hvr) .nil) hlaw'
  refine hc.mono fun e W' ⟨L', v', he, hvv, ⟨ho, hout⟩, hold⟩ => ?_
  obtain rfl := hvv.bool_inv
  subst he
  have h0' : DataW.Trod enc Tryz.prog W' 0 (fun b => decide (b < W.heap.size)) true 24 (.agg #[.int .i64 size, .slice a n cap]) d0 p :=
    WideElems.Trod_stays own_laidOut own_rec own_row h0 (fun x hx => Wel.same_of hold (hlt x hx)) (fun x hx => by simpa using hlt x hx)
  exact ⟨_, rfl, _, _, _, [], p, [], hW', trodAll_mk1 (shut_bool Tryz.underlying4 true), trodAll_mk1 h0', rfl, Wel.kept_of ho hout hold _, fun h => by cases h⟩

end Go.Proofs.YtajdleoobkfckaaGreatDoor
