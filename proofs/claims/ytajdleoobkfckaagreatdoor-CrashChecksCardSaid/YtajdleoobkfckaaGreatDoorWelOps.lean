/- The operations over the abstract memory: those that touch no cell, and those that read and write cells. Each agrees with the model's. -/
import Derived.Test.YtajdleoobkfckaaGreatDoorWelDom
set_option linter.unusedSimpArgs false
set_option linter.unusedVariables false
namespace Go.Wel
open Go

inductive Out (α : Type) where
  | ret (a : α) (H : Heap)
  | pan (v : Value) (H : Heap)
  | bad

def M (α : Type) := Heap → Out α

def M.pure {α : Type} (a : α) : M α := fun H => .ret a H
def M.bad {α : Type} : M α := fun _ => .bad
def M.pan {α : Type} (v : Value) : M α := fun H => .pan v H
def M.bind {α β : Type} (m : M α) (f : α → M β) : M β := fun H => match m H with
  | .ret a H' => f a H'
  | .pan v H' => .pan v H'
  | .bad => .bad
def M.ofOption {α : Type} (o : Option α) : M α := match o with
  | some a => M.pure a
  | none => M.bad

/-- What the model does, as it stands to what is reckoned. -/
def Snd (P : Program) (L : Lays) (w : World) (s : Sem Value) : Out Value → Prop
  | .ret v H' => ∃ L' v' w', s.run P w = .ok v' w' ∧ L.le L' ∧ Sim P L' H' w' ∧ VR L' v v'
  | .pan v H' => ∃ L' v' w', s.run P w = .halt (.panic v') w' ∧ L.le L' ∧ Sim P L' H' w' ∧ VR L' v v'
  | .bad => True

theorem Snd.pure {P : Program} {L : Lays} {H : Heap} {w : World} {s : Sem Value} {v v' : Value} (h : Sim P L H w) (hr : s.run P w = .ok v' w) (hv : VR L v v') : Snd P L w s (.ret v H) :=
  ⟨L, v', w, hr, Lays.le_refl L, h, hv⟩

section inv
variable {L : Lays} {v' : Value}
theorem TR.vr {v : Value} (h : TR L v v') (hv : v ≠ undef) : VR L v v' := h.resolve_left hv
theorem VR.int_inv {k : IntKind} {n : Int} (h : VR L (.int k n) v') : v' = .int k n := by cases h; rfl
theorem VR.bool_inv {b : Bool} (h : VR L (.bool b) v') : v' = .bool b := by cases h; rfl
theorem VR.string_inv {s : ByteArray} (h : VR L (.string s) v') : v' = .string s := by cases h; rfl
theorem VR.ptr_inv {a : Addr} (h : VR L (.pointer (some a)) v') : ∃ l, L[a.block]? = some l ∧ a = ⟨a.block, a.off, none⟩ ∧ v' = .pointer (some ⟨l.b, a.off, none⟩) := by
  cases h with | ptr h => exact ⟨_, h, rfl, rfl⟩
theorem VR.nilp_inv (h : VR L (.pointer none) v') : v' = .pointer none := by cases h; rfl
theorem VR.nils_inv {n c : Nat} (h : VR L (.slice none n c) v') : v' = .slice none n c := by cases h; rfl
theorem VR.slice_some {a : Addr} {len cap : Nat} (h : VR L (.slice (some a) len cap) v') : ∃ a' cap', v' = .slice (some a') len cap' := by
  cases h with
  | slice h hc => exact ⟨_, _, rfl⟩
  | sliceU h h1 => exact ⟨_, _, rfl⟩
  | lit a => exact ⟨_, _, rfl⟩
theorem capE_eq : capE = capU + 1 := rfl
theorem VR.slice_le {a : Addr} {len cap : Nat} (h : VR L (.slice (some a) len cap) v') (hc : cap = capU ∨ len ≤ cap) : ∃ a' cap', v' = .slice (some a') len cap' ∧ len ≤ cap' := by
  cases h with
  | slice h hn => exact ⟨_, _, rfl, hc.resolve_left hn.1⟩
  | sliceU h h1 => exact ⟨_, _, rfl, by rcases h1 with ⟨_, _, _, q⟩ | ⟨q, _⟩ <;> omega⟩
  | lit a => exact ⟨_, _, rfl, Nat.le_refl _⟩
theorem VR.slice_inv {a : Addr} {len cap : Nat} (h : VR L (.slice (some a) len cap) v') (hE : cap ≠ capE ∨ 0 < len) : ∃ l off' cap', L[a.block]? = some l ∧ a = ⟨a.block, a.off, none⟩ ∧ v' = .slice (some ⟨l.b, off', none⟩) len cap' ∧
    ((cap ≠ capU ∧ cap' = cap ∧ off' = a.off) ∨ (cap = capU ∧ CapU l a.off off' len cap')) := by
  cases h with
  | slice h hc => exact ⟨_, _, _, h, rfl, rfl, .inl ⟨hc.1, rfl, rfl⟩⟩
  | sliceU h h1 => exact ⟨_, _, _, h, rfl, rfl, .inr ⟨rfl, h1⟩⟩
  | lit a => rcases hE with h | h
             · exact absurd rfl h
             · omega
theorem VR.map_inv {i : Nat} (h : VR L (.map (some i)) v') : ∃ l, L[i]? = some l ∧ v' = .map (some l.b) := by
  cases h with | map h => exact ⟨_, h, rfl⟩
theorem VR.nilm_inv (h : VR L (.map none) v') : v' = .map none := by cases h; rfl
theorem VR.nili_inv (h : VR L .nilIface v') : v' = .nilIface := by cases h; rfl
theorem VR.nilf_inv (h : VR L .nilFunc v') : v' = .nilFunc := by cases h; rfl
theorem VR.iface_inv {t : TypeId} {v : Value} (h : VR L (.iface t v) v') : ∃ x, v' = .iface t x ∧ VR L v x := by
  cases h with | iface t h => exact ⟨_, rfl, h⟩
theorem VR.agg_inv {c : Array Value} (h : VR L (.agg c) v') : ∃ c', v' = .agg c' ∧ VRs L c.toList c'.toList := by
  cases h with | agg h => exact ⟨_, rfl, h⟩
theorem VR.tuple_inv {c : Array Value} (h : VR L (.tuple c) v') : ∃ c', v' = .tuple c' ∧ VRs L c.toList c'.toList := by
  cases h with | tuple h _ => exact ⟨_, rfl, h⟩
theorem VR.func_inv {fn : Fn} {a c : Array Value} (h : VR L (.func fn a c) v') : ∃ fn' a' c', v' = .func fn' a' c' ∧ FnR L fn fn' ∧ VRs L a.toList a'.toList ∧ VRs L c.toList c'.toList := by
  cases h with | func h ha hc => exact ⟨_, _, _, rfl, h, ha, hc⟩
end inv

theorem undef_ne_int {k : IntKind} {n : Int} : (Value.int k n) ≠ undef := by simp [undef]

/-- The value bears no address. -/
def flatD : Nat → Value → Bool
  | 0, _ => false
  | n + 1, v => match v with
    | .bool _ | .int _ _ | .string _ | .pointer none | .slice none _ _ | .map none | .nilFunc | .nilIface => true
    | .iface _ v => flatD n v
    | .agg c => c.toList.all (flatD n)
    | _ => false
def flat (v : Value) : Bool := flatD 8 v

mutual
theorem flatD_refl (L : Lays) : ∀ (n : Nat) (v : Value), flatD n v = true → VR L v v
  | 0, v, h => by simp [flatD] at h
  | n + 1, v, h => by
    cases v with
    | bool b => exact .bool b
    | int k m => exact .int k m
    | string s => exact .string s
    | pointer a => cases a with
      | none => exact .nilp
      | some a => simp [flatD] at h
    | slice a l c => cases a with
      | none => exact .nils l c
      | some a => simp [flatD] at h
    | map r => cases r with
      | none => exact .nilm
      | some a => simp [flatD] at h
    | nilFunc => exact .nilf
    | nilIface => exact .nili
    | iface t v => exact .iface t (flatD_refl L n v (by simpa [flatD] using h))
    | agg c => exact .agg (flatDs_refl L n c.toList (by rw [flatD] at h; exact List.all_eq_true.1 h))
    | _ => simp [flatD] at h
theorem flatDs_refl (L : Lays) : ∀ (n : Nat) (l : List Value), (∀ v ∈ l, flatD n v = true) → VRs L l l
  | n, [], _ => .nil
  | n, v :: l, h => .cons (flatD_refl L n v (h v (by simp))) (flatDs_refl L n l (fun x hx => h x (by simp [hx])))
end
theorem flat_refl (L : Lays) {v : Value} (h : flat v = true) : VR L v v := flatD_refl L 8 v h

/-- A value without an address stands for itself alone. -/
theorem flatD_eq {L : Lays} : ∀ (n : Nat) (v v' : Value), flatD n v = true → VR L v v' → v' = v
  | 0, v, _, h, _ => by simp [flatD] at h
  | n + 1, v, v', h, hv => by
    cases v with
    | bool b => exact hv.bool_inv
    | int k m => exact hv.int_inv
    | string s => exact hv.string_inv
    | pointer a => cases a with
      | none => exact hv.nilp_inv
      | some a => simp [flatD] at h
    | slice a l c => cases a with
      | none => exact hv.nils_inv
      | some a => simp [flatD] at h
    | map r => cases r with
      | none => exact hv.nilm_inv
      | some a => simp [flatD] at h
    | nilFunc => exact hv.nilf_inv
    | nilIface => exact hv.nili_inv
    | iface t v => obtain ⟨x, rfl, hx⟩ := hv.iface_inv; rw [flatD_eq n v x (by simpa [flatD] using h) hx]
    | agg c =>
      obtain ⟨c', rfl, hc⟩ := hv.agg_inv
      have hall : ∀ v ∈ c.toList, flatD n v = true := by rw [flatD] at h; exact List.all_eq_true.1 h
      have : c'.toList = c.toList := by
        generalize c.toList = l at hall hc
        generalize c'.toList = l' at hc
        induction l generalizing l' with
        | nil => cases hc; rfl
        | cons x l ih => cases hc with
          | cons h1 h2 => rw [flatD_eq n x _ (hall x (by simp)) h1, ih (fun y hy => hall y (by simp [hy])) _ h2]
      rw [Array.toList_inj.1 this]
    | _ => simp [flatD] at h
theorem flat_eq {L : Lays} {v v' : Value} (h : flat v = true) (hv : VR L v v') : v' = v := flatD_eq 8 v v' h hv

/-- A reckoning that neither reads nor turns the world. -/
def Still {α : Type} (P : Program) (s : Sem α) : Prop := ∃ r : Except Halt α, ∀ w, s.run P w = match r with
  | .ok a => .ok a w
  | .error h => .halt h w

namespace Still
variable {α β : Type} {P : Program}
theorem pure (a : α) : Still P (Pure.pure a : Sem α) := ⟨.ok a, fun _ => rfl⟩
theorem pure' (a : α) : Still P (Sem.pure a) := ⟨.ok a, fun _ => rfl⟩
theorem halt (h : Halt) : Still P (Sem.halt h : Sem α) := ⟨.error h, fun _ => rfl⟩
theorem bind {s : Sem α} {f : α → Sem β} (hs : Still P s) (hf : ∀ a, Still P (f a)) : Still P (s >>= f) := by
  obtain ⟨r, hr⟩ := hs
  cases r with
  | error h => exact ⟨.error h, fun w => by rw [Sem.run_bind, hr w]; rfl⟩
  | ok a =>
    obtain ⟨q, hq⟩ := hf a
    exact ⟨q, fun w => by rw [Sem.run_bind, hr w]; exact hq w⟩
theorem program : Still P program := ⟨.ok P, fun _ => rfl⟩
theorem underlying (t : TypeId) : Still P (underlying t) := by
  refine bind program fun p => ?_
  split
  · exact pure _
  · exact halt _
theorem typeInfo (t : TypeId) : Still P (typeInfo t) := by
  refine bind program fun p => ?_
  split
  · exact pure _
  · exact halt _
theorem sizeOf (t : TypeId) : Still P (sizeOf t) := bind (typeInfo t) fun _ => pure _
theorem isAgg (t : TypeId) : Still P (isAgg t) := by
  refine bind (underlying t) fun d => ?_
  split <;> exact pure _
theorem typeStr (t : TypeId) : Still P (typeStr t) := by
  refine bind (typeInfo t) fun i => ?_
  dsimp only
  split
  · exact halt _
  · exact pure _
theorem part (t : TypeId) (cs : Array Value) (off : Nat) : Still P (part t cs off) := by
  refine bind (isAgg t) fun b => ?_
  split
  · exact bind (sizeOf t) fun _ => pure _
  · split
    · exact pure _
    · exact halt _
theorem run {s : Sem α} (h : Still P s) {w₀ : World} {a : α} {w₁ : World} (hr : s.run P w₀ = .ok a w₁) (w : World) : s.run P w = .ok a w := by
  obtain ⟨r, h⟩ := h
  rw [h w₀] at hr
  rw [h w]
  cases r with
  | ok b => cases hr; rfl
  | error e => cases hr
theorem forIn {γ : Type} (l : List γ) (f : γ → β → Sem (ForInStep β)) (hf : ∀ a b, Still P (f a b)) : ∀ b, Still P (ForIn.forIn l b f) := by
  induction l with
  | nil => intro b; exact pure b
  | cons x l ih =>
    intro b
    rw [List.forIn_cons]
    refine bind (hf x b) fun r => ?_
    split
    · exact pure _
    · exact ih _
theorem bind' {s : Sem α} {f : α → Sem β} (hs : Still P s) (hf : ∀ a w w', s.run P w = .ok a w' → Still P (f a)) : Still P (s >>= f) := by
  obtain ⟨r, hr⟩ := hs
  cases r with
  | error h => exact ⟨.error h, fun w => by rw [Sem.run_bind, hr w]; rfl⟩
  | ok a =>
    obtain ⟨q, hq⟩ := hf a default default (hr default)
    exact ⟨q, fun w => by rw [Sem.run_bind, hr w]; exact hq w⟩
theorem forInA {γ : Type} (l : Array γ) (f : γ → β → Sem (ForInStep β)) (hf : ∀ a b, Still P (f a b)) (b : β) : Still P (ForIn.forIn l b f) := by
  rw [← Array.forIn_toList]
  exact forIn _ _ hf b
theorem forInR (n : Nat) (f : Nat → β → Sem (ForInStep β)) (hf : ∀ a b, Still P (f a b)) (b : β) : Still P (ForIn.forIn [0:n] b f) := by
  rw [Std.Legacy.Range.forIn_eq_forIn_range']
  exact forIn _ _ hf b
theorem ite {c : Prop} [Decidable c] {x y : Sem α} (hx : Still P x) (hy : Still P y) : Still P (if c then x else y) := by
  split
  · exact hx
  · exact hy
theorem runtimePanic (e : String) : Still P (runtimePanic (.error e) : Sem α) := bind program fun _ => halt _
end Still

theorem part_flat {P : Program} {t : TypeId} {cs : Array Value} {off n : Nat} {v : Value} {w w' : World} (hc : ∀ x ∈ cs.toList, flatD n x = true)
    (h : (part t cs off).run P w = .ok v w') : flatD (n + 1) v = true ∨ flatD n v = true := by
  simp only [part, Sem.run_bind] at h
  cases h1 : (isAgg t).run P w with
  | halt x y => simp [h1] at h
  | ok b w1 =>
    simp only [h1, Result.andThen_ok] at h
    cases b with
    | true =>
      simp only [if_true, Sem.run_bind] at h
      cases h2 : (sizeOf t).run P w1 with
      | halt x y => simp [h2] at h
      | ok s w2 =>
        simp only [h2, Result.andThen_ok, Sem.run_pure, Result.ok.injEq] at h
        obtain ⟨rfl, rfl⟩ := h
        left
        rw [flatD]
        refine List.all_eq_true.2 fun x hx => hc x ?_
        simp only [Array.toList_extract] at hx
        have hx' : x ∈ List.take s (List.drop off cs.toList) := by simpa [List.extract_eq_take_drop] using hx
        exact List.mem_of_mem_drop (List.mem_of_mem_take hx')
    | false =>
      simp only [Bool.false_eq_true, if_false] at h
      split at h
      · simp only [Sem.run_pure, Result.ok.injEq] at h
        obtain ⟨rfl, rfl⟩ := h
        rename_i hx
        right
        exact hc _ (by simpa using Array.mem_of_getElem? hx)
      · simp at h

theorem flatD_agg {n : Nat} {c : Array Value} (h : flatD n (.agg c) = true) : ∃ k, ∀ x ∈ c.toList, flatD k x = true := by
  cases n with
  | zero => simp [flatD] at h
  | succ n => rw [flatD] at h; exact ⟨n, List.all_eq_true.1 h⟩

/-- Two values without addresses are held against one another without a look at memory. -/
theorem still_equalIn {P : Program} : ∀ (d : Nat) (t : TypeId) (x y : Value) (n m : Nat), flatD n x = true → flatD m y = true → Still P (Op.equalIn d t x y)
  | 0, t, x, y, n, m, _, _ => .halt _
  | d + 1, t, x, y, n, m, hx, hy => by
    unfold Op.equalIn
    refine .bind (.underlying t) fun u => ?_
    split
    · exact .pure _
    · exact .ite (.pure _) (.halt _)
    · exact absurd hx (by cases n <;> simp [flatD])
    · exact absurd hy (by cases m <;> simp [flatD])
    · exact absurd hx (by cases n <;> simp [flatD])
    · exact .halt _
    · exact .halt _
    · exact .ite (.pure _) (.halt _)
    · exact .ite (.pure _) (.halt _)
    · exact .pure _
    · exact .pure _
    · exact .pure _
    · exact absurd hx (by cases n <;> simp [flatD])
    · rename_i a b
      cases a with
      | some a => exact absurd hx (by cases n <;> simp [flatD])
      | none => cases b with
        | some b => exact absurd hy (by cases m <;> simp [flatD])
        | none => exact .pure _
    · exact .pure _
    · exact .pure _
    · exact .pure _
    · exact .pure _
    · rename_i tx vx ty vy
      cases n with
      | zero => simp [flatD] at hx
      | succ n =>
        cases m with
        | zero => simp [flatD] at hy
        | succ m =>
          rw [flatD] at hx hy
          refine .ite (.pure _) (.bind (.typeInfo _) fun i => ?_)
          refine .ite (.bind .program fun p => .bind .program fun q => ?_) (still_equalIn d tx vx vy n m hx hy)
          refine .ite (.bind (.halt _) fun _ => ?_) ?_
          · exact .bind (.typeStr _) fun s => .runtimePanic _
          · exact .bind (.typeStr _) fun s => .runtimePanic _
    · rename_i fields xs ys
      obtain ⟨k, hk⟩ := flatD_agg hx
      obtain ⟨j, hj⟩ := flatD_agg hy
      have eq : ∀ (a b : Value) (w w' w2 w2' : World) (f : Field), (part f.type xs f.offset).run P w = .ok a w' → (part f.type ys f.offset).run P w2 = .ok b w2' → Still P (Op.equalIn d f.type a b) := by
        intro a b w w' w2 w2' f ha hb
        rcases part_flat hk ha with h1 | h1 <;> rcases part_flat hj hb with h2 | h2 <;> exact still_equalIn d f.type a b _ _ h1 h2
      refine .bind .program fun p => .ite (.bind (.halt _) fun _ => ?_) ?_
      all_goals
        refine .bind (.forInA _ _ (fun f b => ?_) _) fun r => ?_
        · refine .ite ?_ (.pure _)
          refine .bind' (.part _ _ _) fun a w w' ha => .bind' (.part _ _ _) fun b w2 w2' hb => .bind (eq a b w w' w2 w2' f ha hb) fun t => ?_
          exact .ite (.pure _) (.pure _)
        · dsimp only; split <;> exact .pure _
    · rename_i len elem xs ys
      obtain ⟨k, hk⟩ := flatD_agg hx
      obtain ⟨j, hj⟩ := flatD_agg hy
      have eq : ∀ (a b : Value) (w w' w2 w2' : World) (o o' : Nat), (part elem xs o).run P w = .ok a w' → (part elem ys o').run P w2 = .ok b w2' → Still P (Op.equalIn d elem a b) := by
        intro a b w w' w2 w2' o o' ha hb
        rcases part_flat hk ha with h1 | h1 <;> rcases part_flat hj hb with h2 | h2 <;> exact still_equalIn d elem a b _ _ h1 h2
      refine .bind (.sizeOf _) fun sz => .bind (.forInR _ _ (fun f b => ?_) _) fun r => ?_
      · refine .bind' (.part _ _ _) fun a w w' ha => .bind' (.part _ _ _) fun b w2 w2' hb => .bind (eq a b w w' w2 w2' _ _ ha hb) fun t => ?_
        exact .ite (.pure _) (.pure _)
      · dsimp only; split <;> exact .pure _
    · exact .pure _
    · exact .pure _
    · exact .pure _
    · exact .pure _
    · exact .pure _
    · exact .pure _
    · exact .pure _
    · exact .halt _
end Go.Wel
