/- Calls and loops without a bound: the limit. -/
import Derived.Test.YtajdleoobkfckaaGreatDoorWelSound3
set_option linter.unusedSimpArgs false
set_option linter.unusedVariables false
namespace Go.Wel
open Go

/-- A chain, and what it comes to. -/
structure Ap {α : Type} (f : Nat → M α) (F : M α) : Prop where
  mono : ∀ n H, f n H ≠ .bad → f (n + 1) H = f n H
  lim : ∀ H, F H ≠ .bad → ∃ n, f n H = F H

section
variable {α β : Type}

theorem Ap.up {f : Nat → M α} {F : M α} (h : Ap f F) {n m : Nat} (hle : n ≤ m) {H : Heap} (hb : f n H ≠ .bad) : f m H = f n H := by
  induction hle with
  | refl => rfl
  | step _ ih => rw [h.mono _ _ (by rw [ih]; exact hb), ih]

theorem Ap.const (m : M α) : Ap (fun _ => m) m := ⟨fun _ _ _ => rfl, fun _ _ => ⟨0, rfl⟩⟩
theorem Ap.bad : Ap (fun _ => (M.bad : M α)) M.bad := .const _

theorem Ap.of_eq {f g : Nat → M α} {F G : M α} (h : Ap f F) (hf : ∀ n, g n = f n) (hF : G = F) : Ap g G := by
  have : g = f := funext hf
  rw [this, hF]; exact h

theorem Ap.bind {f : Nat → M α} {F : M α} {k : Nat → α → M β} {K : α → M β} (h : Ap f F) (hk : ∀ a, Ap (fun n => k n a) (K a)) : Ap (fun n => (f n).bind (k n)) (F.bind K) := by
  refine ⟨fun n H hb => ?_, fun H hb => ?_⟩
  · unfold M.bind at hb ⊢
    cases hf : f n H with
    | bad => rw [hf] at hb; exact absurd rfl hb
    | pan v H' => rw [h.mono n H (by rw [hf]; simp), hf]
    | ret v H' =>
      rw [h.mono n H (by rw [hf]; simp), hf]
      rw [hf] at hb
      exact (hk v).mono n H' hb
  · unfold M.bind at hb ⊢
    cases hF : F H with
    | bad => rw [hF] at hb; exact absurd rfl hb
    | pan v H' =>
      obtain ⟨n, hn⟩ := h.lim H (by rw [hF]; simp)
      exact ⟨n, by rw [hn, hF]⟩
    | ret v H' =>
      rw [hF] at hb
      obtain ⟨n, hn⟩ := h.lim H (by rw [hF]; simp)
      obtain ⟨m, hm⟩ := (hk v).lim H' hb
      refine ⟨max n m, ?_⟩
      have h1 : f (max n m) H = f n H := h.up (Nat.le_max_left _ _) (by rw [hn, hF]; simp)
      have h2 : k (max n m) v H' = k m v H' := (hk v).up (Nat.le_max_right _ _) (by rw [hm]; exact hb)
      rw [h1, hn, hF]
      simp only
      rw [h2, hm]

theorem Ap.fn {f : Nat → M α} {F : M α} (h : ∀ H, Ap (fun n _ => f n H) (fun _ => F H)) : Ap f F :=
  ⟨fun n H hb => (h H).mono n H hb, fun H hb => (h H).lim H hb⟩
theorem Ap.at {f : Nat → M α} {F : M α} (h : Ap f F) (H : Heap) : Ap (fun n _ => f n H) (fun _ => F H) :=
  ⟨fun n _ hb => h.mono n H hb, fun _ hb => h.lim H hb⟩

theorem Ap.only {f : Nat → M Value} {F : M Value} {k : Nat → Value → M β} {K : Value → M β} (h : Ap f F) (hk : ∀ a, Ap (fun n => k n a) (K a)) : Ap (fun n => Wel.only (f n) (k n)) (Wel.only F K) := by
  refine ⟨fun n H hb => ?_, fun H hb => ?_⟩
  · unfold Wel.only at hb ⊢
    cases hf : f n H with
    | bad => rw [hf] at hb; exact absurd rfl hb
    | pan v H' => rw [hf] at hb; exact absurd rfl hb
    | ret v H' =>
      rw [h.mono n H (by rw [hf]; simp), hf]
      rw [hf] at hb
      exact (hk v).mono n H' hb
  · unfold Wel.only at hb ⊢
    cases hF : F H with
    | bad => rw [hF] at hb; exact absurd rfl hb
    | pan v H' => rw [hF] at hb; exact absurd rfl hb
    | ret v H' =>
      rw [hF] at hb
      obtain ⟨n, hn⟩ := h.lim H (by rw [hF]; simp)
      obtain ⟨m, hm⟩ := (hk v).lim H' hb
      refine ⟨max n m, ?_⟩
      have h1 : f (max n m) H = f n H := h.up (Nat.le_max_left _ _) (by rw [hn, hF]; simp)
      have h2 : k (max n m) v H' = k m v H' := (hk v).up (Nat.le_max_right _ _) (by rw [hm]; exact hb)
      rw [h1, hn, hF]
      simp only
      rw [h2, hm]

theorem loop_fuel (b : List Value → M R) : ∀ j p H, loopN b j p H ≠ .bad → loopN b (j + 1) p H = loopN b j p H
  | 0, p, H, hb => absurd rfl hb
  | j + 1, p, H, hb => by
    rw [loopN] at hb ⊢
    rw [loopN]
    unfold M.bind at hb ⊢
    cases hm : b p H with
    | bad => rfl
    | pan _ _ => rfl
    | ret r H' =>
      rw [hm] at hb
      simp only at hb ⊢
      by_cases hr : r.e = .normal
      · rw [if_pos hr] at hb ⊢
        rw [if_pos hr]
        exact loop_fuel b j r.p H' hb
      · rw [if_neg hr, if_neg hr]

theorem loop_ap {b : Nat → List Value → M R} {B : List Value → M R} (h : ∀ p, Ap (fun n => b n p) (B p)) : ∀ j p, Ap (fun n => loopN (b n) j p) (loopN B j p)
  | 0, p => .const _
  | j + 1, p => (h p).bind fun r => by
      by_cases hr : r.e = .normal
      · simp only [hr, if_true]; exact loop_ap h j r.p
      · simp only [hr, if_false]; exact .const _

/-- Rounds until one is left, however many. -/
noncomputable def loopΩ (b : List Value → M R) (p : List Value) : M R := fun H => open Classical in if h : ∃ n, loopN b n p H ≠ .bad then loopN b (Classical.choose h) p H else .bad

theorem loop_le (b : List Value → M R) {i j : Nat} (hle : i ≤ j) (p : List Value) (H : Heap) (hb : loopN b i p H ≠ .bad) : loopN b j p H = loopN b i p H := by
  induction hle with
  | refl => rfl
  | step _ ih => rw [loop_fuel _ _ _ _ (by rw [ih]; exact hb), ih]

theorem loopΩ_of {b : List Value → M R} {n : Nat} {p : List Value} {H : Heap} {r : Out R} (h : loopN b n p H = r) (hb : r ≠ .bad) : loopΩ b p H = r := by
  have hx : ∃ n, loopN b n p H ≠ .bad := ⟨n, by rw [h]; exact hb⟩
  unfold loopΩ
  rw [dif_pos hx]
  have hc := Classical.choose_spec hx
  rcases Nat.le_total n (Classical.choose hx) with hle | hle
  · rw [loop_le b hle p H (by rw [h]; exact hb), h]
  · rw [← loop_le b hle p H hc, h]

theorem loopΩ_ok : LpOK loopΩ := fun b p H hb => by
  unfold loopΩ at hb ⊢
  split
  · rename_i h; exact ⟨_, rfl⟩
  · rename_i h; rw [dif_neg h] at hb; exact absurd rfl hb

/-- A round that goes on. -/
theorem loopΩ_step {b : List Value → M R} {p p' : List Value} {H H' : Heap} {r : Out R} (h1 : b p H = .ret ⟨.normal, p'⟩ H') (h2 : loopΩ b p' H' = r) (hb : r ≠ .bad) : loopΩ b p H = r := by
  obtain ⟨j, hj⟩ := loopΩ_ok b p' H' (by rw [h2]; exact hb)
  refine loopΩ_of (n := j + 1) ?_ hb
  simp only [loopN, M.bind, h1, if_true]
  rw [hj, h2]

/-- A round that leaves. -/
theorem loopΩ_done {b : List Value → M R} {p : List Value} {H H' : Heap} {x : R} (h1 : b p H = .ret x H') (hx : x.e ≠ .normal) : loopΩ b p H = .ret x H' := by
  refine loopΩ_of (n := 1) ?_ (by simp)
  simp [loopN, M.bind, h1, hx, M.pure]

theorem loopΩ_pan {b : List Value → M R} {p : List Value} {H H' : Heap} {x : Value} (h1 : b p H = .pan x H') : loopΩ b p H = .pan x H' := by
  refine loopΩ_of (n := 1) ?_ (by simp)
  simp [loopN, M.bind, h1]
end

section
variable {E : Env} {Cs : Nat → Calls'} {C : Calls'} {Ls : Nat → (List Value → M R) → List Value → M R} {L : (List Value → M R) → List Value → M R}

theorem invoke_ap (hC : ∀ q, Ap (fun n => Cs n q) (C q)) (fv : Value) (args : List Value) : Ap (fun n => aInvoke E (Cs n) fv args) (aInvoke E C fv args) := by
  unfold aInvoke
  refine Ap.fn fun H => ?_
  cases fv with
  | func g first capt =>
    cases g with
    | func f =>
      simp only
      cases E.P.funcs[f]? with
      | none => exact Ap.const (fun _ => Out.bad)
      | some fn =>
        simp only
        split
        · exact (hC _).at H
        · exact Ap.const (fun _ => Out.bad)
    | yield i =>
      simp only
      split
      · split
        · split
          · exact (hC _).at H
          · exact Ap.const (fun _ => Out.bad)
        · exact Ap.const (fun _ => Out.bad)
      · exact Ap.const (fun _ => Out.bad)
    | _ => exact Ap.const (fun _ => Out.bad)
  | _ => exact Ap.const (fun _ => Out.bad)

theorem callF_ap (hC : ∀ q, Ap (fun n => Cs n q) (C q)) (fv : Value) (args : List Value) : Ap (fun n => aCallF E (Cs n) fv args) (aCallF E C fv args) := by
  unfold aCallF
  refine Ap.fn fun H => ?_
  cases fv with
  | func g first capt =>
    cases g with
    | func f =>
      simp only
      cases E.P.funcs[f]? with
      | none => exact Ap.const (fun _ => Out.bad)
      | some fn =>
        simp only
        split
        · exact (hC _).at H
        · exact Ap.const (fun _ => Out.bad)
    | _ => exact Ap.const (fun _ => Out.bad)
  | _ => exact Ap.const (fun _ => Out.bad)

theorem after_ap {i : Nat} {qs : Ex → List Value} {k : Nat → M R} {K : M R} (hk : Ap k K) : Ap (fun n => afterM i qs (k n)) (afterM i qs K) := by
  unfold afterM
  refine Ap.fn fun H => ?_
  split
  · split
    · exact Ap.const (fun _ => Out.bad)
    · split
      · exact hk.at _
      · exact Ap.const (fun _ => _)
      · exact Ap.const (fun _ => _)
      · exact Ap.const (fun _ => _)
      · exact Ap.const (fun _ => Out.bad)
  · exact Ap.const (fun _ => Out.bad)

theorem range_ap (hC : ∀ q, Ap (fun n => Cs n q) (C q)) {rd : Option Nat} {m : Nat} {rf : RF} {fv : Value} {q : List Value} {qs : Ex → List Value} {k : Nat → M R} {K : M R} (hk : Ap k K) :
    Ap (fun n => rangeM E (Cs n) rd m rf fv q qs (k n)) (rangeM E C rd m rf fv q qs K) := by
  unfold rangeM
  refine Ap.fn fun H => ?_
  split
  · exact (Ap.bind (callF_ap hC fv _) fun _ => after_ap hk).at _
  · exact Ap.const (fun _ => Out.bad)

theorem op_ap {β : Type} (hC : ∀ q, Ap (fun n => Cs n q) (C q)) (o : Oper) (τ : List Value) {k : Nat → Value → M β} {K : Value → M β} (hk : ∀ v, Ap (fun n => k n v) (K v)) :
    Ap (fun n => opM E (Cs n) o τ (k n)) (opM E C o τ K) := by
  cases hop : o.op <;> simp only [opM, hop] <;> first | exact hk _ | exact Ap.bad | exact (Ap.const _).bind hk | exact (Ap.const _).bind fun _ => hk _ | skip
  case call c =>
    cases hc : c.callee with
    | value f => exact (invoke_ap hC _ _).bind hk
    | builtin b => exact (Ap.const _).bind hk
    | invoke _ _ => exact .bad

theorem opG_ap (hC : ∀ q, Ap (fun n => Cs n q) (C q)) (ops : Array Oper) (o : Oper) (τ : List Value) : Ap (fun n => opG E (Cs n) ops o τ) (opG E C ops o τ) := by
  unfold opG
  cases o.guard with
  | none => exact op_ap hC o τ (k := fun _ => M.pure) fun v => .const _
  | some jw =>
    obtain ⟨j, want⟩ := jw
    simp only
    unfold gM
    refine Ap.fn fun H => ?_
    cases guardV ops j τ with
    | bool b =>
      simp only
      split
      · exact (op_ap hC o τ (k := fun _ => M.pure) fun v => .const _).at H
      · exact Ap.const (fun _ => Out.ret undef H)
    | _ => exact Ap.const (fun _ => Out.bad)

theorem ops_ap (hC : ∀ q, Ap (fun n => Cs n q) (C q)) (ops : Array Oper) {k : Nat → List Value → M R} {K : List Value → M R} (hk : ∀ τ, Ap (fun n => k n τ) (K τ)) :
    ∀ (l : List Oper) (τ : List Value), Ap (fun n => opsM E (Cs n) ops l τ (k n)) (opsM E C ops l τ K)
  | [], τ => hk τ
  | o :: l, τ => by
    have hG := opG_ap (E := E) hC ops o τ
    unfold opG at hG
    simp only [opsM, forceL_eq]
    cases hgd : o.guard with
    | none => exact op_ap hC o τ fun v => ops_ap hC ops hk l _
    | some jw =>
      obtain ⟨j, want⟩ := jw
      rw [hgd] at hG
      exact Ap.bind hG fun v => ops_ap hC ops hk l _

theorem again_ap (hC : ∀ q, Ap (fun n => Cs n q) (C q)) (ops : Array Oper) {k : Nat → M R} {K : M R} (hk : Ap k K) : ∀ rs, Ap (fun n => again E (Cs n) ops rs (k n)) (again E C ops rs K)
  | [] => hk
  | (p, τ, v) :: rs => by
    simp only [again]
    cases ops[p]? with
    | none => exact Ap.const M.bad
    | some o =>
      refine Ap.only (opG_ap hC ops o τ) fun v' => ?_
      split
      · exact again_ap hC ops hk rs
      · exact Ap.const M.bad

theorem run_ap (hC : ∀ q, Ap (fun n => Cs n q) (C q)) (ops : Array Oper) (b : List Nat) {k : Nat → List Value → M R} {K : List Value → M R} (hk : ∀ τ, Ap (fun n => k n τ) (K τ)) :
    ∀ (l : List Nat) rs τ, Ap (fun n => runD E (Cs n) ops b l rs τ (k n)) (runD E C ops b l rs τ K)
  | [], rs, τ => hk τ
  | i :: l, rs, τ => by
    simp only [runD, forceL_eq]
    cases ops[i]? with
    | none => exact Ap.const M.bad
    | some o =>
      simp only
      split
      · exact Ap.only (opG_ap hC ops o _) fun v => again_ap hC ops (run_ap hC ops b hk l rs _) _
      · exact Ap.only (opG_ap hC ops o _) fun v => run_ap hC ops b hk l _ _

theorem cond_ap {v : Value} {x y : Nat → M R} {X Y : M R} (hx : Ap x X) (hy : Ap y Y) : Ap (fun n => condM v (x n) (y n)) (condM v X Y) := by
  unfold condM
  refine Ap.fn fun H => ?_
  cases v with
  | bool b => cases b with
    | true => exact hx.at H
    | false => exact hy.at H
  | _ => exact Ap.const (fun _ => Out.bad)

theorem pick_ap {l : Int} {f : Nat → Nat → M R} {F : Nat → M R} (h : ∀ l, Ap (fun n => f n l) (F l)) : ∀ ls : List Nat, Ap (fun n => pickE l (ls.map fun l => (l, f n l))) (pickE l (ls.map fun l => (l, F l)))
  | [] => .bad
  | m :: ls => by
    simp only [List.map_cons, pickE]
    split
    · exact h m
    · exact pick_ap h ls

theorem entry_ap {v : Value} {x : Nat → M R} {X : M R} {f : Nat → Nat → M R} {F : Nat → M R} {ls : List Nat} (hx : Ap x X) (h : ∀ l, Ap (fun n => f n l) (F l)) :
    Ap (fun n => entryM v (x n) (ls.map fun l => (l, f n l))) (entryM v X (ls.map fun l => (l, F l))) := by
  cases v with
  | int k l => exact pick_ap h ls
  | _ => exact hx

theorem den_ap (hC : ∀ q, Ap (fun n => Cs n q) (C q)) (hL : ∀ (b : Nat → List Value → M R) B, (∀ p, Ap (fun n => b n p) (B p)) → ∀ p, Ap (fun n => Ls n (b n) p) (L B p)) (rd : Option Nat) (m : Nat) (keep : Ex → List Nat) :
    ∀ (c : Code) (an : An) (e : Option Nat) (τ : List Value) (k : Nat → List Value → M R) (K : List Value → M R), (∀ τ, Ap (fun n => k n τ) (K τ)) → Ap (fun n => den E (Cs n) (Ls n) rd m keep c an e τ (k n)) (den E C L rd m keep c an e τ K) := by
  intro c
  induction c with
  | seq a b iha ihb =>
    intro an e τ k K hk
    cases e with
    | none => simp only [den]; exact iha _ _ _ _ _ fun τ => ihb _ _ _ _ _ hk
    | some l =>
      simp only [den]
      split
      · exact iha _ _ _ _ _ fun τ => ihb _ _ _ _ _ hk
      · exact ihb _ _ _ _ _ hk
  | label l =>
    intro an e τ k K hk
    cases e with
    | none => simp only [den]; exact hk _
    | some l' =>
      simp only [den]
      split
      · exact hk _
      · exact .bad
  | rangeFunc f ps a b _ _ =>
    intro an e τ k K hk
    cases e with
    | none => simp only [den]; exact range_ap hC (hk _)
    | some _ => simp only [den]; exact .bad
  | scope b ih =>
    intro an e τ k K hk
    cases e with
    | some _ => simp only [den]; exact .bad
    | none =>
      simp only [den]
      split
      · refine Ap.bind (hL (fun n p => (entryM (p.headD undef) (den E (Cs n) (Ls n) rd m keep b an.l none (spread m an.K p.tail) fun τ' => M.pure ⟨.done, squeeze an.K τ'⟩)
          ((labels b).map fun l => (l, den E (Cs n) (Ls n) rd m keep b an.l (some l) (spread m an.K p.tail) fun τ' => M.pure ⟨.done, squeeze an.K τ'⟩))).bind (scopeR (labels b)))
          (fun p => (entryM (p.headD undef) (den E C L rd m keep b an.l none (spread m an.K p.tail) fun τ' => M.pure ⟨.done, squeeze an.K τ'⟩)
          ((labels b).map fun l => (l, den E C L rd m keep b an.l (some l) (spread m an.K p.tail) fun τ' => M.pure ⟨.done, squeeze an.K τ'⟩))).bind (scopeR (labels b)))
          (fun p => Ap.bind (entry_ap (ih _ _ _ (fun _ τ' => M.pure ⟨.done, squeeze an.K τ'⟩) (fun τ' => M.pure ⟨.done, squeeze an.K τ'⟩) fun _ => .const _) fun l => ih _ _ _ (fun _ τ' => M.pure ⟨.done, squeeze an.K τ'⟩) (fun τ' => M.pure ⟨.done, squeeze an.K τ'⟩) fun _ => .const _) fun _ => .const _) _) fun r => ?_
        by_cases hr : r.e = .done
        · simp only [hr, if_true]; exact hk _
        · simp only [hr, if_false]; exact .const _
      · exact .bad
  | skip => intro an e τ k K hk; cases e <;> simp only [den] <;> first | exact hk _ | exact .bad
  | region id ops draw =>
    intro an e τ k K hk
    cases e with
    | some _ => simp only [den]; exact .bad
    | none =>
      simp only [den]
      split
      · split
        · unfold drawM
          split
          · exact run_ap hC ops _ hk _ _ _
          · exact .bad
        · exact .bad
      · exact ops_ap hC ops hk _ _
  | cond c a b iha ihb =>
    intro an e τ k K hk
    cases e with
    | some _ => simp only [den]; exact .bad
    | none =>
      simp only [den]
      split
      · refine Ap.bind (cond_ap (iha _ _ _ (fun _ => _) _ fun _ => .const _) (ihb _ _ _ (fun _ => _) _ fun _ => .const _)) fun r => ?_
        by_cases hr : r.e = .normal
        · simp only [hr, if_true]; exact hk _
        · simp only [hr, if_false]; exact .const _
      · exact cond_ap (iha _ _ _ _ _ hk) (ihb _ _ _ _ _ hk)
  | block id b ih =>
    intro an e τ k K hk
    cases e with
    | some _ => simp only [den]; exact .bad
    | none =>
      simp only [den]
      refine Ap.bind (ih _ _ _ (fun _ => _) _ fun _ => .const _) fun r => ?_
      by_cases hr : r.e = .normal ∨ r.e = .exit id
      · simp only [hr, if_true]; exact hk _
      · simp only [hr, if_false]; exact .const _
  | loop b ih =>
    intro an e τ k K hk
    cases e with
    | some _ => simp only [den]; exact .bad
    | none =>
      simp only [den]
      exact hL (fun n p => den E (Cs n) (Ls n) rd m keep b an.l none (spread m an.K p) fun τ' => M.pure ⟨.normal, squeeze an.K τ'⟩) (fun p => den E C L rd m keep b an.l none (spread m an.K p) fun τ' => M.pure ⟨.normal, squeeze an.K τ'⟩) (fun p => ih _ _ _ (fun _ τ' => M.pure ⟨.normal, squeeze an.K τ'⟩) (fun τ' => M.pure ⟨.normal, squeeze an.K τ'⟩) fun _ => .const _) _
  | _ => intro an e τ k K hk; cases e <;> (simp only [den]; exact .const _)

theorem res_ap (f : FuncId) (args : List Value) (hC : ∀ q, Ap (fun n => Cs n q) (C q)) (hL : ∀ (b : Nat → List Value → M R) B, (∀ p, Ap (fun n => b n p) (B p)) → ∀ p, Ap (fun n => Ls n (b n) p) (L B p)) (keep : FuncId → Ex → List Nat) (ann : FuncId → An) :
    Ap (fun n => callStep E (Cs n) (Ls n) keep ann f args) (callStep E C L keep ann f args) := by
  unfold callStep
  refine Ap.fn fun H => ?_
  cases E.P.funcs[f]? with
  | none => exact Ap.const (fun _ => Out.bad)
  | some fn =>
    simp only
    cases fn.body with
    | none => exact Ap.const (fun _ => Out.bad)
    | some c =>
      simp only
      split
      · refine Ap.at (Ap.bind (den_ap hC hL _ _ _ c _ _ _ (fun _ τ => M.pure ⟨.ret, squeeze (fn.results.toList.map resSlot) τ⟩) (fun τ => M.pure ⟨.ret, squeeze (fn.results.toList.map resSlot) τ⟩) fun _ => .const _) fun r => ?_) H
        exact .const _
      · exact Ap.const (fun _ => Out.bad)

theorem calm_ap {α : Type} {f : Nat → M α} {F : M α} (h : Ap f F) : Ap (fun n => calm (f n)) (calm F) := by
  refine ⟨fun n H hb => ?_, fun H hb => ?_⟩
  · unfold calm at hb ⊢
    cases hf : f n H with
    | bad => rw [hf] at hb; exact absurd rfl hb
    | pan v H' => rw [hf] at hb; exact absurd rfl hb
    | ret v H' => rw [h.mono n H (by rw [hf]; simp), hf]
  · unfold calm at hb ⊢
    cases hF : F H with
    | bad => rw [hF] at hb; exact absurd rfl hb
    | pan v H' => rw [hF] at hb; exact absurd rfl hb
    | ret v H' =>
      obtain ⟨n, hn⟩ := h.lim H (by rw [hF]; simp)
      exact ⟨n, by rw [hn, hF]⟩

theorem round_ap (i : Nat) (args : List Value) (hC : ∀ q, Ap (fun n => Cs n q) (C q)) (hL : ∀ (b : Nat → List Value → M R) B, (∀ p, Ap (fun n => b n p) (B p)) → ∀ p, Ap (fun n => Ls n (b n) p) (L B p)) :
    Ap (fun n => roundStep E (Cs n) (Ls n) i args) (roundStep E C L i args) := by
  unfold roundStep
  refine Ap.fn fun H => ?_
  split
  · split
    · refine Ap.at (calm_ap ?_) H
      unfold roundM
      refine Ap.bind (den_ap hC hL _ _ _ _ _ _ _ _ _ fun τ' => Ap.bind (.const _) fun _ => Ap.bind (den_ap hC hL _ _ _ _ _ _ _ (fun _ _ => M.pure ⟨.normal, []⟩) (fun _ => M.pure ⟨.normal, []⟩) fun _ => .const _) fun _ => .const _) fun _ => .const _
    · exact Ap.const (fun _ => Out.bad)
  · exact Ap.const (fun _ => Out.bad)
end

section
variable (E : Env) (keep : FuncId → Ex → List Nat) (ann : FuncId → An)

theorem two_loops (n : Nat) (b : Nat → List Value → M R) (B : List Value → M R) (hb : ∀ p, Ap (fun n => b n p) (B p)) (p : List Value) : Ap (fun m => loopN (b m) (if m = 0 then n else n + 1) p) (loopN B (n + 1) p) := by
  refine ⟨fun m H h => ?_, fun H h => ?_⟩
  · cases m with
    | zero =>
      simp only [if_true] at h ⊢
      have h1 : loopN (b 1) n p H = loopN (b 0) n p H := (loop_ap hb n p).mono 0 H h
      have := loop_fuel (b 1) n p H (by rw [h1]; exact h)
      simp only [Nat.zero_add, if_neg (Nat.one_ne_zero)]
      rw [this]; exact h1
    | succ m => simp only [Nat.succ_ne_zero, if_false] at h ⊢; exact (loop_ap hb (n + 1) p).mono (m + 1) H h
  · obtain ⟨m, hm⟩ := (loop_ap hb (n + 1) p).lim H h
    refine ⟨m + 1, ?_⟩
    simp only [Nat.succ_ne_zero, if_false]
    rw [(loop_ap hb (n + 1) p).mono m H (by rw [hm]; exact h), hm]

theorem callN_up : ∀ n q H, callN E keep ann n q H ≠ .bad → callN E keep ann (n + 1) q H = callN E keep ann n q H
  | 0, q, H, h => absurd (by simp [callN, M.bad]) h
  | n + 1, q, H, h => by
    -- a chain of two
    have hC : ∀ q, Ap (fun m => (if m = 0 then callN E keep ann n else callN E keep ann (n + 1)) q) (callN E keep ann (n + 1) q) := fun q =>
      ⟨fun m H hb => by cases m with
        | zero => simp only [if_true] at hb ⊢; exact callN_up n q H hb
        | succ m => simp, fun H _ => ⟨1, by simp⟩⟩
    cases q with
    | call f args =>
      cases ho : E.ov f with
      | some g => simp only [callN, ho]
      | none =>
        have := (res_ap (E := E) f args hC (Ls := fun m b => loopN b (if m = 0 then n else n + 1)) (L := fun b => loopN b (n + 1)) (two_loops n) keep ann).mono 0 H
        simp only [if_true, Nat.zero_add, if_neg (Nat.one_ne_zero)] at this
        simp only [callN, ho] at h ⊢
        exact this h
    | round i args =>
      have := (round_ap (E := E) i args hC (Ls := fun m b => loopN b (if m = 0 then n else n + 1)) (L := fun b => loopN b (n + 1)) (two_loops n)).mono 0 H
      simp only [if_true, Nat.zero_add, if_neg (Nat.one_ne_zero)] at this
      exact this h

/-- Calls, however deep. -/
noncomputable def callΩ : Calls' := fun q H => open Classical in if h : ∃ n, callN E keep ann n q H ≠ .bad then callN E keep ann (Classical.choose h) q H else .bad

theorem callΩ_ap (q : Req) : Ap (fun n => callN E keep ann n q) (callΩ E keep ann q) :=
  ⟨fun n H h => callN_up E keep ann n q H h, fun H h => by
    unfold callΩ at h ⊢
    split
    · exact ⟨_, rfl⟩
    · rename_i hx; rw [dif_neg hx] at h; exact absurd rfl h⟩

theorem callΩ_of {n : Nat} {q : Req} {H : Heap} {r : Out Value} (h : callN E keep ann n q H = r) (hb : r ≠ .bad) : callΩ E keep ann q H = r := by
  have hx : ∃ n, callN E keep ann n q H ≠ .bad := ⟨n, by rw [h]; exact hb⟩
  unfold callΩ
  rw [dif_pos hx]
  have hc := Classical.choose_spec hx
  have hA := callΩ_ap E keep ann q
  rcases Nat.le_total n (Classical.choose hx) with hle | hle
  · rw [hA.up hle (by rw [h]; exact hb), h]
  · rw [← hA.up hle hc, h]

theorem loops_lim (b : Nat → List Value → M R) (B : List Value → M R) (hb : ∀ p, Ap (fun n => b n p) (B p)) (p : List Value) : Ap (fun m => loopN (b m) m p) (loopΩ B p) := by
  refine ⟨fun m H h => ?_, fun H h => ?_⟩
  · have h1 : loopN (b (m + 1)) m p H = loopN (b m) m p H := (loop_ap hb m p).mono m H h
    rw [loop_fuel (b (m + 1)) m p H (by rw [h1]; exact h), h1]
  · obtain ⟨j, hj⟩ := loopΩ_ok B p H h
    rw [← hj] at h
    obtain ⟨m, hm⟩ := (loop_ap hb j p).lim H h
    refine ⟨max m j, ?_⟩
    have h1 : loopN (b (max m j)) j p H = loopN B j p H := by
      have := (loop_ap hb j p).up (Nat.le_max_left m j) (H := H) (by rw [hm]; exact h)
      rw [← hm]; exact this
    rw [loop_le _ (Nat.le_max_right m j) p H (by rw [h1]; exact h), h1, hj]

/-- A call is what its code comes to. -/
theorem callΩ_step {f : FuncId} {args : List Value} {H : Heap} {r : Out Value} (ho : E.ov f = none) (h : callStep E (callΩ E keep ann) loopΩ keep ann f args H = r) (hb : r ≠ .bad) : callΩ E keep ann (.call f args) H = r := by
  obtain ⟨n, hn⟩ := (res_ap (E := E) f args (callΩ_ap E keep ann) (Ls := fun m b => loopN b m) (L := loopΩ) loops_lim keep ann).lim H (by rw [h]; exact hb)
  exact callΩ_of E keep ann (n := n + 1) (by simp only [callN, ho]; rw [hn]; exact h) hb

/-- Or what is given for it. -/
theorem callΩ_ov {f : FuncId} {g : List Value → M Value} {args : List Value} {H : Heap} {r : Out Value} (ho : E.ov f = some g) (h : g args H = r) (hb : r ≠ .bad) : callΩ E keep ann (.call f args) H = r :=
  callΩ_of E keep ann (n := 1) (by simp only [callN, ho]; exact h) hb

/-- A round is what its code comes to. -/
theorem callΩ_round {i : Nat} {args : List Value} {H : Heap} {r : Out Value} (h : roundStep E (callΩ E keep ann) loopΩ i args H = r) (hb : r ≠ .bad) : callΩ E keep ann (.round i args) H = r := by
  obtain ⟨n, hn⟩ := (round_ap (E := E) i args (callΩ_ap E keep ann) (Ls := fun m b => loopN b m) (L := loopΩ) loops_lim).lim H (by rw [h]; exact hb)
  exact callΩ_of E keep ann (n := n + 1) (by simp only [callN]; rw [hn]; exact h) hb

/-- And the model's. -/
theorem sound_callΩ (hov : OvOK E) : OK E (callΩ E keep ann) := ⟨fun f args H hb L w args' hs ha hg => by
  obtain ⟨n, hn⟩ := (callΩ_ap E keep ann (.call f args)).lim H hb
  rw [← hn] at hb ⊢
  exact (sound_callN hov keep ann n).call f args H hb L w args' hs ha hg,
  fun i args H hb L w args' l c hs ha hg hl hc => by
  obtain ⟨n, hn⟩ := (callΩ_ap E keep ann (.round i args)).lim H hb
  rw [← hn] at hb ⊢
  exact (sound_callN hov keep ann n).round i args H hb L w args' l c hs ha hg hl hc⟩
end
end Go.Wel
