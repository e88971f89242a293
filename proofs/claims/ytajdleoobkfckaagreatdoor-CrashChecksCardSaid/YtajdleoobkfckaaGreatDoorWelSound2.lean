/- What is reckoned is what the model does: code, functions, calls. -/
import Derived.Test.YtajdleoobkfckaaGreatDoorWelSound
set_option linter.unusedSimpArgs false
set_option linter.unusedVariables false
namespace Go.Wel
open Go

/-- A mark among what is deferred. -/
def markD (r : Nat) : Deferred := { target := .collected r, args := #[] }

/-- What is held of an activation beside its slots: what is deferred beneath its marks; slots that are not written. -/
structure Hd where
  ds : List Deferred
  pins : List (Tmp × Value)
  rd : Option Nat
  ro : Option Nat

/-- The loop about it. -/
def RdOk (L : Lays) : Option Nat → Option Nat → Prop
  | none, none => True
  | some i, some l => ∃ lay, L[i]? = some lay ∧ lay.b = l
  | _, _ => False

def NoPin (x : Hd) (o : Oper) : Prop := ∀ p ∈ x.pins, o.dst ≠ some p.1

/-- The marks: blocks that are shut when the activation leaves. -/
structure Marks (L₀ L : Lays) (ms : List Nat) : Prop where
  nodup : ms.Nodup
  ok : ∀ r ∈ ms, ∃ i l s, L₀.length ≤ i ∧ L[i]? = some l ∧ l.o = some s ∧ r ∈ s.ks ∧ s.w.heap[r]? = some (.deferred (some []))
  apart : ∀ r ∈ ms, ∀ (i : Nat) (l : Lay) (s : Stays), L₀[i]? = some l → l.o = some s → r ∉ s.ks

def Held (L₀ : Lays) (x : Hd) (L : Lays) (a : Act) : Prop := (∃ ms : List Nat, a.defers = ms.map markD ++ x.ds ∧ Marks L₀ L ms) ∧ (∀ p ∈ x.pins, a.tmps.getD p.1 undef = p.2) ∧ RdOk L x.rd x.ro

theorem Held.mono {L₀ L L' : Lays} {x : Hd} {a : Act} (h : Held L₀ x L a) (hl : L.le L') : Held L₀ x L' a := by
  obtain ⟨⟨ms, h1, h2⟩, h3, h4⟩ := h
  refine ⟨⟨ms, h1, h2.nodup, fun r hr => let ⟨i, l, s, a, b, c⟩ := h2.ok r hr; ⟨i, l, s, a, hl i l b, c⟩, h2.apart⟩, h3, ?_⟩
  revert h4
  cases x.rd <;> cases x.ro <;> simp only [RdOk, imp_self]
  rintro ⟨lay, h5, h6⟩
  exact ⟨lay, hl _ _ h5, h6⟩

theorem Held.put {L₀ L : Lays} {x : Hd} {a : Act} (h : Held L₀ x L a) {o : Oper} (ho : NoPin x o) (v : Value) : Held L₀ x L (a.put o.dst v) := by
  obtain ⟨⟨ms, h1, h2⟩, h3, h4⟩ := h
  cases hd : o.dst with
  | none => exact ⟨⟨ms, h1, h2⟩, h3, h4⟩
  | some d =>
    refine ⟨⟨ms, h1, h2⟩, fun p hp => ?_, h4⟩
    have hne : d ≠ p.1 := fun e => ho p hp (by rw [hd, e])
    have := h3 p hp
    simp only [Act.put, Array.getD_eq_getD_getElem?] at this ⊢
    rw [Array.getElem?_setIfInBounds_ne hne]
    exact this

/-- The state of a function that runs. -/
structure St (E : Env) (n : Nat) (L₀ : Lays) (x : Hd) (L : Lays) (τ : List Value) (H : Heap) (a : Act) (w : World) : Prop where
  le : L₀.le L
  glob : Glob E.gn L
  sim : Sim E.P L H w
  tm : Tm n L τ a
  dfr : Held L₀ x L a

/-- What is shown of code: it's left as is reckoned. -/
structure Post (E : Env) (n : Nat) (L₀ : Lays) (x : Hd) (keep : Ex → List Nat) (k : List Value → M R) (r : Out R) (Q : Exit → Act → World → Prop) : Prop where
  normal : ∀ L τ H a w, St E n L₀ x L τ H a w → k τ H = r → Q .normal a w
  exit : ∀ id L τ H a w, St E n L₀ x L τ H a w → .ret ⟨.exit id, squeeze (keep (.exit id)) τ⟩ H = r → Q (.exit id) a w
  goto : ∀ l L τ H a w, St E n L₀ x L τ H a w → .ret ⟨.goto l, squeeze (keep (.goto l)) τ⟩ H = r → Q (.goto l) a w
  ret : ∀ L τ H a w, St E n L₀ x L τ H a w → .ret ⟨.ret, squeeze (keep .ret) τ⟩ H = r → Q .ret a w
  panic : ∀ L v v' H a w, L₀.le L → Glob E.gn L → Sim E.P L H w → VR L v v' → Held L₀ x L a → .pan v H = r → Q (.panic [{ v := v', recovered := false }]) a w

def step {α β : Type} (o : Out α) (f : α → M β) : Out β := match o with
  | .ret v H' => f v H'
  | .pan v H' => .pan v H'
  | .bad => .bad

/-- A loop comes to what some number of rounds comes to. -/
def LpOK (Lp : (List Value → M R) → List Value → M R) : Prop := ∀ body p H, Lp body p H ≠ .bad → ∃ j, loopN body j p H = Lp body p H

section
variable {E : Env} {C : Calls'} {n : Nat} {L₀ L : Lays} {x : Hd} {H : Heap} {w : World} {τ : List Value} {a : Act} {Q : Exit → Act → World → Prop}

theorem Tm.spread (h : Tm n L τ a) (K : List Nat) : Tm n L (spread n K (squeeze K τ)) a := by
  refine ⟨h.size, by simp [Wel.spread], fun i => ?_⟩
  by_cases hi : i < n
  · have : (Wel.spread n K (squeeze K τ)).getD i undef = match K.idxOf? i with | some j => (squeeze K τ).getD j undef | none => undef := by
      simp [Wel.spread, List.getD_eq_getElem?_getD, hi]; rfl
    rw [this]
    split
    · rename_i j hj
      rw [List.idxOf?_eq_some_iff] at hj
      obtain ⟨hl, hj, _⟩ := hj
      have : (squeeze K τ).getD j undef = τ.getD i undef := by
        simp only [squeeze, List.getD_eq_getElem?_getD, List.getElem?_map, List.getElem?_eq_getElem hl, Option.map_some, Option.getD_some]
        have : K[j] = i := by simpa using hj
        rw [this]
      rw [this]; exact h.rel i
    · exact .inl rfl
  · have : (Wel.spread n K (squeeze K τ)).getD i undef = undef := by
      simp [Wel.spread, List.getD_eq_getElem?_getD, hi]
    rw [this]; exact .inl rfl

theorem St.spread (h : St E n L₀ x L τ H a w) (K : List Nat) : St E n L₀ x L (Wel.spread n K (squeeze K τ)) H a w := ⟨h.le, h.glob, h.sim, h.tm.spread K, h.dfr⟩

theorem guard_rel (h : Tm n L τ a) (ops : Array Oper) (o : Oper) {b : Bool} (hg : guardS ops o τ = some b) : Region.wanted o (yielded ops a.tmps) = b := by
  unfold guardS at hg
  unfold Region.wanted
  split at hg
  · rename_i hn; rw [hn]; simpa using hg
  · rename_i j want hj
    rw [hj]
    simp only
    split at hg
    · rename_i t ht
      split at hg
      · rename_i x hx
        have h1 := h.rel t
        rw [hx] at h1
        have h2 := h1.bool
        have h3 : a.tmps[t]? = some (.bool x) := by
          rw [Array.getD_eq_getD_getElem?] at h2
          cases h4 : a.tmps[t]? with
          | none => rw [h4] at h2; simp [undef] at h2
          | some v => rw [h4] at h2; simpa using h2
        have : yielded ops a.tmps j = some x := by
          unfold yielded
          rw [ht]
          simp only [Option.bind_some, h3]
        rw [this]
        cases x <;> cases want <;> simp_all
      · cases hg
    · cases hg

theorem sound_ops (hC : OK E C) {ops : Array Oper} {keep : Ex → List Nat} {k : List Value → M R} {r : Out R} (hb : r ≠ .bad) (hQ : Post E n L₀ x keep k r Q) :
    ∀ (l : List Oper) (i : Nat) (L : Lays) (τ : List Value) (H : Heap) (a : Act) (w : World), (∀ j, j < l.length → ops[i + j]? = l[j]?) → (∀ o ∈ l, NoPin x o) → St E n L₀ x L τ H a w → opsM E C ops l τ k H = r →
      wpOpsIn (FW x.ro) 0 E.P ops Q (List.range' i l.length) a w
  | [], i, L, τ, H, a, w, _, _, hst, hk => hQ.normal L τ H a w hst hk
  | o :: l, i, L, τ, H, a, w, hl, hp, hst, hk => by
    have hp0 : NoPin x o := hp o (by simp)
    have hp1 : ∀ o ∈ l, NoPin x o := fun o' ho' => hp o' (by simp [ho'])
    have hrest : ∀ j, j < l.length → ops[i + 1 + j]? = l[j]? := fun j hj => by
      have := hl (j + 1) (by simpa using hj)
      rw [List.getElem?_cons_succ] at this
      rw [← this]; congr 1; omega
    have h0 : ops[i]? = some o := by have := hl 0 (by simp); simpa using this
    rw [List.length_cons, List.range'_succ]
    simp only [wpOpsIn, h0]
    unfold opsM at hk
    cases hgd : o.guard with
    | none =>
      simp only [hgd, forceL_eq] at hk
      have hw : Region.wanted o (yielded ops a.tmps) = true := by simp [Region.wanted, hgd]
      rw [hw, if_pos rfl]
      have key := sound_op (ro := x.ro) (Q := Q) (next := wpOpsIn (FW x.ro) 0 E.P ops Q (List.range' (i + 1) l.length)) hC hst.tm hst.glob hst.sim o hk hb ⟨?_, ?_⟩
      · refine ⟨fun _ _ => trivial, ?_⟩
        rw [Oper.semAt_eq _ _ _ key.1]
        exact key.2
      · intro L' v v' H' w' hle hs hv hk'
        refine sound_ops hC hb hQ l (i + 1) L' _ H' _ w' hrest hp1 ⟨Lays.le_trans hst.le hle, hst.glob.mono hle, hs, (hst.tm.mono hle).put _ hv, (hst.dfr.mono hle).put hp0 _⟩ hk'
      · intro L' v v' H' w' hle hs hv hk'
        exact hQ.panic L' v v' H' a w' (Lays.le_trans hst.le hle) (hst.glob.mono hle) hs hv (hst.dfr.mono hle) hk'.symm
    | some jw =>
      obtain ⟨j, want⟩ := jw
      simp only [hgd, forceL_eq] at hk
      have hgs : guardS ops o τ = match guardV ops j τ with | .bool b => some (b == want) | _ => none := by
        unfold guardS guardV
        rw [hgd]
        simp only
        cases (ops[j]?).bind (·.dst) <;> rfl
      generalize hgv : guardV ops j τ = gv at hk hgs
      cases gv with
      | bool b =>
        simp only at hgs
        have hw := guard_rel hst.tm ops o hgs
        rw [hw]
        by_cases hbw : b = want
        · subst hbw
          rw [beq_self_eq_true, if_pos rfl]
          generalize hm : opM E C o τ M.pure H = m1
          have hk' : step m1 (fun v => opsM E C ops l (putS o.dst v τ) k) = r := by
            have : gM (.bool b) b (opM E C o τ M.pure) H = m1 := by simp only [gM, if_true]; exact hm
            rw [← this]; exact hk
          have hb1 : m1 ≠ .bad := by rintro rfl; exact hb hk'.symm
          have key := sound_op (ro := x.ro) (Q := Q) (next := wpOpsIn (FW x.ro) 0 E.P ops Q (List.range' (i + 1) l.length)) hC hst.tm hst.glob hst.sim o hm hb1 ⟨?_, ?_⟩
          · refine ⟨fun _ _ => trivial, ?_⟩
            rw [Oper.semAt_eq _ _ _ key.1]
            exact key.2
          · rintro L' v v' H' w' hle hs hv rfl
            refine sound_ops hC hb hQ l (i + 1) L' _ H' _ w' hrest hp1 ⟨Lays.le_trans hst.le hle, hst.glob.mono hle, hs, (hst.tm.mono hle).put _ hv, (hst.dfr.mono hle).put hp0 _⟩ hk'
          · rintro L' v v' H' w' hle hs hv rfl
            exact hQ.panic L' v v' H' a w' (Lays.le_trans hst.le hle) (hst.glob.mono hle) hs hv (hst.dfr.mono hle) hk'
        · have : (b == want) = false := by cases b <;> cases want <;> simp_all
          rw [this, if_neg (by simp)]
          refine ⟨fun _ _ => trivial, ?_⟩
          have hk' : opsM E C ops l (putS o.dst undef τ) k H = r := by
            have : gM (.bool b) want (opM E C o τ M.pure) H = .ret undef H := by simp only [gM]; rw [if_neg hbw]
            unfold M.bind at hk; rw [this] at hk; exact hk
          refine sound_ops hC hb hQ l (i + 1) L _ H _ w hrest hp1 ⟨hst.le, hst.glob, hst.sim, hst.tm.put _ (.inl rfl), hst.dfr.put hp0 _⟩ hk'
      | _ => exact absurd hk.symm hb

theorem wpIn_loop_nat {F : Fence} {m : Nat} {P : Program} {c : Code} (I : Nat → Act → World → Prop) {j : Nat} (h₀ : I j a w)
    (round : ∀ j a w, I j a w → c.wpIn F m P (Exit.then (fun a' w' => ∃ j', j' < j ∧ I j' a' w') Q) a w) : (Code.loop c).wpIn F m P Q a w := by
  classical
  have least : ∀ a w, (∃ j, I j a w) → ∃ j, I j a w ∧ ∀ j', I j' a w → j ≤ j' := by
    intro a w ⟨j, hj⟩
    induction j using Nat.strongRecOn with
    | _ j ih =>
      by_cases h : ∃ j', j' < j ∧ I j' a w
      · obtain ⟨j', hlt, hj'⟩ := h; exact ih j' hlt hj'
      · exact ⟨j, hj, fun j' hj' => Nat.le_of_not_lt fun hlt => h ⟨j', hlt, hj'⟩⟩
  let μ : Act → World → Nat := fun a w => if h : ∃ j, I j a w then Classical.choose (least a w h) else 0
  refine wpIn_loop (fun a w => ∃ j, I j a w) μ ⟨j, h₀⟩ fun a w h => ?_
  have hμ : μ a w = Classical.choose (least a w h) := dif_pos h
  have hs := Classical.choose_spec (least a w h)
  refine wpIn_mono (round _ a w hs.1) fun e a' w' hq => ?_
  cases e with
  | normal =>
    obtain ⟨j', hlt, hj'⟩ := hq
    refine ⟨⟨j', hj'⟩, ?_⟩
    have h' : ∃ j, I j a' w' := ⟨j', hj'⟩
    have : μ a' w' = Classical.choose (least a' w' h') := dif_pos h'
    rw [this, hμ]
    exact Nat.lt_of_le_of_lt ((Classical.choose_spec (least a' w' h')).2 j' hj') hlt
  | _ => exact hq

end
end Go.Wel
