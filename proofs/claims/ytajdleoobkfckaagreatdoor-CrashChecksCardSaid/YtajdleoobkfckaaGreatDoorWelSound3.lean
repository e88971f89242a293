/- What is reckoned is what the model does: code, functions, calls. -/
import Derived.Test.YtajdleoobkfckaaGreatDoorWelDraw
set_option linter.unusedSimpArgs false
set_option linter.unusedVariables false
namespace Go.Wel
open Go

section
variable {E : Env} {C : Calls'} {n : Nat} {L₀ L : Lays} {x : Hd} {H : Heap} {w : World} {τ : List Value} {a : Act} {Q : Exit → Act → World → Prop}

/-- Where code is entered. -/
def restOf (c : Code) : Option Nat → Option Code
  | none => some c
  | some l => findLabel c l

theorem restNone {ro : Option Nat} {P : Program} {c : Code} {Q : Exit → Act → World → Prop} {a : Act} {w : World} (h : ∃ rest, restOf c none = some rest ∧ rest.wpIn (FW ro) 0 P Q a w) : c.wpIn (FW ro) 0 P Q a w := by
  obtain ⟨_, h1, h2⟩ := h
  cases h1; exact h2

theorem hasLabel_iff : ∀ (c : Code) (l : Nat), hasLabel c l = (findLabel c l).isSome
  | .seq a b, l => by
    simp only [hasLabel, findLabel, hasLabel_iff a l, hasLabel_iff b l]
    cases findLabel a l <;> simp
  | .label l', l => by
    simp only [hasLabel, findLabel]
    by_cases h : (l' == l) = true
    · simp [h]
    · simp [h]
  | .skip, _ | .region _ _ _, _ | .cond _ _ _, _ | .block _ _, _ | .loop _, _ | .rangeFunc _ _ _ _, _ | .exit _, _ | .scope _, _ | .goto _, _ | .ret, _ | .refuse _, _ => rfl

theorem labels_iff : ∀ (c : Code) (l : Nat), l ∈ labels c ↔ (findLabel c l).isSome = true
  | .seq a b, l => by
    simp only [labels, findLabel, List.mem_append, labels_iff a l, labels_iff b l]
    cases findLabel a l <;> simp
  | .label l', l => by
    simp only [labels, findLabel, List.mem_singleton]
    by_cases h : l' = l
    · simp [h]
    · simp [h, Ne.symm h]
  | .skip, _ | .region _ _ _, _ | .cond _ _ _, _ | .block _ _, _ | .loop _, _ | .rangeFunc _ _ _ _, _ | .exit _, _ | .scope _, _ | .goto _, _ | .ret, _ | .refuse _, _ => by simp [labels, findLabel]

theorem pickE_ok {l : Int} {H : Heap} : ∀ (t : List Nat) (f : Nat → M R), pickE l (t.map fun l => (l, f l)) H ≠ .bad → ∃ m : Nat, l = m ∧ m ∈ t ∧ pickE l (t.map fun l => (l, f l)) H = f m H
  | [], f, h => absurd rfl h
  | m :: t, f, h => by
    simp only [List.map_cons, pickE] at h ⊢
    by_cases hm : l = m
    · rw [if_pos hm]; exact ⟨m, hm, by simp, rfl⟩
    · rw [if_neg hm] at h ⊢
      obtain ⟨m', h1, h2, h3⟩ := pickE_ok t f h
      exact ⟨m', h1, by simp [h2], h3⟩

theorem stepR_scope {P : Program} {b : Frame} {a : Act} {k : List Item} {cs : List Frame} {w : World} {c : Code} : Go.step P (lone (b.atR a (.code (.scope c) :: k)) cs w) = .next (lone (b.atR a (.code c :: .inScope c :: k)) cs w) :=
  step_lone_go (by simp [stepG, stepG.exec, Frame.atR])
theorem stepR_inScope {P : Program} {b : Frame} {a : Act} {k : List Item} {cs : List Frame} {w : World} {c : Code} : Go.step P (lone (b.atR a (.inScope c :: k)) cs w) = .next (lone (b.atR a k) cs w) :=
  step_lone_go (by simp [stepG, stepG.exec, Frame.atR])

/-- What is asked where a scope's code is left. -/
def scopePost (c : Code) (J : Nat → Act → World → Prop) (Q : Exit → Act → World → Prop) : Exit → Act → World → Prop
  | .goto l, a, w => ((findLabel c l).isSome = true ∧ J l a w) ∨ (findLabel c l = none ∧ Q (.goto l) a w)
  | e, a, w => Q e a w

theorem wpIn_scope_nat {F : Fence} {m : Nat} {P : Program} {c : Code} (I : Nat → Option Nat → Act → World → Prop) {j : Nat} (h₀ : I j none a w)
    (round : ∀ j e a w, I j e a w → ∃ rest, restOf c e = some rest ∧ rest.wpIn F m P (scopePost c (fun l a' w' => ∃ j', j' < j ∧ I j' (some l) a' w') Q) a w) : (Code.scope c).wpIn F m P Q a w := by
  intro b k cs hro hb hr
  have key : ∀ j e a w, I j e a w → ∃ rest, restOf c e = some rest ∧
      ∃ e' a' w', Q e' a' w' ∧ ArrivesIn (Machine.fenced P F) P (lone (b.atR a (.code rest :: .inScope c :: k)) cs w) b k cs e' a' w' := by
    intro j
    induction j using Nat.strongRecOn with
    | _ j ih =>
      intro e a w hI
      obtain ⟨rest, hrest, hw⟩ := round j e a w hI
      refine ⟨rest, hrest, ?_⟩
      obtain ⟨e₁, a₁, w₁, hq, harr⟩ := hw b (.inScope c :: k) cs hro hb hr
      cases e₁ with
      | normal => exact ⟨.normal, a₁, w₁, hq, StepsIn.trans harr (.one (fenced_calm hb hr rfl) stepR_inScope)⟩
      | exit id =>
        have hx : exitTo id (.inScope c :: k) = exitTo id k := by simp [exitTo]
        exact ⟨.exit id, a₁, w₁, hq, fun k' hk => harr.1 k' (by rw [hx]; exact hk), fun hr' hk => harr.2 hr' (by rw [hx]; exact hk)⟩
      | goto l =>
        rcases hq with ⟨hs, j', hlt, hI'⟩ | ⟨hn, hq⟩
        · obtain ⟨rest', hrest', e₂, a₂, w₂, hq₂, harr₂⟩ := ih j' hlt (some l) a₁ w₁ hI'
          have hg : gotoIn l (.inScope c :: k) = some (.code rest' :: .inScope c :: k) := by
            simp only [restOf] at hrest'
            simp [gotoIn, hrest']
          exact ⟨e₂, a₂, w₂, hq₂, .of_steps (harr.1 _ hg) harr₂⟩
        · have hx : gotoIn l (.inScope c :: k) = gotoIn l k := by simp [gotoIn, hn]
          exact ⟨.goto l, a₁, w₁, hq, fun k' hk => harr.1 k' (by rw [hx]; exact hk), fun hr' hk => harr.2 hr' (by rw [hx]; exact hk)⟩
      | ret => exact ⟨_, a₁, w₁, hq, harr⟩
      | panic ch => exact ⟨_, a₁, w₁, hq, harr⟩
      | outgrown => exact ⟨_, a₁, w₁, hq, harr⟩
  obtain ⟨rest, hrest, e', a', w', hq, harr⟩ := key j none a w h₀
  cases hrest
  exact ⟨e', a', w', hq, .of_steps (.one (fenced_calm hb hr rfl) stepR_scope) harr⟩

/-- A range over a function is entered. -/
theorem enter_range (hst : St E n L₀ x L τ H a w) (hrd : aboutOk x.rd H = true) (rf : RF) (fn : FuncId) :
    ∃ l mark w₁ lay c, (Instr.enterLoop fn a.tmps rf.ps rf.assign rf.body (FW x.ro).round).run E.P w = .ok (l, mark) w₁ ∧ lay.b = l ∧ L.le (L ++ [lay]) ∧
      St E n L₀ x (L ++ [lay]) τ (H ++ [.loop .ready none n (squeeze rf.K τ) rf]) { a with defers := mark ++ a.defers } w₁ ∧ w₁.heap[l]? = some (.loop c) := by
  obtain ⟨⟨ms, hd1, hd2⟩, hpin, hro⟩ := hst.dfr
  cases hr : x.ro with
  | none =>
    let wd : World := { w with heap := w.heap.push (.deferred (some [])) }
    let c : Loop := { state := .ready, pending := none, fn, tmps := a.tmps, params := rf.ps, assign := rf.assign, body := rf.body, defers := w.heap.size }
    let lay : Lay := ⟨wd.heap.size, 0, 0, 0, some ⟨wd, [w.heap.size]⟩⟩
    have hlt : ∀ (i : Nat) (l : Lay), L[i]? = some l → l.b < w.heap.size := hst.sim.lt
    have hsim : Sim E.P (L ++ [lay]) (H ++ [.loop .ready none n (squeeze rf.K τ) rf]) { wd with heap := wd.heap.push (.loop c) } := by
      refine (hst.sim.extra (.deferred (some []))).allocG (.loop c) _ 0 0 0 (some ⟨wd, [w.heap.size]⟩) ?_ ⟨c, rfl, rfl, rfl, hst.tm.size, fun i => ((hst.tm.spread rf.K).rel i).mono (Lays.le_append _ _), rfl, rfl, rfl⟩
      rintro s hs
      cases hs
      refine ⟨⟨rfl, rfl⟩, fun b hb => ?_⟩
      rw [List.mem_singleton] at hb
      subst hb
      exact ⟨by simp, rfl, fun j l' hj => by have := hlt j l' hj; omega⟩
    refine ⟨w.heap.size + 1, [markD w.heap.size], { wd with heap := wd.heap.push (.loop c) }, lay, c, ?_, by simp [lay, wd], Lays.le_append _ _, ?_, ?_⟩
    · have := run_enterLoop_outer (P := E.P) (w := w) fn a.tmps rf.ps rf.assign rf.body
      rw [show (FW none).round = none from rfl, this]
      rfl
    · refine ⟨Lays.le_trans hst.le (Lays.le_append _ _), hst.glob.mono (Lays.le_append _ _), hsim, ⟨hst.tm.size, hst.tm.len, fun i => (hst.tm.rel i).mono (Lays.le_append _ _)⟩, ⟨w.heap.size :: ms, by simp [hd1], ?_⟩, hpin, ?_⟩
      · have hout : ∀ (i : Nat) (l : Lay) (s : Stays), L[i]? = some l → l.o = some s → ∀ r ∈ s.ks, r < w.heap.size := fun i l s hi ho r hr => ((hst.sim.out i l s hi ho).2 r hr).1
        have hms : ∀ r ∈ ms, r < w.heap.size := fun r hr => by
          obtain ⟨i, l, s, h1, h2, h3, h4, h5⟩ := hd2.ok r hr
          exact hout i l s h2 h3 r h4
        refine ⟨List.nodup_cons.2 ⟨fun h => by have := hms _ h; omega, hd2.nodup⟩, fun r hr => ?_, fun r hr i l s hi ho hin => ?_⟩
        · rcases List.mem_cons.1 hr with rfl | hr
          · refine ⟨L.length, lay, ⟨wd, [w.heap.size]⟩, ?_, by simp, rfl, by simp, by simp [wd]⟩
            have := hst.le
            by_cases h0 : L₀.length = 0
            · omega
            · have := this (L₀.length - 1) _ (List.getElem?_eq_getElem (by omega))
              have := (List.getElem?_eq_some_iff.1 this).1
              omega
          · obtain ⟨i, l, s, h1, h2, h3, h4, h5⟩ := hd2.ok r hr
            exact ⟨i, l, s, h1, Lays.le_append _ _ i l h2, h3, h4, h5⟩
        · rcases List.mem_cons.1 hr with rfl | hr
          · have := hout i l s (hst.le i l hi) ho _ hin; omega
          · exact hd2.apart r hr i l s hi ho hin
      · rw [hr] at hro ⊢
        cases hx : x.rd with
        | none => trivial
        | some i => rw [hx] at hro; exact hro
    · show ((w.heap.push (.deferred (some []))).push (.loop c))[w.heap.size + 1]? = some (.loop c)
      rw [Array.getElem?_push]; simp
  | some l₀ =>
    rw [hr] at hro
    cases hx : x.rd with
    | none => rw [hx] at hro; exact hro.elim
    | some i₀ =>
      rw [hx] at hro hrd
      obtain ⟨l₁, hl1, hl2⟩ := hro
      simp only [aboutOk] at hrd
      cases hH : H[i₀]? with
      | none => rw [hH] at hrd; cases hrd
      | some blk =>
        rw [hH] at hrd
        cases blk with
        | loop st pd nn τ₀ rf₀ =>
          obtain ⟨c₀, hc1, hc2⟩ := hst.sim.blk i₀ l₁ _ hl1 hH
          rw [hl2] at hc1
          let c : Loop := { state := .ready, pending := none, fn, tmps := a.tmps, params := rf.ps, assign := rf.assign, body := rf.body, defers := c₀.defers }
          let lay : Lay := ⟨w.heap.size, 0, 0, 0, none⟩
          have hsim : Sim E.P (L ++ [lay]) (H ++ [.loop .ready none n (squeeze rf.K τ) rf]) { w with heap := w.heap.push (.loop c) } :=
            hst.sim.alloc (.loop c) _ 0 0 0 ⟨c, rfl, rfl, rfl, hst.tm.size, fun i => ((hst.tm.spread rf.K).rel i).mono (Lays.le_append _ _), rfl, rfl, rfl⟩
          refine ⟨w.heap.size, [], { w with heap := w.heap.push (.loop c) }, lay, c, ?_, rfl, Lays.le_append _ _, ?_, by simp⟩
          · show (Instr.enterLoop fn a.tmps rf.ps rf.assign rf.body (some l₀)).run E.P w = _
            unfold Instr.enterLoop
            simp only [Sem.run_bind, run_getLoop hc1, Result.andThen, Sem.run_pure, run_newObj_alloc]
            rfl
          · refine ⟨Lays.le_trans hst.le (Lays.le_append _ _), hst.glob.mono (Lays.le_append _ _), hsim, ⟨hst.tm.size, hst.tm.len, fun i => (hst.tm.rel i).mono (Lays.le_append _ _)⟩, ?_⟩
            exact hst.dfr.mono (Lays.le_append _ _)
        | _ => cases hrd

/-- What lies there, and what is done with it. -/
theorem sound_after {keep : Ex → List Nat} {k : List Value → M R} {r : Out R} {i : Nat} {lay : Lay} (hb : r ≠ .bad) (hQ : Post E n L₀ x keep k r Q) (hst : St E n L₀ x L τ H a w) (hl : L[i]? = some lay) (hk : afterM i (fun e => squeeze (keep e) τ) (k τ) H = r) :
    ∃ jump w₄, (Instr.endLoop lay.b).run E.P w = .ok jump w₄ ∧ (match jump with
       | none => Q .normal a w₄
       | some c => c.wpIn (FW x.ro) 0 E.P Q a w₄) := by
  unfold afterM at hk
  cases hH : H[i]? with
  | none => rw [hH] at hk; exact absurd hk.symm hb
  | some blk =>
    rw [hH] at hk
    cases blk with
    | loop st pd nn τ₀ rf =>
      simp only at hk
      obtain ⟨c, hc1, hc2⟩ := hst.sim.blk i lay _ hl hH
      by_cases hbusy : st = .busy
      · rw [if_pos hbusy] at hk; exact absurd hk.symm hb
      · rw [if_neg hbusy] at hk
        refine ⟨pd, w.putObj lay.b (.loop { c with state := .exhausted }), by rw [← hc2.pending]; exact run_endLoop hc1 (by rw [hc2.state]; exact hbusy), ?_⟩
        have hsim : Sim E.P L (H.set i .dead) (w.putObj lay.b (.loop { c with state := .exhausted })) := by
          have h1 := hst.sim.setBlk (k' := .loop .exhausted pd nn τ₀ rf) (o := .loop { c with state := .exhausted }) (w' := w.putObj lay.b (.loop { c with state := .exhausted })) hl hH rfl rfl ⟨rfl, rfl⟩
            ⟨_, rfl, rfl, hc2.pending, hc2.size, hc2.tmps, hc2.params, hc2.assign, hc2.body⟩
          have h2 := h1.kill i
          rwa [List.set_set] at h2
        have hst' : St E n L₀ x L τ (H.set i .dead) a (w.putObj lay.b (.loop { c with state := .exhausted })) := ⟨hst.le, hst.glob, hsim, hst.tm, hst.dfr⟩
        cases pd with
        | none => exact hQ.normal _ _ _ _ _ hst' hk
        | some j =>
          cases j with
          | ret => exact wpIn_ret (hQ.ret _ _ _ _ _ hst' hk)
          | exit id => exact wpIn_exit (hQ.exit _ _ _ _ _ _ hst' hk)
          | goto l => exact wpIn_goto (hQ.goto _ _ _ _ _ _ hst' hk)
          | _ => exact absurd hk.symm hb
    | _ => exact absurd hk.symm hb

theorem sound_rangeF (hC : OK E C) {keep : Ex → List Nat} {k : List Value → M R} {r : Out R} {f : Operand} {rf : RF} (hb : r ≠ .bad) (hQ : Post E n L₀ x keep k r Q) (hst : St E n L₀ x L τ H a w)
    (hk : rangeM E C x.rd n rf (opnd E τ f) (squeeze rf.K τ) (fun e => squeeze (keep e) τ) (k τ) H = r) : (Code.rangeFunc f rf.ps rf.assign rf.body).wpIn (FW x.ro) 0 E.P Q a w := by
  unfold rangeM at hk
  by_cases hrd : aboutOk x.rd H = true
  · rw [if_pos hrd] at hk
    refine wpIn_rangeFunc fun fn _ => ?_
    obtain ⟨l, mark, w₁, lay, c, h1, rfl, hle, hst1, hc1⟩ := enter_range hst hrd rf fn
    have hO := opnd_rel hst1.tm hst1.glob f
    have hlast : (L ++ [lay])[H.length]? = some lay := by rw [← hst.sim.len]; simp
    generalize hfv : opnd E τ f = fv at hk hO
    generalize hout : aCallF E C fv [.func (.yield H.length) #[] #[]] (H ++ [.loop .ready none n (squeeze rf.K τ) rf]) = out at *
    have hk' : step out (fun _ => afterM H.length (fun e => squeeze (keep e) τ) (k τ)) = r := by rw [← hout]; exact hk
    have hob : out ≠ .bad := by rintro rfl; exact hb hk'.symm
    unfold aCallF at hout
    cases fv with
    | func g first capt =>
      cases g with
      | func g =>
        simp only at hout
        have hv := hO.vr (by simp [undef])
        obtain ⟨fn', a', c', he, hf, h2, h3⟩ := hv.func_inv
        cases hf with
        | same g _ =>
          cases hfn : E.P.funcs[g]? with
          | none => rw [hfn] at hout; exact absurd hout.symm hob
          | some fnc =>
            simp only [hfn] at hout
            by_cases hbody : fnc.body.isSome = true ∧ (fnc.name == "runtime.NumGoroutine") = false
            · rw [if_pos hbody] at hout
              have hb1 : fnc.body.isNone = false := by cases hx : fnc.body <;> simp_all
              have hn1 : ¬ fnc.name = "runtime.NumGoroutine" := by simpa using hbody.2
              have hn2 : ¬ fnc.body = none := fun h => by simp [h] at hb1
              have harg : TRs (L ++ [lay]) (first.toList ++ [.func (.yield H.length) #[] #[]] ++ capt.toList) (a'.toList ++ [.func (.yield lay.b) #[] #[]] ++ c'.toList) :=
                (h2.trs.append (.cons (.inr (.func (.yield hlast) .nil .nil)) .nil)).append h3.trs
              have hcall := hC.call g _ _ (by rw [hout]; exact hob) (L ++ [lay]) w₁ _ hst1.sim harg hst1.glob
              rw [hout] at hcall
              have harr : (a'.toList ++ [Value.func (.yield lay.b) #[] #[]] ++ c'.toList).toArray = a' ++ #[.func (.yield lay.b) #[] #[]] ++ c' := by apply Array.ext'; simp
              rw [harr] at hcall
              refine ⟨lay.b, mark, w₁, { target := .fn (.func g) c', args := a' ++ #[.func (.yield lay.b) #[] #[]] }, w₁, g, a' ++ #[.func (.yield lay.b) #[] #[]] ++ c', w₁, h1, ?_, fun _ _ => trivial, ?_, fun h => by simp [FW, Fence.wide] at h, ?_⟩
              · have he' : a.eval f = .func (.func g) a' c' := he
                have hmap : (rangeCall f lay.b).args.map a.eval = #[.func (.yield lay.b) #[] #[]] := by simp [rangeCall, Act.eval]
                simp only [resolve, hmap, he', Deferred.ofValue, Sem.run_pure]
              · simp [invoke, callFunc, hfn, hn1, hn2]
              · refine callsIn_FW.2 (CallsIn.mono hcall fun e w' hr => ?_)
                cases out with
                | bad => exact absurd rfl hob
                | ret v H' =>
                  obtain ⟨L', v', rfl, h4, h5, h6⟩ := hr
                  have hst2 : St E n L₀ x L' τ H' { a with defers := mark ++ a.defers } w' :=
                    ⟨Lays.le_trans hst1.le h4, hst1.glob.mono h4, h5, ⟨hst1.tm.size, hst1.tm.len, fun i => (hst1.tm.rel i).mono h4⟩, hst1.dfr.mono h4⟩
                  obtain ⟨jump, w₄, h7, h8⟩ := sound_after hb hQ hst2 (h4 _ _ hlast) hk'
                  exact ⟨jump, w₄, h7, h8⟩
                | pan v H' =>
                  obtain ⟨L', v', rfl, h4, h5, h6⟩ := hr
                  exact hQ.panic L' v v' H' _ w' (Lays.le_trans hst1.le h4) (hst1.glob.mono h4) h5 h6 (hst1.dfr.mono h4) hk'
            · rw [if_neg hbody] at hout; exact absurd hout.symm hob
      | _ => exact absurd hout.symm hob
    | _ => exact absurd hout.symm hob
  · rw [if_neg hrd] at hk; exact absurd hk.symm hb

/-- Code is what is reckoned of it. -/
theorem sound_den (hC : OK E C) {Lp : (List Value → M R) → List Value → M R} (hL : LpOK Lp) {keep : Ex → List Nat} : ∀ (c : Code) (an : An) (e : Option Nat) (k : List Value → M R) (r : Out R) (Q : Exit → Act → World → Prop) (L : Lays) (τ : List Value) (H : Heap) (a : Act) (w : World), r ≠ .bad → (∀ o ∈ c.opers, NoPin x o) → Post E n L₀ x keep k r Q → St E n L₀ x L τ H a w →
    den E C Lp x.rd n keep c an e τ k H = r → ∃ rest, restOf c e = some rest ∧ rest.wpIn (FW x.ro) 0 E.P Q a w := by
  intro c
  induction c with
  | skip => 
    intro an e k r Q L τ H a w hb hp hQ hst hk
    cases e with
    | some _ => simp only [den] at hk; exact absurd hk.symm hb
    | none =>
    refine ⟨_, rfl, ?_⟩
    simp only [den] at hk
    exact wpIn_skip (hQ.normal _ _ _ _ _ hst hk)
  | label l =>
    intro an e k r Q L τ H a w hb hp hQ hst hk
    cases e with
    | some l' =>
      simp only [den] at hk
      by_cases he : l = l'
      · rw [if_pos he] at hk
        exact ⟨.skip, by simp [restOf, findLabel, he], wpIn_skip (hQ.normal _ _ _ _ _ hst hk)⟩
      · rw [if_neg he] at hk; exact absurd hk.symm hb
    | none =>
    refine ⟨_, rfl, ?_⟩
    simp only [den] at hk
    exact wpIn_label (hQ.normal _ _ _ _ _ hst hk)
  | region id ops draw =>
    intro an e k r Q L τ H a w hb hp hQ hst hk
    cases e with
    | some _ => simp only [den] at hk; exact absurd hk.symm hb
    | none =>
    refine ⟨_, rfl, ?_⟩
    simp only [den] at hk
    cases draw with
    | true =>
      simp only [if_true] at hk
      split at hk
      · rename_i hmix
        exact sound_draw hp hC hb hQ hmix hst hk
      · exact absurd hk.symm hb
    | false =>
      replace hk : opsM E C ops ops.toList τ k H = r := by simpa using hk
      refine wpIn_region ?_
      rw [List.range_eq_range']
      have := sound_ops hC hb hQ ops.toList 0 L τ H a w (fun j _ => by simp) hp hst hk
      simpa using this
  | seq c₁ c₂ ih1 ih2 =>
    intro an e k r Q L τ H a w hb hp hQ hst hk
    have hp1 : ∀ o ∈ c₁.opers, NoPin x o := fun o ho => hp o (by simp [Code.opers, ho])
    have hp2 : ∀ o ∈ c₂.opers, NoPin x o := fun o ho => hp o (by simp [Code.opers, ho])
    have two : ∀ e, den E C Lp x.rd n keep c₁ an.l e τ (fun τ' => den E C Lp x.rd n keep c₂ an.r none τ' k) H = r → ∃ rest, restOf c₁ e = some rest ∧ (Code.seq rest c₂).wpIn (FW x.ro) 0 E.P Q a w := by
      intro e he
      obtain ⟨rest, h1, h2⟩ := ih1 _ e _ _ (Exit.then (fun a w => c₂.wpIn (FW x.ro) 0 E.P Q a w) Q) _ _ _ _ _ hb hp1
        ⟨fun L' τ' H' a' w' hst' hk' => restNone (ih2 _ none _ _ _ _ _ _ _ _ hb hp2 hQ hst' hk'), hQ.exit, hQ.goto, hQ.ret, hQ.panic⟩ hst he
      exact ⟨rest, h1, wpIn_seq h2⟩
    cases e with
    | none =>
      simp only [den] at hk
      obtain ⟨rest, h1, h2⟩ := two none hk
      cases h1
      exact ⟨_, rfl, h2⟩
    | some l =>
      simp only [den] at hk
      by_cases hh : hasLabel c₁ l = true
      · rw [if_pos hh] at hk
        obtain ⟨rest, h1, h2⟩ := two (some l) hk
        refine ⟨.seq rest c₂, ?_, h2⟩
        simp only [restOf] at h1 ⊢
        simp [findLabel, h1]
      · rw [if_neg hh] at hk
        obtain ⟨rest, h1, h2⟩ := ih2 _ (some l) _ _ _ _ _ _ _ _ hb hp2 hQ hst hk
        refine ⟨rest, ?_, h2⟩
        rw [hasLabel_iff] at hh
        simp only [restOf] at h1 ⊢
        have : findLabel c₁ l = none := by cases hx : findLabel c₁ l <;> simp_all
        simp [findLabel, this, h1]
  | cond c c₁ c₂ ih1 ih2 =>
    intro an e k r Q L τ H a w hb hp hQ hst hk
    cases e with
    | some _ => simp only [den] at hk; exact absurd hk.symm hb
    | none =>
    refine ⟨_, rfl, ?_⟩
    have hp1 : ∀ o ∈ c₁.opers, NoPin x o := fun o ho => hp o (by simp [Code.opers, ho])
    have hp2 : ∀ o ∈ c₂.opers, NoPin x o := fun o ho => hp o (by simp [Code.opers, ho])
    simp only [den] at hk
    have hcc := opnd_rel hst.tm hst.glob c
    split at hk
    · generalize hm : condM (opnd E τ c) (den E C Lp x.rd n keep c₁ an.l none τ fun τ' => M.pure ⟨.normal, squeeze an.K τ'⟩) (den E C Lp x.rd n keep c₂ an.r none τ fun τ' => M.pure ⟨.normal, squeeze an.K τ'⟩) H = r1 at hk
      have hk' : step r1 (fun v => if v.e = .normal then k (spread n an.K v.p) else M.pure v) = r := by rw [← hm]; exact hk
      have hb1 : r1 ≠ .bad := by rintro rfl; exact hb hk'.symm
      have hQ1 : Post E n L₀ x keep (fun τ' => M.pure ⟨.normal, squeeze an.K τ'⟩) r1 Q := by
        refine ⟨?_, ?_, ?_, ?_, ?_⟩
        · rintro L' τ' H' a' w' hst' rfl
          exact hQ.normal L' _ H' a' w' (hst'.spread an.K) (by simpa [M.pure, step] using hk')
        · rintro id L' τ' H' a' w' hst' rfl
          exact hQ.exit id L' _ H' a' w' hst' (by simpa [M.pure, step] using hk')
        · rintro id L' τ' H' a' w' hst' rfl
          exact hQ.goto id L' _ H' a' w' hst' (by simpa [M.pure, step] using hk')
        · rintro L' τ' H' a' w' hst' rfl
          exact hQ.ret L' _ H' a' w' hst' (by simpa [M.pure, step] using hk')
        · rintro L' v v' H' a' w' h1 h0 h2 h3 h4 rfl
          exact hQ.panic L' v v' H' a' w' h1 h0 h2 h3 h4 (by simpa [step] using hk')
      unfold condM at hm
      split at hm
      · rename_i hc
        rw [hc] at hcc
        exact wpIn_cond_true hcc.bool (restNone <| ih1 _ none _ _ _ _ _ _ _ _ hb1 hp1 hQ1 hst hm)
      · rename_i hc
        rw [hc] at hcc
        exact wpIn_cond_false hcc.bool (restNone <| ih2 _ none _ _ _ _ _ _ _ _ hb1 hp2 hQ1 hst hm)
      · exact absurd hm.symm hb1
    · unfold condM at hk
      split at hk
      · rename_i hc
        rw [hc] at hcc
        exact wpIn_cond_true hcc.bool (restNone <| ih1 _ none _ _ _ _ _ _ _ _ hb hp1 hQ hst hk)
      · rename_i hc
        rw [hc] at hcc
        exact wpIn_cond_false hcc.bool (restNone <| ih2 _ none _ _ _ _ _ _ _ _ hb hp2 hQ hst hk)
      · exact absurd hk.symm hb
  | block id b ih =>
    intro an e k r Q L τ H a w hb hp hQ hst hk
    cases e with
    | some _ => simp only [den] at hk; exact absurd hk.symm hb
    | none =>
    refine ⟨_, rfl, ?_⟩
    simp only [den] at hk
    generalize hm : den E C Lp x.rd n keep b an.l none τ (fun τ' => M.pure ⟨.normal, squeeze (keep (.exit id)) τ'⟩) H = r1 at hk
    have hk' : step r1 (fun v => if v.e = .normal ∨ v.e = .exit id then k (spread n (keep (.exit id)) v.p) else M.pure v) = r := by rw [← hm]; exact hk
    have hb1 : r1 ≠ .bad := by rintro rfl; exact hb hk'.symm
    refine wpIn_block (restNone <| ih _ none _ _ _ _ _ _ _ _ hb1 hp ⟨?_, ?_, ?_, ?_, ?_⟩ hst hm)
    · rintro L' τ' H' a' w' hst' rfl
      exact hQ.normal L' _ H' a' w' (hst'.spread _) (by simpa [M.pure, step] using hk')
    · rintro id' L' τ' H' a' w' hst' rfl
      by_cases hid : id' = id
      · subst hid
        show (if id' = id' then Q .normal a' w' else Q (.exit id') a' w')
        rw [if_pos rfl]
        exact hQ.normal L' _ H' a' w' (hst'.spread _) (by simpa [M.pure, step] using hk')
      · show (if id' = id then Q .normal a' w' else Q (.exit id') a' w')
        rw [if_neg hid]
        exact hQ.exit id' L' _ H' a' w' hst' (by simpa [M.pure, step, hid] using hk')
    · rintro l L' τ' H' a' w' hst' rfl
      exact hQ.goto l L' _ H' a' w' hst' (by simpa [M.pure, step] using hk')
    · rintro L' τ' H' a' w' hst' rfl
      exact hQ.ret L' _ H' a' w' hst' (by simpa [M.pure, step] using hk')
    · rintro L' v v' H' a' w' h1 h0 h2 h3 h4 rfl
      exact hQ.panic L' v v' H' a' w' h1 h0 h2 h3 h4 (by simpa [step] using hk')
  | loop b ih =>
    intro an e k r Q L τ H a w hb hp hQ hst hk
    cases e with
    | some _ => simp only [den] at hk; exact absurd hk.symm hb
    | none =>
    refine ⟨_, rfl, ?_⟩
    simp only [den] at hk
    obtain ⟨j, hj⟩ := hL _ _ _ (by rw [hk]; exact hb)
    rw [hk] at hj
    refine wpIn_loop_nat (fun j a w => ∃ L τ H, St E n L₀ x L τ H a w ∧ loopN (fun p => den E C Lp x.rd n keep b an.l none (spread n an.K p) fun τ' => M.pure ⟨.normal, squeeze an.K τ'⟩) j (squeeze an.K τ) H = r) ⟨L, τ, H, hst, hj⟩ ?_
    rintro j a w ⟨L, τ, H, hst, hj⟩
    cases j with
    | zero => exact absurd hj.symm hb
    | succ j =>
      simp only [loopN] at hj
      generalize hm : den E C Lp x.rd n keep b an.l none (spread n an.K (squeeze an.K τ)) (fun τ' => M.pure ⟨.normal, squeeze an.K τ'⟩) H = r1
      have hk' : step r1 (fun v => if v.e = .normal then loopN (fun p => den E C Lp x.rd n keep b an.l none (spread n an.K p) fun τ' => M.pure ⟨.normal, squeeze an.K τ'⟩) j v.p else M.pure v) = r := by rw [← hm]; exact hj
      have hb1 : r1 ≠ .bad := by rintro rfl; exact hb hk'.symm
      refine restNone <| ih _ none _ _ _ _ _ _ _ _ hb1 hp ⟨?_, ?_, ?_, ?_, ?_⟩ (hst.spread an.K) hm
      · rintro L' τ' H' a' w' hst' rfl
        exact ⟨j, Nat.lt_succ_self j, L', τ', H', hst', by simpa [M.pure, step] using hk'⟩
      · rintro id L' τ' H' a' w' hst' rfl
        exact hQ.exit id L' _ H' a' w' hst' (by simpa [M.pure, step] using hk')
      · rintro id L' τ' H' a' w' hst' rfl
        exact hQ.goto id L' _ H' a' w' hst' (by simpa [M.pure, step] using hk')
      · rintro L' τ' H' a' w' hst' rfl
        exact hQ.ret L' _ H' a' w' hst' (by simpa [M.pure, step] using hk')
      · rintro L' v v' H' a' w' h1 h0 h2 h3 h4 rfl
        exact hQ.panic L' v v' H' a' w' h1 h0 h2 h3 h4 (by simpa [step] using hk')
  | rangeFunc f ps assign body _ _ =>
    intro an e k r Q L τ H a w hb hp hQ hst hk
    cases e with
    | some _ => simp only [den] at hk; exact absurd hk.symm hb
    | none =>
    simp only [den] at hk
    exact ⟨_, rfl, sound_rangeF (rf := ⟨an.K, keep, ps, assign, body, an.l, an.r⟩) hC hb hQ hst hk⟩
  | scope b ih =>
    intro an e k r Q L τ H a w hb hp hQ hst hk
    cases e with
    | some _ => simp only [den] at hk; exact absurd hk.symm hb
    | none =>
    refine ⟨_, rfl, ?_⟩
    simp only [den] at hk
    by_cases hkeep : (labels b).all (fun l => decide (keep (.goto l) = an.K)) = true
    · rw [if_pos hkeep] at hk
      have hkeep' : ∀ l, l ∈ labels b → keep (.goto l) = an.K := fun l hl => by
        rw [List.all_eq_true] at hkeep
        simpa using hkeep l hl
      let F : List Value → M R := fun p => (entryM (p.headD undef) (den E C Lp x.rd n keep b an.l none (spread n an.K p.tail) fun τ' => M.pure ⟨.done, squeeze an.K τ'⟩)
          ((labels b).map fun l => (l, den E C Lp x.rd n keep b an.l (some l) (spread n an.K p.tail) fun τ' => M.pure ⟨.done, squeeze an.K τ'⟩))).bind (scopeR (labels b))
      replace hk : ((Lp F (undef :: squeeze an.K τ)).bind fun r => if r.e = .done then k (spread n an.K r.p) else M.pure r) H = r := hk
      generalize hm : Lp F (undef :: squeeze an.K τ) H = r0
      have hk0 : step r0 (fun r => if r.e = .done then k (spread n an.K r.p) else M.pure r) = r := by rw [← hm]; exact hk
      have hb0 : r0 ≠ .bad := by rintro rfl; exact hb hk0.symm
      obtain ⟨j, hj⟩ := hL _ _ _ (by rw [hm]; exact hb0)
      rw [hm] at hj
      refine wpIn_scope_nat (fun j e a w => ∃ L p H, St E n L₀ x L (spread n an.K p.tail) H a w ∧ ((p.headD undef = undef ∧ e = none) ∨ ∃ l : Nat, p.headD undef = .int .i64 l ∧ e = some l) ∧ loopN F j p H = r0) ⟨L, _, H, hst.spread an.K, .inl ⟨rfl, rfl⟩, hj⟩ ?_
      rintro j e a w ⟨L, p, H, hst, he, hj⟩
      cases j with
      | zero => exact absurd hj.symm hb0
      | succ j =>
        simp only [loopN] at hj
        generalize hm1 : den E C Lp x.rd n keep b an.l e (spread n an.K p.tail) (fun τ' => M.pure ⟨.done, squeeze an.K τ'⟩) H = r1
        have hk' : step (step r1 (scopeR (labels b))) (fun v => if v.e = .normal then loopN F j v.p else M.pure v) = r0 := by
          have hF : F p H = step r1 (scopeR (labels b)) := by
            rcases he with ⟨h1, rfl⟩ | ⟨l, h1, rfl⟩
            · simp only [F, h1]
              rw [← hm1]; rfl
            · have hne : F p H ≠ .bad := by intro h0; simp only [M.bind, h0] at hj; exact hb0 hj.symm
              have hpe : pickE l ((labels b).map fun l => (l, den E C Lp x.rd n keep b an.l (some l) (spread n an.K p.tail) fun τ' => M.pure ⟨.done, squeeze an.K τ'⟩)) H ≠ .bad := by
                intro h0; apply hne; simp only [F, h1, entryM, M.bind, h0]
              obtain ⟨m, h2, _, h3⟩ := pickE_ok _ _ hpe
              have h2' : l = m := by exact_mod_cast h2
              subst h2'
              simp only [F, h1, entryM, M.bind, h3]
              rw [← hm1]; rfl
          rw [← hF]; exact hj
        have hb1 : r1 ≠ .bad := by rintro rfl; exact hb0 hk'.symm
        refine ih _ _ _ _ _ _ _ _ _ _ hb1 hp ⟨?_, ?_, ?_, ?_, ?_⟩ hst hm1
        · rintro L' τ' H' a' w' hst' rfl
          have h0 : r0 = .ret ⟨.done, squeeze an.K τ'⟩ H' := by simpa [M.pure, step, scopeR] using hk'.symm
          subst h0
          exact hQ.normal L' _ H' a' w' (hst'.spread an.K) (by simpa [step] using hk0)
        · rintro id L' τ' H' a' w' hst' rfl
          have h0 : r0 = .ret ⟨.exit id, squeeze (keep (.exit id)) τ'⟩ H' := by simpa [M.pure, step, scopeR] using hk'.symm
          subst h0
          exact hQ.exit id L' _ H' a' w' hst' (by simpa [M.pure, step] using hk0)
        · rintro l L' τ' H' a' w' hst' rfl
          show (_ ∧ _) ∨ (_ ∧ _)
          by_cases hl : l ∈ labels b
          · refine .inl ⟨(labels_iff b l).1 hl, j, Nat.lt_succ_self j, L', .int .i64 l :: squeeze (keep (.goto l)) τ', H', ?_, .inr ⟨l, rfl, rfl⟩, by simpa [M.pure, step, scopeR, hl] using hk'⟩
            rw [hkeep' l hl]
            exact hst'.spread an.K
          · have h0 : r0 = .ret ⟨.goto l, squeeze (keep (.goto l)) τ'⟩ H' := by simpa [M.pure, step, scopeR, hl] using hk'.symm
            subst h0
            refine .inr ⟨?_, hQ.goto l L' _ H' a' w' hst' (by simpa [M.pure, step] using hk0)⟩
            rw [labels_iff] at hl
            cases hx : findLabel b l <;> simp_all
        · rintro L' τ' H' a' w' hst' rfl
          have h0 : r0 = .ret ⟨.ret, squeeze (keep .ret) τ'⟩ H' := by simpa [M.pure, step, scopeR] using hk'.symm
          subst h0
          exact hQ.ret L' _ H' a' w' hst' (by simpa [M.pure, step] using hk0)
        · rintro L' v v' H' a' w' h1 h0 h2 h3 h4 rfl
          have h5 : r0 = .pan v H' := by simpa [step] using hk'.symm
          subst h5
          exact hQ.panic L' v v' H' a' w' h1 h0 h2 h3 h4 (by simpa [step] using hk0)
    · rw [if_neg hkeep] at hk; exact absurd hk.symm hb
  | exit id =>
    intro an e k r Q L τ H a w hb hp hQ hst hk
    cases e with
    | some _ => simp only [den] at hk; exact absurd hk.symm hb
    | none =>
    refine ⟨_, rfl, ?_⟩
    simp only [den] at hk
    exact wpIn_exit (hQ.exit _ _ _ _ _ _ hst hk)
  | goto l =>
    intro an e k r Q L τ H a w hb hp hQ hst hk
    cases e with
    | some _ => simp only [den] at hk; exact absurd hk.symm hb
    | none =>
    refine ⟨_, rfl, ?_⟩
    simp only [den] at hk
    exact wpIn_goto (hQ.goto _ _ _ _ _ _ hst hk)
  | ret =>
    intro an e k r Q L τ H a w hb hp hQ hst hk
    cases e with
    | some _ => simp only [den] at hk; exact absurd hk.symm hb
    | none =>
    refine ⟨_, rfl, ?_⟩
    simp only [den] at hk
    exact wpIn_ret (hQ.ret _ _ _ _ _ hst hk)
  | _ =>
    intro an e k r Q L τ H a w hb hp hQ hst hk
    cases e <;> (simp only [den] at hk; exact absurd hk.symm hb)

theorem load_still (h : Sim E.P L H w) {x x' : Value} (hx : TR L x x') (t : TypeId) :
    (match aLoad E.P t x H with
     | .ret v H' => H' = H ∧ ∃ v' ad, x' = .pointer (some ad) ∧ (loadVar t ad).run E.P w = .ok v' w ∧ VR L v v'
     | .pan _ _ => False
     | .bad => True) := by
  unfold aLoad
  cases ha : isAggT E.P t with
  | none => trivial
  | some b =>
    cases b with
    | true =>
      simp only
      by_cases hi : (E.P.info? t).isSome = true
      · rw [if_pos hi]
        unfold ldG
        cases x with
        | pointer p =>
          cases p with
          | none => trivial
          | some ad =>
            obtain ⟨l, hl, rfl⟩ := hx.ptr
            simp only
            cases hv : H.getN ad.block ad.off (E.P.cellsOf t) with
            | none => trivial
            | some vs =>
              obtain ⟨h1, vs', h2, h3⟩ := h.getN hl hv
              exact ⟨rfl, .agg vs'.toArray, _, rfl, by simp [loadVar, run_isAggT ha, run_size hi, h3 E.P w rfl], .agg (by simpa using h2)⟩
        | _ => trivial
      · rw [if_neg hi]; trivial
    | false =>
      simp only
      unfold ldS
      cases x with
      | pointer p =>
        cases p with
        | none => trivial
        | some ad =>
          obtain ⟨l, hl, rfl⟩ := hx.ptr
          simp only
          cases hv : H.get1 ad.block ad.off with
          | none => trivial
          | some v =>
            obtain ⟨v', h1, h2⟩ := h.get1 hl hv
            exact ⟨rfl, v', _, rfl, by simp [loadVar, run_isAggT ha, h1], h2⟩
      | _ => trivial

/-- A result. -/
def resVal (tmps : Array Value) : ResultVar → Sem Value
  | .tmp t => pure (tmps.getD t undef)
  | .cell a t => do loadVar t (← asAddr (tmps.getD a undef))

/-- The results, one by one. -/
theorem sound_res (h : Sim E.P L H w) {tmps : Array Value} : ∀ (rs : List ResultVar) (p : List Value) (r : Out (List Value)), (∀ i v, (rs[i]?).map resSlot = some v → TR L (p.getD i undef) (tmps.getD v undef)) → resM E rs p H = r → r ≠ .bad →
    ∃ l l', r = .ret l H ∧ VRs L l l' ∧ (rs.mapM (resVal tmps)).run E.P w = .ok l' w
  | [], p, r, _, hr, _ => ⟨[], [], by simpa [resM, M.pure] using hr.symm, .nil, rfl⟩
  | .tmp _ :: _, [], r, _, hr, hb => absurd (by rw [← hr]; unfold resM; rfl) hb
  | .cell _ _ :: _, [], r, _, hr, hb => absurd (by rw [← hr]; unfold resM; rfl) hb
  | .tmp t :: rs, v :: p, r, hp, hr, hb => by
    have h0 : TR L v (tmps.getD t undef) := hp 0 t (by simp [resSlot])
    have hp' : ∀ i v, (rs[i]?).map resSlot = some v → TR L (p.getD i undef) (tmps.getD v undef) := fun i x hx => by
      have := hp (i + 1) x (by simpa using hx)
      simpa using this
    simp only [resM] at hr
    generalize hm : resM E rs p H = r1
    have hr' : step r1 (fun l => if isVal v = true then M.pure (v :: l) else M.bad) = r := by rw [← hm]; exact hr
    have hb1 : r1 ≠ .bad := by rintro rfl; exact hb hr'.symm
    obtain ⟨l, l', rfl, h2, h3⟩ := sound_res h rs p r1 hp' hm hb1
    by_cases hv : isVal v = true
    · have hvv := h0.vr (by rintro rfl; simp [isVal, undef] at hv)
      simp only [step, hv, if_true, M.pure] at hr'
      exact ⟨v :: l, _ :: l', hr'.symm, .cons hvv h2, by simp only [List.mapM_cons, resVal, Sem.run_bind, Sem.run_pure, Result.andThen_ok, h3]⟩
    · simp only [step, hv] at hr'
      exact absurd hr'.symm hb
  | .cell t ty :: rs, v :: p, r, hp, hr, hb => by
    have h0 : TR L v (tmps.getD t undef) := hp 0 t (by simp [resSlot])
    have hp' : ∀ i v, (rs[i]?).map resSlot = some v → TR L (p.getD i undef) (tmps.getD v undef) := fun i x hx => by
      have := hp (i + 1) x (by simpa using hx)
      simpa using this
    simp only [resM] at hr
    have hld := load_still h h0 ty
    generalize hm : aLoad E.P ty v H = m at hld
    have hr' : step m (fun x => (resM E rs p).bind fun l => M.pure (x :: l)) = r := by rw [← hm]; exact hr
    cases m with
    | bad => exact absurd hr'.symm hb
    | pan _ _ => exact hld.elim
    | ret x H' =>
      obtain ⟨heq, x', ad, h1, h2, h3⟩ := hld
      simp only [step, heq] at hr'
      generalize hm2 : resM E rs p H = r1
      have hr2 : step r1 (fun l => M.pure (x :: l)) = r := by rw [← hm2]; exact hr'
      have hb1 : r1 ≠ .bad := by rintro rfl; exact hb hr2.symm
      obtain ⟨l, l', rfl, h4, h5⟩ := sound_res h rs p r1 hp' hm2 hb1
      refine ⟨x :: l, x' :: l', hr2.symm, .cons h3 h4, ?_⟩
      simp only [List.mapM_cons, resVal, Sem.run_bind, Result.andThen_ok, h1, asAddr, Sem.run_pure, h2, h5]

theorem oneOf_rel {l l' : List Value} (h : VRs L l l') : VR L (oneOf l) (if h : l'.toArray.size = 1 then l'.toArray[0] else .tuple l'.toArray) := by
  cases h with
  | nil => exact .tuple .nil Token.nil
  | cons h1 h2 =>
    cases h2 with
    | nil => exact h1
    | cons h3 h4 => 
      simp only [oneOf]
      rw [dif_neg (by simp)]
      exact .tuple (by simpa using VRs.cons h1 (.cons h3 h4)) (fun h => by simp [Token] at h)

/-- An activation leaves: its marks are taken. -/
theorem leave_marks {P : Program} {L : Lays} {H : Heap} {fn : Func} {tmps : Array Value} {R : Ending → World → Prop} {u : FrameMode} (hu : u ≠ .run)
    (hfin : ∀ w, Sim P L H w → LeavesIn (FW none) 0 P fn tmps R [] u w) :
    ∀ (ms : List Nat) (w : World), ms.Nodup → (∀ r ∈ ms, w.heap[r]? = some (.deferred (some [])) ∧ (∀ (i : Nat) (l : Lay), L[i]? = some l → l.b ≠ r) ∧ (∀ (i : Nat) (l : Lay) (s : Stays), L[i]? = some l → l.o = some s → r ∉ s.ks)) → Sim P L H w →
      LeavesInM (FW none) 0 P fn tmps R (ms.map markD) u w
  | [], w, _, _, hs => hfin w hs
  | r :: ms, w, hn, hr, hs => by
    obtain ⟨h1, h2, h3⟩ := hr r (by simp)
    rw [List.nodup_cons] at hn
    refine ⟨hu, .inl ⟨r, w.putObj r (.deferred none), rfl, run_takeDeferred h1, leave_marks hu hfin ms _ hn.2 (fun r' hr' => ?_) (hs.free r _ h2 h3)⟩⟩
    obtain ⟨h4, h5, h6⟩ := hr r' (by simp [hr'])
    exact ⟨by rw [World.putObj_heap_other (fun e => hn.1 (by rw [← e]; exact hr'))]; exact h4, h5, h6⟩

theorem marks_leave {L₀ L' : Lays} {H' : Heap} {a : Act} {w' : World} {P : Program} {fn : Func} {R : Ending → World → Prop} {u : FrameMode} {x : Hd} (hx : x.ds = []) (hu : u ≠ .run) (hle : L₀.le L') (hs : Sim P L' H' w') (hh : Held L₀ x L' a)
    (hfin : ∀ w, Sim P (eraseFrom L₀.length L') H' w → LeavesIn (FW none) 0 P fn a.tmps R [] u w) : LeavesInM (FW none) 0 P fn a.tmps R a.defers u w' := by
  obtain ⟨⟨ms, h1, h2⟩, _, _⟩ := hh
  rw [h1, hx, List.append_nil]
  refine leave_marks hu hfin ms w' h2.nodup (fun r hr => ?_) (hs.erase _)
  obtain ⟨i, l, s, h3, h4, h5, h6, h7⟩ := h2.ok r hr
  obtain ⟨_, h8⟩ := hs.out i l s h4 h5
  obtain ⟨h9, h10, h11⟩ := h8 r h6
  refine ⟨by rw [h10]; exact h7, fun j l' hj => ?_, fun j l' s' hj ho hin => ?_⟩
  · rw [eraseFrom_get] at hj
    cases hl : L'[j]? with
    | none => rw [hl] at hj; cases hj
    | some l₁ =>
      rw [hl] at hj
      simp only [Option.map_some, Option.some.injEq] at hj
      have := h11 j l₁ hl
      subst hj
      split <;> exact this
  · rw [eraseFrom_get] at hj
    cases hl : L'[j]? with
    | none => rw [hl] at hj; cases hj
    | some l₁ =>
      rw [hl] at hj
      simp only [Option.map_some, Option.some.injEq] at hj
      by_cases hlt : j < L₀.length
      · rw [if_pos hlt] at hj
        subst hj
        have h0 := hle j _ (List.getElem?_eq_getElem hlt)
        rw [hl] at h0
        cases h0
        exact h2.apart r hr j _ s' (List.getElem?_eq_getElem hlt) ho hin
      · rw [if_neg hlt] at hj
        subst hj
        cases ho

/-- A function that is called. -/
theorem sound_call (hC : OK E C) {Lp : (List Value → M R) → List Value → M R} (hL : LpOK Lp) (keep : FuncId → Ex → List Nat) (ann : FuncId → An) (f : FuncId) (args : List Value) (H : Heap)
    (hb : callStep E C Lp keep ann f args H ≠ .bad) (L : Lays) (w : World) (args' : List Value) (hs : Sim E.P L H w) (ha : TRs L args args') (hg : Glob E.gn L) :
    CallsIn Fence.wide 0 E.P f args'.toArray w (CallR E.P L (callStep E C Lp keep ann f args H)) := by
  unfold callStep at hb ⊢
  cases hf : E.P.funcs[f]? with
  | none => rw [hf] at hb; exact absurd rfl hb
  | some fn =>
    simp only [hf] at hb ⊢
    cases hbd : fn.body with
    | none => rw [hbd] at hb; exact absurd rfl hb
    | some c =>
      simp only [hbd] at hb ⊢
      by_cases hlen : args.length ≤ fn.ntmps
      · rw [if_pos hlen] at hb ⊢
        generalize hm : den E C Lp none fn.ntmps (fun e => if e = .ret then fn.results.toList.map resSlot else keep f e) c (ann f) none (args ++ List.replicate (fn.ntmps - args.length) undef) (fun τ => M.pure ⟨.ret, squeeze (fn.results.toList.map resSlot) τ⟩) H = r1
        have hbind : ∀ g, (M.bind (den E C Lp none fn.ntmps (fun e => if e = .ret then fn.results.toList.map resSlot else keep f e) c (ann f) none (args ++ List.replicate (fn.ntmps - args.length) undef) (fun τ => M.pure ⟨.ret, squeeze (fn.results.toList.map resSlot) τ⟩)) g H : Out Value) = step r1 g := fun g => by rw [← hm]; rfl
        rw [hbind] at hb ⊢
        have hb1 : r1 ≠ .bad := by rintro rfl; exact hb rfl
        have hlen' : args'.length = args.length := ha.length.symm
        have hst : St E fn.ntmps L ⟨[], [], none, none⟩ L (args ++ List.replicate (fn.ntmps - args.length) undef) H { tmps := args'.toArray ++ Array.replicate (fn.ntmps - args'.toArray.size) undef, defers := [] } w := by
          refine ⟨Lays.le_refl L, hg, hs, ⟨by simp; omega, by simp; omega, fun i => ?_⟩, ⟨[], rfl, ⟨List.nodup_nil, nofun, nofun⟩⟩, nofun, trivial⟩
          by_cases hi : i < args.length
          · have h1 : (args ++ List.replicate (fn.ntmps - args.length) undef).getD i undef = args.getD i undef := by
              simp [List.getD_eq_getElem?_getD, List.getElem?_append_left hi]
            have h2 : (args'.toArray ++ Array.replicate (fn.ntmps - args'.toArray.size) undef).getD i undef = args'.getD i undef := by
              rw [Array.getD_eq_getD_getElem?, Array.getElem?_append_left (by simp; omega)]; simp [List.getD_eq_getElem?_getD]
            rw [h1, h2]
            exact ha.get i
          · have h1 : (args ++ List.replicate (fn.ntmps - args.length) undef).getD i undef = undef := by
              rw [List.getD_eq_getElem?_getD, List.getElem?_append_right (by omega), List.getElem?_replicate]
              split <;> rfl
            rw [h1]; exact .inl rfl
        have hfin : ∀ L' τ H' a w', St E fn.ntmps L ⟨[], [], none, none⟩ L' τ H' a w' → .ret ⟨.ret, squeeze (fn.results.toList.map resSlot) τ⟩ H' = r1 →
            LeavesInM (FW none) 0 E.P fn a.tmps (CallR E.P L (step r1 fun r => if r.e = .ret then (resM E fn.results.toList r.p).bind fun l => M.pure (oneOf l) else M.bad)) a.defers .returning w' := by
          rintro L' τ H' a w' hst' rfl
          refine marks_leave rfl nofun hst'.le hst'.sim hst'.dfr fun w'' hs'' => ?_
          simp only [step, if_true] at hb ⊢
          generalize hm2 : resM E fn.results.toList (squeeze (fn.results.toList.map resSlot) τ) H' = r2
          have hbind2 : ((resM E fn.results.toList (squeeze (fn.results.toList.map resSlot) τ)).bind fun l => M.pure (oneOf l)) H' = step r2 fun l => M.pure (oneOf l) := by rw [← hm2]; rfl
          rw [hbind2] at hb ⊢
          have hb2 : r2 ≠ .bad := by rintro rfl; exact hb rfl
          obtain ⟨l, l', rfl, h1, h2⟩ := sound_res (tmps := a.tmps) hs'' fn.results.toList _ r2 (fun i v hv => by
            have : (squeeze (fn.results.toList.map resSlot) τ).getD i undef = τ.getD v undef := by
              simp only [squeeze, List.getD_eq_getElem?_getD, List.getElem?_map]
              rw [hv]; rfl
            rw [this]; exact (hst'.tm.rel v).like (eraseFrom_like _ _)) hm2 hb2
          refine ⟨_, ?_, eraseFrom L.length L', _, rfl, eraseFrom_le hst'.le (Nat.le_refl _), hs'', oneOf_rel h1⟩
          show ((do let vs ← fn.results.mapM (resVal a.tmps); pure (if h : vs.size = 1 then vs[0] else .tuple vs)) : Sem Value).run E.P w'' = _
          rw [Array.mapM_eq_mapM_toList]
          simp only [Sem.run_bind, Sem.run_map, h2, Result.andThen_ok, Sem.run_pure]
        refine callsIn_of_wp_marks (F := FW none) hf hbd trivial (restNone (ro := none) <| sound_den (x := ⟨[], [], none, none⟩) hC hL c _ none _ r1 _ L _ H _ w hb1 (fun _ _ => nofun) ⟨?_, ?_, ?_, ?_, ?_⟩ hst hm)
        · intro L' τ H' a w' hst' hk
          exact hfin L' τ H' a w' hst' hk
        · rintro id L' τ H' a w' hst' rfl
          exact absurd rfl hb
        · rintro id L' τ H' a w' hst' rfl
          exact absurd rfl hb
        · intro L' τ H' a w' hst' hk
          exact hfin L' τ H' a w' hst' (by simpa using hk)
        · rintro L' v v' H' a w' h1 h0 h2 h3 h4 rfl
          refine marks_leave rfl nofun h1 h2 h4 fun w'' hs'' => ?_
          exact ⟨eraseFrom L.length L', v', rfl, eraseFrom_le h1 (Nat.le_refl _), hs'', h3.like (eraseFrom_like _ _)⟩
      · rw [if_neg hlen] at hb; exact absurd rfl hb

/-- Slots of yield's. -/
theorem setAll_rel {L : Lays} : ∀ (ts : List Tmp) (vs vs' : List Value) (τ : List Value) (tm : Array Value), TRs L vs vs' → τ.length ≤ tm.size → (∀ i, TR L (τ.getD i undef) (tm.getD i undef)) →
    (setAll (ts.zip vs) τ).length ≤ tm.size ∧ ((ts.toArray.zip vs'.toArray).foldl (fun tmps (t, a) => tmps.setIfInBounds t a) tm).size = tm.size ∧
      ∀ i, TR L ((setAll (ts.zip vs) τ).getD i undef) (((ts.toArray.zip vs'.toArray).foldl (fun tmps (t, a) => tmps.setIfInBounds t a) tm).getD i undef)
  | ts, vs, vs', τ, tm, hv, hl, hr => by
    have hz : (ts.toArray.zip vs'.toArray).foldl (fun tmps (t, a) => tmps.setIfInBounds t a) tm = (ts.zip vs').foldl (fun tmps (t, a) => tmps.setIfInBounds t a) tm := by
      rw [← Array.foldl_toList]; simp
    rw [hz]
    clear hz
    induction hv generalizing ts τ tm with
    | nil => cases ts <;> exact ⟨hl, rfl, hr⟩
    | cons h1 _ ih =>
      rename_i v v' l l' _
      cases ts with
      | nil => exact ⟨hl, rfl, hr⟩
      | cons t ts =>
        simp only [List.zip_cons_cons, setAll, List.foldl_cons]
        have := ih ts (τ.set t v) (tm.setIfInBounds t v') (by simpa using hl) (fun i => ?_)
        · simpa using this
        · simp only [List.getD_eq_getElem?_getD, Array.getD_eq_getD_getElem?, List.getElem?_set, Array.getElem?_setIfInBounds]
          by_cases hi : t = i
          · subst hi
            simp only [if_true]
            by_cases h2 : t < τ.length
            · rw [if_pos h2, if_pos (Nat.lt_of_lt_of_le h2 hl)]; exact h1
            · rw [if_neg h2]; exact .inl rfl
          · rw [if_neg hi, if_neg hi]
            have := hr i
            simpa [List.getD_eq_getElem?_getD, Array.getD_eq_getD_getElem?] using this

/-- A round. -/
theorem sound_round (hC : OK E C) {Lp : (List Value → M R) → List Value → M R} (hL : LpOK Lp) (i : Nat) (args : List Value) (H : Heap) (hb : roundStep E C Lp i args H ≠ .bad)
    (L : Lays) (w : World) (args' : List Value) (l : Lay) (c : Loop) (hs : Sim E.P L H w) (ha : TRs L args args') (hg : Glob E.gn L) (hl : L[i]? = some l) (hc : w.heap[l.b]? = some (.loop c)) :
    RoundIn Fence.wide 0 E.P l.b c.fn ((c.params.zip args'.toArray).foldl (fun tmps (t, a) => tmps.setIfInBounds t a) c.tmps) c.assign c.body w (CallR E.P L (roundStep E C Lp i args H)) := by
  unfold roundStep at hb ⊢
  cases hH : H[i]? with
  | none => rw [hH] at hb; exact absurd rfl hb
  | some blk =>
    simp only [hH] at hb ⊢
    cases blk with
    | loop st pd n q rf =>
      simp only at hb ⊢
      by_cases hlen : args.length = rf.ps.size
      · rw [if_pos hlen] at hb ⊢
        obtain ⟨c', hc1, hc2⟩ := hs.blk i l _ hl hH
        rw [hc] at hc1
        cases hc1
        have hset := setAll_rel (L := L) rf.ps.toList args args' (spread n rf.K q) c.tmps ha (by rw [hc2.size]; simp [Wel.spread]) hc2.tmps
        rw [Array.toArray_toList] at hset
        rw [hc2.params, hc2.assign, hc2.body]
        generalize hτ1 : setAll (rf.ps.toList.zip args) (spread n rf.K q) = τ1 at hb hset ⊢
        generalize htm : (rf.ps.zip args'.toArray).foldl (fun tmps (t, a) => tmps.setIfInBounds t a) c.tmps = tm at hset ⊢
        rw [hc2.size] at hset
        let K : List Value → M R := fun τ' => (beginR i).bind fun _ => (den E C Lp (some i) n rf.keep rf.body rf.b none τ' fun _ => M.pure ⟨.normal, []⟩).bind (endK i)
        generalize hm : den E C Lp (some i) n rf.keep rf.assign rf.a none τ1 K H = r1
        have hall : roundM E C Lp i rf n τ1 H = step r1 finK := by rw [← hm]; rfl
        simp only [calm, hall] at hb ⊢
        have hb1 : r1 ≠ .bad := by rintro rfl; exact hb rfl
        refine roundIn_of_wpIn trivial ?_
        show rf.assign.wpIn (FW (some l.b)) 0 E.P _ _ w
        have hst : St E n L ⟨[], [], some i, some l.b⟩ L τ1 H { tmps := tm, defers := [] } w :=
          ⟨Lays.le_refl L, hg, hs, ⟨hset.2.1, hset.1, hset.2.2⟩, ⟨[], rfl, ⟨List.nodup_nil, nofun, nofun⟩⟩, nofun, l, hl, rfl⟩
        refine restNone (ro := some l.b) <| sound_den (x := ⟨[], [], some i, some l.b⟩) hC hL rf.assign _ none _ r1 _ L _ H _ w hb1 (fun _ _ => nofun) ⟨?_, ?_, ?_, ?_, ?_⟩ hst hm
        · intro L1 τ2 H1 a1 w1 hst1 hk1
          -- it begins
          have hl1 := hst1.le i l hl
          have hbeg : ∃ pd n' τ₀ rf', H1[i]? = some (.loop .ready pd n' τ₀ rf') := by
            simp only [K, M.bind, beginR] at hk1
            cases hx : H1[i]? with
            | none => rw [hx] at hk1; exact absurd hk1.symm hb1
            | some blk =>
              cases blk with
              | loop st1 pd1 n1 τ₀ rf1 =>
                cases st1 with
                | ready => exact ⟨_, _, _, _, rfl⟩
                | _ => rw [hx] at hk1; exact absurd hk1.symm hb1
              | _ => rw [hx] at hk1; exact absurd hk1.symm hb1
          obtain ⟨pd1, n1, τ₀, rf1, hx⟩ := hbeg
          obtain ⟨c1, hc3, hc4⟩ := hst1.sim.blk i l _ hl1 hx
          refine ⟨_, run_beginRound hc3 hc4.state, ?_⟩
          have hsim2 : Sim E.P L1 (H1.set i (.loop .busy pd1 n1 τ₀ rf1)) (w1.putObj l.b (.loop { c1 with state := .busy })) :=
            hst1.sim.setBlk (k' := .loop .busy pd1 n1 τ₀ rf1) (o := .loop { c1 with state := .busy }) hl1 hx rfl rfl ⟨rfl, rfl⟩ ⟨_, rfl, rfl, hc4.pending, hc4.size, hc4.tmps, hc4.params, hc4.assign, hc4.body⟩
          have hst2 : St E n L ⟨[], [], some i, some l.b⟩ L1 τ2 (H1.set i (.loop .busy pd1 n1 τ₀ rf1)) a1 (w1.putObj l.b (.loop { c1 with state := .busy })) := ⟨hst1.le, hst1.glob, hsim2, hst1.tm, hst1.dfr⟩
          generalize hm2 : den E C Lp (some i) n rf.keep rf.body rf.b none τ2 (fun _ => M.pure ⟨.normal, []⟩) (H1.set i (.loop .busy pd1 n1 τ₀ rf1)) = r2
          have hall2 : r1 = step r2 (endK i) := by
            rw [← hk1]
            simp only [K, M.bind, beginR, hx, ← hm2, step]
            rfl
          subst hall2
          have hb2 : r2 ≠ .bad := by rintro rfl; exact hb rfl
          have hend : ∀ (e : Ex) (q : List Value) (L' : Lays) (τ' : List Value) (H' : Heap) (a' : Act) (w' : World), e ≠ .done → r2 = .ret ⟨e, q⟩ H' → St E n L ⟨[], [], some i, some l.b⟩ L' τ' H' a' w' →
              ∃ v w'', (Instr.endRound l.b (jumpOf e)).run E.P w' = .ok v w'' ∧ CallR E.P L (calmO (step (step r2 (endK i)) finK)) (.returned v) w'' := by
            rintro e q L' τ' H' a' w' he rfl hst'
            simp only [step, endK, if_neg he, M.bind, endR] at hb ⊢
            cases hy : H'[i]? with
            | none => rw [hy] at hb; exact absurd rfl hb
            | some blk =>
              rw [hy] at hb
              cases blk with
              | loop st3 pd3 n3 τ3 rf3 =>
                have hl3 := hst'.le i l hl
                obtain ⟨c3, hc5, hc6⟩ := hst'.sim.blk i l _ hl3 hy
                refine ⟨_, _, run_endRound (jumpOf e) hc5, L', _, rfl, hst'.le, ?_, ?_⟩
                · have hj : (jumpOf e).isNone = decide (e = .normal) := by cases e <;> simp_all [jumpOf]
                  refine hst'.sim.setBlk (o := .loop { c3 with state := if (jumpOf e).isNone then .ready else .done, pending := jumpOf e }) hl3 hy rfl rfl ⟨rfl, rfl⟩ ⟨_, rfl, ?_, rfl, hc6.size, hc6.tmps, hc6.params, hc6.assign, hc6.body⟩
                  simp only [hj]
                  by_cases h : e = .normal <;> simp [h]
                · have hj : (jumpOf e).isNone = decide (e = .normal) := by cases e <;> simp_all [jumpOf]
                  rw [hj]; exact .bool _
              | _ => exact absurd rfl hb
          refine restNone (ro := some l.b) <| sound_den (x := ⟨[], [], some i, some l.b⟩) hC hL rf.body _ none _ r2 _ L1 _ _ _ _ hb2 (fun _ _ => nofun) ⟨?_, ?_, ?_, ?_, ?_⟩ hst2 hm2
          · rintro L' τ' H' a' w' hst' hk
            exact hend .normal _ L' τ' H' a' w' (by simp) hk.symm hst'
          · rintro id L' τ' H' a' w' hst' hk
            exact hend (.exit id) _ L' τ' H' a' w' (by simp) hk.symm hst'
          · rintro t L' τ' H' a' w' hst' hk
            exact hend (.goto t) _ L' τ' H' a' w' (by simp) hk.symm hst'
          · rintro L' τ' H' a' w' hst' hk
            exact hend .ret _ L' τ' H' a' w' (by simp) hk.symm hst'
          · rintro L' v v' H' a' w' h1 h0 h2 h3 h4 rfl
            exact absurd rfl hb
        · rintro id L' τ' H' a' w' hst' rfl
          exact absurd rfl hb
        · rintro id L' τ' H' a' w' hst' rfl
          exact absurd rfl hb
        · rintro L' τ' H' a' w' hst' rfl
          exact absurd rfl hb
        · rintro L' v v' H' a' w' h1 h0 h2 h3 h4 rfl
          exact absurd rfl hb
      · rw [if_neg hlen] at hb; exact absurd rfl hb
    | _ => exact absurd rfl hb

theorem loopN_ok (n : Nat) : LpOK (fun b => loopN b n) := fun _ _ _ _ => ⟨n, rfl⟩

/-- What is given for a function instead of its text. -/
def OvOK (E : Env) : Prop := ∀ (f : FuncId) (g : List Value → M Value), E.ov f = some g → ∀ (args : List Value) (H : Heap), g args H ≠ .bad → ∀ (L : Lays) (w : World) (args' : List Value), Sim E.P L H w → TRs L args args' → Glob E.gn L →
    CallsIn Fence.wide 0 E.P f args'.toArray w (CallR E.P L (g args H))

/-- Calls to a depth. -/
theorem sound_callN (hov : OvOK E) (keep : FuncId → Ex → List Nat) (ann : FuncId → An) : ∀ n, OK E (callN E keep ann n)
  | 0 => ⟨fun _ _ _ h => absurd rfl h, fun _ _ _ h => absurd rfl h⟩
  | n + 1 => ⟨fun f args H hb L w args' hs ha hg => by
      simp only [callN] at hb ⊢
      cases ho : E.ov f with
      | none => simp only [ho] at hb ⊢; exact sound_call (sound_callN hov keep ann n) (loopN_ok n) keep ann f args H hb L w args' hs ha hg
      | some g => simp only [ho] at hb ⊢; exact hov f g ho args H hb L w args' hs ha hg,
    fun i args H hb L w args' l c hs ha hg hl hc => by
      simp only [callN] at hb ⊢
      exact sound_round (sound_callN hov keep ann n) (loopN_ok n) i args H hb L w args' l c hs ha hg hl hc⟩
end
end Go.Wel
