/- What is reckoned is what the model does: operations. -/
import Derived.Test.YtajdleoobkfckaaGreatDoorWelDen
import Derived.RangeFuncRecord
set_option linter.unusedSimpArgs false
set_option linter.unusedVariables false
namespace Go.Wel
open Go

/-- The package-level variables lie where they lie. -/
def Glob (gn : Nat) (L : Lays) : Prop := ∀ g, g < gn → ∃ l, L[g]? = some l ∧ l.b = g

theorem Glob.mono {gn : Nat} {L L' : Lays} (h : Glob gn L) (hl : L.le L') : Glob gn L' := fun g hg => let ⟨l, h1, h2⟩ := h g hg; ⟨l, hl _ _ h1, h2⟩

/-- The slots. -/
structure Tm (n : Nat) (L : Lays) (τ : List Value) (a : Act) : Prop where
  size : a.tmps.size = n
  len : τ.length ≤ n
  rel : ∀ i, TR L (τ.getD i undef) (a.tmps.getD i undef)

theorem Tm.mono {n : Nat} {L L' : Lays} {τ : List Value} {a : Act} (h : Tm n L τ a) (hl : L.le L') : Tm n L' τ a := ⟨h.size, h.len, fun i => (h.rel i).mono hl⟩

theorem Tm.put {n : Nat} {L : Lays} {τ : List Value} {a : Act} (h : Tm n L τ a) (d : Option Tmp) {v v' : Value} (hv : TR L v v') : Tm n L (putS d v τ) (a.put d v') := by
  cases d with
  | none => exact h
  | some t =>
    have hsz : a.tmps.size = n := h.size
    have hln : τ.length ≤ n := h.len
    refine ⟨by simp only [Act.put, Array.size_setIfInBounds]; exact hsz, by simp only [putS, List.length_set]; exact hln, fun i => ?_⟩
    have h0 := h.rel i
    simp only [putS, Act.put, List.getD_eq_getElem?_getD, Array.getD_eq_getD_getElem?] at h0 ⊢
    by_cases hti : t = i
    · subst hti
      by_cases hl : t < τ.length
      · rw [List.getElem?_set_self hl, Array.getElem?_setIfInBounds_self_of_lt (hsz ▸ Nat.lt_of_lt_of_le hl hln)]
        exact hv
      · rw [List.getElem?_eq_none (by rw [List.length_set]; exact Nat.le_of_not_lt hl)]
        exact .inl rfl
    · rw [List.getElem?_set_ne hti, Array.getElem?_setIfInBounds_ne hti]
      exact h0

theorem Tm.defers {n : Nat} {L : Lays} {τ : List Value} {a : Act} (h : Tm n L τ a) (ds : List Deferred) : Tm n L τ { a with defers := ds } := ⟨h.size, h.len, h.rel⟩

theorem opnd_rel {E : Env} {n : Nat} {L : Lays} {τ : List Value} {a : Act} (h : Tm n L τ a) (hg : Glob E.gn L) (x : Operand) : TR L (opnd E τ x) (a.eval x) := by
  cases x with
  | tmp t => exact h.rel t
  | const v =>
    show TR L (if flat v = true then v else undef) v
    split
    · rename_i hf; exact .inr (flat_refl L hf)
    · exact .inl rfl
  | global g =>
    show TR L (if g < E.gn then .pointer (some ⟨g, 0, none⟩) else undef) (.pointer (some ⟨g, 0, none⟩))
    split
    · rename_i hlt
      obtain ⟨l, h1, h2⟩ := hg g hlt
      have : VR L (.pointer (some ⟨g, 0, none⟩)) (.pointer (some ⟨l.b, 0, none⟩)) := .ptr h1
      rw [h2] at this
      exact .inr this
    · exact .inl rfl
  | func f => exact .inr (.func (.same _ (by simp)) .nil .nil)

theorem opnds_rel {E : Env} {n : Nat} {L : Lays} {τ : List Value} {a : Act} (h : Tm n L τ a) (hg : Glob E.gn L) : ∀ (l : List Operand), TRs L (l.map (opnd E τ)) (l.map a.eval)
  | [] => .nil
  | x :: l => .cons (opnd_rel h hg x) (opnds_rel h hg l)

theorem pairs_rel {E : Env} {n : Nat} {L : Lays} {τ : List Value} {a : Act} (h : Tm n L τ a) (hg : Glob E.gn L) : ∀ (l : List (Nat × Operand)), PRs L (l.map fun (i, x) => (i, opnd E τ x)) (l.map fun (i, x) => (i, a.eval x))
  | [] => .nil
  | (i, x) :: l => .cons (opnd_rel h hg x) (pairs_rel h hg l)

theorem or_rel {E : Env} {n : Nat} {L : Lays} {τ : List Value} {a : Act} (h : Tm n L τ a) (hg : Glob E.gn L) (x : Option Operand) : OR L (x.map (opnd E τ)) (x.map a.eval) := by
  cases x with
  | none => exact .none
  | some x => exact .some (opnd_rel h hg x)

theorem TRs.vrs {L : Lays} {l l' : List Value} (h : TRs L l l') (hv : l.all isVal = true) : VRs L l l' := forall_vrs h hv
theorem TRs.append {L : Lays} {l l' m m' : List Value} (h : TRs L l l') (hm : TRs L m m') : TRs L (l ++ m) (l' ++ m') := by
  induction h with
  | nil => exact hm
  | cons h1 _ ih => exact .cons h1 ih
theorem VRs.trs {L : Lays} {l l' : List Value} (h : VRs L l l') : TRs L l l' := by
  induction l generalizing l' with
  | nil => cases h; exact .nil
  | cons v l ih => cases h with | cons h1 h2 => exact .cons (.inr h1) (ih h2)
theorem TRs.mono {L L' : Lays} (hl : L.le L') {l l' : List Value} (h : TRs L l l') : TRs L' l l' := by
  induction h with
  | nil => exact .nil
  | cons h1 _ ih => exact .cons (h1.mono hl) ih
theorem TRs.length {L : Lays} {l l' : List Value} (h : TRs L l l') : l.length = l'.length := by
  induction h with
  | nil => rfl
  | cons _ _ ih => simp [ih]
theorem TRs.get {L : Lays} {l l' : List Value} (h : TRs L l l') (i : Nat) : TR L (l.getD i undef) (l'.getD i undef) := by
  induction h generalizing i with
  | nil => exact .inl rfl
  | cons h1 _ ih =>
    cases i with
    | zero => exact h1
    | succ i => simpa using ih i

/-- What a call comes to. -/
def CallR (P : Program) (L : Lays) (o : Out Value) (e : Ending) (w' : World) : Prop := match o with
  | .ret v H' => ∃ L' v', e = .returned v' ∧ L.le L' ∧ Sim P L' H' w' ∧ VR L' v v'
  | .pan v H' => ∃ L' v', e = .panicked [{ v := v', recovered := false }] ∧ L.le L' ∧ Sim P L' H' w' ∧ VR L' v v'
  | .bad => False

/-- The calls that are reckoned are the model's; so are the rounds. -/
structure OK (E : Env) (C : Calls') : Prop where
  call : ∀ (f : FuncId) (args : List Value) (H : Heap), C (.call f args) H ≠ .bad → ∀ (L : Lays) (w : World) (args' : List Value), Sim E.P L H w → TRs L args args' → Glob E.gn L →
    CallsIn Fence.wide 0 E.P f args'.toArray w (CallR E.P L (C (.call f args) H))
  round : ∀ (i : Nat) (args : List Value) (H : Heap), C (.round i args) H ≠ .bad → ∀ (L : Lays) (w : World) (args' : List Value) (l : Lay) (c : Loop), Sim E.P L H w → TRs L args args' → Glob E.gn L → L[i]? = some l → w.heap[l.b]? = some (.loop c) →
    RoundIn Fence.wide 0 E.P l.b c.fn ((c.params.zip args'.toArray).foldl (fun tmps (t, a) => tmps.setIfInBounds t a) c.tmps) c.assign c.body w (CallR E.P L (C (.round i args) H))

/-- The wide fence, of an activation or of a round. -/
def FW (ro : Option Nat) : Fence := { Fence.wide with round := ro }
theorem FW_none : FW none = Fence.wide := rfl
theorem callsIn_FW {ro : Option Nat} {n : Nat} {P : Program} {f : FuncId} {args : Array Value} {w : World} {R : Ending → World → Prop} : CallsIn (FW ro) n P f args w R ↔ CallsIn Fence.wide n P f args w R := Iff.rfl
theorem roundIn_FW {ro : Option Nat} {n : Nat} {P : Program} {l : Nat} {f : FuncId} {tmps : Array Value} {assign body : Code} {w : World} {R : Ending → World → Prop} : RoundIn (FW ro) n P l f tmps assign body w R ↔ RoundIn Fence.wide n P l f tmps assign body w R := Iff.rfl

section
variable {E : Env} {C : Calls'} {F : Fence} {n : Nat} {L : Lays} {H : Heap} {w : World} {τ : List Value} {a : Act} {Q : Exit → Act → World → Prop} {next : Act → World → Prop}

/-- Behind an operation that is reckoned. -/
def Behind {β : Type} (P : Program) (L : Lays) (n : Nat) (a : Act) (d : Option Tmp) (k : Value → M β) (o : Out β) (next : Act → World → Prop) (Q : Exit → Act → World → Prop) : Prop :=
  (∀ (L' : Lays) (v v' : Value) (H' : Heap) (w' : World), L.le L' → Sim P L' H' w' → TR L' v v' → k v H' = o → next (a.put d v') w') ∧
  (∀ (L' : Lays) (v v' : Value) (H' : Heap) (w' : World), L.le L' → Sim P L' H' w' → VR L' v v' → o = .pan v H' → Q (.panic [{ v := v', recovered := false }]) a w')

theorem upon_value {o : Oper} {s : Sem Value} {m : M Value} {β : Type} {k : Value → M β} {r : Out β} (hs : Snd E.P L w s (m H)) (he : ∀ w, (execOp a.eval o).run E.P w = (s.run E.P w).andThen fun v w' => .ok (.value v) w')
    (hk : (m.bind k) H = r) (hb : r ≠ .bad) (hB : Behind E.P L n a o.dst k r next Q) : o.uponIn F 0 E.P a next Q ((execOp a.eval o).run E.P w) := by
  rw [he w]
  unfold M.bind at hk
  cases hm : m H with
  | ret v H' =>
    rw [hm] at hk hs
    obtain ⟨L', v', w', h1, h2, h3, h4⟩ := hs
    rw [h1]
    exact hB.1 L' v v' H' w' h2 h3 (.inr h4) hk
  | pan v H' =>
    rw [hm] at hk hs
    obtain ⟨L', v', w', h1, h2, h3, h4⟩ := hs
    rw [h1]
    exact hB.2 L' v v' H' w' h2 h3 h4 hk.symm
  | bad => rw [hm] at hk; exact absurd hk.symm hb

theorem upon_unit {o : Oper} {s : Sem Unit} {m : M Value} {β : Type} {k : Value → M β} {r : Out β} (hs : SndU E.P L w s (m H)) (he : ∀ w, (execOp a.eval o).run E.P w = (s.run E.P w).andThen fun _ w' => .ok .skip w')
    (hk : (m.bind fun _ => k undef) H = r) (hb : r ≠ .bad) (hB : Behind E.P L n a o.dst k r next Q) : o.uponIn F 0 E.P a next Q ((execOp a.eval o).run E.P w) := by
  rw [he w]
  unfold M.bind at hk
  cases hm : m H with
  | ret v H' =>
    rw [hm] at hk hs
    obtain ⟨L', w', h1, h2, h3⟩ := hs
    rw [h1]
    exact hB.1 L' undef undef H' w' h2 h3 (.inl rfl) hk
  | pan v H' =>
    rw [hm] at hk hs
    obtain ⟨L', v', w', h1, h2, h3, h4⟩ := hs
    rw [h1]
    exact hB.2 L' v v' H' w' h2 h3 h4 hk.symm
  | bad => rw [hm] at hk; exact absurd hk.symm hb

theorem run_v {P : Program} (s : Sem Value) (w : World) : ((do pure (Next.value (← s))) : Sem Next).run P w = (s.run P w).andThen fun v w' => .ok (.value v) w' := by
  simp
theorem run_u {P : Program} (s : Sem Unit) (w : World) : ((do s; pure Next.skip) : Sem Next).run P w = (s.run P w).andThen fun _ w' => .ok .skip w' := by
  simp

/-- A call, behind what is reckoned of it. -/
theorem upon_call {o : Oper} {f : FuncId} {args' : List Value} {c : Out Value} {β : Type} {k : Value → M β} {r : Out β}
    (he : (execOp a.eval o).run E.P w = .ok (.enter f args'.toArray) w) (hF : F.depth = none)
    (hk : (M.bind (fun _ => c) k) H = r) (hc : CallsIn F 0 E.P f args'.toArray w (CallR E.P L c)) (hb : r ≠ .bad)
    (hB : Behind E.P L n a o.dst k r next Q) : o.uponIn F 0 E.P a next Q ((execOp a.eval o).run E.P w) := by
  rw [he]
  refine ⟨fun h => by simp [hF] at h, ?_⟩
  refine CallsIn.mono hc fun e w' hr => ?_
  cases c with
  | ret v H' =>
    obtain ⟨L', v', rfl, h2, h3, h4⟩ := hr
    exact hB.1 L' v v' H' w' h2 h3 (.inr h4) hk
  | pan v H' =>
    obtain ⟨L', v', rfl, h2, h3, h4⟩ := hr
    exact hB.2 L' v v' H' w' h2 h3 h4 hk.symm
  | bad => exact hr.elim

theorem upon_round {o : Oper} {l : Nat} {f : FuncId} {tmps : Array Value} {assign body : Code} {c : Out Value} {β : Type} {k : Value → M β} {r : Out β}
    (he : (execOp a.eval o).run E.P w = .ok (.round l f tmps assign body) w) (hF : F.depth = none)
    (hk : (M.bind (fun _ => c) k) H = r) (hc : RoundIn F 0 E.P l f tmps assign body w (CallR E.P L c)) (hb : r ≠ .bad)
    (hB : Behind E.P L n a o.dst k r next Q) : o.uponIn F 0 E.P a next Q ((execOp a.eval o).run E.P w) := by
  rw [he]
  refine ⟨fun h => by simp [hF] at h, ?_⟩
  refine RoundIn.mono hc fun e w' hr => ?_
  cases c with
  | ret v H' =>
    obtain ⟨L', v', rfl, h2, h3, h4⟩ := hr
    exact hB.1 L' v v' H' w' h2 h3 (.inr h4) hk
  | pan v H' =>
    obtain ⟨L', v', rfl, h2, h3, h4⟩ := hr
    exact hB.2 L' v v' H' w' h2 h3 h4 hk.symm
  | bad => exact hr.elim

theorem run_builtin {P : Program} {o : Oper} {ρ : Operand → Value} {c : Call} {b : Builtin} (hop : o.op = .call c) (hc : c.callee = .builtin b) :
    ∃ cs, ∀ w, (execOp ρ o).run P w = (builtin b c.argTypes o.type cs (c.args.map ρ)).run P w :=
  ⟨_, fun w => by simp only [execOp, hop, resolve, hc, invoke, Sem.run_bind, Sem.run_pure, Result.andThen_ok]; rfl⟩

/-- An operation is what is reckoned of it. -/
theorem sound_op (hC : OK E C) (ht : Tm n L τ a) (hg : Glob E.gn L) (hs : Sim E.P L H w) (o : Oper) {β : Type} {k : Value → M β} {r : Out β} (hk : opM E C o τ k H = r) (hb : r ≠ .bad)
    (hB : Behind E.P L n a o.dst k r next Q) {ro : Option Nat} : (∀ c, o.op ≠ .defer c) ∧ o.uponIn (FW ro) 0 E.P a next Q ((execOp a.eval o).run E.P w) := by
  have hO : ∀ x, TR L (opnd E τ x) (a.eval x) := opnd_rel ht hg
  have hOs : ∀ l : Array Operand, TRs L (opnds E τ l) (l.map a.eval).toList := fun l => by rw [Array.toList_map]; exact opnds_rel ht hg l.toList
  have hP : ∀ l : Array (Nat × Operand), PRs L (l.toList.map fun (i, x) => (i, opnd E τ x)) (l.map fun (i, x) => (i, a.eval x)).toList := fun l => by rw [Array.toList_map]; exact pairs_rel ht hg l.toList
  have hR : ∀ x : Option Operand, OR L (x.map (opnd E τ)) (x.map a.eval) := or_rel ht hg
  cases hop : o.op with
  | move x =>
    simp only [opM, hop] at hk
    exact ⟨nofun, by simp only [execOp, hop, Sem.run_pure, Oper.uponIn]; exact hB.1 L _ _ H w (Lays.le_refl L) hs (hO x) hk⟩
  | assign x =>
    simp only [opM, hop] at hk
    exact ⟨nofun, by simp only [execOp, hop, Sem.run_pure, Oper.uponIn]; exact hB.1 L _ _ H w (Lays.le_refl L) hs (hO x) hk⟩
  | pick c x y =>
    simp only [opM, hop] at hk
    refine ⟨nofun, ?_⟩
    unfold M.bind pickM at hk
    cases hc : opnd E τ c with
    | bool t =>
      rw [hc] at hk
      have h := hO c
      rw [hc] at h
      have := h.bool
      simp only [execOp, hop, this, asBool, Sem.run_bind, Sem.run_pure, Result.andThen_ok, Oper.uponIn]
      refine hB.1 L (if t then opnd E τ x else opnd E τ y) _ H w (Lays.le_refl L) hs ?_ hk
      cases t <;> simp <;> exact hO _
    | _ => rw [hc] at hk; exact absurd hk.symm hb
  | alloc e =>
    simp only [opM, hop] at hk
    exact ⟨nofun, upon_value (sound_alloc hs e) (fun w => by simp [execOp, hop]) hk hb hB⟩
  | box e x =>
    simp only [opM, hop] at hk
    refine ⟨nofun, ?_⟩
    by_cases hx : opnd E τ x = undef
    · rw [hx] at hk; exact absurd hk.symm (by simpa [M.bind, aBox, undef] using hb)
    · exact upon_value (sound_box hs e (hO x)) (fun w => by simp [execOp, hop]) hk hb hB
  | build t ps =>
    simp only [opM, hop] at hk
    exact ⟨nofun, upon_value (s := Instr.build t (ps.map fun (i, x) => (i, a.eval x))) (by have := sound_build hs (hP ps) t; rw [Array.toArray_toList] at this; exact this) (fun w => by simp only [execOp, hop]; exact run_v _ w) hk hb hB⟩
  | buildSlice t n' ps =>
    simp only [opM, hop] at hk
    exact ⟨nofun, upon_value (s := Instr.buildSlice t n' (ps.map fun (i, x) => (i, a.eval x))) (by have := sound_buildSlice hs (hP ps) t n'; rw [Array.toArray_toList] at this; exact this) (fun w => by simp only [execOp, hop]; exact run_v _ w) hk hb hB⟩
  | load t x =>
    simp only [opM, hop] at hk
    exact ⟨nofun, upon_value (sound_load hs (hO x) t) (fun w => by simp [execOp, hop]) hk hb hB⟩
  | store t x y =>
    simp only [opM, hop] at hk
    exact ⟨nofun, upon_unit (sound_store hs (hO x) (hO y) t) (fun w => by simp [execOp, hop]) hk hb hB⟩
  | nilCheck x =>
    simp only [opM, hop] at hk
    refine ⟨nofun, ?_⟩
    have h := sound_nil hs (hO x) o a.eval x hop rfl
    unfold M.bind at hk
    cases hm : aNil (opnd E τ x) H with
    | ret v H' =>
      rw [hm] at hk h
      obtain ⟨v', h1, rfl, h3⟩ := h
      rw [h1]
      exact hB.1 L v v' _ w (Lays.le_refl L) hs (.inr h3) hk
    | pan v H' => rw [hm] at h; exact h.elim
    | bad => rw [hm] at hk; exact absurd hk.symm hb
  | binOp op t x y c =>
    simp only [opM, hop] at hk
    exact ⟨nofun, upon_value (sound_bin hs (hO x) (hO y) op t x y) (fun w => by simp only [execOp, hop]; exact run_v _ w) hk hb hB⟩
  | unOp op t x =>
    simp only [opM, hop] at hk
    exact ⟨nofun, upon_value (sound_un hs (hO x) op) (fun w => by simp [execOp, hop]) hk hb hB⟩
  | convert s d x =>
    simp only [opM, hop] at hk
    exact ⟨nofun, upon_value (sound_conv hs (hO x) s d) (fun w => by simp [execOp, hop]) hk hb hB⟩
  | makeInterface t x =>
    simp only [opM, hop] at hk
    exact ⟨nofun, upon_value (sound_mkIface hs (hO x) t) (fun w => by simp [execOp, hop]) hk hb hB⟩
  | makeFunc fn x y =>
    simp only [opM, hop] at hk
    exact ⟨nofun, upon_value (s := Instr.makeFunc fn (x.map a.eval) (y.map a.eval)) (by have := sound_mkFunc hs (hOs x) (hOs y) fn; rw [Array.toArray_toList, Array.toArray_toList] at this; exact this) (fun w => by simp [execOp, hop]) hk hb hB⟩
  | makeMap t x =>
    simp only [opM, hop] at hk
    exact ⟨nofun, upon_value (sound_makeMap hs (hR x) t) (fun w => by simp [execOp, hop]) hk hb hB⟩
  | makeSlice t x y =>
    simp only [opM, hop] at hk
    exact ⟨nofun, upon_value (sound_makeSlice hs (hO x) (hO y) t) (fun w => by simp [execOp, hop]) hk hb hB⟩
  | slice t x lo hi mx =>
    simp only [opM, hop] at hk
    exact ⟨nofun, upon_value (sound_slice hs (hO x) (hR lo) (hR hi) (hR mx) t) (fun w => by simp [execOp, hop]) hk hb hB⟩
  | fieldAddr t x f =>
    simp only [opM, hop] at hk
    exact ⟨nofun, upon_value (sound_fieldAddr hs (hO x) t f) (fun w => by simp [execOp, hop]) hk hb hB⟩
  | field t x f =>
    simp only [opM, hop] at hk
    exact ⟨nofun, upon_value (sound_field hs (hO x) t f) (fun w => by simp [execOp, hop]) hk hb hB⟩
  | indexAddr t x i =>
    simp only [opM, hop] at hk
    exact ⟨nofun, upon_value (sound_indexAddr hs (hO x) (hO i) t) (fun w => by simp [execOp, hop]) hk hb hB⟩
  | index t x i =>
    simp only [opM, hop] at hk
    exact ⟨nofun, upon_value (sound_index hs (hO x) (hO i) t) (fun w => by simp [execOp, hop]) hk hb hB⟩
  | lookup t x i ok =>
    simp only [opM, hop] at hk
    exact ⟨nofun, upon_value (sound_lookup hs (hO x) (hO i) t ok) (fun w => by simp [execOp, hop]) hk hb hB⟩
  | mapUpdate t m x v =>
    simp only [opM, hop] at hk
    exact ⟨nofun, upon_unit (sound_mapUpdate hs (hO m) (hO x) (hO v) t) (fun w => by simp [execOp, hop]) hk hb hB⟩
  | insert t m x v =>
    simp only [opM, hop] at hk
    exact ⟨nofun, upon_unit (sound_mapUpdate hs (hO m) (hO x) (hO v) t) (fun w => by simp [execOp, hop]) hk hb hB⟩
  | range t x =>
    simp only [opM, hop] at hk
    exact ⟨nofun, upon_value (sound_range hs (hO x) t) (fun w => by simp [execOp, hop]) hk hb hB⟩
  | next it b =>
    simp only [opM, hop] at hk
    exact ⟨nofun, upon_value (sound_next hs (hO it) b o.type) (fun w => by simp [execOp, hop]) hk hb hB⟩
  | typeAssert x xt d ok =>
    simp only [opM, hop] at hk
    exact ⟨nofun, upon_value (sound_assert hs (hO x) xt d ok) (fun w => by simp [execOp, hop]) hk hb hB⟩
  | extract x i =>
    simp only [opM, hop] at hk
    exact ⟨nofun, upon_value (sound_extract hs (hO x) i) (fun w => by simp [execOp, hop]) hk hb hB⟩
  | panic x =>
    simp only [opM, hop] at hk
    exact ⟨nofun, upon_value (sound_panic hs (hO x)) (fun w => by simp [execOp, hop]) hk hb hB⟩
  | call c =>
    simp only [opM, hop] at hk
    refine ⟨nofun, ?_⟩
    cases hc : c.callee with
    | value f =>
      simp only [hc, M.bind] at hk
      have hF := hO f
      have hA := hOs c.args
      generalize hfv : opnd E τ f = fv at hk hF
      generalize hav : opnds E τ c.args = av at hk hA
      unfold aInvoke at hk
      cases fv with
      | func g first capt =>
        cases g with
        | func g =>
          simp only at hk
          have hv := hF.vr (by simp [undef])
          obtain ⟨fn', a', c', he, hf, h1, h2⟩ := hv.func_inv
          cases hf with
          | same g _ =>
            cases hfn : E.P.funcs[g]? with
            | none => rw [hfn] at hk; exact absurd hk.symm hb
            | some fn =>
              simp only [hfn] at hk
              by_cases hbody : fn.body.isSome = true ∧ (fn.name == "runtime.NumGoroutine") = false
              · rw [if_pos hbody] at hk
                have hcb : C (.call g (first.toList ++ av ++ capt.toList)) H ≠ .bad := by
                  intro h0; rw [h0] at hk; exact hb hk.symm
                refine upon_call (H := H) (f := g) (args' := a'.toList ++ (c.args.map a.eval).toList ++ c'.toList) (c := C (.call g (first.toList ++ av ++ capt.toList)) H) (k := k) (r := r) ?_ rfl hk ?_ hb hB
                · have hb1 : fn.body.isNone = false := by cases hx : fn.body <;> simp_all
                  have harr : (a'.toList ++ (c.args.map a.eval).toList ++ c'.toList).toArray = a' ++ c.args.map a.eval ++ c' := by apply Array.ext'; simp
                  rw [harr]
                  have hn1 : ¬ fn.name = "runtime.NumGoroutine" := by simpa using hbody.2
                  have hn2 : ¬ fn.body = none := fun h => by simp [h] at hb1
                  simp [execOp, hop, resolve, hc, he, Deferred.ofValue, invoke, callFunc, hfn, hn1, hn2]
                · exact callsIn_FW.2 (hC.call g _ H hcb L w _ hs ((h1.trs.append hA).append h2.trs) hg)
              · rw [if_neg hbody] at hk; exact absurd hk.symm hb
        | yield i =>
          simp only at hk
          have hv := hF.vr (by simp [undef])
          obtain ⟨fn', a', c', he, hf, h1, h2⟩ := hv.func_inv
          cases hf with
          | same _ hn => exact absurd rfl (hn _)
          | yield hi =>
            rename_i l
            by_cases hfs : first.size = 0
            · rw [if_pos hfs] at hk
              cases hH : H[i]? with
              | none => rw [hH] at hk; exact absurd hk.symm hb
              | some blk =>
                rw [hH] at hk
                cases blk with
                | loop st pd nn τ₀ rf =>
                  simp only at hk
                  by_cases hlen : av.length = rf.ps.size
                  · rw [if_pos hlen] at hk
                    have hcb : C (.round i av) H ≠ .bad := by
                      intro h0; rw [h0] at hk; exact hb hk.symm
                    obtain ⟨c₀, hc1, hc2⟩ := hs.blk i l _ hi hH
                    have ha0 : a' = #[] := by
                      have := h1.length
                      apply Array.ext'
                      cases ha : a'.toList with
                      | nil => rfl
                      | cons _ _ => rw [ha] at this; simp [hfs] at this
                    have hAl : (c.args.map a.eval).size = c₀.params.size := by
                      have := hA.length
                      rw [hc2.params, ← hlen, this]; simp
                    refine upon_round (H := H) (l := l.b) (f := c₀.fn) (tmps := ((c₀.params.zip (c.args.map a.eval).toList.toArray).foldl (fun tmps (t, a) => tmps.setIfInBounds t a) c₀.tmps)) (assign := c₀.assign) (body := c₀.body) (c := C (.round i av) H) (k := k) (r := r) ?_ rfl hk (roundIn_FW.2 ?_) hb hB
                    · rw [Array.toArray_toList]
                      have hy := run_yield (P := E.P) (w := w) (args := c.args.map a.eval) hc1 hAl
                      have he0 : (execOp a.eval o) = (do let d ← resolve a.eval c o.type; invoke d.target d.args) := by simp only [execOp, hop]
                      rw [he0]
                      simp only [resolve, hc, he, Deferred.ofValue, ha0, Array.empty_append, Sem.run_bind, Sem.run_pure, Result.andThen_ok, invoke]
                      exact hy
                    · exact hC.round i av H hcb L w _ l c₀ hs hA hg hi hc1
                  · rw [if_neg hlen] at hk; exact absurd hk.symm hb
                | _ => exact absurd hk.symm hb
            · rw [if_neg hfs] at hk; exact absurd hk.symm hb
        | _ => exact absurd hk.symm hb
      | _ => exact absurd hk.symm hb
    | builtin b =>
      simp only [hc] at hk
      have hA := hOs c.args
      generalize hav : opnds E τ c.args = av at hk hA
      generalize hav' : c.args.map a.eval = av' at hA
      obtain ⟨cs, hrun⟩ := run_builtin (P := E.P) (ρ := a.eval) hop hc
      rw [hav'] at hrun
      have hat : ∀ (x : TypeId) (y : TypeId), c.argTypes.toList = [x, y] → c.argTypes = #[x, y] := fun x y h => by apply Array.ext'; rw [h]
      have hat1 : ∀ (x : TypeId), c.argTypes.toList = [x] → c.argTypes = #[x] := fun x h => by apply Array.ext'; rw [h]
      have h2 : ∀ x y, av = [x, y] → ∃ x' y', av' = #[x', y'] ∧ TR L x x' ∧ TR L y y' := by
        rintro x y rfl
        cases hA' : av'.toList with
        | nil => rw [hA'] at hA; cases hA
        | cons x' l =>
          rw [hA'] at hA
          cases hA with
          | cons h1 ht =>
            cases ht with
            | cons h2 ht2 => cases ht2; exact ⟨_, _, by apply Array.ext'; rw [hA'], h1, h2⟩
      have h1 : ∀ x, av = [x] → ∃ x', av' = #[x'] ∧ TR L x x' := by
        rintro x rfl
        cases hA' : av'.toList with
        | nil => rw [hA'] at hA; cases hA
        | cons x' l =>
          rw [hA'] at hA
          cases hA with
          | cons h1 ht => cases ht; exact ⟨_, by apply Array.ext'; rw [hA'], h1⟩
      have claim : aBuiltin E b c.argTypes o.type av H = .bad ∨ ∃ s : Sem Value, (∀ w, (builtin b c.argTypes o.type cs av').run E.P w = (s.run E.P w).andThen fun v w' => .ok (.value v) w') ∧ Snd E.P L w s (aBuiltin E b c.argTypes o.type av H) := by
        unfold aBuiltin
        split
        · rename_i st xt x y hts
          obtain ⟨x', y', rfl, hx, hy⟩ := h2 _ _ rfl
          rw [hat _ _ hts]
          split
          · rename_i hty; rw [hty]; exact .inr ⟨_, fun w => by simp only [builtin]; exact run_v _ w, sound_append hs hx hy st xt⟩
          · exact .inl rfl
        · rename_i t u x y hts
          obtain ⟨x', y', rfl, hx, hy⟩ := h2 _ _ rfl
          rw [hat _ _ hts]
          exact .inr ⟨_, fun w => by simp only [builtin]; exact run_v _ w, sound_copy hs hx hy t u o.type⟩
        · rename_i t x hts
          obtain ⟨x', rfl, hx⟩ := h1 _ rfl
          rw [hat1 _ hts]
          exact .inr ⟨_, fun w => by simp only [builtin]; exact run_v _ w, sound_clear hs hx t o.type⟩
        · rename_i t u x y hts
          obtain ⟨x', y', rfl, hx, hy⟩ := h2 _ _ rfl
          rw [hat _ _ hts]
          exact .inr ⟨_, fun w => by simp only [builtin]; exact run_v _ w, sound_delete hs hx hy t u o.type⟩
        · rename_i t x hts
          obtain ⟨x', rfl, hx⟩ := h1 _ rfl
          rw [hat1 _ hts]
          exact .inr ⟨_, fun w => by simp only [builtin]; exact run_v _ w, sound_len hs hx t o.type⟩
        · refine .inr ⟨Builtin.max_ c.argTypes o.type av', fun w => by simp only [builtin]; exact run_v _ w, ?_⟩
          have := sound_max (ty := o.type) (at_ := c.argTypes) hs hA; rwa [Array.toArray_toList] at this
        · refine .inr ⟨Builtin.min_ c.argTypes o.type av', fun w => by simp only [builtin]; exact run_v _ w, ?_⟩
          have := sound_min (ty := o.type) (at_ := c.argTypes) hs hA; rwa [Array.toArray_toList] at this
        · exact .inl rfl
      obtain h | ⟨s, hs1, hs2⟩ := claim
      · simp only [M.bind, h] at hk; exact absurd hk.symm hb
      · exact upon_value hs2 (fun w => by rw [hrun, hs1]) hk hb hB
    | invoke x y => simp only [hc] at hk; exact absurd hk.symm hb
  | _ => 
    simp only [opM, hop] at hk
    exact absurd hk.symm hb
end
end Go.Wel
