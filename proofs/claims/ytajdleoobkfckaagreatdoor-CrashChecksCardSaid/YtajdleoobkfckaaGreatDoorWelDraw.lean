/- Regions that draw an order: whatever order is drawn, it comes to what is reckoned. -/
import Derived.Test.YtajdleoobkfckaaGreatDoorWelSound2
import Derived.OrdersIn
set_option linter.unusedSimpArgs false
set_option linter.unusedVariables false
namespace Go.Wel
open Go

section
variable {E : Env} {C : Calls'}

def val (o : Out Value) : Option Value := match o with
  | .ret v _ => some v
  | _ => none

/-- It has nothing to do with the memory. -/
def Free (m : M Value) : Prop := ∀ H, m H = M.ofOption (val (m [])) H

theorem Free.still {m : M Value} (h : Free m) {H H' : Heap} {x : Value} (hm : m.bind M.pure H = .ret x H') : H' = H ∧ ∀ H2, m.bind M.pure H2 = .ret x H2 := by
  unfold M.bind at hm ⊢
  rw [h H] at hm
  cases hv : val (m []) with
  | none => rw [hv] at hm; cases hm
  | some v =>
    rw [hv] at hm
    simp only [M.ofOption, M.pure, Out.ret.injEq] at hm
    obtain ⟨rfl, rfl⟩ := hm
    refine ⟨rfl, fun H2 => ?_⟩
    rw [h H2, hv]; rfl

theorem Free.ofOption (o : Option Value) : Free (M.ofOption o) := fun H => by cases o <;> rfl
theorem free_pick (c a b : Value) : Free (pickM c a b) := fun H => by unfold pickM; split <;> rfl
theorem free_nil (x : Value) : Free (aNil x) := fun H => by unfold aNil; split <;> rfl
theorem free_un (op : UnOp) (x : Value) : Free (aUn op x) := fun H => by
  unfold aUn
  split <;> try rfl
theorem free_extract (x : Value) (i : Nat) : Free (aExtract x i) := fun H => by
  unfold aExtract
  split <;> try rfl
  split <;> rfl
theorem free_mkIface (P : Program) (t : TypeId) (x : Value) : Free (aMkIface P t x) := fun H => by
  unfold aMkIface
  split <;> try rfl
  split <;> rfl
theorem free_mkFunc (fn : Fn) (x y : List Value) : Free (aMkFunc fn x y) := fun H => by
  unfold aMkFunc
  split <;> try rfl
  split <;> rfl
theorem free_addO (x : Value) (n : Nat) : Free (addO x n) := fun H => by unfold addO; split <;> rfl
theorem free_fieldAddr (P : Program) (t : TypeId) (x : Value) (f : Nat) : Free (aFieldAddr P t x f) := fun H => by
  unfold aFieldAddr
  split <;> try rfl
  split <;> try rfl
  split <;> try rfl
  exact free_addO _ _ H
theorem free_idxS (n : Nat) (x i : Value) : Free (idxS n x i) := fun H => by
  unfold idxS
  split <;> try rfl
  split <;> rfl
theorem free_idxA (l n : Nat) (x i : Value) : Free (idxA l n x i) := fun H => by
  unfold idxA
  split <;> try rfl
  split <;> rfl
theorem free_indexAddr (P : Program) (t : TypeId) (x i : Value) : Free (aIndexAddr P t x i) := fun H => by
  unfold aIndexAddr
  split <;> try rfl
  · split <;> try rfl
    exact free_idxS _ _ _ H
  · split <;> try rfl
    exact free_idxA _ _ _ _ H
theorem free_field (P : Program) (t : TypeId) (x : Value) (f : Nat) : Free (aField P t x f) := fun H => by
  unfold aField
  split <;> try rfl
  split <;> try rfl
  exact Free.ofOption _ H
theorem free_index (P : Program) (t : TypeId) (x i : Value) : Free (aIndex P t x i) := fun H => by
  unfold aIndex
  split <;> try rfl
  · split <;> try rfl
    exact Free.ofOption _ H
  · split <;> try rfl
    split <;> rfl
theorem free_build (P : Program) (t : TypeId) (ps : List (Nat × Value)) : Free (aBuild P t ps) := fun H => by
  unfold aBuild
  split <;> try rfl
  · split <;> try rfl
    split <;> try rfl
    split <;> rfl
  · split <;> try rfl
    split <;> rfl
theorem free_cutStr (x : Value) (lo hi : Option Value) : Free (cutStr x lo hi) := fun H => by
  unfold cutStr
  repeat' (split <;> try rfl)
theorem free_cutArr (k n : Nat) (x : Value) (lo hi mx : Option Value) : Free (cutArr k n x lo hi mx) := fun H => by
  unfold cutArr
  repeat' (split <;> try rfl)
theorem free_assert (P : Program) (x : Value) (d : TypeId) (ok : Bool) : Free (aAssert P x d ok) := fun H => by
  unfold aAssert
  repeat' (split <;> try rfl)
theorem free_minMax (b : Bool) (xs : List Value) : Free (aMinMax b xs) := fun H => by
  unfold aMinMax
  split <;> try rfl
  exact Free.ofOption _ H

/-- It leaves the memory as it is. -/
def Stay (m : M Value) : Prop := ∀ H v H', m H = .ret v H' → H' = H
theorem Free.stay {m : M Value} (h : Free m) : Stay m := fun H v H' hm => by
  rw [h H] at hm
  cases hv : val (m []) with
  | none => rw [hv] at hm; cases hm
  | some v => rw [hv] at hm; cases hm; rfl
theorem Stay.still {m : M Value} (h : Stay m) {H H' : Heap} {x : Value} (hm : m.bind M.pure H = .ret x H') : H' = H := by
  unfold M.bind at hm
  split at hm
  · rename_i v H1 h1
    have := h _ _ _ h1
    cases hm; exact this
  · cases hm
  · cases hm
theorem stay_cutS (P : Program) (n : Nat) (x : Value) (lo hi mx : Option Value) : Stay (cutS P n x lo hi mx) := fun H v H' h => by
  unfold cutS at h
  repeat' (split at h <;> try (cases h <;> rfl))
theorem stay_slice (P : Program) (t : TypeId) (x : Value) (lo hi mx : Option Value) : Stay (aSlice P t x lo hi mx) := fun H v H' h => by
  unfold aSlice at h
  split at h
  · split at h
    · exact (free_cutStr _ _ _).stay _ _ _ h
    · cases h
  · split at h
    · exact stay_cutS _ _ _ _ _ _ _ _ _ h
    · cases h
  · split at h
    · exact (free_cutArr _ _ _ _ _ _).stay _ _ _ h
    · cases h
  · cases h
theorem stay_load (P : Program) (t : TypeId) (x : Value) : Stay (aLoad P t x) := fun H v H' h => by
  unfold aLoad ldS ldG at h
  repeat' (split at h <;> try (cases h <;> rfl))
theorem stay_lookup (P : Program) (t : TypeId) (m k : Value) (ok : Bool) : Stay (aLookup P t m k ok) := fun H v H' h => by
  unfold aLookup at h
  repeat' (split at h <;> try (cases h <;> rfl))
theorem stay_ofOption (o : Option Value) : Stay (M.ofOption o) := (Free.ofOption o).stay
theorem stay_eqOut (op : BinOp) (o : Option Bool) : Stay (eqOut op o) := fun H v H' h => by
  unfold eqOut at h
  repeat' (split at h <;> try (cases h <;> rfl))
theorem stay_bin (P : Program) (op : BinOp) (t : TypeId) (xo yo : Operand) (x y : Value) : Stay (aBin P op t xo yo x y) := fun H v H' h => by
  unfold aBin at h
  split at h
  · split at h
    · exact stay_ofOption _ _ _ _ h
    · split at h
      · exact stay_ofOption _ _ _ _ h
      · cases h
  · exact stay_ofOption _ _ _ _ h
  · split at h
    · exact stay_eqOut _ _ _ _ _ h
    · cases h
  · split at h
    · exact stay_eqOut _ _ _ _ _ h
    · cases h
  · exact stay_eqOut _ _ _ _ _ h
theorem free_bin (P : Program) (op : BinOp) (t : TypeId) (xo yo : Operand) (x y : Value) (h1 : op ≠ .eql) (h2 : op ≠ .neq) : Free (aBin P op t xo yo x y) := fun H => by
  have key : ∀ o : Option Bool, eqOut op o H = .bad := fun o => by cases op <;> simp_all [eqOut] <;> cases o <;> rfl
  have key0 : ∀ o : Option Bool, eqOut op o [] = .bad := fun o => by cases op <;> simp_all [eqOut] <;> cases o <;> rfl
  unfold aBin
  simp only [key, key0]
  split
  · split
    · exact Free.ofOption _ H
    · split
      · exact Free.ofOption _ H
      · rfl
  · exact Free.ofOption _ H
  · split <;> rfl
  · split <;> rfl
  · rfl
theorem stay_conv (P : Program) (s d : TypeId) (x : Value) (hd : ∀ e, P.underlying d ≠ some (.slice e)) : Stay (aConv P s d x) := fun H v H' h => by
  unfold aConv at h
  repeat' (split at h <;> try (cases h <;> rfl))
  all_goals simp_all
theorem free_conv (P : Program) (s d : TypeId) (x : Value) (hd : ∀ e, P.underlying d ≠ some (.slice e)) (hs : ∀ e, P.underlying s ≠ some (.slice e)) : Free (aConv P s d x) := fun H => by
  unfold aConv
  repeat' (split <;> try rfl)
  all_goals simp_all
theorem stay_len (P : Program) (t : TypeId) (x : Value) : Stay (aLen P t x) := fun H v H' h => by
  unfold aLen at h
  repeat' (split at h <;> try (cases h <;> rfl))
theorem free_len (P : Program) (t : TypeId) (x : Value) (hm : ∀ k e, P.underlying t ≠ some (.map k e)) : Free (aLen P t x) := fun H => by
  unfold aLen
  repeat' (split <;> try rfl)
  all_goals simp_all

/-- What doesn't act leaves the memory as it is. -/
theorem eff_still {o : Oper} {τ : List Value} {H H' : Heap} {x : Value} (he : isEff E o = false) (h : opM E C o τ M.pure H = .ret x H') : H' = H := by
  cases hop : o.op <;> simp only [isEff, hop] at he <;> (try cases he) <;> simp only [opM, hop] at h
  case move => cases h; rfl
  case assign => cases h; rfl
  case pick => exact (free_pick _ _ _).stay.still h
  case build => exact (free_build _ _ _).stay.still h
  case load => exact (stay_load _ _ _).still h
  case nilCheck => exact (free_nil _).stay.still h
  case binOp => exact (stay_bin _ _ _ _ _ _ _).still h
  case unOp => exact (free_un _ _).stay.still h
  case convert s d x =>
    refine (stay_conv _ _ _ _ fun e hd => ?_).still h
    rw [hd] at he; cases he
  case makeInterface => exact (free_mkIface _ _ _).stay.still h
  case makeFunc => exact (free_mkFunc _ _ _).stay.still h
  case slice => exact (stay_slice _ _ _ _ _ _).still h
  case fieldAddr => exact (free_fieldAddr _ _ _ _).stay.still h
  case field => exact (free_field _ _ _ _).stay.still h
  case indexAddr => exact (free_indexAddr _ _ _ _).stay.still h
  case index => exact (free_index _ _ _ _).stay.still h
  case lookup => exact (stay_lookup _ _ _ _ _).still h
  case typeAssert => exact (free_assert _ _ _ _).stay.still h
  case extract => exact (free_extract _ _).stay.still h
  case call c =>
    cases hc : c.callee with
    | builtin b =>
      rw [hc] at he
      simp only [hc] at h
      cases b <;> simp only at he <;> (try cases he)
      all_goals
        refine Stay.still ?_ h
        intro H v H' h
        unfold aBuiltin at h
        split at h <;> first | (cases h; done) | skip
      all_goals first | exact stay_len _ _ _ _ _ _ h | exact (free_minMax _ _).stay _ _ _ h | simp_all
    | value _ => rw [hc] at he; cases he
    | invoke _ _ => rw [hc] at he; cases he

theorem read_still {o : Oper} {τ : List Value} {H : Heap} {x : Value} (he : isEff E o = false) (hr : isRead E o = false) (h : opM E C o τ M.pure H = .ret x H) (H2 : Heap) : opM E C o τ M.pure H2 = .ret x H2 := by
  cases hop : o.op <;> simp only [isEff, hop] at he <;> (try cases he) <;> simp only [isRead, hop] at hr <;> (try cases hr) <;> simp only [opM, hop] at h ⊢
  case move => cases h; rfl
  case assign => cases h; rfl
  case pick => exact ((free_pick _ _ _).still h).2 H2
  case build => exact ((free_build _ _ _).still h).2 H2
  case nilCheck => exact ((free_nil _).still h).2 H2
  case binOp => exact ((free_bin _ _ _ _ _ _ _ (by rintro rfl; cases hr) (by rintro rfl; cases hr)).still h).2 H2
  case unOp => exact ((free_un _ _).still h).2 H2
  case convert s d x => exact ((free_conv _ _ _ _ (fun e hd => by rw [hd] at he; cases he) (fun e hd => by rw [hd] at hr; cases hr)).still h).2 H2
  case makeInterface => exact ((free_mkIface _ _ _).still h).2 H2
  case makeFunc => exact ((free_mkFunc _ _ _).still h).2 H2
  case fieldAddr => exact ((free_fieldAddr _ _ _ _).still h).2 H2
  case field => exact ((free_field _ _ _ _).still h).2 H2
  case indexAddr => exact ((free_indexAddr _ _ _ _).still h).2 H2
  case index => exact ((free_index _ _ _ _).still h).2 H2
  case typeAssert => exact ((free_assert _ _ _ _).still h).2 H2
  case extract => exact ((free_extract _ _).still h).2 H2
  case call c =>
    cases hc : c.callee with
    | builtin b =>
      rw [hc] at he hr
      simp only [hc] at h ⊢
      have key : Free (aBuiltin E b c.argTypes o.type (opnds E τ c.args)) := by
        intro H
        cases b <;> simp only at he hr <;> (try cases he)
        case len =>
          unfold aBuiltin
          cases hts : c.argTypes.toList with
          | nil => rfl
          | cons t l =>
            cases l with
            | cons _ _ => rw [hts] at hr; cases hr
            | nil =>
              cases hav : opnds E τ c.args with
              | nil => rfl
              | cons v l =>
                cases l with
                | cons _ _ => rfl
                | nil =>
                  rw [hts] at hr
                  exact free_len _ _ _ (fun k e hm => by simp only [hm] at hr; cases hr) H
        case max => exact free_minMax _ _ H
        case min => exact free_minMax _ _ H
      exact (key.still h).2 H2
    | value _ => rw [hc] at he; cases he
    | invoke _ _ => rw [hc] at he; cases he

/-- What was done of an operation. -/
structure Rec where
  i : Nat
  o : Oper
  g : Bool
  τ : List Value
  v : Value
  H : Heap
  H' : Heap

def curA (τ₀ : List Value) (tr : List Rec) : List Value := tr.foldl (fun τ r => putS r.o.dst r.v τ) τ₀
def acts (E : Env) (r : Rec) : Bool := isEff E r.o && r.g
def heapA (E : Env) (H₀ : Heap) (tr : List Rec) : Heap := tr.foldl (fun H r => if acts E r = true then r.H' else H) H₀

structure Fact (E : Env) (C : Calls') (ops : Array Oper) (b : List Nat) (τ₀ : List Value) (H₀ : Heap) (tr : List Rec) (r : Rec) : Prop where
  op : ops[r.i]? = some r.o
  slots : r.τ = restr (looks ops r.o) (curA τ₀ tr)
  heap : r.H = heapA E H₀ tr
  guard : guardS ops r.o r.τ = some r.g
  val : r.g = true → opM E C r.o r.τ M.pure r.H = .ret r.v r.H'
  skip : r.g = false → r.v = undef
  new : ∀ p ∈ tr, p.i ≠ r.i
  done : ∀ j, (b.getD r.i 0).testBit j = true → j < ops.size → ∃ p ∈ tr, p.i = j
  edges : ∀ e ∈ r.o.after, Region.binds .any e = true → ∃ p ∈ tr, p.i = e.on
  meets : ∀ p ∈ tr, meets ops p.o r.o = true → (b.getD r.i 0).testBit p.i = true
  effs : ∀ p ∈ tr, isEff E p.o = true → (isEff E r.o || isRead E r.o) = true → (b.getD r.i 0).testBit p.i = true
  again : acts E r = true → ∀ p ∈ tr, p.g = true → isEff E p.o = false → isRead E p.o = true → (b.getD r.i 0).testBit p.i = false → opM E C p.o p.τ M.pure r.H' = .ret p.v r.H'

def Facts (E : Env) (C : Calls') (ops : Array Oper) (b : List Nat) (τ₀ : List Value) (H₀ : Heap) (tr : List Rec) : Prop := ∀ tr1 r tr2, tr = tr1 ++ r :: tr2 → Fact E C ops b τ₀ H₀ tr1 r

variable {ops : Array Oper} {b : List Nat} {τ₀ : List Value} {H₀ : Heap}

theorem Facts.snoc {tr : List Rec} {r : Rec} (h : Facts E C ops b τ₀ H₀ tr) (hr : Fact E C ops b τ₀ H₀ tr r) : Facts E C ops b τ₀ H₀ (tr ++ [r]) := by
  intro tr1 x tr2 he
  rcases List.eq_nil_or_concat tr2 with rfl | ⟨l, y, rfl⟩
  · have := List.append_inj' he rfl
    obtain ⟨rfl, h2⟩ := this
    cases h2; exact hr
  · have he' : tr ++ [r] = (tr1 ++ x :: l) ++ [y] := by rw [he]; simp
    have := List.append_inj' he' rfl
    exact h tr1 x l this.1

theorem only_spec {β : Type} {m : M Value} {f : Value → M β} {H : Heap} {r : Out β} (h : only m f H = r) (hb : r ≠ .bad) : ∃ v H', m H = .ret v H' ∧ f v H' = r := by
  unfold only at h
  split at h
  · rename_i v H' hm; exact ⟨v, H', hm, h⟩
  · exact absurd h.symm hb

/-- What comes of an operation with its guard. -/
theorem opG_spec {ops : Array Oper} {o : Oper} {τ : List Value} {H H' : Heap} {v : Value} (h : opG E C ops o τ H = .ret v H') :
    (guardS ops o τ = some true ∧ opM E C o τ M.pure H = .ret v H') ∨ (guardS ops o τ = some false ∧ v = undef ∧ H' = H) := by
  unfold opG at h
  cases hgd : o.guard with
  | none => rw [hgd] at h; exact .inl ⟨by simp [guardS, hgd], h⟩
  | some jw =>
    obtain ⟨j, want⟩ := jw
    rw [hgd] at h
    simp only at h
    have hgs : guardS ops o τ = match guardV ops j τ with | .bool b => some (b == want) | _ => none := by
      unfold guardS guardV
      rw [hgd]
      simp only
      cases (ops[j]?).bind (·.dst) <;> rfl
    generalize guardV ops j τ = gv at h hgs
    cases gv with
    | bool b =>
      simp only [gM] at h
      by_cases hbw : b = want
      · rw [if_pos hbw] at h
        exact .inl ⟨by rw [hgs, hbw]; simp, h⟩
      · rw [if_neg hbw] at h
        cases h
        refine .inr ⟨?_, rfl, rfl⟩
        rw [hgs]
        cases b <;> cases want <;> simp_all
    | _ => cases h

theorem opG_still {ops : Array Oper} {o : Oper} {τ : List Value} {H H' : Heap} {v : Value} (he : isEff E o = false) (h : opG E C ops o τ H = .ret v H') : H' = H := by
  rcases opG_spec h with ⟨_, h⟩ | ⟨_, _, h⟩
  · exact eff_still he h
  · exact h

theorem again_spec {ops : Array Oper} : ∀ (rs : List (Nat × List Value × Value)) (k : M R) (H : Heap) (r : Out R), (∀ x ∈ rs, ∃ o, ops[x.1]? = some o ∧ isEff E o = false) → Wel.again E C ops rs k H = r → r ≠ .bad →
    (∀ x ∈ rs, ∀ o, ops[x.1]? = some o → opG E C ops o x.2.1 H = .ret x.2.2 H) ∧ k H = r
  | [], k, H, r, _, h, hb => ⟨fun x hx => absurd hx (by simp), h⟩
  | (p, τ, v) :: rs, k, H, r, hall, h, hb => by
    obtain ⟨o, ho, he⟩ := hall (p, τ, v) (by simp)
    simp only at ho
    simp only [Wel.again, ho] at h
    obtain ⟨v', H', h1, h2⟩ := only_spec h hb
    have := opG_still he h1
    subst this
    by_cases hs : E.same v' v = true
    · have := E.sure _ _ hs
      subst this
      simp only [hs, if_true] at h2
      obtain ⟨h3, h4⟩ := again_spec rs k H' r (fun x hx => hall x (by simp [hx])) h2 hb
      refine ⟨fun x hx o' ho' => ?_, h4⟩
      rcases List.mem_cons.1 hx with rfl | hx
      · simp only at ho'
        rw [ho] at ho'; cases ho'
        exact h1
      · exact h3 x hx o' ho'
    · simp only [hs] at h2
      exact absurd h2.symm hb

theorem curA_snoc (tr : List Rec) (r : Rec) : curA τ₀ (tr ++ [r]) = putS r.o.dst r.v (curA τ₀ tr) := by simp [curA]
theorem heapA_snoc (tr : List Rec) (r : Rec) : heapA E H₀ (tr ++ [r]) = if acts E r = true then r.H' else heapA E H₀ tr := by simp [heapA]

theorem runD_spec : ∀ (K : List Nat) (done : List Nat) (tr : List Rec) (rs : List (Nat × List Value × Value)) (k : List Value → M R) (r : Out R), r ≠ .bad →
    (∀ j, j ∈ done ↔ ∃ p ∈ tr, p.i = j) → Facts E C ops b τ₀ H₀ tr → (∀ x ∈ rs, ∃ o, ops[x.1]? = some o ∧ isEff E o = false) →
    (∀ p ∈ tr, p.g = true → isEff E p.o = false → isRead E p.o = true → (p.i, p.τ, p.v) ∈ rs) → (∀ p ∈ tr, ops[p.i]? = some p.o) →
    orderOk E ops b K done = true → runD E C ops b K rs (curA τ₀ tr) k (heapA E H₀ tr) = r →
    ∃ tr', Facts E C ops b τ₀ H₀ tr' ∧ (∀ j, j < ops.size → ∃ p ∈ tr', p.i = j) ∧ (∀ p ∈ tr', ops[p.i]? = some p.o) ∧ tr'.length = tr.length + K.length ∧ k (curA τ₀ tr') (heapA E H₀ tr') = r
  | [], done, tr, rs, k, r, hb, hd, hF, hrs, hrs', hops, hok, h => by
    refine ⟨tr, hF, fun j hj => ?_, hops, rfl, h⟩
    simp only [orderOk, List.all_eq_true, List.mem_range] at hok
    exact (hd j).1 (by simpa using hok j hj)
  | i :: K, done, tr, rs, k, r, hb, hd, hF, hrs, hrs', hops, hok, h => by
    cases ho : ops[i]? with
    | none => simp only [runD, ho] at h; exact absurd h.symm hb
    | some o =>
      simp only [runD, ho] at h
      simp only [orderOk, ho, Bool.and_eq_true] at hok
      obtain ⟨hmay, hok⟩ := hok
      simp only [mayD, Bool.and_eq_true, List.all_eq_true, List.mem_range] at hmay
      obtain ⟨⟨⟨hm1, hm2⟩, hm4⟩, hm3⟩ := hmay
      have hnew : ∀ p ∈ tr, p.i ≠ i := fun p hp he => by
        have := (hd i).2 ⟨p, hp, he⟩
        simp [this] at hm1
      have hdone : ∀ j, (b.getD i 0).testBit j = true → j < ops.size → ∃ p ∈ tr, p.i = j := fun j hj hlt => by
        have := hm2 j hlt
        rw [hj] at this
        exact (hd j).1 (by simpa using this)
      have hedge : ∀ e ∈ o.after, Region.binds .any e = true → ∃ p ∈ tr, p.i = e.on := fun e he hb => by
        have := hm4 e (by simpa using he)
        rw [hb] at this
        exact (hd _).1 (by simpa using this)
      have hpair : ∀ p ∈ tr, (Wel.meets ops p.o o = true → (b.getD i 0).testBit p.i = true) ∧ (isEff E p.o = true → (isEff E o || isRead E o) = true → (b.getD i 0).testBit p.i = true) := fun p hp => by
        have := hm3 p.i ((hd _).2 ⟨p, hp, rfl⟩)
        rw [hops p hp] at this
        simp only [Bool.and_eq_true, Bool.or_eq_true, Bool.not_eq_true', Bool.and_eq_false_imp] at this
        refine ⟨fun hx => ?_, fun hx hy => ?_⟩
        · rcases this.1 with h | h
          · rw [h] at hx; cases hx
          · exact h
        · rcases this.2 with h | h
          · have := h hx; rw [this] at hy; cases hy
          · exact h
      have hd' : ∀ (x : Rec), x.i = i → ∀ j, j ∈ i :: done ↔ ∃ p ∈ tr ++ [x], p.i = j := fun x hx j => by
        simp only [List.mem_cons, hd, List.mem_append, List.mem_singleton]
        constructor
        · rintro (rfl | ⟨p, hp, he⟩)
          · exact ⟨x, .inr (.inl rfl), hx⟩
          · exact ⟨p, .inl hp, he⟩
        · rintro ⟨p, hp | rfl | hp, he⟩
          · exact .inr ⟨p, hp, he⟩
          · exact .inl (by rw [← he, hx])
          · cases hp
      have hops' : ∀ (x : Rec), x.i = i → x.o = o → ∀ p ∈ tr ++ [x], ops[p.i]? = some p.o := fun x hx hx' p hp => by
        rcases List.mem_append.1 hp with hp | hp
        · exact hops p hp
        · rw [List.mem_singleton.1 hp, hx, hx']; exact ho
      have hlen : ∀ (x : Rec), (tr ++ [x]).length + K.length = tr.length + (i :: K).length := fun x => by simp; omega
      have hfin : ∀ (x : Rec), x.i = i → x.o = o → x.τ = restr (looks ops o) (curA τ₀ tr) → x.H = heapA E H₀ tr → guardS ops o x.τ = some x.g → (x.g = true → opM E C o x.τ M.pure x.H = .ret x.v x.H') → (x.g = false → x.v = undef ∧ x.H' = x.H) →
          (acts E x = true → ∀ p ∈ tr, p.g = true → isEff E p.o = false → isRead E p.o = true → (b.getD i 0).testBit p.i = false → opM E C p.o p.τ M.pure x.H' = .ret p.v x.H') → Fact E C ops b τ₀ H₀ tr x := by
        rintro x rfl rfl h1 h2 h3 h4 h5 h6
        exact ⟨ho, h1, h2, h3, h4, fun hg => (h5 hg).1, hnew, hdone, hedge, fun p hp => (hpair p hp).1, fun p hp => (hpair p hp).2, h6⟩
      by_cases he : isEff E o = true
      · rw [if_pos he] at h
        obtain ⟨v, H', h1, h2⟩ := only_spec h hb
        obtain ⟨h3, h4⟩ := again_spec _ _ _ _ (fun x hx => hrs x (List.mem_filter.1 hx).1) h2 hb
        rw [forceL_eq] at h4
        have hrec : ∀ p ∈ tr, p.g = true → isEff E p.o = false → isRead E p.o = true → (b.getD i 0).testBit p.i = false → opM E C p.o p.τ M.pure H' = .ret p.v H' := by
          intro p hp hpg hpe hpr hpb
          have := h3 (p.i, p.τ, p.v) (by rw [List.mem_filter]; exact ⟨hrs' p hp hpg hpe hpr, by simpa using hpb⟩) p.o (hops p hp)
          rcases opG_spec this with ⟨_, h⟩ | ⟨hgf, _, _⟩
          · exact h
          · obtain ⟨l1, l2, htr⟩ := List.append_of_mem hp
            have := (hF l1 p l2 htr).guard
            rw [hpg] at this
            rw [this] at hgf; cases hgf
        rcases opG_spec h1 with ⟨hg, hv⟩ | ⟨hg, hv, hH⟩
        · let x : Rec := ⟨i, o, true, restr (looks ops o) (curA τ₀ tr), v, heapA E H₀ tr, H'⟩
          have hact : acts E x = true := by simp [acts, x, he]
          refine hlen x ▸ runD_spec K (i :: done) (tr ++ [x]) rs k r hb (hd' x rfl) (hF.snoc (hfin x rfl rfl rfl rfl hg (fun _ => hv) (fun h => by cases h) (fun _ => hrec))) hrs ?_ (hops' x rfl rfl) hok ?_
          · intro p hp hpg hpe hpr
            rcases List.mem_append.1 hp with hp | hp
            · exact hrs' p hp hpg hpe hpr
            · rw [List.mem_singleton.1 hp] at hpe; simp [x, he] at hpe
          · rw [curA_snoc, heapA_snoc, hact]; exact h4
        · subst hv; subst hH
          let x : Rec := ⟨i, o, false, restr (looks ops o) (curA τ₀ tr), undef, heapA E H₀ tr, heapA E H₀ tr⟩
          have hact : acts E x = false := by simp [acts, x]
          refine hlen x ▸ runD_spec K (i :: done) (tr ++ [x]) rs k r hb (hd' x rfl) (hF.snoc (hfin x rfl rfl rfl rfl hg (fun h => by cases h) (fun _ => ⟨rfl, rfl⟩) (fun h => by rw [hact] at h; cases h))) hrs ?_ (hops' x rfl rfl) hok ?_
          · intro p hp hpg hpe hpr
            rcases List.mem_append.1 hp with hp | hp
            · exact hrs' p hp hpg hpe hpr
            · rw [List.mem_singleton.1 hp] at hpg; simp [x] at hpg
          · rw [curA_snoc, heapA_snoc, hact]; exact h4
      · rw [if_neg he] at h
        have he' : isEff E o = false := by simpa using he
        obtain ⟨v, H', h1, h2⟩ := only_spec h hb
        have hH := opG_still he' h1
        rw [forceL_eq] at h2
        have hx : ∃ g, Fact E C ops b τ₀ H₀ tr ⟨i, o, g, restr (looks ops o) (curA τ₀ tr), v, heapA E H₀ tr, H'⟩ := by
          rcases opG_spec h1 with ⟨hg, hv⟩ | ⟨hg, hv, hH⟩
          · exact ⟨true, hfin _ rfl rfl rfl rfl hg (fun _ => hv) (fun h => by cases h) (fun h => by simp [acts, he'] at h)⟩
          · exact ⟨false, hfin _ rfl rfl rfl rfl hg (fun h => by cases h) (fun _ => ⟨hv, hH⟩) (fun h => by simp [acts, he'] at h)⟩
        obtain ⟨g, hx⟩ := hx
        let x : Rec := ⟨i, o, g, restr (looks ops o) (curA τ₀ tr), v, heapA E H₀ tr, H'⟩
        have hact : acts E x = false := by simp [acts, x, he']
        refine hlen x ▸ runD_spec K (i :: done) (tr ++ [x]) _ k r hb (hd' x rfl) (hF.snoc hx) ?_ ?_ (hops' x rfl rfl) hok (by rw [curA_snoc, heapA_snoc, hact]; rw [hH] at h2; exact h2)
        · intro y hy
          split at hy
          · rcases List.mem_cons.1 hy with rfl | hy
            · exact ⟨o, ho, he'⟩
            · exact hrs y hy
          · exact hrs y hy
        · intro p hp hpg hpe hpr
          rcases List.mem_append.1 hp with hp | hp
          · have := hrs' p hp hpg hpe hpr
            split
            · exact List.mem_cons_of_mem _ this
            · exact this
          · have := List.mem_singleton.1 hp
            subst this
            have : isRead E o = true := hpr
            rw [if_pos this]
            simp [x]

theorem masks_bits (s : Nat → Prop) : ∀ (l : List Oper) (acc : List Nat), (∀ i o, l[i]? = some o → s (acc.length + i) → ∀ e ∈ o.after, Region.binds .any e = true → s e.on) → (∀ i j, i < acc.length → s i → (acc.getD i 0).testBit j = true → s j) →
    ∀ i j, s i → ((masks l acc).getD i 0).testBit j = true → s j
  | [], acc, _, ha, i, j, hi, hj => by
    by_cases hlt : i < acc.length
    · exact ha i j hlt hi hj
    · simp only [masks, List.getD_eq_getElem?_getD, List.getElem?_eq_none (Nat.le_of_not_lt hlt), Option.getD_none, Nat.zero_testBit] at hj
      cases hj
  | o :: l, acc, hc, ha, i, j, hi, hj => by
    refine masks_bits s l _ (fun i o' ho hs e he hb => hc (i + 1) o' (by simpa using ho) (by simpa [Nat.add_assoc, Nat.add_comm, Nat.add_left_comm] using hs) e he hb) ?_ i j hi hj
    intro i j hlt hs hj
    rw [List.length_append, List.length_singleton] at hlt
    by_cases hl : i < acc.length
    · rw [List.getD_eq_getElem?_getD, List.getElem?_append_left hl, ← List.getD_eq_getElem?_getD] at hj
      exact ha i j hl hs hj
    · have hi : i = acc.length := by omega
      subst hi
      rw [List.getD_eq_getElem?_getD, List.getElem?_append_right (Nat.le_refl _)] at hj
      simp only [Nat.sub_self, List.getElem?_cons_zero, Option.getD_some] at hj
      have hE := fun e he hb => hc 0 o rfl (by simpa using hs) e he hb
      have key : ∀ (es : List Edge) (m : Nat), (∀ e ∈ es, Region.binds .any e = true → s e.on) → (∀ j, m.testBit j = true → s j) →
          ∀ j, (es.foldl (fun s e => if Region.binds .any e = true then s ||| 2 ^ e.on ||| acc.getD e.on 0 else s) m).testBit j = true → s j := by
        intro es
        induction es with
        | nil => exact fun m _ hm j hj => hm j hj
        | cons e es ih =>
          intro m he hm j hj
          refine ih _ (fun e' he' => he e' (by simp [he'])) ?_ j hj
          intro j hj
          replace hj : (if Region.binds .any e = true then m ||| 2 ^ e.on ||| acc.getD e.on 0 else m).testBit j = true := hj
          split at hj
          · rename_i hb
            simp only [Nat.testBit_or, Bool.or_eq_true] at hj
            rcases hj with (hj | hj) | hj
            · exact hm j hj
            · have : e.on = j := by simpa [Nat.testBit_two_pow] using hj
              rw [← this]; exact he e (by simp) hb
            · by_cases hl : e.on < acc.length
              · exact ha e.on j hl (he e (by simp) hb) hj
              · simp only [List.getD_eq_getElem?_getD, List.getElem?_eq_none (Nat.le_of_not_lt hl), Option.getD_none, Nat.zero_testBit] at hj
                cases hj
          · exact hm j hj
      exact key o.after.toList 0 (fun e he => hE e (by simpa using he)) (fun j hj => by simp at hj) j hj

/-- Slots that agree. -/
def Agree (ts : List Tmp) (τ τ' : List Value) : Prop := τ.length = τ'.length ∧ ∀ t ∈ ts, τ.getD t undef = τ'.getD t undef

theorem Agree.restr {ts : List Tmp} {τ τ' : List Value} (h : Agree ts τ τ') : restr ts τ = restr ts τ' := by
  unfold Wel.restr
  rw [h.1]
  refine List.map_congr_left fun t _ => ?_
  split
  · rename_i hc; exact h.2 t (by simpa using hc)
  · rfl

theorem putS_length (d : Option Tmp) (v : Value) (τ : List Value) : (putS d v τ).length = τ.length := by
  cases d <;> simp [putS]

theorem putS_getD_ne {d : Option Tmp} {v : Value} {τ : List Value} {t : Tmp} (h : d ≠ some t) : (putS d v τ).getD t undef = τ.getD t undef := by
  cases d with
  | none => rfl
  | some x =>
    have : x ≠ t := fun e => h (by rw [e])
    simp only [putS, List.getD_eq_getElem?_getD, List.getElem?_set_ne this]

theorem Agree.put {ts : List Tmp} {τ τ' : List Value} (h : Agree ts τ τ') (d : Option Tmp) (v : Value) : Agree ts (putS d v τ) (putS d v τ') := by
  refine ⟨by rw [putS_length, putS_length]; exact h.1, fun t ht => ?_⟩
  cases d with
  | none => exact h.2 t ht
  | some x =>
    by_cases hx : x = t
    · cases hx
      simp only [putS, List.getD_eq_getElem?_getD]
      by_cases hl : t < τ.length
      · rw [List.getElem?_set_self hl, List.getElem?_set_self (h.1 ▸ hl)]
      · rw [List.getElem?_eq_none (by rw [List.length_set]; exact Nat.le_of_not_lt hl), List.getElem?_eq_none (by rw [List.length_set, ← h.1]; exact Nat.le_of_not_lt hl)]
    · rw [putS_getD_ne (by simpa using hx), putS_getD_ne (by simpa using hx)]; exact h.2 t ht

theorem Agree.skip {ts : List Tmp} {τ τ' : List Value} (h : Agree ts τ τ') {d : Option Tmp} (v : Value) (hd : ∀ t, d = some t → t ∉ ts) : Agree ts τ (putS d v τ') :=
  ⟨by rw [putS_length]; exact h.1, fun t ht => by rw [putS_getD_ne (fun e => hd t e ht)]; exact h.2 t ht⟩
theorem Agree.skip' {ts : List Tmp} {τ τ' : List Value} (h : Agree ts τ τ') {d : Option Tmp} (v : Value) (hd : ∀ t, d = some t → t ∉ ts) : Agree ts (putS d v τ) τ' :=
  ⟨by rw [putS_length]; exact h.1, fun t ht => by rw [putS_getD_ne (fun e => hd t e ht)]; exact h.2 t ht⟩

def sel (s : Nat → Bool) (tr : List Rec) : List Rec := tr.filter fun r => s r.i

theorem agree_ahead {ts : List Tmp} {s : Nat → Bool} : ∀ (l : List Rec) (τ τ' : List Value), (∀ p ∈ l, s p.i = true ∨ ∀ t, p.o.dst = some t → t ∉ ts) → Agree ts τ τ' → Agree ts (curA τ (sel s l)) (curA τ' l)
  | [], τ, τ', _, h => h
  | p :: l, τ, τ', hl, h => by
    simp only [sel, List.filter_cons]
    by_cases hs : s p.i = true
    · rw [if_pos hs]
      exact agree_ahead l _ _ (fun q hq => hl q (by simp [hq])) (h.put p.o.dst p.v)
    · rw [if_neg hs]
      exact agree_ahead l _ _ (fun q hq => hl q (by simp [hq])) (h.skip p.v ((hl p (by simp)).resolve_left hs))

theorem agree_behind {ts : List Tmp} : ∀ (l : List Rec) (τ τ' : List Value), (∀ p ∈ l, ∀ t, p.o.dst = some t → t ∉ ts) → Agree ts τ τ' → Agree ts (curA τ l) τ'
  | [], τ, τ', _, h => h
  | p :: l, τ, τ', hl, h => agree_behind l _ _ (fun q hq => hl q (by simp [hq])) (h.skip' p.v (hl p (by simp)))

theorem curA_put : ∀ (l : List Rec) (τ : List Value) (d : Option Tmp) (v : Value), (∀ p ∈ l, ∀ t, p.o.dst = some t → d ≠ some t) → curA (putS d v τ) l = putS d v (curA τ l)
  | [], τ, d, v, _ => rfl
  | p :: l, τ, d, v, h => by
    have : putS p.o.dst p.v (putS d v τ) = putS d v (putS p.o.dst p.v τ) := by
      cases hp : p.o.dst with
      | none => rfl
      | some t =>
        cases d with
        | none => rfl
        | some x =>
          have : x ≠ t := fun e => h p (by simp) t hp (by rw [e])
          simp only [putS]
          exact List.set_comm _ _ this
    show curA (putS p.o.dst p.v (putS d v τ)) l = putS d v (curA (putS p.o.dst p.v τ) l)
    rw [this]
    exact curA_put l _ d v fun q hq => h q (by simp [hq])

theorem heapA_sel {s : Nat → Bool} : ∀ (l : List Rec) (H : Heap), (∀ p ∈ l, acts E p = true → s p.i = true) → heapA E H (sel s l) = heapA E H l
  | [], H, _ => rfl
  | p :: l, H, h => by
    simp only [sel, List.filter_cons]
    by_cases hs : s p.i = true
    · rw [if_pos hs]; exact heapA_sel l _ fun q hq => h q (by simp [hq])
    · rw [if_neg hs]
      have : acts E p = false := by
        cases ha : acts E p with
        | false => rfl
        | true => exact absurd (h p (by simp) ha) hs
      show heapA E H (sel s l) = heapA E (if acts E p = true then p.H' else H) l
      rw [this]; exact heapA_sel l _ fun q hq => h q (by simp [hq])

theorem heapA_none : ∀ (l : List Rec) (H : Heap), (∀ p ∈ l, acts E p = false) → heapA E H l = H
  | [], H, _ => rfl
  | p :: l, H, h => by
    show heapA E (if acts E p = true then p.H' else H) l = H
    rw [h p (by simp)]; exact heapA_none l _ fun q hq => h q (by simp [hq])

theorem heapA_ind (Φ : Heap → Prop) : ∀ (l : List Rec) (H : Heap), Φ H → (∀ p ∈ l, acts E p = true → Φ p.H') → Φ (heapA E H l)
  | [], H, h, _ => h
  | p :: l, H, h, hl => by
    show Φ (heapA E (if acts E p = true then p.H' else H) l)
    refine heapA_ind Φ l _ ?_ fun q hq => hl q (by simp [hq])
    split
    · rename_i ha; exact hl p (by simp) ha
    · exact h

theorem heapA_append (l m : List Rec) (H : Heap) : heapA E H (l ++ m) = heapA E (heapA E H l) m := by simp [heapA]
theorem curA_append (l m : List Rec) (τ : List Value) : curA τ (l ++ m) = curA (curA τ l) m := by simp [curA]
theorem sel_append (s : Nat → Bool) (l m : List Rec) : sel s (l ++ m) = sel s l ++ sel s m := by simp [sel]
theorem mem_sel {s : Nat → Bool} {l : List Rec} {p : Rec} : p ∈ sel s l ↔ p ∈ l ∧ s p.i = true := by simp [sel]

theorem Tm.restr {n : Nat} {L : Lays} {τ : List Value} {a : Act} (h : Tm n L τ a) (ts : List Tmp) : Tm n L (restr ts τ) a := by
  refine ⟨h.size, by simp [Wel.restr]; exact h.len, fun i => ?_⟩
  by_cases hi : i < τ.length
  · have : (Wel.restr ts τ).getD i undef = if ts.contains i = true then τ.getD i undef else undef := by
      simp [Wel.restr, List.getD_eq_getElem?_getD, hi]
    rw [this]
    split
    · exact h.rel i
    · exact .inl rfl
  · have : (Wel.restr ts τ).getD i undef = undef := by
      simp [Wel.restr, List.getD_eq_getElem?_getD, hi]
    rw [this]; exact .inl rfl

section
variable {n : Nat} {L₀ : Lays} {hd : Hd} {Q : Exit → Act → World → Prop} {keep : Ex → List Nat} {k : List Value → M R} {r : Out R}

/-- What is listed. -/
def lst (listed : Array Bool) (i : Nat) : Bool := listed.getD i false

theorem lst_set {listed : Array Bool} {i j : Nat} (hi : i < listed.size) : lst (listed.setIfInBounds i true) j = (lst listed j || decide (j = i)) := by
  unfold lst
  simp only [Array.getD_eq_getD_getElem?]
  by_cases h : i = j
  · subst h; rw [Array.getElem?_setIfInBounds_self_of_lt hi]; simp
  · rw [Array.getElem?_setIfInBounds_ne h]
    have : ¬ j = i := fun e => h e.symm
    simp [this]

theorem first_of {α : Type} (f : α → Bool) : ∀ (l : List α), (∃ p ∈ l, f p = true) → ∃ l1 x l2, l = l1 ++ x :: l2 ∧ f x = true ∧ ∀ p ∈ l1, f p = false
  | [], h => by obtain ⟨p, hp, _⟩ := h; cases hp
  | y :: l, h => by
    cases hy : f y with
    | true => exact ⟨[], y, l, rfl, hy, fun p hp => by cases hp⟩
    | false =>
      obtain ⟨p, hp, hfp⟩ := h
      rcases List.mem_cons.1 hp with rfl | hp
      · rw [hy] at hfp; cases hfp
      · obtain ⟨l1, x, l2, rfl, h1, h2⟩ := first_of f l ⟨p, hp, hfp⟩
        exact ⟨y :: l1, x, l2, rfl, h1, fun q hq => by
          rcases List.mem_cons.1 hq with rfl | hq
          · exact hy
          · exact h2 q hq⟩

structure Mid (E : Env) (n : Nat) (L₀ : Lays) (hd : Hd) (τ₀ : List Value) (H₀ : Heap) (tr : List Rec) (s : Nat → Bool) (a : Act) (w : World) : Prop where
  st : ∃ L, St E n L₀ hd L (curA τ₀ (sel s tr)) (heapA E H₀ (sel s tr)) a w

/-- Whatever is taken next: what is reckoned of it. -/
theorem any_sound (hpin : ∀ o ∈ ops.toList, NoPin hd o) (hC : OK E C) (hQ : Post E n L₀ hd keep k r Q) {tr : List Rec} (hF : Facts E C ops (masks ops.toList []) τ₀ H₀ tr) (hall : ∀ j, j < ops.size → ∃ p ∈ tr, p.i = j)
    (hend : k (curA τ₀ tr) (heapA E H₀ tr) = r) : ∀ (fuel : Nat) (listed : Array Bool) (a : Act) (w : World), listed.size = ops.size → (tr.filter fun p => !lst listed p.i).length = fuel →
    (∀ i o, ops[i]? = some o → lst listed i = true → ∀ e ∈ o.after, Region.binds .any e = true → lst listed e.on = true) →
    Mid E n L₀ hd τ₀ H₀ tr (lst listed) a w → wpAnyIn (FW hd.ro) 0 E.P .any ops Q fuel listed a w := by
  have hopF : ∀ p ∈ tr, ops[p.i]? = some p.o := fun p hp => by
    obtain ⟨l1, l2, rfl⟩ := List.append_of_mem hp
    exact (hF l1 p l2 rfl).op
  have hdone : ∀ (listed : Array Bool) (a : Act) (w : World), (tr.filter fun p => !lst listed p.i) = [] → Mid E n L₀ hd τ₀ H₀ tr (lst listed) a w → Q .normal a w := by
    intro listed a w hf hm
    obtain ⟨L, hst⟩ := hm.st
    have : sel (lst listed) tr = tr := by
      rw [sel, List.filter_eq_self]
      intro p hp
      rw [List.filter_eq_nil_iff] at hf
      simpa using hf p hp
    rw [this] at hst
    exact hQ.normal L _ _ a w hst hend
  have hbelow : ∀ (listed : Array Bool) (p : Rec), p ∈ tr → (∀ i o, ops[i]? = some o → lst listed i = true → ∀ e ∈ o.after, Region.binds .any e = true → lst listed e.on = true) → lst listed p.i = true → ∀ j, ((masks ops.toList []).getD p.i 0).testBit j = true → lst listed j = true := by
    intro listed p hp hcl hs j hj
    exact masks_bits (fun i => lst listed i = true) ops.toList [] (fun i o ho hs e he hb => hcl i o (by simpa using ho) (by simpa using hs) e he hb) (fun i j h => absurd h (by simp)) p.i j hs hj
  intro fuel
  induction fuel with
  | zero =>
    intro listed a w hsz hf hcl hm
    have hf' := List.eq_nil_of_length_eq_zero hf
    refine ⟨?_, hdone listed a w hf' hm⟩
    rw [Region.ready, List.filter_eq_nil_iff]
    intro i hi
    rw [List.mem_range] at hi
    obtain ⟨p, hp, rfl⟩ := hall i hi
    rw [List.filter_eq_nil_iff] at hf'
    have := hf' p hp
    have hl : lst listed p.i = true := by simpa using this
    have : listed.getD p.i true = true := by
      unfold lst at hl
      rw [Array.getD_eq_getD_getElem?] at hl ⊢
      cases h : listed[p.i]? with
      | none => rfl
      | some b => rw [h] at hl; simpa using hl
    simp [this]
  | succ fuel ih =>
    intro listed a w hsz hf hcl hm
    refine ⟨fun hr => ?_, fun i hi => ?_⟩
    · -- none is ready: all are listed
      refine hdone listed a w ?_ hm
      rw [List.filter_eq_nil_iff]
      intro p hp hnl
      obtain ⟨l1, x, l2, htr, h1, h2⟩ := first_of (fun p => !lst listed p.i) tr ⟨p, hp, hnl⟩
      have fx := hF l1 x l2 htr
      have hlt : x.i < ops.size := by
        have := fx.op
        rw [Array.getElem?_eq_some_iff] at this
        exact this.1
      have hin : x.i ∈ Region.ready .any ops listed := by
        rw [Region.ready, List.mem_filter, List.mem_range]
        refine ⟨hlt, ?_⟩
        have hl : listed.getD x.i true = false := by
          simp only [Bool.not_eq_true'] at h1
          unfold lst at h1
          rw [Array.getD_eq_getD_getElem?] at h1 ⊢
          rw [Array.getElem?_eq_getElem (by omega)] at h1 ⊢
          simpa using h1
        rw [hl, fx.op]
        simp only [Bool.not_false, Bool.true_and, Option.map_some, Option.getD_some, Array.all_eq_true_iff_forall_mem, Bool.or_eq_true, Bool.not_eq_true']
        intro e he
        cases hb : Region.binds .any e with
        | false => exact .inl rfl
        | true =>
          obtain ⟨q, hq, hqe⟩ := fx.edges e he hb
          have := h2 q hq
          rw [← hqe]
          exact .inr (by simpa [lst] using this)
      rw [hr] at hin; cases hin
    · rw [Region.ready, List.mem_filter, List.mem_range] at hi
      obtain ⟨hi1, hi2⟩ := hi
      simp only [Bool.and_eq_true, Bool.not_eq_true'] at hi2
      obtain ⟨hi2, hi3⟩ := hi2
      obtain ⟨x, hx, rfl⟩ := hall i hi1
      have hxo := hopF x hx
      rw [hxo] at hi3
      simp only [Option.map_some, Option.getD_some, Array.all_eq_true_iff_forall_mem, Bool.or_eq_true, Bool.not_eq_true'] at hi3
      have hns : lst listed x.i = false := by
        unfold lst
        rw [Array.getD_eq_getD_getElem?] at hi2 ⊢
        rw [Array.getElem?_eq_getElem (by omega)] at hi2 ⊢
        simpa using hi2
      have hsz' : x.i < listed.size := by omega
      -- what is listed then
      have hcl' : ∀ i o, ops[i]? = some o → lst (listed.setIfInBounds x.i true) i = true → ∀ e ∈ o.after, Region.binds .any e = true → lst (listed.setIfInBounds x.i true) e.on = true := by
        intro i o ho hs e he hb
        rw [lst_set hsz'] at hs ⊢
        rw [Bool.or_eq_true] at hs ⊢
        rcases hs with hs | hs
        · exact .inl (hcl i o ho hs e he hb)
        · have : i = x.i := by simpa using hs
          subst this
          rw [hxo] at ho; cases ho
          refine .inl ?_
          rcases hi3 e he with h | h
          · rw [hb] at h; cases h
          · exact h
      obtain ⟨l1, l2, htr⟩ := List.append_of_mem hx
      have fx := hF l1 x l2 htr
      have f2 : ∀ p ∈ l2, ∃ m, x ∈ m ∧ Fact E C ops (masks ops.toList []) τ₀ H₀ m p := by
        intro p hp
        obtain ⟨m1, m2, rfl⟩ := List.append_of_mem hp
        exact ⟨l1 ++ x :: m1, by simp, hF (l1 ++ x :: m1) p m2 (by rw [htr]; simp)⟩
      have bits : ∀ j, ((masks ops.toList []).getD x.i 0).testBit j = true → j ≠ x.i → lst listed j = true := by
        intro j hj hne
        have := hbelow _ x hx hcl' (by rw [lst_set hsz']; simp) j hj
        rw [lst_set hsz'] at this
        simpa [hne] using this
      have nobit : ∀ p ∈ l2, lst listed p.i = true → ((masks ops.toList []).getD p.i 0).testBit x.i = false := by
        intro p hp hs
        cases hb : ((masks ops.toList []).getD p.i 0).testBit x.i with
        | false => rfl
        | true =>
          have := hbelow listed p (by rw [htr]; simp [hp]) hcl hs x.i hb
          rw [hns] at this; cases this
      have hsel : sel (lst listed) tr = sel (lst listed) l1 ++ sel (lst listed) l2 := by
        rw [htr, sel_append]
        congr 1
        simp [sel, List.filter_cons, hns]
      have hne1 : ∀ p ∈ l1, p.i ≠ x.i := fx.new
      have hne2 : ∀ p ∈ l2, p.i ≠ x.i := fun p hp => by
        obtain ⟨m, hxm, fp⟩ := f2 p hp
        exact fun e => fp.new x hxm e.symm
      have hcong : ∀ (l : List Rec), (∀ p ∈ l, p.i ≠ x.i) → sel (lst (listed.setIfInBounds x.i true)) l = sel (lst listed) l := by
        intro l hl
        unfold sel
        refine List.filter_congr fun p hp => ?_
        rw [lst_set hsz']
        simp [hl p hp]
      have hsel' : sel (lst (listed.setIfInBounds x.i true)) tr = sel (lst listed) l1 ++ x :: sel (lst listed) l2 := by
        rw [htr, sel_append, hcong l1 hne1]
        congr 1
        have : lst (listed.setIfInBounds x.i true) x.i = true := by rw [lst_set hsz']; simp
        rw [← hcong l2 hne2]
        simp [sel, List.filter_cons, this]
      have hcount : (tr.filter fun p => !lst (listed.setIfInBounds x.i true) p.i).length = fuel := by
        have h1 : ∀ (l : List Rec), (∀ p ∈ l, p.i ≠ x.i) → (l.filter fun p => !lst (listed.setIfInBounds x.i true) p.i) = l.filter fun p => !lst listed p.i := by
          intro l hl
          refine List.filter_congr fun p hp => ?_
          rw [lst_set hsz']
          simp [hl p hp]
        have h2 : lst (listed.setIfInBounds x.i true) x.i = true := by rw [lst_set hsz']; simp
        rw [htr, List.filter_append, List.filter_cons, h2, h1 l1 hne1, h1 l2 hne2]
        rw [htr, List.filter_append, List.filter_cons, hns] at hf
        simp only [Bool.not_false, if_true, List.length_append, List.length_cons] at hf
        simp only [Bool.not_true, Bool.false_eq_true, if_false, List.length_append]
        omega
      -- the operations that stand in the way
      have clash : ∀ p ∈ l2, lst listed p.i = true → Wel.meets ops x.o p.o = false := by
        intro p hp hs
        obtain ⟨m, hxm, fp⟩ := f2 p hp
        cases hb : Wel.meets ops x.o p.o with
        | false => rfl
        | true => have := fp.meets x hxm hb; rw [nobit p hp hs] at this; cases this
      have clash1 : ∀ p ∈ l2, lst listed p.i = true → ∀ t, p.o.dst = some t → t ∉ looks ops x.o := by
        intro p hp hs t ht hin
        have := clash p hp hs
        simp only [Wel.meets, ht, Bool.or_eq_false_iff] at this
        have := this.2
        simp [hin] at this
      have clash2 : ∀ p ∈ l2, lst listed p.i = true → ∀ t, p.o.dst = some t → x.o.dst ≠ some t := by
        intro p hp hs t ht hd
        have := clash p hp hs
        simp [Wel.meets, ht, hd] at this
      have ahead1 : ∀ p ∈ l1, lst listed p.i = true ∨ ∀ t, p.o.dst = some t → t ∉ looks ops x.o := by
        intro p hp
        cases hs : lst listed p.i with
        | true => exact .inl rfl
        | false =>
          refine .inr fun t ht hin => ?_
          have : Wel.meets ops p.o x.o = true := by simp [Wel.meets, ht, hin]
          have := bits p.i (fx.meets p hp this) (hne1 p hp)
          rw [hs] at this; cases this
      have hτ : restr (looks ops x.o) (curA τ₀ (sel (lst listed) tr)) = x.τ := by
        rw [fx.slots, hsel, curA_append]
        refine Agree.restr (agree_behind _ _ _ (fun p hp => ?_) (agree_ahead l1 _ _ ahead1 ⟨rfl, fun _ _ => rfl⟩))
        rw [mem_sel] at hp
        exact clash1 p hp.1 hp.2
      have hτ' : curA τ₀ (sel (lst (listed.setIfInBounds x.i true)) tr) = putS x.o.dst x.v (curA τ₀ (sel (lst listed) tr)) := by
        rw [hsel', hsel, curA_append, curA_append]
        show curA (putS x.o.dst x.v _) _ = _
        refine curA_put _ _ _ _ fun p hp t ht => ?_
        rw [mem_sel] at hp
        exact clash2 p hp.1 hp.2 t ht
      obtain ⟨L, hst⟩ := hm.st
      have hTm : Tm n L x.τ a := by rw [← hτ]; exact hst.tm.restr _
      have hwant := guard_rel hTm ops x.o fx.guard
      have hpx : NoPin hd x.o := hpin x.o (by
        have := Array.mem_of_getElem? hxo
        simpa using this)
      unfold wpOpIn
      rw [hxo]
      simp only
      rw [hwant]
      cases hg : x.g with
      | false =>
        rw [if_neg (by simp)]
        refine ⟨fun _ _ => trivial, ih _ _ _ (by simpa using hsz) hcount hcl' ⟨L, ?_⟩⟩
        rw [hτ', fx.skip hg]
        have hact : acts E x = false := by simp [acts, hg]
        have : heapA E H₀ (sel (lst (listed.setIfInBounds x.i true)) tr) = heapA E H₀ (sel (lst listed) tr) := by
          rw [hsel', hsel, heapA_append, heapA_append]
          show heapA E (if acts E x = true then x.H' else _) _ = _
          rw [hact]; rfl
        rw [this]
        exact ⟨hst.le, hst.glob, hst.sim, hst.tm.put _ (.inl rfl), hst.dfr.put hpx _⟩
      | true =>
        rw [if_pos rfl]
        have hval := fx.val hg
        -- what it comes to here
        have hhere : ∃ H', opM E C x.o x.τ M.pure (heapA E H₀ (sel (lst listed) tr)) = .ret x.v H' ∧ heapA E H₀ (sel (lst (listed.setIfInBounds x.i true)) tr) = H' := by
          have hl1 : (isEff E x.o || isRead E x.o) = true → heapA E H₀ (sel (lst listed) l1) = x.H := fun hb => by
            rw [fx.heap]
            refine heapA_sel l1 _ fun p hp ha => ?_
            simp only [acts, Bool.and_eq_true] at ha
            exact bits p.i (fx.effs p hp ha.1 hb) (hne1 p hp)
          cases he : isEff E x.o with
          | true =>
            have hact : acts E x = true := by simp [acts, he, hg]
            have hl2 : ∀ p ∈ sel (lst listed) l2, acts E p = false := by
              intro p hp
              rw [mem_sel] at hp
              cases ha : acts E p with
              | false => rfl
              | true =>
                simp only [acts, Bool.and_eq_true] at ha
                obtain ⟨m, hxm, fp⟩ := f2 p hp.1
                have := fp.effs x hxm he (by simp [ha.1])
                rw [nobit p hp.1 hp.2] at this; cases this
            refine ⟨x.H', ?_, ?_⟩
            · rw [hsel, heapA_append, heapA_none _ _ hl2, hl1 (by simp [he])]; exact hval
            · rw [hsel', heapA_append]
              show heapA E (if acts E x = true then x.H' else _) _ = _
              rw [if_pos hact, heapA_none _ _ hl2]
          | false =>
            have hact : acts E x = false := by simp [acts, he]
            have hsame : heapA E H₀ (sel (lst (listed.setIfInBounds x.i true)) tr) = heapA E H₀ (sel (lst listed) tr) := by
              rw [hsel', hsel, heapA_append, heapA_append]
              show heapA E (if acts E x = true then x.H' else _) _ = _
              rw [hact]; rfl
            have hstay := eff_still he hval
            rw [hstay] at hval
            refine ⟨_, ?_, hsame⟩
            cases hrd : isRead E x.o with
            | false => exact read_still he hrd hval _
            | true =>
              rw [hsel, heapA_append, hl1 (by simp [hrd])]
              refine heapA_ind (fun H => opM E C x.o x.τ M.pure H = .ret x.v H) _ _ hval fun p hp ha => ?_
              rw [mem_sel] at hp
              obtain ⟨m, hxm, fp⟩ := f2 p hp.1
              exact fp.again ha x hxm hg he hrd (nobit p hp.1 hp.2)
        obtain ⟨H', hop, hheap⟩ := hhere
        have key := sound_op (ro := hd.ro) (Q := Q) (next := wpAnyIn (FW hd.ro) 0 E.P .any ops Q fuel (listed.setIfInBounds x.i true)) hC hTm hst.glob hst.sim x.o hop (by simp) ⟨?_, ?_⟩
        · refine ⟨fun _ _ => trivial, ?_⟩
          rw [Oper.semAt_eq _ _ _ key.1]
          exact key.2
        · intro L' v v' H1 w' hle hs hv hk'
          simp only [M.pure, Out.ret.injEq] at hk'
          obtain ⟨rfl, rfl⟩ := hk'
          refine ih _ _ _ (by simpa using hsz) hcount hcl' ⟨L', ?_⟩
          rw [hτ', hheap]
          exact ⟨Lays.le_trans hst.le hle, hst.glob.mono hle, hs, (hst.tm.mono hle).put _ hv, (hst.dfr.mono hle).put hpx _⟩
        · intro L' v v' H1 w' _ _ _ hk'
          cases hk'

/-- A region that draws. -/
theorem sound_draw {id : Nat} {K : List Nat} {L : Lays} {τ : List Value} {H : Heap} {a : Act} {w : World} (hpin : ∀ o ∈ ops.toList, NoPin hd o) (hC : OK E C) (hb : r ≠ .bad) (hQ : Post E n L₀ hd keep k r Q) (hmix : E.P.follows .mixedOrders = true)
    (hst : St E n L₀ hd L τ H a w) (hk : drawM E C ops K τ k H = r) : (Code.region id ops true).wpIn (FW hd.ro) 0 E.P Q a w := by
  unfold drawM at hk
  split at hk
  · rename_i hok
    obtain ⟨hok, hKl⟩ := hok
    obtain ⟨tr, h1, h2, h3, h5, h4⟩ := runD_spec (τ₀ := τ) (H₀ := H) (b := masks ops.toList []) K [] [] [] k r hb (fun j => by simp) (fun tr1 x tr2 h => by simp at h) (fun x hx => by cases hx) (fun p hp => by cases hp) (fun p hp => by cases hp) hok hk
    refine wpIn_region_any hmix ?_
    have hnone : ∀ i, lst (Array.replicate ops.size false) i = false := fun i => by
      unfold lst
      rw [Array.getD_eq_getD_getElem?, Array.getElem?_replicate]
      split <;> rfl
    have hcount : (tr.filter fun p => !lst (Array.replicate ops.size false) p.i).length = ops.size := by
      have hall : (tr.filter fun p => !lst (Array.replicate ops.size false) p.i) = tr := by
        rw [List.filter_eq_self]; intro p _; simp [hnone]
      rw [hall, h5, hKl]; simp
    refine any_sound hpin hC hQ h1 h2 h4 _ _ a _ (by simp) hcount (fun i o _ hs => by rw [hnone] at hs; cases hs) ⟨L, ?_⟩
    have : sel (lst (Array.replicate ops.size false)) tr = [] := by
      rw [sel, List.filter_eq_nil_iff]; intro p _; simp [hnone]
    rw [this]
    exact ⟨hst.le, hst.glob, hst.sim.drew _, hst.tm, hst.dfr⟩
  · exact absurd hk.symm hb
end
end
end Go.Wel
