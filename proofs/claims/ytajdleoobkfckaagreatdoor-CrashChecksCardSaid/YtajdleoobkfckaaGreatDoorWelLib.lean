/- Small laws for contracts: types' facts, what is read of a memory to which blocks were added, calls. -/
import Derived.Test.YtajdleoobkfckaaGreatDoorWelStart
set_option linter.unusedSimpArgs false
set_option linter.unusedVariables false
namespace Go.Wel
open Go

section types
variable {P : Program} {t e n : Nat} {x v i : Value} {H : Heap}
theorem ld_agg (h : isAggT P t = some true) (hi : (P.info? t).isSome = true) (hc : P.cellsOf t = n) : aLoad P t x H = ldG n x H := by simp [aLoad, h, hi, hc]
theorem ld_one (h : isAggT P t = some false) : aLoad P t x H = ldS x H := by simp [aLoad, h]
theorem st_agg (h : isAggT P t = some true) (hi : (P.info? t).isSome = true) (hc : P.cellsOf t = n) : aStore P t x v H = stG n x v H := by simp [aStore, h, hi, hc]
theorem st_one (h : isAggT P t = some false) (hi : (P.info? t).isSome = true) (hc : P.cellsOf t = 1) : aStore P t x v H = stS x v H := by simp [aStore, h, hi, hc]
theorem fa_eq {fields : Array Field} {k b off o ty m : Nat} (h : P.underlying t = some (.struct fields)) (hf : (fields[k]?).map (fun fl => (fl.offset, fl.type)) = some (o, ty)) (hi : (P.info? ty).isSome = true) (hc : P.cellsOf ty = m + 1) :
    aFieldAddr P t (.pointer (some ⟨b, off, none⟩)) k H = .ret (.pointer (some ⟨b, off + o, none⟩)) H := by
  cases hk : fields[k]? with
  | none => rw [hk] at hf; cases hf
  | some fl =>
    rw [hk] at hf
    simp only [Option.map_some, Option.some.injEq, Prod.mk.injEq] at hf
    obtain ⟨rfl, rfl⟩ := hf
    simp [aFieldAddr, h, hk, hi, hc, addO]
theorem ix_eq (h : P.underlying t = some (.slice e)) (hi : (P.info? e).isSome = true) (hc : P.cellsOf e = n) : aIndexAddr P t x i H = idxS n x i H := by simp [aIndexAddr, h, hi, hc]
theorem ixa_eq {m : Nat} (h : P.underlying t = some (.array m e)) (hi : (P.info? e).isSome = true) (hc : P.cellsOf e = n) : aIndexAddr P t x i H = idxA m n x i H := by simp [aIndexAddr, h, hi, hc]
theorem len_slice {a : Option Addr} {n c : Nat} (h : P.underlying t = some (.slice e)) : aLen P t (.slice a n c) H = .ret (.int .i64 n) H := by unfold aLen; rw [h]
theorem len_string {s : ByteArray} (h : P.underlying t = some .string) : aLen P t (.string s) H = .ret (.int .i64 s.size) H := by unfold aLen; rw [h]
theorem al_eq {z : Value} {l : List Value} (h : (P.info? t).bind (·.zero) = some z) (hf : flat z = true) (hl : z.cells.toList = l) : aAlloc P t H = new l t H := by simp [aAlloc, h, hf, hl]

def buildS (places : Array (Nat × Nat)) (z : Value) (ps : List (Nat × Value)) : M Value := fun H =>
  if ps.all (fun p => isVal p.2) = true then match Instr.fill (places[·]?) z.cells ps with
    | some cs => .ret (.agg cs) H
    | none => .bad
  else .bad
theorem bd_eq {z : Value} {fields : Array Field} {places : Array (Nat × Nat)} {ps : List (Nat × Value)} (hz : (P.info? t).bind (·.zero) = some z) (hu : P.underlying t = some (.struct fields)) (hp : placesOf P fields = some places) (hf : flat z = true) :
    aBuild P t ps H = buildS places z ps H := by
  unfold aBuild buildS
  rw [hz, hu]
  simp only [hp, hf, true_and]
  rfl
end types

section heap
variable {H J : Heap} {b o n : Nat} {v : Value} {l : List Value}
theorem get1_app (h : H.get1 b o = some v) : (H ++ J).get1 b o = some v := by
  unfold Heap.get1 at h ⊢
  cases hb : H[b]? with
  | none => rw [hb] at h; cases h
  | some k => rw [List.getElem?_append_left (List.getElem?_eq_some_iff.1 hb).1, hb]; rw [hb] at h; exact h
theorem getN_app (h : H.getN b o n = some l) : (H ++ J).getN b o n = some l := by
  unfold Heap.getN at h ⊢
  cases hb : H[b]? with
  | none => rw [hb] at h; cases h
  | some k => rw [List.getElem?_append_left (List.getElem?_eq_some_iff.1 hb).1, hb]; rw [hb] at h; exact h
/-- The same, and more behind. -/
def Pre (H H' : Heap) : Prop := ∃ J, H' = H ++ J
theorem Pre.refl (H : Heap) : Pre H H := ⟨[], by simp⟩
theorem Pre.add (H J : Heap) : Pre H (H ++ J) := ⟨J, rfl⟩
theorem Pre.trans {H H' H'' : Heap} (h : Pre H H') (h' : Pre H' H'') : Pre H H'' := by
  obtain ⟨J, rfl⟩ := h; obtain ⟨K, rfl⟩ := h'; exact ⟨J ++ K, by simp⟩
theorem Pre.get1 {H' : Heap} (h : Pre H H') (hv : H.get1 b o = some v) : H'.get1 b o = some v := by
  obtain ⟨J, rfl⟩ := h; exact get1_app hv
theorem Pre.getN {H' : Heap} (h : Pre H H') (hv : H.getN b o n = some l) : H'.getN b o n = some l := by
  obtain ⟨J, rfl⟩ := h; exact getN_app hv
/-- Cells that are read together are read one by one. -/
theorem getN_get1 (h : H.getN b o n = some l) {i : Nat} (hi : l[i]? = some v) : H.get1 b (o + i) = some v := by
  unfold Heap.getN at h
  unfold Heap.get1
  split at h
  · rename_i c e fr s hb
    split at h
    · rename_i hc
      cases h
      obtain ⟨h1, h2⟩ := hc
      rw [List.getElem?_take] at hi
      split at hi
      · rename_i hlt
        rw [List.getElem?_drop] at hi
        simp only [hi]
        have : isVal v = true := by
          rw [List.all_eq_true] at h2
          apply h2
          rw [List.mem_iff_getElem?]
          exact ⟨i, by rw [List.getElem?_take, if_pos hlt, List.getElem?_drop]; exact hi⟩
        simp [this]
      · cases hi
    · cases h
  · cases h
end heap

section run
variable {α β : Type} {H : Heap}
/-- What comes behind. (A word of its own, so that no two matches are held against one another.) -/
def bindO (o : Out α) (f : α → M β) : Out β := match o with
  | .ret a H' => f a H'
  | .pan v H' => .pan v H'
  | .bad => .bad
@[simp] theorem bind_at (m : M α) (f : α → M β) (H : Heap) : M.bind m f H = bindO (m H) f := by
  unfold M.bind bindO; cases m H <;> rfl
@[simp] theorem bindO_ret (a : α) (f : α → M β) (H : Heap) : bindO (.ret a H) f = f a H := Eq.trans rfl rfl
@[simp] theorem bindO_pan (v : Value) (f : α → M β) (H : Heap) : bindO (.pan v H) f = .pan v H := Eq.trans rfl rfl
@[simp] theorem pure_at (a : α) (H : Heap) : M.pure a H = .ret a H := Eq.trans rfl rfl
def onlyO (o : Out Value) (f : Value → M β) : Out β := match o with
  | .ret a H' => f a H'
  | _ => .bad
@[simp] theorem only_at (m : M Value) (f : Value → M β) (H : Heap) : only m f H = onlyO (m H) f := by
  unfold only onlyO; cases m H <;> rfl
@[simp] theorem onlyO_ret (a : Value) (f : Value → M β) (H : Heap) : onlyO (.ret a H) f = f a H := Eq.trans rfl rfl
@[simp] theorem cond_t (x y : M R) : condM (.bool true) x y H = x H := Eq.trans rfl rfl
@[simp] theorem cond_f (x y : M R) : condM (.bool false) x y H = y H := Eq.trans rfl rfl
@[simp] theorem gM_at (b w : Bool) (m : M Value) : gM (.bool b) w m H = if b = w then m H else .ret undef H := Eq.trans rfl rfl
@[simp] theorem pick_at (b : Bool) (x y : Value) : pickM (.bool b) x y H = .ret (if b then x else y) H := Eq.trans rfl rfl
@[simp] theorem ofOption_some (a : α) : M.ofOption (some a) H = .ret a H := Eq.trans rfl rfl
theorem cond_at (b : Bool) (x y : M R) : condM (.bool b) x y H = if b = true then x H else y H := by cases b <;> rfl
@[simp] theorem not_at (b : Bool) : aUn .not (.bool b) H = .ret (.bool (!b)) H := Eq.trans rfl rfl
def exO (o : Option Value) (H : Heap) : Out Value := match o with
  | some v => .ret v H
  | none => .bad
@[simp] theorem exO_some (v : Value) : exO (some v) H = .ret v H := Eq.trans rfl rfl
@[simp] theorem extract_at (c : Array Value) (i : Nat) : aExtract (.tuple c) i H = exO c[i]? H := by
  unfold aExtract exO; simp only []; cases c[i]? <;> rfl
@[simp] theorem box_agg (e : TypeId) (c : Array Value) : aBox e (.agg c) H = new c.toList e H := Eq.trans rfl rfl
@[simp] theorem new_at (l : List Value) (e : TypeId) : new l e H = .ret (.pointer (some ⟨H.length, 0, none⟩)) (H ++ [.cells l e (0, 0) false]) := Eq.trans rfl rfl
@[simp] theorem nil_at (a : Addr) : aNil (.pointer (some a)) H = .ret (.pointer (some a)) H := Eq.trans rfl rfl
@[simp] theorem oneOf_one (v : Value) : oneOf [v] = v := Eq.trans rfl rfl
section bins
variable {P : Program} {t : TypeId} {x y : Operand} {k : IntKind} {a b : Int}
@[simp] theorem bin_add : aBin P .add t x y (.int k a) (.int k b) H = .ret (.int k (k.wrap (a + b))) H := by simp [aBin, intBin]
@[simp] theorem bin_sub : aBin P .sub t x y (.int k a) (.int k b) H = .ret (.int k (k.wrap (a - b))) H := by simp [aBin, intBin]
@[simp] theorem bin_mul : aBin P .mul t x y (.int k a) (.int k b) H = .ret (.int k (k.wrap (a * b))) H := by simp [aBin, intBin]
@[simp] theorem bin_eql : aBin P .eql t x y (.int k a) (.int k b) H = .ret (.bool (a == b)) H := by simp [aBin, intBin]
@[simp] theorem bin_neq : aBin P .neq t x y (.int k a) (.int k b) H = .ret (.bool (a != b)) H := by simp [aBin, intBin]
@[simp] theorem bin_lss : aBin P .lss t x y (.int k a) (.int k b) H = .ret (.bool (decide (a < b))) H := by simp [aBin, intBin]
@[simp] theorem bin_leq : aBin P .leq t x y (.int k a) (.int k b) H = .ret (.bool (decide (a ≤ b))) H := by simp [aBin, intBin]
@[simp] theorem bin_gtr : aBin P .gtr t x y (.int k a) (.int k b) H = .ret (.bool (decide (a > b))) H := by simp [aBin, intBin]
@[simp] theorem bin_geq : aBin P .geq t x y (.int k a) (.int k b) H = .ret (.bool (decide (a ≥ b))) H := by simp [aBin, intBin]
theorem bin_agg {op : BinOp} {c d : Array Value} (h : P.eqGuardType P.depth t = false) : aBin P op t x y (.agg c) (.agg d) H = eqOut op (eqv P t (.agg c) (.agg d) H) H := by simp [aBin, h]
theorem bin_rem (h : b ≠ 0) : aBin P .rem t x y (.int k a) (.int k b) H = .ret (.int k (a.tmod b)) H := by simp [aBin, intBin, h]
theorem bin_quo (h : b ≠ 0) : aBin P .quo t x y (.int k a) (.int k b) H = .ret (.int k (k.wrap (a.tdiv b))) H := by simp [aBin, intBin, h]
end bins
end run

/-! ### What lies behind a memory -/
def getV : Option Value → Option Value
  | some v => if isVal v = true then some v else none
  | none => none
@[simp] theorem getV_some (v : Value) : getV (some v) = if isVal v = true then some v else none := Eq.trans rfl rfl
@[simp] theorem getV_none : getV none = none := Eq.trans rfl rfl
section behind
variable {H K r : Heap} {k o n : Nat} {v : Value} {c : List Value} {e : TypeId} {fr : Nat × Nat} {s : Bool} {x : Blk}
theorem app_get (k : Nat) : (H ++ K)[H.length + k]? = K[k]? := by
  rw [List.getElem?_append_right (by omega)]; congr 1; omega
@[simp] theorem get1_add : (H ++ K).get1 (H.length + k) o = K.get1 k o := by unfold Heap.get1; rw [app_get]
@[simp] theorem get1_len : (H ++ K).get1 H.length o = K.get1 0 o := get1_add (k := 0)
@[simp] theorem get1_zero : Heap.get1 (.cells c e fr s :: r) 0 o = getV c[o]? := by
  unfold Heap.get1 getV; simp only [List.getElem?_cons_zero]; cases c[o]? <;> rfl
@[simp] theorem get1_succ : Heap.get1 (x :: r) (k + 1) o = Heap.get1 r k o := by unfold Heap.get1; rw [List.getElem?_cons_succ]
@[simp] theorem get1_one : Heap.get1 (x :: r) 1 o = Heap.get1 r 0 o := get1_succ (k := 0)
@[simp] theorem getN_add : (H ++ K).getN (H.length + k) o n = K.getN k o n := by unfold Heap.getN; rw [app_get]
@[simp] theorem getN_len : (H ++ K).getN H.length o n = K.getN 0 o n := getN_add (k := 0)
@[simp] theorem getN_zero : Heap.getN (.cells c e fr s :: r) 0 o n = if o + n ≤ c.length ∧ ((c.drop o).take n).all isVal = true then some ((c.drop o).take n) else none := by
  unfold Heap.getN; simp only [List.getElem?_cons_zero]
@[simp] theorem getN_succ : Heap.getN (x :: r) (k + 1) o n = Heap.getN r k o n := by unfold Heap.getN; rw [List.getElem?_cons_succ]
@[simp] theorem getN_one : Heap.getN (x :: r) 1 o n = Heap.getN r 0 o n := getN_succ (k := 0)
theorem app_set (k : Nat) (y : Blk) : (H ++ K).set (H.length + k) y = H ++ K.set k y := by
  refine (List.set_append_right _ _ (by omega)).trans ?_
  rw [show List.length H + k - List.length H = k by omega]
@[simp] theorem put1_add : (H ++ K).put1 (H.length + k) o v = (K.put1 k o v).map (H ++ ·) := by
  unfold Heap.put1; rw [app_get]
  cases K[k]? with
  | none => rfl
  | some b => cases b <;> simp only [Option.map_none]; split <;> simp [app_set]
@[simp] theorem put1_len : (H ++ K).put1 H.length o v = (K.put1 0 o v).map (H ++ ·) := put1_add (k := 0)
@[simp] theorem put1_zero : Heap.put1 (.cells c e fr s :: r) 0 o v = if o < c.length ∧ one v = true ∧ melts fr s o 1 = true then some (.cells (c.set o v) e fr s :: r) else none := by
  unfold Heap.put1; simp only [List.getElem?_cons_zero, List.set_cons_zero]
@[simp] theorem put1_succ : Heap.put1 (x :: r) (k + 1) o v = (Heap.put1 r k o v).map (x :: ·) := by
  unfold Heap.put1; rw [List.getElem?_cons_succ]
  cases r[k]? with
  | none => rfl
  | some b => cases b <;> simp only [Option.map_none]; split <;> simp
@[simp] theorem put1_one : Heap.put1 (x :: r) 1 o v = (Heap.put1 r 0 o v).map (x :: ·) := put1_succ (k := 0)
variable {vs : List Value}
@[simp] theorem putN_add : (H ++ K).putN (H.length + k) o vs = (K.putN k o vs).map (H ++ ·) := by
  unfold Heap.putN; rw [app_get]
  cases K[k]? with
  | none => rfl
  | some b => cases b <;> simp only [Option.map_none]; split <;> simp [app_set]
@[simp] theorem putN_len : (H ++ K).putN H.length o vs = (K.putN 0 o vs).map (H ++ ·) := putN_add (k := 0)
@[simp] theorem putN_zero : Heap.putN (.cells c e fr s :: r) 0 o vs = if o + vs.length ≤ c.length ∧ vs.all one = true ∧ melts fr s o vs.length = true then some (.cells (putL c o vs) e fr s :: r) else none := by
  unfold Heap.putN; simp only [List.getElem?_cons_zero, List.set_cons_zero]
@[simp] theorem putN_succ : Heap.putN (x :: r) (k + 1) o vs = (Heap.putN r k o vs).map (x :: ·) := by
  unfold Heap.putN; rw [List.getElem?_cons_succ]
  cases r[k]? with
  | none => rfl
  | some b => cases b <;> simp only [Option.map_none]; split <;> simp
@[simp] theorem putN_one : Heap.putN (x :: r) 1 o vs = (Heap.putN r 0 o vs).map (x :: ·) := putN_succ (k := 0)

/-- What is read; what is written. -/
def outO (o : Option Value) (H : Heap) : Out Value := match o with
  | some v => .ret v H
  | none => .bad
@[simp] theorem outO_some : outO (some v) H = .ret v H := Eq.trans rfl rfl
def outG (o : Option (List Value)) (H : Heap) : Out Value := match o with
  | some vs => .ret (.agg vs.toArray) H
  | none => .bad
@[simp] theorem outG_some : outG (some vs) H = .ret (.agg vs.toArray) H := Eq.trans rfl rfl
def outH : Option Heap → Out Value
  | some H => .ret undef H
  | none => .bad
@[simp] theorem outH_some : outH (some H) = .ret undef H := Eq.trans rfl rfl
@[simp] theorem ldS_at {a : Addr} : ldS (.pointer (some a)) H = outO (H.get1 a.block a.off) H := by
  unfold outO; cases h : H.get1 a.block a.off <;> simp [ldS, h]
@[simp] theorem ldG_at {a : Addr} : ldG n (.pointer (some a)) H = outG (H.getN a.block a.off n) H := by
  unfold outG; cases h : H.getN a.block a.off n <;> simp [ldG, h]
@[simp] theorem stS_at {a : Addr} : stS (.pointer (some a)) v H = outH (H.put1 a.block a.off v) := by
  unfold outH; cases h : H.put1 a.block a.off v <;> simp [stS, h]
@[simp] theorem stG_at {a : Addr} {q : Array Value} : stG n (.pointer (some a)) (.agg q) H = if q.size = n then outH (H.putN a.block a.off q.toList) else .bad := by
  unfold outH; by_cases hq : q.size = n
  · rw [if_pos hq]; cases h : H.putN a.block a.off q.toList <;> simp [stG, h, hq]
  · rw [if_neg hq]; simp [stG, hq]
@[simp] theorem len_at {E : Env} {t ty : TypeId} {a : Value} : aBuiltin E .len #[t] ty [a] H = aLen E.P t a H := Eq.trans rfl rfl
@[simp] theorem idxS_at {a : Addr} {l cp m : Nat} {kd : IntKind} {i : Int} : idxS m (.slice (some a) l cp) (.int kd i) H = if 0 ≤ i ∧ i < l then .ret (.pointer (some ⟨a.block, a.off + i.toNat * m, none⟩)) H else .bad := Eq.trans rfl rfl
end behind

/-- A function with a text. -/
def okFn (P : Program) (f : FuncId) : Bool := match P.funcs[f]? with
  | some fn => fn.body.isSome && !(fn.name == "runtime.NumGoroutine")
  | none => false

theorem inv_eq {E : Env} {C : Calls'} {f : FuncId} {first capt : Array Value} {args : List Value} {H : Heap} (h : okFn E.P f = true) : aInvoke E C (.func (.func f) first capt) args H = C (.call f (first.toList ++ args ++ capt.toList)) H := by
  unfold okFn at h
  unfold aInvoke
  cases hf : E.P.funcs[f]? with
  | none => rw [hf] at h; cases h
  | some fn =>
    rw [hf] at h
    simp only [Bool.and_eq_true, Bool.not_eq_true'] at h
    simp only [hf]
    rw [if_pos h]

theorem invF_eq {E : Env} {C : Calls'} {f : FuncId} {first capt : Array Value} {args : List Value} {H : Heap} (h : okFn E.P f = true) : aCallF E C (.func (.func f) first capt) args H = C (.call f (first.toList ++ args ++ capt.toList)) H := by
  unfold okFn at h
  unfold aCallF
  cases hf : E.P.funcs[f]? with
  | none => rw [hf] at h; cases h
  | some fn =>
    rw [hf] at h
    simp only [Bool.and_eq_true, Bool.not_eq_true'] at h
    simp only [hf]
    rw [if_pos h]
end Go.Wel
