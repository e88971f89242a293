/- The other operations: numbers, strings, lengths, copies, values built, interface values. -/
import Derived.Test.YtajdleoobkfckaaGreatDoorWelApp
set_option linter.unusedSimpArgs false
set_option linter.unusedVariables false
namespace Go.Wel
open Go

/-- Of two integers of one kind. -/
def intBin (op : BinOp) (k : IntKind) (a b : Int) : Option Value := match op with
  | .add => some (.int k (k.wrap (a + b)))
  | .sub => some (.int k (k.wrap (a - b)))
  | .mul => some (.int k (k.wrap (a * b)))
  | .quo => if b = 0 then none else some (.int k (k.wrap (a.tdiv b)))
  | .rem => if b = 0 then none else some (.int k (a.tmod b))
  | .and => some (.int k (k.wrap (BitVec.ofInt k.bits a &&& BitVec.ofInt k.bits b).toNat))
  | .or => some (.int k (k.wrap (BitVec.ofInt k.bits a ||| BitVec.ofInt k.bits b).toNat))
  | .xor => some (.int k (k.wrap (BitVec.ofInt k.bits a ^^^ BitVec.ofInt k.bits b).toNat))
  | .andNot => some (.int k (k.wrap (BitVec.ofInt k.bits a &&& ~~~(BitVec.ofInt k.bits b)).toNat))
  | .eql => some (.bool (a == b))
  | .neq => some (.bool (a != b))
  | .lss => some (.bool (decide (a < b)))
  | .leq => some (.bool (decide (a ≤ b)))
  | .gtr => some (.bool (decide (a > b)))
  | .geq => some (.bool (decide (a ≥ b)))
  | _ => none

def shiftBin (op : BinOp) (k : IntKind) (a b : Int) : Option Value := if b < 0 then none else match op with
  | .shl => some (.int k (k.wrap (a * 2 ^ (min b.toNat k.bits))))
  | .shr => some (.int k (a.fdiv (2 ^ (min b.toNat k.bits))))
  | _ => none

def strBin (op : BinOp) (x y : ByteArray) : Option Value := match op with
  | .add => if x.size + y.size ≤ 9223372036854775807 then some (.string (x ++ y)) else none
  | .eql => some (.bool (x.toList == y.toList))
  | .neq => some (.bool (!(x.toList == y.toList)))
  | .lss => some (.bool (Op.bytesLess x.toList y.toList))
  | .leq => some (.bool (Op.bytesLess x.toList y.toList || x.toList == y.toList))
  | .gtr => some (.bool (!(Op.bytesLess x.toList y.toList || x.toList == y.toList)))
  | .geq => some (.bool (!(Op.bytesLess x.toList y.toList)))
  | _ => none

/-- Are two values of a type the same? (Pointers: of blocks that are as they were made.) -/
def plainAt (H : Heap) (i : Nat) : Bool := match H[i]? with
  | some (.cells _ _ (0, 0) false) => true
  | _ => false

def eqv (P : Program) (t : TypeId) (x y : Value) (H : Heap) : Option Bool := match P.underlying t, x, y with
  | some .bool, .bool a, .bool b => some (a == b)
  | some (.pointer _), .pointer none, .pointer b => some b.isNone
  | some (.pointer _), .pointer (some _), .pointer none => some false
  | some (.pointer e), .pointer (some a), .pointer (some b) => if (P.info? e).isSome = true ∧ P.cellsOf e ≠ 0 then
      if a.block = b.block then some (decide (a.off = b.off)) else if plainAt H a.block = true ∧ plainAt H b.block = true then some false else none
    else none
  | some (.slice _), .slice none _ _, .slice b _ _ => some b.isNone
  | some (.slice _), .slice (some _) _ _, .slice none _ _ => some false
  | some (.map _ _), .map none, .map b => some b.isNone
  | some (.map _ _), .map (some _), .map none => some false
  | some (.func _ _ _), .nilFunc, .nilFunc => some true
  | some (.func _ _ _), .nilFunc, .func _ _ _ => some false
  | some (.func _ _ _), .func _ _ _, .nilFunc => some false
  | some (.interface _), .nilIface, .nilIface => some true
  | some (.interface _), .nilIface, .iface _ _ => some false
  | some (.interface _), .iface _ _, .nilIface => some false
  | some (.interface _), .iface a v, .iface b w => if flat (.iface a v) = true ∧ flat (.iface b w) = true then
      match (Op.equal t (.iface a v) (.iface b w)).run P default with
      | .ok r _ => some r
      | _ => none
    else none
  | some (.struct _), .agg a, .agg b => if flat (.agg a) = true ∧ flat (.agg b) = true then
      match (Op.equal t (.agg a) (.agg b)).run P default with
      | .ok r _ => some r
      | _ => none
    else none
  | some (.array _ _), .agg a, .agg b => if flat (.agg a) = true ∧ flat (.agg b) = true then
      match (Op.equal t (.agg a) (.agg b)).run P default with
      | .ok r _ => some r
      | _ => none
    else none
  | _, _, _ => none

def isConstO : Operand → Bool
  | .const _ => true
  | _ => false

def eqOut (op : BinOp) (o : Option Bool) (H : Heap) : Out Value := match op, o with
  | .eql, some b => .ret (.bool b) H
  | .neq, some b => .ret (.bool (!b)) H
  | _, _ => .bad

def aBin (P : Program) (op : BinOp) (t : TypeId) (xo yo : Operand) (x y : Value) : M Value := fun H => match x, y with
  | .int k a, .int k' b => if op = .shl ∨ op = .shr then M.ofOption (shiftBin op k a b) H else if k = k' then M.ofOption (intBin op k a b) H else .bad
  | .string a, .string b => M.ofOption (strBin op a b) H
  | .nilIface, .nilIface => if isConstO xo = true ∨ isConstO yo = true then eqOut op (eqv P t .nilIface .nilIface H) H else .bad
  | .agg a, .agg b => if P.eqGuardType P.depth t = false then eqOut op (eqv P t (.agg a) (.agg b) H) H else .bad
  | x, y => eqOut op (eqv P t x y H) H

section
variable {P : Program} {L : Lays} {H : Heap} {w : World}

theorem run_intBin {op : BinOp} {k : IntKind} {a b : Int} {v : Value} (h : intBin op k a b = some v) (t : TypeId) (w : World) : (binOp op t (.int k a) (.int k b)).run P w = .ok v w := by
  cases op <;> simp only [intBin] at h <;> (try split at h) <;> (try cases h)
  all_goals simp_all [binOp, Op.intArith, Op.intDiv, Op.intBits, Op.intCmp]

theorem run_shiftBin {op : BinOp} {k k' : IntKind} {a b : Int} {v : Value} (h : shiftBin op k a b = some v) (t : TypeId) (w : World) : (binOp op t (.int k a) (.int k' b)).run P w = .ok v w := by
  unfold shiftBin at h
  split at h
  · cases h
  · rename_i hb
    split at h <;> cases h <;> simp [binOp, Op.shift, hb]

theorem run_strBin {op : BinOp} {a b : ByteArray} {v : Value} (h : strBin op a b = some v) (t : TypeId) (w : World) : (binOp op t (.string a) (.string b)).run P w = .ok v w := by
  cases op <;> simp only [strBin] at h <;> (try split at h) <;> (try cases h)
  · rename_i hs
    have hm : IntKind.i64.max = 9223372036854775807 := by decide
    have : ¬ (((a.size + b.size : Nat) : Int) > IntKind.i64.max) := by rw [hm]; omega
    simp only [binOp, Op.stringOp, this, if_false, Sem.run_pure]
  all_goals simp [binOp, Op.stringOp]

theorem eqGuard_other {op : BinOp} {t : TypeId} {xo yo : Operand} {x y : Value} (h1 : ¬ (x = .nilIface ∧ y = .nilIface)) (h2 : ∀ a b, ¬ (x = .agg a ∧ y = .agg b)) (w : World) :
    (eqGuard op t xo yo x y).run P w = .ok () w := by
  unfold eqGuard
  cases op <;> first
    | rfl
    | (cases x <;> first
        | rfl
        | (cases y <;> first
            | rfl
            | exact absurd ⟨rfl, rfl⟩ h1
            | exact absurd ⟨rfl, rfl⟩ (h2 _ _)))

theorem eqGuard_nil {op : BinOp} {t : TypeId} {xo yo : Operand} (h : isConstO xo = true ∨ isConstO yo = true) (w : World) :
    (eqGuard op t xo yo .nilIface .nilIface).run P w = .ok () w := by
  unfold eqGuard
  cases op <;> first
    | rfl
    | (cases xo <;> cases yo <;> first | rfl | simp [isConstO] at h)

theorem eqGuard_agg {op : BinOp} {t : TypeId} {xo yo : Operand} {a b : Array Value} (h : P.eqGuardType P.depth t = false) (w : World) :
    (eqGuard op t xo yo (.agg a) (.agg b)).run P w = .ok () w := by
  unfold eqGuard
  cases op <;> first
    | rfl
    | simp [h]

theorem sameAddr_other (h : Sim P L H w) {a b : Addr} {la lb : Lay} (hla : L[a.block]? = some la) (hlb : L[b.block]? = some lb) (hne : a.block ≠ b.block)
    (ha : plainAt H a.block = true) (hb : plainAt H b.block = true) : (sameAddr ⟨la.b, a.off, none⟩ ⟨lb.b, b.off, none⟩).run P w = .ok false w := by
  have get : ∀ {i : Nat} {l : Lay}, L[i]? = some l → plainAt H i = true → ∃ c e k, H[i]? = some k ∧ k.alive = true ∧ w.heap[l.b]? = some (.cells c e (0, 0)) := by
    intro i l hl hp
    unfold plainAt at hp
    split at hp
    · rename_i c e hk
      obtain ⟨c', f, h1, h8, _⟩ := h.blk _ _ _ hl hk
      simp only [FrOk, Bool.false_eq_true, if_false] at h8
      subst h8
      exact ⟨c', e, _, hk, rfl, h1⟩
    · cases hp
  obtain ⟨ca, ea, ka, h1, h2, h3⟩ := get hla ha
  obtain ⟨cb, eb, kb, g1, g2, g3⟩ := get hlb hb
  have hnb : la.b ≠ lb.b := fun he => hne (h.inj _ _ _ _ _ _ hla hlb h1 g1 h2 g2 he)
  have hz1 : ∀ o, w.frozen? ⟨la.b, o, none⟩ = false := fun o => by simp [World.frozen?, h3]
  have hz2 : ∀ o, w.frozen? ⟨lb.b, o, none⟩ = false := fun o => by simp [World.frozen?, g3]
  simp [sameAddr, hnb, hz1, hz2, noView, viewAt, World.shape?, h3, g3, mayBeOne, stringish]

def ctor : Value → Nat
  | .bool _ => 0 | .int _ _ => 1 | .float _ _ => 2 | .complex _ _ _ => 3 | .string _ => 4 | .pointer _ => 5 | .slice _ _ _ => 6 | .map _ => 7 | .chan _ => 8
  | .func _ _ _ => 9 | .nilFunc => 10 | .iface _ _ => 11 | .nilIface => 12 | .agg _ => 13 | .tuple _ => 14

theorem VR.ctor_eq {v v' : Value} (h : VR L v v') : ctor v' = ctor v := by cases h <;> rfl

theorem run_eqop {t : TypeId} {x y : Value} {w : World} {b : Bool} (h1 : ¬ (ctor x = 1 ∧ ctor y = 1)) (h2 : ctor x ≠ 2) (h3 : ctor x ≠ 3) (h4 : ¬ (ctor x = 4 ∧ ctor y = 4))
    (hr : (Op.equal t x y).run P w = .ok b w) : (binOp .eql t x y).run P w = .ok (.bool b) w ∧ (binOp .neq t x y).run P w = .ok (.bool (!b)) w := by
  have key : (binOp .eql t x y) = (do pure (.bool (← Op.equal t x y))) ∧ (binOp .neq t x y) = (do pure (.bool (!(← Op.equal t x y)))) := by
    cases x <;> first
      | exact absurd rfl h2
      | exact absurd rfl h3
      | (cases y <;> first
          | exact ⟨rfl, rfl⟩
          | exact absurd ⟨rfl, rfl⟩ h1
          | exact absurd ⟨rfl, rfl⟩ h4)
  rw [key.1, key.2]
  simp [hr]

theorem eqv_sound (h : Sim P L H w) {x x' y y' : Value} (hx : TR L x x') (hy : TR L y y') {t : TypeId} {b : Bool} (he : eqv P t x y H = some b) :
    (Op.equal t x' y').run P w = .ok b w := by
  have vr : ∀ {v v' : Value}, TR L v v' → v ≠ undef → VR L v v' := fun h hn => h.vr hn
  have red : ∀ x y, (Op.equal t x y).run P w = (Op.equalIn (9999 + 1) t x y).run P w := fun _ _ => rfl
  unfold eqv at he
  split at he
  · rename_i hu
    obtain rfl := hx.bool; obtain rfl := hy.bool
    cases he
    rw [red]; generalize 9999 = d; simp [Op.equalIn, run_und hu]
  · rename_i hu
    obtain rfl := (hx.vr (by simp [undef])).nilp_inv
    cases he
    rename_i bb
    cases bb with
    | none => obtain rfl := (hy.vr (by simp [undef])).nilp_inv; rw [red]; generalize 9999 = d; simp [Op.equalIn, run_und hu]
    | some bb => obtain ⟨l, _, rfl⟩ := hy.ptr; rw [red]; generalize 9999 = d; simp [Op.equalIn, run_und hu]
  · rename_i hu
    obtain ⟨l, _, rfl⟩ := hx.ptr
    obtain rfl := (hy.vr (by simp [undef])).nilp_inv
    cases he
    rw [red]; generalize 9999 = d; simp [Op.equalIn, run_und hu]
  · rename_i e a bb hu
    obtain ⟨l, hl, rfl⟩ := hx.ptr
    obtain ⟨l', hl', rfl⟩ := hy.ptr
    split at he
    · rename_i hc
      have hrun : (Op.equal t (.pointer (some ⟨l.b, a.off, none⟩)) (.pointer (some ⟨l'.b, bb.off, none⟩))).run P w = (sameAddr ⟨l.b, a.off, none⟩ ⟨l'.b, bb.off, none⟩).run P w := by
        rw [red]; generalize 9999 = d; simp [Op.equalIn, run_und hu, run_size hc.1, hc.2]
      rw [hrun]
      split at he
      · rename_i hs
        rw [hs, hl'] at hl
        cases hl
        cases he
        simp only [sameAddr, beq_self_eq_true, if_true, Sem.run_pure]
        congr 1
        rw [Bool.eq_iff_iff]
        simp
      · rename_i hs
        split at he
        · rename_i hp
          cases he
          exact sameAddr_other h hl hl' hs hp.1 hp.2
        · cases he
    · cases he
  · rename_i hu
    obtain rfl := (hx.vr (by simp [undef])).nils_inv
    cases he
    rename_i bb _ _
    cases bb with
    | none => obtain rfl := (hy.vr (by simp [undef])).nils_inv; rw [red]; generalize 9999 = d; simp [Op.equalIn, run_und hu]
    | some bb => obtain ⟨_, _, rfl⟩ := (hy.vr (by simp [undef])).slice_some; rw [red]; generalize 9999 = d; simp [Op.equalIn, run_und hu]
  · rename_i hu
    obtain ⟨_, _, rfl⟩ := (hx.vr (by simp [undef])).slice_some
    obtain rfl := (hy.vr (by simp [undef])).nils_inv
    cases he
    rw [red]; generalize 9999 = d; simp [Op.equalIn, run_und hu]
  · rename_i hu
    obtain rfl := (hx.vr (by simp [undef])).nilm_inv
    cases he
    rename_i bb
    cases bb with
    | none => obtain rfl := (hy.vr (by simp [undef])).nilm_inv; rw [red]; generalize 9999 = d; simp [Op.equalIn, run_und hu]
    | some bb => obtain ⟨l, _, rfl⟩ := (hy.vr (by simp [undef])).map_inv; rw [red]; generalize 9999 = d; simp [Op.equalIn, run_und hu]
  · rename_i hu
    obtain ⟨l, _, rfl⟩ := (hx.vr (by simp [undef])).map_inv
    obtain rfl := (hy.vr (by simp [undef])).nilm_inv
    cases he
    rw [red]; generalize 9999 = d; simp [Op.equalIn, run_und hu]
  · rename_i hu
    obtain rfl := (hx.vr (by simp [undef])).nilf_inv
    obtain rfl := (hy.vr (by simp [undef])).nilf_inv
    cases he
    rw [red]; generalize 9999 = d; simp [Op.equalIn, run_und hu]
  · rename_i hu
    obtain rfl := (hx.vr (by simp [undef])).nilf_inv
    obtain ⟨_, _, _, rfl, _⟩ := (hy.vr (by simp [undef])).func_inv
    cases he
    rw [red]; generalize 9999 = d; simp [Op.equalIn, run_und hu]
  · rename_i hu
    obtain ⟨_, _, _, rfl, _⟩ := (hx.vr (by simp [undef])).func_inv
    obtain rfl := (hy.vr (by simp [undef])).nilf_inv
    cases he
    rw [red]; generalize 9999 = d; simp [Op.equalIn, run_und hu]
  · rename_i hu
    obtain rfl := (hx.vr (by simp [undef])).nili_inv
    obtain rfl := (hy.vr (by simp [undef])).nili_inv
    cases he
    rw [red]; generalize 9999 = d; simp [Op.equalIn, run_und hu]
  · rename_i hu
    obtain rfl := (hx.vr (by simp [undef])).nili_inv
    obtain ⟨_, rfl, _⟩ := (hy.vr (by simp [undef])).iface_inv
    cases he
    rw [red]; generalize 9999 = d; simp [Op.equalIn, run_und hu]
  · rename_i hu
    obtain ⟨_, rfl, _⟩ := (hx.vr (by simp [undef])).iface_inv
    obtain rfl := (hy.vr (by simp [undef])).nili_inv
    cases he
    rw [red]; generalize 9999 = d; simp [Op.equalIn, run_und hu]
  all_goals
    first
      | (cases he; done)
      | (split at he
         · rename_i hc
           obtain rfl := flat_eq hc.1 (hx.vr (by simp [undef]))
           obtain rfl := flat_eq hc.2 (hy.vr (by simp [undef]))
           have st := still_equalIn (P := P) Op.maxDepth t _ _ 8 8 hc.1 hc.2
           split at he
           · rename_i hr
             cases he
             exact st.run hr w
           · cases he
         · cases he)

theorem sound_bin (h : Sim P L H w) {x x' y y' : Value} (hx : TR L x x') (hy : TR L y y') (op : BinOp) (t : TypeId) (xo yo : Operand) :
    Snd P L w (do eqGuard op t xo yo x' y'; binOp op t x' y') (aBin P op t xo yo x y H) := by
  have fin : ∀ {s : Sem Value} {o : Option Value}, (∀ v, o = some v → s.run P w = .ok v w ∧ VR L v v) → Snd P L w s (M.ofOption o H) := by
    intro s o hs
    cases o with
    | none => trivial
    | some v => exact .pure h (hs v rfl).1 (hs v rfl).2
  have ivr : ∀ {op : BinOp} {k : IntKind} {a b : Int} {v : Value}, intBin op k a b = some v → VR L v v := by
    intro op k a b v hv
    cases op <;> simp only [intBin] at hv <;> (try split at hv) <;> (try cases hv) <;> first | exact .int _ _ | exact .bool _
  have svr : ∀ {op : BinOp} {k : IntKind} {a b : Int} {v : Value}, shiftBin op k a b = some v → VR L v v := by
    intro op k a b v hv
    unfold shiftBin at hv
    split at hv
    · cases hv
    · split at hv <;> cases hv <;> exact .int _ _
  have tvr : ∀ {op : BinOp} {a b : ByteArray} {v : Value}, strBin op a b = some v → VR L v v := by
    intro op a b v hv
    cases op <;> simp only [strBin] at hv <;> (try split at hv) <;> (try cases hv) <;> first | exact .string _ | exact .bool _
  have eqn : ∀ (g : (eqGuard op t xo yo x' y').run P w = .ok () w) (hneq : ∀ b, eqv P t x y H = some b → (binOp .eql t x' y').run P w = .ok (.bool b) w ∧ (binOp .neq t x' y').run P w = .ok (.bool (!b)) w),
      Snd P L w (do eqGuard op t xo yo x' y'; binOp op t x' y') (eqOut op (eqv P t x y H) H) := by
    intro g hneq
    cases he : eqv P t x y H with
    | none => cases op <;> trivial
    | some b =>
      cases op
      case eql => exact .pure (v' := .bool b) h (by simp only [Sem.run_bind, g, Result.andThen_ok, (hneq b he).1]) (.bool _)
      case neq => exact .pure (v' := .bool (!b)) h (by simp only [Sem.run_bind, g, Result.andThen_ok, (hneq b he).2]) (.bool _)
      all_goals trivial
  unfold aBin
  split
  · rename_i k a k' b
    obtain rfl := hx.int; obtain rfl := hy.int
    have g := eqGuard_other (P := P) (op := op) (t := t) (xo := xo) (yo := yo) (x := .int k a) (y := .int k' b) (by simp) (by simp) w
    split
    · exact fin fun v hv => ⟨by simp only [Sem.run_bind, g, Result.andThen_ok, run_shiftBin hv], svr hv⟩
    · split
      · rename_i hk; subst hk
        exact fin fun v hv => ⟨by simp only [Sem.run_bind, g, Result.andThen_ok, run_intBin hv], ivr hv⟩
      · trivial
  · rename_i a b
    obtain rfl := hx.string; obtain rfl := hy.string
    have g := eqGuard_other (P := P) (op := op) (t := t) (xo := xo) (yo := yo) (x := .string a) (y := .string b) (by simp) (by simp) w
    exact fin fun v hv => ⟨by simp only [Sem.run_bind, g, Result.andThen_ok, run_strBin hv], tvr hv⟩
  · split
    · rename_i hc
      obtain rfl := (hx.vr (by simp [undef])).nili_inv
      obtain rfl := (hy.vr (by simp [undef])).nili_inv
      refine eqn (eqGuard_nil hc w) fun b hb => ?_
      have := eqv_sound h hx hy hb
      constructor <;> simp [binOp, this]
    · trivial
  · split
    · rename_i hc
      obtain ⟨a', rfl, _⟩ := (hx.vr (by simp [undef])).agg_inv
      obtain ⟨b', rfl, _⟩ := (hy.vr (by simp [undef])).agg_inv
      refine eqn (eqGuard_agg hc w) fun b hb => ?_
      have := eqv_sound h hx hy hb
      constructor <;> simp [binOp, this]
    · trivial
  · rename_i n1 n2 n3 n4
    cases hev : eqv P t x y H with
    | none => cases op <;> trivial
    | some b0 =>
      have hrun := eqv_sound h hx hy hev
      have hcx : ctor x ≠ 2 ∧ ctor x ≠ 3 ∧ ctor x ≠ 14 ∧ ctor y ≠ 14 := by
        cases x <;> cases y <;> simp [eqv, ctor] at hev ⊢
      have hx1 : x ≠ undef := fun he => by subst he; exact hcx.2.2.1 rfl
      have hy1 : y ≠ undef := fun he => by subst he; exact hcx.2.2.2 rfl
      have cx := (hx.vr hx1).ctor_eq
      have cy := (hy.vr hy1).ctor_eq
      have m1 : ¬ (ctor x = 1 ∧ ctor y = 1) := by
        rintro ⟨q1, q2⟩
        cases x <;> simp [ctor] at q1
        cases y <;> simp [ctor] at q2
        exact n1 _ _ _ _ rfl rfl
      have m4 : ¬ (ctor x = 4 ∧ ctor y = 4) := by
        rintro ⟨q1, q2⟩
        cases x <;> simp [ctor] at q1
        cases y <;> simp [ctor] at q2
        exact n2 _ _ rfl rfl
      have m12 : ¬ (ctor x = 12 ∧ ctor y = 12) := by
        rintro ⟨q1, q2⟩
        cases x <;> simp [ctor] at q1
        cases y <;> simp [ctor] at q2
        exact n3 rfl rfl
      have m13 : ¬ (ctor x = 13 ∧ ctor y = 13) := by
        rintro ⟨q1, q2⟩
        cases x <;> simp [ctor] at q1
        cases y <;> simp [ctor] at q2
        exact n4 _ _ rfl rfl
      rw [← hev]
      refine eqn (eqGuard_other ?_ ?_ w) fun b hb => ?_
      · rintro ⟨rfl, rfl⟩; exact m12 ⟨cx.symm, cy.symm⟩
      · rintro a b ⟨rfl, rfl⟩; exact m13 ⟨cx.symm, cy.symm⟩
      · rw [hev] at hb; cases hb
        have := run_eqop (P := P) (t := t) (x := x') (y := y') (w := w) (b := b0) (by rw [cx, cy]; exact m1) (by rw [cx]; exact hcx.1) (by rw [cx]; exact hcx.2.1) (by rw [cx, cy]; exact m4) hrun
        exact this
end
end Go.Wel
