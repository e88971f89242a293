/- What code comes to over the abstract memory: a function of what stands in the slots. -/
import Derived.Test.YtajdleoobkfckaaGreatDoorWelOp6
set_option linter.unusedSimpArgs false
set_option linter.unusedVariables false
namespace Go.Wel
open Go

structure R where
  e : Ex
  p : List Value

/-- A call; a round of a range over a function. -/
inductive Req where
  | call (f : FuncId) (args : List Value)
  | round (l : Nat) (args : List Value)

abbrev Calls' := Req → M Value

/-- What is needed of the program, and which slots are handed on where ways meet. -/
structure Env where
  P : Program
  gn : Nat
  ov : FuncId → Option (List Value → M Value)
  same : Value → Value → Bool
  sure : ∀ v v', same v v' = true → v = v'

section
variable (E : Env) (C : Calls')

def opnd (τ : List Value) : Operand → Value
  | .tmp t => τ.getD t undef
  | .const v => if flat v = true then v else undef
  | .global g => if g < E.gn then .pointer (some ⟨g, 0, none⟩) else undef
  | .func f => .func (.func f) #[] #[]

def opnds (τ : List Value) (l : Array Operand) : List Value := l.toList.map (opnd E τ)

/-- A function value that is called. -/
def aInvoke (fv : Value) (args : List Value) : M Value := fun H => match fv with
  | .func (.func f) first capt => match E.P.funcs[f]? with
    | some fn => if fn.body.isSome = true ∧ (fn.name == "runtime.NumGoroutine") = false then C (.call f (first.toList ++ args ++ capt.toList)) H else .bad
    | none => .bad
  | .func (.yield i) first _ => if first.size = 0 then match H[i]? with
      | some (.loop _ _ _ _ rf) => if args.length = rf.ps.size then C (.round i args) H else .bad
      | _ => .bad
    else .bad
  | _ => .bad

def aBuiltin (b : Builtin) (ts : Array TypeId) (ty : TypeId) (args : List Value) : M Value := fun H => match b, ts.toList, args with
  | .append, [st, xt], [s, x] => if ty = st then aAppend E.P st xt s x H else .bad
  | .copy, [t, _], [d, s] => aCopy E.P t d s H
  | .clear, [t], [x] => aClear E.P t x H
  | .delete, [t, _], [m, k] => aDelete E.P t m k H
  | .len, [t], [x] => aLen E.P t x H
  | .max, _, xs => aMinMax true xs H
  | .min, _, xs => aMinMax false xs H
  | _, _, _ => .bad

def pickM (c a b : Value) : M Value := fun H => match c with
  | .bool t => .ret (if t then a else b) H
  | _ => .bad

/-- An operation: the value that it hands on. -/
def opM {β : Type} (o : Oper) (τ : List Value) (k : Value → M β) : M β := match o.op with
  | .move x => k (opnd E τ x)
  | .assign x => k (opnd E τ x)
  | .pick c a b => (pickM (opnd E τ c) (opnd E τ a) (opnd E τ b)).bind k
  | .alloc e => (aAlloc E.P e).bind k
  | .box e x => (aBox e (opnd E τ x)).bind k
  | .build t ps => (aBuild E.P t (ps.toList.map fun (i, x) => (i, opnd E τ x))).bind k
  | .buildSlice t n ps => (aBuildSlice E.P t n (ps.toList.map fun (i, x) => (i, opnd E τ x))).bind k
  | .load t a => (aLoad E.P t (opnd E τ a)).bind k
  | .store t a x => (aStore E.P t (opnd E τ a) (opnd E τ x)).bind fun _ => k undef
  | .nilCheck x => (aNil (opnd E τ x)).bind k
  | .binOp op t x y _ => (aBin E.P op t x y (opnd E τ x) (opnd E τ y)).bind k
  | .unOp op _ x => (aUn op (opnd E τ x)).bind k
  | .convert s d x => (aConv E.P s d (opnd E τ x)).bind k
  | .makeInterface t x => (aMkIface E.P t (opnd E τ x)).bind k
  | .makeFunc fn a c => (aMkFunc fn (opnds E τ a) (opnds E τ c)).bind k
  | .makeMap t r => (aMakeMap E.P t (r.map (opnd E τ))).bind k
  | .makeSlice t l c => (aMakeSlice E.P t (opnd E τ l) (opnd E τ c)).bind k
  | .slice t x lo hi mx => (aSlice E.P t (opnd E τ x) (lo.map (opnd E τ)) (hi.map (opnd E τ)) (mx.map (opnd E τ))).bind k
  | .fieldAddr t x f => (aFieldAddr E.P t (opnd E τ x) f).bind k
  | .field t x f => (aField E.P t (opnd E τ x) f).bind k
  | .indexAddr t x i => (aIndexAddr E.P t (opnd E τ x) (opnd E τ i)).bind k
  | .index t x i => (aIndex E.P t (opnd E τ x) (opnd E τ i)).bind k
  | .lookup t x i ok => (aLookup E.P t (opnd E τ x) (opnd E τ i) ok).bind k
  | .mapUpdate t m x v => (aMapUpdate E.P t (opnd E τ m) (opnd E τ x) (opnd E τ v)).bind fun _ => k undef
  | .insert t m x v => (aMapUpdate E.P t (opnd E τ m) (opnd E τ x) (opnd E τ v)).bind fun _ => k undef
  | .range t x => (aRange E.P t (opnd E τ x)).bind k
  | .next it b => (aNext (opnd E τ it) b).bind k
  | .typeAssert x _ d ok => (aAssert E.P (opnd E τ x) d ok).bind k
  | .extract x i => (aExtract (opnd E τ x) i).bind k
  | .panic x => (aPanic (opnd E τ x)).bind k
  | .call c => match c.callee with
    | .value f => (aInvoke E C (opnd E τ f) (opnds E τ c.args)).bind k
    | .builtin b => (aBuiltin E b c.argTypes o.type (opnds E τ c.args)).bind k
    | .invoke _ _ => M.bad
  | _ => M.bad

def putS (d : Option Tmp) (v : Value) (τ : List Value) : List Value := match d with
  | some t => τ.set t v
  | none => τ

/-- Is an operation carried out? (none: it can't be told) -/
def guardS (ops : Array Oper) (o : Oper) (τ : List Value) : Option Bool := match o.guard with
  | none => some true
  | some (j, want) => match (ops[j]?).bind (·.dst) with
    | some t => match τ.getD t undef with
      | .bool b => some (b == want)
      | _ => none
    | none => none

/-- An operation that is carried out only if so. -/
def gM (g : Value) (want : Bool) (m : M Value) : M Value := fun H => match g with
  | .bool b => if b = want then m H else .ret undef H
  | _ => .bad

/-- The slot that an operation's guard looks at. -/
def guardV (ops : Array Oper) (j : Nat) (τ : List Value) : Value := match (ops[j]?).bind (·.dst) with
  | some t => τ.getD t undef
  | none => undef

/-- The same, but for the order in which the kernel looks. -/
def forceL {α β : Type} : List α → (List α → β) → β
  | [], k => k []
  | v :: l, k => forceL l fun l' => k (v :: l')

theorem forceL_eq {α β : Type} : ∀ (l : List α) (k : List α → β), forceL l k = k l
  | [], _ => rfl
  | v :: l, k => by rw [forceL, forceL_eq l]

def opsM (ops : Array Oper) : List Oper → List Value → (List Value → M R) → M R
  | [], τ, k => k τ
  | o :: r, τ, k => match o.guard with
    | none => opM E C o τ fun v => forceL (putS o.dst v τ) fun τ' => opsM ops r τ' k
    | some (j, want) => (gM (guardV ops j τ) want (opM E C o τ M.pure)).bind fun v => forceL (putS o.dst v τ) fun τ' => opsM ops r τ' k

/-- Is an operation one that acts on the memory? -/
def isEff (o : Oper) : Bool := match o.op with
  | .move _ | .assign _ | .pick _ _ _ | .build _ _ | .nilCheck _ | .binOp _ _ _ _ _ | .unOp _ _ _ | .makeInterface _ _ | .makeFunc _ _ _ | .slice _ _ _ _ _ | .fieldAddr _ _ _ | .field _ _ _ | .indexAddr _ _ _ | .index _ _ _ | .typeAssert _ _ _ _ | .extract _ _ => false
  | .load _ _ | .lookup _ _ _ _ => false
  | .convert _ d _ => match E.P.underlying d with | some (.slice _) => true | _ => false
  | .call c => match c.callee with | .builtin .len | .builtin .max | .builtin .min => false | _ => true
  | _ => true

/-- Does it read the memory? -/
def isRead (o : Oper) : Bool := match o.op with
  | .move _ | .assign _ | .pick _ _ _ | .build _ _ | .nilCheck _ | .unOp _ _ _ | .makeInterface _ _ | .makeFunc _ _ _ | .fieldAddr _ _ _ | .field _ _ _ | .indexAddr _ _ _ | .index _ _ _ | .typeAssert _ _ _ _ | .extract _ _ => false
  | .binOp op _ _ _ _ => match op with | .eql | .neq => true | _ => false
  | .convert s _ _ => match E.P.underlying s with | some (.slice _) => true | _ => false
  | .call c => match c.callee with
    | .builtin .len => match c.argTypes.toList with
      | [t] => match E.P.underlying t with | some (.map _ _) => true | _ => false
      | _ => true
    | .builtin .max | .builtin .min => false
    | _ => true
  | _ => true

/-- The slots that an operation looks at. -/
def looks (ops : Array Oper) (o : Oper) : List Tmp := (o.op.operands.toList.filterMap fun | .tmp t => some t | _ => none) ++ (match o.guard with | some (g, _) => ((ops[g]?).bind (·.dst)).toList | none => [])

def restr (ts : List Tmp) (τ : List Value) : List Value := (List.range τ.length).map fun t => if ts.contains t = true then τ.getD t undef else undef

/-- Of each operation, all that must come ahead of it. -/
def masks : List Oper → List Nat → List Nat
  | [], acc => acc
  | o :: r, acc => masks r (acc ++ [o.after.toList.foldl (fun s e => if Region.binds .any e = true then s ||| 2 ^ e.on ||| acc.getD e.on 0 else s) 0])

/-- Do two operations meet in a slot? -/
def meets (ops : Array Oper) (x y : Oper) : Bool := (match x.dst with | some d => (looks ops y).contains d || y.dst == some d | none => false) || (match y.dst with | some d => (looks ops x).contains d | none => false)

/-- The value that is handed on; nothing else may come of it. -/
def only {β : Type} (m : M Value) (f : Value → M β) : M β := fun H => match m H with
  | .ret v H' => f v H'
  | _ => .bad

/-- An operation with its guard. -/
def opG (ops : Array Oper) (o : Oper) (τ : List Value) : M Value := match o.guard with
  | none => opM E C o τ M.pure
  | some (j, want) => gM (guardV ops j τ) want (opM E C o τ M.pure)

/-- What was read stands as it was read. -/
def again (ops : Array Oper) : List (Nat × List Value × Value) → M R → M R
  | [], k => k
  | (p, τ, v) :: r, k => match ops[p]? with
    | some o => only (opG E C ops o τ) fun v' => if E.same v' v = true then again ops r k else M.bad
    | none => M.bad

/-- Of the operations that are done: index, does it act, does it read? -/
def mayD (ops : Array Oper) (b : List Nat) (i : Nat) (o : Oper) (done : List Nat) : Bool :=
  !done.contains i && (List.range ops.size).all (fun j => !(b.getD i 0).testBit j || done.contains j) &&
  (o.after.toList.all fun e => !Region.binds .any e || done.contains e.on) && done.all fun j => match ops[j]? with
    | some p => (!meets ops p o || (b.getD i 0).testBit j) && (!(isEff E p && (isEff E o || isRead E o)) || (b.getD i 0).testBit j)
    | none => false

def orderOk (ops : Array Oper) (b : List Nat) : List Nat → List Nat → Bool
  | [], done => (List.range ops.size).all done.contains
  | i :: K, done => match ops[i]? with
    | some o => mayD E ops b i o done && orderOk ops b K (i :: done)
    | none => false

def runD (ops : Array Oper) (b : List Nat) : List Nat → List (Nat × List Value × Value) → List Value → (List Value → M R) → M R
  | [], _, τ, k => k τ
  | i :: K, rs, τ, k => match ops[i]? with
    | some o => if isEff E o = true then only (opG E C ops o (restr (looks ops o) τ)) fun v => again E C ops (rs.filter fun x => !(b.getD i 0).testBit x.1) (forceL (putS o.dst v τ) fun τ' => runD ops b K rs τ' k)
        else only (opG E C ops o (restr (looks ops o) τ)) fun v => forceL (putS o.dst v τ) fun τ' => runD ops b K (if isRead E o = true then (i, restr (looks ops o) τ, v) :: rs else rs) τ' k
    | none => M.bad

def drawM (ops : Array Oper) (K : List Nat) (τ : List Value) (k : List Value → M R) : M R :=
  if orderOk E ops (masks ops.toList []) K [] = true ∧ K.length = ops.size then runD E C ops (masks ops.toList []) K [] τ k else M.bad

/-- Can code end by going on behind it? -/
def falls : Code → Bool
  | .ret | .exit _ | .goto _ | .refuse _ | .loop _ => false
  | .seq a b => falls a && falls b
  | .cond _ a b => falls a || falls b
  | _ => true

def An.l : An → An
  | .n _ x _ => x
  | .z => .z
def An.r : An → An
  | .n _ _ y => y
  | .z => .z
def An.K : An → List Nat
  | .n K _ _ => K
  | .z => []

/-- A loop: rounds until one is left otherwise than by going on. -/
def loopN (body : List Value → M R) : Nat → List Value → M R
  | 0, _ => M.bad
  | n + 1, p => (body p).bind fun r => if r.e = .normal then loopN body n r.p else M.pure r

def condM (v : Value) (x y : M R) : M R := fun H => match v with
  | .bool true => x H
  | .bool false => y H
  | _ => .bad

def hasLabel : Code → Nat → Bool
  | .seq a b, l => hasLabel a l || hasLabel b l
  | .label l', l => l' == l
  | _, _ => false

/-- The function that is ranged over is called. -/
def aCallF (fv : Value) (args : List Value) : M Value := fun H => match fv with
  | .func (.func f) first capt => match E.P.funcs[f]? with
    | some fn => if fn.body.isSome = true ∧ (fn.name == "runtime.NumGoroutine") = false then C (.call f (first.toList ++ args ++ capt.toList)) H else .bad
    | none => .bad
  | _ => .bad

/-- Is there a loop about it, and does it lie there? -/
def aboutOk (rd : Option Nat) (H : Heap) : Bool := match rd with
  | none => true
  | some i => match H[i]? with
    | some (.loop _ _ _ _ _) => true
    | _ => false

/-- Behind a range over a function: a round's jump, if there is one. -/
def afterM (i : Nat) (qs : Ex → List Value) (k : M R) : M R := fun H => match H[i]? with
  | some (.loop st pd _ _ _) => if st = .busy then .bad else match pd with
    | none => k (H.set i .dead)
    | some .ret => .ret ⟨.ret, qs .ret⟩ (H.set i .dead)
    | some (.exit id) => .ret ⟨.exit id, qs (.exit id)⟩ (H.set i .dead)
    | some (.goto l) => .ret ⟨.goto l, qs (.goto l)⟩ (H.set i .dead)
    | some _ => .bad
  | _ => .bad

/-- A range over a function: the function is called with what makes a round; then a round's jump, if there is one. -/
def rangeM (rd : Option Nat) (n : Nat) (rf : RF) (fv : Value) (q : List Value) (qs : Ex → List Value) (k : M R) : M R := fun H =>
  if aboutOk rd H = true then
    ((aCallF E C fv [.func (.yield H.length) #[] #[]]).bind fun _ => afterM H.length qs k) (H ++ [.loop .ready none n q rf])
  else .bad

/-- The labels of a scope's own. -/
def labels : Code → List Nat
  | .seq a b => labels a ++ labels b
  | .label l => [l]
  | _ => []

/-- From where on a scope is entered. -/
def pickE (l : Int) : List (Nat × M R) → M R
  | [] => M.bad
  | (l', m) :: r => if l = l' then m else pickE l r
def entryM (v : Value) (first : M R) (rest : List (Nat × M R)) : M R := match v with
  | .int _ l => pickE l rest
  | _ => first

/-- A scope that is left: by a jump to a label of its own it's entered again. -/
def scopeR (ls : List Nat) (r : R) : M R := match r.e with
  | .goto l => if ls.contains l = true then M.pure ⟨.normal, .int .i64 l :: r.p⟩ else M.pure r
  | _ => M.pure r

/-- Code, from its head or from a label on: what it comes to, with what comes behind it. -/
def den (Lp : (List Value → M R) → List Value → M R) (rd : Option Nat) (n : Nat) (keep : Ex → List Nat) : Code → An → Option Nat → List Value → (List Value → M R) → M R
  | .skip, _, none, τ, k => k τ
  | .label _, _, none, τ, k => k τ
  | .label l', _, some l, τ, k => if l' = l then k τ else M.bad
  | .region _ ops draw, an, none, τ, k => if draw = true then (if E.P.follows .mixedOrders = true then drawM E C ops an.K τ k else M.bad) else opsM E C ops ops.toList τ k
  | .seq a b, an, none, τ, k => den Lp rd n keep a an.l none τ fun τ' => den Lp rd n keep b an.r none τ' k
  | .seq a b, an, some l, τ, k => if hasLabel a l = true then den Lp rd n keep a an.l (some l) τ fun τ' => den Lp rd n keep b an.r none τ' k else den Lp rd n keep b an.r (some l) τ k
  | .cond c a b, an, none, τ, k => if falls a = true ∧ falls b = true then
        (condM (opnd E τ c) (den Lp rd n keep a an.l none τ fun τ' => M.pure ⟨.normal, squeeze an.K τ'⟩) (den Lp rd n keep b an.r none τ fun τ' => M.pure ⟨.normal, squeeze an.K τ'⟩)).bind fun r =>
          if r.e = .normal then k (spread n an.K r.p) else M.pure r
      else condM (opnd E τ c) (den Lp rd n keep a an.l none τ k) (den Lp rd n keep b an.r none τ k)
  | .block id b, an, none, τ, k => (den Lp rd n keep b an.l none τ fun τ' => M.pure ⟨.normal, squeeze (keep (.exit id)) τ'⟩).bind fun r =>
      if r.e = .normal ∨ r.e = .exit id then k (spread n (keep (.exit id)) r.p) else M.pure r
  | .loop b, an, none, τ, _ => Lp (fun p => den Lp rd n keep b an.l none (spread n an.K p) fun τ' => M.pure ⟨.normal, squeeze an.K τ'⟩) (squeeze an.K τ)
  | .rangeFunc f ps assign body, an, none, τ, k => rangeM E C rd n ⟨an.K, keep, ps, assign, body, an.l, an.r⟩ (opnd E τ f) (squeeze an.K τ) (fun e => squeeze (keep e) τ) (k τ)
  | .scope b, an, none, τ, k => if (labels b).all (fun l => decide (keep (.goto l) = an.K)) = true then
      (Lp (fun p => (entryM (p.headD undef) (den Lp rd n keep b an.l none (spread n an.K p.tail) fun τ' => M.pure ⟨.done, squeeze an.K τ'⟩)
          ((labels b).map fun l => (l, den Lp rd n keep b an.l (some l) (spread n an.K p.tail) fun τ' => M.pure ⟨.done, squeeze an.K τ'⟩))).bind (scopeR (labels b))) (undef :: squeeze an.K τ)).bind fun r =>
        if r.e = .done then k (spread n an.K r.p) else M.pure r
      else M.bad
  | .exit id, _, none, τ, _ => M.pure ⟨.exit id, squeeze (keep (.exit id)) τ⟩
  | .goto l, _, none, τ, _ => M.pure ⟨.goto l, squeeze (keep (.goto l)) τ⟩
  | .ret, _, none, τ, _ => M.pure ⟨.ret, squeeze (keep .ret) τ⟩
  | _, _, _, _, _ => M.bad

def resSlot : ResultVar → Nat
  | .tmp t => t
  | .cell a _ => a

/-- The results. -/
def resM : List ResultVar → List Value → M (List Value)
  | [], _ => M.pure []
  | .tmp _ :: r, v :: p => (resM r p).bind fun l => if isVal v = true then M.pure (v :: l) else M.bad
  | .cell _ t :: r, v :: p => (aLoad E.P t v).bind fun x => (resM r p).bind fun l => M.pure (x :: l)
  | _, _ => M.bad

def oneOf (l : List Value) : Value := match l with
  | [v] => v
  | l => .tuple l.toArray

/-- A function that is called. -/
def callStep (Lp : (List Value → M R) → List Value → M R) (keep : FuncId → Ex → List Nat) (ann : FuncId → An) (f : FuncId) (args : List Value) : M Value := fun H => match E.P.funcs[f]? with
  | some fn => match fn.body with
    | some c => if args.length ≤ fn.ntmps then ((den E C Lp none fn.ntmps (fun e => if e = .ret then fn.results.toList.map resSlot else keep f e) c (ann f) none (args ++ List.replicate (fn.ntmps - args.length) undef) fun τ => M.pure ⟨.ret, squeeze (fn.results.toList.map resSlot) τ⟩).bind fun r =>
        if r.e = .ret then (resM E fn.results.toList r.p).bind fun l => M.pure (oneOf l) else M.bad) H else .bad
    | none => .bad
  | none => .bad

/-- The code of a way out. -/
def jumpOf : Ex → Option Code
  | .normal | .done => none
  | .exit id => some (.exit id)
  | .goto l => some (.goto l)
  | .ret => some .ret

def setAll : List (Tmp × Value) → List Value → List Value
  | [], τ => τ
  | (t, v) :: r, τ => setAll r (τ.set t v)

/-- The round begins. -/
def beginR (i : Nat) : M Unit := fun H => match H[i]? with
  | some (.loop .ready pd n τ rf) => .ret () (H.set i (.loop .busy pd n τ rf))
  | _ => .bad

/-- The round ends. -/
def endR (i : Nat) (e : Ex) : M Value := fun H => match H[i]? with
  | some (.loop _ _ n τ rf) => .ret (.bool (decide (e = .normal))) (H.set i (.loop (if e = .normal then .ready else .done) (jumpOf e) n τ rf))
  | _ => .bad

/-- What panics can't be told. -/
def calmO {α : Type} : Out α → Out α
  | .ret v H' => .ret v H'
  | _ => .bad
def calm {α : Type} (m : M α) : M α := fun H => calmO (m H)

/-- Behind a round's body. -/
def endK (i : Nat) (r : R) : M R := if r.e = .done then M.bad else (endR i r.e).bind fun v => M.pure ⟨.done, [v]⟩
def finK (r : R) : M Value := if r.e = .done then M.pure (r.p.headD undef) else M.bad

/-- A round: what is assigned ahead of it; its body. -/
def roundM (Lp : (List Value → M R) → List Value → M R) (i : Nat) (rf : RF) (n : Nat) (τ : List Value) : M Value :=
  (den E C Lp (some i) n rf.keep rf.assign rf.a none τ fun τ' => (beginR i).bind fun _ => (den E C Lp (some i) n rf.keep rf.body rf.b none τ' fun _ => M.pure ⟨.normal, []⟩).bind (endK i)).bind finK

def roundStep (Lp : (List Value → M R) → List Value → M R) (i : Nat) (args : List Value) : M Value := fun H => match H[i]? with
  | some (.loop _ _ n q rf) => if args.length = rf.ps.size then calm (roundM E C Lp i rf n (setAll (rf.ps.toList.zip args) (spread n rf.K q))) H else .bad
  | _ => .bad

/-- Calls, to a depth. -/
def callN (keep : FuncId → Ex → List Nat) (ann : FuncId → An) : Nat → Calls'
  | 0, _ => M.bad
  | n + 1, .call f args => match E.ov f with
    | some g => g args
    | none => callStep E (callN keep ann n) (fun b => loopN b n) keep ann f args
  | n + 1, .round i args => roundStep E (callN keep ann n) (fun b => loopN b n) i args
end

/-- The operations of a region. -/
def findReg : Code → Nat → Option (Array Oper)
  | .region id ops _, n => if id = n then some ops else none
  | .seq a b, n => (findReg a n).or (findReg b n)
  | .cond _ a b, n => (findReg a n).or (findReg b n)
  | .block _ b, n => findReg b n
  | .loop b, n => findReg b n
  | .scope b, n => findReg b n
  | .rangeFunc _ _ a b, n => (findReg a n).or (findReg b n)
  | _, _ => none
/-- The text of a range over a function: the one at the end of a way. -/
def rfAt (keep : Ex → List Nat) : Code → An → List Nat → Option RF
  | .seq a b, an, d :: p => if d = 0 then rfAt keep a an.l p else rfAt keep b an.r p
  | .cond _ a b, an, d :: p => if d = 0 then rfAt keep a an.l p else rfAt keep b an.r p
  | .block _ b, an, _ :: p => rfAt keep b an.l p
  | .loop b, an, _ :: p => rfAt keep b an.l p
  | .scope b, an, _ :: p => rfAt keep b an.l p
  | .rangeFunc _ ps a b, an, [] => some ⟨an.K, keep, ps, a, b, an.l, an.r⟩
  | .rangeFunc _ _ a b, an, d :: p => if d = 0 then rfAt keep a an.l p else rfAt keep b an.r p
  | _, _, _ => none
def rfOf (f : Func) (keep : Ex → List Nat) (an : An) (p : List Nat) : RF := ((f.body.bind fun c => rfAt keep c an p)).getD ⟨[], keep, #[], .skip, .skip, .z, .z⟩
def regOps (f : Func) (id : Nat) : Array Oper := ((f.body.bind fun c => findReg c id)).getD #[]
end Go.Wel
