/- The rest of the operations. -/
import Derived.Test.YtajdleoobkfckaaGreatDoorWelOp3
set_option linter.unusedSimpArgs false
set_option linter.unusedVariables false
namespace Go.Wel
open Go

inductive TRs (L : Lays) : List Value → List Value → Prop
  | nil : TRs L [] []
  | cons {v v' : Value} {l l' : List Value} (h : TR L v v') (ht : TRs L l l') : TRs L (v :: l) (v' :: l')

def isU8 (P : Program) (e : TypeId) : Bool := match P.underlying e with
  | some (.int .u8) => true
  | _ => false

def aUn (op : UnOp) (x : Value) : M Value := fun H => match op, x with
  | .not, .bool b => .ret (.bool (!b)) H
  | .neg, .int k n => .ret (.int k (k.wrap (0 - n))) H
  | .xor, .int k n => match intBin .xor k (if k.signed then -1 else k.max) n with
    | some v => .ret v H
    | none => .bad
  | _, _ => .bad

def aNil (x : Value) : M Value := fun H => match x with
  | .pointer (some _) => .ret x H
  | .func (.func _) _ _ => .ret x H
  | .func (.yield _) _ _ => .ret x H
  | .iface _ _ => .ret x H
  | _ => .bad

/-- The bytes that cells hold. -/
def bytesOf : List Value → Option (List Int)
  | [] => some []
  | .int .u8 n :: r => (bytesOf r).map (n :: ·)
  | _ => none

/-- A conversion. -/
def aConv (P : Program) (s d : TypeId) (x : Value) : M Value := fun H => match P.underlying s, P.underlying d, x with
  | some _, some (.int k), .int _ n => .ret (.int k (k.wrap n)) H
  | some _, some .string, .int _ n => .ret (.string (Utf8.encode n)) H
  | some _, some .string, .string b => .ret (.string b) H
  | some _, some (.slice e), .string b => if isU8 P e = true ∧ P.cellsOf e = 1 then .ret (.slice (some ⟨H.length, 0, none⟩) b.size capU) (H ++ [.cells (b.data.toList.map fun c => .int .u8 c.toNat) e (0, 0) true]) else .bad
  | some (.slice e), some .string, .slice none n _ => if isU8 P e = true ∧ n = 0 then .ret (.string .empty) H else .bad
  | some (.slice e), some .string, .slice (some a) n _ => if isU8 P e = true then
      if n = 0 then .ret (.string .empty) H else match H.getN a.block a.off n with
      | some vs => match bytesOf vs with
        | some ns => .ret (.string ⟨(ns.map fun n => UInt8.ofNat n.toNat).toArray⟩) H
        | none => .bad
      | none => .bad
    else .bad
  | _, _, _ => .bad

def aLen (P : Program) (t : TypeId) (x : Value) : M Value := fun H => match P.underlying t, x with
  | some .string, .string s => .ret (.int .i64 s.size) H
  | some (.array n _), _ => .ret (.int .i64 n) H
  | some (.slice _), .slice _ n _ => .ret (.int .i64 n) H
  | some (.map _ _), .map none => .ret (.int .i64 0) H
  | some (.map _ _), .map (some r) => match H[r]? with
    | some (.map es) => .ret (.int .i64 es.length) H
    | _ => .bad
  | _, _ => .bad

def foldInts (f : Int → Int → Int) : IntKind → Int → List Value → Option Value
  | k, a, [] => some (.int k a)
  | k, a, .int _ b :: r => foldInts f k (f a b) r
  | _, _, _ :: _ => none

def aMinMax (mx : Bool) (xs : List Value) : M Value := fun H => match xs with
  | .int k a :: r => M.ofOption (foldInts (fun x y => if mx then (if y > x then y else x) else (if y < x then y else x)) k a r) H
  | _ => .bad

def aCopy (P : Program) (t : TypeId) (d s : Value) : M Value := fun H => match P.underlying t, d with
  | some (.slice e), .slice base dl _ => if (P.info? e).isSome = true then
      match s with
      | .string b => if min b.size dl * P.cellsOf e = 0 ∨ P.cellsOf e ≠ 1 then (if min b.size dl = 0 then .ret (.int .i64 0) H else .bad) else match base with
        | some a => match H.putN a.block a.off (((b.extract 0 (min b.size dl)).data.toList).map fun c => .int .u8 c.toNat) with
          | some H' => .ret (.int .i64 (min b.size dl : Nat)) H'
          | none => .bad
        | none => .bad
      | .slice sb sl _ => if min sl dl * P.cellsOf e = 0 then (if min sl dl = 0 then .ret (.int .i64 0) H else .bad) else match base, sb with
        | some a, some b => match H.getN b.block b.off (min sl dl * P.cellsOf e) with
          | some vs => match H.putN a.block a.off vs with
            | some H' => .ret (.int .i64 (min sl dl : Nat)) H'
            | none => .bad
          | none => .bad
        | _, _ => .bad
      | _ => .bad
    else .bad
  | _, _ => .bad

def aClear (P : Program) (t : TypeId) (x : Value) : M Value := fun H => match P.underlying t, x with
  | some (.slice e), .slice none _ _ => .ret undef H
  | some (.slice e), .slice (some a) n _ => if n = 0 then .ret undef H else match (P.info? e).bind (·.zero) with
    | some z => if flat z = true ∧ 0 < z.cells.size then match H.putN a.block a.off (Builtin.zeroCells z.cells n).toList with
        | some H' => .ret undef H'
        | none => .bad
      else .bad
    | none => .bad
  | some (.map _ _), .map none => .ret undef H
  | some (.map _ _), .map (some r) => match H[r]? with
    | some (.map _) => .ret undef (H.set r (.map []))
    | _ => .bad
  | _, _ => .bad

def aMakeSlice (P : Program) (t : TypeId) (l c : Value) : M Value := fun H => match P.underlying t, l, c with
  | some (.slice e), .int _ ln, .int _ cp => match (P.info? e).bind (·.zero) with
    | some z => if 0 ≤ ln ∧ ln ≤ cp ∧ cp < 2 ^ 62 ∧ P.bytesOf e * cp ≤ 2 ^ 48 ∧ flat z = true ∧ z.cells.size = P.cellsOf e ∧ (P.info? e).isSome = true then
        .ret (.slice (some ⟨H.length, 0, none⟩) ln.toNat cp.toNat) (H ++ [.cells (Builtin.zeroCells z.cells cp.toNat).toList e (0, 0) false])
      else .bad
    | none => .bad
  | _, _, _ => .bad

def aExtract (x : Value) (i : Nat) : M Value := fun H => match x with
  | .tuple vs => match vs[i]? with
    | some v => .ret v H
    | none => .bad
  | _ => .bad

def aMkIface (P : Program) (t : TypeId) (x : Value) : M Value := fun H => match P.underlying t with
  | some (.interface _) => .bad
  | some _ => if isVal x = true then .ret (.iface t x) H else .bad
  | none => .bad

def aMkFunc (fn : Fn) (first capt : List Value) : M Value := fun H => match fn with
  | .func f => if (first ++ capt).all isVal = true then .ret (.func (.func f) first.toArray capt.toArray) H else .bad
  | _ => .bad

section
variable {P : Program} {L : Lays} {H : Heap} {w : World}

theorem sound_un (h : Sim P L H w) {x x' : Value} (hx : TR L x x') (op : UnOp) : Snd P L w (Op.unary op x') (aUn op x H) := by
  unfold aUn
  split
  · obtain rfl := hx.bool
    exact .pure h rfl (.bool _)
  · obtain rfl := hx.int
    exact .pure h rfl (.int _ _)
  · obtain rfl := hx.int
    split
    · rename_i v hv
      simp only [intBin] at hv
      cases hv
      exact .pure h rfl (.int _ _)
    · trivial
  · trivial

theorem sound_nil (h : Sim P L H w) {x x' : Value} (hx : TR L x x') (o : Oper) (ρ : Operand → Value) (y : Operand) (ho : o.op = .nilCheck y) (hρ : ρ y = x') :
    (match aNil x H with
     | .ret v H' => ∃ v', (execOp ρ o).run P w = .ok (.value v') w ∧ H' = H ∧ VR L v v'
     | .pan _ _ => False
     | .bad => True) := by
  unfold aNil
  split
  · rename_i v H' he
    split at he
    · rename_i a
      cases he
      have hv := hx.vr (by simp [undef])
      obtain ⟨l, _, rfl⟩ := hx.ptr
      exact ⟨_, by simp only [execOp, ho, hρ]; rfl, rfl, hv⟩
    · cases he
      have hv := hx.vr (by simp [undef])
      obtain ⟨fn', a', c', rfl, hf, _, _⟩ := hv.func_inv
      cases hf with | same f _ => exact ⟨_, by simp only [execOp, ho, hρ]; rfl, rfl, hv⟩
    · cases he
      have hv := hx.vr (by simp [undef])
      obtain ⟨fn', a', c', rfl, hf, _, _⟩ := hv.func_inv
      cases hf with
      | same f hn => exact absurd rfl (hn _)
      | yield hi => exact ⟨_, by simp only [execOp, ho, hρ]; rfl, rfl, hv⟩
    · cases he
      have hv := hx.vr (by simp [undef])
      obtain ⟨_, rfl, _⟩ := hv.iface_inv
      exact ⟨_, by simp only [execOp, ho, hρ]; rfl, rfl, hv⟩
    · cases he
  · rename_i v H' he
    split at he <;> cases he
  · trivial

theorem sound_len (h : Sim P L H w) {x x' : Value} (hx : TR L x x') (t : TypeId) (ty : TypeId) : Snd P L w (Builtin.len_ #[t] ty #[x']) (aLen P t x H) := by
  unfold aLen
  split
  · rename_i s hu
    obtain rfl := hx.string
    exact .pure h (by simp [Builtin.len_, run_und hu, goInt]) (.int _ _)
  · rename_i n e hu
    exact .pure h (by simp [Builtin.len_, run_und hu, goInt]) (.int _ _)
  · rename_i e a n c hu
    have : ∃ a' c', x' = .slice a' n c' := by
      cases a with
      | none => exact ⟨_, _, (hx.vr (by simp [undef])).nils_inv⟩
      | some a => obtain ⟨_, _, h3⟩ := (hx.vr (by simp [undef])).slice_some; exact ⟨_, _, h3⟩
    obtain ⟨a', c', rfl⟩ := this
    exact .pure h (by simp [Builtin.len_, run_und hu, goInt]) (.int _ _)
  · rename_i k e hu
    obtain rfl := (hx.vr (by simp [undef])).nilm_inv
    exact .pure h (by simp [Builtin.len_, run_und hu, goInt]) (.int _ _)
  · rename_i k e r hu
    obtain ⟨l, hl, rfl⟩ := (hx.vr (by simp [undef])).map_inv
    split
    · rename_i es hk
      obtain ⟨es', ck, h1, h2⟩ := h.blk _ _ _ hl hk
      have hlen : es.length = es'.size := by
        have : es.length = es'.toList.length := by
          clear h1 hk
          generalize es'.toList = l at h2
          induction h2 with
          | nil => rfl
          | cons _ _ _ ih => simp [ih]
        simpa using this
      exact .pure h (by simp [Builtin.len_, run_und hu, goInt, getObj, Sem.run, h1, hlen]) (.int _ _)
    · trivial
  · trivial

theorem vrs_ints {xs : List Value} {xs' : List Value} (hx : TRs L xs xs') : ∀ {k : IntKind} {a : Int} {f : Int → Int → Int} {v : Value}, foldInts f k a xs = some v → xs' = xs ∧ VR L v v := by
  induction hx with
  | nil => intro k a f v h; simp [foldInts] at h; subst h; exact ⟨rfl, .int _ _⟩
  | @cons x x' l l' h1 _ ih =>
    intro k a f v h
    cases x with
    | int kk b =>
      simp only [foldInts] at h
      obtain ⟨e1, e2⟩ := ih h
      rw [h1.int, e1]; exact ⟨rfl, e2⟩
    | _ => simp [foldInts] at h

theorem run_fold_max {w : World} : ∀ (xs : List Value) {k : IntKind} {a : Int} {v : Value}, foldInts (fun x y => if true = true then (if y > x then y else x) else (if y < x then y else x)) k a xs = some v →
    (xs.foldlM Builtin.max2 (.int k a)).run P w = .ok v w
  | [], k, a, v, h => by simp [foldInts] at h; subst h; rfl
  | x :: xs, k, a, v, h => by
    cases x with
    | int kk b =>
      simp only [foldInts, if_true] at h
      simp only [List.foldlM_cons, Sem.run_bind, Builtin.max2, Sem.run_pure, Result.andThen_ok]
      exact run_fold_max xs (by simpa using h)
    | _ => simp [foldInts] at h

theorem run_fold_min {w : World} : ∀ (xs : List Value) {k : IntKind} {a : Int} {v : Value}, foldInts (fun x y => if false = true then (if y > x then y else x) else (if y < x then y else x)) k a xs = some v →
    (xs.foldlM Builtin.min2 (.int k a)).run P w = .ok v w
  | [], k, a, v, h => by simp [foldInts] at h; subst h; rfl
  | x :: xs, k, a, v, h => by
    cases x with
    | int kk b =>
      simp only [foldInts, Bool.false_eq_true, if_false] at h
      simp only [List.foldlM_cons, Sem.run_bind, Builtin.min2, Sem.run_pure, Result.andThen_ok]
      exact run_fold_min xs (by simpa using h)
    | _ => simp [foldInts] at h

theorem sound_max (h : Sim P L H w) {xs xs' : List Value} (hx : TRs L xs xs') (at_ : Array TypeId) (ty : TypeId) : Snd P L w (Builtin.max_ at_ ty xs'.toArray) (aMinMax true xs H) := by
  unfold aMinMax
  split
  · rename_i k a r
    cases hx with
    | cons h1 h2 =>
      cases hf : foldInts (fun x y => if true = true then (if y > x then y else x) else (if y < x then y else x)) k a r with
      | none => trivial
      | some v =>
        obtain ⟨rfl, hv⟩ := vrs_ints h2 hf
        obtain rfl := h1.int
        exact .pure h (by simp only [Builtin.max_]; exact run_fold_max _ hf) hv
  · trivial

theorem sound_min (h : Sim P L H w) {xs xs' : List Value} (hx : TRs L xs xs') (at_ : Array TypeId) (ty : TypeId) : Snd P L w (Builtin.min_ at_ ty xs'.toArray) (aMinMax false xs H) := by
  unfold aMinMax
  split
  · rename_i k a r
    cases hx with
    | cons h1 h2 =>
      cases hf : foldInts (fun x y => if false = true then (if y > x then y else x) else (if y < x then y else x)) k a r with
      | none => trivial
      | some v =>
        obtain ⟨rfl, hv⟩ := vrs_ints h2 hf
        obtain rfl := h1.int
        exact .pure h (by simp only [Builtin.min_]; exact run_fold_min _ hf) hv
  · trivial

theorem sound_extract (h : Sim P L H w) {x x' : Value} (hx : TR L x x') (i : Nat) : Snd P L w (Instr.extract x' i) (aExtract x i H) := by
  unfold aExtract
  split
  · rename_i vs
    split
    · rename_i v hv
      have hne : Value.tuple vs ≠ undef := by
        intro he; simp [undef] at he; subst he; simp at hv
      obtain ⟨c', rfl, hc⟩ := (hx.vr hne).tuple_inv
      obtain ⟨v', h1, h2⟩ := hc.get (i := i) (v := v) (by simpa using hv)
      have h1' : c'[i]? = some v' := by simpa using h1
      exact .pure h (by simp [Instr.extract, h1']) h2
    · trivial
  · trivial

theorem sound_mkIface (h : Sim P L H w) {x x' : Value} (hx : TR L x x') (t : TypeId) : Snd P L w (Instr.makeInterface t x') (aMkIface P t x H) := by
  unfold aMkIface
  split
  · trivial
  · rename_i u hn hu
    split
    · rename_i hv
      have hxx := hx.vr (by rintro rfl; simp [isVal, undef] at hv)
      refine .pure (v' := .iface t x') h ?_ (.iface t hxx)
      simp only [Instr.makeInterface, Sem.run_bind, run_und hu, Result.andThen_ok]
      cases u <;> first | rfl | exact absurd rfl (hn _)
    · trivial
  · trivial

theorem forall_vrs {xs xs' : List Value} (hx : TRs L xs xs') (hv : xs.all isVal = true) : VRs L xs xs' := by
  induction hx with
  | nil => exact .nil
  | @cons x x' l l' h1 _ ih =>
    simp only [List.all_cons, Bool.and_eq_true] at hv
    exact .cons (h1.vr (by rintro rfl; simp [isVal, undef] at hv)) (ih hv.2)

theorem sound_mkFunc (h : Sim P L H w) {a a' c c' : List Value} (ha : TRs L a a') (hc : TRs L c c') (fn : Fn) :
    Snd P L w (Instr.makeFunc fn a'.toArray c'.toArray) (aMkFunc fn a c H) := by
  unfold aMkFunc
  split
  · rename_i f
    split
    · rename_i hv
      rw [List.all_append, Bool.and_eq_true] at hv
      exact .pure h rfl (.func (.same _ (by simp)) (by simpa using forall_vrs ha hv.1) (by simpa using forall_vrs hc hv.2))
    · trivial
  · trivial
end
end Go.Wel
