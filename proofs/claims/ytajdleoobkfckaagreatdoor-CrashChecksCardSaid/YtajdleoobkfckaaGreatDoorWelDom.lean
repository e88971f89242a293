/- The abstract memory in which functions are reckoned, and how it stands to the model's own: no tape, no capacities that the tape draws, no order that is left open. -/
import Derived.CallsIn
import Derived.Laws.Sem
import Derived.Laws.World
import Derived.Laws.Cells
set_option linter.unusedSimpArgs false
set_option linter.unusedVariables false
namespace Go.Wel
open Go

/-- The capacity of a slice of which it is not known. -/
def capU : Nat := 9223372036854775808
/-- The capacity of an empty slice that is only handed on: of which nothing is known but that it has no room. -/
def capE : Nat := 9223372036854775809

/-- A world whose outer part still stands, and some of whose blocks lie as they did (none of them is looked at). -/
structure Stays where
  w : World
  ks : List Nat

/-- Where an abstract block lies: its block, how many cells are seen, how many there are, how many an element has; and (of some) what still stands. -/
structure Lay where
  b : Nat
  n : Nat
  N : Nat
  sz : Nat
  o : Option Stays

/-- Which slots are handed on where ways meet: a tree beside the code. -/
inductive An where
  | z
  | n (K : List Nat) (x y : An)
  deriving Inhabited

/-- How code is left. -/
inductive Ex where
  | normal
  | exit (id : Nat)
  | goto (l : Nat)
  | ret
  | done
  deriving DecidableEq

/-- The text of a range over a function. -/
structure RF where
  K : List Nat
  keep : Ex → List Nat
  ps : Array Tmp
  assign : Code
  body : Code
  a : An
  b : An

abbrev Lays := List Lay

/-- A slice whose capacity is not known: it reaches what is seen of its block, and lies in what there is; or it is empty, and has no room. -/
def CapU (l : Lay) (off off' len cap : Nat) : Prop := (off' = off ∧ l.n ≤ off + cap * l.sz ∧ off + cap * l.sz ≤ l.N ∧ len ≤ cap) ∨ (len = 0 ∧ cap = 0 ∧ l.n ≤ off)

inductive FnR (L : Lays) : Fn → Fn → Prop
  | same (f : Fn) (h : ∀ l, f ≠ .yield l) : FnR L f f
  | yield {i : Nat} {l : Lay} (h : L[i]? = some l) : FnR L (.yield i) (.yield l.b)

/-- What stands for a value that is not looked into. -/
def Token (c : Array Value) : Prop := c.size = 1 ∧ ∀ b, c ≠ #[.bool b]

theorem Token.pair {v x : Value} : ¬ Token #[v, x] := fun h => by simp [Token] at h
theorem Token.three {v x y : Value} : ¬ Token #[v, x, y] := fun h => by simp [Token] at h
theorem Token.nil : ¬ Token #[] := fun h => by simp [Token] at h
theorem Token.one {b : Bool} : ¬ Token #[.bool b] := fun h => h.2 b rfl

mutual
inductive VR (L : Lays) : Value → Value → Prop
  | bool (x : Bool) : VR L (.bool x) (.bool x)
  | int (k : IntKind) (n : Int) : VR L (.int k n) (.int k n)
  | string (s : ByteArray) : VR L (.string s) (.string s)
  | nilp : VR L (.pointer none) (.pointer none)
  | ptr {i off : Nat} {l : Lay} (h : L[i]? = some l) : VR L (.pointer (some ⟨i, off, none⟩)) (.pointer (some ⟨l.b, off, none⟩))
  | nils (n c : Nat) : VR L (.slice none n c) (.slice none n c)
  | slice {i off len cap : Nat} {l : Lay} (h : L[i]? = some l) (hc : cap ≠ capU ∧ cap ≠ capE) :
      VR L (.slice (some ⟨i, off, none⟩) len cap) (.slice (some ⟨l.b, off, none⟩) len cap)
  | sliceU {i off off' len cap : Nat} {l : Lay} (h : L[i]? = some l) (h1 : CapU l off off' len cap) :
      VR L (.slice (some ⟨i, off, none⟩) len capU) (.slice (some ⟨l.b, off', none⟩) len cap)
  | lit (a : Addr) : VR L (.slice (some a) 0 capE) (.slice (some a) 0 0)
  | nilm : VR L (.map none) (.map none)
  | map {i : Nat} {l : Lay} (h : L[i]? = some l) : VR L (.map (some i)) (.map (some l.b))
  | func {fn fn' : Fn} {a a' c c' : Array Value} (h : FnR L fn fn') (ha : VRs L a.toList a'.toList) (hc : VRs L c.toList c'.toList) :
      VR L (.func fn a c) (.func fn' a' c')
  | nilf : VR L .nilFunc .nilFunc
  | iface (t : TypeId) {v v' : Value} (h : VR L v v') : VR L (.iface t v) (.iface t v')
  | nili : VR L .nilIface .nilIface
  | agg {c c' : Array Value} (h : VRs L c.toList c'.toList) : VR L (.agg c) (.agg c')
  | tuple {c c' : Array Value} (h : VRs L c.toList c'.toList) (hn : ¬ Token c) : VR L (.tuple c) (.tuple c')
inductive VRs (L : Lays) : List Value → List Value → Prop
  | nil : VRs L [] []
  | cons {v v' : Value} {l l' : List Value} (h : VR L v v') (ht : VRs L l l') : VRs L (v :: l) (v' :: l')
end

/-- What stands in a slot: nothing is known of it, or it is that value. -/
def TR (L : Lays) (v v' : Value) : Prop := v = undef ∨ VR L v v'

/-- What stands in a cell: a value that is not looked into, or that value. -/
def CR (L : Lays) (v v' : Value) : Prop := v = .tuple #[v'] ∨ VR L v v'

inductive Blk where
  | cells (c : List Value) (elem : TypeId) (fr : Nat × Nat) (str : Bool)
  | map (es : List (Value × Value))
  | iter (s : ByteArray) (pos : Nat)
  | loop (st : LoopState) (pd : Option Code) (n : Nat) (τ : List Value) (rf : RF)
  | foreign (o : Obj)
  | dead

abbrev Heap := List Blk

def Blk.alive : Blk → Bool
  | .dead => false
  | _ => true

theorem VRs.length {L : Lays} {l l' : List Value} (h : VRs L l l') : l.length = l'.length := by
  induction l generalizing l' with
  | nil => cases h; rfl
  | cons v l ih => cases h with | cons h ht => simp [ih ht]

theorem VRs.get {L : Lays} {l l' : List Value} (h : VRs L l l') {i : Nat} {v : Value} (hi : l[i]? = some v) : ∃ v', l'[i]? = some v' ∧ VR L v v' := by
  induction l generalizing l' i with
  | nil => simp at hi
  | cons x l ih =>
    cases h with
    | cons h ht =>
      cases i with
      | zero => simp at hi; subst hi; exact ⟨_, rfl, h⟩
      | succ i => simp at hi; simpa using ih ht hi

theorem VRs.of_get {L : Lays} : ∀ {l l' : List Value}, l.length = l'.length → (∀ (i : Nat) (v v' : Value), l[i]? = some v → l'[i]? = some v' → VR L v v') → VRs L l l'
  | [], [], _, _ => .nil
  | [], _ :: _, h, _ => by simp at h
  | _ :: _, [], h, _ => by simp at h
  | v :: l, v' :: l', h, hg => .cons (hg 0 v v' rfl rfl) (VRs.of_get (by simpa using h) fun i x x' hx hx' => hg (i + 1) x x' (by simpa using hx) (by simpa using hx'))

theorem VRs.append {L : Lays} {l l' m m' : List Value} (h : VRs L l l') (hm : VRs L m m') : VRs L (l ++ m) (l' ++ m') := by
  induction l generalizing l' with
  | nil => cases h; exact hm
  | cons v l ih => cases h with | cons h ht => exact .cons h (ih ht)

theorem VRs.drop {L : Lays} {l l' : List Value} (h : VRs L l l') (n : Nat) : VRs L (l.drop n) (l'.drop n) := by
  induction n generalizing l l' with
  | zero => exact h
  | succ n ih => cases h with
    | nil => exact .nil
    | cons h ht => exact ih ht

theorem VRs.take {L : Lays} {l l' : List Value} (h : VRs L l l') (n : Nat) : VRs L (l.take n) (l'.take n) := by
  induction n generalizing l l' with
  | zero => exact .nil
  | succ n ih => cases h with
    | nil => exact .nil
    | cons h ht => exact .cons h (ih ht)

theorem VRs.set {L : Lays} {l l' : List Value} {v v' : Value} (h : VRs L l l') (hv : VR L v v') (n : Nat) : VRs L (l.set n v) (l'.set n v') := by
  induction n generalizing l l' with
  | zero => cases h with
    | nil => exact .nil
    | cons h ht => exact .cons hv ht
  | succ n ih => cases h with
    | nil => exact .nil
    | cons h ht => exact .cons h (ih ht)

/-- More blocks: what stood stands. -/
def Lays.le (L L' : Lays) : Prop := ∀ (i : Nat) (l : Lay), L[i]? = some l → L'[i]? = some l

theorem Lays.le_refl (L : Lays) : L.le L := fun _ _ h => h
theorem Lays.le_trans {L L' L'' : Lays} (h : L.le L') (h' : L'.le L'') : L.le L'' := fun i l hl => h' i l (h i l hl)
theorem Lays.le_append (L M : Lays) : L.le (L ++ M) := fun i l h => by
  rw [List.getElem?_append_left (List.getElem?_eq_some_iff.1 h).1]; exact h

theorem FnR.mono {L L' : Lays} (h : L.le L') {f f' : Fn} (hf : FnR L f f') : FnR L' f f' := by
  cases hf with
  | same f hn => exact .same f hn
  | yield hi => exact .yield (h _ _ hi)

mutual
theorem VR.mono {L L' : Lays} (h : L.le L') : ∀ {v v' : Value}, VR L v v' → VR L' v v'
  | _, _, .bool x => .bool x
  | _, _, .int k n => .int k n
  | _, _, .string s => .string s
  | _, _, .nilp => .nilp
  | _, _, .ptr hi => .ptr (h _ _ hi)
  | _, _, .nils n c => .nils n c
  | _, _, .slice hi hc => .slice (h _ _ hi) hc
  | _, _, .sliceU hi h1 => .sliceU (h _ _ hi) h1
  | _, _, .lit a => .lit a
  | _, _, .nilm => .nilm
  | _, _, .map hi => .map (h _ _ hi)
  | _, _, .func hf ha hc => .func (hf.mono h) (VRs.mono h ha) (VRs.mono h hc)
  | _, _, .nilf => .nilf
  | _, _, .iface t hv => .iface t (VR.mono h hv)
  | _, _, .nili => .nili
  | _, _, .agg hc => .agg (VRs.mono h hc)
  | _, _, .tuple hc hn => .tuple (VRs.mono h hc) hn
theorem VRs.mono {L L' : Lays} (h : L.le L') : ∀ {v v' : List Value}, VRs L v v' → VRs L' v v'
  | _, _, .nil => .nil
  | _, _, .cons hv ht => .cons (VR.mono h hv) (VRs.mono h ht)
end

theorem TR.mono {L L' : Lays} (h : L.le L') {v v' : Value} (hv : TR L v v') : TR L' v v' := hv.imp id (VR.mono h)
theorem CR.mono {L L' : Lays} (h : L.le L') {v v' : Value} (hv : CR L v v') : CR L' v v' := hv.imp id (VR.mono h)

/-- Entries of a map: the same keys, in order. -/
inductive MR (L : Lays) : List (Value × Value) → List MapEntry → Prop
  | nil : MR L [] []
  | cons {k v : Value} {e : MapEntry} {l : List (Value × Value)} {l' : List MapEntry} (hk : e.key = k) (hv : VR L v e.val) (h : MR L l l') : MR L ((k, v) :: l) (e :: l')

theorem MR.mono {L L' : Lays} (h : L.le L') {l : List (Value × Value)} {l' : List MapEntry} (hm : MR L l l') : MR L' l l' := by
  induction hm with
  | nil => exact .nil
  | cons hk hv _ ih => exact .cons hk (hv.mono h) ih

def squeeze (K : List Nat) (τ : List Value) : List Value := K.map fun t => τ.getD t undef
/-- Slots out of those that were handed on: n of them. -/
def spread (n : Nat) (K : List Nat) (p : List Value) : List Value := (List.range n).map fun t => match K.idxOf? t with
  | some i => p.getD i undef
  | none => undef

/-- A running loop over a function: its slots stand for the loop's. -/
structure LR (L : Lays) (st : LoopState) (pd : Option Code) (n : Nat) (τ : List Value) (rf : RF) (c : Loop) : Prop where
  state : c.state = st
  pending : c.pending = pd
  size : c.tmps.size = n
  tmps : ∀ i, TR L ((spread n rf.K τ).getD i undef) (c.tmps.getD i undef)
  params : c.params = rf.ps
  assign : c.assign = rf.assign
  body : c.body = rf.body

theorem LR.mono {L L' : Lays} (h : L.le L') {st : LoopState} {pd : Option Code} {n : Nat} {τ : List Value} {rf : RF} {c : Loop} (hl : LR L st pd n τ rf c) : LR L' st pd n τ rf c :=
  ⟨hl.state, hl.pending, hl.size, fun i => (hl.tmps i).mono h, hl.params, hl.assign, hl.body⟩

/-- The frozen range: the one that is known; or (a block whose bytes may have come of a string) none of its cells lies in it. -/
def FrOk (f fr : Nat × Nat) (str : Bool) (N : Nat) : Prop := if str = true then f = (N, N + 1) ∨ f = (0, 0) else f = fr

/-- A block, as it lies. -/
def BR (P : Program) (L : Lays) (l : Lay) : Blk → Option Obj → Prop
  | .cells c e fr str, o => ∃ (c' : Array Value) (f : Nat × Nat), o = some (.cells c' e f) ∧ FrOk f fr str l.N ∧ c.length = l.n ∧ c'.size = l.N ∧ l.n ≤ l.N ∧ (str = false → True) ∧ l.sz = P.cellsOf e ∧
      ∀ (i : Nat) (v : Value), c[i]? = some v → ∃ v', c'[i]? = some v' ∧ CR L v v'
  | .map es, o => ∃ es' ck, o = some (.map es' ck) ∧ MR L es es'.toList
  | .iter s p, o => o = some (.stringIter s p)
  | .loop st pd n τ rf, o => ∃ c, o = some (.loop c) ∧ LR L st pd n τ rf c
  | .foreign ob, o => o = some ob
  | .dead, _ => True

theorem BR.mono {P : Program} {L L' : Lays} (h : L.le L') {l : Lay} {k : Blk} {o : Option Obj} (hb : BR P L l k o) : BR P L' l k o := by
  cases k with
  | cells c e fr str =>
    obtain ⟨c', f, h1, h8, h2, h3, h4, h5, h7, h6⟩ := hb
    exact ⟨c', f, h1, h8, h2, h3, h4, h5, h7, fun i v hi => let ⟨v', a, b⟩ := h6 i v hi; ⟨v', a, b.mono h⟩⟩
  | map es => obtain ⟨es', ck, h1, h2⟩ := hb; exact ⟨es', ck, h1, h2.mono h⟩
  | iter s p => exact hb
  | loop st pd n τ rf => obtain ⟨c, h1, h2⟩ := hb; exact ⟨c, h1, h2.mono h⟩
  | foreign ob => exact hb
  | dead => trivial

/-- The abstract memory stands for the model's. -/
structure Sim (P : Program) (L : Lays) (H : Heap) (w : World) : Prop where
  len : L.length = H.length
  lt : ∀ (i : Nat) (l : Lay), L[i]? = some l → l.b < w.heap.size
  inj : ∀ (i j : Nat) (l l' : Lay) (k k' : Blk), L[i]? = some l → L[j]? = some l' → H[i]? = some k → H[j]? = some k' → k.alive = true → k'.alive = true → l.b = l'.b → i = j
  blk : ∀ (i : Nat) (l : Lay) (k : Blk), L[i]? = some l → H[i]? = some k → BR P L l k w.heap[l.b]?
  out : ∀ (i : Nat) (l : Lay) (s : Stays), L[i]? = some l → l.o = some s → (w.os = s.w.os ∧ w.output = s.w.output) ∧
    ∀ b ∈ s.ks, b < w.heap.size ∧ w.heap[b]? = s.w.heap[b]? ∧ ∀ (j : Nat) (l' : Lay), L[j]? = some l' → l'.b ≠ b

section
variable {P : Program} {L : Lays} {H : Heap} {w : World}

theorem Sim.drew (h : Sim P L H w) (n : Nat) : Sim P L H { w with drawn := n } := ⟨h.len, h.lt, h.inj, h.blk, h.out⟩
theorem Sim.lay (h : Sim P L H w) {i : Nat} {k : Blk} (hk : H[i]? = some k) : ∃ l, L[i]? = some l :=
  ⟨_, List.getElem?_eq_getElem (by rw [h.len]; exact (List.getElem?_eq_some_iff.1 hk).1)⟩

theorem Sim.blk' (h : Sim P L H w) {i : Nat} {l : Lay} (hl : L[i]? = some l) : ∃ k, H[i]? = some k ∧ BR P L l k w.heap[l.b]? := by
  have hi : i < H.length := by rw [← h.len]; exact (List.getElem?_eq_some_iff.1 hl).1
  exact ⟨_, List.getElem?_eq_getElem hi, h.blk i l _ hl (List.getElem?_eq_getElem hi)⟩

/-- A new block. -/
theorem Sim.allocG (h : Sim P L H w) (o : Obj) (k : Blk) (n N sz : Nat) (g : Option Stays) (hg : ∀ s, g = some s → (w.os = s.w.os ∧ w.output = s.w.output) ∧ ∀ b ∈ s.ks, b < w.heap.size ∧ w.heap[b]? = s.w.heap[b]? ∧ ∀ (j : Nat) (l' : Lay), L[j]? = some l' → l'.b ≠ b)
    (hb : BR P (L ++ [⟨w.heap.size, n, N, sz, g⟩]) ⟨w.heap.size, n, N, sz, g⟩ k (some o)) :
    Sim P (L ++ [⟨w.heap.size, n, N, sz, g⟩]) (H ++ [k]) { w with heap := w.heap.push o } := by
  have hold : ∀ (i : Nat) (l : Lay), (L ++ [(⟨w.heap.size, n, N, sz, g⟩ : Lay)])[i]? = some l → (i < L.length ∧ L[i]? = some l) ∨ (i = L.length ∧ l = ⟨w.heap.size, n, N, sz, g⟩) := by
    intro i l hi
    rcases Nat.lt_trichotomy i L.length with hlt | heq | hgt
    · rw [List.getElem?_append_left hlt] at hi; exact .inl ⟨hlt, hi⟩
    · subst heq; simp at hi; exact .inr ⟨rfl, hi.symm⟩
    · rw [List.getElem?_eq_none (by simp; omega)] at hi; cases hi
  have hblk : ∀ (i : Nat) (k' : Blk), i < L.length → (H ++ [k])[i]? = some k' → H[i]? = some k' := fun i k' hi hk => by
    rwa [List.getElem?_append_left (by rw [← h.len]; exact hi)] at hk
  refine ⟨by simp [h.len], ?_, ?_, ?_, ?_⟩
  rotate_right
  · intro i l s hi ho
    have fin : ((w.os = s.w.os ∧ w.output = s.w.output) ∧ ∀ b ∈ s.ks, b < w.heap.size ∧ w.heap[b]? = s.w.heap[b]? ∧ ∀ (j : Nat) (l' : Lay), L[j]? = some l' → l'.b ≠ b) →
        (w.os = s.w.os ∧ w.output = s.w.output) ∧ ∀ b ∈ s.ks, b < (w.heap.push o).size ∧ (w.heap.push o)[b]? = s.w.heap[b]? ∧ ∀ (j : Nat) (l' : Lay), (L ++ [(⟨w.heap.size, n, N, sz, g⟩ : Lay)])[j]? = some l' → l'.b ≠ b := by
      rintro ⟨h1, h2⟩
      refine ⟨h1, fun b hb => ?_⟩
      obtain ⟨h3, h4, h5⟩ := h2 b hb
      refine ⟨by simp; omega, by rw [Array.getElem?_push, if_neg (by omega)]; exact h4, fun j l' hj => ?_⟩
      rcases hold j l' hj with ⟨_, hl⟩ | ⟨_, rfl⟩
      · exact h5 j l' hl
      · simp; omega
    rcases hold i l hi with ⟨_, hl⟩ | ⟨_, rfl⟩
    · exact fin (h.out i l s hl ho)
    · exact fin (hg s ho)
  · intro i l hi
    rcases hold i l hi with ⟨_, hl⟩ | ⟨_, rfl⟩
    · have := h.lt i l hl; simp; omega
    · simp
  · intro i j l l' k1 k2 hi hj hk1 hk2 a1 a2 he
    rcases hold i l hi with ⟨hil, hl⟩ | ⟨hil, rfl⟩ <;> rcases hold j l' hj with ⟨hjl, hl'⟩ | ⟨hjl, rfl⟩
    · exact h.inj i j l l' k1 k2 hl hl' (hblk i k1 hil hk1) (hblk j k2 hjl hk2) a1 a2 he
    · have := h.lt i l hl; simp at he; omega
    · have := h.lt j l' hl'; simp at he; omega
    · omega
  · intro i l k' hi hk
    rcases hold i l hi with ⟨hil, hl⟩ | ⟨hil, rfl⟩
    · have hb' := (h.blk i l k' hl (hblk i k' hil hk)).mono (Lays.le_append L [⟨w.heap.size, n, N, sz, g⟩])
      have hlt := h.lt i l hl
      rw [Array.getElem?_push]
      rw [if_neg (by omega)]
      exact hb'
    · subst hil
      have : k' = k := by simpa [h.len] using hk.symm
      subst this
      simpa using hb

theorem Sim.alloc (h : Sim P L H w) (o : Obj) (k : Blk) (n N sz : Nat) (hb : BR P (L ++ [⟨w.heap.size, n, N, sz, none⟩]) ⟨w.heap.size, n, N, sz, none⟩ k (some o)) :
    Sim P (L ++ [⟨w.heap.size, n, N, sz, none⟩]) (H ++ [k]) { w with heap := w.heap.push o } := h.allocG o k n N sz none nofun hb

/-- A block that is never looked at. -/
theorem Sim.extra (h : Sim P L H w) (o : Obj) : Sim P L H { w with heap := w.heap.push o } := by
  refine ⟨h.len, fun i l hi => by have := h.lt i l hi; simp; omega, h.inj, fun i l k hi hk => ?_, fun i l s hi ho => ?_⟩
  · have := h.lt i l hi
    simp only
    rw [Array.getElem?_push, if_neg (by omega)]
    exact h.blk i l k hi hk
  · obtain ⟨h1, h2⟩ := h.out i l s hi ho
    refine ⟨h1, fun b hb => ?_⟩
    obtain ⟨h3, h4, h5⟩ := h2 b hb
    exact ⟨by simp; omega, by simp only; rw [Array.getElem?_push, if_neg (by omega)]; exact h4, h5⟩

/-- A block that is not looked at turns. -/
theorem Sim.free (h : Sim P L H w) (r : Nat) (o : Obj) (hr : ∀ (i : Nat) (l : Lay), L[i]? = some l → l.b ≠ r) (hk : ∀ (i : Nat) (l : Lay) (s : Stays), L[i]? = some l → l.o = some s → r ∉ s.ks) :
    Sim P L H { w with heap := w.heap.setIfInBounds r o } := by
  refine ⟨h.len, fun i l hi => by have := h.lt i l hi; simpa using this, h.inj, fun i l k hi hk' => ?_, fun i l s hi ho => ?_⟩
  · simp only
    rw [Array.getElem?_setIfInBounds_ne (fun e => hr i l hi e.symm)]
    exact h.blk i l k hi hk'
  · obtain ⟨h1, h2⟩ := h.out i l s hi ho
    refine ⟨h1, fun b hb => ?_⟩
    obtain ⟨h3, h4, h5⟩ := h2 b hb
    refine ⟨by simpa using h3, ?_, h5⟩
    simp only
    have hne : r ≠ b := fun e => hk i l s hi ho (by rw [e]; exact hb)
    rw [Array.getElem?_setIfInBounds_ne hne]
    exact h4

/-- A cell that is read. -/
theorem Sim.cell (h : Sim P L H w) {i : Nat} {l : Lay} {c : List Value} {e : TypeId} {fr : Nat × Nat} {s : Bool} (hl : L[i]? = some l) (hk : H[i]? = some (.cells c e fr s))
    {off : Nat} {v : Value} (hv : c[off]? = some v) : ∃ v', w.cell? ⟨l.b, off, none⟩ = some v' ∧ CR L v v' := by
  obtain ⟨c', f, h1, _, _, _, _, _, _, h6⟩ := h.blk i l _ hl hk
  obtain ⟨v', ha, hb⟩ := h6 off v hv
  exact ⟨v', by simp [World.cell?, h1, ha], hb⟩

theorem Sim.unfrozen (h : Sim P L H w) {i : Nat} {l : Lay} {c : List Value} {e : TypeId} {fr : Nat × Nat} {s : Bool} (hl : L[i]? = some l) (hk : H[i]? = some (.cells c e fr s))
    {off : Nat} (ho : off < l.N) (hf : s = true ∨ ¬ (fr.1 ≤ off ∧ off < fr.2)) : w.frozen? ⟨l.b, off, none⟩ = false := by
  obtain ⟨c', f, h1, h8, _, _, _, _, _, _⟩ := h.blk i l _ hl hk
  simp only [World.frozen?, h1]
  cases s with
  | true =>
    simp only [FrOk, if_true] at h8
    rcases h8 with rfl | rfl <;> simp <;> omega
  | false =>
    simp only [FrOk, Bool.false_eq_true, if_false] at h8
    subst h8
    have := hf.resolve_left (by simp)
    obtain ⟨lo, hi⟩ := f
    simp at this ⊢
    omega

/-- A block whose contents turn. -/
theorem Sim.setBlk (h : Sim P L H w) {i : Nat} {l : Lay} {k k' : Blk} {o : Obj} (hl : L[i]? = some l) (hk : H[i]? = some k) (ha : k.alive = true)
    {w' : World} (hw : w'.heap = w.heap.setIfInBounds l.b o) (hos : w'.os = w.os ∧ w'.output = w.output) (hb : BR P L l k' (some o)) : Sim P L (H.set i k') w' := by
  have hi : i < H.length := (List.getElem?_eq_some_iff.1 hk).1
  have hlt := h.lt i l hl
  refine ⟨by simp [h.len], fun j l' hj => by rw [hw]; simpa using h.lt j l' hj, ?_, ?_, fun j l' s hj ho => ?_⟩
  · intro a b la lb ka kb hla hlb hka hkb aa ab he
    have fix : ∀ (j : Nat) (x : Blk), (H.set i k')[j]? = some x → x.alive = true → ∃ y, H[j]? = some y ∧ y.alive = true := by
      intro j x hx hxa
      by_cases hij : i = j
      · subst hij; exact ⟨k, hk, ha⟩
      · rw [List.getElem?_set_ne hij] at hx; exact ⟨x, hx, hxa⟩
    obtain ⟨ya, hya, hya'⟩ := fix a ka hka aa
    obtain ⟨yb, hyb, hyb'⟩ := fix b kb hkb ab
    exact h.inj a b la lb ya yb hla hlb hya hyb hya' hyb' he
  · intro j l' x hj hx
    rw [hw]
    by_cases hij : i = j
    · subst hij
      rw [List.getElem?_set_self hi] at hx
      cases hx
      rw [hl] at hj; cases hj
      rw [Array.getElem?_setIfInBounds_self_of_lt hlt]
      exact hb
    · rw [List.getElem?_set_ne hij] at hx
      by_cases hd : x.alive = true
      · have hne : l.b ≠ l'.b := fun he => hij (h.inj i j l l' k x hl hj hk hx ha hd he)
        rw [Array.getElem?_setIfInBounds_ne hne]
        exact h.blk j l' x hj hx
      · cases x with
        | dead => trivial
        | _ => simp [Blk.alive] at hd
  · obtain ⟨h1, h2⟩ := h.out j l' s hj ho
    refine ⟨by rw [hos.1, hos.2]; exact h1, fun b hb => ?_⟩
    obtain ⟨h3, h4, h5⟩ := h2 b hb
    refine ⟨by rw [hw]; simpa using h3, ?_, h5⟩
    rw [hw, Array.getElem?_setIfInBounds_ne (h5 i l hl)]
    exact h4

/-- A block that is no longer looked at. -/
theorem Sim.kill (h : Sim P L H w) (i : Nat) : Sim P L (H.set i .dead) w := by
  refine ⟨by simp [h.len], h.lt, ?_, ?_, h.out⟩
  · intro a b la lb ka kb hla hlb hka hkb aa ab he
    have fix : ∀ (j : Nat) (x : Blk), (H.set i .dead)[j]? = some x → x.alive = true → H[j]? = some x := by
      intro j x hx hxa
      by_cases hij : i = j
      · subst hij
        by_cases hi : i < H.length
        · rw [List.getElem?_set_self hi] at hx; cases hx; simp [Blk.alive] at hxa
        · rw [List.getElem?_eq_none (by simp; omega)] at hx; cases hx
      · rwa [List.getElem?_set_ne hij] at hx
    exact h.inj a b la lb ka kb hla hlb (fix a ka hka aa) (fix b kb hkb ab) aa ab he
  · intro j l' x hj hx
    by_cases hij : i = j
    · subst hij
      by_cases hi : i < H.length
      · rw [List.getElem?_set_self hi] at hx; cases hx; trivial
      · rw [List.getElem?_eq_none (by simp; omega)] at hx; cases hx
    · rw [List.getElem?_set_ne hij] at hx; exact h.blk j l' x hj hx

theorem Sim.setCell (h : Sim P L H w) {i : Nat} {l : Lay} {c : List Value} {e : TypeId} {fr : Nat × Nat} {s : Bool} (hl : L[i]? = some l) (hk : H[i]? = some (.cells c e fr s))
    {off : Nat} {v v' : Value} (hv : VR L v v') : Sim P L (H.set i (.cells (c.set off v) e fr s)) (w.setCell ⟨l.b, off, none⟩ v') := by
  obtain ⟨c', f, h1, h8, h2, h3, h4, h5, h7, h6⟩ := h.blk i l _ hl hk
  refine h.setBlk (o := .cells (c'.setIfInBounds off v') e f) hl hk rfl ?_ ⟨rfl, rfl⟩ ?_
  · simp only [World.setCell]
    apply Array.ext_getElem?
    intro j
    rw [Array.getElem?_modify, Array.getElem?_setIfInBounds]
    by_cases hj : l.b = j
    · subst hj
      have hb := h.lt i l hl
      rw [if_pos rfl, if_pos rfl, if_pos hb, h1]
      simp
    · simp [hj]
  · refine ⟨_, f, rfl, h8, by simp [h2], by simp [h3], h4, h5, h7, ?_⟩
    intro j x hx
    by_cases hj : off = j
    · subst hj
      by_cases ho : off < c.length
      · rw [List.getElem?_set_self ho] at hx; cases hx
        exact ⟨v', by rw [Array.getElem?_setIfInBounds_self_of_lt (by omega)], .inr hv⟩
      · rw [List.getElem?_eq_none (by simp; omega)] at hx; cases hx
    · rw [List.getElem?_set_ne hj] at hx
      rw [Array.getElem?_setIfInBounds_ne hj]
      exact h6 j x hx
end

/-- The same, but for what still stands. -/
def Lays.like (L L' : Lays) : Prop := ∀ (i : Nat) (l : Lay), L[i]? = some l → ∃ o, L'[i]? = some { l with o := o }

theorem FnR.like {L L' : Lays} (h : L.like L') {f f' : Fn} (hf : FnR L f f') : FnR L' f f' := by
  cases hf with
  | same f hn => exact .same f hn
  | yield hi => obtain ⟨o, ho⟩ := h _ _ hi; exact FnR.yield (l := { ‹Lay› with o := o }) ho

mutual
theorem VR.like {L L' : Lays} (h : L.like L') : ∀ {v v' : Value}, VR L v v' → VR L' v v'
  | _, _, .bool x => .bool x
  | _, _, .int k n => .int k n
  | _, _, .string s => .string s
  | _, _, .nilp => .nilp
  | _, _, .ptr (l := l) hi => by obtain ⟨o, ho⟩ := h _ _ hi; exact .ptr (l := { l with o := o }) ho
  | _, _, .nils n c => .nils n c
  | _, _, .slice (l := l) hi hc => by obtain ⟨o, ho⟩ := h _ _ hi; exact .slice (l := { l with o := o }) ho hc
  | _, _, .sliceU (l := l) hi h1 => by obtain ⟨o, ho⟩ := h _ _ hi; exact .sliceU (l := { l with o := o }) ho h1
  | _, _, .lit a => .lit a
  | _, _, .nilm => .nilm
  | _, _, .map (l := l) hi => by obtain ⟨o, ho⟩ := h _ _ hi; exact .map (l := { l with o := o }) ho
  | _, _, .func hf ha hc => .func (hf.like h) (VRs.like h ha) (VRs.like h hc)
  | _, _, .nilf => .nilf
  | _, _, .iface t hv => .iface t (VR.like h hv)
  | _, _, .nili => .nili
  | _, _, .agg hc => .agg (VRs.like h hc)
  | _, _, .tuple hc hn => .tuple (VRs.like h hc) hn
theorem VRs.like {L L' : Lays} (h : L.like L') : ∀ {v v' : List Value}, VRs L v v' → VRs L' v v'
  | _, _, .nil => .nil
  | _, _, .cons hv ht => .cons (VR.like h hv) (VRs.like h ht)
end

theorem TR.like {L L' : Lays} (h : L.like L') {v v' : Value} (hv : TR L v v') : TR L' v v' := hv.imp id (VR.like h)
theorem CR.like {L L' : Lays} (h : L.like L') {v v' : Value} (hv : CR L v v') : CR L' v v' := hv.imp id (VR.like h)
theorem MR.like {L L' : Lays} (h : L.like L') {l : List (Value × Value)} {l' : List MapEntry} (hm : MR L l l') : MR L' l l' := by
  induction hm with
  | nil => exact .nil
  | cons hk hv _ ih => exact .cons hk (hv.like h) ih
theorem LR.like {L L' : Lays} (h : L.like L') {st : LoopState} {pd : Option Code} {n : Nat} {τ : List Value} {rf : RF} {c : Loop} (hl : LR L st pd n τ rf c) : LR L' st pd n τ rf c :=
  ⟨hl.state, hl.pending, hl.size, fun i => (hl.tmps i).like h, hl.params, hl.assign, hl.body⟩
theorem BR.like {P : Program} {L L' : Lays} (h : L.like L') {l : Lay} (x : Option Stays) {k : Blk} {o : Option Obj} (hb : BR P L l k o) : BR P L' { l with o := x } k o := by
  cases k with
  | cells c e fr str =>
    obtain ⟨c', f, h1, h8, h2, h3, h4, h5, h7, h6⟩ := hb
    exact ⟨c', f, h1, h8, h2, h3, h4, h5, h7, fun i v hi => let ⟨v', a, b⟩ := h6 i v hi; ⟨v', a, b.like h⟩⟩
  | map es => obtain ⟨es', ck, h1, h2⟩ := hb; exact ⟨es', ck, h1, h2.like h⟩
  | iter s p => exact hb
  | loop st pd n τ rf => obtain ⟨c, h1, h2⟩ := hb; exact ⟨c, h1, h2.like h⟩
  | foreign ob => exact hb
  | dead => trivial

/-- From a place on nothing more is said of what still stands. -/
def eraseFrom (n : Nat) (L : Lays) : Lays := L.mapIdx fun i l => if i < n then l else { l with o := none }

theorem eraseFrom_get (n : Nat) (L : Lays) (i : Nat) : (eraseFrom n L)[i]? = L[i]?.map fun l => if i < n then l else { l with o := none } := by
  simp [eraseFrom]
theorem eraseFrom_like (n : Nat) (L : Lays) : L.like (eraseFrom n L) := fun i l hi => by
  rw [eraseFrom_get, hi]
  by_cases h : i < n
  · exact ⟨l.o, by simp [h]⟩
  · exact ⟨none, by simp [h]⟩
theorem eraseFrom_le {n : Nat} {L L' : Lays} (h : L.le L') (hn : L.length ≤ n) : L.le (eraseFrom n L') := fun i l hi => by
  rw [eraseFrom_get, h i l hi]
  have := (List.getElem?_eq_some_iff.1 hi).1
  simp; intro; omega

theorem Sim.erase {P : Program} {L : Lays} {H : Heap} {w : World} (h : Sim P L H w) (n : Nat) : Sim P (eraseFrom n L) H w := by
  have back : ∀ (i : Nat) (l : Lay), (eraseFrom n L)[i]? = some l → ∃ l₀, L[i]? = some l₀ ∧ l₀.b = l.b ∧ l = { l₀ with o := l.o } ∧ (∀ s, l.o = some s → l₀.o = some s) := by
    intro i l hi
    rw [eraseFrom_get] at hi
    cases hl : L[i]? with
    | none => rw [hl] at hi; simp at hi
    | some l₀ =>
      rw [hl] at hi
      simp only [Option.map_some, Option.some.injEq] at hi
      refine ⟨l₀, rfl, ?_⟩
      subst hi
      by_cases hlt : i < n
      · simp [hlt]
      · simp [hlt]
  refine ⟨by simp [eraseFrom, h.len], fun i l hi => ?_, fun i j l l' k k' hi hj hk hk' ha ha' he => ?_, fun i l k hi hk => ?_, fun i l s hi ho => ?_⟩
  · obtain ⟨l₀, h1, h2, _⟩ := back i l hi
    rw [← h2]; exact h.lt i l₀ h1
  · obtain ⟨l₀, h1, h2, _⟩ := back i l hi
    obtain ⟨l₁, h3, h4, _⟩ := back j l' hj
    exact h.inj i j l₀ l₁ k k' h1 h3 hk hk' ha ha' (by rw [h2, h4, he])
  · obtain ⟨l₀, h1, h2, h3, _⟩ := back i l hi
    have := (h.blk i l₀ k h1 hk).like (eraseFrom_like n L) l.o
    rw [← h3, h2] at this
    exact this
  · obtain ⟨l₀, h1, h2, h3, h4⟩ := back i l hi
    obtain ⟨h5, h6⟩ := h.out i l₀ s h1 (h4 s ho)
    refine ⟨h5, fun b hb => ?_⟩
    obtain ⟨h7, h8, h9⟩ := h6 b hb
    refine ⟨h7, h8, fun j l' hj => ?_⟩
    obtain ⟨l₁, h10, h11, _⟩ := back j l' hj
    rw [← h11]; exact h9 j l₁ h10
end Go.Wel
