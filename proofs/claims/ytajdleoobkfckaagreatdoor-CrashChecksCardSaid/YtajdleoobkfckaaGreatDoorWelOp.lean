/- The operations of the text that touch cells: load, store, places, new cells, slices. -/
import Derived.Test.YtajdleoobkfckaaGreatDoorWelMem
set_option linter.unusedSimpArgs false
set_option linter.unusedVariables false
namespace Go.Wel
open Go

theorem run_und {P : Program} {t : TypeId} {d : TypeDesc} (h : P.underlying t = some d) (w : World) : (underlying t).run P w = .ok d w := by
  simp [underlying, h]
theorem run_size {P : Program} {t : TypeId} (h : (P.info? t).isSome = true) (w : World) : (sizeOf t).run P w = .ok (P.cellsOf t) w := by
  obtain ⟨i, hi⟩ := Option.isSome_iff_exists.1 h
  simp [sizeOf, typeInfo, hi, Program.cellsOf]
theorem run_zero {P : Program} {t : TypeId} {z : Value} (h : ((P.info? t).bind (·.zero)) = some z) (w : World) : (zeroValue t).run P w = .ok z w := by
  cases hi : P.info? t with
  | none => simp [hi] at h
  | some i => simp [hi] at h; simp [zeroValue, typeInfo, hi, h]

def isAggT (P : Program) (t : TypeId) : Option Bool := match P.underlying t with
  | some (.struct _) => some true
  | some (.array _ _) => some true
  | some _ => some false
  | none => none

theorem run_isAggT {P : Program} {t : TypeId} {b : Bool} (h : isAggT P t = some b) (w : World) : (isAgg t).run P w = .ok b w := by
  unfold isAggT at h
  cases hu : P.underlying t with
  | none => simp [hu] at h
  | some d =>
    rw [hu] at h
    simp only [isAgg, Sem.run_bind, run_und hu, Result.andThen_ok]
    cases d <;> simp_all

theorem TR.ptr {L : Lays} {a : Addr} {v' : Value} (h : TR L (.pointer (some a)) v') : ∃ l, L[a.block]? = some l ∧ v' = .pointer (some ⟨l.b, a.off, none⟩) := by
  obtain ⟨l, h1, _, h3⟩ := (h.vr (by simp [undef])).ptr_inv
  exact ⟨l, h1, h3⟩

def ldS (x : Value) : M Value := fun H => match x with
  | .pointer (some a) => match H.get1 a.block a.off with
    | some v => .ret v H
    | none => .bad
  | _ => .bad

def ldG (n : Nat) (x : Value) : M Value := fun H => match x with
  | .pointer (some a) => match H.getN a.block a.off n with
    | some vs => .ret (.agg vs.toArray) H
    | none => .bad
  | _ => .bad

def aLoad (P : Program) (t : TypeId) (x : Value) : M Value := fun H => match isAggT P t with
  | some true => if (P.info? t).isSome = true then ldG (P.cellsOf t) x H else .bad
  | some false => ldS x H
  | none => .bad

def stS (x v : Value) : M Value := fun H => match x with
  | .pointer (some a) => match H.put1 a.block a.off v with
    | some H' => .ret undef H'
    | none => .bad
  | _ => .bad

def stG (n : Nat) (x v : Value) : M Value := fun H => match x, v with
  | .pointer (some a), .agg c => if c.size = n then match H.putN a.block a.off c.toList with
      | some H' => .ret undef H'
      | none => .bad
    else .bad
  | _, _ => .bad

def aStore (P : Program) (t : TypeId) (x v : Value) : M Value := fun H => match isAggT P t with
  | some true => if (P.info? t).isSome = true then stG (P.cellsOf t) x v H else .bad
  | some false => if P.cellsOf t = 1 ∧ (P.info? t).isSome = true then stS x v H else .bad
  | none => .bad

def new (vs : List Value) (e : TypeId) : M Value := fun H => .ret (.pointer (some ⟨H.length, 0, none⟩)) (H ++ [.cells vs e (0, 0) false])

def aAlloc (P : Program) (e : TypeId) : M Value := fun H => match (P.info? e).bind (·.zero) with
  | some z => if flat z = true then new z.cells.toList e H else .bad
  | none => .bad

def aBox (e : TypeId) (v : Value) : M Value := fun H => match v with
  | .tuple _ => .bad
  | v => new v.cells.toList e H

section
variable {P : Program} {L : Lays} {H : Heap} {w : World}

theorem sound_load (h : Sim P L H w) {x x' : Value} (hx : TR L x x') (t : TypeId) : Snd P L w (Instr.loadAt t x') (aLoad P t x H) := by
  unfold aLoad
  split
  · rename_i ha
    split
    · rename_i hi
      unfold ldG
      split
      · rename_i a
        obtain ⟨l, hl, rfl⟩ := hx.ptr
        split
        · rename_i vs hv
          obtain ⟨h1, vs', h2, h3⟩ := h.getN hl hv
          refine .pure (v' := .agg vs'.toArray) h ?_ (.agg (by simpa using h2))
          simp [Instr.loadAt, Instr.sureAddr, loadVar, run_isAggT ha, run_size hi, h3 P w rfl]
        · trivial
      · trivial
    · trivial
  · rename_i ha
    unfold ldS
    split
    · rename_i a
      obtain ⟨l, hl, rfl⟩ := hx.ptr
      split
      · rename_i v hv
        obtain ⟨v', h1, h2⟩ := h.get1 hl hv
        exact .pure h (by simp [Instr.loadAt, Instr.sureAddr, loadVar, run_isAggT ha, h1]) h2
      · trivial
    · trivial
  · trivial

/-- An operation that hands nothing back. -/
def SndU (P : Program) (L : Lays) (w : World) (s : Sem Unit) : Out Value → Prop
  | .ret _ H' => ∃ L' w', s.run P w = .ok () w' ∧ L.le L' ∧ Sim P L' H' w'
  | .pan v H' => ∃ L' v' w', s.run P w = .halt (.panic v') w' ∧ L.le L' ∧ Sim P L' H' w' ∧ VR L' v v'
  | .bad => True

theorem VR.cells_one {v v' : Value} (h : VR L v v') (hv : Wel.one v = true) : v'.cells = #[v'] := by
  cases h <;> first | rfl | simp [Wel.one] at hv

theorem sound_store (h : Sim P L H w) {x x' v v' : Value} (hx : TR L x x') (hv : TR L v v') (t : TypeId) : SndU P L w (Instr.storeAt t x' v') (aStore P t x v H) := by
  unfold aStore
  split
  · split
    · rename_i hi
      unfold stG
      split
      · rename_i a c
        obtain ⟨l, hl, rfl⟩ := hx.ptr
        split
        · rename_i hs
          split
          · rename_i H' hp
            obtain ⟨c', rfl, hc⟩ := (hv.vr (by simp [undef])).agg_inv
            obtain ⟨w', h1, h2⟩ := h.putN hl hp hc
            refine ⟨L, w', ?_, Lays.le_refl L, h1⟩
            have hn : c'.size = P.cellsOf t := by have := hc.length; simp at this; omega
            simp [Instr.storeAt, Instr.sureAddr, storeVar, Value.cells, run_size hi, hn, h2 P]
          · trivial
        · trivial
      · trivial
    · trivial
  · rename_i ha
    split
    · rename_i hi
      unfold stS
      split
      · rename_i a
        obtain ⟨l, hl, rfl⟩ := hx.ptr
        split
        · rename_i H' hp
          have ho : one v = true := by
            unfold Heap.put1 at hp
            split at hp
            · split at hp
              · rename_i hc; exact hc.2.1
              · cases hp
            · cases hp
          have hvv := hv.vr (by rintro rfl; simp [one, undef] at ho)
          obtain ⟨h1, h2⟩ := h.put1 hl hp hvv
          refine ⟨L, _, ?_, Lays.le_refl L, h1⟩
          have hc := hvv.cells_one ho
          have hr : ((store (Addr.add ⟨l.b, a.off, none⟩ 0) v').run P w) = .ok () (w.setCell ⟨l.b, a.off, none⟩ v') := h2 P
          simp [Instr.storeAt, Instr.sureAddr, storeVar, hc, run_size hi.2, hi.1, storeCells, hr]
        · trivial
      · trivial
    · trivial
  · trivial

theorem flat_cells {z : Value} (h : flat z = true) : VRs L z.cells.toList z.cells.toList := by
  have := flat_refl L h
  cases this with
  | agg hc => exact hc
  | tuple hc => simp [flat, flatD] at h
  | _ => exact .cons (flat_refl L h) .nil

theorem VR.cells {v v' : Value} (h : VR L v v') (hv : isVal v = true) : VRs L v.cells.toList v'.cells.toList := by
  cases h with
  | agg hc => exact hc
  | tuple hc => simp [isVal] at hv
  | bool x => exact .cons (.bool x) .nil
  | int k n => exact .cons (.int k n) .nil
  | string s => exact .cons (.string s) .nil
  | nilp => exact .cons .nilp .nil
  | ptr h => exact .cons (.ptr h) .nil
  | nils n c => exact .cons (.nils n c) .nil
  | slice h hc => exact .cons (.slice h hc) .nil
  | sliceU h h1 => exact .cons (.sliceU h h1) .nil
  | lit a => exact .cons (.lit a) .nil
  | nilm => exact .cons .nilm .nil
  | map h => exact .cons (.map h) .nil
  | func h ha hc => exact .cons (.func h ha hc) .nil
  | nilf => exact .cons .nilf .nil
  | iface t h => exact .cons (.iface t h) .nil
  | nili => exact .cons .nili .nil

theorem sound_new (h : Sim P L H w) {vs : List Value} {vs' : Array Value} (e : TypeId) (hv : VRs L vs vs'.toList) {s : Sem Value}
    (hs : s.run P w = .ok (.pointer (some ⟨w.heap.size, 0, none⟩)) { w with heap := w.heap.push (.cells vs' e) }) : Snd P L w s (new vs e H) :=
  ⟨_, _, _, hs, Lays.le_append _ _, h.newRow e hv, .ptr (h.newPtr _)⟩

theorem sound_alloc (h : Sim P L H w) (e : TypeId) : Snd P L w (Instr.alloc e true (.tuple #[])) (aAlloc P e H) := by
  unfold aAlloc
  split
  · rename_i z hz
    split
    · rename_i hf
      refine sound_new h e (vs' := z.cells) (flat_cells hf) ?_
      simp [Instr.alloc, run_zero hz, newVar, newRow]
    · trivial
  · trivial

theorem sound_box (h : Sim P L H w) (e : TypeId) {v v' : Value} (hv : TR L v v') : Snd P L w (Instr.box e v') (aBox e v H) := by
  unfold aBox
  split
  · trivial
  · rename_i hn
    have hi : isVal v = true := by cases v <;> simp_all [isVal]
    have hvv := hv.vr (by rintro rfl; simp [isVal, undef] at hi)
    refine sound_new h e (vs' := v'.cells) (hvv.cells hi) ?_
    simp [Instr.box, newVar, newRow]
end

/-- A place in a struct, in an array, in a slice. -/
def addO (x : Value) (n : Nat) : M Value := fun H => match x with
  | .pointer (some a) => .ret (.pointer (some ⟨a.block, a.off + n, none⟩)) H
  | _ => .bad

def aFieldAddr (P : Program) (t : TypeId) (x : Value) (f : Nat) : M Value := fun H => match P.underlying t with
  | some (.struct fields) => match fields[f]? with
    | some fl => if (P.info? fl.type).isSome = true ∧ P.cellsOf fl.type ≠ 0 then addO x fl.offset H else .bad
    | none => .bad
  | _ => .bad

def idxS (n : Nat) (x i : Value) : M Value := fun H => match x, i with
  | .slice (some a) len _, .int _ k => if 0 ≤ k ∧ k < len then .ret (.pointer (some ⟨a.block, a.off + k.toNat * n, none⟩)) H else .bad
  | _, _ => .bad

def idxA (len n : Nat) (x i : Value) : M Value := fun H => match x, i with
  | .pointer (some a), .int _ k => if 0 ≤ k ∧ k < len then .ret (.pointer (some ⟨a.block, a.off + k.toNat * n, none⟩)) H else .bad
  | _, _ => .bad

def aIndexAddr (P : Program) (t : TypeId) (x i : Value) : M Value := fun H => match P.underlying t with
  | some (.slice e) => if (P.info? e).isSome = true then idxS (P.cellsOf e) x i H else .bad
  | some (.array len e) => if (P.info? e).isSome = true then idxA len (P.cellsOf e) x i H else .bad
  | _ => .bad

theorem add_eq (b off n : Nat) : Addr.add ⟨b, off, none⟩ n = ⟨b, off + n, none⟩ := by
  unfold Addr.add
  split
  · rename_i h; subst h; rfl
  · rfl

section
variable {P : Program} {L : Lays} {H : Heap} {w : World}

theorem sound_fieldAddr (h : Sim P L H w) {x x' : Value} (hx : TR L x x') (t : TypeId) (f : Nat) : Snd P L w (Instr.fieldAt t x' f) (aFieldAddr P t x f H) := by
  unfold aFieldAddr
  split
  · rename_i fields hu
    split
    · rename_i fl hf
      split
      · rename_i hi
        unfold addO
        split
        · rename_i a
          obtain ⟨l, hl, rfl⟩ := hx.ptr
          refine .pure (v' := .pointer (some ⟨l.b, a.off + fl.offset, none⟩)) h ?_ (.ptr hl)
          simp [Instr.fieldAt, run_und hu, hf, Instr.sureAddr, fieldPlace, run_size hi.1, hi.2, add_eq]
        · trivial
      · trivial
    · trivial
  · trivial

/-- Of a slice that has an element the place is the same. -/
theorem TR.slice {a : Addr} {len cap : Nat} {v' : Value} (h : TR L (.slice (some a) len cap) v') (hl : 0 < len) : ∃ l cap', L[a.block]? = some l ∧ v' = .slice (some ⟨l.b, a.off, none⟩) len cap' := by
  obtain ⟨l, off', cap', h1, _, h3, h4⟩ := (h.vr (by simp [undef])).slice_inv (.inr hl)
  rcases h4 with ⟨_, _, rfl⟩ | ⟨_, ⟨rfl, _⟩ | ⟨h5, _⟩⟩
  · exact ⟨l, cap', h1, h3⟩
  · exact ⟨l, cap', h1, h3⟩
  · omega

theorem TR.int {k : IntKind} {n : Int} {v' : Value} (h : TR L (.int k n) v') : v' = .int k n := (h.vr (by simp [undef])).int_inv
theorem TR.bool {b : Bool} {v' : Value} (h : TR L (.bool b) v') : v' = .bool b := (h.vr (by simp [undef])).bool_inv
theorem TR.string {s : ByteArray} {v' : Value} (h : TR L (.string s) v') : v' = .string s := (h.vr (by simp [undef])).string_inv

theorem sound_indexAddr (h : Sim P L H w) {x x' i i' : Value} (hx : TR L x x') (hi : TR L i i') (t : TypeId) : Snd P L w (Instr.indexAt t x' i') (aIndexAddr P t x i H) := by
  unfold aIndexAddr
  split
  · rename_i e hu
    split
    · rename_i hs
      unfold idxS
      split
      · rename_i a len cap k n
        obtain rfl := hi.int
        split
        · rename_i hb
          obtain ⟨l, cap', hl, rfl⟩ := hx.slice (by omega)
          refine .pure (v' := .pointer (some ⟨l.b, a.off + n.toNat * P.cellsOf e, none⟩)) h ?_ (.ptr hl)
          simp [Instr.indexAt, asIntOf, run_und hu, hb, run_size hs, add_eq]
        · trivial
      · trivial
    · trivial
  · rename_i len e hu
    split
    · rename_i hs
      unfold idxA
      split
      · rename_i a k n
        obtain rfl := hi.int
        split
        · rename_i hb
          obtain ⟨l, hl, rfl⟩ := hx.ptr
          refine .pure (v' := .pointer (some ⟨l.b, a.off + n.toNat * P.cellsOf e, none⟩)) h ?_ (.ptr hl)
          simp [Instr.indexAt, asIntOf, run_und hu, Instr.sureAddr, hb, run_size hs, add_eq]
        · trivial
      · trivial
    · trivial
  · trivial
end

/-- A part of a value. -/
def aPart (P : Program) (t : TypeId) (cs : Array Value) (off : Nat) : Option Value := match isAggT P t with
  | some true => if (P.info? t).isSome = true then some (.agg (cs.extract off (off + P.cellsOf t))) else none
  | some false => cs[off]?
  | none => none

theorem VRs.extract {L : Lays} {c c' : Array Value} (h : VRs L c.toList c'.toList) (i j : Nat) : VRs L (c.extract i j).toList (c'.extract i j).toList := by
  simp only [Array.toList_extract, List.extract_eq_take_drop]
  exact (h.drop i).take (j - i)

theorem sound_part {P : Program} {L : Lays} {w : World} {t : TypeId} {c c' : Array Value} (hc : VRs L c.toList c'.toList) {off : Nat} {v : Value} (hp : aPart P t c off = some v) :
    ∃ v', (part t c' off).run P w = .ok v' w ∧ VR L v v' := by
  unfold aPart at hp
  split at hp
  · rename_i ha
    split at hp
    · rename_i hi
      cases hp
      exact ⟨.agg (c'.extract off (off + P.cellsOf t)), by simp [part, run_isAggT ha, run_size hi], .agg (hc.extract _ _)⟩
    · cases hp
  · rename_i ha
    obtain ⟨v', h1, h2⟩ := hc.get (i := off) (v := v) (by simpa using hp)
    have h1' : c'[off]? = some v' := by simpa using h1
    exact ⟨v', by simp [part, run_isAggT ha, h1'], h2⟩
  · cases hp

def aField (P : Program) (t : TypeId) (x : Value) (f : Nat) : M Value := fun H => match P.underlying t, x with
  | some (.struct fields), .agg c => match fields[f]? with
    | some fl => M.ofOption (aPart P fl.type c fl.offset) H
    | none => .bad
  | _, _ => .bad

def aIndex (P : Program) (t : TypeId) (x i : Value) : M Value := fun H => match P.underlying t, x, i with
  | some (.array len e), .agg c, .int _ k => if 0 ≤ k ∧ k < len ∧ (P.info? e).isSome = true then M.ofOption (aPart P e c (k.toNat * P.cellsOf e)) H else .bad
  | some .string, .string s, .int _ k => if 0 ≤ k then match s[k.toNat]? with
      | some b => .ret (.int .u8 b.toNat) H
      | none => .bad
    else .bad
  | _, _, _ => .bad

section
variable {P : Program} {L : Lays} {H : Heap} {w : World}

theorem sound_field (h : Sim P L H w) {x x' : Value} (hx : TR L x x') (t : TypeId) (f : Nat) : Snd P L w (Instr.field t x' f) (aField P t x f H) := by
  unfold aField
  split
  · rename_i fields c hu
    split
    · rename_i fl hf
      cases hp : aPart P fl.type c fl.offset with
      | none => trivial
      | some v =>
        obtain ⟨c', rfl, hc⟩ := (hx.vr (by simp [undef])).agg_inv
        obtain ⟨v', h1, h2⟩ := sound_part (P := P) (w := w) hc hp
        exact .pure h (by simp [Instr.field, run_und hu, hf, asAgg, h1]) h2
    · trivial
  · trivial

theorem sound_index (h : Sim P L H w) {x x' i i' : Value} (hx : TR L x x') (hi : TR L i i') (t : TypeId) : Snd P L w (Instr.index t x' i') (aIndex P t x i H) := by
  unfold aIndex
  split
  · rename_i len e c kk k hu
    split
    · rename_i hb
      cases hp : aPart P e c (k.toNat * P.cellsOf e) with
      | none => trivial
      | some v =>
        obtain ⟨c', rfl, hc⟩ := (hx.vr (by simp [undef])).agg_inv
        obtain rfl := hi.int
        obtain ⟨v', h1, h2⟩ := sound_part (P := P) (w := w) hc hp
        exact .pure h (by simp [Instr.index, asIntOf, run_und hu, hb.1, hb.2.1, run_size hb.2.2, h1]) h2
    · trivial
  · rename_i s kk k hu
    obtain rfl := hx.string
    obtain rfl := hi.int
    split
    · rename_i h0
      split
      · rename_i b hb
        exact .pure (v' := .int .u8 b.toNat) h (by simp [Instr.index, asIntOf, run_und hu, h0, hb]) (.int _ _)
      · trivial
    · trivial
  · trivial
end
end Go.Wel
