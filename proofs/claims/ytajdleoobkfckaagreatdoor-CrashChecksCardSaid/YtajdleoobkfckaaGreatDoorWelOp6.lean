/- Values built of parts, maps, ranges over strings, assertions, panics. -/
import Derived.Test.YtajdleoobkfckaaGreatDoorWelOp5
set_option linter.unusedSimpArgs false
set_option linter.unusedVariables false
namespace Go.Wel
open Go

def layAt (off : Nat) (cs : Array Value) : List (Value × Nat) → Array Value
  | [] => cs
  | (c, j) :: r => layAt off (cs.setIfInBounds (off + j) c) r

theorem layAt_eq (off : Nat) : ∀ (l : List (Value × Nat)) (cs : Array Value), l.foldl (fun cs (x : Value × Nat) => cs.setIfInBounds (off + x.2) x.1) cs = layAt off cs l
  | [], cs => rfl
  | (c, j) :: r, cs => by simp only [List.foldl_cons, layAt]; exact layAt_eq off r _

inductive PRs (L : Lays) : List (Nat × Value) → List (Nat × Value) → Prop
  | nil : PRs L [] []
  | cons {i : Nat} {v v' : Value} {l l' : List (Nat × Value)} (h : TR L v v') (ht : PRs L l l') : PRs L ((i, v) :: l) ((i, v') :: l')

section
variable {P : Program} {L : Lays} {H : Heap} {w : World}

theorem layAt_rel (off : Nat) : ∀ (l l' : List Value) (k : Nat) (cs cs' : Array Value), VRs L l l' → VRs L cs.toList cs'.toList → VRs L (layAt off cs (l.zipIdx k)).toList (layAt off cs' (l'.zipIdx k)).toList
  | [], l', k, cs, cs', h, hc => by cases h; exact hc
  | v :: l, l', k, cs, cs', h, hc => by
    cases h with
    | cons h1 h2 =>
      simp only [List.zipIdx_cons, layAt]
      exact layAt_rel off l _ (k + 1) _ _ h2 (by rw [Array.toList_setIfInBounds, Array.toList_setIfInBounds]; exact hc.set h1 _)

theorem fill_rel (place : Nat → Option (Nat × Nat)) : ∀ (ps ps' : List (Nat × Value)) (cs cs' r : Array Value), PRs L ps ps' → VRs L cs.toList cs'.toList → ps.all (fun p => isVal p.2) = true →
    Instr.fill place cs ps = some r → ∃ r', Instr.fill place cs' ps' = some r' ∧ VRs L r.toList r'.toList
  | [], ps', cs, cs', r, h, hc, _, hf => by
    cases h
    simp only [Instr.fill, Option.some.injEq] at hf; subst hf
    exact ⟨cs', rfl, hc⟩
  | (i, v) :: ps, ps', cs, cs', r, h, hc, hv, hf => by
    cases h with
    | @cons _ _ v' _ l' h1 h2 =>
      simp only [List.all_cons, Bool.and_eq_true] at hv
      have hvv := h1.vr (by rintro rfl; simp [isVal, undef] at hv)
      have hcells := hvv.cells hv.1
      have hsz : v'.cells.size = v.cells.size := by have := hcells.length; simpa using this.symm
      have hcs : cs'.size = cs.size := by have := hc.length; simpa using this.symm
      simp only [Instr.fill] at hf ⊢
      cases hp : place i with
      | none => simp [hp] at hf
      | some os =>
        obtain ⟨off, size⟩ := os
        simp only [hp] at hf ⊢
        rw [hsz, hcs]
        split at hf
        · cases hf
        · rename_i hn
          rw [if_neg hn]
          have key : ∀ (c cs : Array Value), (c.zipIdx.foldl (fun cs (x : Value × Nat) => cs.setIfInBounds (off + x.2) x.1) cs) = layAt off cs (c.toList.zipIdx 0) := by
            intro c cs
            rw [← Array.foldl_toList, Array.toList_zipIdx]
            exact layAt_eq off _ _
          have k1 := key v.cells cs
          have k2 := key v'.cells cs'
          have f1 : (v.cells.zipIdx.foldl (fun cs (x : Value × Nat) => match x with | (c, j) => cs.setIfInBounds (off + j) c) cs) = layAt off cs (v.cells.toList.zipIdx 0) := k1
          have f2 : (v'.cells.zipIdx.foldl (fun cs (x : Value × Nat) => match x with | (c, j) => cs.setIfInBounds (off + j) c) cs') = layAt off cs' (v'.cells.toList.zipIdx 0) := k2
          rw [f1] at hf
          rw [f2]
          exact fill_rel place ps l' _ _ r h2 (layAt_rel off _ _ 0 _ _ hcells hc) hv.2 hf

/-- Where the fields lie. -/
def placesOf (P : Program) (fields : Array Field) : Option (Array (Nat × Nat)) := if fields.all (fun f => (P.info? f.type).isSome) = true then some (fields.map fun f => (f.offset, P.cellsOf f.type)) else none

theorem run_places {fields : Array Field} {ps : Array (Nat × Nat)} (h : placesOf P fields = some ps) (w : World) :
    (fields.mapM (fun f => (do pure (f.offset, ← sizeOf f.type) : Sem (Nat × Nat)))).run P w = .ok ps w := by
  unfold placesOf at h
  split at h
  · rename_i ha
    cases h
    have key : ∀ (l : List Field), (∀ f ∈ l, (P.info? f.type).isSome = true) → (l.mapM (fun f => (do pure (f.offset, ← sizeOf f.type) : Sem (Nat × Nat)))).run P w = .ok (l.map fun f => (f.offset, P.cellsOf f.type)) w := by
      intro l
      induction l with
      | nil => intro _; rfl
      | cons f l ih =>
        intro hl
        simp only [List.mapM_cons, Sem.run_bind, run_size (hl f (by simp)), Result.andThen_ok, Sem.run_pure, ih (fun g hg => hl g (by simp [hg])), List.map_cons]
    have hall : ∀ f ∈ fields.toList, (P.info? f.type).isSome = true := by
      intro f hf
      exact Array.all_eq_true_iff_forall_mem.1 ha f (by simpa using hf)
    have := key fields.toList hall
    rw [Array.mapM_eq_mapM_toList]
    simp only [Sem.run_map, this, Result.andThen_ok]
    congr 1
    apply Array.ext'
    simp
  · cases h
end

def aBuild (P : Program) (t : TypeId) (ps : List (Nat × Value)) : M Value := fun H => match (P.info? t).bind (·.zero), P.underlying t with
  | some z, some (.struct fields) => match placesOf P fields with
    | some places => if flat z = true ∧ ps.all (fun p => isVal p.2) = true then match Instr.fill (places[·]?) z.cells ps with
        | some cs => .ret (.agg cs) H
        | none => .bad
      else .bad
    | none => .bad
  | some z, some (.array _ e) => if flat z = true ∧ ps.all (fun p => isVal p.2) = true ∧ (P.info? e).isSome = true then match Instr.fill (fun i => some (i * P.cellsOf e, P.cellsOf e)) z.cells ps with
        | some cs => .ret (.agg cs) H
        | none => .bad
      else .bad
  | _, _ => .bad

def aBuildSlice (P : Program) (t : TypeId) (n : Nat) (ps : List (Nat × Value)) : M Value := fun H => match P.underlying t with
  | some (.slice e) => match (P.info? e).bind (·.zero) with
    | some z => if flat z = true ∧ z.cells.size = P.cellsOf e ∧ ps.all (fun p => isVal p.2) = true ∧ (P.info? e).isSome = true ∧ n * P.cellsOf e ≤ 2 ^ 24 ∧ 0 < P.cellsOf e then
        match Instr.fill (fun i => some (i * P.cellsOf e, P.cellsOf e)) (Builtin.zeroCells z.cells n) ps with
        | some cs => .ret (.slice (some ⟨H.length, 0, none⟩) n n) (H ++ [.cells cs.toList e (0, 0) false])
        | none => .bad
      else .bad
    | none => .bad
  | _ => .bad

def scalarKey : Value → Bool
  | .int _ _ | .string _ | .bool _ => true
  | _ => false

def scalarKind : TypeDesc → Bool
  | .int _ | .string | .bool => true
  | _ => false

def aFind (kind : TypeDesc) (k : Value) : List (Value × Value) → Nat → Option (Option (Nat × Value))
  | [], _ => some none
  | (k', v) :: r, i => match Instr.sameNow kind k k' with
    | some true => some (some (i, v))
    | some false => aFind kind k r (i + 1)
    | none => none

/-- The entries of a map. -/
def entriesOf (m : Value) (H : Heap) : Option (List (Value × Value)) := match m with
  | .map none => some []
  | .map (some r) => match H[r]? with
    | some (.map es) => some es
    | _ => none
  | _ => none

def aLookup (P : Program) (t : TypeId) (m k : Value) (ok : Bool) : M Value := fun H => match P.underlying t, entriesOf m H with
  | some (.map kt e), some es => match P.underlying kt, (P.info? e).bind (·.zero) with
    | some kind, some z => if scalarKind kind = true ∧ scalarKey k = true ∧ flat z = true then match aFind kind k es 0 with
        | some (some (_, v)) => .ret (if ok then .tuple #[v, .bool true] else v) H
        | some none => .ret (if ok then .tuple #[z, .bool false] else z) H
        | none => .bad
      else .bad
    | _, _ => .bad
  | _, _ => .bad

def aMapUpdate (P : Program) (t : TypeId) (m k v : Value) : M Value := fun H => match P.underlying t, m with
  | some (.map kt _), .map (some r) => match P.underlying kt, H[r]? with
    | some kind, some (.map es) => if scalarKind kind = true ∧ scalarKey k = true ∧ isVal v = true then match aFind kind k es 0 with
        | some (some (i, _)) => .ret undef (H.set r (.map (es.set i (k, v))))
        | some none => .ret undef (H.set r (.map (es ++ [(k, v)])))
        | none => .bad
      else .bad
    | _, _ => .bad
  | _, _ => .bad

def aDelete (P : Program) (t : TypeId) (m k : Value) : M Value := fun H => match P.underlying t, m with
  | some (.map kt _), .map none => match P.underlying kt with
    | some kind => if scalarKind kind = true ∧ scalarKey k = true then .ret undef H else .bad
    | none => .bad
  | some (.map kt _), .map (some r) => match P.underlying kt, H[r]? with
    | some kind, some (.map es) => if scalarKind kind = true ∧ scalarKey k = true then match aFind kind k es 0 with
        | some (some (i, _)) => .ret undef (H.set r (.map (es.eraseIdx i)))
        | some none => .ret undef (H.set r (.map es))
        | none => .bad
      else .bad
    | _, _ => .bad
  | _, _ => .bad

def aMakeMap (P : Program) (t : TypeId) (r : Option Value) : M Value := fun H => match r with
  | none => .ret (.map (some H.length)) (H ++ [.map []])
  | some (.int _ _) => match P.underlying t with
    | some (.map _ _) => .ret (.map (some H.length)) (H ++ [.map []])
    | _ => .bad
  | some _ => .bad

def aRange (P : Program) (t : TypeId) (x : Value) : M Value := fun H => match P.underlying t, x with
  | some .string, .string s => .ret (.pointer (some ⟨H.length, 0, none⟩)) (H ++ [.iter s 0])
  | _, _ => .bad

def aNext (it : Value) (isS : Bool) : M Value := fun H => match it with
  | .pointer (some ⟨r, 0, _⟩) => match H[r]?, isS with
    | some (.iter s pos), true => if pos < s.size then
        .ret (.tuple #[.bool true, .int .i64 pos, .int .i32 (Utf8.decode s pos).1]) (H.set r (.iter s (pos + (Utf8.decode s pos).2)))
      else .ret (.tuple #[.bool false]) H
    | _, _ => .bad
  | _ => .bad

def aAssert (P : Program) (x : Value) (asserted : TypeId) (ok : Bool) : M Value := fun H => match P.underlying asserted, x with
  | some (.interface want), .iface t v => match P.info? t with
    | some i => match Instr.missingMethod want i.methods with
      | none => .ret (if ok then .tuple #[x, .bool true] else x) H
      | some _ => if ok then match (P.info? asserted).bind (·.zero) with
          | some z => if flat z = true then .ret (.tuple #[z, .bool false]) H else .bad
          | none => .bad
        else .bad
    | none => .bad
  | some _, .nilIface => if ok then match (P.info? asserted).bind (·.zero) with
      | some z => if flat z = true then .ret (.tuple #[z, .bool false]) H else .bad
      | none => .bad
    else .bad
  | some _, .iface t v => if t = asserted then .ret (if ok then .tuple #[v, .bool true] else v) H else if ok then match (P.info? asserted).bind (·.zero) with
      | some z => if flat z = true then .ret (.tuple #[z, .bool false]) H else .bad
      | none => .bad
    else .bad
  | _, _ => .bad

def aPanic (x : Value) : M Value := fun H => match x with
  | .iface _ _ => .pan x H
  | _ => .bad

section
variable {P : Program} {L : Lays} {H : Heap} {w : World}

theorem sound_build (h : Sim P L H w) {ps ps' : List (Nat × Value)} (hp : PRs L ps ps') (t : TypeId) : Snd P L w (Instr.build t ps'.toArray) (aBuild P t ps H) := by
  unfold aBuild
  split
  · rename_i z fields hz hu
    split
    · rename_i places hpl
      split
      · rename_i hc
        split
        · rename_i cs hf
          obtain ⟨r', h1, h2⟩ := fill_rel (L := L) _ ps ps' z.cells z.cells cs hp (flat_cells hc.1) hc.2 hf
          refine .pure (v' := .agg r') h ?_ (.agg h2)
          simp only [Instr.build, Sem.run_bind, run_zero hz, run_und hu, Result.andThen_ok, run_places hpl, List.toList_toArray, h1, Sem.run_pure]
        · trivial
      · trivial
    · trivial
  · rename_i z n e hz hu
    split
    · rename_i hc
      split
      · rename_i cs hf
        obtain ⟨r', h1, h2⟩ := fill_rel (L := L) _ ps ps' z.cells z.cells cs hp (flat_cells hc.1) hc.2.1 hf
        refine .pure (v' := .agg r') h ?_ (.agg h2)
        simp only [Instr.build, Sem.run_bind, run_zero hz, run_und hu, Result.andThen_ok, run_size hc.2.2, List.toList_toArray, h1, Sem.run_pure]
      · trivial
    · trivial
  · trivial

theorem sound_buildSlice (h : Sim P L H w) {ps ps' : List (Nat × Value)} (hp : PRs L ps ps') (t : TypeId) (n : Nat) : Snd P L w (Instr.buildSlice t n ps'.toArray) (aBuildSlice P t n ps H) := by
  unfold aBuildSlice
  split
  · rename_i e hu
    split
    · rename_i z hz
      split
      · rename_i hc
        obtain ⟨c1, c2, c3, c4, c5, c6⟩ := hc
        split
        · rename_i cs hf
          obtain ⟨r', h1, h2⟩ := fill_rel (L := L) _ ps ps' (Builtin.zeroCells z.cells n) (Builtin.zeroCells z.cells n) cs hp (flat_zeroCells c1 n) c3 hf
          have hcells : (if n * P.cellsOf e = 0 then (Array.map (fun x => (#[] : Array Value)[x % (#[] : Array Value).size]!) (Array.range (n * P.cellsOf e))) else (Array.map (fun x => z.cells[x % z.cells.size]!) (Array.range (n * P.cellsOf e)))) = Builtin.zeroCells z.cells n := by
            split
            · rename_i h0
              apply Array.ext'
              simp [Builtin.zeroCells, c2, h0]
            · simp [Builtin.zeroCells, c2]
          have hcap : n ≠ capU ∧ n ≠ capE := by
            have : n * 1 ≤ n * P.cellsOf e := Nat.mul_le_mul_left _ c6
            unfold capU capE; omega
          by_cases hcap' : n = capU
          · exfalso
            have : n * 1 ≤ n * P.cellsOf e := Nat.mul_le_mul_left _ c6
            unfold capU at hcap'; omega
          refine ⟨_, .slice (some ⟨w.heap.size, 0, none⟩) n n, _, ?_, Lays.le_append _ _, h.newRow e h2, .slice (h.newPtr _) hcap⟩
          have hlt : ¬ (n * P.cellsOf e > 2 ^ 24) := by omega
          simp only [Instr.buildSlice, Sem.run_bind, run_und hu, Result.andThen_ok, run_size c4, hlt, if_false, Sem.run_ite, Sem.run_pure, run_zero hz, List.toList_toArray]
          by_cases h0 : n * P.cellsOf e = 0
          · simp only [h0, if_true, Result.andThen_ok] at hcells ⊢
            rw [hcells, h1]
            rfl
          · simp only [h0, if_false, Result.andThen_ok] at hcells ⊢
            rw [hcells, h1]
            rfl
        · trivial
      · trivial
    · trivial
  · trivial

theorem ba_eq {a b : ByteArray} (h : (a == b) = true) : a = b := by
  cases a; cases b
  have : ByteArray.beq _ _ = true := h
  simp [ByteArray.beq] at this
  rw [this]

theorem sameNow_eq {kind : TypeDesc} {k k' : Value} (h : Instr.sameNow kind k k' = some true) : k' = k := by
  unfold Instr.sameNow at h
  split at h
  · split at h
    · rename_i hk; subst hk; simp at h; rw [h]
    · cases h
  · simp only [Option.some.injEq] at h; rw [ba_eq h]
  · simp at h; rw [h]
  · cases h

theorem find_rel {kind : TypeDesc} {k : Value} {es : List (Value × Value)} {es' : List MapEntry} (hm : MR L es es') : ∀ (i : Nat) {r : Option (Nat × Value)}, aFind kind k es i = some r →
    match r with
    | none => Instr.findNow kind k es' i = some none
    | some (j, v) => ∃ v', Instr.findNow kind k es' i = some (some (j, v')) ∧ VR L v v' ∧ i ≤ j ∧ ∃ e, es'[j - i]? = some e ∧ e.key = k := by
  induction hm with
  | nil => intro i r h; simp [aFind] at h; subst h; rfl
  | @cons k0 v e l l' hk hv _ ih =>
    intro i r h
    simp only [aFind] at h
    simp only [Instr.findNow, hk]
    split at h
    · rename_i hs
      cases h
      refine ⟨e.val, by rw [hs], hv, Nat.le_refl _, e, by simp, by rw [hk]; exact sameNow_eq hs⟩
    · rename_i hs
      have := ih (i + 1) h
      rw [hs]
      cases r with
      | none => exact this
      | some jv =>
        obtain ⟨j, u⟩ := jv
        obtain ⟨v', q1, q2, q3, e', q4, q5⟩ := this
        refine ⟨v', q1, q2, by omega, e', ?_, q5⟩
        rw [show j - i = (j - (i + 1)) + 1 by omega]
        simpa using q4
    · cases h

theorem scalar_eq {k k' : Value} (h : TR L k k') (hs : scalarKey k = true) : k' = k := by
  cases k <;> simp [scalarKey] at hs
  · exact h.bool
  · exact h.int
  · exact h.string

theorem run_checkKey {b : Bool} {kt : TypeId} {kind : TypeDesc} (hu : P.underlying kt = some kind) (hs : scalarKind kind = true) (k : Value) (w : World) :
    (Instr.checkKey b 10000 kt k).run P w = .ok () w := by
  have : ∀ n, (Instr.checkKey b (n + 1) kt k).run P w = .ok () w := by
    intro n
    simp only [Instr.checkKey, Sem.run_bind, run_und hu, Result.andThen_ok]
    cases kind <;> simp_all [scalarKind]
  exact this 9999

theorem entries_rel (h : Sim P L H w) {m m' : Value} (hm : TR L m m') {es : List (Value × Value)} (he : entriesOf m H = some es) :
    ∃ es' : Array MapEntry, MR L es es'.toList ∧ ((m' = .map none ∧ es' = #[]) ∨ ∃ r ck, m' = .map (some r) ∧ w.heap[r]? = some (.map es' ck)) := by
  unfold entriesOf at he
  split at he
  · cases he
    exact ⟨#[], .nil, .inl ⟨(hm.vr (by simp [undef])).nilm_inv, rfl⟩⟩
  · split at he
    · rename_i es0 hk
      cases he
      obtain ⟨l, hl, rfl⟩ := (hm.vr (by simp [undef])).map_inv
      obtain ⟨es', ck, h1, h2⟩ := h.blk _ _ _ hl hk
      exact ⟨es', h2, .inr ⟨_, ck, rfl, h1⟩⟩
    · cases he
  · cases he

theorem sound_lookup (h : Sim P L H w) {m m' k k' : Value} (hm : TR L m m') (hk : TR L k k') (t : TypeId) (ok : Bool) : Snd P L w (Instr.lookup t m' k' ok) (aLookup P t m k ok H) := by
  unfold aLookup
  split
  · rename_i kt e es hu he
    split
    · rename_i kind z hkt hz
      split
      · rename_i hc
        obtain ⟨c1, c2, c3⟩ := hc
        obtain rfl := scalar_eq hk c2
        obtain ⟨es', hmr, hm2⟩ := entries_rel h hm he
        split
        · rename_i i v hf
          obtain ⟨v', q1, q2, _⟩ := find_rel hmr 0 hf
          refine .pure (v' := if ok then .tuple #[v', .bool true] else v') h ?_ ?_
          · rcases hm2 with ⟨rfl, rfl⟩ | ⟨r, ck, rfl, hr⟩
            · simp [Instr.findNow] at q1
            · simp only [Instr.lookup, Sem.run_bind, run_und hu, Result.andThen_ok, getObj, Sem.run, hr, Sem.run_pure, run_checkKey hkt c1, Instr.findKey, run_und hkt, q1]
          · split
            · exact .tuple (.cons q2 (.cons (.bool _) .nil)) Token.pair
            · exact q2
        · rename_i hf
          have q1 := find_rel hmr 0 hf
          refine .pure (v' := if ok then .tuple #[z, .bool false] else z) h ?_ ?_
          · rcases hm2 with ⟨rfl, rfl⟩ | ⟨r, ck, rfl, hr⟩
            · simp only [Instr.lookup, Sem.run_bind, run_und hu, Result.andThen_ok, Sem.run_pure, run_checkKey hkt c1, Instr.findKey, run_und hkt, Instr.findNow, run_zero hz]
            · simp only [Instr.lookup, Sem.run_bind, run_und hu, Result.andThen_ok, getObj, Sem.run, hr, Sem.run_pure, run_checkKey hkt c1, Instr.findKey, run_und hkt, q1, run_zero hz]
          · split
            · exact .tuple (.cons (flat_refl L c3) (.cons (.bool _) .nil)) Token.pair
            · exact flat_refl L c3
        · trivial
      · trivial
    · trivial
  · trivial

theorem MR.set {es : List (Value × Value)} {es' : List MapEntry} (hm : MR L es es') {k v v' : Value} (hv : VR L v v') : ∀ (i : Nat), (∃ e, es'[i]? = some e ∧ e.key = k) →
    MR L (es.set i (k, v)) (es'.modify i fun e => { e with key := k, val := v' }) := by
  induction hm with
  | nil => intro i h; obtain ⟨e, h, _⟩ := h; simp at h
  | @cons k0 v0 e l l' hk h0 hr ih =>
    intro i h
    cases i with
    | zero => simp only [List.set_cons_zero, List.modify_zero_cons]; exact .cons rfl hv hr
    | succ i => simp only [List.set_cons_succ, List.modify_succ_cons]; exact .cons hk h0 (ih i (by simpa using h))

theorem MR.push {es : List (Value × Value)} {es' : List MapEntry} (hm : MR L es es') {k v v' : Value} (hv : VR L v v') (b : Nat) :
    MR L (es ++ [(k, v)]) (es' ++ [{ key := k, val := v', born := b }]) := by
  induction hm with
  | nil => exact .cons rfl hv .nil
  | cons hk h0 _ ih => exact .cons hk h0 ih

theorem MR.erase {es : List (Value × Value)} {es' : List MapEntry} (hm : MR L es es') : ∀ i, MR L (es.eraseIdx i) (es'.eraseIdx i) := by
  induction hm with
  | nil => intro i; exact .nil
  | cons hk h0 hr ih =>
    intro i
    cases i with
    | zero => exact hr
    | succ i => exact .cons hk h0 (ih i)

theorem sameBits_refl {k : Value} (h : scalarKey k = true) : Instr.sameBits 10000 k k = true := by
  have : ∀ n, Instr.sameBits (n + 1) k k = true := by
    intro n
    cases k <;> simp [scalarKey] at h <;> simp [Instr.sameBits]
    case string s =>
      cases s
      show ByteArray.beq _ _ = true
      simp [ByteArray.beq]
  exact this 9999

theorem sound_mapUpdate (h : Sim P L H w) {m m' k k' v v' : Value} (hm : TR L m m') (hk : TR L k k') (hv : TR L v v') (t : TypeId) :
    SndU P L w (Instr.mapUpdate t m' k' v') (aMapUpdate P t m k v H) := by
  unfold aMapUpdate
  split
  · rename_i kt e r hu
    split
    · rename_i kind es hkt hb
      split
      · rename_i hc
        obtain ⟨c1, c2, c3⟩ := hc
        obtain rfl := scalar_eq hk c2
        have hvv := hv.vr (by rintro rfl; simp [isVal, undef] at c3)
        obtain ⟨l, hl, rfl⟩ := (hm.vr (by simp [undef])).map_inv
        obtain ⟨es', ck, h1, h2⟩ := h.blk _ _ _ hl hb
        split
        · rename_i i u hf
          obtain ⟨u', q1, _, _, e', q4, q5⟩ := find_rel h2 0 hf
          simp only [Nat.sub_zero] at q4
          have q4' : es'[i]? = some e' := by simpa using q4
          refine ⟨L, { w with heap := w.heap.setIfInBounds l.b (.map (es'.modify i fun e => { e with key := k', val := v' }) ck) }, ?_, Lays.le_refl L, h.setBlk hl hb rfl rfl ⟨rfl, rfl⟩ ⟨_, ck, rfl, ?_⟩⟩
          · have hst : ∀ w0 : World, (Instr.keyThatStays k' k').run P w0 = .ok k' w0 := by
              intro w0; unfold Instr.keyThatStays; rw [if_pos (sameBits_refl c2)]; rfl
            simp only [Instr.mapUpdate, Sem.run_bind, run_und hu, Result.andThen_ok, getObj, Sem.run, h1, Sem.run_pure, run_checkKey hkt c1, Instr.findKey, run_und hkt, q1, q4', Option.map_some, Option.getD_some, q5, hst, setObj]
          · rw [Array.toList_modify]
            exact h2.set hvv i ⟨e', q4, q5⟩
        · rename_i hf
          have q1 := find_rel h2 0 hf
          refine ⟨L, { w with heap := w.heap.setIfInBounds l.b (.map (es'.push { key := k', val := v', born := ck }) (ck + 1)) }, ?_, Lays.le_refl L, h.setBlk hl hb rfl rfl ⟨rfl, rfl⟩ ⟨_, ck + 1, rfl, ?_⟩⟩
          · simp only [Instr.mapUpdate, Sem.run_bind, run_und hu, Result.andThen_ok, getObj, Sem.run, h1, Sem.run_pure, run_checkKey hkt c1, Instr.findKey, run_und hkt, q1, setObj]
          · rw [Array.toList_push]; exact h2.push hvv ck
        · trivial
      · trivial
    · trivial
  · trivial

theorem sound_delete (h : Sim P L H w) {m m' k k' : Value} (hm : TR L m m') (hk : TR L k k') (t kt2 ty : TypeId) : Snd P L w (Builtin.delete_ #[t, kt2] ty #[m', k']) (aDelete P t m k H) := by
  have und : VR L undef undef := .tuple .nil Token.nil
  unfold aDelete
  split
  · rename_i kt e hu
    split
    · rename_i kind hkt
      split
      · rename_i hc
        obtain rfl := scalar_eq hk hc.2
        obtain rfl := (hm.vr (by simp [undef])).nilm_inv
        exact .pure (v' := undef) h (by simp [Builtin.delete_, run_und hu, run_checkKey hkt hc.1, undef]) und
      · trivial
    · trivial
  · rename_i kt e r hu
    split
    · rename_i kind es hkt hb
      split
      · rename_i hc
        obtain rfl := scalar_eq hk hc.2
        obtain ⟨l, hl, rfl⟩ := (hm.vr (by simp [undef])).map_inv
        obtain ⟨es', ck, h1, h2⟩ := h.blk _ _ _ hl hb
        split
        · rename_i i u hf
          obtain ⟨u', q1, _⟩ := find_rel h2 0 hf
          refine ⟨L, undef, { w with heap := w.heap.setIfInBounds l.b (.map (es'.eraseIdxIfInBounds i) ck) }, ?_, Lays.le_refl L, h.setBlk hl hb rfl rfl ⟨rfl, rfl⟩ ⟨_, ck, rfl, ?_⟩, und⟩
          · simp only [Builtin.delete_, List.getElem?_toArray, List.getElem?_cons_zero, List.getElem?_cons_succ, Sem.run_bind, run_und hu, Result.andThen_ok, getObj, Sem.run, h1, Sem.run_pure, run_checkKey hkt hc.1, Instr.findKey, run_und hkt, q1, setObj]
            rfl
          · rw [Array.toList_eraseIdxIfInBounds]; exact h2.erase i
        · rename_i hf
          have q1 := find_rel h2 0 hf
          refine ⟨L, undef, { w with heap := w.heap.setIfInBounds l.b (.map es' ck) }, ?_, Lays.le_refl L, h.setBlk hl hb rfl rfl ⟨rfl, rfl⟩ ⟨_, ck, rfl, h2⟩, und⟩
          simp only [Builtin.delete_, List.getElem?_toArray, List.getElem?_cons_zero, List.getElem?_cons_succ, Sem.run_bind, run_und hu, Result.andThen_ok, getObj, Sem.run, h1, Sem.run_pure, run_checkKey hkt hc.1, Instr.findKey, run_und hkt, q1, setObj]
          rfl
        · trivial
      · trivial
    · trivial
  · trivial

inductive ORo (L : Lays) : Option Value → Option Value → Prop
  | none : ORo L none none
  | some {v v' : Value} (h : TR L v v') : ORo L (some v) (some v')

theorem sound_makeMap (h : Sim P L H w) {r r' : Option Value} (hr : OR L r r') (t : TypeId) : Snd P L w (Instr.makeMap t r') (aMakeMap P t r H) := by
  have new : Sim P (L ++ [⟨w.heap.size, 0, 0, 0, none⟩]) (H ++ [.map []]) { w with heap := w.heap.push (.map #[] 0) } := h.alloc _ _ _ _ _ ⟨#[], 0, rfl, .nil⟩
  unfold aMakeMap
  split
  · cases hr
    exact ⟨_, _, _, rfl, Lays.le_append _ _, new, .map (h.newPtr _)⟩
  · rename_i k n
    split
    · rename_i k e hu
      cases hr with
      | some hv =>
        obtain rfl := hv.int
        exact ⟨_, _, _, by simp [Instr.makeMap, run_und hu, asInt, asIntOf], Lays.le_append _ _, new, .map (h.newPtr _)⟩
    · trivial
  · trivial

theorem sound_range (h : Sim P L H w) {x x' : Value} (hx : TR L x x') (t : TypeId) : Snd P L w (Instr.range t x') (aRange P t x H) := by
  unfold aRange
  split
  · rename_i s hu
    obtain rfl := hx.string
    exact ⟨L ++ [⟨w.heap.size, 0, 0, 0, none⟩], .pointer (some ⟨w.heap.size, 0, none⟩), { w with heap := w.heap.push (.stringIter s 0) }, by simp [Instr.range, run_und hu], Lays.le_append _ _, h.alloc (.stringIter s 0) (.iter s 0) 0 0 0 rfl, .ptr (h.newPtr _)⟩
  · trivial

theorem sound_next (h : Sim P L H w) {x x' : Value} (hx : TR L x x') (b : Bool) (t : TypeId) : Snd P L w (Instr.next x' b t) (aNext x b H) := by
  unfold aNext
  split
  · rename_i r sp
    obtain ⟨l, hl, rfl⟩ := hx.ptr
    split
    · rename_i s pos hb
      have h1 := h.blk _ _ _ hl hb
      have h1' : w.heap[l.b]? = some (.stringIter s pos) := h1
      split
      · rename_i hp
        refine ⟨L, .tuple #[.bool true, .int .i64 pos, .int .i32 (Utf8.decode s pos).1], { w with heap := w.heap.setIfInBounds l.b (.stringIter s (pos + (Utf8.decode s pos).2)) }, ?_, Lays.le_refl L, h.setBlk hl hb rfl rfl ⟨rfl, rfl⟩ rfl,
          .tuple (.cons (.bool _) (.cons (.int _ _) (.cons (.int _ _) .nil))) Token.three⟩
        simp [Instr.next, getObj, setObj, Sem.run, h1', hp, goInt]
      · rename_i hp
        exact .pure (v' := .tuple #[.bool false]) h (by simp [Instr.next, getObj, Sem.run, h1', hp]) (.tuple (.cons (.bool _) .nil) Token.one)
    · trivial
  · trivial

theorem sound_assert (h : Sim P L H w) {x x' : Value} (hx : TR L x x') (xt asserted : TypeId) (ok : Bool) : Snd P L w (Instr.typeAssert x' xt asserted ok) (aAssert P x asserted ok H) := by
  unfold aAssert
  split
  · rename_i want t v hu
    have hv := hx.vr (by simp [undef])
    obtain ⟨v', rfl, hvv⟩ := hv.iface_inv
    split
    · rename_i i hi
      split
      · rename_i hm
        refine .pure (v' := if ok then .tuple #[.iface t v', .bool true] else .iface t v') h ?_ ?_
        · simp only [Instr.typeAssert, Sem.run_bind, run_und hu, Result.andThen_ok, typeInfo, run_program, hi, Sem.run_pure, hm]
        · split
          · exact .tuple (.cons hv (.cons (.bool _) .nil)) Token.pair
          · exact hv
      · rename_i s hm
        split
        · rename_i hok
          split
          · rename_i z hz
            split
            · rename_i hf
              refine .pure (v' := .tuple #[z, .bool false]) h ?_ (.tuple (.cons (flat_refl L hf) (.cons (.bool _) .nil)) Token.pair)
              simp only [Instr.typeAssert, Sem.run_bind, run_und hu, Result.andThen_ok, typeInfo, run_program, hi, Sem.run_pure, hm, hok, if_true, run_zero hz]
            · trivial
          · trivial
        · trivial
    · trivial
  · rename_i u hu
    obtain rfl := (hx.vr (by simp [undef])).nili_inv
    split
    · rename_i hok
      split
      · rename_i z hz
        split
        · rename_i hf
          refine .pure (v' := .tuple #[z, .bool false]) h ?_ (.tuple (.cons (flat_refl L hf) (.cons (.bool _) .nil)) Token.pair)
          simp only [Instr.typeAssert, Sem.run_bind, run_und hu, Result.andThen_ok, hok, if_true]
          cases u <;> simp only [Sem.run_bind, run_zero hz, Result.andThen_ok, Sem.run_pure]
        · trivial
      · trivial
    · trivial
  · rename_i u t v hn hu
    have hv := hx.vr (by simp [undef])
    obtain ⟨v', rfl, hvv⟩ := hv.iface_inv
    split
    · rename_i ht
      refine .pure (v' := if ok then .tuple #[v', .bool true] else v') h ?_ ?_
      · simp only [Instr.typeAssert, Sem.run_bind, run_und hu, Result.andThen_ok]
        cases u <;> first
          | (simp only [ht, if_true, Sem.run_pure]; done)
          | exact absurd rfl (hn _)
      · split
        · exact .tuple (.cons hvv (.cons (.bool _) .nil)) Token.pair
        · exact hvv
    · rename_i ht
      split
      · rename_i hok
        split
        · rename_i z hz
          split
          · rename_i hf
            refine .pure (v' := .tuple #[z, .bool false]) h ?_ (.tuple (.cons (flat_refl L hf) (.cons (.bool _) .nil)) Token.pair)
            simp only [Instr.typeAssert, Sem.run_bind, run_und hu, Result.andThen_ok, hok, if_true]
            cases u <;> first
              | (simp only [ht, if_false, Sem.run_bind, run_zero hz, Result.andThen_ok, Sem.run_pure]; done)
              | exact absurd rfl (hn _)
          · trivial
        · trivial
      · trivial
  · trivial

theorem sound_panic (h : Sim P L H w) {x x' : Value} (hx : TR L x x') : Snd P L w (Instr.panic x') (aPanic x H) := by
  unfold aPanic
  split
  · have hv := hx.vr (by simp [undef])
    obtain ⟨v', rfl, hvv⟩ := hv.iface_inv
    exact ⟨L, _, w, rfl, Lays.le_refl L, h, hv⟩
  · trivial
end
end Go.Wel
