/- Slices: cut, grown, copied, cleared; their lengths. -/
import Derived.Test.YtajdleoobkfckaaGreatDoorWelOp
import GoSem.Builtin.Append
set_option linter.unusedSimpArgs false
set_option linter.unusedVariables false
namespace Go.Wel
open Go

/-- A bound that is given, or not. -/
inductive OR (L : Lays) : Option Value → Option Value → Prop
  | none : OR L none none
  | some {v v' : Value} (h : TR L v v') : OR L (some v) (some v')

def bnd (x : Option Value) (d top : Nat) : Option Nat := match x with
  | none => some d
  | some (.int _ i) => if 0 ≤ i ∧ i ≤ top then some i.toNat else none
  | some _ => none

theorem run_bound {P : Program} {w : World} {k : IntKind} {i : Int} {y : Nat} (code : BoundsCode) (h : 0 ≤ i ∧ i ≤ y) : (Instr.sliceBound (.int k i) y code).run P w = .ok i.toNat w := by
  simp [Instr.sliceBound, asIntOf, h]

theorem run_bounds {P : Program} {L : Lays} {w : World} {isS : Bool} {len cap : Nat} {lo hi mx lo' hi' mx' : Option Value} (h1 : OR L lo lo') (h2 : OR L hi hi') (h3 : OR L mx mx')
    {l h m top : Nat} (hm : bnd mx cap cap = some m) (hh : bnd hi len top = some h) (htop : top ≤ m) (hl : bnd lo 0 h = some l) (hx : mx.isSome = true → hi.isSome = true) :
    (Instr.sliceBounds isS len cap lo' hi' mx').run P w = .ok (l, h, m) w := by
  have hint : ∀ {x x' : Option Value}, OR L x x' → ∀ {d top r : Nat}, bnd x d top = some r → (x = none ∧ x' = none ∧ r = d) ∨ ∃ k i, x' = some (.int k i) ∧ 0 ≤ i ∧ i ≤ top ∧ r = i.toNat := by
    intro x x' hr d top r hb
    cases hr with
    | none => left; simp [bnd] at hb; exact ⟨rfl, rfl, hb.symm⟩
    | @some v v' hv =>
      cases v with
      | int k i =>
        right
        simp only [bnd] at hb
        split at hb
        · rename_i hc; cases hb
          exact ⟨k, i, by rw [hv.int], hc.1, hc.2, rfl⟩
        · cases hb
      | _ => simp [bnd] at hb
  rcases hint h3 hm with ⟨a1, a2, a3⟩ | ⟨km, im, a1, a2, a3, a4⟩ <;> rcases hint h2 hh with ⟨b1, b2, b3⟩ | ⟨kh, ih, b1, b2, b3, b4⟩ <;> rcases hint h1 hl with ⟨c1, c2, c3⟩ | ⟨kl, il, c1, c2, c3, c4⟩ <;> subst_vars
  all_goals try (exfalso; cases h3; cases h2; exact absurd (hx rfl) Bool.false_ne_true)
  all_goals simp only [Instr.sliceBounds, Sem.run_bind, Sem.run_pure, Result.andThen_ok]
  all_goals (try rw [run_bound _ ⟨a2, a3⟩])
  all_goals (try simp only [Result.andThen_ok])
  all_goals (try rw [run_bound _ ⟨b2, by omega⟩])
  all_goals (try simp only [Result.andThen_ok])
  all_goals (try rw [run_bound _ ⟨c2, c3⟩])
  all_goals (try simp only [Result.andThen_ok])
  all_goals rfl

def Heap.elemAt (H : Heap) (i : Nat) : Option TypeId := match H[i]? with
  | some (.cells _ e _ _) => some e
  | _ => none

/-- s[lo:hi:mx] of a string. -/
def cutStr (x : Value) (lo hi : Option Value) : M Value := fun H => match x with
  | .string s => match bnd hi s.size s.size with
    | some h => match bnd lo 0 h with
      | some l => .ret (.string (s.extract l h)) H
      | none => .bad
    | none => .bad
  | _ => .bad

/-- s[lo:hi:mx] of an array of n elements of sz cells, by its address. -/
def cutArr (n sz : Nat) (x : Value) (lo hi mx : Option Value) : M Value := fun H => match x with
  | .pointer (some a) => if (mx.isSome = true → hi.isSome = true) ∧ n ≠ capU ∧ n < capU then match bnd mx n n with
    | some m => match bnd hi n m with
      | some h => match bnd lo 0 h with
        | some l => .ret (.slice (some (if m = l then a else ⟨a.block, a.off + l * sz, none⟩)) (h - l) (m - l)) H
        | none => .bad
      | none => .bad
    | none => .bad
    else .bad
  | _ => .bad

/-- s[lo:hi:mx] of a slice of elements of sz cells. -/
def cutS (P : Program) (sz : Nat) (x : Value) (lo hi mx : Option Value) : M Value := fun H => match x with
  | .slice none len cap => if (mx.isSome = true → hi.isSome = true) then match bnd mx cap cap with
    | some m => match bnd hi len m with
      | some h => match bnd lo 0 h with
        | some l => .ret (.slice none (h - l) (m - l)) H
        | none => .bad
      | none => .bad
    | none => .bad
    else .bad
  | .slice (some a) len cap => if (mx.isSome = true → hi.isSome = true) then
      if cap = capU then
        match mx with
        | none => match bnd hi len len with
          | some h => match bnd lo 0 h with
            | some l => if (H.elemAt a.block).map P.cellsOf = some sz then .ret (.slice (some ⟨a.block, a.off + l * sz, none⟩) (h - l) capU) H else .bad
            | none => .bad
          | none => .bad
        | some v => match bnd (some v) len len with
          | some m => match bnd hi len m with
            | some h => match bnd lo 0 h with
              | some l => if 0 < len ∧ len < capU then .ret (.slice (some (if m = l then a else ⟨a.block, a.off + l * sz, none⟩)) (h - l) (m - l)) H else .bad
              | none => .bad
            | none => .bad
          | none => .bad
      else if cap < capU then match bnd mx cap cap with
        | some m => match bnd hi len m with
          | some h => match bnd lo 0 h with
            | some l => .ret (.slice (some (if m = l then a else ⟨a.block, a.off + l * sz, none⟩)) (h - l) (m - l)) H
            | none => .bad
          | none => .bad
        | none => .bad
      else .bad
    else .bad
  | _ => .bad

def aSlice (P : Program) (t : TypeId) (x : Value) (lo hi mx : Option Value) : M Value := fun H => match P.underlying t with
  | some .string => if mx = none then cutStr x lo hi H else .bad
  | some (.slice e) => if (P.info? e).isSome = true then cutS P (P.cellsOf e) x lo hi mx H else .bad
  | some (.array n e) => if (P.info? e).isSome = true then cutArr n (P.cellsOf e) x lo hi mx H else .bad
  | _ => .bad

section
variable {P : Program} {L : Lays} {H : Heap} {w : World}

theorem bnd_le {x : Option Value} {d top r : Nat} (h : bnd x d top = some r) (hd : x = none → d ≤ top) : r ≤ top := by
  unfold bnd at h
  split at h
  · cases h; exact hd rfl
  · split at h
    · cases h; omega
    · cases h
  · cases h

theorem sound_slice (h : Sim P L H w) {x x' : Value} (hx : TR L x x') {lo hi mx lo' hi' mx' : Option Value} (h1 : OR L lo lo') (h2 : OR L hi hi') (h3 : OR L mx mx') (t : TypeId) :
    Snd P L w (Instr.sliceAt t x' lo' hi' mx') (aSlice P t x lo hi mx H) := by
  unfold aSlice
  split
  · rename_i hu
    split
    · rename_i hn
      subst hn
      cases h3
      unfold cutStr
      split
      · rename_i s
        obtain rfl := hx.string
        split
        · rename_i hh eh
          split
          · rename_i ll el
            refine .pure (v' := .string (s.extract ll hh)) h ?_ (.string _)
            simp only [Instr.sliceAt, Instr.slice, Sem.run_bind, run_und hu, Result.andThen_ok, Option.isSome_none, Bool.false_eq_true, if_false, Sem.run_pure]
            rw [run_bounds h1 h2 .none (m := s.size) (by rfl) eh (Nat.le_refl _) el (by simp)]
            rfl
          · trivial
        · trivial
      · trivial
    · trivial
  · rename_i e hu
    split
    · rename_i hi0
      unfold cutS
      split
      · rename_i len cap
        obtain rfl := (hx.vr (by simp [undef])).nils_inv
        split
        · rename_i hxx
          split
          · rename_i m em
            split
            · rename_i hh eh
              split
              · rename_i ll el
                refine .pure (v' := .slice none (hh - ll) (m - ll)) h ?_ (.nils _ _)
                simp only [Instr.sliceAt, Instr.slice, Sem.run_bind, run_und hu, Result.andThen_ok]
                rw [run_bounds h1 h2 h3 em eh (Nat.le_refl _) el hxx]
                simp [run_size hi0]
              · trivial
            · trivial
          · trivial
        · trivial
      · rename_i a len cap
        by_cases hE : cap = capE
        · subst hE
          split
          · rw [if_neg (by have := capE_eq; omega), if_neg (by have := capE_eq; omega)]; trivial
          · trivial
        obtain ⟨l, off', cap', hl, ha, rfl, hc⟩ := (hx.vr (by simp [undef])).slice_inv (.inl hE)
        split
        · rename_i hxx
          split
          · rename_i hcu
            subst hcu
            have hcap : CapU l a.off off' len cap' := by
              rcases hc with ⟨hh, _⟩ | ⟨_, hh⟩
              · exact absurd rfl hh
              · exact hh
            have hlen : len ≤ cap' := by rcases hcap with ⟨_, _, _, h⟩ | ⟨h, _⟩ <;> omega
            split
            · cases h3
              split
              · rename_i hh eh
                have hle := bnd_le eh (fun _ => Nat.le_refl _)
                split
                · rename_i ll el
                  have hll := bnd_le el (fun _ => Nat.zero_le _)
                  split
                  · rename_i hel
                    have hsz : l.sz = P.cellsOf e := by
                      unfold Heap.elemAt at hel
                      cases hb : H[a.block]? with
                      | none => simp [hb] at hel
                      | some k =>
                        cases k with
                        | cells c e' fr s =>
                          obtain ⟨c', f, _, _, _, _, _, _, h7, _⟩ := h.blk _ _ _ hl hb
                          simp [hb] at hel
                          rw [h7, hel]
                        | _ => simp [hb] at hel
                    have hrun : (Instr.sliceAt t (.slice (some ⟨l.b, off', none⟩) len cap') lo' hi' none).run P w =
                        .ok (.slice (some (if cap' = ll then ⟨l.b, off', none⟩ else ⟨l.b, off' + ll * P.cellsOf e, none⟩)) (hh - ll) (cap' - ll)) w := by
                      simp only [Instr.sliceAt, Instr.slice, Sem.run_bind, run_und hu, Result.andThen_ok]
                      rw [run_bounds h1 h2 .none (m := cap') rfl eh hlen el (by simp)]
                      simp only [Result.andThen_ok, run_size hi0, Sem.run_pure, Option.map_some, add_eq]
                      split <;> rfl
                    refine ⟨L, _, w, hrun, Lays.le_refl L, h, ?_⟩
                    by_cases hm : cap' = ll
                    · rw [if_pos hm]
                      refine .sliceU hl (.inr ⟨by omega, by omega, ?_⟩)
                      rcases hcap with ⟨_, q, _, _⟩ | ⟨_, _, q⟩
                      · subst hm; rw [← hsz]; exact q
                      · omega
                    · rw [if_neg hm]
                      refine .sliceU hl (.inl ⟨?_, ?_, ?_, by omega⟩)
                      · rcases hcap with ⟨q, _⟩ | ⟨q, q', _⟩
                        · rw [q]
                        · omega
                      · rcases hcap with ⟨_, q, _, _⟩ | ⟨q, q', _⟩
                        · rw [← hsz]
                          have : (cap' - ll) * l.sz + ll * l.sz = cap' * l.sz := by rw [← Nat.add_mul]; congr 1; omega
                          omega
                        · omega
                      · rcases hcap with ⟨_, _, q, _⟩ | ⟨q, q', _⟩
                        · rw [← hsz]
                          have : (cap' - ll) * l.sz + ll * l.sz = cap' * l.sz := by rw [← Nat.add_mul]; congr 1; omega
                          omega
                        · omega
                  · trivial
                · trivial
              · trivial
            · rename_i v
              split
              · rename_i m em
                split
                · rename_i hh eh
                  split
                  · rename_i ll el
                    split
                    · rename_i hpos
                      have hml := bnd_le em (fun h => by cases h)
                      have hoff : off' = a.off := by rcases hcap with ⟨q, _⟩ | ⟨q, _⟩ <;> omega
                      subst hoff
                      have em' : bnd (some v) cap' cap' = some m := by
                        cases v with
                        | int kv iv =>
                          simp only [bnd] at em ⊢
                          split at em
                          · rename_i hc2; cases em; rw [if_pos ⟨hc2.1, by omega⟩]
                          · cases em
                        | _ => simp [bnd] at em
                      have hrun : (Instr.sliceAt t (.slice (some ⟨l.b, a.off, none⟩) len cap') lo' hi' mx').run P w =
                          .ok (.slice (some (if m = ll then ⟨l.b, a.off, none⟩ else ⟨l.b, a.off + ll * P.cellsOf e, none⟩)) (hh - ll) (m - ll)) w := by
                        simp only [Instr.sliceAt, Instr.slice, Sem.run_bind, run_und hu, Result.andThen_ok]
                        rw [run_bounds h1 h2 h3 em' eh (Nat.le_refl _) el hxx]
                        simp only [Result.andThen_ok, run_size hi0, Sem.run_pure, Option.map_some, add_eq]
                        split <;> rfl
                      refine ⟨L, _, w, hrun, Lays.le_refl L, h, ?_⟩
                      split
                      · rw [ha]; exact .slice hl (by have := capE_eq; omega)
                      · exact .slice hl (by have := capE_eq; omega)
                    · trivial
                  · trivial
                · trivial
              · trivial
          · rename_i hcu
            split
            · rename_i hlt
              obtain ⟨rfl, rfl⟩ : cap' = cap ∧ off' = a.off := by
                rcases hc with ⟨_, q⟩ | ⟨q, _⟩
                · exact q
                · exact absurd q hcu
              split
              · rename_i m em
                have hml := bnd_le em (fun _ => Nat.le_refl _)
                split
                · rename_i hh eh
                  split
                  · rename_i ll el
                    have hrun : (Instr.sliceAt t (.slice (some ⟨l.b, a.off, none⟩) len cap') lo' hi' mx').run P w =
                        .ok (.slice (some (if m = ll then ⟨l.b, a.off, none⟩ else ⟨l.b, a.off + ll * P.cellsOf e, none⟩)) (hh - ll) (m - ll)) w := by
                      simp only [Instr.sliceAt, Instr.slice, Sem.run_bind, run_und hu, Result.andThen_ok]
                      rw [run_bounds h1 h2 h3 em eh (Nat.le_refl _) el hxx]
                      simp only [Result.andThen_ok, run_size hi0, Sem.run_pure, Option.map_some, add_eq]
                      split <;> rfl
                    refine ⟨L, _, w, hrun, Lays.le_refl L, h, ?_⟩
                    split
                    · rw [ha]; exact .slice hl (by have := capE_eq; omega)
                    · exact .slice hl (by have := capE_eq; omega)
                  · trivial
                · trivial
              · trivial
            · trivial
        · trivial
      · trivial
    · trivial
  · rename_i n e hu
    split
    · rename_i hi0
      unfold cutArr
      split
      · rename_i a
        obtain ⟨l, hl, ha, rfl⟩ := (hx.vr (by simp [undef])).ptr_inv
        split
        · rename_i hxx
          split
          · rename_i m em
            have hml := bnd_le em (fun _ => Nat.le_refl _)
            split
            · rename_i hh eh
              split
              · rename_i ll el
                have hrun : (Instr.sliceAt t (.pointer (some ⟨l.b, a.off, none⟩)) lo' hi' mx').run P w =
                    .ok (.slice (some (if m = ll then ⟨l.b, a.off, none⟩ else ⟨l.b, a.off + ll * P.cellsOf e, none⟩)) (hh - ll) (m - ll)) w := by
                  simp only [Instr.sliceAt, Sem.run_bind, run_und hu, Result.andThen_ok, Instr.sureAddr, Sem.run_pure]
                  rw [run_bounds h1 h2 h3 em eh (Nat.le_refl _) el hxx.1]
                  simp only [Result.andThen_ok, run_size hi0, Sem.run_pure, add_eq]
                refine ⟨L, _, w, hrun, Lays.le_refl L, h, ?_⟩
                split
                · rw [ha]; exact .slice hl (by have := capE_eq; omega)
                · exact .slice hl (by have := capE_eq; omega)
              · trivial
            · trivial
          · trivial
        · trivial
      · trivial
    · trivial
  · trivial
end
end Go.Wel
