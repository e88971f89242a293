/- The functions that a statement on scripts comes to, as they were printed. -/
import Derived.Test.YtajdleoobkfckaaGreatDoorProg
import Derived.Test.YtajdleoobkfckaaGreatDoorWelLib
import Derived.KernelRfl
set_option maxRecDepth 100000
set_option linter.unusedVariables false
set_option linter.unusedSimpArgs false
namespace Go.Wel
open Go Go.Proofs
def vov : FuncId → Option (List Value → M Value) := fun _ => none
open Classical in
noncomputable def vE : Env := ⟨Tryz.prog, 0, vov, fun x y => decide (x = y), fun _ _ h => of_decide_eq_true h⟩

/- vellum/vellumlaw30.CrashChecks -/
def v3_an : An := (.n [] .z (.n [] .z (.n [] (.n [] .z (.n [] (.n [] .z .z) .z)) (.n [] (.n [] .z (.n [] (.n [] .z .z) .z)) (.n [] .z (.n [] .z (.n [] .z (.n [] .z .z))))))))
def v3_keep : Ex → List Nat
  | _ => []
def v3_kp (e : Ex) : List Nat := if e = .ret then [2] else v3_keep e
noncomputable def v3_c (C : Calls') (t0 : Value) : M R :=
  (aBox 24 t0).bind fun t1 =>
  (aLoad Tryz.prog 24 t1).bind fun t10 =>
  (aInvoke vE C (.func (.func 4) #[] #[]) [t10]).bind fun t11 =>
  (aLoad Tryz.prog 24 t1).bind fun t13 =>
  (aInvoke vE C (.func (.func 5) #[] #[]) [t13]).bind fun t14 =>
  (aBin Tryz.prog .neq 25 (.tmp 12) (.tmp 14) t11 t14).bind fun t15 =>
  condM t15
  (M.pure ⟨.ret, [(.bool false)]⟩)
  ((aBin Tryz.prog .eql 25 (.tmp 16) (.const (.int .i64 0)) t11 (.int .i64 0)).bind fun t17 =>
  condM t17
  (M.pure ⟨.ret, [(.bool true)]⟩)
  ((aLoad Tryz.prog 24 t1).bind fun t19 =>
  (aInvoke vE C (.func (.func 6) #[] #[]) [t19]).bind fun t20 =>
  (aExtract t20 0).bind fun t21 =>
  (aExtract t20 1).bind fun t22 =>
  (aAlloc Tryz.prog 31).bind fun t4 =>
  (aStore Tryz.prog 31 t4 t21).bind fun _ =>
  (aLoad Tryz.prog 24 t1).bind fun t24 =>
  (aInvoke vE C (.func (.func 7) #[] #[]) [t24]).bind fun t25 =>
  (aExtract t25 0).bind fun t26 =>
  (aExtract t25 1).bind fun t27 =>
  (aLoad Tryz.prog 24 t1).bind fun t29 =>
  (aInvoke vE C (.func (.func 8) #[] #[]) [t29, (.int .i64 0), (.slice none 0 0)]).bind fun t30 =>
  (aExtract t30 0).bind fun t31 =>
  (aExtract t30 1).bind fun t32 =>
  (aAlloc Tryz.prog 31).bind fun t8 =>
  (aStore Tryz.prog 31 t8 t31).bind fun _ =>
  (aBin Tryz.prog .eql 25 (.tmp 33) (.tmp 34) t22 t11).bind fun t35 =>
  (gM t35 true (M.pure t27)).bind fun t37 =>
  (gM t35 true (M.pure t11)).bind fun t38 =>
  (gM t35 true ((aBin Tryz.prog .eql 25 (.tmp 37) (.tmp 38) t37 t38).bind M.pure)).bind fun t39 =>
  (pickM t35 t39 (.bool false)).bind fun t40 =>
  (gM t40 true (M.pure t32)).bind fun t42 =>
  (gM t40 true (M.pure t11)).bind fun t43 =>
  (gM t40 true ((aBin Tryz.prog .eql 25 (.tmp 42) (.tmp 43) t42 t43).bind M.pure)).bind fun t44 =>
  (pickM t40 t44 (.bool false)).bind fun t45 =>
  (gM t45 true (M.pure t26)).bind fun t47 =>
  (gM t45 true ((aBin Tryz.prog .eql 3 (.tmp 47) (.const (.int .i64 0)) t47 (.int .i64 0)).bind M.pure)).bind fun t48 =>
  (pickM t45 t48 (.bool false)).bind fun t49 =>
  (gM t49 true ((aLoad Tryz.prog 31 t4).bind M.pure)).bind fun t51 =>
  (gM t49 true ((aBuild Tryz.prog 31 []).bind M.pure)).bind fun t52 =>
  (gM t49 true ((aInvoke vE C (.func (.func 9) #[] #[]) [t51, t52]).bind M.pure)).bind fun t53 =>
  (pickM t49 t53 (.bool false)).bind fun t54 =>
  (gM t54 true ((aLoad Tryz.prog 31 t8).bind M.pure)).bind fun t56 =>
  (gM t54 true ((aBuild Tryz.prog 31 []).bind M.pure)).bind fun t57 =>
  (gM t54 true ((aInvoke vE C (.func (.func 9) #[] #[]) [t56, t57]).bind M.pure)).bind fun t58 =>
  (pickM t54 t58 (.bool false)).bind fun t59 =>
  M.pure ⟨.ret, [t59]⟩))
noncomputable def v3 (C : Calls') (t0 : Value) : M Value := (v3_c C t0).bind fun r => if r.e = .ret then (resM vE [.tmp 2] r.p).bind fun l => M.pure (oneOf l) else M.bad

/- vellum/crash.Check -/
def v4_an : An := (.n [] .z (.n [] (.n [] .z (.n [] .z (.n [] (.n [] .z .z) .z))) (.n [] (.n [] .z (.n [] (.n [1, 22, 23, 24] (.n [] .z (.n [] (.n [] .z .z) (.n [] (.n [] (.n [] .z (.n [] .z (.n [] (.n [] .z .z) .z))) .z) .z))) .z) .z)) (.n [] .z .z))))
def v4_keep : Ex → List Nat
  | .exit 1 => [1, 22, 23, 24]
  | .exit 0 => []
  | _ => []
def v4_kp (e : Ex) : List Nat := if e = .ret then [2] else v4_keep e
noncomputable def v4_k1 (C : Calls') (t1 t22 t23 t24 : Value) : M R :=
  (aBin Tryz.prog .add 3 (.tmp 24) (.const (.int .i64 1)) t24 (.int .i64 1)).bind fun t33 =>
  M.pure ⟨.normal, [t1, t22, t23, t33]⟩
noncomputable def v4_b0 (C : Calls') (t1 t22 t23 t24 : Value) : M R :=
  (aBin Tryz.prog .lss 3 (.tmp 24) (.tmp 23) t24 t23).bind fun t25 =>
  condM t25
  (((aIndexAddr Tryz.prog 22 t22 t24).bind fun t26 =>
  (aLoad Tryz.prog 50 t26).bind fun t27 =>
  (aAlloc Tryz.prog 50).bind fun t6 =>
  (aStore Tryz.prog 50 t6 t27).bind fun _ =>
  (aLoad Tryz.prog 50 t6).bind fun t28 =>
  (aFieldAddr Tryz.prog 24 t1 0).bind fun t29 =>
  (aLoad Tryz.prog 3 t29).bind fun t30 =>
  (aInvoke vE C (.func (.func 11) #[] #[]) [t28, t30]).bind fun t31 =>
  (aUn .not t31).bind fun t32 =>
  condM t32
  (M.pure ⟨.ret, [(.int .i64 300)]⟩)
  (M.pure ⟨.normal, [t1, t22, t23, t24]⟩)).bind fun r => if r.e = .normal ∨ r.e = .exit 1 then v4_k1 C (r.p.getD 0 undef) (r.p.getD 1 undef) (r.p.getD 2 undef) (r.p.getD 3 undef) else M.pure r)
  (M.pure ⟨.exit 0, []⟩)
noncomputable def v4_L2 (C : Calls') (p : List Value) : M R := v4_b0 C (p.getD 0 undef) (p.getD 1 undef) (p.getD 2 undef) (p.getD 3 undef)
noncomputable def v4_k3 (C : Calls') : M R :=
  M.pure ⟨.ret, [(.int .i64 0)]⟩
noncomputable def v4_c (C : Calls') (t0 : Value) : M R :=
  (aBox 24 t0).bind fun t1 =>
  (aFieldAddr Tryz.prog 24 t1 0).bind fun t8 =>
  (aLoad Tryz.prog 3 t8).bind fun t9 =>
  (aInvoke vE C (.func (.func 10) #[] #[]) [t9]).bind fun t10 =>
  (aExtract t10 0).bind fun t11 =>
  (aExtract t10 1).bind fun t12 =>
  (aAlloc Tryz.prog 40).bind fun t3 =>
  (aStore Tryz.prog 40 t3 t11).bind fun _ =>
  (aBin Tryz.prog .neq 25 (.tmp 13) (.const (.int .i64 0)) t12 (.int .i64 0)).bind fun t14 =>
  (gM t14 false ((aFieldAddr Tryz.prog 24 t1 1).bind M.pure)).bind fun t16 =>
  (gM t14 false ((aLoad Tryz.prog 22 t16).bind M.pure)).bind fun t17 =>
  (gM t14 false ((aBuiltin vE .len #[22] 3 [t17]).bind M.pure)).bind fun t18 =>
  (gM t14 false ((aBin Tryz.prog .gtr 3 (.tmp 18) (.const (.int .i64 256)) t18 (.int .i64 256)).bind M.pure)).bind fun t19 =>
  (pickM t14 (.bool true) t19).bind fun t20 =>
  condM t20
  (M.pure ⟨.ret, [(.int .i64 300)]⟩)
  ((aFieldAddr Tryz.prog 24 t1 1).bind fun t21 =>
  (aLoad Tryz.prog 22 t21).bind fun t22 =>
  (aBuiltin vE .len #[22] 3 [t22]).bind fun t23 =>
  (loopΩ (v4_L2 C) [t1, t22, t23, (.int .i64 0)]).bind fun r => if r.e = .normal ∨ r.e = .exit 0 then v4_k3 C else M.pure r)
noncomputable def v4 (C : Calls') (t0 : Value) : M Value := (v4_c C t0).bind fun r => if r.e = .ret then (resM vE [.tmp 2] r.p).bind fun l => M.pure (oneOf l) else M.bad

/- vellum/vellumref30.Check -/
def v5_an : An := (.n [] .z (.n [] (.n [] .z (.n [] (.n [] .z .z) .z)) (.n [] (.n [] .z (.n [] (.n [1, 3] (.n [] (.n [] .z (.n [] .z .z)) (.n [] (.n [] (.n [] (.n [0, 1, 2, 3, 4, 5, 6, 7, 8] .z .z) (.n [] (.n [] .z .z) .z)) .z) .z)) .z) .z)) (.n [] .z .z))))
def v5_keep : Ex → List Nat
  | .exit 1 => [1, 3]
  | .exit 0 => []
  | _ => []
def v5_kp (e : Ex) : List Nat := if e = .ret then [2] else v5_keep e
noncomputable def v5_k1 (C : Calls') (t1 t3 : Value) : M R :=
  (aBin Tryz.prog .add 3 (.tmp 29) (.const (.int .i64 1)) t3 (.int .i64 1)).bind fun t30 =>
  M.pure ⟨.normal, [t1, t30]⟩
noncomputable def v5_b0 (C : Calls') (t1 t3 : Value) : M R :=
  (aFieldAddr Tryz.prog 24 t1 1).bind fun t25 =>
  (aLoad Tryz.prog 22 t25).bind fun t26 =>
  (aBuiltin vE .len #[22] 3 [t26]).bind fun t27 =>
  (aBin Tryz.prog .lss 3 (.tmp 24) (.tmp 27) t3 t27).bind fun t28 =>
  condM t28
  ((only ((aFieldAddr Tryz.prog 24 t1 1).bind M.pure) fun t31 =>
  only ((aLoad Tryz.prog 22 t31).bind M.pure) fun t32 =>
  only ((aIndexAddr Tryz.prog 22 t32 t3).bind M.pure) fun t34 =>
  only ((aLoad Tryz.prog 50 t34).bind M.pure) fun t35 =>
  only ((aFieldAddr Tryz.prog 24 t1 0).bind M.pure) fun t36 =>
  only ((aLoad Tryz.prog 3 t36).bind M.pure) fun t37 =>
  only ((aInvoke vE C (.func (.func 12) #[] #[]) [t35, t37]).bind M.pure) fun t38 =>
  only ((aUn .not t38).bind M.pure) fun t39 =>
  condM t39
  (M.pure ⟨.ret, [(.int .i64 300)]⟩)
  (M.pure ⟨.normal, [t1, t3]⟩)).bind fun r => if r.e = .normal ∨ r.e = .exit 1 then v5_k1 C (r.p.getD 0 undef) (r.p.getD 1 undef) else M.pure r)
  (M.pure ⟨.exit 0, []⟩)
noncomputable def v5_L2 (C : Calls') (p : List Value) : M R := v5_b0 C (p.getD 0 undef) (p.getD 1 undef)
noncomputable def v5_k3 (C : Calls') : M R :=
  M.pure ⟨.ret, [(.int .i64 0)]⟩
noncomputable def v5_c (C : Calls') (t0 : Value) : M R :=
  (aBox 24 t0).bind fun t1 =>
  (aFieldAddr Tryz.prog 24 t1 0).bind fun t4 =>
  (aLoad Tryz.prog 3 t4).bind fun t5 =>
  (aBin Tryz.prog .lss 3 (.tmp 5) (.const (.int .i64 36992)) t5 (.int .i64 36992)).bind fun t6 =>
  (gM t6 false ((aFieldAddr Tryz.prog 24 t1 0).bind M.pure)).bind fun t8 =>
  (gM t6 false ((aLoad Tryz.prog 3 t8).bind M.pure)).bind fun t9 =>
  (gM t6 false ((aBin Tryz.prog .gtr 3 (.tmp 9) (.const (.int .i64 4194304)) t9 (.int .i64 4194304)).bind M.pure)).bind fun t10 =>
  (pickM t6 (.bool true) t10).bind fun t11 =>
  (gM t11 false ((aFieldAddr Tryz.prog 24 t1 0).bind M.pure)).bind fun t13 =>
  (gM t11 false ((aLoad Tryz.prog 3 t13).bind M.pure)).bind fun t14 =>
  (gM t11 false ((aBin Tryz.prog .rem 3 (.tmp 14) (.const (.int .i64 64)) t14 (.int .i64 64)).bind M.pure)).bind fun t15 =>
  (gM t11 false ((aBin Tryz.prog .neq 3 (.tmp 15) (.const (.int .i64 0)) t15 (.int .i64 0)).bind M.pure)).bind fun t16 =>
  (pickM t11 (.bool true) t16).bind fun t17 =>
  (gM t17 false ((aFieldAddr Tryz.prog 24 t1 1).bind M.pure)).bind fun t19 =>
  (gM t17 false ((aLoad Tryz.prog 22 t19).bind M.pure)).bind fun t20 =>
  (gM t17 false ((aBuiltin vE .len #[22] 3 [t20]).bind M.pure)).bind fun t21 =>
  (gM t17 false ((aBin Tryz.prog .gtr 3 (.tmp 21) (.const (.int .i64 256)) t21 (.int .i64 256)).bind M.pure)).bind fun t22 =>
  (pickM t17 (.bool true) t22).bind fun t23 =>
  condM t23
  (M.pure ⟨.ret, [(.int .i64 300)]⟩)
  ((loopΩ (v5_L2 C) [t1, (.int .i64 0)]).bind fun r => if r.e = .normal ∨ r.e = .exit 0 then v5_k3 C else M.pure r)
noncomputable def v5 (C : Calls') (t0 : Value) : M Value := (v5_c C t0).bind fun r => if r.e = .ret then (resM vE [.tmp 2] r.p).bind fun l => M.pure (oneOf l) else M.bad

/- vellum/crash.Run -/
def v6_an : An := (.n [] .z (.n [] (.n [] .z (.n [] .z (.n [] (.n [] .z .z) .z))) (.n [] .z (.n [] (.n [] .z (.n [] (.n [] .z .z) .z)) (.n [] .z .z)))))
def v6_keep : Ex → List Nat
  | _ => []
def v6_kp (e : Ex) : List Nat := if e = .ret then [2, 3] else v6_keep e
noncomputable def v6_c (C : Calls') (t0 : Value) : M R :=
  (aBox 24 t0).bind fun t1 =>
  (aAlloc Tryz.prog 31).bind fun t2 =>
  (aLoad Tryz.prog 24 t1).bind fun t7 =>
  (aInvoke vE C (.func (.func 4) #[] #[]) [t7]).bind fun t8 =>
  (aBin Tryz.prog .neq 25 (.tmp 9) (.const (.int .i64 0)) t8 (.int .i64 0)).bind fun t10 =>
  condM t10
  ((aBuild Tryz.prog 31 []).bind fun t11 =>
  (aStore Tryz.prog 31 t2 t11).bind fun _ =>
  M.pure ⟨.ret, [t2, t8]⟩)
  ((aFieldAddr Tryz.prog 24 t1 0).bind fun t14 =>
  (aLoad Tryz.prog 3 t14).bind fun t15 =>
  (aInvoke vE C (.func (.func 13) #[] #[]) [t15]).bind fun t16 =>
  (aExtract t16 0).bind fun t17 =>
  (aExtract t16 1).bind fun t18 =>
  (aBin Tryz.prog .neq 25 (.tmp 19) (.const (.int .i64 0)) t18 (.int .i64 0)).bind fun t20 =>
  condM t20
  ((aBuild Tryz.prog 31 []).bind fun t21 =>
  (aStore Tryz.prog 31 t2 t21).bind fun _ =>
  M.pure ⟨.ret, [t2, t18]⟩)
  ((aLoad Tryz.prog 24 t1).bind fun t23 =>
  (aInvoke vE C (.func (.func 14) #[] #[]) [t23, t17, (.func (.func 15) #[] #[])]).bind fun t25 =>
  (aStore Tryz.prog 31 t2 t25).bind fun _ =>
  M.pure ⟨.ret, [t2, (.int .i64 0)]⟩))
noncomputable def v6 (C : Calls') (t0 : Value) : M Value := (v6_c C t0).bind fun r => if r.e = .ret then (resM vE [.cell 2 31, .tmp 3] r.p).bind fun l => M.pure (oneOf l) else M.bad

/- vellum/crash.Points -/
def v7_an : An := (.n [] .z (.n [] .z (.n [] .z .z)))
def v7_keep : Ex → List Nat
  | _ => []
def v7_kp (e : Ex) : List Nat := if e = .ret then [2, 3] else v7_keep e
noncomputable def v7_c (C : Calls') (t0 : Value) : M R :=
  (aBox 24 t0).bind fun t1 =>
  (aLoad Tryz.prog 24 t1).bind fun t7 =>
  (aInvoke vE C (.func (.func 6) #[] #[]) [t7]).bind fun t8 =>
  (aExtract t8 0).bind fun t9 =>
  (aExtract t8 1).bind fun t10 =>
  (aAlloc Tryz.prog 31).bind fun t4 =>
  (aStore Tryz.prog 31 t4 t9).bind fun _ =>
  (aFieldAddr Tryz.prog 31 t4 2).bind fun t11 =>
  (aLoad Tryz.prog 3 t11).bind fun t12 =>
  M.pure ⟨.ret, [t12, t10]⟩
noncomputable def v7 (C : Calls') (t0 : Value) : M Value := (v7_c C t0).bind fun r => if r.e = .ret then (resM vE [.tmp 2, .tmp 3] r.p).bind fun l => M.pure (oneOf l) else M.bad

/- vellum/crash.At -/
def v8_an : An := (.n [] .z (.n [] (.n [] .z (.n [] .z (.n [] (.n [] .z .z) .z))) (.n [] (.n [] .z (.n [] (.n [] .z .z) .z)) (.n [] .z (.n [] (.n [] .z (.n [] (.n [] .z .z) .z)) (.n [] (.n [] .z (.n [] .z (.n [] (.n [] .z .z) .z))) (.n [] .z .z)))))))
def v8_keep : Ex → List Nat
  | _ => []
def v8_kp (e : Ex) : List Nat := if e = .ret then [6, 7] else v8_keep e
noncomputable def v8_c (C : Calls') (t0 t1 t2 : Value) : M R :=
  (aBox 24 t0).bind fun t3 =>
  (aAlloc Tryz.prog 31).bind fun t6 =>
  (aLoad Tryz.prog 24 t3).bind fun t12 =>
  (aInvoke vE C (.func (.func 4) #[] #[]) [t12]).bind fun t13 =>
  (aBin Tryz.prog .neq 25 (.tmp 14) (.const (.int .i64 0)) t13 (.int .i64 0)).bind fun t15 =>
  condM t15
  ((aBuild Tryz.prog 31 []).bind fun t16 =>
  (aStore Tryz.prog 31 t6 t16).bind fun _ =>
  M.pure ⟨.ret, [t6, t13]⟩)
  ((aBin Tryz.prog .lss 3 (.tmp 18) (.const (.int .i64 1)) t1 (.int .i64 1)).bind fun t19 =>
  (gM t19 false (M.pure t2)).bind fun t21 =>
  (gM t19 false ((aInvoke vE C (.func (.func 16) #[] #[]) [t21]).bind M.pure)).bind fun t22 =>
  (pickM t19 (.bool true) t22).bind fun t23 =>
  condM t23
  ((aBuild Tryz.prog 31 []).bind fun t24 =>
  (aStore Tryz.prog 31 t6 t24).bind fun _ =>
  M.pure ⟨.ret, [t6, (.int .i64 2)]⟩)
  ((aFieldAddr Tryz.prog 24 t3 0).bind fun t26 =>
  (aLoad Tryz.prog 3 t26).bind fun t27 =>
  (aInvoke vE C (.func (.func 13) #[] #[]) [t27]).bind fun t28 =>
  (aExtract t28 0).bind fun t29 =>
  (aExtract t28 1).bind fun t30 =>
  (aAlloc Tryz.prog 52).bind fun t9 =>
  (aStore Tryz.prog 52 t9 t29).bind fun _ =>
  (aBin Tryz.prog .neq 25 (.tmp 31) (.const (.int .i64 0)) t30 (.int .i64 0)).bind fun t32 =>
  condM t32
  ((aBuild Tryz.prog 31 []).bind fun t33 =>
  (aStore Tryz.prog 31 t6 t33).bind fun _ =>
  M.pure ⟨.ret, [t6, t30]⟩)
  ((aLoad Tryz.prog 52 t9).bind fun t35 =>
  (aNil t35).bind fun t36 =>
  (aFieldAddr Tryz.prog 60 t36 0).bind fun t37 =>
  (aLoad Tryz.prog 57 t37).bind fun t38 =>
  (aBuild Tryz.prog 48 [(0, t1), (1, t2)]).bind fun t41 =>
  (aBuildSlice Tryz.prog 89 1 [(0, t41)]).bind fun t42 =>
  (aInvoke vE C (.func (.func 17) #[] #[]) [t38, t42]).bind fun t43 =>
  (aBin Tryz.prog .neq 25 (.tmp 44) (.const (.int .i64 0)) t43 (.int .i64 0)).bind fun t45 =>
  condM t45
  ((aBuild Tryz.prog 31 []).bind fun t46 =>
  (aStore Tryz.prog 31 t6 t46).bind fun _ =>
  M.pure ⟨.ret, [t6, t43]⟩)
  ((aLoad Tryz.prog 24 t3).bind fun t48 =>
  (aLoad Tryz.prog 52 t9).bind fun t49 =>
  (aMkFunc (.func 18) [] [t9]).bind fun t50 =>
  (aInvoke vE C (.func (.func 14) #[] #[]) [t48, t49, t50]).bind fun t51 =>
  (aStore Tryz.prog 31 t6 t51).bind fun _ =>
  M.pure ⟨.ret, [t6, (.int .i64 0)]⟩))))
noncomputable def v8 (C : Calls') (t0 t1 t2 : Value) : M Value := (v8_c C t0 t1 t2).bind fun r => if r.e = .ret then (resM vE [.cell 6 31, .tmp 7] r.p).bind fun l => M.pure (oneOf l) else M.bad

/- vellum/vellumlaw30.same -/
def v9_an : An := (.n [] .z (.n [] (.n [] .z (.n [] (.n [] .z .z) .z)) (.n [] (.n [] .z (.n [] (.n [2, 3, 5] (.n [] (.n [] .z (.n [] .z .z)) (.n [] (.n [] (.n [] (.n [0, 1, 2, 3, 4, 5, 6, 7, 8, 9, 10, 11, 12, 13, 14, 15, 16, 17, 18, 19, 20, 21, 22, 23, 24, 25, 26, 27, 28] .z .z) (.n [] (.n [] .z .z) .z)) .z) .z)) .z) .z)) (.n [] .z .z))))
def v9_keep : Ex → List Nat
  | .exit 1 => [2, 3, 5]
  | .exit 0 => []
  | _ => []
def v9_kp (e : Ex) : List Nat := if e = .ret then [4] else v9_keep e
noncomputable def v9_k1 (C : Calls') (t2 t3 t5 : Value) : M R :=
  (aBin Tryz.prog .add 3 (.tmp 32) (.const (.int .i64 1)) t5 (.int .i64 1)).bind fun t33 =>
  M.pure ⟨.normal, [t2, t3, t33]⟩
noncomputable def v9_b0 (C : Calls') (t2 t3 t5 : Value) : M R :=
  (aFieldAddr Tryz.prog 31 t2 0).bind fun t28 =>
  (aLoad Tryz.prog 27 t28).bind fun t29 =>
  (aBuiltin vE .len #[27] 3 [t29]).bind fun t30 =>
  (aBin Tryz.prog .lss 3 (.tmp 27) (.tmp 30) t5 t30).bind fun t31 =>
  condM t31
  ((only ((aFieldAddr Tryz.prog 31 t2 0).bind M.pure) fun t34 =>
  only ((aLoad Tryz.prog 27 t34).bind M.pure) fun t35 =>
  only ((aIndexAddr Tryz.prog 27 t35 t5).bind M.pure) fun t37 =>
  only ((aFieldAddr Tryz.prog 76 t37 0).bind M.pure) fun t38 =>
  only ((aLoad Tryz.prog 25 t38).bind M.pure) fun t39 =>
  only ((aFieldAddr Tryz.prog 31 t3 0).bind M.pure) fun t40 =>
  only ((aLoad Tryz.prog 27 t40).bind M.pure) fun t41 =>
  only ((aIndexAddr Tryz.prog 27 t41 t5).bind M.pure) fun t43 =>
  only ((aFieldAddr Tryz.prog 76 t43 0).bind M.pure) fun t44 =>
  only ((aLoad Tryz.prog 25 t44).bind M.pure) fun t45 =>
  only ((aBin Tryz.prog .neq 25 (.tmp 39) (.tmp 45) t39 t45).bind M.pure) fun t46 =>
  only (gM t46 false ((aFieldAddr Tryz.prog 31 t2 0).bind M.pure)) fun t48 =>
  only (gM t46 false ((aLoad Tryz.prog 27 t48).bind M.pure)) fun t49 =>
  only (gM t46 false (M.pure t5)) fun t50 =>
  only (gM t46 false ((aIndexAddr Tryz.prog 27 t49 t50).bind M.pure)) fun t51 =>
  only (gM t46 false ((aFieldAddr Tryz.prog 76 t51 1).bind M.pure)) fun t52 =>
  only (gM t46 false ((aLoad Tryz.prog 74 t52).bind M.pure)) fun t53 =>
  only (gM t46 false ((aFieldAddr Tryz.prog 31 t3 0).bind M.pure)) fun t54 =>
  only (gM t46 false ((aLoad Tryz.prog 27 t54).bind M.pure)) fun t55 =>
  only (gM t46 false (M.pure t5)) fun t56 =>
  only (gM t46 false ((aIndexAddr Tryz.prog 27 t55 t56).bind M.pure)) fun t57 =>
  only (gM t46 false ((aFieldAddr Tryz.prog 76 t57 1).bind M.pure)) fun t58 =>
  only (gM t46 false ((aLoad Tryz.prog 74 t58).bind M.pure)) fun t59 =>
  only (gM t46 false ((aInvoke vE C (.func (.func 21) #[] #[]) [t53, t59]).bind M.pure)) fun t60 =>
  only (gM t46 false ((aUn .not t60).bind M.pure)) fun t61 =>
  only ((pickM t46 (.bool true) t61).bind M.pure) fun t62 =>
  condM t62
  (M.pure ⟨.ret, [(.bool false)]⟩)
  (M.pure ⟨.normal, [t2, t3, t5]⟩)).bind fun r => if r.e = .normal ∨ r.e = .exit 1 then v9_k1 C (r.p.getD 0 undef) (r.p.getD 1 undef) (r.p.getD 2 undef) else M.pure r)
  (M.pure ⟨.exit 0, []⟩)
noncomputable def v9_L2 (C : Calls') (p : List Value) : M R := v9_b0 C (p.getD 0 undef) (p.getD 1 undef) (p.getD 2 undef)
noncomputable def v9_k3 (C : Calls') : M R :=
  M.pure ⟨.ret, [(.bool true)]⟩
noncomputable def v9_c (C : Calls') (t0 t1 : Value) : M R :=
  (aBox 31 t0).bind fun t2 =>
  (aBox 31 t1).bind fun t3 =>
  (aFieldAddr Tryz.prog 31 t2 0).bind fun t6 =>
  (aLoad Tryz.prog 27 t6).bind fun t7 =>
  (aBuiltin vE .len #[27] 3 [t7]).bind fun t8 =>
  (aFieldAddr Tryz.prog 31 t3 0).bind fun t9 =>
  (aLoad Tryz.prog 27 t9).bind fun t10 =>
  (aBuiltin vE .len #[27] 3 [t10]).bind fun t11 =>
  (aBin Tryz.prog .neq 3 (.tmp 8) (.tmp 11) t8 t11).bind fun t12 =>
  (gM t12 false ((aFieldAddr Tryz.prog 31 t2 1).bind M.pure)).bind fun t14 =>
  (gM t12 false ((aLoad Tryz.prog 29 t14).bind M.pure)).bind fun t15 =>
  (gM t12 false ((aFieldAddr Tryz.prog 31 t3 1).bind M.pure)).bind fun t16 =>
  (gM t12 false ((aLoad Tryz.prog 29 t16).bind M.pure)).bind fun t17 =>
  (gM t12 false ((aBin Tryz.prog .neq 29 (.tmp 15) (.tmp 17) t15 t17).bind M.pure)).bind fun t18 =>
  (pickM t12 (.bool true) t18).bind fun t19 =>
  (gM t19 false ((aFieldAddr Tryz.prog 31 t2 2).bind M.pure)).bind fun t21 =>
  (gM t19 false ((aLoad Tryz.prog 3 t21).bind M.pure)).bind fun t22 =>
  (gM t19 false ((aFieldAddr Tryz.prog 31 t3 2).bind M.pure)).bind fun t23 =>
  (gM t19 false ((aLoad Tryz.prog 3 t23).bind M.pure)).bind fun t24 =>
  (gM t19 false ((aBin Tryz.prog .neq 3 (.tmp 22) (.tmp 24) t22 t24).bind M.pure)).bind fun t25 =>
  (pickM t19 (.bool true) t25).bind fun t26 =>
  condM t26
  (M.pure ⟨.ret, [(.bool false)]⟩)
  ((loopΩ (v9_L2 C) [t2, t3, (.int .i64 0)]).bind fun r => if r.e = .normal ∨ r.e = .exit 0 then v9_k3 C else M.pure r)
noncomputable def v9 (C : Calls') (t0 t1 : Value) : M Value := (v9_c C t0 t1).bind fun r => if r.e = .ret then (resM vE [.tmp 4] r.p).bind fun l => M.pure (oneOf l) else M.bad

/- vellum/super.Plan -/
def v10_an : An := (.n [] .z (.n [] (.n [] .z (.n [] (.n [] .z .z) .z)) (.n [] .z .z)))
def v10_keep : Ex → List Nat
  | _ => []
def v10_kp (e : Ex) : List Nat := if e = .ret then [2, 3] else v10_keep e
noncomputable def v10_c (C : Calls') (t0 : Value) : M R :=
  (aAlloc Tryz.prog 40).bind fun t2 =>
  (aBin Tryz.prog .lss 3 (.tmp 4) (.const (.int .i64 36992)) t0 (.int .i64 36992)).bind fun t5 =>
  (gM t5 false (M.pure t0)).bind fun t7 =>
  (gM t5 false ((aBin Tryz.prog .gtr 3 (.tmp 7) (.const (.int .i64 4194304)) t7 (.int .i64 4194304)).bind M.pure)).bind fun t8 =>
  (pickM t5 (.bool true) t8).bind fun t9 =>
  (gM t9 false (M.pure t0)).bind fun t11 =>
  (gM t9 false ((aBin Tryz.prog .rem 3 (.tmp 11) (.const (.int .i64 64)) t11 (.int .i64 64)).bind M.pure)).bind fun t12 =>
  (gM t9 false ((aBin Tryz.prog .neq 3 (.tmp 12) (.const (.int .i64 0)) t12 (.int .i64 0)).bind M.pure)).bind fun t13 =>
  (pickM t9 (.bool true) t13).bind fun t14 =>
  condM t14
  ((aBuild Tryz.prog 40 []).bind fun t15 =>
  (aStore Tryz.prog 40 t2 t15).bind fun _ =>
  M.pure ⟨.ret, [t2, (.int .i64 80)]⟩)
  ((aBin Tryz.prog .sub 3 (.tmp 17) (.const (.int .i64 32896)) t0 (.int .i64 32896)).bind fun t18 =>
  (aBin Tryz.prog .quo 3 (.tmp 18) (.const (.int .i64 256)) t18 (.int .i64 256)).bind fun t19 =>
  (aBuild Tryz.prog 40 [(0, t0), (1, (.int .i64 128)), (2, (.int .i64 32768)), (3, (.int .i64 32896)), (4, t19)]).bind fun t20 =>
  (aStore Tryz.prog 40 t2 t20).bind fun _ =>
  M.pure ⟨.ret, [t2, (.int .i64 0)]⟩)
noncomputable def v10 (C : Calls') (t0 : Value) : M Value := (v10_c C t0).bind fun r => if r.e = .ret then (resM vE [.cell 2 40, .tmp 3] r.p).bind fun l => M.pure (oneOf l) else M.bad

/- vellum/crash.may -/
def v11_an : An := (.n [] .z (.n [] (.n [] .z (.n [] (.n [] .z (.n [2] .z (.n [] .z (.n [2] (.n [] (.n [] .z (.n [] (.n [] .z .z) .z)) .z) (.n [] .z (.n [2] .z (.n [] .z (.n [] (.n [] (.n [] .z (.n [] (.n [] .z .z) .z)) .z) (.n [] .z .z))))))))) .z)) (.n [] .z .z)))
def v11_keep : Ex → List Nat
  | .exit 0 => [2]
  | _ => []
def v11_kp (e : Ex) : List Nat := if e = .ret then [4] else v11_keep e
noncomputable def v11_k0 (C : Calls') (t2 : Value) : M R :=
  M.pure ⟨.normal, [t2]⟩
noncomputable def v11_k1 (C : Calls') (t2 : Value) : M R :=
  M.pure ⟨.normal, [t2]⟩
noncomputable def v11_k2 (C : Calls') (t2 : Value) : M R :=
  M.pure ⟨.normal, [t2]⟩
noncomputable def v11_k3 (C : Calls') (t2 : Value) : M R :=
  (aLoad Tryz.prog 50 t2).bind fun t53 =>
  (aInvoke vE C (.func (.func 22) #[] #[]) [t53]).bind fun t54 =>
  M.pure ⟨.ret, [t54]⟩
noncomputable def v11_c (C : Calls') (t0 t1 : Value) : M R :=
  (aBox 50 t0).bind fun t2 =>
  (aFieldAddr Tryz.prog 50 t2 0).bind fun t5 =>
  (aLoad Tryz.prog 3 t5).bind fun t6 =>
  ((aBin Tryz.prog .eql 3 (.tmp 6) (.const (.int .i64 1)) t6 (.int .i64 1)).bind fun t8 =>
  (condM t8
  ((aBuild Tryz.prog 45 []).bind fun t9 =>
  (aFieldAddr Tryz.prog 50 t2 1).bind fun t10 =>
  (aStore Tryz.prog 45 t10 t9).bind fun _ =>
  M.pure ⟨.normal, [t2]⟩)
  ((aBin Tryz.prog .eql 3 (.tmp 6) (.const (.int .i64 2)) t6 (.int .i64 2)).bind fun t12 =>
  (condM t12
  ((aFieldAddr Tryz.prog 50 t2 2).bind fun t13 =>
  (aFieldAddr Tryz.prog 48 t13 0).bind fun t14 =>
  (aLoad Tryz.prog 3 t14).bind fun t15 =>
  (aBin Tryz.prog .lss 3 (.tmp 15) (.const (.int .i64 1)) t15 (.int .i64 1)).bind fun t16 =>
  (gM t16 false ((aFieldAddr Tryz.prog 50 t2 2).bind M.pure)).bind fun t18 =>
  (gM t16 false ((aFieldAddr Tryz.prog 48 t18 0).bind M.pure)).bind fun t19 =>
  (gM t16 false ((aLoad Tryz.prog 3 t19).bind M.pure)).bind fun t20 =>
  (gM t16 false ((aBin Tryz.prog .gtr 3 (.tmp 20) (.const (.int .i64 2147483647)) t20 (.int .i64 2147483647)).bind M.pure)).bind fun t21 =>
  (pickM t16 (.bool true) t21).bind fun t22 =>
  (gM t22 false ((aFieldAddr Tryz.prog 50 t2 2).bind M.pure)).bind fun t24 =>
  (gM t22 false ((aFieldAddr Tryz.prog 48 t24 1).bind M.pure)).bind fun t25 =>
  (gM t22 false ((aLoad Tryz.prog 46 t25).bind M.pure)).bind fun t26 =>
  (gM t22 false ((aBuiltin vE .len #[46] 3 [t26]).bind M.pure)).bind fun t27 =>
  (gM t22 false ((aBin Tryz.prog .gtr 3 (.tmp 27) (.const (.int .i64 65536)) t27 (.int .i64 65536)).bind M.pure)).bind fun t28 =>
  (pickM t22 (.bool true) t28).bind fun t29 =>
  (gM t29 false ((aFieldAddr Tryz.prog 50 t2 2).bind M.pure)).bind fun t31 =>
  (gM t29 false ((aFieldAddr Tryz.prog 48 t31 1).bind M.pure)).bind fun t32 =>
  (gM t29 false ((aLoad Tryz.prog 46 t32).bind M.pure)).bind fun t33 =>
  (gM t29 false ((aInvoke vE C (.func (.func 16) #[] #[]) [t33]).bind M.pure)).bind fun t34 =>
  (pickM t29 (.bool true) t34).bind fun t35 =>
  condM t35
  (M.pure ⟨.ret, [(.bool false)]⟩)
  ((aBuild Tryz.prog 48 []).bind fun t36 =>
  (aFieldAddr Tryz.prog 50 t2 2).bind fun t37 =>
  (aStore Tryz.prog 48 t37 t36).bind fun _ =>
  M.pure ⟨.normal, [t2]⟩))
  ((aBin Tryz.prog .eql 3 (.tmp 6) (.const (.int .i64 3)) t6 (.int .i64 3)).bind fun t39 =>
  (condM t39
  (M.pure ⟨.normal, [t2]⟩)
  ((aBin Tryz.prog .eql 3 (.tmp 6) (.const (.int .i64 4)) t6 (.int .i64 4)).bind fun t41 =>
  condM t41
  ((aFieldAddr Tryz.prog 50 t2 3).bind fun t42 =>
  (aLoad Tryz.prog 3 t42).bind fun t43 =>
  (aBin Tryz.prog .lss 3 (.tmp 43) (.const (.int .i64 0)) t43 (.int .i64 0)).bind fun t44 =>
  (gM t44 false ((aFieldAddr Tryz.prog 50 t2 3).bind M.pure)).bind fun t46 =>
  (gM t44 false ((aLoad Tryz.prog 3 t46).bind M.pure)).bind fun t47 =>
  (gM t44 false (M.pure t1)).bind fun t48 =>
  (gM t44 false ((aBin Tryz.prog .geq 3 (.tmp 47) (.tmp 48) t47 t48).bind M.pure)).bind fun t49 =>
  (pickM t44 (.bool true) t49).bind fun t50 =>
  condM t50
  (M.pure ⟨.ret, [(.bool false)]⟩)
  ((aFieldAddr Tryz.prog 50 t2 3).bind fun t51 =>
  (aStore Tryz.prog 3 t51 (.int .i64 0)).bind fun _ =>
  (aFieldAddr Tryz.prog 50 t2 4).bind fun t52 =>
  (aStore Tryz.prog 5 t52 (.int .u8 0)).bind fun _ =>
  M.pure ⟨.normal, [t2]⟩))
  (M.pure ⟨.ret, [(.bool false)]⟩))).bind fun r => if r.e = .normal then v11_k0 C (r.p.getD 0 undef) else M.pure r)).bind fun r => if r.e = .normal then v11_k1 C (r.p.getD 0 undef) else M.pure r)).bind fun r => if r.e = .normal then v11_k2 C (r.p.getD 0 undef) else M.pure r).bind fun r => if r.e = .normal ∨ r.e = .exit 0 then v11_k3 C (r.p.getD 0 undef) else M.pure r
noncomputable def v11 (C : Calls') (t0 t1 : Value) : M Value := (v11_c C t0 t1).bind fun r => if r.e = .ret then (resM vE [.tmp 4] r.p).bind fun l => M.pure (oneOf l) else M.bad

/- vellum/vellumref30.may -/
def v12_an : An := (.n [] .z (.n [] .z (.n [] (.n [] .z (.n [] (.n [] .z (.n [5] .z (.n [] .z (.n [5] (.n [] .z (.n [] (.n [] .z (.n [] (.n [] .z .z) .z)) (.n [] .z (.n [] (.n [2, 5, 6] (.n [] (.n [] .z (.n [] .z .z)) (.n [] (.n [] (.n [] .z (.n [] (.n [] .z .z) .z)) .z) .z)) .z) .z)))) (.n [] .z (.n [5] .z (.n [] .z (.n [] (.n [] .z (.n [] .z (.n [] .z (.n [] (.n [] .z .z) .z)))) (.n [] .z .z))))))))) .z)) (.n [] .z .z))))
def v12_keep : Ex → List Nat
  | .exit 2 => [2, 5, 6]
  | .exit 1 => [5]
  | .exit 0 => [5]
  | _ => []
def v12_kp (e : Ex) : List Nat := if e = .ret then [4] else v12_keep e
noncomputable def v12_k1 (C : Calls') (t2 t5 t6 : Value) : M R :=
  (aBin Tryz.prog .add 3 (.tmp 41) (.const (.int .i64 1)) t6 (.int .i64 1)).bind fun t42 =>
  M.pure ⟨.normal, [t2, t5, t42]⟩
noncomputable def v12_b0 (C : Calls') (t2 t5 t6 : Value) : M R :=
  (aFieldAddr Tryz.prog 50 t2 2).bind fun t36 =>
  (aFieldAddr Tryz.prog 48 t36 1).bind fun t37 =>
  (aLoad Tryz.prog 46 t37).bind fun t38 =>
  (aBuiltin vE .len #[46] 3 [t38]).bind fun t39 =>
  (aBin Tryz.prog .lss 3 (.tmp 35) (.tmp 39) t6 t39).bind fun t40 =>
  condM t40
  (((aFieldAddr Tryz.prog 50 t2 2).bind fun t43 =>
  (aFieldAddr Tryz.prog 48 t43 1).bind fun t44 =>
  (aLoad Tryz.prog 46 t44).bind fun t45 =>
  (aIndexAddr Tryz.prog 46 t45 t6).bind fun t47 =>
  (aLoad Tryz.prog 3 t47).bind fun t48 =>
  (aBin Tryz.prog .lss 3 (.tmp 48) (.const (.int .i64 0)) t48 (.int .i64 0)).bind fun t49 =>
  condM t49
  (M.pure ⟨.ret, [(.bool false)]⟩)
  (M.pure ⟨.normal, [t2, t5, t6]⟩)).bind fun r => if r.e = .normal ∨ r.e = .exit 2 then v12_k1 C (r.p.getD 0 undef) (r.p.getD 1 undef) (r.p.getD 2 undef) else M.pure r)
  (M.pure ⟨.exit 1, [t5]⟩)
noncomputable def v12_L2 (C : Calls') (p : List Value) : M R := v12_b0 C (p.getD 0 undef) (p.getD 1 undef) (p.getD 2 undef)
noncomputable def v12_k3 (C : Calls') (t5 : Value) : M R :=
  M.pure ⟨.normal, [t5]⟩
noncomputable def v12_k4 (C : Calls') (t5 : Value) : M R :=
  M.pure ⟨.normal, [t5]⟩
noncomputable def v12_k5 (C : Calls') (t5 : Value) : M R :=
  M.pure ⟨.normal, [t5]⟩
noncomputable def v12_k6 (C : Calls') (t5 : Value) : M R :=
  M.pure ⟨.normal, [t5]⟩
noncomputable def v12_k7 (C : Calls') (t5 : Value) : M R :=
  (aLoad Tryz.prog 50 t5).bind fun t65 =>
  (aInvoke vE C (.func (.func 23) #[] #[]) [t65]).bind fun t66 =>
  M.pure ⟨.ret, [t66]⟩
noncomputable def v12_c (C : Calls') (t0 t1 : Value) : M R :=
  (aBox 50 t0).bind fun t2 =>
  (aLoad Tryz.prog 50 t2).bind fun t7 =>
  (aAlloc Tryz.prog 50).bind fun t5 =>
  (aStore Tryz.prog 50 t5 t7).bind fun _ =>
  (aFieldAddr Tryz.prog 50 t2 0).bind fun t8 =>
  (aLoad Tryz.prog 3 t8).bind fun t9 =>
  ((aBin Tryz.prog .eql 3 (.tmp 9) (.const (.int .i64 1)) t9 (.int .i64 1)).bind fun t11 =>
  (condM t11
  ((aBuild Tryz.prog 45 []).bind fun t12 =>
  (aFieldAddr Tryz.prog 50 t5 1).bind fun t13 =>
  (aStore Tryz.prog 45 t13 t12).bind fun _ =>
  M.pure ⟨.normal, [t5]⟩)
  ((aBin Tryz.prog .eql 3 (.tmp 9) (.const (.int .i64 2)) t9 (.int .i64 2)).bind fun t15 =>
  (condM t15
  ((aBuild Tryz.prog 48 []).bind fun t16 =>
  (aFieldAddr Tryz.prog 50 t5 2).bind fun t17 =>
  (aStore Tryz.prog 48 t17 t16).bind fun _ =>
  (aFieldAddr Tryz.prog 50 t2 2).bind fun t18 =>
  (aFieldAddr Tryz.prog 48 t18 0).bind fun t19 =>
  (aLoad Tryz.prog 3 t19).bind fun t20 =>
  (aBin Tryz.prog .lss 3 (.tmp 20) (.const (.int .i64 1)) t20 (.int .i64 1)).bind fun t21 =>
  (gM t21 false ((aFieldAddr Tryz.prog 50 t2 2).bind M.pure)).bind fun t23 =>
  (gM t21 false ((aFieldAddr Tryz.prog 48 t23 0).bind M.pure)).bind fun t24 =>
  (gM t21 false ((aLoad Tryz.prog 3 t24).bind M.pure)).bind fun t25 =>
  (gM t21 false ((aBin Tryz.prog .gtr 3 (.tmp 25) (.const (.int .i64 2147483647)) t25 (.int .i64 2147483647)).bind M.pure)).bind fun t26 =>
  (pickM t21 (.bool true) t26).bind fun t27 =>
  (gM t27 false ((aFieldAddr Tryz.prog 50 t2 2).bind M.pure)).bind fun t29 =>
  (gM t27 false ((aFieldAddr Tryz.prog 48 t29 1).bind M.pure)).bind fun t30 =>
  (gM t27 false ((aLoad Tryz.prog 46 t30).bind M.pure)).bind fun t31 =>
  (gM t27 false ((aBuiltin vE .len #[46] 3 [t31]).bind M.pure)).bind fun t32 =>
  (gM t27 false ((aBin Tryz.prog .gtr 3 (.tmp 32) (.const (.int .i64 65536)) t32 (.int .i64 65536)).bind M.pure)).bind fun t33 =>
  (pickM t27 (.bool true) t33).bind fun t34 =>
  condM t34
  (M.pure ⟨.ret, [(.bool false)]⟩)
  ((loopΩ (v12_L2 C) [t2, t5, (.int .i64 0)]).bind fun r => if r.e = .normal ∨ r.e = .exit 1 then v12_k3 C (r.p.getD 0 undef) else M.pure r))
  ((aBin Tryz.prog .eql 3 (.tmp 9) (.const (.int .i64 3)) t9 (.int .i64 3)).bind fun t51 =>
  (condM t51
  (M.pure ⟨.normal, [t5]⟩)
  ((aBin Tryz.prog .eql 3 (.tmp 9) (.const (.int .i64 4)) t9 (.int .i64 4)).bind fun t53 =>
  condM t53
  ((aFieldAddr Tryz.prog 50 t5 3).bind fun t54 =>
  (aStore Tryz.prog 3 t54 (.int .i64 0)).bind fun _ =>
  (aFieldAddr Tryz.prog 50 t5 4).bind fun t55 =>
  (aStore Tryz.prog 5 t55 (.int .u8 0)).bind fun _ =>
  (aFieldAddr Tryz.prog 50 t2 3).bind fun t56 =>
  (aLoad Tryz.prog 3 t56).bind fun t57 =>
  (aBin Tryz.prog .lss 3 (.tmp 57) (.const (.int .i64 0)) t57 (.int .i64 0)).bind fun t58 =>
  (gM t58 false ((aFieldAddr Tryz.prog 50 t2 3).bind M.pure)).bind fun t60 =>
  (gM t58 false ((aLoad Tryz.prog 3 t60).bind M.pure)).bind fun t61 =>
  (gM t58 false (M.pure t1)).bind fun t62 =>
  (gM t58 false ((aBin Tryz.prog .geq 3 (.tmp 61) (.tmp 62) t61 t62).bind M.pure)).bind fun t63 =>
  (pickM t58 (.bool true) t63).bind fun t64 =>
  condM t64
  (M.pure ⟨.ret, [(.bool false)]⟩)
  (M.pure ⟨.normal, [t5]⟩))
  (M.pure ⟨.ret, [(.bool false)]⟩))).bind fun r => if r.e = .normal then v12_k4 C (r.p.getD 0 undef) else M.pure r)).bind fun r => if r.e = .normal then v12_k5 C (r.p.getD 0 undef) else M.pure r)).bind fun r => if r.e = .normal then v12_k6 C (r.p.getD 0 undef) else M.pure r).bind fun r => if r.e = .normal ∨ r.e = .exit 0 then v12_k7 C (r.p.getD 0 undef) else M.pure r
noncomputable def v12 (C : Calls') (t0 t1 : Value) : M Value := (v12_c C t0 t1).bind fun r => if r.e = .ret then (resM vE [.tmp 4] r.p).bind fun l => M.pure (oneOf l) else M.bad

/- vellum/crash.negative -/
def v16_an : An := (.n [] .z (.n [] (.n [] .z (.n [] (.n [5, 6, 7] (.n [] .z (.n [] (.n [] .z .z) (.n [] (.n [] (.n [] .z (.n [] .z (.n [] (.n [] .z .z) .z))) .z) .z))) .z) .z)) (.n [] .z .z)))
def v16_keep : Ex → List Nat
  | .exit 1 => [5, 6, 7]
  | .exit 0 => []
  | _ => []
def v16_kp (e : Ex) : List Nat := if e = .ret then [2] else v16_keep e
noncomputable def v16_k1 (C : Calls') (t5 t6 t7 : Value) : M R :=
  (aBin Tryz.prog .add 3 (.tmp 7) (.const (.int .i64 1)) t7 (.int .i64 1)).bind fun t13 =>
  M.pure ⟨.normal, [t5, t6, t13]⟩
noncomputable def v16_b0 (C : Calls') (t5 t6 t7 : Value) : M R :=
  (aBin Tryz.prog .lss 3 (.tmp 7) (.tmp 6) t7 t6).bind fun t8 =>
  condM t8
  (((aIndexAddr Tryz.prog 46 t5 t7).bind fun t9 =>
  (aLoad Tryz.prog 3 t9).bind fun t10 =>
  (aBin Tryz.prog .lss 3 (.tmp 11) (.const (.int .i64 0)) t10 (.int .i64 0)).bind fun t12 =>
  condM t12
  (M.pure ⟨.ret, [(.bool true)]⟩)
  (M.pure ⟨.normal, [t5, t6, t7]⟩)).bind fun r => if r.e = .normal ∨ r.e = .exit 1 then v16_k1 C (r.p.getD 0 undef) (r.p.getD 1 undef) (r.p.getD 2 undef) else M.pure r)
  (M.pure ⟨.exit 0, []⟩)
noncomputable def v16_L2 (C : Calls') (p : List Value) : M R := v16_b0 C (p.getD 0 undef) (p.getD 1 undef) (p.getD 2 undef)
noncomputable def v16_k3 (C : Calls') : M R :=
  M.pure ⟨.ret, [(.bool false)]⟩
noncomputable def v16_c (C : Calls') (t0 : Value) : M R :=
  (aBuiltin vE .len #[46] 3 [t0]).bind fun t6 =>
  (loopΩ (v16_L2 C) [t0, t6, (.int .i64 0)]).bind fun r => if r.e = .normal ∨ r.e = .exit 0 then v16_k3 C else M.pure r
noncomputable def v16 (C : Calls') (t0 : Value) : M Value := (v16_c C t0).bind fun r => if r.e = .ret then (resM vE [.tmp 2] r.p).bind fun l => M.pure (oneOf l) else M.bad

/- vellum/vellumref25.Same -/
def v21_an : An := (.n [] .z (.n [] .z .z))
def v21_keep : Ex → List Nat
  | _ => []
def v21_kp (e : Ex) : List Nat := if e = .ret then [4] else v21_keep e
noncomputable def v21_c (C : Calls') (t0 t1 : Value) : M R :=
  (aBox 74 t0).bind fun t2 =>
  (aBox 74 t1).bind fun t3 =>
  (aFieldAddr Tryz.prog 74 t2 0).bind fun t5 =>
  (aLoad Tryz.prog 25 t5).bind fun t6 =>
  (aFieldAddr Tryz.prog 74 t3 0).bind fun t7 =>
  (aLoad Tryz.prog 25 t7).bind fun t8 =>
  (aBin Tryz.prog .eql 25 (.tmp 6) (.tmp 8) t6 t8).bind fun t9 =>
  (gM t9 true ((aFieldAddr Tryz.prog 74 t2 1).bind M.pure)).bind fun t11 =>
  (gM t9 true ((aLoad Tryz.prog 3 t11).bind M.pure)).bind fun t12 =>
  (gM t9 true ((aFieldAddr Tryz.prog 74 t3 1).bind M.pure)).bind fun t13 =>
  (gM t9 true ((aLoad Tryz.prog 3 t13).bind M.pure)).bind fun t14 =>
  (gM t9 true ((aBin Tryz.prog .eql 3 (.tmp 12) (.tmp 14) t12 t14).bind M.pure)).bind fun t15 =>
  (pickM t9 t15 (.bool false)).bind fun t16 =>
  (gM t16 true ((aFieldAddr Tryz.prog 74 t2 2).bind M.pure)).bind fun t18 =>
  (gM t16 true ((aLoad Tryz.prog 65 t18).bind M.pure)).bind fun t19 =>
  (gM t16 true ((aFieldAddr Tryz.prog 74 t3 2).bind M.pure)).bind fun t20 =>
  (gM t16 true ((aLoad Tryz.prog 65 t20).bind M.pure)).bind fun t21 =>
  (gM t16 true ((aBin Tryz.prog .eql 65 (.tmp 19) (.tmp 21) t19 t21).bind M.pure)).bind fun t22 =>
  (pickM t16 t22 (.bool false)).bind fun t23 =>
  (gM t23 true ((aFieldAddr Tryz.prog 74 t2 3).bind M.pure)).bind fun t25 =>
  (gM t23 true ((aLoad Tryz.prog 9 t25).bind M.pure)).bind fun t26 =>
  (gM t23 true ((aFieldAddr Tryz.prog 74 t3 3).bind M.pure)).bind fun t27 =>
  (gM t23 true ((aLoad Tryz.prog 9 t27).bind M.pure)).bind fun t28 =>
  (gM t23 true ((aBin Tryz.prog .eql 9 (.tmp 26) (.tmp 28) t26 t28).bind M.pure)).bind fun t29 =>
  (pickM t23 t29 (.bool false)).bind fun t30 =>
  (gM t30 true ((aFieldAddr Tryz.prog 74 t2 4).bind M.pure)).bind fun t32 =>
  (gM t30 true ((aLoad Tryz.prog 4 t32).bind M.pure)).bind fun t33 =>
  (gM t30 true ((aFieldAddr Tryz.prog 74 t3 4).bind M.pure)).bind fun t34 =>
  (gM t30 true ((aLoad Tryz.prog 4 t34).bind M.pure)).bind fun t35 =>
  (gM t30 true ((aBin Tryz.prog .eql 4 (.tmp 33) (.tmp 35) t33 t35).bind M.pure)).bind fun t36 =>
  (pickM t30 t36 (.bool false)).bind fun t37 =>
  (gM t37 true ((aFieldAddr Tryz.prog 74 t2 5).bind M.pure)).bind fun t39 =>
  (gM t37 true ((aLoad Tryz.prog 67 t39).bind M.pure)).bind fun t40 =>
  (gM t37 true ((aFieldAddr Tryz.prog 74 t3 5).bind M.pure)).bind fun t41 =>
  (gM t37 true ((aLoad Tryz.prog 67 t41).bind M.pure)).bind fun t42 =>
  (gM t37 true ((aBin Tryz.prog .eql 67 (.tmp 40) (.tmp 42) t40 t42).bind M.pure)).bind fun t43 =>
  (pickM t37 t43 (.bool false)).bind fun t44 =>
  (gM t44 true ((aFieldAddr Tryz.prog 74 t2 9).bind M.pure)).bind fun t46 =>
  (gM t44 true ((aLoad Tryz.prog 72 t46).bind M.pure)).bind fun t47 =>
  (gM t44 true ((aFieldAddr Tryz.prog 74 t3 9).bind M.pure)).bind fun t48 =>
  (gM t44 true ((aLoad Tryz.prog 72 t48).bind M.pure)).bind fun t49 =>
  (gM t44 true ((aBin Tryz.prog .eql 72 (.tmp 47) (.tmp 49) t47 t49).bind M.pure)).bind fun t50 =>
  (pickM t44 t50 (.bool false)).bind fun t51 =>
  (gM t51 true ((aFieldAddr Tryz.prog 74 t2 6).bind M.pure)).bind fun t53 =>
  (gM t51 true ((aLoad Tryz.prog 68 t53).bind M.pure)).bind fun t54 =>
  (gM t51 true ((aFieldAddr Tryz.prog 74 t3 6).bind M.pure)).bind fun t55 =>
  (gM t51 true ((aLoad Tryz.prog 68 t55).bind M.pure)).bind fun t56 =>
  (gM t51 true ((aInvoke vE C (.func (.func 35) #[] #[]) [t54, t56]).bind M.pure)).bind fun t57 =>
  (pickM t51 t57 (.bool false)).bind fun t58 =>
  (gM t58 true ((aFieldAddr Tryz.prog 74 t2 7).bind M.pure)).bind fun t60 =>
  (gM t58 true ((aLoad Tryz.prog 69 t60).bind M.pure)).bind fun t61 =>
  (gM t58 true ((aFieldAddr Tryz.prog 74 t3 7).bind M.pure)).bind fun t62 =>
  (gM t58 true ((aLoad Tryz.prog 69 t62).bind M.pure)).bind fun t63 =>
  (gM t58 true ((aInvoke vE C (.func (.func 36) #[] #[]) [t61, t63]).bind M.pure)).bind fun t64 =>
  (pickM t58 t64 (.bool false)).bind fun t65 =>
  (gM t65 true ((aFieldAddr Tryz.prog 74 t2 8).bind M.pure)).bind fun t67 =>
  (gM t65 true ((aLoad Tryz.prog 70 t67).bind M.pure)).bind fun t68 =>
  (gM t65 true ((aFieldAddr Tryz.prog 74 t3 8).bind M.pure)).bind fun t69 =>
  (gM t65 true ((aLoad Tryz.prog 70 t69).bind M.pure)).bind fun t70 =>
  (gM t65 true ((aInvoke vE C (.func (.func 37) #[] #[]) [t68, t70]).bind M.pure)).bind fun t71 =>
  (pickM t65 t71 (.bool false)).bind fun t72 =>
  M.pure ⟨.ret, [t72]⟩
noncomputable def v21 (C : Calls') (t0 t1 : Value) : M Value := (v21_c C t0 t1).bind fun r => if r.e = .ret then (resM vE [.tmp 4] r.p).bind fun l => M.pure (oneOf l) else M.bad

/- vellum/crash.bare -/
def v22_an : An := (.n [] .z (.n [] .z .z))
def v22_keep : Ex → List Nat
  | _ => []
def v22_kp (e : Ex) : List Nat := if e = .ret then [2] else v22_keep e
noncomputable def v22_c (C : Calls') (t0 : Value) : M R :=
  (aBox 50 t0).bind fun t1 =>
  (aFieldAddr Tryz.prog 50 t1 1).bind fun t3 =>
  (aLoad Tryz.prog 45 t3).bind fun t4 =>
  (aBuild Tryz.prog 45 []).bind fun t5 =>
  (aBin Tryz.prog .eql 45 (.tmp 4) (.tmp 5) t4 t5).bind fun t6 =>
  (gM t6 true ((aFieldAddr Tryz.prog 50 t1 2).bind M.pure)).bind fun t8 =>
  (gM t6 true ((aFieldAddr Tryz.prog 48 t8 0).bind M.pure)).bind fun t9 =>
  (gM t6 true ((aLoad Tryz.prog 3 t9).bind M.pure)).bind fun t10 =>
  (gM t6 true ((aBin Tryz.prog .eql 3 (.tmp 10) (.const (.int .i64 0)) t10 (.int .i64 0)).bind M.pure)).bind fun t11 =>
  (pickM t6 t11 (.bool false)).bind fun t12 =>
  (gM t12 true ((aFieldAddr Tryz.prog 50 t1 2).bind M.pure)).bind fun t14 =>
  (gM t12 true ((aFieldAddr Tryz.prog 48 t14 1).bind M.pure)).bind fun t15 =>
  (gM t12 true ((aLoad Tryz.prog 46 t15).bind M.pure)).bind fun t16 =>
  (gM t12 true ((aBuiltin vE .len #[46] 3 [t16]).bind M.pure)).bind fun t17 =>
  (gM t12 true ((aBin Tryz.prog .eql 3 (.tmp 17) (.const (.int .i64 0)) t17 (.int .i64 0)).bind M.pure)).bind fun t18 =>
  (pickM t12 t18 (.bool false)).bind fun t19 =>
  (gM t19 true ((aFieldAddr Tryz.prog 50 t1 3).bind M.pure)).bind fun t21 =>
  (gM t19 true ((aLoad Tryz.prog 3 t21).bind M.pure)).bind fun t22 =>
  (gM t19 true ((aBin Tryz.prog .eql 3 (.tmp 22) (.const (.int .i64 0)) t22 (.int .i64 0)).bind M.pure)).bind fun t23 =>
  (pickM t19 t23 (.bool false)).bind fun t24 =>
  (gM t24 true ((aFieldAddr Tryz.prog 50 t1 4).bind M.pure)).bind fun t26 =>
  (gM t24 true ((aLoad Tryz.prog 5 t26).bind M.pure)).bind fun t27 =>
  (gM t24 true ((aBin Tryz.prog .eql 5 (.tmp 27) (.const (.int .u8 0)) t27 (.int .u8 0)).bind M.pure)).bind fun t28 =>
  (pickM t24 t28 (.bool false)).bind fun t29 =>
  M.pure ⟨.ret, [t29]⟩
noncomputable def v22 (C : Calls') (t0 : Value) : M Value := (v22_c C t0).bind fun r => if r.e = .ret then (resM vE [.tmp 2] r.p).bind fun l => M.pure (oneOf l) else M.bad

/- vellum/vellumref30.none -/
def v23_an : An := (.n [] .z (.n [] .z (.n [] .z .z)))
def v23_keep : Ex → List Nat
  | _ => []
def v23_kp (e : Ex) : List Nat := if e = .ret then [2] else v23_keep e
noncomputable def v23_c (C : Calls') (t0 : Value) : M R :=
  (aBox 50 t0).bind fun t1 =>
  (aBuild Tryz.prog 74 []).bind fun t4 =>
  (aBuild Tryz.prog 74 []).bind fun t5 =>
  (aInvoke vE C (.func (.func 21) #[] #[]) [t4, t5]).bind fun t6 =>
  (gM t6 true ((aFieldAddr Tryz.prog 50 t1 1).bind M.pure)).bind fun t8 =>
  (gM t6 true ((aLoad Tryz.prog 45 t8).bind M.pure)).bind fun t9 =>
  (gM t6 true ((aBuild Tryz.prog 45 []).bind M.pure)).bind fun t10 =>
  (gM t6 true ((aBin Tryz.prog .eql 45 (.tmp 9) (.tmp 10) t9 t10).bind M.pure)).bind fun t11 =>
  (pickM t6 t11 (.bool false)).bind fun t12 =>
  (gM t12 true ((aFieldAddr Tryz.prog 50 t1 2).bind M.pure)).bind fun t15 =>
  (gM t12 true ((aFieldAddr Tryz.prog 48 t15 0).bind M.pure)).bind fun t16 =>
  (gM t12 true ((aLoad Tryz.prog 3 t16).bind M.pure)).bind fun t17 =>
  (gM t12 true ((aBin Tryz.prog .eql 3 (.tmp 17) (.const (.int .i64 0)) t17 (.int .i64 0)).bind M.pure)).bind fun t18 =>
  (pickM t12 t18 (.bool false)).bind fun t19 =>
  (gM t19 true ((aFieldAddr Tryz.prog 50 t1 2).bind M.pure)).bind fun t21 =>
  (gM t19 true ((aFieldAddr Tryz.prog 48 t21 1).bind M.pure)).bind fun t22 =>
  (gM t19 true ((aLoad Tryz.prog 46 t22).bind M.pure)).bind fun t23 =>
  (gM t19 true ((aBuiltin vE .len #[46] 3 [t23]).bind M.pure)).bind fun t24 =>
  (gM t19 true ((aBin Tryz.prog .eql 3 (.tmp 24) (.const (.int .i64 0)) t24 (.int .i64 0)).bind M.pure)).bind fun t25 =>
  (pickM t19 t25 (.bool false)).bind fun t26 =>
  (gM t26 true ((aFieldAddr Tryz.prog 50 t1 3).bind M.pure)).bind fun t28 =>
  (gM t26 true ((aLoad Tryz.prog 3 t28).bind M.pure)).bind fun t29 =>
  (gM t26 true ((aBin Tryz.prog .eql 3 (.tmp 29) (.const (.int .i64 0)) t29 (.int .i64 0)).bind M.pure)).bind fun t30 =>
  (pickM t26 t30 (.bool false)).bind fun t31 =>
  (gM t31 true ((aFieldAddr Tryz.prog 50 t1 4).bind M.pure)).bind fun t33 =>
  (gM t31 true ((aLoad Tryz.prog 5 t33).bind M.pure)).bind fun t34 =>
  (gM t31 true ((aBin Tryz.prog .eql 5 (.tmp 34) (.const (.int .u8 0)) t34 (.int .u8 0)).bind M.pure)).bind fun t35 =>
  (pickM t31 t35 (.bool false)).bind fun t36 =>
  M.pure ⟨.ret, [t36]⟩
noncomputable def v23 (C : Calls') (t0 : Value) : M Value := (v23_c C t0).bind fun r => if r.e = .ret then (resM vE [.tmp 2] r.p).bind fun l => M.pure (oneOf l) else M.bad

/- vellum/vellumref19.Same -/
def v35_an : An := (.n [] .z (.n [] (.n [] .z (.n [] (.n [] .z .z) .z)) (.n [] (.n [] .z (.n [] (.n [0, 1, 5] (.n [] (.n [] .z (.n [] .z .z)) (.n [] (.n [] (.n [] (.n [0, 1, 2, 3, 4, 5, 6, 7, 8] .z .z) (.n [] (.n [] .z .z) .z)) .z) .z)) .z) .z)) (.n [] .z .z))))
def v35_keep : Ex → List Nat
  | .exit 1 => [0, 1, 5]
  | .exit 0 => []
  | _ => []
def v35_kp (e : Ex) : List Nat := if e = .ret then [4] else v35_keep e
noncomputable def v35_k1 (C : Calls') (t0 t1 t5 : Value) : M R :=
  (aBin Tryz.prog .add 3 (.tmp 15) (.const (.int .i64 1)) t5 (.int .i64 1)).bind fun t16 =>
  M.pure ⟨.normal, [t0, t1, t16]⟩
noncomputable def v35_b0 (C : Calls') (t0 t1 t5 : Value) : M R :=
  (aBuiltin vE .len #[68] 3 [t0]).bind fun t13 =>
  (aBin Tryz.prog .lss 3 (.tmp 11) (.tmp 13) t5 t13).bind fun t14 =>
  condM t14
  ((only ((aIndexAddr Tryz.prog 68 t0 t5).bind M.pure) fun t19 =>
  only ((aLoad Tryz.prog 124 t19).bind M.pure) fun t20 =>
  only ((aIndexAddr Tryz.prog 68 t1 t5).bind M.pure) fun t23 =>
  only ((aLoad Tryz.prog 124 t23).bind M.pure) fun t24 =>
  only ((aBin Tryz.prog .neq 124 (.tmp 20) (.tmp 24) t20 t24).bind M.pure) fun t25 =>
  condM t25
  (M.pure ⟨.ret, [(.bool false)]⟩)
  (M.pure ⟨.normal, [t0, t1, t5]⟩)).bind fun r => if r.e = .normal ∨ r.e = .exit 1 then v35_k1 C (r.p.getD 0 undef) (r.p.getD 1 undef) (r.p.getD 2 undef) else M.pure r)
  (M.pure ⟨.exit 0, []⟩)
noncomputable def v35_L2 (C : Calls') (p : List Value) : M R := v35_b0 C (p.getD 0 undef) (p.getD 1 undef) (p.getD 2 undef)
noncomputable def v35_k3 (C : Calls') : M R :=
  M.pure ⟨.ret, [(.bool true)]⟩
noncomputable def v35_c (C : Calls') (t0 t1 : Value) : M R :=
  (aBuiltin vE .len #[68] 3 [t0]).bind fun t7 =>
  (aBuiltin vE .len #[68] 3 [t1]).bind fun t9 =>
  (aBin Tryz.prog .neq 3 (.tmp 7) (.tmp 9) t7 t9).bind fun t10 =>
  condM t10
  (M.pure ⟨.ret, [(.bool false)]⟩)
  ((loopΩ (v35_L2 C) [t0, t1, (.int .i64 0)]).bind fun r => if r.e = .normal ∨ r.e = .exit 0 then v35_k3 C else M.pure r)
noncomputable def v35 (C : Calls') (t0 t1 : Value) : M Value := (v35_c C t0 t1).bind fun r => if r.e = .ret then (resM vE [.tmp 4] r.p).bind fun l => M.pure (oneOf l) else M.bad

/- vellum/vellumref22.SameCursors -/
def v36_an : An := (.n [] .z (.n [] (.n [] .z (.n [] (.n [] .z .z) .z)) (.n [] (.n [] .z (.n [] (.n [0, 1, 5] (.n [] (.n [] .z (.n [] .z .z)) (.n [] (.n [] (.n [] (.n [0, 1, 2, 3, 4, 5, 6, 7, 8] .z .z) (.n [] (.n [] .z .z) .z)) .z) .z)) .z) .z)) (.n [] .z .z))))
def v36_keep : Ex → List Nat
  | .exit 1 => [0, 1, 5]
  | .exit 0 => []
  | _ => []
def v36_kp (e : Ex) : List Nat := if e = .ret then [4] else v36_keep e
noncomputable def v36_k1 (C : Calls') (t0 t1 t5 : Value) : M R :=
  (aBin Tryz.prog .add 3 (.tmp 15) (.const (.int .i64 1)) t5 (.int .i64 1)).bind fun t16 =>
  M.pure ⟨.normal, [t0, t1, t16]⟩
noncomputable def v36_b0 (C : Calls') (t0 t1 t5 : Value) : M R :=
  (aBuiltin vE .len #[69] 3 [t0]).bind fun t13 =>
  (aBin Tryz.prog .lss 3 (.tmp 11) (.tmp 13) t5 t13).bind fun t14 =>
  condM t14
  ((only ((aIndexAddr Tryz.prog 69 t0 t5).bind M.pure) fun t19 =>
  only ((aLoad Tryz.prog 126 t19).bind M.pure) fun t20 =>
  only ((aIndexAddr Tryz.prog 69 t1 t5).bind M.pure) fun t23 =>
  only ((aLoad Tryz.prog 126 t23).bind M.pure) fun t24 =>
  only ((aBin Tryz.prog .neq 126 (.tmp 20) (.tmp 24) t20 t24).bind M.pure) fun t25 =>
  condM t25
  (M.pure ⟨.ret, [(.bool false)]⟩)
  (M.pure ⟨.normal, [t0, t1, t5]⟩)).bind fun r => if r.e = .normal ∨ r.e = .exit 1 then v36_k1 C (r.p.getD 0 undef) (r.p.getD 1 undef) (r.p.getD 2 undef) else M.pure r)
  (M.pure ⟨.exit 0, []⟩)
noncomputable def v36_L2 (C : Calls') (p : List Value) : M R := v36_b0 C (p.getD 0 undef) (p.getD 1 undef) (p.getD 2 undef)
noncomputable def v36_k3 (C : Calls') : M R :=
  M.pure ⟨.ret, [(.bool true)]⟩
noncomputable def v36_c (C : Calls') (t0 t1 : Value) : M R :=
  (aBuiltin vE .len #[69] 3 [t0]).bind fun t7 =>
  (aBuiltin vE .len #[69] 3 [t1]).bind fun t9 =>
  (aBin Tryz.prog .neq 3 (.tmp 7) (.tmp 9) t7 t9).bind fun t10 =>
  condM t10
  (M.pure ⟨.ret, [(.bool false)]⟩)
  ((loopΩ (v36_L2 C) [t0, t1, (.int .i64 0)]).bind fun r => if r.e = .normal ∨ r.e = .exit 0 then v36_k3 C else M.pure r)
noncomputable def v36 (C : Calls') (t0 t1 : Value) : M Value := (v36_c C t0 t1).bind fun r => if r.e = .ret then (resM vE [.tmp 4] r.p).bind fun l => M.pure (oneOf l) else M.bad

/- vellum/vellumref00.EqTexts -/
def v37_an : An := (.n [] .z (.n [] (.n [] .z (.n [] (.n [] .z .z) .z)) (.n [] (.n [] .z (.n [] (.n [0, 1, 5] (.n [] (.n [] .z (.n [] .z .z)) (.n [] (.n [] (.n [] (.n [0, 1, 2, 3, 4, 5, 6, 7, 8] .z .z) (.n [] (.n [] .z .z) .z)) .z) .z)) .z) .z)) (.n [] .z .z))))
def v37_keep : Ex → List Nat
  | .exit 1 => [0, 1, 5]
  | .exit 0 => []
  | _ => []
def v37_kp (e : Ex) : List Nat := if e = .ret then [4] else v37_keep e
noncomputable def v37_k1 (C : Calls') (t0 t1 t5 : Value) : M R :=
  (aBin Tryz.prog .add 3 (.tmp 15) (.const (.int .i64 1)) t5 (.int .i64 1)).bind fun t16 =>
  M.pure ⟨.normal, [t0, t1, t16]⟩
noncomputable def v37_b0 (C : Calls') (t0 t1 t5 : Value) : M R :=
  (aBuiltin vE .len #[70] 3 [t0]).bind fun t13 =>
  (aBin Tryz.prog .lss 3 (.tmp 11) (.tmp 13) t5 t13).bind fun t14 =>
  condM t14
  ((only ((aIndexAddr Tryz.prog 70 t0 t5).bind M.pure) fun t19 =>
  only ((aLoad Tryz.prog 9 t19).bind M.pure) fun t20 =>
  only ((aIndexAddr Tryz.prog 70 t1 t5).bind M.pure) fun t23 =>
  only ((aLoad Tryz.prog 9 t23).bind M.pure) fun t24 =>
  only ((aBin Tryz.prog .neq 9 (.tmp 20) (.tmp 24) t20 t24).bind M.pure) fun t25 =>
  condM t25
  (M.pure ⟨.ret, [(.bool false)]⟩)
  (M.pure ⟨.normal, [t0, t1, t5]⟩)).bind fun r => if r.e = .normal ∨ r.e = .exit 1 then v37_k1 C (r.p.getD 0 undef) (r.p.getD 1 undef) (r.p.getD 2 undef) else M.pure r)
  (M.pure ⟨.exit 0, []⟩)
noncomputable def v37_L2 (C : Calls') (p : List Value) : M R := v37_b0 C (p.getD 0 undef) (p.getD 1 undef) (p.getD 2 undef)
noncomputable def v37_k3 (C : Calls') : M R :=
  M.pure ⟨.ret, [(.bool true)]⟩
noncomputable def v37_c (C : Calls') (t0 t1 : Value) : M R :=
  (aBuiltin vE .len #[70] 3 [t0]).bind fun t7 =>
  (aBuiltin vE .len #[70] 3 [t1]).bind fun t9 =>
  (aBin Tryz.prog .neq 3 (.tmp 7) (.tmp 9) t7 t9).bind fun t10 =>
  condM t10
  (M.pure ⟨.ret, [(.bool false)]⟩)
  ((loopΩ (v37_L2 C) [t0, t1, (.int .i64 0)]).bind fun r => if r.e = .normal ∨ r.e = .exit 0 then v37_k3 C else M.pure r)
noncomputable def v37 (C : Calls') (t0 t1 : Value) : M Value := (v37_c C t0 t1).bind fun r => if r.e = .ret then (resM vE [.tmp 4] r.p).bind fun l => M.pure (oneOf l) else M.bad

def vkeep (f : FuncId) : Ex → List Nat := match f with
  | 3 => v3_keep
  | 4 => v4_keep
  | 5 => v5_keep
  | 6 => v6_keep
  | 7 => v7_keep
  | 8 => v8_keep
  | 9 => v9_keep
  | 10 => v10_keep
  | 11 => v11_keep
  | 12 => v12_keep
  | 16 => v16_keep
  | 21 => v21_keep
  | 22 => v22_keep
  | 23 => v23_keep
  | 35 => v35_keep
  | 36 => v36_keep
  | 37 => v37_keep
  | _ => fun _ => []

def vann (f : FuncId) : An := match f with
  | 3 => v3_an
  | 4 => v4_an
  | 5 => v5_an
  | 6 => v6_an
  | 7 => v7_an
  | 8 => v8_an
  | 9 => v9_an
  | 10 => v10_an
  | 11 => v11_an
  | 12 => v12_an
  | 16 => v16_an
  | 21 => v21_an
  | 22 => v22_an
  | 23 => v23_an
  | 35 => v35_an
  | 36 => v36_an
  | 37 => v37_an
  | _ => .z

noncomputable abbrev vW : Calls' := callΩ vE vkeep vann

theorem v3_eq (C : Calls') (t0 : Value) : callStep vE C loopΩ vkeep vann 3 [t0] = v3 C t0 := by kernel_rfl
theorem v3_ok : okFn vE.P 3 = true := by kernel_rfl
theorem v3_call {t0 : Value} {H : Heap} {r : Out Value} (h : v3 vW t0 H = r) (hb : r ≠ .bad) : vW (.call 3 [t0]) H = r := callΩ_step _ _ _ rfl (by rw [v3_eq]; exact h) hb

theorem v4_eq (C : Calls') (t0 : Value) : callStep vE C loopΩ vkeep vann 4 [t0] = v4 C t0 := by kernel_rfl
theorem v4_ok : okFn vE.P 4 = true := by kernel_rfl
theorem v4_call {t0 : Value} {H : Heap} {r : Out Value} (h : v4 vW t0 H = r) (hb : r ≠ .bad) : vW (.call 4 [t0]) H = r := callΩ_step _ _ _ rfl (by rw [v4_eq]; exact h) hb

theorem v5_eq (C : Calls') (t0 : Value) : callStep vE C loopΩ vkeep vann 5 [t0] = v5 C t0 := by kernel_rfl
theorem v5_ok : okFn vE.P 5 = true := by kernel_rfl
theorem v5_call {t0 : Value} {H : Heap} {r : Out Value} (h : v5 vW t0 H = r) (hb : r ≠ .bad) : vW (.call 5 [t0]) H = r := callΩ_step _ _ _ rfl (by rw [v5_eq]; exact h) hb

theorem v6_eq (C : Calls') (t0 : Value) : callStep vE C loopΩ vkeep vann 6 [t0] = v6 C t0 := by kernel_rfl
theorem v6_ok : okFn vE.P 6 = true := by kernel_rfl
theorem v6_call {t0 : Value} {H : Heap} {r : Out Value} (h : v6 vW t0 H = r) (hb : r ≠ .bad) : vW (.call 6 [t0]) H = r := callΩ_step _ _ _ rfl (by rw [v6_eq]; exact h) hb

theorem v7_eq (C : Calls') (t0 : Value) : callStep vE C loopΩ vkeep vann 7 [t0] = v7 C t0 := by kernel_rfl
theorem v7_ok : okFn vE.P 7 = true := by kernel_rfl
theorem v7_call {t0 : Value} {H : Heap} {r : Out Value} (h : v7 vW t0 H = r) (hb : r ≠ .bad) : vW (.call 7 [t0]) H = r := callΩ_step _ _ _ rfl (by rw [v7_eq]; exact h) hb

theorem v8_eq (C : Calls') (t0 t1 t2 : Value) : callStep vE C loopΩ vkeep vann 8 [t0, t1, t2] = v8 C t0 t1 t2 := by kernel_rfl
theorem v8_ok : okFn vE.P 8 = true := by kernel_rfl
theorem v8_call {t0 t1 t2 : Value} {H : Heap} {r : Out Value} (h : v8 vW t0 t1 t2 H = r) (hb : r ≠ .bad) : vW (.call 8 [t0, t1, t2]) H = r := callΩ_step _ _ _ rfl (by rw [v8_eq]; exact h) hb

theorem v9_eq (C : Calls') (t0 t1 : Value) : callStep vE C loopΩ vkeep vann 9 [t0, t1] = v9 C t0 t1 := by kernel_rfl
theorem v9_ok : okFn vE.P 9 = true := by kernel_rfl
theorem v9_call {t0 t1 : Value} {H : Heap} {r : Out Value} (h : v9 vW t0 t1 H = r) (hb : r ≠ .bad) : vW (.call 9 [t0, t1]) H = r := callΩ_step _ _ _ rfl (by rw [v9_eq]; exact h) hb

theorem v10_eq (C : Calls') (t0 : Value) : callStep vE C loopΩ vkeep vann 10 [t0] = v10 C t0 := by kernel_rfl
theorem v10_ok : okFn vE.P 10 = true := by kernel_rfl
theorem v10_call {t0 : Value} {H : Heap} {r : Out Value} (h : v10 vW t0 H = r) (hb : r ≠ .bad) : vW (.call 10 [t0]) H = r := callΩ_step _ _ _ rfl (by rw [v10_eq]; exact h) hb

theorem v11_eq (C : Calls') (t0 t1 : Value) : callStep vE C loopΩ vkeep vann 11 [t0, t1] = v11 C t0 t1 := by kernel_rfl
theorem v11_ok : okFn vE.P 11 = true := by kernel_rfl
theorem v11_call {t0 t1 : Value} {H : Heap} {r : Out Value} (h : v11 vW t0 t1 H = r) (hb : r ≠ .bad) : vW (.call 11 [t0, t1]) H = r := callΩ_step _ _ _ rfl (by rw [v11_eq]; exact h) hb

theorem v12_eq (C : Calls') (t0 t1 : Value) : callStep vE C loopΩ vkeep vann 12 [t0, t1] = v12 C t0 t1 := by kernel_rfl
theorem v12_ok : okFn vE.P 12 = true := by kernel_rfl
theorem v12_call {t0 t1 : Value} {H : Heap} {r : Out Value} (h : v12 vW t0 t1 H = r) (hb : r ≠ .bad) : vW (.call 12 [t0, t1]) H = r := callΩ_step _ _ _ rfl (by rw [v12_eq]; exact h) hb

theorem v16_eq (C : Calls') (t0 : Value) : callStep vE C loopΩ vkeep vann 16 [t0] = v16 C t0 := by kernel_rfl
theorem v16_ok : okFn vE.P 16 = true := by kernel_rfl
theorem v16_call {t0 : Value} {H : Heap} {r : Out Value} (h : v16 vW t0 H = r) (hb : r ≠ .bad) : vW (.call 16 [t0]) H = r := callΩ_step _ _ _ rfl (by rw [v16_eq]; exact h) hb

theorem v21_eq (C : Calls') (t0 t1 : Value) : callStep vE C loopΩ vkeep vann 21 [t0, t1] = v21 C t0 t1 := by kernel_rfl
theorem v21_ok : okFn vE.P 21 = true := by kernel_rfl
theorem v21_call {t0 t1 : Value} {H : Heap} {r : Out Value} (h : v21 vW t0 t1 H = r) (hb : r ≠ .bad) : vW (.call 21 [t0, t1]) H = r := callΩ_step _ _ _ rfl (by rw [v21_eq]; exact h) hb

theorem v22_eq (C : Calls') (t0 : Value) : callStep vE C loopΩ vkeep vann 22 [t0] = v22 C t0 := by kernel_rfl
theorem v22_ok : okFn vE.P 22 = true := by kernel_rfl
theorem v22_call {t0 : Value} {H : Heap} {r : Out Value} (h : v22 vW t0 H = r) (hb : r ≠ .bad) : vW (.call 22 [t0]) H = r := callΩ_step _ _ _ rfl (by rw [v22_eq]; exact h) hb

theorem v23_eq (C : Calls') (t0 : Value) : callStep vE C loopΩ vkeep vann 23 [t0] = v23 C t0 := by kernel_rfl
theorem v23_ok : okFn vE.P 23 = true := by kernel_rfl
theorem v23_call {t0 : Value} {H : Heap} {r : Out Value} (h : v23 vW t0 H = r) (hb : r ≠ .bad) : vW (.call 23 [t0]) H = r := callΩ_step _ _ _ rfl (by rw [v23_eq]; exact h) hb

theorem v35_eq (C : Calls') (t0 t1 : Value) : callStep vE C loopΩ vkeep vann 35 [t0, t1] = v35 C t0 t1 := by kernel_rfl
theorem v35_ok : okFn vE.P 35 = true := by kernel_rfl
theorem v35_call {t0 t1 : Value} {H : Heap} {r : Out Value} (h : v35 vW t0 t1 H = r) (hb : r ≠ .bad) : vW (.call 35 [t0, t1]) H = r := callΩ_step _ _ _ rfl (by rw [v35_eq]; exact h) hb

theorem v36_eq (C : Calls') (t0 t1 : Value) : callStep vE C loopΩ vkeep vann 36 [t0, t1] = v36 C t0 t1 := by kernel_rfl
theorem v36_ok : okFn vE.P 36 = true := by kernel_rfl
theorem v36_call {t0 t1 : Value} {H : Heap} {r : Out Value} (h : v36 vW t0 t1 H = r) (hb : r ≠ .bad) : vW (.call 36 [t0, t1]) H = r := callΩ_step _ _ _ rfl (by rw [v36_eq]; exact h) hb

theorem v37_eq (C : Calls') (t0 t1 : Value) : callStep vE C loopΩ vkeep vann 37 [t0, t1] = v37 C t0 t1 := by kernel_rfl
theorem v37_ok : okFn vE.P 37 = true := by kernel_rfl
theorem v37_call {t0 t1 : Value} {H : Heap} {r : Out Value} (h : v37 vW t0 t1 H = r) (hb : r ≠ .bad) : vW (.call 37 [t0, t1]) H = r := callΩ_step _ _ _ rfl (by rw [v37_eq]; exact h) hb

@[simp] theorem vE_P : vE.P = Tryz.prog := rfl
end Go.Wel
