/- The facts of types. -/
import Derived.Test.YtajdleoobkfckaaGreatDoorCrFn
set_option maxRecDepth 100000
namespace Go.Wel
open Go Go.Proofs
theorem a3 : isAggT Tryz.prog 3 = some false := by kernel_rfl
theorem i3 : (Tryz.prog.info? 3).isSome = true := by kernel_rfl
theorem c3 : Tryz.prog.cellsOf 3 = 1 := by kernel_rfl
@[simp] theorem ld3 {x : Value} {H : Heap} : aLoad Tryz.prog 3 x H = ldS x H := ld_one a3
@[simp] theorem st3 {x v : Value} {H : Heap} : aStore Tryz.prog 3 x v H = stS x v H := st_one a3 i3 c3
theorem z3 : (Tryz.prog.info? 3).bind (·.zero) = some (.int .i64 0) := by kernel_rfl
@[simp] theorem al3 {H : Heap} : aAlloc Tryz.prog 3 H = new [(.int .i64 0)] 3 H := al_eq z3 rfl rfl
theorem a4 : isAggT Tryz.prog 4 = some false := by kernel_rfl
theorem i4 : (Tryz.prog.info? 4).isSome = true := by kernel_rfl
theorem c4 : Tryz.prog.cellsOf 4 = 1 := by kernel_rfl
@[simp] theorem ld4 {x : Value} {H : Heap} : aLoad Tryz.prog 4 x H = ldS x H := ld_one a4
@[simp] theorem st4 {x v : Value} {H : Heap} : aStore Tryz.prog 4 x v H = stS x v H := st_one a4 i4 c4
theorem z4 : (Tryz.prog.info? 4).bind (·.zero) = some (.bool false) := by kernel_rfl
@[simp] theorem al4 {H : Heap} : aAlloc Tryz.prog 4 H = new [(.bool false)] 4 H := al_eq z4 rfl rfl
theorem a5 : isAggT Tryz.prog 5 = some false := by kernel_rfl
theorem i5 : (Tryz.prog.info? 5).isSome = true := by kernel_rfl
theorem c5 : Tryz.prog.cellsOf 5 = 1 := by kernel_rfl
@[simp] theorem ld5 {x : Value} {H : Heap} : aLoad Tryz.prog 5 x H = ldS x H := ld_one a5
@[simp] theorem st5 {x v : Value} {H : Heap} : aStore Tryz.prog 5 x v H = stS x v H := st_one a5 i5 c5
theorem z5 : (Tryz.prog.info? 5).bind (·.zero) = some (.int .u8 0) := by kernel_rfl
@[simp] theorem al5 {H : Heap} : aAlloc Tryz.prog 5 H = new [(.int .u8 0)] 5 H := al_eq z5 rfl rfl
theorem a9 : isAggT Tryz.prog 9 = some false := by kernel_rfl
theorem i9 : (Tryz.prog.info? 9).isSome = true := by kernel_rfl
theorem c9 : Tryz.prog.cellsOf 9 = 1 := by kernel_rfl
@[simp] theorem ld9 {x : Value} {H : Heap} : aLoad Tryz.prog 9 x H = ldS x H := ld_one a9
@[simp] theorem st9 {x v : Value} {H : Heap} : aStore Tryz.prog 9 x v H = stS x v H := st_one a9 i9 c9
theorem z9 : (Tryz.prog.info? 9).bind (·.zero) = some (.string .empty) := by kernel_rfl
@[simp] theorem al9 {H : Heap} : aAlloc Tryz.prog 9 H = new [(.string .empty)] 9 H := al_eq z9 rfl rfl
theorem a22 : isAggT Tryz.prog 22 = some false := by kernel_rfl
theorem i22 : (Tryz.prog.info? 22).isSome = true := by kernel_rfl
theorem c22 : Tryz.prog.cellsOf 22 = 1 := by kernel_rfl
@[simp] theorem ld22 {x : Value} {H : Heap} : aLoad Tryz.prog 22 x H = ldS x H := ld_one a22
@[simp] theorem st22 {x v : Value} {H : Heap} : aStore Tryz.prog 22 x v H = stS x v H := st_one a22 i22 c22
theorem z22 : (Tryz.prog.info? 22).bind (·.zero) = some (.slice none 0 0) := by kernel_rfl
@[simp] theorem al22 {H : Heap} : aAlloc Tryz.prog 22 H = new [(.slice none 0 0)] 22 H := al_eq z22 rfl rfl
theorem a24 : isAggT Tryz.prog 24 = some true := by kernel_rfl
theorem i24 : (Tryz.prog.info? 24).isSome = true := by kernel_rfl
theorem c24 : Tryz.prog.cellsOf 24 = 2 := by kernel_rfl
@[simp] theorem ld24 {x : Value} {H : Heap} : aLoad Tryz.prog 24 x H = ldG 2 x H := ld_agg a24 i24 c24
@[simp] theorem st24 {x v : Value} {H : Heap} : aStore Tryz.prog 24 x v H = stG 2 x v H := st_agg a24 i24 c24
theorem z24 : (Tryz.prog.info? 24).bind (·.zero) = some (.agg #[(.int .i64 0), (.slice none 0 0)]) := by kernel_rfl
@[simp] theorem al24 {H : Heap} : aAlloc Tryz.prog 24 H = new [(.int .i64 0), (.slice none 0 0)] 24 H := al_eq z24 rfl rfl
theorem a25 : isAggT Tryz.prog 25 = some false := by kernel_rfl
theorem i25 : (Tryz.prog.info? 25).isSome = true := by kernel_rfl
theorem c25 : Tryz.prog.cellsOf 25 = 1 := by kernel_rfl
@[simp] theorem ld25 {x : Value} {H : Heap} : aLoad Tryz.prog 25 x H = ldS x H := ld_one a25
@[simp] theorem st25 {x v : Value} {H : Heap} : aStore Tryz.prog 25 x v H = stS x v H := st_one a25 i25 c25
theorem z25 : (Tryz.prog.info? 25).bind (·.zero) = some (.int .i64 0) := by kernel_rfl
@[simp] theorem al25 {H : Heap} : aAlloc Tryz.prog 25 H = new [(.int .i64 0)] 25 H := al_eq z25 rfl rfl
theorem a27 : isAggT Tryz.prog 27 = some false := by kernel_rfl
theorem i27 : (Tryz.prog.info? 27).isSome = true := by kernel_rfl
theorem c27 : Tryz.prog.cellsOf 27 = 1 := by kernel_rfl
@[simp] theorem ld27 {x : Value} {H : Heap} : aLoad Tryz.prog 27 x H = ldS x H := ld_one a27
@[simp] theorem st27 {x v : Value} {H : Heap} : aStore Tryz.prog 27 x v H = stS x v H := st_one a27 i27 c27
theorem z27 : (Tryz.prog.info? 27).bind (·.zero) = some (.slice none 0 0) := by kernel_rfl
@[simp] theorem al27 {H : Heap} : aAlloc Tryz.prog 27 H = new [(.slice none 0 0)] 27 H := al_eq z27 rfl rfl
theorem a29 : isAggT Tryz.prog 29 = some true := by kernel_rfl
theorem i29 : (Tryz.prog.info? 29).isSome = true := by kernel_rfl
theorem c29 : Tryz.prog.cellsOf 29 = 3 := by kernel_rfl
@[simp] theorem ld29 {x : Value} {H : Heap} : aLoad Tryz.prog 29 x H = ldG 3 x H := ld_agg a29 i29 c29
@[simp] theorem st29 {x v : Value} {H : Heap} : aStore Tryz.prog 29 x v H = stG 3 x v H := st_agg a29 i29 c29
theorem z29 : (Tryz.prog.info? 29).bind (·.zero) = some (.agg #[(.int .i64 0), (.int .i64 0), (.int .i64 0)]) := by kernel_rfl
@[simp] theorem al29 {H : Heap} : aAlloc Tryz.prog 29 H = new [(.int .i64 0), (.int .i64 0), (.int .i64 0)] 29 H := al_eq z29 rfl rfl
theorem a31 : isAggT Tryz.prog 31 = some true := by kernel_rfl
theorem i31 : (Tryz.prog.info? 31).isSome = true := by kernel_rfl
theorem c31 : Tryz.prog.cellsOf 31 = 5 := by kernel_rfl
@[simp] theorem ld31 {x : Value} {H : Heap} : aLoad Tryz.prog 31 x H = ldG 5 x H := ld_agg a31 i31 c31
@[simp] theorem st31 {x v : Value} {H : Heap} : aStore Tryz.prog 31 x v H = stG 5 x v H := st_agg a31 i31 c31
theorem z31 : (Tryz.prog.info? 31).bind (·.zero) = some (.agg #[(.slice none 0 0), (.int .i64 0), (.int .i64 0), (.int .i64 0), (.int .i64 0)]) := by kernel_rfl
@[simp] theorem al31 {H : Heap} : aAlloc Tryz.prog 31 H = new [(.slice none 0 0), (.int .i64 0), (.int .i64 0), (.int .i64 0), (.int .i64 0)] 31 H := al_eq z31 rfl rfl
theorem a40 : isAggT Tryz.prog 40 = some true := by kernel_rfl
theorem i40 : (Tryz.prog.info? 40).isSome = true := by kernel_rfl
theorem c40 : Tryz.prog.cellsOf 40 = 5 := by kernel_rfl
@[simp] theorem ld40 {x : Value} {H : Heap} : aLoad Tryz.prog 40 x H = ldG 5 x H := ld_agg a40 i40 c40
@[simp] theorem st40 {x v : Value} {H : Heap} : aStore Tryz.prog 40 x v H = stG 5 x v H := st_agg a40 i40 c40
theorem z40 : (Tryz.prog.info? 40).bind (·.zero) = some (.agg #[(.int .i64 0), (.int .i64 0), (.int .i64 0), (.int .i64 0), (.int .i64 0)]) := by kernel_rfl
@[simp] theorem al40 {H : Heap} : aAlloc Tryz.prog 40 H = new [(.int .i64 0), (.int .i64 0), (.int .i64 0), (.int .i64 0), (.int .i64 0)] 40 H := al_eq z40 rfl rfl
theorem a43 : isAggT Tryz.prog 43 = some false := by kernel_rfl
theorem i43 : (Tryz.prog.info? 43).isSome = true := by kernel_rfl
theorem c43 : Tryz.prog.cellsOf 43 = 1 := by kernel_rfl
@[simp] theorem ld43 {x : Value} {H : Heap} : aLoad Tryz.prog 43 x H = ldS x H := ld_one a43
@[simp] theorem st43 {x v : Value} {H : Heap} : aStore Tryz.prog 43 x v H = stS x v H := st_one a43 i43 c43
theorem z43 : (Tryz.prog.info? 43).bind (·.zero) = some (.int .u32 0) := by kernel_rfl
@[simp] theorem al43 {H : Heap} : aAlloc Tryz.prog 43 H = new [(.int .u32 0)] 43 H := al_eq z43 rfl rfl
theorem a45 : isAggT Tryz.prog 45 = some true := by kernel_rfl
theorem i45 : (Tryz.prog.info? 45).isSome = true := by kernel_rfl
theorem c45 : Tryz.prog.cellsOf 45 = 7 := by kernel_rfl
@[simp] theorem ld45 {x : Value} {H : Heap} : aLoad Tryz.prog 45 x H = ldG 7 x H := ld_agg a45 i45 c45
@[simp] theorem st45 {x v : Value} {H : Heap} : aStore Tryz.prog 45 x v H = stG 7 x v H := st_agg a45 i45 c45
theorem z45 : (Tryz.prog.info? 45).bind (·.zero) = some (.agg #[(.int .i64 0), (.string .empty), (.int .u32 0), (.int .i64 0), (.int .i64 0), (.string .empty), (.int .u8 0)]) := by kernel_rfl
@[simp] theorem al45 {H : Heap} : aAlloc Tryz.prog 45 H = new [(.int .i64 0), (.string .empty), (.int .u32 0), (.int .i64 0), (.int .i64 0), (.string .empty), (.int .u8 0)] 45 H := al_eq z45 rfl rfl
theorem a46 : isAggT Tryz.prog 46 = some false := by kernel_rfl
theorem i46 : (Tryz.prog.info? 46).isSome = true := by kernel_rfl
theorem c46 : Tryz.prog.cellsOf 46 = 1 := by kernel_rfl
@[simp] theorem ld46 {x : Value} {H : Heap} : aLoad Tryz.prog 46 x H = ldS x H := ld_one a46
@[simp] theorem st46 {x v : Value} {H : Heap} : aStore Tryz.prog 46 x v H = stS x v H := st_one a46 i46 c46
theorem z46 : (Tryz.prog.info? 46).bind (·.zero) = some (.slice none 0 0) := by kernel_rfl
@[simp] theorem al46 {H : Heap} : aAlloc Tryz.prog 46 H = new [(.slice none 0 0)] 46 H := al_eq z46 rfl rfl
theorem a48 : isAggT Tryz.prog 48 = some true := by kernel_rfl
theorem i48 : (Tryz.prog.info? 48).isSome = true := by kernel_rfl
theorem c48 : Tryz.prog.cellsOf 48 = 2 := by kernel_rfl
@[simp] theorem ld48 {x : Value} {H : Heap} : aLoad Tryz.prog 48 x H = ldG 2 x H := ld_agg a48 i48 c48
@[simp] theorem st48 {x v : Value} {H : Heap} : aStore Tryz.prog 48 x v H = stG 2 x v H := st_agg a48 i48 c48
theorem z48 : (Tryz.prog.info? 48).bind (·.zero) = some (.agg #[(.int .i64 0), (.slice none 0 0)]) := by kernel_rfl
@[simp] theorem al48 {H : Heap} : aAlloc Tryz.prog 48 H = new [(.int .i64 0), (.slice none 0 0)] 48 H := al_eq z48 rfl rfl
theorem a50 : isAggT Tryz.prog 50 = some true := by kernel_rfl
theorem i50 : (Tryz.prog.info? 50).isSome = true := by kernel_rfl
theorem c50 : Tryz.prog.cellsOf 50 = 12 := by kernel_rfl
@[simp] theorem ld50 {x : Value} {H : Heap} : aLoad Tryz.prog 50 x H = ldG 12 x H := ld_agg a50 i50 c50
@[simp] theorem st50 {x v : Value} {H : Heap} : aStore Tryz.prog 50 x v H = stG 12 x v H := st_agg a50 i50 c50
theorem z50 : (Tryz.prog.info? 50).bind (·.zero) = some (.agg #[(.int .i64 0), (.int .i64 0), (.string .empty), (.int .u32 0), (.int .i64 0), (.int .i64 0), (.string .empty), (.int .u8 0), (.int .i64 0), (.slice none 0 0), (.int .i64 0), (.int .u8 0)]) := by kernel_rfl
@[simp] theorem al50 {H : Heap} : aAlloc Tryz.prog 50 H = new [(.int .i64 0), (.int .i64 0), (.string .empty), (.int .u32 0), (.int .i64 0), (.int .i64 0), (.string .empty), (.int .u8 0), (.int .i64 0), (.slice none 0 0), (.int .i64 0), (.int .u8 0)] 50 H := al_eq z50 rfl rfl
theorem a65 : isAggT Tryz.prog 65 = some true := by kernel_rfl
theorem i65 : (Tryz.prog.info? 65).isSome = true := by kernel_rfl
theorem c65 : Tryz.prog.cellsOf 65 = 2 := by kernel_rfl
@[simp] theorem ld65 {x : Value} {H : Heap} : aLoad Tryz.prog 65 x H = ldG 2 x H := ld_agg a65 i65 c65
@[simp] theorem st65 {x v : Value} {H : Heap} : aStore Tryz.prog 65 x v H = stG 2 x v H := st_agg a65 i65 c65
theorem z65 : (Tryz.prog.info? 65).bind (·.zero) = some (.agg #[(.int .i64 0), (.int .i64 0)]) := by kernel_rfl
@[simp] theorem al65 {H : Heap} : aAlloc Tryz.prog 65 H = new [(.int .i64 0), (.int .i64 0)] 65 H := al_eq z65 rfl rfl
theorem a67 : isAggT Tryz.prog 67 = some true := by kernel_rfl
theorem i67 : (Tryz.prog.info? 67).isSome = true := by kernel_rfl
theorem c67 : Tryz.prog.cellsOf 67 = 2 := by kernel_rfl
@[simp] theorem ld67 {x : Value} {H : Heap} : aLoad Tryz.prog 67 x H = ldG 2 x H := ld_agg a67 i67 c67
@[simp] theorem st67 {x v : Value} {H : Heap} : aStore Tryz.prog 67 x v H = stG 2 x v H := st_agg a67 i67 c67
theorem z67 : (Tryz.prog.info? 67).bind (·.zero) = some (.agg #[(.int .i64 0), (.int .i64 0)]) := by kernel_rfl
@[simp] theorem al67 {H : Heap} : aAlloc Tryz.prog 67 H = new [(.int .i64 0), (.int .i64 0)] 67 H := al_eq z67 rfl rfl
theorem a68 : isAggT Tryz.prog 68 = some false := by kernel_rfl
theorem i68 : (Tryz.prog.info? 68).isSome = true := by kernel_rfl
theorem c68 : Tryz.prog.cellsOf 68 = 1 := by kernel_rfl
@[simp] theorem ld68 {x : Value} {H : Heap} : aLoad Tryz.prog 68 x H = ldS x H := ld_one a68
@[simp] theorem st68 {x v : Value} {H : Heap} : aStore Tryz.prog 68 x v H = stS x v H := st_one a68 i68 c68
theorem z68 : (Tryz.prog.info? 68).bind (·.zero) = some (.slice none 0 0) := by kernel_rfl
@[simp] theorem al68 {H : Heap} : aAlloc Tryz.prog 68 H = new [(.slice none 0 0)] 68 H := al_eq z68 rfl rfl
theorem a69 : isAggT Tryz.prog 69 = some false := by kernel_rfl
theorem i69 : (Tryz.prog.info? 69).isSome = true := by kernel_rfl
theorem c69 : Tryz.prog.cellsOf 69 = 1 := by kernel_rfl
@[simp] theorem ld69 {x : Value} {H : Heap} : aLoad Tryz.prog 69 x H = ldS x H := ld_one a69
@[simp] theorem st69 {x v : Value} {H : Heap} : aStore Tryz.prog 69 x v H = stS x v H := st_one a69 i69 c69
theorem z69 : (Tryz.prog.info? 69).bind (·.zero) = some (.slice none 0 0) := by kernel_rfl
@[simp] theorem al69 {H : Heap} : aAlloc Tryz.prog 69 H = new [(.slice none 0 0)] 69 H := al_eq z69 rfl rfl
theorem a70 : isAggT Tryz.prog 70 = some false := by kernel_rfl
theorem i70 : (Tryz.prog.info? 70).isSome = true := by kernel_rfl
theorem c70 : Tryz.prog.cellsOf 70 = 1 := by kernel_rfl
@[simp] theorem ld70 {x : Value} {H : Heap} : aLoad Tryz.prog 70 x H = ldS x H := ld_one a70
@[simp] theorem st70 {x v : Value} {H : Heap} : aStore Tryz.prog 70 x v H = stS x v H := st_one a70 i70 c70
theorem z70 : (Tryz.prog.info? 70).bind (·.zero) = some (.slice none 0 0) := by kernel_rfl
@[simp] theorem al70 {H : Heap} : aAlloc Tryz.prog 70 H = new [(.slice none 0 0)] 70 H := al_eq z70 rfl rfl
theorem a72 : isAggT Tryz.prog 72 = some true := by kernel_rfl
theorem i72 : (Tryz.prog.info? 72).isSome = true := by kernel_rfl
theorem c72 : Tryz.prog.cellsOf 72 = 9 := by kernel_rfl
@[simp] theorem ld72 {x : Value} {H : Heap} : aLoad Tryz.prog 72 x H = ldG 9 x H := ld_agg a72 i72 c72
@[simp] theorem st72 {x v : Value} {H : Heap} : aStore Tryz.prog 72 x v H = stG 9 x v H := st_agg a72 i72 c72
theorem z72 : (Tryz.prog.info? 72).bind (·.zero) = some (.agg #[(.int .i64 0), (.int .i64 0), (.int .i64 0), (.int .i64 0), (.int .i64 0), (.int .i64 0), (.int .i64 0), (.int .i64 0), (.int .i64 0)]) := by kernel_rfl
@[simp] theorem al72 {H : Heap} : aAlloc Tryz.prog 72 H = new [(.int .i64 0), (.int .i64 0), (.int .i64 0), (.int .i64 0), (.int .i64 0), (.int .i64 0), (.int .i64 0), (.int .i64 0), (.int .i64 0)] 72 H := al_eq z72 rfl rfl
theorem a74 : isAggT Tryz.prog 74 = some true := by kernel_rfl
theorem i74 : (Tryz.prog.info? 74).isSome = true := by kernel_rfl
theorem c74 : Tryz.prog.cellsOf 74 = 20 := by kernel_rfl
@[simp] theorem ld74 {x : Value} {H : Heap} : aLoad Tryz.prog 74 x H = ldG 20 x H := ld_agg a74 i74 c74
@[simp] theorem st74 {x v : Value} {H : Heap} : aStore Tryz.prog 74 x v H = stG 20 x v H := st_agg a74 i74 c74
theorem z74 : (Tryz.prog.info? 74).bind (·.zero) = some (.agg #[(.int .i64 0), (.int .i64 0), (.int .i64 0), (.int .i64 0), (.string .empty), (.bool false), (.int .i64 0), (.int .i64 0), (.slice none 0 0), (.slice none 0 0), (.slice none 0 0), (.int .i64 0), (.int .i64 0), (.int .i64 0), (.int .i64 0), (.int .i64 0), (.int .i64 0), (.int .i64 0), (.int .i64 0), (.int .i64 0)]) := by kernel_rfl
@[simp] theorem al74 {H : Heap} : aAlloc Tryz.prog 74 H = new [(.int .i64 0), (.int .i64 0), (.int .i64 0), (.int .i64 0), (.string .empty), (.bool false), (.int .i64 0), (.int .i64 0), (.slice none 0 0), (.slice none 0 0), (.slice none 0 0), (.int .i64 0), (.int .i64 0), (.int .i64 0), (.int .i64 0), (.int .i64 0), (.int .i64 0), (.int .i64 0), (.int .i64 0), (.int .i64 0)] 74 H := al_eq z74 rfl rfl
theorem a76 : isAggT Tryz.prog 76 = some true := by kernel_rfl
theorem i76 : (Tryz.prog.info? 76).isSome = true := by kernel_rfl
theorem c76 : Tryz.prog.cellsOf 76 = 21 := by kernel_rfl
@[simp] theorem ld76 {x : Value} {H : Heap} : aLoad Tryz.prog 76 x H = ldG 21 x H := ld_agg a76 i76 c76
@[simp] theorem st76 {x v : Value} {H : Heap} : aStore Tryz.prog 76 x v H = stG 21 x v H := st_agg a76 i76 c76
theorem z76 : (Tryz.prog.info? 76).bind (·.zero) = some (.agg #[(.int .i64 0), (.int .i64 0), (.int .i64 0), (.int .i64 0), (.int .i64 0), (.string .empty), (.bool false), (.int .i64 0), (.int .i64 0), (.slice none 0 0), (.slice none 0 0), (.slice none 0 0), (.int .i64 0), (.int .i64 0), (.int .i64 0), (.int .i64 0), (.int .i64 0), (.int .i64 0), (.int .i64 0), (.int .i64 0), (.int .i64 0)]) := by kernel_rfl
@[simp] theorem al76 {H : Heap} : aAlloc Tryz.prog 76 H = new [(.int .i64 0), (.int .i64 0), (.int .i64 0), (.int .i64 0), (.int .i64 0), (.string .empty), (.bool false), (.int .i64 0), (.int .i64 0), (.slice none 0 0), (.slice none 0 0), (.slice none 0 0), (.int .i64 0), (.int .i64 0), (.int .i64 0), (.int .i64 0), (.int .i64 0), (.int .i64 0), (.int .i64 0), (.int .i64 0), (.int .i64 0)] 76 H := al_eq z76 rfl rfl
theorem a124 : isAggT Tryz.prog 124 = some true := by kernel_rfl
theorem i124 : (Tryz.prog.info? 124).isSome = true := by kernel_rfl
theorem c124 : Tryz.prog.cellsOf 124 = 3 := by kernel_rfl
@[simp] theorem ld124 {x : Value} {H : Heap} : aLoad Tryz.prog 124 x H = ldG 3 x H := ld_agg a124 i124 c124
@[simp] theorem st124 {x v : Value} {H : Heap} : aStore Tryz.prog 124 x v H = stG 3 x v H := st_agg a124 i124 c124
theorem z124 : (Tryz.prog.info? 124).bind (·.zero) = some (.agg #[(.int .u32 0), (.int .i64 0), (.int .u8 0)]) := by kernel_rfl
@[simp] theorem al124 {H : Heap} : aAlloc Tryz.prog 124 H = new [(.int .u32 0), (.int .i64 0), (.int .u8 0)] 124 H := al_eq z124 rfl rfl
theorem a126 : isAggT Tryz.prog 126 = some true := by kernel_rfl
theorem i126 : (Tryz.prog.info? 126).isSome = true := by kernel_rfl
theorem c126 : Tryz.prog.cellsOf 126 = 4 := by kernel_rfl
@[simp] theorem ld126 {x : Value} {H : Heap} : aLoad Tryz.prog 126 x H = ldG 4 x H := ld_agg a126 i126 c126
@[simp] theorem st126 {x v : Value} {H : Heap} : aStore Tryz.prog 126 x v H = stG 4 x v H := st_agg a126 i126 c126
theorem z126 : (Tryz.prog.info? 126).bind (·.zero) = some (.agg #[(.int .u32 0), (.int .i64 0), (.int .i64 0), (.int .i64 0)]) := by kernel_rfl
@[simp] theorem al126 {H : Heap} : aAlloc Tryz.prog 126 H = new [(.int .u32 0), (.int .i64 0), (.int .i64 0), (.int .i64 0)] 126 H := al_eq z126 rfl rfl
@[simp] theorem ln9 {s : ByteArray} {H : Heap} : aLen Tryz.prog 9 (.string s) H = .ret (.int .i64 s.size) H := len_string Tryz.underlying9
@[simp] theorem ix22 {x i : Value} {H : Heap} : aIndexAddr Tryz.prog 22 x i H = idxS 12 x i H := ix_eq Tryz.underlying22 i50 c50
@[simp] theorem ln22 {a : Option Addr} {n c : Nat} {H : Heap} : aLen Tryz.prog 22 (.slice a n c) H = .ret (.int .i64 n) H := len_slice Tryz.underlying22
@[simp] theorem fa24_0 {b off : Nat} {H : Heap} : aFieldAddr Tryz.prog 24 (.pointer (some ⟨b, off, none⟩)) 0 H = .ret (.pointer (some ⟨b, off + 0, none⟩)) H := fa_eq Tryz.underlying24 rfl i3 c3
@[simp] theorem fa24_1 {b off : Nat} {H : Heap} : aFieldAddr Tryz.prog 24 (.pointer (some ⟨b, off, none⟩)) 1 H = .ret (.pointer (some ⟨b, off + 1, none⟩)) H := fa_eq Tryz.underlying24 rfl i22 c22
@[simp] theorem bd24 {ps : List (Nat × Value)} {H : Heap} : aBuild Tryz.prog 24 ps H = buildS #[(0, 1), (1, 1)] (.agg #[(.int .i64 0), (.slice none 0 0)]) ps H := bd_eq z24 Tryz.underlying24 (by kernel_rfl) rfl
@[simp] theorem ix27 {x i : Value} {H : Heap} : aIndexAddr Tryz.prog 27 x i H = idxS 21 x i H := ix_eq Tryz.underlying27 i76 c76
@[simp] theorem ln27 {a : Option Addr} {n c : Nat} {H : Heap} : aLen Tryz.prog 27 (.slice a n c) H = .ret (.int .i64 n) H := len_slice Tryz.underlying27
@[simp] theorem fa29_0 {b off : Nat} {H : Heap} : aFieldAddr Tryz.prog 29 (.pointer (some ⟨b, off, none⟩)) 0 H = .ret (.pointer (some ⟨b, off + 0, none⟩)) H := fa_eq Tryz.underlying29 rfl i3 c3
@[simp] theorem fa29_1 {b off : Nat} {H : Heap} : aFieldAddr Tryz.prog 29 (.pointer (some ⟨b, off, none⟩)) 1 H = .ret (.pointer (some ⟨b, off + 1, none⟩)) H := fa_eq Tryz.underlying29 rfl i3 c3
@[simp] theorem fa29_2 {b off : Nat} {H : Heap} : aFieldAddr Tryz.prog 29 (.pointer (some ⟨b, off, none⟩)) 2 H = .ret (.pointer (some ⟨b, off + 2, none⟩)) H := fa_eq Tryz.underlying29 rfl i3 c3
@[simp] theorem bd29 {ps : List (Nat × Value)} {H : Heap} : aBuild Tryz.prog 29 ps H = buildS #[(0, 1), (1, 1), (2, 1)] (.agg #[(.int .i64 0), (.int .i64 0), (.int .i64 0)]) ps H := bd_eq z29 Tryz.underlying29 (by kernel_rfl) rfl
@[simp] theorem fa31_0 {b off : Nat} {H : Heap} : aFieldAddr Tryz.prog 31 (.pointer (some ⟨b, off, none⟩)) 0 H = .ret (.pointer (some ⟨b, off + 0, none⟩)) H := fa_eq Tryz.underlying31 rfl i27 c27
@[simp] theorem fa31_1 {b off : Nat} {H : Heap} : aFieldAddr Tryz.prog 31 (.pointer (some ⟨b, off, none⟩)) 1 H = .ret (.pointer (some ⟨b, off + 1, none⟩)) H := fa_eq Tryz.underlying31 rfl i29 c29
@[simp] theorem fa31_2 {b off : Nat} {H : Heap} : aFieldAddr Tryz.prog 31 (.pointer (some ⟨b, off, none⟩)) 2 H = .ret (.pointer (some ⟨b, off + 4, none⟩)) H := fa_eq Tryz.underlying31 rfl i3 c3
@[simp] theorem bd31 {ps : List (Nat × Value)} {H : Heap} : aBuild Tryz.prog 31 ps H = buildS #[(0, 1), (1, 3), (4, 1)] (.agg #[(.slice none 0 0), (.int .i64 0), (.int .i64 0), (.int .i64 0), (.int .i64 0)]) ps H := bd_eq z31 Tryz.underlying31 (by kernel_rfl) rfl
@[simp] theorem fa40_0 {b off : Nat} {H : Heap} : aFieldAddr Tryz.prog 40 (.pointer (some ⟨b, off, none⟩)) 0 H = .ret (.pointer (some ⟨b, off + 0, none⟩)) H := fa_eq Tryz.underlying40 rfl i3 c3
@[simp] theorem fa40_1 {b off : Nat} {H : Heap} : aFieldAddr Tryz.prog 40 (.pointer (some ⟨b, off, none⟩)) 1 H = .ret (.pointer (some ⟨b, off + 1, none⟩)) H := fa_eq Tryz.underlying40 rfl i3 c3
@[simp] theorem fa40_2 {b off : Nat} {H : Heap} : aFieldAddr Tryz.prog 40 (.pointer (some ⟨b, off, none⟩)) 2 H = .ret (.pointer (some ⟨b, off + 2, none⟩)) H := fa_eq Tryz.underlying40 rfl i3 c3
@[simp] theorem fa40_3 {b off : Nat} {H : Heap} : aFieldAddr Tryz.prog 40 (.pointer (some ⟨b, off, none⟩)) 3 H = .ret (.pointer (some ⟨b, off + 3, none⟩)) H := fa_eq Tryz.underlying40 rfl i3 c3
@[simp] theorem fa40_4 {b off : Nat} {H : Heap} : aFieldAddr Tryz.prog 40 (.pointer (some ⟨b, off, none⟩)) 4 H = .ret (.pointer (some ⟨b, off + 4, none⟩)) H := fa_eq Tryz.underlying40 rfl i3 c3
@[simp] theorem bd40 {ps : List (Nat × Value)} {H : Heap} : aBuild Tryz.prog 40 ps H = buildS #[(0, 1), (1, 1), (2, 1), (3, 1), (4, 1)] (.agg #[(.int .i64 0), (.int .i64 0), (.int .i64 0), (.int .i64 0), (.int .i64 0)]) ps H := bd_eq z40 Tryz.underlying40 (by kernel_rfl) rfl
@[simp] theorem fa45_0 {b off : Nat} {H : Heap} : aFieldAddr Tryz.prog 45 (.pointer (some ⟨b, off, none⟩)) 0 H = .ret (.pointer (some ⟨b, off + 0, none⟩)) H := fa_eq Tryz.underlying45 rfl i3 c3
@[simp] theorem fa45_1 {b off : Nat} {H : Heap} : aFieldAddr Tryz.prog 45 (.pointer (some ⟨b, off, none⟩)) 1 H = .ret (.pointer (some ⟨b, off + 1, none⟩)) H := fa_eq Tryz.underlying45 rfl i9 c9
@[simp] theorem fa45_2 {b off : Nat} {H : Heap} : aFieldAddr Tryz.prog 45 (.pointer (some ⟨b, off, none⟩)) 2 H = .ret (.pointer (some ⟨b, off + 2, none⟩)) H := fa_eq Tryz.underlying45 rfl i43 c43
@[simp] theorem fa45_3 {b off : Nat} {H : Heap} : aFieldAddr Tryz.prog 45 (.pointer (some ⟨b, off, none⟩)) 3 H = .ret (.pointer (some ⟨b, off + 3, none⟩)) H := fa_eq Tryz.underlying45 rfl i3 c3
@[simp] theorem fa45_4 {b off : Nat} {H : Heap} : aFieldAddr Tryz.prog 45 (.pointer (some ⟨b, off, none⟩)) 4 H = .ret (.pointer (some ⟨b, off + 4, none⟩)) H := fa_eq Tryz.underlying45 rfl i3 c3
@[simp] theorem fa45_5 {b off : Nat} {H : Heap} : aFieldAddr Tryz.prog 45 (.pointer (some ⟨b, off, none⟩)) 5 H = .ret (.pointer (some ⟨b, off + 5, none⟩)) H := fa_eq Tryz.underlying45 rfl i9 c9
@[simp] theorem fa45_6 {b off : Nat} {H : Heap} : aFieldAddr Tryz.prog 45 (.pointer (some ⟨b, off, none⟩)) 6 H = .ret (.pointer (some ⟨b, off + 6, none⟩)) H := fa_eq Tryz.underlying45 rfl i5 c5
@[simp] theorem bd45 {ps : List (Nat × Value)} {H : Heap} : aBuild Tryz.prog 45 ps H = buildS #[(0, 1), (1, 1), (2, 1), (3, 1), (4, 1), (5, 1), (6, 1)] (.agg #[(.int .i64 0), (.string .empty), (.int .u32 0), (.int .i64 0), (.int .i64 0), (.string .empty), (.int .u8 0)]) ps H := bd_eq z45 Tryz.underlying45 (by kernel_rfl) rfl
@[simp] theorem ix46 {x i : Value} {H : Heap} : aIndexAddr Tryz.prog 46 x i H = idxS 1 x i H := ix_eq Tryz.underlying46 i3 c3
@[simp] theorem ln46 {a : Option Addr} {n c : Nat} {H : Heap} : aLen Tryz.prog 46 (.slice a n c) H = .ret (.int .i64 n) H := len_slice Tryz.underlying46
@[simp] theorem fa48_0 {b off : Nat} {H : Heap} : aFieldAddr Tryz.prog 48 (.pointer (some ⟨b, off, none⟩)) 0 H = .ret (.pointer (some ⟨b, off + 0, none⟩)) H := fa_eq Tryz.underlying48 rfl i3 c3
@[simp] theorem fa48_1 {b off : Nat} {H : Heap} : aFieldAddr Tryz.prog 48 (.pointer (some ⟨b, off, none⟩)) 1 H = .ret (.pointer (some ⟨b, off + 1, none⟩)) H := fa_eq Tryz.underlying48 rfl i46 c46
@[simp] theorem bd48 {ps : List (Nat × Value)} {H : Heap} : aBuild Tryz.prog 48 ps H = buildS #[(0, 1), (1, 1)] (.agg #[(.int .i64 0), (.slice none 0 0)]) ps H := bd_eq z48 Tryz.underlying48 (by kernel_rfl) rfl
@[simp] theorem fa50_0 {b off : Nat} {H : Heap} : aFieldAddr Tryz.prog 50 (.pointer (some ⟨b, off, none⟩)) 0 H = .ret (.pointer (some ⟨b, off + 0, none⟩)) H := fa_eq Tryz.underlying50 rfl i3 c3
@[simp] theorem fa50_1 {b off : Nat} {H : Heap} : aFieldAddr Tryz.prog 50 (.pointer (some ⟨b, off, none⟩)) 1 H = .ret (.pointer (some ⟨b, off + 1, none⟩)) H := fa_eq Tryz.underlying50 rfl i45 c45
@[simp] theorem fa50_2 {b off : Nat} {H : Heap} : aFieldAddr Tryz.prog 50 (.pointer (some ⟨b, off, none⟩)) 2 H = .ret (.pointer (some ⟨b, off + 8, none⟩)) H := fa_eq Tryz.underlying50 rfl i48 c48
@[simp] theorem fa50_3 {b off : Nat} {H : Heap} : aFieldAddr Tryz.prog 50 (.pointer (some ⟨b, off, none⟩)) 3 H = .ret (.pointer (some ⟨b, off + 10, none⟩)) H := fa_eq Tryz.underlying50 rfl i3 c3
@[simp] theorem fa50_4 {b off : Nat} {H : Heap} : aFieldAddr Tryz.prog 50 (.pointer (some ⟨b, off, none⟩)) 4 H = .ret (.pointer (some ⟨b, off + 11, none⟩)) H := fa_eq Tryz.underlying50 rfl i5 c5
@[simp] theorem bd50 {ps : List (Nat × Value)} {H : Heap} : aBuild Tryz.prog 50 ps H = buildS #[(0, 1), (1, 7), (8, 2), (10, 1), (11, 1)] (.agg #[(.int .i64 0), (.int .i64 0), (.string .empty), (.int .u32 0), (.int .i64 0), (.int .i64 0), (.string .empty), (.int .u8 0), (.int .i64 0), (.slice none 0 0), (.int .i64 0), (.int .u8 0)]) ps H := bd_eq z50 Tryz.underlying50 (by kernel_rfl) rfl
@[simp] theorem fa65_0 {b off : Nat} {H : Heap} : aFieldAddr Tryz.prog 65 (.pointer (some ⟨b, off, none⟩)) 0 H = .ret (.pointer (some ⟨b, off + 0, none⟩)) H := fa_eq Tryz.underlying65 rfl i3 c3
@[simp] theorem fa65_1 {b off : Nat} {H : Heap} : aFieldAddr Tryz.prog 65 (.pointer (some ⟨b, off, none⟩)) 1 H = .ret (.pointer (some ⟨b, off + 1, none⟩)) H := fa_eq Tryz.underlying65 rfl i3 c3
@[simp] theorem bd65 {ps : List (Nat × Value)} {H : Heap} : aBuild Tryz.prog 65 ps H = buildS #[(0, 1), (1, 1)] (.agg #[(.int .i64 0), (.int .i64 0)]) ps H := bd_eq z65 Tryz.underlying65 (by kernel_rfl) rfl
@[simp] theorem fa67_0 {b off : Nat} {H : Heap} : aFieldAddr Tryz.prog 67 (.pointer (some ⟨b, off, none⟩)) 0 H = .ret (.pointer (some ⟨b, off + 0, none⟩)) H := fa_eq Tryz.underlying67 rfl i3 c3
@[simp] theorem fa67_1 {b off : Nat} {H : Heap} : aFieldAddr Tryz.prog 67 (.pointer (some ⟨b, off, none⟩)) 1 H = .ret (.pointer (some ⟨b, off + 1, none⟩)) H := fa_eq Tryz.underlying67 rfl i3 c3
@[simp] theorem bd67 {ps : List (Nat × Value)} {H : Heap} : aBuild Tryz.prog 67 ps H = buildS #[(0, 1), (1, 1)] (.agg #[(.int .i64 0), (.int .i64 0)]) ps H := bd_eq z67 Tryz.underlying67 (by kernel_rfl) rfl
@[simp] theorem ix68 {x i : Value} {H : Heap} : aIndexAddr Tryz.prog 68 x i H = idxS 3 x i H := ix_eq Tryz.underlying68 i124 c124
@[simp] theorem ln68 {a : Option Addr} {n c : Nat} {H : Heap} : aLen Tryz.prog 68 (.slice a n c) H = .ret (.int .i64 n) H := len_slice Tryz.underlying68
@[simp] theorem ix69 {x i : Value} {H : Heap} : aIndexAddr Tryz.prog 69 x i H = idxS 4 x i H := ix_eq Tryz.underlying69 i126 c126
@[simp] theorem ln69 {a : Option Addr} {n c : Nat} {H : Heap} : aLen Tryz.prog 69 (.slice a n c) H = .ret (.int .i64 n) H := len_slice Tryz.underlying69
@[simp] theorem ix70 {x i : Value} {H : Heap} : aIndexAddr Tryz.prog 70 x i H = idxS 1 x i H := ix_eq Tryz.underlying70 i9 c9
@[simp] theorem ln70 {a : Option Addr} {n c : Nat} {H : Heap} : aLen Tryz.prog 70 (.slice a n c) H = .ret (.int .i64 n) H := len_slice Tryz.underlying70
@[simp] theorem fa72_0 {b off : Nat} {H : Heap} : aFieldAddr Tryz.prog 72 (.pointer (some ⟨b, off, none⟩)) 0 H = .ret (.pointer (some ⟨b, off + 0, none⟩)) H := fa_eq Tryz.underlying72 rfl i3 c3
@[simp] theorem fa72_1 {b off : Nat} {H : Heap} : aFieldAddr Tryz.prog 72 (.pointer (some ⟨b, off, none⟩)) 1 H = .ret (.pointer (some ⟨b, off + 1, none⟩)) H := fa_eq Tryz.underlying72 rfl i3 c3
@[simp] theorem fa72_2 {b off : Nat} {H : Heap} : aFieldAddr Tryz.prog 72 (.pointer (some ⟨b, off, none⟩)) 2 H = .ret (.pointer (some ⟨b, off + 2, none⟩)) H := fa_eq Tryz.underlying72 rfl i3 c3
@[simp] theorem fa72_3 {b off : Nat} {H : Heap} : aFieldAddr Tryz.prog 72 (.pointer (some ⟨b, off, none⟩)) 3 H = .ret (.pointer (some ⟨b, off + 3, none⟩)) H := fa_eq Tryz.underlying72 rfl i3 c3
@[simp] theorem fa72_4 {b off : Nat} {H : Heap} : aFieldAddr Tryz.prog 72 (.pointer (some ⟨b, off, none⟩)) 4 H = .ret (.pointer (some ⟨b, off + 4, none⟩)) H := fa_eq Tryz.underlying72 rfl i3 c3
@[simp] theorem fa72_5 {b off : Nat} {H : Heap} : aFieldAddr Tryz.prog 72 (.pointer (some ⟨b, off, none⟩)) 5 H = .ret (.pointer (some ⟨b, off + 5, none⟩)) H := fa_eq Tryz.underlying72 rfl i3 c3
@[simp] theorem fa72_6 {b off : Nat} {H : Heap} : aFieldAddr Tryz.prog 72 (.pointer (some ⟨b, off, none⟩)) 6 H = .ret (.pointer (some ⟨b, off + 6, none⟩)) H := fa_eq Tryz.underlying72 rfl i3 c3
@[simp] theorem fa72_7 {b off : Nat} {H : Heap} : aFieldAddr Tryz.prog 72 (.pointer (some ⟨b, off, none⟩)) 7 H = .ret (.pointer (some ⟨b, off + 7, none⟩)) H := fa_eq Tryz.underlying72 rfl i3 c3
@[simp] theorem fa72_8 {b off : Nat} {H : Heap} : aFieldAddr Tryz.prog 72 (.pointer (some ⟨b, off, none⟩)) 8 H = .ret (.pointer (some ⟨b, off + 8, none⟩)) H := fa_eq Tryz.underlying72 rfl i3 c3
@[simp] theorem bd72 {ps : List (Nat × Value)} {H : Heap} : aBuild Tryz.prog 72 ps H = buildS #[(0, 1), (1, 1), (2, 1), (3, 1), (4, 1), (5, 1), (6, 1), (7, 1), (8, 1)] (.agg #[(.int .i64 0), (.int .i64 0), (.int .i64 0), (.int .i64 0), (.int .i64 0), (.int .i64 0), (.int .i64 0), (.int .i64 0), (.int .i64 0)]) ps H := bd_eq z72 Tryz.underlying72 (by kernel_rfl) rfl
@[simp] theorem fa74_0 {b off : Nat} {H : Heap} : aFieldAddr Tryz.prog 74 (.pointer (some ⟨b, off, none⟩)) 0 H = .ret (.pointer (some ⟨b, off + 0, none⟩)) H := fa_eq Tryz.underlying74 rfl i25 c25
@[simp] theorem fa74_1 {b off : Nat} {H : Heap} : aFieldAddr Tryz.prog 74 (.pointer (some ⟨b, off, none⟩)) 1 H = .ret (.pointer (some ⟨b, off + 1, none⟩)) H := fa_eq Tryz.underlying74 rfl i3 c3
@[simp] theorem fa74_2 {b off : Nat} {H : Heap} : aFieldAddr Tryz.prog 74 (.pointer (some ⟨b, off, none⟩)) 2 H = .ret (.pointer (some ⟨b, off + 2, none⟩)) H := fa_eq Tryz.underlying74 rfl i65 c65
@[simp] theorem fa74_3 {b off : Nat} {H : Heap} : aFieldAddr Tryz.prog 74 (.pointer (some ⟨b, off, none⟩)) 3 H = .ret (.pointer (some ⟨b, off + 4, none⟩)) H := fa_eq Tryz.underlying74 rfl i9 c9
@[simp] theorem fa74_4 {b off : Nat} {H : Heap} : aFieldAddr Tryz.prog 74 (.pointer (some ⟨b, off, none⟩)) 4 H = .ret (.pointer (some ⟨b, off + 5, none⟩)) H := fa_eq Tryz.underlying74 rfl i4 c4
@[simp] theorem fa74_5 {b off : Nat} {H : Heap} : aFieldAddr Tryz.prog 74 (.pointer (some ⟨b, off, none⟩)) 5 H = .ret (.pointer (some ⟨b, off + 6, none⟩)) H := fa_eq Tryz.underlying74 rfl i67 c67
@[simp] theorem fa74_6 {b off : Nat} {H : Heap} : aFieldAddr Tryz.prog 74 (.pointer (some ⟨b, off, none⟩)) 6 H = .ret (.pointer (some ⟨b, off + 8, none⟩)) H := fa_eq Tryz.underlying74 rfl i68 c68
@[simp] theorem fa74_7 {b off : Nat} {H : Heap} : aFieldAddr Tryz.prog 74 (.pointer (some ⟨b, off, none⟩)) 7 H = .ret (.pointer (some ⟨b, off + 9, none⟩)) H := fa_eq Tryz.underlying74 rfl i69 c69
@[simp] theorem fa74_8 {b off : Nat} {H : Heap} : aFieldAddr Tryz.prog 74 (.pointer (some ⟨b, off, none⟩)) 8 H = .ret (.pointer (some ⟨b, off + 10, none⟩)) H := fa_eq Tryz.underlying74 rfl i70 c70
@[simp] theorem fa74_9 {b off : Nat} {H : Heap} : aFieldAddr Tryz.prog 74 (.pointer (some ⟨b, off, none⟩)) 9 H = .ret (.pointer (some ⟨b, off + 11, none⟩)) H := fa_eq Tryz.underlying74 rfl i72 c72
@[simp] theorem bd74 {ps : List (Nat × Value)} {H : Heap} : aBuild Tryz.prog 74 ps H = buildS #[(0, 1), (1, 1), (2, 2), (4, 1), (5, 1), (6, 2), (8, 1), (9, 1), (10, 1), (11, 9)] (.agg #[(.int .i64 0), (.int .i64 0), (.int .i64 0), (.int .i64 0), (.string .empty), (.bool false), (.int .i64 0), (.int .i64 0), (.slice none 0 0), (.slice none 0 0), (.slice none 0 0), (.int .i64 0), (.int .i64 0), (.int .i64 0), (.int .i64 0), (.int .i64 0), (.int .i64 0), (.int .i64 0), (.int .i64 0), (.int .i64 0)]) ps H := bd_eq z74 Tryz.underlying74 (by kernel_rfl) rfl
@[simp] theorem fa76_0 {b off : Nat} {H : Heap} : aFieldAddr Tryz.prog 76 (.pointer (some ⟨b, off, none⟩)) 0 H = .ret (.pointer (some ⟨b, off + 0, none⟩)) H := fa_eq Tryz.underlying76 rfl i25 c25
@[simp] theorem fa76_1 {b off : Nat} {H : Heap} : aFieldAddr Tryz.prog 76 (.pointer (some ⟨b, off, none⟩)) 1 H = .ret (.pointer (some ⟨b, off + 1, none⟩)) H := fa_eq Tryz.underlying76 rfl i74 c74
@[simp] theorem bd76 {ps : List (Nat × Value)} {H : Heap} : aBuild Tryz.prog 76 ps H = buildS #[(0, 1), (1, 20)] (.agg #[(.int .i64 0), (.int .i64 0), (.int .i64 0), (.int .i64 0), (.int .i64 0), (.string .empty), (.bool false), (.int .i64 0), (.int .i64 0), (.slice none 0 0), (.slice none 0 0), (.slice none 0 0), (.int .i64 0), (.int .i64 0), (.int .i64 0), (.int .i64 0), (.int .i64 0), (.int .i64 0), (.int .i64 0), (.int .i64 0), (.int .i64 0)]) ps H := bd_eq z76 Tryz.underlying76 (by kernel_rfl) rfl
@[simp] theorem fa124_0 {b off : Nat} {H : Heap} : aFieldAddr Tryz.prog 124 (.pointer (some ⟨b, off, none⟩)) 0 H = .ret (.pointer (some ⟨b, off + 0, none⟩)) H := fa_eq Tryz.underlying124 rfl i43 c43
@[simp] theorem fa124_1 {b off : Nat} {H : Heap} : aFieldAddr Tryz.prog 124 (.pointer (some ⟨b, off, none⟩)) 1 H = .ret (.pointer (some ⟨b, off + 1, none⟩)) H := fa_eq Tryz.underlying124 rfl i3 c3
@[simp] theorem fa124_2 {b off : Nat} {H : Heap} : aFieldAddr Tryz.prog 124 (.pointer (some ⟨b, off, none⟩)) 2 H = .ret (.pointer (some ⟨b, off + 2, none⟩)) H := fa_eq Tryz.underlying124 rfl i5 c5
@[simp] theorem bd124 {ps : List (Nat × Value)} {H : Heap} : aBuild Tryz.prog 124 ps H = buildS #[(0, 1), (1, 1), (2, 1)] (.agg #[(.int .u32 0), (.int .i64 0), (.int .u8 0)]) ps H := bd_eq z124 Tryz.underlying124 (by kernel_rfl) rfl
@[simp] theorem fa126_0 {b off : Nat} {H : Heap} : aFieldAddr Tryz.prog 126 (.pointer (some ⟨b, off, none⟩)) 0 H = .ret (.pointer (some ⟨b, off + 0, none⟩)) H := fa_eq Tryz.underlying126 rfl i43 c43
@[simp] theorem fa126_1 {b off : Nat} {H : Heap} : aFieldAddr Tryz.prog 126 (.pointer (some ⟨b, off, none⟩)) 1 H = .ret (.pointer (some ⟨b, off + 1, none⟩)) H := fa_eq Tryz.underlying126 rfl i3 c3
@[simp] theorem fa126_2 {b off : Nat} {H : Heap} : aFieldAddr Tryz.prog 126 (.pointer (some ⟨b, off, none⟩)) 2 H = .ret (.pointer (some ⟨b, off + 2, none⟩)) H := fa_eq Tryz.underlying126 rfl i3 c3
@[simp] theorem fa126_3 {b off : Nat} {H : Heap} : aFieldAddr Tryz.prog 126 (.pointer (some ⟨b, off, none⟩)) 3 H = .ret (.pointer (some ⟨b, off + 3, none⟩)) H := fa_eq Tryz.underlying126 rfl i3 c3
@[simp] theorem bd126 {ps : List (Nat × Value)} {H : Heap} : aBuild Tryz.prog 126 ps H = buildS #[(0, 1), (1, 1), (2, 1), (3, 1)] (.agg #[(.int .u32 0), (.int .i64 0), (.int .i64 0), (.int .i64 0)]) ps H := bd_eq z126 Tryz.underlying126 (by kernel_rfl) rfl
end Go.Wel
