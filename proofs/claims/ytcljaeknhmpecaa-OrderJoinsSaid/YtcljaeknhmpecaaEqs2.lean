import Derived.Test.YtcljaeknhmpecaaCfg
import Derived.Test.YtcljaeknhmpecaaApexA44
import Derived.KernelRfl
set_option linter.all false
set_option linter.unusedVariables false
set_option linter.unusedSimpArgs false
set_option linter.unusedSectionVars false
set_option linter.deprecated false
/- Equations of functions, printed by program. Each is checked by the kernel. -/
namespace Go.Proofs.Try
open Go Go.Apex
set_option maxRecDepth 100000
theorem fn106 (a0 : Int) (c0 : T) (c1 : T) (r : T) (h : (
 ((derefT none c0)).bind fun x1 =>
 ((T.int? IntKind.i64 x1)).bind fun x2 =>
 bif (bNot (iEq x2 a0)) then
  ((derefT none c1)).bind fun x3 =>
  ((derefT none c0)).bind fun x4 =>
  ((T.int? IntKind.i64 x4)).bind fun x5 =>
  ((fnO acfg 70 [x3, (T.int IntKind.i64 x5), (T.int IntKind.i64 a0)])).bind fun x6 =>
  bif (T.scalar x6) then
  ((T.bool? x6)).bind fun x7 =>
  some (T.bool x7)
  else none
 else
  some (T.bool false)) = some r) : fnO acfg 106 [(T.int IntKind.i64 a0), c0, c1] = some r :=
 fn_of (n := 3000) (by kernel_rfl) h
theorem fn105 (a0 : T) (a1 : T) (r : T) (h : (
 ((fnO acfg 103 [a0, a1])).bind fun x1 =>
 bif (T.scalar x1) then
 ((T.int? IntKind.i64 x1)).bind fun x2 =>
 some (T.bool (iLe 0 x2))
 else none) = some r) : fnO acfg 105 [a0, a1] = some r :=
 fn_of (n := 3000) (by kernel_rfl) h
theorem fn104 (a0 : Int) (c0 : T) (c1 : T) (r : T) (h : (
 ((derefT none c0)).bind fun x1 =>
 ((fnO acfg 105 [x1, (T.fn (Fn.func 106) [] [(T.ptr (T.int IntKind.i64 a0)), c1])])).bind fun x2 =>
 bif (T.scalar x2) then
 ((T.bool? x2)).bind fun x3 =>
 some (T.bool x3)
 else none) = some r) : fnO acfg 104 [(T.int IntKind.i64 a0), c0, c1] = some r :=
 fn_of (n := 3000) (by kernel_rfl) h
noncomputable def L75_1k (v0 : Int) (v1 : List UInt8) (v2 : T) (v3 : T) (v4 : T) (v5 : Int) (v6 : Int) : List Kt := [.loop 75 none (codeOf acfg 75 [1, 1, 0, 1, 0, 0]), .block 0, .code 75 none (codeOf acfg 75 [1, 1, 1])]
noncomputable def L75_1s (v0 : Int) (v1 : List UInt8) (v2 : T) (v3 : T) (v4 : T) (v5 : Int) (v6 : Int) : St := ⟨(mkTs 25 [(1, (V.t (T.int IntKind.i64 v0))), (2, (V.t (T.ptr (T.agg [(T.str v1), v2, v3, v4])))), (5, (V.t (T.int IntKind.i64 v5))), (6, (V.t (T.int IntKind.i64 v6)))]), ⟨4, mkTr []⟩, []⟩
noncomputable def L75_1 (v0 : Int) (v1 : List UInt8) (v2 : T) (v3 : T) (v4 : T) (v5 : Int) (v6 : Int) : Option T := runO acfg (pureFin acfg 75) (L75_1k v0 v1 v2 v3 v4 v5 v6) (L75_1s v0 v1 v2 v3 v4 v5 v6)
theorem L75_1_step (v0 : Int) (v1 : List UInt8) (v2 : T) (v3 : T) (v4 : T) (v5 : Int) (v6 : Int) (r : T) (h : (
 ((fldT 1 none (T.ptr (T.agg [(T.str v1), v2, v3, v4])))).bind fun x1 =>
 ((derefT none x1)).bind fun x2 =>
 ((lenT x2)).bind fun x3 =>
 bif (iLt v6 x3) then
  ((derefT (some 4) (T.ptr (T.agg [(T.str v1), v2, v3, v4])))).bind fun x4 =>
  ((T.agg? (List.length [D.str, (D.slice 9), (D.slice 38), (D.slice 4)]) x4)).bind fun x5 =>
  ((T.str? (nthT x5 0))).bind fun x6 =>
  ((fnO acfg 85 [(T.agg [(T.str x6), (nthT x5 1), (nthT x5 2), (nthT x5 3)]), (T.int IntKind.i64 v0), (T.int IntKind.i64 v6)])).bind fun x7 =>
  bif (T.scalar x7) then
  ((T.bool? x7)).bind fun x8 =>
  bif x8 then
   ((derefT (some 4) (T.ptr (T.agg [(T.str v1), v2, v3, v4])))).bind fun x9 =>
   ((T.agg? (List.length [D.str, (D.slice 9), (D.slice 38), (D.slice 4)]) x9)).bind fun x10 =>
   ((T.str? (nthT x10 0))).bind fun x11 =>
   ((fnO acfg 75 [(T.agg [(T.str x11), (nthT x10 1), (nthT x10 2), (nthT x10 3)]), (T.int IntKind.i64 v6)])).bind fun x12 =>
   bif (T.scalar x12) then
   ((T.int? IntKind.i64 x12)).bind fun x13 =>
   L75_1 v0 v1 v2 v3 v4 (iMax v5 (iAdd IntKind.i64 1 x13)) (iAdd IntKind.i64 v6 1)
   else none
  else
   L75_1 v0 v1 v2 v3 v4 v5 (iAdd IntKind.i64 v6 1)
  else none
 else
  some (T.int IntKind.i64 v5)) = some r) : L75_1 v0 v1 v2 v3 v4 v5 v6 = some r :=
 round_of (n := 3000) (rows := []) (by kernel_rfl) h
theorem fn75 (a0_0 : List UInt8) (a0_1 : T) (a0_2 : T) (a0_3 : T) (a1 : Int) (r : T) (h : (
 bif (vfits (V.t (T.agg [(T.str a0_0), a0_1, a0_2, a0_3])) (some 4)) then
 L75_1 a1 a0_0 a0_1 a0_2 a0_3 0 0
 else none) = some r) : fnO acfg 75 [(T.agg [(T.str a0_0), a0_1, a0_2, a0_3]), (T.int IntKind.i64 a1)] = some r :=
 fn_of (n := 3000) (by kernel_rfl) h
noncomputable def L74_1k (v0 : Int) (v1 : T) (v2 : T) (v3 : Int) : List Kt := [.loop 74 none (codeOf acfg 74 [1, 1, 1, 0, 1, 0, 0]), .block 0, .code 74 none (codeOf acfg 74 [1, 1, 1, 1])]
noncomputable def L74_1s (v0 : Int) (v1 : T) (v2 : T) (v3 : Int) : St := ⟨(mkTs 81 [(1, (V.t (T.int IntKind.i64 v0))), (5, (V.t T.nils)), (6, (V.t v1)), (7, (V.t v2)), (8, (V.t (T.int IntKind.i64 v3)))]), ⟨10, mkTr []⟩, []⟩
noncomputable def L74_1 (v0 : Int) (v1 : T) (v2 : T) (v3 : Int) : Option T := runO acfg (pureFin acfg 74) (L74_1k v0 v1 v2 v3) (L74_1s v0 v1 v2 v3)
noncomputable def L74_2k (v0 : Int) (v1 : T) (v2 : T) (v3 : Int) (v4 : Bool) (v5 : Int) : List Kt := [.loop 74 none (codeOf acfg 74 [1, 1, 1, 0, 1, 0, 0, 1, 0, 0, 1, 0, 1, 0, 0]), .block 2, .code 74 none (codeOf acfg 74 [1, 1, 1, 0, 1, 0, 0, 1, 0, 0, 1, 1]), .block 1, .code 74 none (codeOf acfg 74 [1, 1, 1, 0, 1, 0, 0, 1, 1]), .round 74 none (codeOf acfg 74 [1, 1, 1, 0, 1, 0, 0]) 10, .block 0, .code 74 none (codeOf acfg 74 [1, 1, 1, 1])]
noncomputable def L74_2s (v0 : Int) (v1 : T) (v2 : T) (v3 : Int) (v4 : Bool) (v5 : Int) : St := ⟨(mkTs 81 [(1, (V.t (T.int IntKind.i64 v0))), (5, (V.t T.nils)), (6, (V.t v1)), (7, (V.t v2)), (8, (V.t (T.int IntKind.i64 v3))), (9, (V.t (T.bool v4))), (10, (V.t (T.int IntKind.i64 v5)))]), ⟨26, mkTr []⟩, []⟩
noncomputable def L74_2 (v0 : Int) (v1 : T) (v2 : T) (v3 : Int) (v4 : Bool) (v5 : Int) : Option T := runO acfg (pureFin acfg 74) (L74_2k v0 v1 v2 v3 v4 v5) (L74_2s v0 v1 v2 v3 v4 v5)
noncomputable def L74_3k (v0 : Int) (v1 : Nat) (v2 : Nat) (v3 : Nat) (v4 : T) (v5 : T) (v6 : Int) (v7 : Nat) (v8 : List V) : List Kt := [.loop 74 none (codeOf acfg 74 [1, 1, 1, 0, 1, 0, 0]), .block 0, .code 74 none (codeOf acfg 74 [1, 1, 1, 1])]
noncomputable def L74_3s (v0 : Int) (v1 : Nat) (v2 : Nat) (v3 : Nat) (v4 : T) (v5 : T) (v6 : Int) (v7 : Nat) (v8 : List V) : St := ⟨(mkTs 81 [(1, (V.t (T.int IntKind.i64 v0))), (5, (V.msl 37 v1 v2 v3 none)), (6, (V.t v4)), (7, (V.t v5)), (8, (V.t (T.int IntKind.i64 v6)))]), ⟨38, mkTr [(37, (Go.Apex.Obj.cells v7 3 false v8))]⟩, []⟩
noncomputable def L74_3 (v0 : Int) (v1 : Nat) (v2 : Nat) (v3 : Nat) (v4 : T) (v5 : T) (v6 : Int) (v7 : Nat) (v8 : List V) : Option T := runO acfg (pureFin acfg 74) (L74_3k v0 v1 v2 v3 v4 v5 v6 v7 v8) (L74_3s v0 v1 v2 v3 v4 v5 v6 v7 v8)
noncomputable def L74_4k (v0 : Int) (v1 : Nat) (v2 : Nat) (v3 : Nat) (v4 : T) (v5 : T) (v6 : Int) (v7 : Bool) (v8 : Int) (v9 : Nat) (v10 : List V) : List Kt := [.loop 74 none (codeOf acfg 74 [1, 1, 1, 0, 1, 0, 0, 1, 0, 0, 1, 0, 1, 0, 0]), .block 2, .code 74 none (codeOf acfg 74 [1, 1, 1, 0, 1, 0, 0, 1, 0, 0, 1, 1]), .block 1, .code 74 none (codeOf acfg 74 [1, 1, 1, 0, 1, 0, 0, 1, 1]), .round 74 none (codeOf acfg 74 [1, 1, 1, 0, 1, 0, 0]) 38, .block 0, .code 74 none (codeOf acfg 74 [1, 1, 1, 1])]
noncomputable def L74_4s (v0 : Int) (v1 : Nat) (v2 : Nat) (v3 : Nat) (v4 : T) (v5 : T) (v6 : Int) (v7 : Bool) (v8 : Int) (v9 : Nat) (v10 : List V) : St := ⟨(mkTs 81 [(1, (V.t (T.int IntKind.i64 v0))), (5, (V.msl 37 v1 v2 v3 none)), (6, (V.t v4)), (7, (V.t v5)), (8, (V.t (T.int IntKind.i64 v6))), (9, (V.t (T.bool v7))), (10, (V.t (T.int IntKind.i64 v8)))]), ⟨54, mkTr [(37, (Go.Apex.Obj.cells v9 3 false v10))]⟩, []⟩
noncomputable def L74_4 (v0 : Int) (v1 : Nat) (v2 : Nat) (v3 : Nat) (v4 : T) (v5 : T) (v6 : Int) (v7 : Bool) (v8 : Int) (v9 : Nat) (v10 : List V) : Option T := runO acfg (pureFin acfg 74) (L74_4k v0 v1 v2 v3 v4 v5 v6 v7 v8 v9 v10) (L74_4s v0 v1 v2 v3 v4 v5 v6 v7 v8 v9 v10)
theorem L74_1_step (v0 : Int) (v1 : T) (v2 : T) (v3 : Int) (r : T) (h : (
 ((lenT v1)).bind fun x1 =>
 bif (iLt v3 x1) then
  ((idxT 1 v1 v3)).bind fun x2 =>
  ((derefT none x2)).bind fun x3 =>
  ((T.int? IntKind.i64 x3)).bind fun x4 =>
  ((idxT 1 v2 x4)).bind fun x5 =>
  ((derefT none x5)).bind fun x6 =>
  ((idxT 1 x6 v0)).bind fun x7 =>
  ((derefT none x7)).bind fun x8 =>
  ((T.bool? x8)).bind fun x9 =>
  L74_2 v0 v1 v2 v3 x9 0
 else
  some T.nils) = some r) : L74_1 v0 v1 v2 v3 = some r :=
 round_of (n := 3000) (rows := []) (by kernel_rfl) h
theorem L74_2_step (v0 : Int) (v1 : T) (v2 : T) (v3 : Int) (v4 : Bool) (v5 : Int) (r : T) (h : (
 ((lenT v1)).bind fun x1 =>
 bif (iLt v5 x1) then
  bif v4 then
   bif (iEq v5 v3) then
    L74_2 v0 v1 v2 v3 true (iAdd IntKind.i64 v5 1)
   else
    ((idxT 1 v1 v5)).bind fun x2 =>
    ((derefT none x2)).bind fun x3 =>
    ((T.int? IntKind.i64 x3)).bind fun x4 =>
    ((idxT 1 v2 x4)).bind fun x5 =>
    ((derefT none x5)).bind fun x6 =>
    ((idxT 1 x6 v0)).bind fun x7 =>
    ((derefT none x7)).bind fun x8 =>
    ((T.bool? x8)).bind fun x9 =>
    bif (bNot x9) then
     L74_2 v0 v1 v2 v3 true (iAdd IntKind.i64 v5 1)
    else
     ((idxT 1 v1 v3)).bind fun x10 =>
     ((derefT none x10)).bind fun x11 =>
     ((T.int? IntKind.i64 x11)).bind fun x12 =>
     ((idxT 1 v2 x12)).bind fun x13 =>
     ((derefT none x13)).bind fun x14 =>
     ((idxT 1 v1 v5)).bind fun x15 =>
     ((derefT none x15)).bind fun x16 =>
     ((T.int? IntKind.i64 x16)).bind fun x17 =>
     ((idxT 1 x14 x17)).bind fun x18 =>
     ((derefT none x18)).bind fun x19 =>
     ((T.bool? x19)).bind fun x20 =>
     L74_2 v0 v1 v2 v3 (bNot x20) (iAdd IntKind.i64 v5 1)
  else
   L74_2 v0 v1 v2 v3 false (iAdd IntKind.i64 v5 1)
 else
  bif v4 then
   ((idxT 1 v1 v3)).bind fun x21 =>
   ((derefT none x21)).bind fun x22 =>
   ((T.int? IntKind.i64 x22)).bind fun x23 =>
   ((baseT none 1 T.nils)).bind fun x24 =>
   bif (newOK (List.length x24) (List.length [(V.t (T.int IntKind.i64 x23))]) 8) then
   bif (objBd 38 (Go.Apex.Obj.cells 1 3 false (rowNew x24 [(V.t (T.int IntKind.i64 x23))]))) then
   L74_3 v0 1 0 (lenNew x24 [(V.t (T.int IntKind.i64 x23))]) v1 v2 (iAdd IntKind.i64 v3 1) 1 (rowNew x24 [(V.t (T.int IntKind.i64 x23))])
   else none
   else none
  else
   L74_1 v0 v1 v2 (iAdd IntKind.i64 v3 1)) = some r) : L74_2 v0 v1 v2 v3 v4 v5 = some r :=
 round_of (n := 3000) (rows := []) (by kernel_rfl) h
theorem L74_3_step (v0 : Int) (v1 : Nat) (v2 : Nat) (v3 : Nat) (v4 : T) (v5 : T) (v6 : Int) (v7 : Nat) (v8 : List V) (r : T) (h : (
 ((lenT v4)).bind fun x1 =>
 bif (iLt v6 x1) then
  ((idxT 1 v4 v6)).bind fun x2 =>
  ((derefT none x2)).bind fun x3 =>
  ((T.int? IntKind.i64 x3)).bind fun x4 =>
  ((idxT 1 v5 x4)).bind fun x5 =>
  ((derefT none x5)).bind fun x6 =>
  ((idxT 1 x6 v0)).bind fun x7 =>
  ((derefT none x7)).bind fun x8 =>
  ((T.bool? x8)).bind fun x9 =>
  bif (objBd 54 (Go.Apex.Obj.cells v7 3 false v8)) then
  L74_4 v0 v1 v2 v3 v4 v5 v6 x9 0 v7 v8
  else none
 else
  bif (natEq v7 v1) then
  ((rowT none v8 v2 v3)).bind fun x10 =>
  some (T.sl false 1 x10)
  else none) = some r) : L74_3 v0 v1 v2 v3 v4 v5 v6 v7 v8 = some r :=
 round_of (n := 3000) (rows := [37]) (by kernel_rfl) h
theorem L74_4_step (v0 : Int) (v1 : Nat) (v2 : Nat) (v3 : Nat) (v4 : T) (v5 : T) (v6 : Int) (v7 : Bool) (v8 : Int) (v9 : Nat) (v10 : List V) (r : T) (h : (
 ((lenT v4)).bind fun x1 =>
 bif (iLt v8 x1) then
  bif v7 then
   bif (iEq v8 v6) then
    bif (objBd 54 (Go.Apex.Obj.cells v9 3 false v10)) then
    L74_4 v0 v1 v2 v3 v4 v5 v6 true (iAdd IntKind.i64 v8 1) v9 v10
    else none
   else
    ((idxT 1 v4 v8)).bind fun x2 =>
    ((derefT none x2)).bind fun x3 =>
    ((T.int? IntKind.i64 x3)).bind fun x4 =>
    ((idxT 1 v5 x4)).bind fun x5 =>
    ((derefT none x5)).bind fun x6 =>
    ((idxT 1 x6 v0)).bind fun x7 =>
    ((derefT none x7)).bind fun x8 =>
    ((T.bool? x8)).bind fun x9 =>
    bif (bNot x9) then
     bif (objBd 54 (Go.Apex.Obj.cells v9 3 false v10)) then
     L74_4 v0 v1 v2 v3 v4 v5 v6 true (iAdd IntKind.i64 v8 1) v9 v10
     else none
    else
     ((idxT 1 v4 v6)).bind fun x10 =>
     ((derefT none x10)).bind fun x11 =>
     ((T.int? IntKind.i64 x11)).bind fun x12 =>
     ((idxT 1 v5 x12)).bind fun x13 =>
     ((derefT none x13)).bind fun x14 =>
     ((idxT 1 v4 v8)).bind fun x15 =>
     ((derefT none x15)).bind fun x16 =>
     ((T.int? IntKind.i64 x16)).bind fun x17 =>
     ((idxT 1 x14 x17)).bind fun x18 =>
     ((derefT none x18)).bind fun x19 =>
     ((T.bool? x19)).bind fun x20 =>
     bif (objBd 54 (Go.Apex.Obj.cells v9 3 false v10)) then
     L74_4 v0 v1 v2 v3 v4 v5 v6 (bNot x20) (iAdd IntKind.i64 v8 1) v9 v10
     else none
  else
   bif (objBd 54 (Go.Apex.Obj.cells v9 3 false v10)) then
   L74_4 v0 v1 v2 v3 v4 v5 v6 false (iAdd IntKind.i64 v8 1) v9 v10
   else none
 else
  bif v7 then
   ((idxT 1 v4 v6)).bind fun x21 =>
   ((derefT none x21)).bind fun x22 =>
   ((T.int? IntKind.i64 x22)).bind fun x23 =>
   bif (natEq v9 v1) then
   bif (appOK v10 v2 v3 1 [(V.t (T.int IntKind.i64 x23))] 8) then
   bif (objBd 38 (Go.Apex.Obj.cells (appGen v9 [(V.t (T.int IntKind.i64 x23))]) 3 false (appCs v10 v2 [(V.t (T.int IntKind.i64 x23))]))) then
   L74_3 v0 (appGen v9 [(V.t (T.int IntKind.i64 x23))]) 0 (appLen v3 [(V.t (T.int IntKind.i64 x23))]) v4 v5 (iAdd IntKind.i64 v6 1) (appGen v9 [(V.t (T.int IntKind.i64 x23))]) (appCs v10 v2 [(V.t (T.int IntKind.i64 x23))])
   else none
   else none
   else none
  else
   bif (objBd 38 (Go.Apex.Obj.cells v9 3 false v10)) then
   L74_3 v0 v1 v2 v3 v4 v5 (iAdd IntKind.i64 v6 1) v9 v10
   else none) = some r) : L74_4 v0 v1 v2 v3 v4 v5 v6 v7 v8 v9 v10 = some r :=
 round_of (n := 3000) (rows := [37]) (by kernel_rfl) h
theorem fn74 (a0_0 : List UInt8) (a0_1 : T) (a0_2 : T) (a0_3 : T) (a1 : Int) (r : T) (h : (
 bif (vfits (V.t (T.agg [(T.str a0_0), a0_1, a0_2, a0_3])) (some 4)) then
 ((derefT (some 4) (T.ptr (T.agg [(T.str a0_0), a0_1, a0_2, a0_3])))).bind fun x1 =>
 ((T.agg? (List.length [D.str, (D.slice 9), (D.slice 38), (D.slice 4)]) x1)).bind fun x2 =>
 ((T.str? (nthT x2 0))).bind fun x3 =>
 ((fnO acfg 73 [(T.agg [(T.str x3), (nthT x2 1), (nthT x2 2), (nthT x2 3)])])).bind fun x4 =>
 ((derefT (some 4) (T.ptr (T.agg [(T.str a0_0), a0_1, a0_2, a0_3])))).bind fun x5 =>
 ((T.agg? (List.length [D.str, (D.slice 9), (D.slice 38), (D.slice 4)]) x5)).bind fun x6 =>
 ((T.str? (nthT x6 0))).bind fun x7 =>
 ((fnO acfg 97 [(T.agg [(T.str x7), (nthT x6 1), (nthT x6 2), (nthT x6 3)])])).bind fun x8 =>
 L74_1 a1 x4 x8 0
 else none) = some r) : fnO acfg 74 [(T.agg [(T.str a0_0), a0_1, a0_2, a0_3]), (T.int IntKind.i64 a1)] = some r :=
 fn_of (n := 3000) (by kernel_rfl) h
noncomputable def L73_1k (v0 : T) (v1 : Nat) (v2 : Nat) (v3 : Nat) (v4 : Int) (v5 : Nat) (v6 : List V) : List Kt := [.loop 73 none (codeOf acfg 73 [1, 1, 1, 1, 0, 1, 0, 0]), .block 0, .code 73 none (codeOf acfg 73 [1, 1, 1, 1, 1])]
noncomputable def L73_1s (v0 : T) (v1 : Nat) (v2 : Nat) (v3 : Nat) (v4 : Int) (v5 : Nat) (v6 : List V) : St := ⟨(mkTs 69 [(3, (V.t T.nils)), (4, (V.t v0)), (5, (V.msl 8 v1 v2 v3 none)), (6, (V.t (T.int IntKind.i64 v4)))]), ⟨11, mkTr [(8, (Go.Apex.Obj.cells v5 4 false v6))]⟩, []⟩
noncomputable def L73_1 (v0 : T) (v1 : Nat) (v2 : Nat) (v3 : Nat) (v4 : Int) (v5 : Nat) (v6 : List V) : Option T := runO acfg (pureFin acfg 73) (L73_1k v0 v1 v2 v3 v4 v5 v6) (L73_1s v0 v1 v2 v3 v4 v5 v6)
noncomputable def L73_2k (v0 : T) (v1 : Nat) (v2 : Nat) (v3 : Nat) (v4 : Int) (v5 : Nat) (v6 : List V) : List Kt := [.loop 73 none (codeOf acfg 73 [1, 1, 1, 1, 1, 0, 1, 0, 0]), .block 2, .code 73 none (codeOf acfg 73 [1, 1, 1, 1, 1, 1])]
noncomputable def L73_2s (v0 : T) (v1 : Nat) (v2 : Nat) (v3 : Nat) (v4 : Int) (v5 : Nat) (v6 : List V) : St := ⟨(mkTs 69 [(3, (V.t T.nils)), (4, (V.t v0)), (5, (V.msl 8 v1 v2 v3 none)), (7, (V.t (T.int IntKind.i64 v4)))]), ⟨16, mkTr [(8, (Go.Apex.Obj.cells v5 4 false v6))]⟩, []⟩
noncomputable def L73_2 (v0 : T) (v1 : Nat) (v2 : Nat) (v3 : Nat) (v4 : Int) (v5 : Nat) (v6 : List V) : Option T := runO acfg (pureFin acfg 73) (L73_2k v0 v1 v2 v3 v4 v5 v6) (L73_2s v0 v1 v2 v3 v4 v5 v6)
noncomputable def L73_3k (v0 : T) (v1 : Nat) (v2 : Nat) (v3 : Nat) (v4 : Int) (v5 : Int) (v6 : Nat) (v7 : List V) : List Kt := [.loop 73 none (codeOf acfg 73 [1, 1, 1, 1, 1, 0, 1, 0, 0, 1, 0, 0, 1, 0, 0]), .block 4, .block 3, .code 73 none (codeOf acfg 73 [1, 1, 1, 1, 1, 0, 1, 0, 0, 1, 1]), .round 73 none (codeOf acfg 73 [1, 1, 1, 1, 1, 0, 1, 0, 0]) 16, .block 2, .code 73 none (codeOf acfg 73 [1, 1, 1, 1, 1, 1])]
noncomputable def L73_3s (v0 : T) (v1 : Nat) (v2 : Nat) (v3 : Nat) (v4 : Int) (v5 : Int) (v6 : Nat) (v7 : List V) : St := ⟨(mkTs 69 [(3, (V.t T.nils)), (4, (V.t v0)), (5, (V.msl 8 v1 v2 v3 none)), (7, (V.t (T.int IntKind.i64 v4))), (8, (V.t (T.int IntKind.i64 v5)))]), ⟨21, mkTr [(8, (Go.Apex.Obj.cells v6 4 false v7))]⟩, []⟩
noncomputable def L73_3 (v0 : T) (v1 : Nat) (v2 : Nat) (v3 : Nat) (v4 : Int) (v5 : Int) (v6 : Nat) (v7 : List V) : Option T := runO acfg (pureFin acfg 73) (L73_3k v0 v1 v2 v3 v4 v5 v6 v7) (L73_3s v0 v1 v2 v3 v4 v5 v6 v7)
noncomputable def L73_4k (v0 : T) (v1 : Nat) (v2 : Nat) (v3 : Nat) (v4 : Int) (v5 : Nat) (v6 : List V) : List Kt := [.loop 73 none (codeOf acfg 73 [1, 1, 1, 1, 1, 1, 0, 1, 0, 0]), .block 6, .code 73 none (codeOf acfg 73 [1, 1, 1, 1, 1, 1, 1])]
noncomputable def L73_4s (v0 : T) (v1 : Nat) (v2 : Nat) (v3 : Nat) (v4 : Int) (v5 : Nat) (v6 : List V) : St := ⟨(mkTs 69 [(3, (V.t T.nils)), (4, (V.t v0)), (5, (V.msl 8 v1 v2 v3 none)), (10, (V.t (T.int IntKind.i64 v4)))]), ⟨21, mkTr [(8, (Go.Apex.Obj.cells v5 4 false v6))]⟩, []⟩
noncomputable def L73_4 (v0 : T) (v1 : Nat) (v2 : Nat) (v3 : Nat) (v4 : Int) (v5 : Nat) (v6 : List V) : Option T := runO acfg (pureFin acfg 73) (L73_4k v0 v1 v2 v3 v4 v5 v6) (L73_4s v0 v1 v2 v3 v4 v5 v6)
noncomputable def L73_5k (v0 : Nat) (v1 : Nat) (v2 : Nat) (v3 : T) (v4 : Nat) (v5 : Nat) (v6 : Nat) (v7 : Int) (v8 : Nat) (v9 : List V) (v10 : Nat) (v11 : List V) : List Kt := [.loop 73 none (codeOf acfg 73 [1, 1, 1, 1, 1, 1, 0, 1, 0, 0]), .block 6, .code 73 none (codeOf acfg 73 [1, 1, 1, 1, 1, 1, 1])]
noncomputable def L73_5s (v0 : Nat) (v1 : Nat) (v2 : Nat) (v3 : T) (v4 : Nat) (v5 : Nat) (v6 : Nat) (v7 : Int) (v8 : Nat) (v9 : List V) (v10 : Nat) (v11 : List V) : St := ⟨(mkTs 69 [(3, (V.msl 32 v0 v1 v2 none)), (4, (V.t v3)), (5, (V.msl 8 v4 v5 v6 none)), (10, (V.t (T.int IntKind.i64 v7)))]), ⟨33, mkTr [(8, (Go.Apex.Obj.cells v8 4 false v9)), (32, (Go.Apex.Obj.cells v10 3 false v11))]⟩, []⟩
noncomputable def L73_5 (v0 : Nat) (v1 : Nat) (v2 : Nat) (v3 : T) (v4 : Nat) (v5 : Nat) (v6 : Nat) (v7 : Int) (v8 : Nat) (v9 : List V) (v10 : Nat) (v11 : List V) : Option T := runO acfg (pureFin acfg 73) (L73_5k v0 v1 v2 v3 v4 v5 v6 v7 v8 v9 v10 v11) (L73_5s v0 v1 v2 v3 v4 v5 v6 v7 v8 v9 v10 v11)
theorem L73_1_step (v0 : T) (v1 : Nat) (v2 : Nat) (v3 : Nat) (v4 : Int) (v5 : Nat) (v6 : List V) (r : T) (h : (
 ((lenT v0)).bind fun x1 =>
 bif (iLt v4 x1) then
  bif (rowIn v4 v3) then
  bif (natEq v5 v1) then
  bif (rowSetOK v6 (rowOff v2 v4 1) (List.length [(V.t (T.bool true))])) then
  bif (objBd 11 (Go.Apex.Obj.cells v5 4 false (rowSet v6 (rowOff v2 v4 1) [(V.t (T.bool true))]))) then
  L73_1 v0 v1 v2 v3 (iAdd IntKind.i64 v4 1) v5 (rowSet v6 (rowOff v2 v4 1) [(V.t (T.bool true))])
  else none
  else none
  else none
  else none
 else
  bif (objBd 16 (Go.Apex.Obj.cells v5 4 false v6)) then
  L73_2 v0 v1 v2 v3 0 v5 v6
  else none) = some r) : L73_1 v0 v1 v2 v3 v4 v5 v6 = some r :=
 round_of (n := 3000) (rows := [8]) (by kernel_rfl) h
theorem L73_2_step (v0 : T) (v1 : Nat) (v2 : Nat) (v3 : Nat) (v4 : Int) (v5 : Nat) (v6 : List V) (r : T) (h : (
 ((lenT v0)).bind fun x1 =>
 bif (iLt v4 x1) then
  bif (objBd 21 (Go.Apex.Obj.cells v5 4 false v6)) then
  L73_3 v0 v1 v2 v3 v4 0 v5 v6
  else none
 else
  bif (objBd 21 (Go.Apex.Obj.cells v5 4 false v6)) then
  L73_4 v0 v1 v2 v3 0 v5 v6
  else none) = some r) : L73_2 v0 v1 v2 v3 v4 v5 v6 = some r :=
 round_of (n := 3000) (rows := [8]) (by kernel_rfl) h
theorem L73_3_step (v0 : T) (v1 : Nat) (v2 : Nat) (v3 : Nat) (v4 : Int) (v5 : Int) (v6 : Nat) (v7 : List V) (r : T) (h : (
 ((lenT v0)).bind fun x1 =>
 bif (iLt v5 x1) then
  ((fnO acfg 98 [v0, (T.int IntKind.i64 v4), (T.int IntKind.i64 v5)])).bind fun x2 =>
  ((fnO acfg 99 [v0, x2])).bind fun x3 =>
  bif (T.scalar x3) then
  ((T.int? IntKind.i64 x3)).bind fun x4 =>
  bif (bNot (iEq x4 v4)) then
   bif (bNot (iEq x4 v5)) then
    bif (rowIn x4 v3) then
    bif (natEq v6 v1) then
    bif (rowSetOK v7 (rowOff v2 x4 1) (List.length [(V.t (T.bool false))])) then
    bif (objBd 21 (Go.Apex.Obj.cells v6 4 false (rowSet v7 (rowOff v2 x4 1) [(V.t (T.bool false))]))) then
    L73_3 v0 v1 v2 v3 v4 (iAdd IntKind.i64 v5 1) v6 (rowSet v7 (rowOff v2 x4 1) [(V.t (T.bool false))])
    else none
    else none
    else none
    else none
   else
    bif (objBd 21 (Go.Apex.Obj.cells v6 4 false v7)) then
    L73_3 v0 v1 v2 v3 v4 (iAdd IntKind.i64 v5 1) v6 v7
    else none
  else
   bif (objBd 21 (Go.Apex.Obj.cells v6 4 false v7)) then
   L73_3 v0 v1 v2 v3 v4 (iAdd IntKind.i64 v5 1) v6 v7
   else none
  else none
 else
  bif (objBd 16 (Go.Apex.Obj.cells v6 4 false v7)) then
  L73_2 v0 v1 v2 v3 (iAdd IntKind.i64 v4 1) v6 v7
  else none) = some r) : L73_3 v0 v1 v2 v3 v4 v5 v6 v7 = some r :=
 round_of (n := 3000) (rows := [8]) (by kernel_rfl) h
theorem L73_4_step (v0 : T) (v1 : Nat) (v2 : Nat) (v3 : Nat) (v4 : Int) (v5 : Nat) (v6 : List V) (r : T) (h : (
 ((lenT v0)).bind fun x1 =>
 bif (iLt v4 x1) then
  bif (rowIn v4 v3) then
  bif (natEq v5 v1) then
  ((rowS none v6 (rowOff v2 v4 1))).bind fun x2 =>
  ((T.bool? x2)).bind fun x3 =>
  bif x3 then
   ((baseT none 1 T.nils)).bind fun x4 =>
   bif (newOK (List.length x4) (List.length [(V.t (T.int IntKind.i64 v4))]) 8) then
   bif (objBd 33 (Go.Apex.Obj.cells v5 4 false v6)) then
   bif (objBd 33 (Go.Apex.Obj.cells 1 3 false (rowNew x4 [(V.t (T.int IntKind.i64 v4))]))) then
   L73_5 1 0 (lenNew x4 [(V.t (T.int IntKind.i64 v4))]) v0 v1 v2 v3 (iAdd IntKind.i64 v4 1) v5 v6 1 (rowNew x4 [(V.t (T.int IntKind.i64 v4))])
   else none
   else none
   else none
  else
   bif (objBd 21 (Go.Apex.Obj.cells v5 4 false v6)) then
   L73_4 v0 v1 v2 v3 (iAdd IntKind.i64 v4 1) v5 v6
   else none
  else none
  else none
 else
  some T.nils) = some r) : L73_4 v0 v1 v2 v3 v4 v5 v6 = some r :=
 round_of (n := 3000) (rows := [8]) (by kernel_rfl) h
theorem L73_5_step (v0 : Nat) (v1 : Nat) (v2 : Nat) (v3 : T) (v4 : Nat) (v5 : Nat) (v6 : Nat) (v7 : Int) (v8 : Nat) (v9 : List V) (v10 : Nat) (v11 : List V) (r : T) (h : (
 ((lenT v3)).bind fun x1 =>
 bif (iLt v7 x1) then
  bif (rowIn v7 v6) then
  bif (natEq v8 v4) then
  ((rowS none v9 (rowOff v5 v7 1))).bind fun x2 =>
  ((T.bool? x2)).bind fun x3 =>
  bif x3 then
   bif (natEq v10 v0) then
   bif (appOK v11 v1 v2 1 [(V.t (T.int IntKind.i64 v7))] 8) then
   bif (objBd 33 (Go.Apex.Obj.cells v8 4 false v9)) then
   bif (objBd 33 (Go.Apex.Obj.cells (appGen v10 [(V.t (T.int IntKind.i64 v7))]) 3 false (appCs v11 v1 [(V.t (T.int IntKind.i64 v7))]))) then
   L73_5 (appGen v10 [(V.t (T.int IntKind.i64 v7))]) 0 (appLen v2 [(V.t (T.int IntKind.i64 v7))]) v3 v4 v5 v6 (iAdd IntKind.i64 v7 1) v8 v9 (appGen v10 [(V.t (T.int IntKind.i64 v7))]) (appCs v11 v1 [(V.t (T.int IntKind.i64 v7))])
   else none
   else none
   else none
   else none
  else
   bif (objBd 33 (Go.Apex.Obj.cells v8 4 false v9)) then
   bif (objBd 33 (Go.Apex.Obj.cells v10 3 false v11)) then
   L73_5 v0 v1 v2 v3 v4 v5 v6 (iAdd IntKind.i64 v7 1) v8 v9 v10 v11
   else none
   else none
  else none
  else none
 else
  bif (natEq v10 v0) then
  ((rowT none v11 v1 v2)).bind fun x4 =>
  some (T.sl false 1 x4)
  else none) = some r) : L73_5 v0 v1 v2 v3 v4 v5 v6 v7 v8 v9 v10 v11 = some r :=
 round_of (n := 3000) (rows := [8, 32]) (by kernel_rfl) h
theorem fn73 (a0_0 : List UInt8) (a0_1 : T) (a0_2 : T) (a0_3 : T) (r : T) (h : (
 bif (vfits (V.t (T.agg [(T.str a0_0), a0_1, a0_2, a0_3])) (some 4)) then
 ((derefT (some 4) (T.ptr (T.agg [(T.str a0_0), a0_1, a0_2, a0_3])))).bind fun x1 =>
 ((T.agg? (List.length [D.str, (D.slice 9), (D.slice 38), (D.slice 4)]) x1)).bind fun x2 =>
 ((T.str? (nthT x2 0))).bind fun x3 =>
 ((fnO acfg 97 [(T.agg [(T.str x3), (nthT x2 1), (nthT x2 2), (nthT x2 3)])])).bind fun x4 =>
 ((lenT x4)).bind fun x5 =>
 bif (makeOK x5 x5 1) then
 bif (objBd 11 (Go.Apex.Obj.cells 0 4 false (zerosV x5 (T.bool false)))) then
 L73_1 x4 0 0 (natOf x5) 1 0 (zerosV x5 (T.bool false))
 else none
 else none
 else none) = some r) : fnO acfg 73 [(T.agg [(T.str a0_0), a0_1, a0_2, a0_3])] = some r :=
 fn_of (n := 3000) (by kernel_rfl) h
theorem fn72 (a0_0 : List UInt8) (a0_1 : T) (a0_2 : T) (a0_3 : T) (a1 : Int) (a2 : Int) (r : T) (h : (
 bif (vfits (V.t (T.agg [(T.str a0_0), a0_1, a0_2, a0_3])) (some 4)) then
 ((derefT (some 4) (T.ptr (T.agg [(T.str a0_0), a0_1, a0_2, a0_3])))).bind fun x1 =>
 ((T.agg? (List.length [D.str, (D.slice 9), (D.slice 38), (D.slice 4)]) x1)).bind fun x2 =>
 ((T.str? (nthT x2 0))).bind fun x3 =>
 ((fnO acfg 97 [(T.agg [(T.str x3), (nthT x2 1), (nthT x2 2), (nthT x2 3)])])).bind fun x4 =>
 ((fnO acfg 98 [x4, (T.int IntKind.i64 a1), (T.int IntKind.i64 a2)])).bind fun x5 =>
 ((fnO acfg 99 [x4, x5])).bind fun x6 =>
 bif (T.scalar x6) then
 ((T.int? IntKind.i64 x6)).bind fun x7 =>
 some (T.int IntKind.i64 x7)
 else none
 else none) = some r) : fnO acfg 72 [(T.agg [(T.str a0_0), a0_1, a0_2, a0_3]), (T.int IntKind.i64 a1), (T.int IntKind.i64 a2)] = some r :=
 fn_of (n := 3000) (by kernel_rfl) h
noncomputable def L71_1k (v0 : T) (v1 : Int) (v2 : Int) (v3 : Int) (v4 : Int) : List Kt := [.loop 71 none (codeOf acfg 71 [1, 0, 1, 0, 0]), .block 0, .code 71 none (codeOf acfg 71 [1, 1])]
noncomputable def L71_1s (v0 : T) (v1 : Int) (v2 : Int) (v3 : Int) (v4 : Int) : St := ⟨(mkTs 33 [(0, (V.t v0)), (1, (V.t (T.int IntKind.i64 v1))), (4, (V.t (T.int IntKind.i64 v2))), (11, (V.t (T.int IntKind.i64 v3))), (12, (V.t (T.int IntKind.i64 v4)))]), ⟨8, mkTr []⟩, []⟩
noncomputable def L71_1 (v0 : T) (v1 : Int) (v2 : Int) (v3 : Int) (v4 : Int) : Option T := runO acfg (pureFin acfg 71) (L71_1k v0 v1 v2 v3 v4) (L71_1s v0 v1 v2 v3 v4)
theorem L71_1_step (v0 : T) (v1 : Int) (v2 : Int) (v3 : Int) (v4 : Int) (r : T) (h : (
 bif (iLt v4 v3) then
  bif (isPtrT v0) then
  ((fldT 4 none v0)).bind fun x1 =>
  ((derefT none x1)).bind fun x2 =>
  ((idxT 1 x2 v1)).bind fun x3 =>
  ((derefT none x3)).bind fun x4 =>
  ((idxT 1 x4 v4)).bind fun x5 =>
  ((derefT none x5)).bind fun x6 =>
  ((T.bool? x6)).bind fun x7 =>
  bif x7 then
   ((fnO acfg 71 [v0, (T.int IntKind.i64 v4)])).bind fun x8 =>
   bif (T.scalar x8) then
   ((T.int? IntKind.i64 x8)).bind fun x9 =>
   L71_1 v0 v1 (iMax v2 (iAdd IntKind.i64 x9 1)) v3 (iAdd IntKind.i64 v4 1)
   else none
  else
   L71_1 v0 v1 v2 v3 (iAdd IntKind.i64 v4 1)
  else none
 else
  some (T.int IntKind.i64 v2)) = some r) : L71_1 v0 v1 v2 v3 v4 = some r :=
 round_of (n := 3000) (rows := []) (by kernel_rfl) h
theorem fn71 (a0 : T) (a1 : Int) (r : T) (h : (
 bif (isPtrT a0) then
 ((fldT 0 (some 4) a0)).bind fun x1 =>
 ((fldT 1 none x1)).bind fun x2 =>
 ((derefT none x2)).bind fun x3 =>
 ((lenT x3)).bind fun x4 =>
 L71_1 a0 a1 0 x4 0
 else none) = some r) : fnO acfg 71 [a0, (T.int IntKind.i64 a1)] = some r :=
 fn_of (n := 3000) (by kernel_rfl) h
theorem fn69 (a0 : Int) (c0 : T) (c1 : T) (r : T) (h : (
 ((derefT none c0)).bind fun x1 =>
 ((derefT none c1)).bind fun x2 =>
 ((T.int? IntKind.i64 x2)).bind fun x3 =>
 ((fnO acfg 70 [x1, (T.int IntKind.i64 a0), (T.int IntKind.i64 x3)])).bind fun x4 =>
 bif (T.scalar x4) then
 ((T.bool? x4)).bind fun x5 =>
 bif x5 then
  ((derefT none c0)).bind fun x6 =>
  ((fnO acfg 67 [x6, (T.int IntKind.i64 a0)])).bind fun x7 =>
  bif (T.scalar x7) then
  ((T.bool? x7)).bind fun x8 =>
  some (T.bool x8)
  else none
 else
  some (T.bool false)
 else none) = some r) : fnO acfg 69 [(T.int IntKind.i64 a0), c0, c1] = some r :=
 fn_of (n := 3000) (by kernel_rfl) h
noncomputable def L68_1k (v0 : T) (v1 : T) (v2 : T) (v3 : T) (v4 : T) (v5 : T) (v6 : T) (v7 : T) (v8 : T) (v9 : T) (v10 : T) (v11 : T) (v12 : T) (v13 : T) (v14 : T) (v15 : Int) (v16 : Int) : List Kt := [.loop 107 none (codeOf acfg 107 [1, 1, 1, 0, 1, 0, 0]), .block 0, .code 107 none (codeOf acfg 107 [1, 1, 1, 1]), .ret 107 (some 10) (mkTs 11 [(0, (V.t v0)), (1, (V.t v1)), (2, (V.t v2)), (3, (V.t v3)), (4, (V.t T.nils)), (5, (V.t (T.fn (Fn.func 104) [] [v4, v5]))), (6, (V.t (T.fn (Fn.func 104) [] [v6, v7]))), (7, (V.t v8)), (8, (V.t v9)), (9, (V.t (T.fn (Fn.func 104) [] [v10, v11]))), (10, (V.t (T.tup [])))]) [], .ops 68 2 false (opsAt (codeOf acfg 68 [1, 1, 0])) 5 (opsDrop 4 (opsAt (codeOf acfg 68 [1, 1, 0]))) 9, .code 68 none (codeOf acfg 68 [1, 1, 1])]
noncomputable def L68_1s (v0 : T) (v1 : T) (v2 : T) (v3 : T) (v4 : T) (v5 : T) (v6 : T) (v7 : T) (v8 : T) (v9 : T) (v10 : T) (v11 : T) (v12 : T) (v13 : T) (v14 : T) (v15 : Int) (v16 : Int) : St := ⟨(mkTs 42 [(0, (V.t v12)), (1, (V.t (T.fn (Fn.func 104) [] [v13, v14]))), (5, (V.t (T.int IntKind.i64 v15))), (6, (V.t (T.int IntKind.i64 v16)))]), ⟨20, mkTr []⟩, []⟩
noncomputable def L68_1 (v0 : T) (v1 : T) (v2 : T) (v3 : T) (v4 : T) (v5 : T) (v6 : T) (v7 : T) (v8 : T) (v9 : T) (v10 : T) (v11 : T) (v12 : T) (v13 : T) (v14 : T) (v15 : Int) (v16 : Int) : Option T := runO acfg (pureFin acfg 68) (L68_1k v0 v1 v2 v3 v4 v5 v6 v7 v8 v9 v10 v11 v12 v13 v14 v15 v16) (L68_1s v0 v1 v2 v3 v4 v5 v6 v7 v8 v9 v10 v11 v12 v13 v14 v15 v16)
noncomputable def L68_2k (v0 : T) (v1 : T) (v2 : T) (v3 : T) (v4 : T) (v5 : T) (v6 : T) (v7 : T) (v8 : T) (v9 : Nat) (v10 : Nat) (v11 : Nat) (v12 : T) (v13 : T) (v14 : Nat) (v15 : Nat) (v16 : Nat) (v17 : T) (v18 : T) (v19 : Int) (v20 : Int) (v21 : Nat) (v22 : List V) : List Kt := [.loop 107 none (codeOf acfg 107 [1, 1, 1, 0, 1, 0, 0]), .block 0, .code 107 none (codeOf acfg 107 [1, 1, 1, 1]), .ret 107 (some 10) (mkTs 11 [(0, (V.t v0)), (1, (V.t v1)), (2, (V.t v2)), (3, (V.t v3)), (4, (V.t T.nils)), (5, (V.t (T.fn (Fn.func 104) [] [v4, v5]))), (6, (V.t (T.fn (Fn.func 104) [] [v6, v7]))), (7, (V.t v8)), (8, (V.msl 6 v9 v10 v11 none)), (9, (V.t (T.fn (Fn.func 104) [] [v12, v13]))), (10, (V.t (T.tup [])))]) [], .ops 68 2 false (opsAt (codeOf acfg 68 [1, 1, 0])) 5 (opsDrop 4 (opsAt (codeOf acfg 68 [1, 1, 0]))) 9, .code 68 none (codeOf acfg 68 [1, 1, 1])]
noncomputable def L68_2s (v0 : T) (v1 : T) (v2 : T) (v3 : T) (v4 : T) (v5 : T) (v6 : T) (v7 : T) (v8 : T) (v9 : Nat) (v10 : Nat) (v11 : Nat) (v12 : T) (v13 : T) (v14 : Nat) (v15 : Nat) (v16 : Nat) (v17 : T) (v18 : T) (v19 : Int) (v20 : Int) (v21 : Nat) (v22 : List V) : St := ⟨(mkTs 42 [(0, (V.msl 6 v14 v15 v16 none)), (1, (V.t (T.fn (Fn.func 104) [] [v17, v18]))), (5, (V.t (T.int IntKind.i64 v19))), (6, (V.t (T.int IntKind.i64 v20)))]), ⟨20, mkTr [(6, (Go.Apex.Obj.cells v21 3 false v22))]⟩, []⟩
noncomputable def L68_2 (v0 : T) (v1 : T) (v2 : T) (v3 : T) (v4 : T) (v5 : T) (v6 : T) (v7 : T) (v8 : T) (v9 : Nat) (v10 : Nat) (v11 : Nat) (v12 : T) (v13 : T) (v14 : Nat) (v15 : Nat) (v16 : Nat) (v17 : T) (v18 : T) (v19 : Int) (v20 : Int) (v21 : Nat) (v22 : List V) : Option T := runO acfg (pureFin acfg 68) (L68_2k v0 v1 v2 v3 v4 v5 v6 v7 v8 v9 v10 v11 v12 v13 v14 v15 v16 v17 v18 v19 v20 v21 v22) (L68_2s v0 v1 v2 v3 v4 v5 v6 v7 v8 v9 v10 v11 v12 v13 v14 v15 v16 v17 v18 v19 v20 v21 v22)
theorem L68_1_step (v0 : T) (v1 : T) (v2 : T) (v3 : T) (v4 : T) (v5 : T) (v6 : T) (v7 : T) (v8 : T) (v9 : T) (v10 : T) (v11 : T) (v12 : T) (v13 : T) (v14 : T) (v15 : Int) (v16 : Int) (r : T) (h : (
 ((lenT v12)).bind fun x1 =>
 bif (iLt v16 x1) then
  ((idxT 1 v12 v16)).bind fun x2 =>
  ((derefT none x2)).bind fun x3 =>
  ((T.int? IntKind.i64 x3)).bind fun x4 =>
  ((callT acfg (T.fn (Fn.func 104) [] [v13, v14]) [(T.int IntKind.i64 x4)])).bind fun x5 =>
  ((T.bool? x5)).bind fun x6 =>
  bif (bNot x6) then
   ((idxT 1 v12 v15)).bind fun x7 =>
   none
  else
   L68_1 v0 v1 v2 v3 v4 v5 v6 v7 v8 v9 v10 v11 v12 v13 v14 v15 (iAdd IntKind.i64 v16 1)
 else
  ((subT 1 v12 (some v15) none none)).bind fun x8 =>
  bif (isEmptyT x8) then
  ((subT 1 v12 none (some v15) none)).bind fun x9 =>
  some x9
  else none) = some r) : L68_1 v0 v1 v2 v3 v4 v5 v6 v7 v8 v9 v10 v11 v12 v13 v14 v15 v16 = some r :=
 round_of (n := 3000) (rows := []) (by kernel_rfl) h
theorem L68_2_step (v0 : T) (v1 : T) (v2 : T) (v3 : T) (v4 : T) (v5 : T) (v6 : T) (v7 : T) (v8 : T) (v9 : Nat) (v10 : Nat) (v11 : Nat) (v12 : T) (v13 : T) (v14 : Nat) (v15 : Nat) (v16 : Nat) (v17 : T) (v18 : T) (v19 : Int) (v20 : Int) (v21 : Nat) (v22 : List V) (r : T) (h : (
 bif (iLt v20 (nInt v16)) then
  bif (rowIn v20 v16) then
  bif (natEq v21 v14) then
  ((rowS none v22 (rowOff v15 v20 1))).bind fun x1 =>
  ((T.int? IntKind.i64 x1)).bind fun x2 =>
  ((callT acfg (T.fn (Fn.func 104) [] [v17, v18]) [(T.int IntKind.i64 x2)])).bind fun x3 =>
  ((T.bool? x3)).bind fun x4 =>
  bif (bNot x4) then
   bif (rowIn v19 v16) then
   bif (natEq v21 v14) then
   bif (rowSetOK v22 (rowOff v15 v19 1) (List.length [(V.t (T.int IntKind.i64 x2))])) then
   bif (objBd 20 (Go.Apex.Obj.cells v21 3 false (rowSet v22 (rowOff v15 v19 1) [(V.t (T.int IntKind.i64 x2))]))) then
   L68_2 v0 v1 v2 v3 v4 v5 v6 v7 v8 v9 v10 v11 v12 v13 v14 v15 v16 v17 v18 (iAdd IntKind.i64 v19 1) (iAdd IntKind.i64 v20 1) v21 (rowSet v22 (rowOff v15 v19 1) [(V.t (T.int IntKind.i64 x2))])
   else none
   else none
   else none
   else none
  else
   bif (objBd 20 (Go.Apex.Obj.cells v21 3 false v22)) then
   L68_2 v0 v1 v2 v3 v4 v5 v6 v7 v8 v9 v10 v11 v12 v13 v14 v15 v16 v17 v18 v19 (iAdd IntKind.i64 v20 1) v21 v22
   else none
  else none
  else none
 else
  bif (subOK v19 (Int.ofNat v16) v16) then
  bif (natEq v21 v14) then
  bif (clrOK v22 (rowOff v15 v19 1) (rowLen v19 (Int.ofNat v16)) (T.int IntKind.i64 0)) then
  bif (subOK 0 v19 v16) then
  bif (natEq v21 v14) then
  ((rowT none (clrCs v22 (rowOff v15 v19 1) (rowLen v19 (Int.ofNat v16)) (T.int IntKind.i64 0)) (rowOff v15 0 1) (rowLen 0 v19))).bind fun x5 =>
  some (T.sl false 1 x5)
  else none
  else none
  else none
  else none
  else none) = some r) : L68_2 v0 v1 v2 v3 v4 v5 v6 v7 v8 v9 v10 v11 v12 v13 v14 v15 v16 v17 v18 v19 v20 v21 v22 = some r :=
 round_of (n := 3000) (rows := [6]) (by kernel_rfl) h
theorem fn68 (a0 : T) (a1 : T) (r : T) (h : (
 bif (vfits (V.t a0) none) then
 bif (vfits (V.t a1) none) then
 ((derefT none (T.ptr a1))).bind fun x1 =>
 ((callO acfg 108 [x1])).bind fun x2 =>
 bif (treeV x2.1) then
  ((freshTree true x2)).bind fun x3 =>
  ((fnO acfg 103 [x3, (T.fn (Fn.func 104) [] [(T.ptr a1), (T.ptr a0)])])).bind fun x4 =>
  bif (T.scalar x4) then
  ((T.int? IntKind.i64 x4)).bind fun x5 =>
  bif (iEq x5 (-1)) then
   some x3
  else
   L68_1 a0 a1 (T.ptr a0) (T.ptr a1) (T.ptr a1) (T.ptr a0) (T.ptr a1) (T.ptr a0) x1 x3 (T.ptr a1) (T.ptr a0) x3 (T.ptr a1) (T.ptr a0) x5 (iAdd IntKind.i64 x5 1)
  else none
 else
  ((freshRow true 3 none x2)).bind fun x6 =>
  bif (natEq 1 1) then
  ((rowT none x6.2.2 x6.1 x6.2.1)).bind fun x7 =>
  ((fnO acfg 103 [(T.sl false 1 x7), (T.fn (Fn.func 104) [] [(T.ptr a1), (T.ptr a0)])])).bind fun x8 =>
  bif (T.scalar x8) then
  ((T.int? IntKind.i64 x8)).bind fun x9 =>
  bif (iEq x9 (-1)) then
   bif (natEq 1 1) then
   ((rowT none x6.2.2 x6.1 x6.2.1)).bind fun x10 =>
   some (T.sl false 1 x10)
   else none
  else
   bif (objBd 20 (Go.Apex.Obj.cells 1 3 false x6.2.2)) then
   L68_2 a0 a1 (T.ptr a0) (T.ptr a1) (T.ptr a1) (T.ptr a0) (T.ptr a1) (T.ptr a0) x1 1 x6.1 x6.2.1 (T.ptr a1) (T.ptr a0) 1 x6.1 x6.2.1 (T.ptr a1) (T.ptr a0) x9 (iAdd IntKind.i64 x9 1) 1 x6.2.2
   else none
  else none
  else none
 else none
 else none) = some r) : fnO acfg 68 [a0, a1] = some r :=
 fn_of (n := 3000) (by kernel_rfl) h
noncomputable def L67_1k (v0 : T) (v1 : Int) (v2 : T) (v3 : Int) (v4 : T) (v5 : T) (v6 : T) (v7 : Int) (v8 : Int) (v9 : Bool) (v10 : T) (v11 : Int) (v12 : T) (v13 : Int) (v14 : T) (v15 : T) : List Kt := [.loop 95 none (codeOf acfg 95 [1, 0, 0]), .block 0, .over 95 6 (mkTs 35 [(0, (V.t v0)), (1, (V.t (T.int IntKind.i64 v1))), (2, (V.t v2)), (3, (V.t (T.ptr (T.int IntKind.i64 v3)))), (4, (V.ref 2 0 0 none)), (5, (V.t (T.tup []))), (6, (V.t (T.tup []))), (7, (V.t (T.tup []))), (8, (V.t (T.tup []))), (9, (V.t v4)), (10, (V.t (T.fn (Fn.func 95) [v5] []))), (11, (V.t (T.tup []))), (12, (V.t (T.tup []))), (13, (V.t (T.tup []))), (14, (V.t (T.tup []))), (15, (V.t (T.tup []))), (16, (V.t (T.tup []))), (17, (V.t (T.tup []))), (18, (V.t (T.tup []))), (19, (V.t (T.tup []))), (20, (V.t (T.tup []))), (21, (V.t (T.tup []))), (22, (V.t (T.tup []))), (23, (V.t (T.tup []))), (24, (V.t (T.tup []))), (25, (V.t (T.tup []))), (26, (V.t (T.tup []))), (27, (V.t (T.tup []))), (28, (V.t (T.tup []))), (29, (V.t (T.tup []))), (30, (V.t (T.tup []))), (31, (V.t (T.tup []))), (32, (V.t (T.tup []))), (33, (V.t (T.tup []))), (34, (V.t (T.tup [])))]) [5], .block 0, .code 67 none (codeOf acfg 67 [1, 1])]
noncomputable def L67_1s (v0 : T) (v1 : Int) (v2 : T) (v3 : Int) (v4 : T) (v5 : T) (v6 : T) (v7 : Int) (v8 : Int) (v9 : Bool) (v10 : T) (v11 : Int) (v12 : T) (v13 : Int) (v14 : T) (v15 : T) : St := ⟨(mkTs 31 [(0, (V.t v6)), (1, (V.yld 6)), (11, (V.t (T.int IntKind.i64 v7))), (12, (V.t (T.int IntKind.i64 v8)))]), ⟨14, mkTr [(2, (Go.Apex.Obj.cells 0 4 false [(V.t (T.bool v9))])), (5, (Go.Apex.Obj.defer true)), (6, (Go.Apex.Obj.loop LoopState.ready none 67 (mkTs 35 [(0, (V.t v10)), (1, (V.t (T.int IntKind.i64 v11))), (2, (V.t v12)), (3, (V.t (T.ptr (T.int IntKind.i64 v13)))), (4, (V.ref 2 0 0 none)), (5, (V.t (T.tup []))), (6, (V.t (T.tup []))), (7, (V.t (T.tup []))), (8, (V.t (T.tup []))), (9, (V.t v14)), (10, (V.t (T.fn (Fn.func 95) [v15] []))), (11, (V.t (T.tup []))), (12, (V.t (T.tup []))), (13, (V.t (T.tup []))), (14, (V.t (T.tup []))), (15, (V.t (T.tup []))), (16, (V.t (T.tup []))), (17, (V.t (T.tup []))), (18, (V.t (T.tup []))), (19, (V.t (T.tup []))), (20, (V.t (T.tup []))), (21, (V.t (T.tup []))), (22, (V.t (T.tup []))), (23, (V.t (T.tup []))), (24, (V.t (T.tup []))), (25, (V.t (T.tup []))), (26, (V.t (T.tup []))), (27, (V.t (T.tup []))), (28, (V.t (T.tup []))), (29, (V.t (T.tup []))), (30, (V.t (T.tup []))), (31, (V.t (T.tup []))), (32, (V.t (T.tup []))), (33, (V.t (T.tup []))), (34, (V.t (T.tup [])))]) [11, 12] (codeOf acfg 67 [1, 0, 1, 0, 0]) (codeOf acfg 67 [1, 0, 1, 0, 1])))]⟩, []⟩
noncomputable def L67_1 (v0 : T) (v1 : Int) (v2 : T) (v3 : Int) (v4 : T) (v5 : T) (v6 : T) (v7 : Int) (v8 : Int) (v9 : Bool) (v10 : T) (v11 : Int) (v12 : T) (v13 : Int) (v14 : T) (v15 : T) : Option T := runO acfg (pureFin acfg 67) (L67_1k v0 v1 v2 v3 v4 v5 v6 v7 v8 v9 v10 v11 v12 v13 v14 v15) (L67_1s v0 v1 v2 v3 v4 v5 v6 v7 v8 v9 v10 v11 v12 v13 v14 v15)
noncomputable def L67_2k (v0 : T) (v1 : Int) (v2 : T) (v3 : Int) (v4 : T) (v5 : T) (v6 : T) (v7 : Int) (v8 : Int) (v9 : Int) (v10 : Int) (v11 : Int) (v12 : Bool) (v13 : T) (v14 : Int) (v15 : T) (v16 : Int) (v17 : T) (v18 : T) : List Kt := [.loop 95 none (codeOf acfg 95 [1, 0, 0, 1, 1, 0, 0, 1, 1, 0, 0]), .block 2, .block 1, .code 95 none (codeOf acfg 95 [1, 0, 0, 1, 1, 1]), .round 95 none (codeOf acfg 95 [1, 0, 0]) 14, .block 0, .over 95 6 (mkTs 35 [(0, (V.t v0)), (1, (V.t (T.int IntKind.i64 v1))), (2, (V.t v2)), (3, (V.t (T.ptr (T.int IntKind.i64 v3)))), (4, (V.ref 2 0 0 none)), (5, (V.t (T.tup []))), (6, (V.t (T.tup []))), (7, (V.t (T.tup []))), (8, (V.t (T.tup []))), (9, (V.t v4)), (10, (V.t (T.fn (Fn.func 95) [v5] []))), (11, (V.t (T.tup []))), (12, (V.t (T.tup []))), (13, (V.t (T.tup []))), (14, (V.t (T.tup []))), (15, (V.t (T.tup []))), (16, (V.t (T.tup []))), (17, (V.t (T.tup []))), (18, (V.t (T.tup []))), (19, (V.t (T.tup []))), (20, (V.t (T.tup []))), (21, (V.t (T.tup []))), (22, (V.t (T.tup []))), (23, (V.t (T.tup []))), (24, (V.t (T.tup []))), (25, (V.t (T.tup []))), (26, (V.t (T.tup []))), (27, (V.t (T.tup []))), (28, (V.t (T.tup []))), (29, (V.t (T.tup []))), (30, (V.t (T.tup []))), (31, (V.t (T.tup []))), (32, (V.t (T.tup []))), (33, (V.t (T.tup []))), (34, (V.t (T.tup [])))]) [5], .block 0, .code 67 none (codeOf acfg 67 [1, 1])]
noncomputable def L67_2s (v0 : T) (v1 : Int) (v2 : T) (v3 : Int) (v4 : T) (v5 : T) (v6 : T) (v7 : Int) (v8 : Int) (v9 : Int) (v10 : Int) (v11 : Int) (v12 : Bool) (v13 : T) (v14 : Int) (v15 : T) (v16 : Int) (v17 : T) (v18 : T) : St := ⟨(mkTs 31 [(0, (V.t v6)), (1, (V.yld 6)), (4, (V.t (T.int IntKind.i64 v7))), (11, (V.t (T.int IntKind.i64 v8))), (12, (V.t (T.int IntKind.i64 v9))), (20, (V.t (T.int IntKind.i64 v10))), (21, (V.t (T.int IntKind.i64 v11)))]), ⟨24, mkTr [(2, (Go.Apex.Obj.cells 0 4 false [(V.t (T.bool v12))])), (5, (Go.Apex.Obj.defer true)), (6, (Go.Apex.Obj.loop LoopState.ready none 67 (mkTs 35 [(0, (V.t v13)), (1, (V.t (T.int IntKind.i64 v14))), (2, (V.t v15)), (3, (V.t (T.ptr (T.int IntKind.i64 v16)))), (4, (V.ref 2 0 0 none)), (5, (V.t (T.tup []))), (6, (V.t (T.tup []))), (7, (V.t (T.tup []))), (8, (V.t (T.tup []))), (9, (V.t v17)), (10, (V.t (T.fn (Fn.func 95) [v18] []))), (11, (V.t (T.tup []))), (12, (V.t (T.tup []))), (13, (V.t (T.tup []))), (14, (V.t (T.tup []))), (15, (V.t (T.tup []))), (16, (V.t (T.tup []))), (17, (V.t (T.tup []))), (18, (V.t (T.tup []))), (19, (V.t (T.tup []))), (20, (V.t (T.tup []))), (21, (V.t (T.tup []))), (22, (V.t (T.tup []))), (23, (V.t (T.tup []))), (24, (V.t (T.tup []))), (25, (V.t (T.tup []))), (26, (V.t (T.tup []))), (27, (V.t (T.tup []))), (28, (V.t (T.tup []))), (29, (V.t (T.tup []))), (30, (V.t (T.tup []))), (31, (V.t (T.tup []))), (32, (V.t (T.tup []))), (33, (V.t (T.tup []))), (34, (V.t (T.tup [])))]) [11, 12] (codeOf acfg 67 [1, 0, 1, 0, 0]) (codeOf acfg 67 [1, 0, 1, 0, 1])))]⟩, []⟩
noncomputable def L67_2 (v0 : T) (v1 : Int) (v2 : T) (v3 : Int) (v4 : T) (v5 : T) (v6 : T) (v7 : Int) (v8 : Int) (v9 : Int) (v10 : Int) (v11 : Int) (v12 : Bool) (v13 : T) (v14 : Int) (v15 : T) (v16 : Int) (v17 : T) (v18 : T) : Option T := runO acfg (pureFin acfg 67) (L67_2k v0 v1 v2 v3 v4 v5 v6 v7 v8 v9 v10 v11 v12 v13 v14 v15 v16 v17 v18) (L67_2s v0 v1 v2 v3 v4 v5 v6 v7 v8 v9 v10 v11 v12 v13 v14 v15 v16 v17 v18)
theorem L67_1_step (v0 : T) (v1 : Int) (v2 : T) (v3 : Int) (v4 : T) (v5 : T) (v6 : T) (v7 : Int) (v8 : Int) (v9 : Bool) (v10 : T) (v11 : Int) (v12 : T) (v13 : Int) (v14 : T) (v15 : T) (r : T) (h : (
 bif (iLt v8 v7) then
  bif (isPtrT v6) then
  ((fldT 0 (some 4) v6)).bind fun x1 =>
  ((fldT 1 none x1)).bind fun x2 =>
  ((derefT none x2)).bind fun x3 =>
  ((lenT x3)).bind fun x4 =>
  L67_2 v0 v1 v2 v3 v4 v5 v6 v8 v7 v8 x4 0 v9 v10 v11 v12 v13 v14 v15
  else none
 else
  ((derefT none (T.ptr (T.int IntKind.i64 v3)))).bind fun x5 =>
  ((T.int? IntKind.i64 x5)).bind fun x6 =>
  some (T.bool (bNot (iEq x6 0)))) = some r) : L67_1 v0 v1 v2 v3 v4 v5 v6 v7 v8 v9 v10 v11 v12 v13 v14 v15 = some r :=
 round_of (n := 3000) (rows := []) (by kernel_rfl) h
theorem L67_2_step (v0 : T) (v1 : Int) (v2 : T) (v3 : Int) (v4 : T) (v5 : T) (v6 : T) (v7 : Int) (v8 : Int) (v9 : Int) (v10 : Int) (v11 : Int) (v12 : Bool) (v13 : T) (v14 : Int) (v15 : T) (v16 : Int) (v17 : T) (v18 : T) (r : T) (h : (
 bif (iLt v11 v10) then
  ((derefT none v15)).bind fun x1 =>
  ((fnO acfg 65 [x1, (T.int IntKind.i64 v7), (T.int IntKind.i64 v11)])).bind fun x2 =>
  bif (T.scalar x2) then
  ((T.tup? (List.length [3, 4]) x2)).bind fun x3 =>
  ((T.int? IntKind.i64 (nthT x3 0))).bind fun x4 =>
  ((T.bool? (nthT x3 1))).bind fun x5 =>
  ((derefT none (T.ptr (T.int IntKind.i64 v16)))).bind fun x6 =>
  ((T.int? IntKind.i64 x6)).bind fun x7 =>
  bif (iEq x4 x7) then
   ((derefT none (T.ptr (T.int IntKind.i64 v16)))).bind fun x8 =>
   ((T.int? IntKind.i64 x8)).bind fun x9 =>
   bif (bNot (iEq v7 x9)) then
    ((derefT none (T.ptr (T.int IntKind.i64 v16)))).bind fun x10 =>
    ((T.int? IntKind.i64 x10)).bind fun x11 =>
    bif (bNot (iEq v11 x11)) then
     some (T.bool false)
    else
     L67_2 v0 v1 v2 v3 v4 v5 v6 v7 v8 v9 v10 (iAdd IntKind.i64 v11 1) v12 v13 v14 v15 v16 v17 v18
   else
    L67_2 v0 v1 v2 v3 v4 v5 v6 v7 v8 v9 v10 (iAdd IntKind.i64 v11 1) v12 v13 v14 v15 v16 v17 v18
  else
   L67_2 v0 v1 v2 v3 v4 v5 v6 v7 v8 v9 v10 (iAdd IntKind.i64 v11 1) v12 v13 v14 v15 v16 v17 v18
  else none
 else
  L67_1 v0 v1 v2 v3 v4 v5 v6 v8 (iAdd IntKind.i64 v9 1) v12 v13 v14 v15 v16 v17 v18) = some r) : L67_2 v0 v1 v2 v3 v4 v5 v6 v7 v8 v9 v10 v11 v12 v13 v14 v15 v16 v17 v18 = some r :=
 round_of (n := 3000) (rows := []) (by kernel_rfl) h
theorem fn67 (a0 : T) (a1 : Int) (r : T) (h : (
 bif (vfits (V.t a0) none) then
 ((derefT none (T.ptr a0))).bind fun x1 =>
 bif (isPtrT x1) then
 ((fldT 0 (some 4) x1)).bind fun x2 =>
 ((fldT 1 none x2)).bind fun x3 =>
 ((derefT none x3)).bind fun x4 =>
 ((lenT x4)).bind fun x5 =>
 L67_1 a0 a1 (T.ptr a0) a1 x1 x1 x1 x5 0 false a0 a1 (T.ptr a0) a1 x1 x1
 else none
 else none) = some r) : fnO acfg 67 [a0, (T.int IntKind.i64 a1)] = some r :=
 fn_of (n := 3000) (by kernel_rfl) h
theorem fn64 (a0_0 : List UInt8) (a0_1 : T) (a0_2 : T) (a0_3 : T) (a1 : T) (r : T) (h : (
 bif (vfits (V.t (T.agg [(T.str a0_0), a0_1, a0_2, a0_3])) (some 4)) then
 ((derefT (some 4) (T.ptr (T.agg [(T.str a0_0), a0_1, a0_2, a0_3])))).bind fun x1 =>
 ((T.agg? (List.length [D.str, (D.slice 9), (D.slice 38), (D.slice 4)]) x1)).bind fun x2 =>
 ((T.str? (nthT x2 0))).bind fun x3 =>
 ((fnO acfg 57 [(T.agg [(T.str x3), (nthT x2 1), (nthT x2 2), (nthT x2 3)])])).bind fun x4 =>
 ((T.tup? (List.length [74, 30]) x4)).bind fun x5 =>
 ((T.int? IntKind.i64 (nthT x5 1))).bind fun x6 =>
 bif (bNot (iEq x6 0)) then
  some (T.tup [T.nilp, (T.int IntKind.i64 x6)])
 else
  ((fnO acfg 58 [(nthT x5 0)])).bind fun x7 =>
  bif (T.scalar x7) then
  ((T.tup? (List.length [33, 4]) x7)).bind fun x8 =>
  ((T.agg? (List.length [(D.int IntKind.u8), (D.int IntKind.i64), (D.int IntKind.i64)]) (nthT x8 0))).bind fun x9 =>
  ((T.int? IntKind.u8 (nthT x9 0))).bind fun x10 =>
  ((T.int? IntKind.i64 (nthT x9 1))).bind fun x11 =>
  ((T.int? IntKind.i64 (nthT x9 2))).bind fun x12 =>
  ((T.bool? (nthT x8 1))).bind fun x13 =>
  bif (vfits (V.t (T.agg [(T.int IntKind.u8 x10), (T.int IntKind.i64 x11), (T.int IntKind.i64 x12)])) (some 3)) then
  bif x13 then
   some (T.tup [T.nilp, (T.int IntKind.i64 12)])
  else
   ((fnO acfg 76 [(nthT x5 0), a1])).bind fun x14 =>
   bif (T.scalar x14) then
   ((T.int? IntKind.i64 x14)).bind fun x15 =>
   bif (bNot (iEq x15 0)) then
    some (T.tup [T.nilp, (T.int IntKind.i64 x15)])
   else
    some (T.tup [(nthT x5 0), (T.int IntKind.i64 0)])
   else none
  else none
  else none
 else none) = some r) : fnO acfg 64 [(T.agg [(T.str a0_0), a0_1, a0_2, a0_3]), a1] = some r :=
 fn_of (n := 3000) (by kernel_rfl) h
theorem fn43 (a0_0 : List UInt8) (a0_1 : T) (a0_2 : T) (a0_3 : T) (r : T) (h : (
 bif (vfits (V.t (T.agg [(T.str a0_0), a0_1, a0_2, a0_3])) (some 4)) then
 ((derefT (some 4) (T.ptr (T.agg [(T.str a0_0), a0_1, a0_2, a0_3])))).bind fun x1 =>
 ((T.agg? (List.length [D.str, (D.slice 9), (D.slice 38), (D.slice 4)]) x1)).bind fun x2 =>
 ((T.str? (nthT x2 0))).bind fun x3 =>
 ((fnO acfg 18 [(T.agg [(T.str x3), (nthT x2 1), (nthT x2 2), (nthT x2 3)])])).bind fun x4 =>
 bif (T.scalar x4) then
 ((T.tup? (List.length [33, 30]) x4)).bind fun x5 =>
 ((T.agg? (List.length [(D.int IntKind.u8), (D.int IntKind.i64), (D.int IntKind.i64)]) (nthT x5 0))).bind fun x6 =>
 ((T.int? IntKind.u8 (nthT x6 0))).bind fun x7 =>
 ((T.int? IntKind.i64 (nthT x6 1))).bind fun x8 =>
 ((T.int? IntKind.i64 (nthT x6 2))).bind fun x9 =>
 ((T.int? IntKind.i64 (nthT x5 1))).bind fun x10 =>
 bif (vfits (V.t (T.agg [(T.int IntKind.u8 x7), (T.int IntKind.i64 x8), (T.int IntKind.i64 x9)])) (some 3)) then
 some (T.int IntKind.i64 x10)
 else none
 else none
 else none) = some r) : fnO acfg 43 [(T.agg [(T.str a0_0), a0_1, a0_2, a0_3])] = some r :=
 fn_of (n := 3000) (by kernel_rfl) h
theorem fn30 (a0_0 : List UInt8) (a0_1 : T) (a0_2 : T) (a0_3 : T) (r : T) (h : (
 bif (vfits (V.t (T.agg [(T.str a0_0), a0_1, a0_2, a0_3])) (some 4)) then
 ((derefT (some 4) (T.ptr (T.agg [(T.str a0_0), a0_1, a0_2, a0_3])))).bind fun x1 =>
 ((T.agg? (List.length [D.str, (D.slice 9), (D.slice 38), (D.slice 4)]) x1)).bind fun x2 =>
 ((T.str? (nthT x2 0))).bind fun x3 =>
 ((fnO acfg 43 [(T.agg [(T.str x3), (nthT x2 1), (nthT x2 2), (nthT x2 3)])])).bind fun x4 =>
 bif (T.scalar x4) then
 ((T.int? IntKind.i64 x4)).bind fun x5 =>
 bif (bNot (iEq x5 0)) then
  some (T.tup [(T.int IntKind.i64 0), (T.int IntKind.i64 x5)])
 else
  ((derefT (some 4) (T.ptr (T.agg [(T.str a0_0), a0_1, a0_2, a0_3])))).bind fun x6 =>
  ((T.agg? (List.length [D.str, (D.slice 9), (D.slice 38), (D.slice 4)]) x6)).bind fun x7 =>
  ((T.str? (nthT x7 0))).bind fun x8 =>
  ((fnO acfg 75 [(T.agg [(T.str x8), (nthT x7 1), (nthT x7 2), (nthT x7 3)]), (T.int IntKind.i64 0)])).bind fun x9 =>
  bif (T.scalar x9) then
  ((T.int? IntKind.i64 x9)).bind fun x10 =>
  some (T.tup [(T.int IntKind.i64 x10), (T.int IntKind.i64 0)])
  else none
 else none
 else none) = some r) : fnO acfg 30 [(T.agg [(T.str a0_0), a0_1, a0_2, a0_3])] = some r :=
 fn_of (n := 3000) (by kernel_rfl) h
theorem fn29 (a0_0 : List UInt8) (a0_1 : T) (a0_2 : T) (a0_3 : T) (a1 : Int) (r : T) (h : (
 bif (vfits (V.t (T.agg [(T.str a0_0), a0_1, a0_2, a0_3])) (some 4)) then
 ((derefT (some 4) (T.ptr (T.agg [(T.str a0_0), a0_1, a0_2, a0_3])))).bind fun x1 =>
 ((T.agg? (List.length [D.str, (D.slice 9), (D.slice 38), (D.slice 4)]) x1)).bind fun x2 =>
 ((T.str? (nthT x2 0))).bind fun x3 =>
 ((fnO acfg 43 [(T.agg [(T.str x3), (nthT x2 1), (nthT x2 2), (nthT x2 3)])])).bind fun x4 =>
 bif (T.scalar x4) then
 ((T.int? IntKind.i64 x4)).bind fun x5 =>
 bif (bNot (iEq x5 0)) then
  some (T.tup [T.nils, (T.int IntKind.i64 x5)])
 else
  ((derefT (some 4) (T.ptr (T.agg [(T.str a0_0), a0_1, a0_2, a0_3])))).bind fun x6 =>
  ((T.agg? (List.length [D.str, (D.slice 9), (D.slice 38), (D.slice 4)]) x6)).bind fun x7 =>
  ((T.str? (nthT x7 0))).bind fun x8 =>
  ((fnO acfg 34 [(T.agg [(T.str x8), (nthT x7 1), (nthT x7 2), (nthT x7 3)]), (T.int IntKind.i64 a1)])).bind fun x9 =>
  bif (T.scalar x9) then
  ((T.bool? x9)).bind fun x10 =>
  bif (bNot x10) then
   some (T.tup [T.nils, (T.int IntKind.i64 7)])
  else
   ((derefT (some 4) (T.ptr (T.agg [(T.str a0_0), a0_1, a0_2, a0_3])))).bind fun x11 =>
   ((T.agg? (List.length [D.str, (D.slice 9), (D.slice 38), (D.slice 4)]) x11)).bind fun x12 =>
   ((T.str? (nthT x12 0))).bind fun x13 =>
   ((fnO acfg 74 [(T.agg [(T.str x13), (nthT x12 1), (nthT x12 2), (nthT x12 3)]), (T.int IntKind.i64 a1)])).bind fun x14 =>
   some (T.tup [x14, (T.int IntKind.i64 0)])
  else none
 else none
 else none) = some r) : fnO acfg 29 [(T.agg [(T.str a0_0), a0_1, a0_2, a0_3]), (T.int IntKind.i64 a1)] = some r :=
 fn_of (n := 3000) (by kernel_rfl) h
theorem fn28 (a0_0 : List UInt8) (a0_1 : T) (a0_2 : T) (a0_3 : T) (r : T) (h : (
 bif (vfits (V.t (T.agg [(T.str a0_0), a0_1, a0_2, a0_3])) (some 4)) then
 ((derefT (some 4) (T.ptr (T.agg [(T.str a0_0), a0_1, a0_2, a0_3])))).bind fun x1 =>
 ((T.agg? (List.length [D.str, (D.slice 9), (D.slice 38), (D.slice 4)]) x1)).bind fun x2 =>
 ((T.str? (nthT x2 0))).bind fun x3 =>
 ((fnO acfg 43 [(T.agg [(T.str x3), (nthT x2 1), (nthT x2 2), (nthT x2 3)])])).bind fun x4 =>
 bif (T.scalar x4) then
 ((T.int? IntKind.i64 x4)).bind fun x5 =>
 bif (bNot (iEq x5 0)) then
  some (T.tup [T.nils, (T.int IntKind.i64 x5)])
 else
  ((derefT (some 4) (T.ptr (T.agg [(T.str a0_0), a0_1, a0_2, a0_3])))).bind fun x6 =>
  ((T.agg? (List.length [D.str, (D.slice 9), (D.slice 38), (D.slice 4)]) x6)).bind fun x7 =>
  ((T.str? (nthT x7 0))).bind fun x8 =>
  ((fnO acfg 73 [(T.agg [(T.str x8), (nthT x7 1), (nthT x7 2), (nthT x7 3)])])).bind fun x9 =>
  some (T.tup [x9, (T.int IntKind.i64 0)])
 else none
 else none) = some r) : fnO acfg 28 [(T.agg [(T.str a0_0), a0_1, a0_2, a0_3])] = some r :=
 fn_of (n := 3000) (by kernel_rfl) h
theorem fn27 (a0_0 : List UInt8) (a0_1 : T) (a0_2 : T) (a0_3 : T) (a1 : Int) (a2 : Int) (r : T) (h : (
 bif (vfits (V.t (T.agg [(T.str a0_0), a0_1, a0_2, a0_3])) (some 4)) then
 ((derefT (some 4) (T.ptr (T.agg [(T.str a0_0), a0_1, a0_2, a0_3])))).bind fun x1 =>
 ((T.agg? (List.length [D.str, (D.slice 9), (D.slice 38), (D.slice 4)]) x1)).bind fun x2 =>
 ((T.str? (nthT x2 0))).bind fun x3 =>
 ((fnO acfg 43 [(T.agg [(T.str x3), (nthT x2 1), (nthT x2 2), (nthT x2 3)])])).bind fun x4 =>
 bif (T.scalar x4) then
 ((T.int? IntKind.i64 x4)).bind fun x5 =>
 bif (bNot (iEq x5 0)) then
  some (T.tup [(T.int IntKind.i64 0), (T.int IntKind.i64 x5)])
 else
  ((derefT (some 4) (T.ptr (T.agg [(T.str a0_0), a0_1, a0_2, a0_3])))).bind fun x6 =>
  ((T.agg? (List.length [D.str, (D.slice 9), (D.slice 38), (D.slice 4)]) x6)).bind fun x7 =>
  ((T.str? (nthT x7 0))).bind fun x8 =>
  ((fnO acfg 34 [(T.agg [(T.str x8), (nthT x7 1), (nthT x7 2), (nthT x7 3)]), (T.int IntKind.i64 a1)])).bind fun x9 =>
  bif (T.scalar x9) then
  ((T.bool? x9)).bind fun x10 =>
  bif (bNot x10) then
   some (T.tup [(T.int IntKind.i64 0), (T.int IntKind.i64 7)])
  else
   ((derefT (some 4) (T.ptr (T.agg [(T.str a0_0), a0_1, a0_2, a0_3])))).bind fun x11 =>
   ((T.agg? (List.length [D.str, (D.slice 9), (D.slice 38), (D.slice 4)]) x11)).bind fun x12 =>
   ((T.str? (nthT x12 0))).bind fun x13 =>
   ((fnO acfg 34 [(T.agg [(T.str x13), (nthT x12 1), (nthT x12 2), (nthT x12 3)]), (T.int IntKind.i64 a2)])).bind fun x14 =>
   bif (T.scalar x14) then
   ((T.bool? x14)).bind fun x15 =>
   bif (bNot x15) then
    some (T.tup [(T.int IntKind.i64 0), (T.int IntKind.i64 7)])
   else
    ((derefT (some 4) (T.ptr (T.agg [(T.str a0_0), a0_1, a0_2, a0_3])))).bind fun x16 =>
    ((T.agg? (List.length [D.str, (D.slice 9), (D.slice 38), (D.slice 4)]) x16)).bind fun x17 =>
    ((T.str? (nthT x17 0))).bind fun x18 =>
    ((fnO acfg 72 [(T.agg [(T.str x18), (nthT x17 1), (nthT x17 2), (nthT x17 3)]), (T.int IntKind.i64 a1), (T.int IntKind.i64 a2)])).bind fun x19 =>
    bif (T.scalar x19) then
    ((T.int? IntKind.i64 x19)).bind fun x20 =>
    some (T.tup [(T.int IntKind.i64 x20), (T.int IntKind.i64 0)])
    else none
   else none
  else none
 else none
 else none) = some r) : fnO acfg 27 [(T.agg [(T.str a0_0), a0_1, a0_2, a0_3]), (T.int IntKind.i64 a1), (T.int IntKind.i64 a2)] = some r :=
 fn_of (n := 3000) (by kernel_rfl) h
theorem fn26 (a0_0 : List UInt8) (a0_1 : T) (a0_2 : T) (a0_3 : T) (r : T) (h : (
 bif (vfits (V.t (T.agg [(T.str a0_0), a0_1, a0_2, a0_3])) (some 4)) then
 ((derefT (some 4) (T.ptr (T.agg [(T.str a0_0), a0_1, a0_2, a0_3])))).bind fun x1 =>
 ((T.agg? (List.length [D.str, (D.slice 9), (D.slice 38), (D.slice 4)]) x1)).bind fun x2 =>
 ((T.str? (nthT x2 0))).bind fun x3 =>
 ((fnO acfg 64 [(T.agg [(T.str x3), (nthT x2 1), (nthT x2 2), (nthT x2 3)]), T.nils])).bind fun x4 =>
 ((T.tup? (List.length [74, 30]) x4)).bind fun x5 =>
 ((T.int? IntKind.i64 (nthT x5 1))).bind fun x6 =>
 bif (bNot (iEq x6 0)) then
  some (T.tup [(T.int IntKind.i64 0), (T.int IntKind.i64 x6)])
 else
  ((fnO acfg 71 [(nthT x5 0), (T.int IntKind.i64 0)])).bind fun x7 =>
  bif (T.scalar x7) then
  ((T.int? IntKind.i64 x7)).bind fun x8 =>
  some (T.tup [(T.int IntKind.i64 x8), (T.int IntKind.i64 0)])
  else none
 else none) = some r) : fnO acfg 26 [(T.agg [(T.str a0_0), a0_1, a0_2, a0_3])] = some r :=
 fn_of (n := 3000) (by kernel_rfl) h
theorem fn25 (a0_0 : List UInt8) (a0_1 : T) (a0_2 : T) (a0_3 : T) (a1 : Int) (r : T) (h : (
 bif (vfits (V.t (T.agg [(T.str a0_0), a0_1, a0_2, a0_3])) (some 4)) then
 ((derefT (some 4) (T.ptr (T.agg [(T.str a0_0), a0_1, a0_2, a0_3])))).bind fun x1 =>
 ((T.agg? (List.length [D.str, (D.slice 9), (D.slice 38), (D.slice 4)]) x1)).bind fun x2 =>
 ((T.str? (nthT x2 0))).bind fun x3 =>
 ((derefT none (T.ptr (T.int IntKind.i64 a1)))).bind fun x4 =>
 ((T.int? IntKind.i64 x4)).bind fun x5 =>
 ((fnO acfg 64 [(T.agg [(T.str x3), (nthT x2 1), (nthT x2 2), (nthT x2 3)]), (T.sl true 1 [(T.int IntKind.i64 x5)])])).bind fun x6 =>
 ((T.tup? (List.length [74, 30]) x6)).bind fun x7 =>
 ((T.int? IntKind.i64 (nthT x7 1))).bind fun x8 =>
 bif (vfits (V.t (nthT x7 0)) none) then
 bif (oneT (nthT x7 0)) then
 bif (bNot (iEq x8 0)) then
  some (T.tup [T.nils, (T.int IntKind.i64 x8)])
 else
  ((derefT none (T.ptr (nthT x7 0)))).bind fun x9 =>
  ((derefT none (T.ptr (nthT x7 0)))).bind fun x10 =>
  ((fnO acfg 66 [x10, (T.fn (Fn.func 69) [] [(T.ptr (nthT x7 0)), (T.ptr (T.int IntKind.i64 a1))])])).bind fun x11 =>
  ((fnO acfg 68 [x9, x11])).bind fun x12 =>
  some (T.tup [x12, (T.int IntKind.i64 0)])
 else none
 else none
 else none) = some r) : fnO acfg 25 [(T.agg [(T.str a0_0), a0_1, a0_2, a0_3]), (T.int IntKind.i64 a1)] = some r :=
 fn_of (n := 3000) (by kernel_rfl) h
theorem fn24 (a0_0 : List UInt8) (a0_1 : T) (a0_2 : T) (a0_3 : T) (r : T) (h : (
 bif (vfits (V.t (T.agg [(T.str a0_0), a0_1, a0_2, a0_3])) (some 4)) then
 ((derefT (some 4) (T.ptr (T.agg [(T.str a0_0), a0_1, a0_2, a0_3])))).bind fun x1 =>
 ((T.agg? (List.length [D.str, (D.slice 9), (D.slice 38), (D.slice 4)]) x1)).bind fun x2 =>
 ((T.str? (nthT x2 0))).bind fun x3 =>
 ((fnO acfg 64 [(T.agg [(T.str x3), (nthT x2 1), (nthT x2 2), (nthT x2 3)]), T.nils])).bind fun x4 =>
 ((T.tup? (List.length [74, 30]) x4)).bind fun x5 =>
 ((T.int? IntKind.i64 (nthT x5 1))).bind fun x6 =>
 bif (bNot (iEq x6 0)) then
  some (T.tup [T.nils, (T.int IntKind.i64 x6)])
 else
  ((fnO acfg 66 [(nthT x5 0), (T.fn (Fn.func 67) [(nthT x5 0)] [])])).bind fun x7 =>
  some (T.tup [x7, (T.int IntKind.i64 0)])
 else none) = some r) : fnO acfg 24 [(T.agg [(T.str a0_0), a0_1, a0_2, a0_3])] = some r :=
 fn_of (n := 3000) (by kernel_rfl) h
theorem fn23 (a0_0 : List UInt8) (a0_1 : T) (a0_2 : T) (a0_3 : T) (a1 : Int) (a2 : Int) (r : T) (h : (
 bif (vfits (V.t (T.agg [(T.str a0_0), a0_1, a0_2, a0_3])) (some 4)) then
 ((derefT (some 4) (T.ptr (T.agg [(T.str a0_0), a0_1, a0_2, a0_3])))).bind fun x1 =>
 ((T.agg? (List.length [D.str, (D.slice 9), (D.slice 38), (D.slice 4)]) x1)).bind fun x2 =>
 ((T.str? (nthT x2 0))).bind fun x3 =>
 ((fnO acfg 64 [(T.agg [(T.str x3), (nthT x2 1), (nthT x2 2), (nthT x2 3)]), (T.sl true 1 [(T.int IntKind.i64 a1), (T.int IntKind.i64 a2)])])).bind fun x4 =>
 ((T.tup? (List.length [74, 30]) x4)).bind fun x5 =>
 ((T.int? IntKind.i64 (nthT x5 1))).bind fun x6 =>
 bif (bNot (iEq x6 0)) then
  some (T.tup [(T.int IntKind.i64 0), (T.int IntKind.i64 x6)])
 else
  ((fnO acfg 65 [(nthT x5 0), (T.int IntKind.i64 a1), (T.int IntKind.i64 a2)])).bind fun x7 =>
  bif (T.scalar x7) then
  ((T.tup? (List.length [3, 4]) x7)).bind fun x8 =>
  ((T.int? IntKind.i64 (nthT x8 0))).bind fun x9 =>
  ((T.bool? (nthT x8 1))).bind fun x10 =>
  some (T.tup [(T.int IntKind.i64 x9), (T.int IntKind.i64 0)])
  else none
 else none) = some r) : fnO acfg 23 [(T.agg [(T.str a0_0), a0_1, a0_2, a0_3]), (T.int IntKind.i64 a1), (T.int IntKind.i64 a2)] = some r :=
 fn_of (n := 3000) (by kernel_rfl) h
theorem fn5 (a0_0 : List UInt8) (a0_1 : T) (a0_2 : T) (a0_3 : T) (a1_0 : Int) (a1_1 : Int) (r : T) (h : (
 bif (vfits (V.t (T.agg [(T.str a0_0), a0_1, a0_2, a0_3])) (some 4)) then
 bif (vfits (V.t (T.agg [(T.int IntKind.i64 a1_0), (T.int IntKind.i64 a1_1)])) (some 2)) then
 ((derefT (some 4) (T.ptr (T.agg [(T.str a0_0), a0_1, a0_2, a0_3])))).bind fun x1 =>
 ((T.agg? (List.length [D.str, (D.slice 9), (D.slice 38), (D.slice 4)]) x1)).bind fun x2 =>
 ((T.str? (nthT x2 0))).bind fun x3 =>
 ((fnO acfg 13 [(T.agg [(T.str x3), (nthT x2 1), (nthT x2 2), (nthT x2 3)])])).bind fun x4 =>
 bif (T.scalar x4) then
 ((T.bool? x4)).bind fun x5 =>
 bif (bNot x5) then
  ((fnO acfg 14 [])).bind fun x6 =>
  bif (T.scalar x6) then
  ((T.bool? x6)).bind fun x7 =>
  some (T.bool x7)
  else none
 else
  ((derefT (some 4) (T.ptr (T.agg [(T.str a0_0), a0_1, a0_2, a0_3])))).bind fun x8 =>
  ((T.agg? (List.length [D.str, (D.slice 9), (D.slice 38), (D.slice 4)]) x8)).bind fun x9 =>
  ((T.str? (nthT x9 0))).bind fun x10 =>
  ((fnO acfg 15 [(T.agg [(T.str x10), (nthT x9 1), (nthT x9 2), (nthT x9 3)])])).bind fun x11 =>
  ((T.agg? (List.length [D.str, (D.slice 9), (D.slice 38), (D.slice 4)]) x11)).bind fun x12 =>
  ((T.str? (nthT x12 0))).bind fun x13 =>
  bif (vfits (V.t (T.agg [(T.str x13), (nthT x12 1), (nthT x12 2), (nthT x12 3)])) (some 4)) then
  ((derefT (some 4) (T.ptr (T.agg [(T.str x13), (nthT x12 1), (nthT x12 2), (nthT x12 3)])))).bind fun x14 =>
  ((T.agg? (List.length [D.str, (D.slice 9), (D.slice 38), (D.slice 4)]) x14)).bind fun x15 =>
  ((T.str? (nthT x15 0))).bind fun x16 =>
  ((fldT 0 none (T.ptr (T.agg [(T.int IntKind.i64 a1_0), (T.int IntKind.i64 a1_1)])))).bind fun x17 =>
  ((derefT none x17)).bind fun x18 =>
  ((T.int? IntKind.i64 x18)).bind fun x19 =>
  ((fldT 1 none (T.ptr (T.agg [(T.int IntKind.i64 a1_0), (T.int IntKind.i64 a1_1)])))).bind fun x20 =>
  ((derefT none x20)).bind fun x21 =>
  ((T.int? IntKind.i64 x21)).bind fun x22 =>
  ((fnO acfg 23 [(T.agg [(T.str x16), (nthT x15 1), (nthT x15 2), (nthT x15 3)]), (T.int IntKind.i64 x19), (T.int IntKind.i64 x22)])).bind fun x23 =>
  bif (T.scalar x23) then
  ((T.tup? (List.length [3, 30]) x23)).bind fun x24 =>
  ((T.int? IntKind.i64 (nthT x24 0))).bind fun x25 =>
  ((T.int? IntKind.i64 (nthT x24 1))).bind fun x26 =>
  ((derefT (some 4) (T.ptr (T.agg [(T.str x13), (nthT x12 1), (nthT x12 2), (nthT x12 3)])))).bind fun x27 =>
  ((T.agg? (List.length [D.str, (D.slice 9), (D.slice 38), (D.slice 4)]) x27)).bind fun x28 =>
  ((T.str? (nthT x28 0))).bind fun x29 =>
  ((fnO acfg 24 [(T.agg [(T.str x29), (nthT x28 1), (nthT x28 2), (nthT x28 3)])])).bind fun x30 =>
  ((T.tup? (List.length [38, 30]) x30)).bind fun x31 =>
  ((T.int? IntKind.i64 (nthT x31 1))).bind fun x32 =>
  ((derefT (some 4) (T.ptr (T.agg [(T.str x13), (nthT x12 1), (nthT x12 2), (nthT x12 3)])))).bind fun x33 =>
  ((T.agg? (List.length [D.str, (D.slice 9), (D.slice 38), (D.slice 4)]) x33)).bind fun x34 =>
  ((T.str? (nthT x34 0))).bind fun x35 =>
  ((fldT 0 none (T.ptr (T.agg [(T.int IntKind.i64 a1_0), (T.int IntKind.i64 a1_1)])))).bind fun x36 =>
  ((derefT none x36)).bind fun x37 =>
  ((T.int? IntKind.i64 x37)).bind fun x38 =>
  ((fnO acfg 25 [(T.agg [(T.str x35), (nthT x34 1), (nthT x34 2), (nthT x34 3)]), (T.int IntKind.i64 x38)])).bind fun x39 =>
  ((T.tup? (List.length [38, 30]) x39)).bind fun x40 =>
  ((T.int? IntKind.i64 (nthT x40 1))).bind fun x41 =>
  ((derefT (some 4) (T.ptr (T.agg [(T.str x13), (nthT x12 1), (nthT x12 2), (nthT x12 3)])))).bind fun x42 =>
  ((T.agg? (List.length [D.str, (D.slice 9), (D.slice 38), (D.slice 4)]) x42)).bind fun x43 =>
  ((T.str? (nthT x43 0))).bind fun x44 =>
  ((fnO acfg 26 [(T.agg [(T.str x44), (nthT x43 1), (nthT x43 2), (nthT x43 3)])])).bind fun x45 =>
  bif (T.scalar x45) then
  ((T.tup? (List.length [3, 30]) x45)).bind fun x46 =>
  ((T.int? IntKind.i64 (nthT x46 0))).bind fun x47 =>
  ((T.int? IntKind.i64 (nthT x46 1))).bind fun x48 =>
  ((derefT (some 4) (T.ptr (T.agg [(T.str a0_0), a0_1, a0_2, a0_3])))).bind fun x49 =>
  ((T.agg? (List.length [D.str, (D.slice 9), (D.slice 38), (D.slice 4)]) x49)).bind fun x50 =>
  ((T.str? (nthT x50 0))).bind fun x51 =>
  ((fldT 0 none (T.ptr (T.agg [(T.int IntKind.i64 a1_0), (T.int IntKind.i64 a1_1)])))).bind fun x52 =>
  ((derefT none x52)).bind fun x53 =>
  ((T.int? IntKind.i64 x53)).bind fun x54 =>
  ((fldT 1 none (T.ptr (T.agg [(T.int IntKind.i64 a1_0), (T.int IntKind.i64 a1_1)])))).bind fun x55 =>
  ((derefT none x55)).bind fun x56 =>
  ((T.int? IntKind.i64 x56)).bind fun x57 =>
  ((fnO acfg 27 [(T.agg [(T.str x51), (nthT x50 1), (nthT x50 2), (nthT x50 3)]), (T.int IntKind.i64 x54), (T.int IntKind.i64 x57)])).bind fun x58 =>
  bif (T.scalar x58) then
  ((T.tup? (List.length [3, 30]) x58)).bind fun x59 =>
  ((T.int? IntKind.i64 (nthT x59 0))).bind fun x60 =>
  ((T.int? IntKind.i64 (nthT x59 1))).bind fun x61 =>
  ((derefT (some 4) (T.ptr (T.agg [(T.str a0_0), a0_1, a0_2, a0_3])))).bind fun x62 =>
  ((T.agg? (List.length [D.str, (D.slice 9), (D.slice 38), (D.slice 4)]) x62)).bind fun x63 =>
  ((T.str? (nthT x63 0))).bind fun x64 =>
  ((fnO acfg 28 [(T.agg [(T.str x64), (nthT x63 1), (nthT x63 2), (nthT x63 3)])])).bind fun x65 =>
  ((T.tup? (List.length [38, 30]) x65)).bind fun x66 =>
  ((T.int? IntKind.i64 (nthT x66 1))).bind fun x67 =>
  ((derefT (some 4) (T.ptr (T.agg [(T.str a0_0), a0_1, a0_2, a0_3])))).bind fun x68 =>
  ((T.agg? (List.length [D.str, (D.slice 9), (D.slice 38), (D.slice 4)]) x68)).bind fun x69 =>
  ((T.str? (nthT x69 0))).bind fun x70 =>
  ((fldT 0 none (T.ptr (T.agg [(T.int IntKind.i64 a1_0), (T.int IntKind.i64 a1_1)])))).bind fun x71 =>
  ((derefT none x71)).bind fun x72 =>
  ((T.int? IntKind.i64 x72)).bind fun x73 =>
  ((fnO acfg 29 [(T.agg [(T.str x70), (nthT x69 1), (nthT x69 2), (nthT x69 3)]), (T.int IntKind.i64 x73)])).bind fun x74 =>
  ((T.tup? (List.length [38, 30]) x74)).bind fun x75 =>
  ((T.int? IntKind.i64 (nthT x75 1))).bind fun x76 =>
  ((derefT (some 4) (T.ptr (T.agg [(T.str a0_0), a0_1, a0_2, a0_3])))).bind fun x77 =>
  ((T.agg? (List.length [D.str, (D.slice 9), (D.slice 38), (D.slice 4)]) x77)).bind fun x78 =>
  ((T.str? (nthT x78 0))).bind fun x79 =>
  ((fnO acfg 30 [(T.agg [(T.str x79), (nthT x78 1), (nthT x78 2), (nthT x78 3)])])).bind fun x80 =>
  bif (T.scalar x80) then
  ((T.tup? (List.length [3, 30]) x80)).bind fun x81 =>
  ((T.int? IntKind.i64 (nthT x81 0))).bind fun x82 =>
  ((T.int? IntKind.i64 (nthT x81 1))).bind fun x83 =>
  bif (iEq x25 x60) then
   bif (iEq x26 x61) then
    ((fnO acfg 31 [(nthT x31 0), (nthT x66 0)])).bind fun x84 =>
    bif (T.scalar x84) then
    ((T.bool? x84)).bind fun x85 =>
    bif x85 then
     bif (iEq x32 x67) then
      ((fnO acfg 31 [(nthT x40 0), (nthT x75 0)])).bind fun x86 =>
      bif (T.scalar x86) then
      ((T.bool? x86)).bind fun x87 =>
      bif x87 then
       bif (iEq x41 x76) then
        bif (iEq x47 x82) then
         bif (iEq x48 x83) then
          ((derefT (some 4) (T.ptr (T.agg [(T.str x13), (nthT x12 1), (nthT x12 2), (nthT x12 3)])))).bind fun x88 =>
          ((T.agg? (List.length [D.str, (D.slice 9), (D.slice 38), (D.slice 4)]) x88)).bind fun x89 =>
          ((T.str? (nthT x89 0))).bind fun x90 =>
          ((derefT (some 4) (T.ptr (T.agg [(T.str a0_0), a0_1, a0_2, a0_3])))).bind fun x91 =>
          ((T.agg? (List.length [D.str, (D.slice 9), (D.slice 38), (D.slice 4)]) x91)).bind fun x92 =>
          ((T.str? (nthT x92 0))).bind fun x93 =>
          ((fnO acfg 20 [(T.agg [(T.str x90), (nthT x89 1), (nthT x89 2), (nthT x89 3)]), (T.agg [(T.str x93), (nthT x92 1), (nthT x92 2), (nthT x92 3)])])).bind fun x94 =>
          bif (T.scalar x94) then
          ((T.bool? x94)).bind fun x95 =>
          bif x95 then
           ((fnO acfg 14 [])).bind fun x96 =>
           bif (T.scalar x96) then
           ((T.bool? x96)).bind fun x97 =>
           some (T.bool x97)
           else none
          else
           some (T.bool false)
          else none
         else
          some (T.bool false)
        else
         some (T.bool false)
       else
        some (T.bool false)
      else
       some (T.bool false)
      else none
     else
      some (T.bool false)
    else
     some (T.bool false)
    else none
   else
    some (T.bool false)
  else
   some (T.bool false)
  else none
  else none
  else none
  else none
  else none
 else none
 else none
 else none) = some r) : fnO acfg 5 [(T.agg [(T.str a0_0), a0_1, a0_2, a0_3]), (T.agg [(T.int IntKind.i64 a1_0), (T.int IntKind.i64 a1_1)])] = some r :=
 fn_of (n := 3000) (by kernel_rfl) h
end Go.Proofs.Try
