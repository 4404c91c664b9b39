import Derived.Test.YtcljaeknhmpecaaGreatCfg
import Derived.Test.YtcljaeknhmpecaaGreatApexA44
import Derived.KernelRfl
import Derived.Test.YtcljaeknhmpecaaGreatApexA49
set_option linter.all false
namespace Go.Proofs.Tryz
open Go Go.Apex
set_option maxRecDepth 100000
abbrev tblT (n : List UInt8) (e a w : T) : T := .agg [.str n, e, a, w]
abbrev D4 := [D.str, D.slice 9, D.slice 52, D.slice 4]
noncomputable section
theorem fn73 (a0 a1 a2 : Int) (r : T) (h : (
 bif iLe a1 a0 then
  some (T.bool (iLe a0 a2))
 else
  some (T.bool false)) = some r) : fnO acfg 73 [T.int .i64 a0, T.int .i64 a1, T.int .i64 a2] = some r :=
 fo h
def L74_1 (v0 : List UInt8) (v1 : Int) : Option T := runO acfg (pureFin acfg 74) [.loop 74 none (codeOf acfg 74 [1, 1, 0, 1, 0, 0]), .block 0, .code 74 none (codeOf acfg 74 [1, 1, 1])] ⟨mkTs 48 [(0, V.t (T.str v0)), (3, V.t (T.int .i64 v1))], ⟨16, mkTr []⟩, []⟩
theorem L74_1_step (v0 : List UInt8) (v1 : Int) (r : T) (h : (
 bif iLt v1 (sLen v0) then
  (byteAt v0 v1).bind fun x1 =>
  bif iLe 97 x1 then
   (byteAt v0 v1).bind fun x2 =>
   bif bNot (iLe x2 122) then
    (byteAt v0 v1).bind fun x3 =>
    bif iLe 48 x3 then
     (byteAt v0 v1).bind fun x4 =>
     bif bNot (iLe x4 57) then
      some (T.bool false)
     else
      L74_1 v0 (iAdd .i64 v1 1)
    else
     some (T.bool false)
   else
    L74_1 v0 (iAdd .i64 v1 1)
  else
   (byteAt v0 v1).bind fun x5 =>
   bif iLe 48 x5 then
    (byteAt v0 v1).bind fun x6 =>
    bif bNot (iLe x6 57) then
     some (T.bool false)
    else
     L74_1 v0 (iAdd .i64 v1 1)
   else
    some (T.bool false)
 else
  some (T.bool true)) = some r) : L74_1 v0 v1 = some r :=
 rd h
theorem fn74 (a0 : List UInt8) (r : T) (h : (
 (fnO acfg 73 [T.int .i64 (sLen a0), T.int .i64 1, T.int .i64 12]).bind fun x1 =>
 bif T.scalar x1 then
 (T.bool? x1).bind fun x2 =>
 bif bNot x2 then
  some (T.bool false)
 else
  (byteAt a0 0).bind fun x3 =>
  bif iLt x3 97 then
   some (T.bool false)
  else
   (byteAt a0 0).bind fun x4 =>
   bif iLt 122 x4 then
    some (T.bool false)
   else
    L74_1 a0 0
 else none) = some r) : fnO acfg 74 [T.str a0] = some r :=
 fo h
def L75_1 (v0 : T) (v1 : List UInt8) (v2 : Int) : Option T := runO acfg (pureFin acfg 75) [.loop 75 none (codeOf acfg 75 [1, 0, 1, 0, 0]), .block 0, .code 75 none (codeOf acfg 75 [1, 1])] ⟨mkTs 19 [(0, V.t v0), (1, V.t (T.str v1)), (5, V.t (T.int .i64 v2))], ⟨2, mkTr []⟩, []⟩
theorem L75_1_step (v0 : T) (v1 : List UInt8) (v2 : Int) (r : T) (h : (
 (lenT v0).bind fun x1 =>
 bif iLt v2 x1 then
  (idxT 1 v0 v2).bind fun x2 =>
  (derefT none x2).bind fun x3 =>
  (T.str? x3).bind fun x4 =>
  bif sEq x4 v1 then
   some (T.int .i64 v2)
  else
   L75_1 v0 v1 (iAdd .i64 v2 1)
 else
  some (T.int .i64 (-1))) = some r) : L75_1 v0 v1 v2 = some r :=
 rd h
theorem fn75 (a0 : T) (a1 : List UInt8) (r : T) (h : (
 L75_1 a0 a1 0) = some r) : fnO acfg 75 [a0, T.str a1] = some r :=
 fo h
theorem fn72 (a0 : List UInt8) (r : T) (h : (
 (fnO acfg 74 [T.str a0]).bind fun x1 =>
 bif T.scalar x1 then
 (T.bool? x1).bind fun x2 =>
 bif x2 then
  (fnO acfg 98 []).bind fun x3 =>
  (fnO acfg 75 [x3, T.str a0]).bind fun x4 =>
  bif T.scalar x4 then
  (T.int? .i64 x4).bind fun x5 =>
  some (T.bool (iLt x5 0))
  else none
 else
  some (T.bool false)
 else none) = some r) : fnO acfg 72 [T.str a0] = some r :=
 fo h
theorem fn98  (r : T) (h : (
 some (T.sl true 1 [T.str [102, 108, 97, 103], T.str [109, 97, 120], T.str [115, 101, 116], T.str [111, 110, 99, 101], T.str [109, 97, 112], T.str [112, 97, 105, 114]])) = some r) : fnO acfg 98 [] = some r :=
 fo h
def L57_1 (v0 : List UInt8) (v1 v2 : Int) : Option T := runO acfg (pureFin acfg 57) [.loop 57 none (codeOf acfg 57 [1, 0, 1, 0, 0]), .block 0, .code 57 none (codeOf acfg 57 [1, 1])] ⟨mkTs 50 [(0, V.t (T.str v0)), (7, V.t (T.int .i64 v1)), (8, V.t (T.int .i64 v2))], ⟨4, mkTr []⟩, []⟩
theorem L57_1_step (v0 : List UInt8) (v1 v2 : Int) (r : T) (h : (
 bif iLt v2 v1 then
  (byteAt v0 v2).bind fun x1 =>
  bif iLe 97 x1 then
   (byteAt v0 v2).bind fun x2 =>
   (byteAt v0 v2).bind fun x3 =>
   bif iLe 48 x3 then
    (byteAt v0 v2).bind fun x4 =>
    bif bNot (iLe x2 122) then
     bif bNot (iLe x4 57) then
      some (T.bool false)
     else
      bif iEq v2 0 then
       some (T.bool false)
      else
       L57_1 v0 v1 (iAdd .i64 v2 1)
    else
     L57_1 v0 v1 (iAdd .i64 v2 1)
   else
    bif bNot (iLe x2 122) then
     some (T.bool false)
    else
     L57_1 v0 v1 (iAdd .i64 v2 1)
  else
   (byteAt v0 v2).bind fun x5 =>
   bif iLe 48 x5 then
    (byteAt v0 v2).bind fun x6 =>
    bif bNot (iLe x6 57) then
     some (T.bool false)
    else
     bif iEq v2 0 then
      some (T.bool false)
     else
      L57_1 v0 v1 (iAdd .i64 v2 1)
   else
    some (T.bool false)
 else
  bif iLt 0 (sLen v0) then
   some (T.bool (iLe (sLen v0) 12))
  else
   some (T.bool false)) = some r) : L57_1 v0 v1 v2 = some r :=
 rd h
theorem fn57 (a0 : List UInt8) (r : T) (h : (
 L57_1 a0 (sLen a0) 0) = some r) : fnO acfg 57 [T.str a0] = some r :=
 fo h
theorem fn62 (a0 : List UInt8) (r : T) (h : (
 (fnO acfg 70 []).bind fun x1 =>
 (lookT (some (T.int .u8 0)) x1 (T.str a0)).bind fun x2 =>
 (T.int? .u8 x2.1).bind fun x3 =>
 (fnO acfg 57 [T.str a0]).bind fun x4 =>
 bif T.scalar x4 then
 (T.bool? x4).bind fun x5 =>
 bif x5 then
  some (T.bool (bNot x2.2))
 else
  some (T.bool false)
 else none) = some r) : fnO acfg 62 [T.str a0] = some r :=
 fo h
def L97_1 (v0 : T) (v1 : List UInt8) (v2 v3 : Int) : Option T := runO acfg (pureFin acfg 97) [.loop 97 none (codeOf acfg 97 [1, 0, 1, 0, 0]), .block 0, .code 97 none (codeOf acfg 97 [1, 1])] ⟨mkTs 19 [(0, V.t v0), (1, V.t (T.str v1)), (7, V.t (T.int .i64 v2)), (8, V.t (T.int .i64 v3))], ⟨4, mkTr []⟩, []⟩
theorem L97_1_step (v0 : T) (v1 : List UInt8) (v2 v3 : Int) (r : T) (h : (
 bif iLt v3 v2 then
  (idxT 1 v0 v3).bind fun x1 =>
  (derefT none x1).bind fun x2 =>
  (T.str? x2).bind fun x3 =>
  bif sEq v1 x3 then
   some (T.int .i64 v3)
  else
   L97_1 v0 v1 v2 (iAdd .i64 v3 1)
 else
  some (T.int .i64 (-1))) = some r) : L97_1 v0 v1 v2 v3 = some r :=
 rd h
theorem fn97 (a0 : T) (a1 : List UInt8) (r : T) (h : (
 (lenT a0).bind fun x1 =>
 L97_1 a0 a1 x1 0) = some r) : fnO acfg 97 [a0, T.str a1] = some r :=
 fo h
theorem fn58 (a0 : T) (a1 : List UInt8) (r : T) (h : (
 (fnO acfg 97 [a0, T.str a1]).bind fun x1 =>
 bif T.scalar x1 then
 (T.int? .i64 x1).bind fun x2 =>
 some (T.bool (iLe 0 x2))
 else none) = some r) : fnO acfg 58 [a0, T.str a1] = some r :=
 fo h
theorem fn55 (a0 a1 : Int) (c0 r : T) (h : (
 bif iLe 0 a1 then
  (derefT none c0).bind fun x1 =>
  (T.int? .i64 x1).bind fun x2 =>
  some (T.bool (iLt a1 x2))
 else
  some (T.bool false)) = some r) : fnO acfg 55 [T.int .i64 a0, T.int .i64 a1, c0] = some r :=
 fo h
theorem fn56 (a0 : Int) (a1 : List UInt8) (c0 r : T) (h : (
 (fnO acfg 57 [T.str a1]).bind fun x1 =>
 bif T.scalar x1 then
 (T.bool? x1).bind fun x2 =>
 bif x2 then
  (fldT 1 none c0).bind fun x3 =>
  (derefT none x3).bind fun x4 =>
  (subT 1 x4 none (some a0) none).bind fun x5 =>
  (fnO acfg 58 [x5, T.str a1]).bind fun x6 =>
  bif T.scalar x6 then
  (T.bool? x6).bind fun x7 =>
  some (T.bool (bNot x7))
  else none
 else
  some (T.bool false)
 else none) = some r) : fnO acfg 56 [T.int .i64 a0, T.str a1, c0] = some r :=
 fo h
theorem fn59 (a0 : Int) (a1 c0 r : T) (h : (
 bif vfits (V.t a1) none then
 (derefT none (T.ptr a1)).bind fun x1 =>
 (derefT none c0).bind fun x2 =>
 (fnO acfg 61 [x1, x2]).bind fun x3 =>
 bif T.scalar x3 then
 (T.bool? x3).bind fun x4 =>
 bif x4 then
  (derefT none (T.ptr a1)).bind fun x5 =>
  (fnO acfg 61 [x5, T.fn (Fn.func 60) [] [T.ptr a1]]).bind fun x6 =>
  bif T.scalar x6 then
  (T.bool? x6).bind fun x7 =>
  some (T.bool x7)
  else none
 else
  some (T.bool false)
 else none
 else none) = some r) : fnO acfg 59 [T.int .i64 a0, a1, c0] = some r :=
 fo h
theorem fn60 (a0 a1 : Int) (c0 r : T) (h : (
 bif iEq a0 0 then
  some (T.bool true)
 else
  (derefT none c0).bind fun x1 =>
  (idxT 1 x1 (iSub .i64 a0 1)).bind fun x2 =>
  (derefT none x2).bind fun x3 =>
  (T.int? .i64 x3).bind fun x4 =>
  some (T.bool (iLt x4 a1))) = some r) : fnO acfg 60 [T.int .i64 a0, T.int .i64 a1, c0] = some r :=
 fo h
def L61_1 (v0 v1 : T) (v2 v3 : Int) : Option T := runO acfg (pureFin acfg 61) [.loop 61 none (codeOf acfg 61 [1, 0, 1, 0, 0]), .block 0, .code 61 none (codeOf acfg 61 [1, 1])] ⟨mkTs 20 [(1, V.t v0), (7, V.t v1), (8, V.t (T.int .i64 v2)), (9, V.t (T.int .i64 v3))], ⟨4, mkTr []⟩, []⟩
theorem L61_1_step (v0 v1 : T) (v2 v3 : Int) (r : T) (h : (
 bif iLt v3 v2 then
  (idxT 1 v1 v3).bind fun x1 =>
  (derefT none x1).bind fun x2 =>
  (T.int? .i64 x2).bind fun x3 =>
  (callT acfg v0 [T.int .i64 v3, T.int .i64 x3]).bind fun x4 =>
  (T.bool? x4).bind fun x5 =>
  bif bNot x5 then
   some (T.bool false)
  else
   L61_1 v0 v1 v2 (iAdd .i64 v3 1)
 else
  some (T.bool true)) = some r) : L61_1 v0 v1 v2 v3 = some r :=
 rd h
theorem fn61 (a0 a1 r : T) (h : (
 (lenT a0).bind fun x1 =>
 L61_1 a1 a0 x1 0) = some r) : fnO acfg 61 [a0, a1] = some r :=
 fo h
def L63_1 (v0 v1 : T) (v2 v3 : Int) : Option T := runO acfg (pureFin acfg 63) [.loop 63 none (codeOf acfg 63 [1, 0, 1, 0, 0]), .block 0, .code 63 none (codeOf acfg 63 [1, 1])] ⟨mkTs 20 [(1, V.t v0), (7, V.t v1), (8, V.t (T.int .i64 v2)), (9, V.t (T.int .i64 v3))], ⟨4, mkTr []⟩, []⟩
theorem L63_1_step (v0 v1 : T) (v2 v3 : Int) (r : T) (h : (
 bif iLt v3 v2 then
  (idxT 1 v1 v3).bind fun x1 =>
  (derefT none x1).bind fun x2 =>
  (T.str? x2).bind fun x3 =>
  (callT acfg v0 [T.int .i64 v3, T.str x3]).bind fun x4 =>
  (T.bool? x4).bind fun x5 =>
  bif bNot x5 then
   some (T.bool false)
  else
   L63_1 v0 v1 v2 (iAdd .i64 v3 1)
 else
  some (T.bool true)) = some r) : L63_1 v0 v1 v2 v3 = some r :=
 rd h
theorem fn63 (a0 a1 r : T) (h : (
 (lenT a0).bind fun x1 =>
 L63_1 a1 a0 x1 0) = some r) : fnO acfg 63 [a0, a1] = some r :=
 fo h
def L64_1 (v0 v1 : T) (v2 v3 : Int) : Option T := runO acfg (pureFin acfg 64) [.loop 64 none (codeOf acfg 64 [1, 0, 1, 0, 0]), .block 0, .code 64 none (codeOf acfg 64 [1, 1])] ⟨mkTs 20 [(1, V.t v0), (7, V.t v1), (8, V.t (T.int .i64 v2)), (9, V.t (T.int .i64 v3))], ⟨4, mkTr []⟩, []⟩
theorem L64_1_step (v0 v1 : T) (v2 v3 : Int) (r : T) (h : (
 bif iLt v3 v2 then
  (idxT 1 v1 v3).bind fun x1 =>
  (derefT none x1).bind fun x2 =>
  (callT acfg v0 [T.int .i64 v3, x2]).bind fun x3 =>
  (T.bool? x3).bind fun x4 =>
  bif bNot x4 then
   some (T.bool false)
  else
   L64_1 v0 v1 v2 (iAdd .i64 v3 1)
 else
  some (T.bool true)) = some r) : L64_1 v0 v1 v2 v3 = some r :=
 rd h
theorem fn64 (a0 a1 r : T) (h : (
 (lenT a0).bind fun x1 =>
 L64_1 a1 a0 x1 0) = some r) : fnO acfg 64 [a0, a1] = some r :=
 fo h
theorem fn24 (p : List UInt8) (q s u r : T) (h : (
 bif (vfits (V.t (tblT p q s u)) (some 4)) then
 (fldT 1 none (T.ptr (tblT p q s u))).bind fun x1 =>
 (derefT none x1).bind fun x2 =>
 (lenT x2).bind fun x3 =>
 (fnO acfg 62 [T.str p]).bind fun x4 =>
 bif T.scalar x4 then
 (T.bool? x4).bind fun x5 =>
 bif bNot x5 then
  some (T.int .i64 4)
 else
  bif iLt x3 1 then
   some (T.int .i64 4)
  else
   bif iLt 12 x3 then
    some (T.int .i64 4)
   else
    (fldT 2 none (T.ptr (tblT p q s u))).bind fun x6 =>
    (derefT none x6).bind fun x7 =>
    (lenT x7).bind fun x8 =>
    bif bNot (iEq x8 x3) then
     some (T.int .i64 4)
    else
     (fldT 3 none (T.ptr (tblT p q s u))).bind fun x9 =>
     (derefT none x9).bind fun x10 =>
     (lenT x10).bind fun x11 =>
     bif bNot (iEq x11 x3) then
      some (T.int .i64 4)
     else
      (fldT 1 none (T.ptr (tblT p q s u))).bind fun x12 =>
      (derefT none x12).bind fun x13 =>
      (fnO acfg 63 [x13, T.fn (Fn.func 56) [] [T.ptr (tblT p q s u)]]).bind fun x14 =>
      bif T.scalar x14 then
      (T.bool? x14).bind fun x15 =>
      bif bNot x15 then
       some (T.int .i64 4)
      else
       (fldT 2 none (T.ptr (tblT p q s u))).bind fun x16 =>
       (derefT none x16).bind fun x17 =>
       (fnO acfg 64 [x17, T.fn (Fn.func 59) [] [T.ptr (T.fn (Fn.func 55) [] [T.ptr (T.int .i64 x3)])]]).bind fun x18 =>
       bif T.scalar x18 then
       (T.bool? x18).bind fun x19 =>
       bif bNot x19 then
        some (T.int .i64 4)
       else
        some (T.int .i64 0)
       else none
      else none
 else none
 else none) = some r) : fnO acfg 24 [tblT p q s u] = some r :=
 fo h
def L39_1 (v0 : List UInt8) (v1 v2 v3 : T) (v4 v5 : Int) : Option T := runO acfg (pureFin acfg 39) [.loop 39 none (codeOf acfg 39 [1, 1, 1, 0, 1, 0, 0]), .block 0, .code 39 none (codeOf acfg 39 [1, 1, 1, 1])] ⟨mkTs 102 [(1, V.t (T.ptr (tblT v0 v1 v2 v3))), (3, V.t (T.int .i64 v4)), (4, V.t (T.int .i64 v5))], ⟨30, mkTr []⟩, []⟩
def L39_2 (v0 : List UInt8) (v1 v2 v3 : T) (v4 v5 v6 : Int) : Option T := runO acfg (pureFin acfg 39) [.loop 39 none (codeOf acfg 39 [1, 1, 1, 0, 1, 0, 0, 1, 0, 0, 1, 1, 0, 0]), .block 2, .block 1, .code 39 none (codeOf acfg 39 [1, 1, 1, 0, 1, 0, 0, 1, 1]), .round 39 none (codeOf acfg 39 [1, 1, 1, 0, 1, 0, 0]) 30, .block 0, .code 39 none (codeOf acfg 39 [1, 1, 1, 1])] ⟨mkTs 102 [(1, V.t (T.ptr (tblT v0 v1 v2 v3))), (3, V.t (T.int .i64 v4)), (4, V.t (T.int .i64 v5)), (5, V.t (T.int .i64 v6))], ⟨53, mkTr []⟩, []⟩
theorem L39_1_step (v0 : List UInt8) (v1 v2 v3 : T) (v4 v5 : Int) (r : T) (h : (
 bif iLt v5 v4 then
  (fldT 1 none (T.ptr (tblT v0 v1 v2 v3))).bind fun x1 =>
  (derefT none x1).bind fun x2 =>
  (idxT 1 x2 v5).bind fun x3 =>
  (derefT none x3).bind fun x4 =>
  (T.str? x4).bind fun x5 =>
  (fnO acfg 74 [T.str x5]).bind fun x6 =>
  bif T.scalar x6 then
  (T.bool? x6).bind fun x7 =>
  bif bNot x7 then
   some (T.int .i64 4)
  else
   (fldT 1 none (T.ptr (tblT v0 v1 v2 v3))).bind fun x8 =>
   (derefT none x8).bind fun x9 =>
   (fldT 1 none (T.ptr (tblT v0 v1 v2 v3))).bind fun x10 =>
   (derefT none x10).bind fun x11 =>
   (idxT 1 x11 v5).bind fun x12 =>
   (derefT none x12).bind fun x13 =>
   (T.str? x13).bind fun x14 =>
   (fnO acfg 75 [x9, T.str x14]).bind fun x15 =>
   bif T.scalar x15 then
   (T.int? .i64 x15).bind fun x16 =>
   bif bNot (iEq x16 v5) then
    some (T.int .i64 4)
   else
    L39_2 v0 v1 v2 v3 v4 v5 0
   else none
  else none
 else
  some (T.int .i64 0)) = some r) : L39_1 v0 v1 v2 v3 v4 v5 = some r :=
 rd h
theorem L39_2_step (v0 : List UInt8) (v1 v2 v3 : T) (v4 v5 v6 : Int) (r : T) (h : (
 (fldT 2 none (T.ptr (tblT v0 v1 v2 v3))).bind fun x1 =>
 (derefT none x1).bind fun x2 =>
 (idxT 1 x2 v5).bind fun x3 =>
 (derefT none x3).bind fun x4 =>
 (lenT x4).bind fun x5 =>
 bif iLt v6 x5 then
  (fldT 2 none (T.ptr (tblT v0 v1 v2 v3))).bind fun x6 =>
  (derefT none x6).bind fun x7 =>
  (idxT 1 x7 v5).bind fun x8 =>
  (derefT none x8).bind fun x9 =>
  (idxT 1 x9 v6).bind fun x10 =>
  (derefT none x10).bind fun x11 =>
  (T.int? .i64 x11).bind fun x12 =>
  (fnO acfg 73 [T.int .i64 x12, T.int .i64 0, T.int .i64 (iSub .i64 v4 1)]).bind fun x13 =>
  bif T.scalar x13 then
  (T.bool? x13).bind fun x14 =>
  bif bNot x14 then
   some (T.int .i64 4)
  else
   bif iLt 0 v6 then
    (fldT 2 none (T.ptr (tblT v0 v1 v2 v3))).bind fun x15 =>
    (derefT none x15).bind fun x16 =>
    (idxT 1 x16 v5).bind fun x17 =>
    (derefT none x17).bind fun x18 =>
    (idxT 1 x18 v6).bind fun x19 =>
    (derefT none x19).bind fun x20 =>
    (T.int? .i64 x20).bind fun x21 =>
    (fldT 2 none (T.ptr (tblT v0 v1 v2 v3))).bind fun x22 =>
    (derefT none x22).bind fun x23 =>
    (idxT 1 x23 v5).bind fun x24 =>
    (derefT none x24).bind fun x25 =>
    (idxT 1 x25 (iSub .i64 v6 1)).bind fun x26 =>
    (derefT none x26).bind fun x27 =>
    (T.int? .i64 x27).bind fun x28 =>
    bif iLe x21 x28 then
     some (T.int .i64 4)
    else
     L39_2 v0 v1 v2 v3 v4 v5 (iAdd .i64 v6 1)
   else
    L39_2 v0 v1 v2 v3 v4 v5 (iAdd .i64 v6 1)
  else none
 else
  L39_1 v0 v1 v2 v3 v4 (iAdd .i64 v5 1)) = some r) : L39_2 v0 v1 v2 v3 v4 v5 v6 = some r :=
 rd h
theorem fn39 (p : List UInt8) (q s u r : T) (h : (
 bif (vfits (V.t (tblT p q s u)) (some 4)) then
 (fldT 1 none (T.ptr (tblT p q s u))).bind fun x1 =>
 (derefT none x1).bind fun x2 =>
 (lenT x2).bind fun x3 =>
 (fnO acfg 72 [T.str p]).bind fun x4 =>
 bif T.scalar x4 then
 (T.bool? x4).bind fun x5 =>
 bif bNot x5 then
  some (T.int .i64 4)
 else
  (fnO acfg 73 [T.int .i64 x3, T.int .i64 1, T.int .i64 12]).bind fun x6 =>
  bif T.scalar x6 then
  (T.bool? x6).bind fun x7 =>
  bif bNot x7 then
   some (T.int .i64 4)
  else
   (fldT 2 none (T.ptr (tblT p q s u))).bind fun x8 =>
   (derefT none x8).bind fun x9 =>
   (lenT x9).bind fun x10 =>
   bif bNot (iEq x10 x3) then
    some (T.int .i64 4)
   else
    (fldT 3 none (T.ptr (tblT p q s u))).bind fun x11 =>
    (derefT none x11).bind fun x12 =>
    (lenT x12).bind fun x13 =>
    bif bNot (iEq x13 x3) then
     some (T.int .i64 4)
    else
     L39_1 p q s u x3 0
  else none
 else none
 else none) = some r) : fnO acfg 39 [tblT p q s u] = some r :=
 fo h
end
end Go.Proofs.Tryz

namespace Go.Proofs.Tryz
open Go Go.Apex
set_option maxRecDepth 100000
noncomputable section
def L6_1 (v0 : List UInt8) (v1 v2 v3 : T) (v4 : Int) : Option T := runO acfg (pureFin acfg 6) [.loop 6 none (codeOf acfg 6 [1, 1, 0, 1, 0, 0]), .block 0, .code 6 none (codeOf acfg 6 [1, 1, 1])] ⟨mkTs 55 [(1, V.t (T.ptr (tblT v0 v1 v2 v3))), (3, V.t (T.int .i64 v4))], ⟨25, mkTr []⟩, []⟩
def L6_2 (v0 : List UInt8) (v1 v2 v3 : T) (v4 : Int) : Option T := runO acfg (pureFin acfg 6) [.loop 6 none (codeOf acfg 6 [1, 1, 1, 0, 1, 0, 0]), .block 2, .code 6 none (codeOf acfg 6 [1, 1, 1, 1])] ⟨mkTs 55 [(1, V.t (T.ptr (tblT v0 v1 v2 v3))), (4, V.t (T.int .i64 v4))], ⟨31, mkTr []⟩, []⟩
theorem L6_1_step (v0 : List UInt8) (v1 v2 v3 : T) (v4 : Int) (r : T) (h : (
 (fldT 1 none (T.ptr (tblT v0 v1 v2 v3))).bind fun x1 =>
 (derefT none x1).bind fun x2 =>
 (lenT x2).bind fun x3 =>
 bif iLt v4 x3 then
  (fldT 1 none (T.ptr (tblT v0 v1 v2 v3))).bind fun x4 =>
  (derefT none x4).bind fun x5 =>
  (idxT 1 x5 v4).bind fun x6 =>
  (derefT none x6).bind fun x7 =>
  (T.str? x7).bind fun x8 =>
  bif iLt 30 (sLen x8) then
   some (T.bool false)
  else
   L6_1 v0 v1 v2 v3 (iAdd .i64 v4 1)
 else
  L6_2 v0 v1 v2 v3 0) = some r) : L6_1 v0 v1 v2 v3 v4 = some r :=
 rd h
theorem L6_2_step (v0 : List UInt8) (v1 v2 v3 : T) (v4 : Int) (r : T) (h : (
 (fldT 2 none (T.ptr (tblT v0 v1 v2 v3))).bind fun x1 =>
 (derefT none x1).bind fun x2 =>
 (lenT x2).bind fun x3 =>
 bif iLt v4 x3 then
  (fldT 2 none (T.ptr (tblT v0 v1 v2 v3))).bind fun x4 =>
  (derefT none x4).bind fun x5 =>
  (idxT 1 x5 v4).bind fun x6 =>
  (derefT none x6).bind fun x7 =>
  (lenT x7).bind fun x8 =>
  bif iLt 20 x8 then
   some (T.bool false)
  else
   L6_2 v0 v1 v2 v3 (iAdd .i64 v4 1)
 else
  some (T.bool true)) = some r) : L6_2 v0 v1 v2 v3 v4 = some r :=
 rd h
theorem fn6 (p : List UInt8) (q s u r : T) (h : (
 bif (vfits (V.t (tblT p q s u)) (some 4)) then
 (fldT 1 none (T.ptr (tblT p q s u))).bind fun x1 =>
 (derefT none x1).bind fun x2 =>
 (lenT x2).bind fun x3 =>
 bif iLt 20 x3 then
  some (T.bool false)
 else
  (fldT 2 none (T.ptr (tblT p q s u))).bind fun x4 =>
  (derefT none x4).bind fun x5 =>
  (lenT x5).bind fun x6 =>
  bif iLt 20 x6 then
   some (T.bool false)
  else
   (fldT 3 none (T.ptr (tblT p q s u))).bind fun x7 =>
   (derefT none x7).bind fun x8 =>
   (lenT x8).bind fun x9 =>
   bif iLt 20 x9 then
    some (T.bool false)
   else
    bif iLt 30 (sLen p) then
     some (T.bool false)
    else
     L6_1 p q s u 0
 else none) = some r) : fnO acfg 6 [tblT p q s u] = some r :=
 fo h
def L7_1 (v0 : List UInt8) (v1 v2 v3 : T) (v4 : Int) (v5 v6 : List UInt8) (v7 v8 : T) : Option T := runO acfg (pureFin acfg 7) [.loop 7 none (codeOf acfg 7 [1, 1, 0, 1, 0, 0]), .block 0, .code 7 none (codeOf acfg 7 [1, 1, 1])] ⟨mkTs 36 [(1, V.t (T.ptr (tblT v0 v1 v2 v3))), (2, V.ref 1 0 0 (some 4)), (3, V.ref 13 0 0 (some 4)), (4, V.t (T.int .i64 v4))], ⟨16, mkTr [(1, Apex.Obj.cells 0 33 false [V.t (T.str v5), V.t T.nils, V.t T.nils, V.t T.nils]), (13, Apex.Obj.cells 0 33 false [V.t (T.str v6), V.t v7, V.t T.nils, V.t v8])]⟩, []⟩
def L7_2 (v0 : List UInt8) (v1 v2 v3 : T) (v4 : Int) (v5 v6 : List UInt8) (v7 : T) (v8 v9 v10 : Nat) (v11 : T) (v12 : Nat) (v13 : List V) : Option T := runO acfg (pureFin acfg 7) [.loop 7 none (codeOf acfg 7 [1, 1, 0, 1, 0, 0]), .block 0, .code 7 none (codeOf acfg 7 [1, 1, 1])] ⟨mkTs 36 [(1, V.t (T.ptr (tblT v0 v1 v2 v3))), (2, V.ref 1 0 0 (some 4)), (3, V.ref 13 0 0 (some 4)), (4, V.t (T.int .i64 v4))], ⟨32, mkTr [(1, Apex.Obj.cells 0 33 false [V.t (T.str v5), V.t T.nils, V.t T.nils, V.t T.nils]), (13, Apex.Obj.cells 0 33 false [V.t (T.str v6), V.t v7, V.msl 31 v8 v9 v10 none, V.t v11]), (31, Apex.Obj.cells v12 52 false v13)]⟩, []⟩
theorem L7_1_step (v0 : List UInt8) (v1 v2 v3 : T) (v4 : Int) (v5 v6 : List UInt8) (v7 v8 r : T) (h : (
 (fldT 2 none (T.ptr (tblT v0 v1 v2 v3))).bind fun x1 =>
 (derefT none x1).bind fun x2 =>
 (lenT x2).bind fun x3 =>
 bif iLt v4 x3 then
  (fldT 2 none (T.ptr (tblT v0 v1 v2 v3))).bind fun x4 =>
  (derefT none x4).bind fun x5 =>
  (idxT 1 x5 v4).bind fun x6 =>
  (derefT none x6).bind fun x7 =>
  (elemsT none x7).bind fun x8 =>
  (appT none 1 8 (T.sl true 1 []) x8).bind fun x9 =>
  bif vfits (V.t x9) none then
  bif vfits (V.t x9) none then
  bif (objBd 32 (Apex.Obj.cells 1 52 false (rowNew [] [V.t x9]))) then
  L7_2 v0 v1 v2 v3 (iAdd .i64 v4 1) v5 v6 v7 1 0 1 v8 1 (rowNew [] [V.t x9])
  else none
  else none
  else none
 else
  bif (vfits (V.t (T.agg [T.str v6, v7, T.nils, v8])) (some 4)) then
  some (T.agg [T.str v6, v7, T.nils, v8])
  else none) = some r) : L7_1 v0 v1 v2 v3 v4 v5 v6 v7 v8 = some r :=
 rd h
theorem L7_2_step (v0 : List UInt8) (v1 v2 v3 : T) (v4 : Int) (v5 v6 : List UInt8) (v7 : T) (v8 v9 v10 : Nat) (v11 : T) (v12 : Nat) (v13 : List V) (r : T) (h : (
 (fldT 2 none (T.ptr (tblT v0 v1 v2 v3))).bind fun x1 =>
 (derefT none x1).bind fun x2 =>
 (lenT x2).bind fun x3 =>
 bif iLt v4 x3 then
  (fldT 2 none (T.ptr (tblT v0 v1 v2 v3))).bind fun x4 =>
  (derefT none x4).bind fun x5 =>
  (idxT 1 x5 v4).bind fun x6 =>
  (derefT none x6).bind fun x7 =>
  (elemsT none x7).bind fun x8 =>
  (appT none 1 8 (T.sl true 1 []) x8).bind fun x9 =>
  bif vfits (V.t x9) none then
  bif vfits (V.t x9) none then
  bif natEq v12 v8 then
  bif appOK v13 v9 v10 1 [V.t x9] 24 then
  bif (objBd 32 (Apex.Obj.cells (appGen v12 [V.t x9]) 52 false (appCs v13 v9 [V.t x9]))) then
  L7_2 v0 v1 v2 v3 (iAdd .i64 v4 1) v5 v6 v7 (appGen v12 [V.t x9]) 0 (appLen v10 [V.t x9]) v11 (appGen v12 [V.t x9]) (appCs v13 v9 [V.t x9])
  else none
  else none
  else none
  else none
  else none
 else
  bif (vfits (V.agg [V.t (T.str v6), V.t v7, V.msl 31 v8 v9 v10 none, V.t v11]) (some 4)) then
  bif natEq v12 v8 then
  (rowT none v13 v9 v10).bind fun x10 =>
  some (T.agg [T.str v6, v7, T.sl false 1 x10, v11])
  else none
  else none) = some r) : L7_2 v0 v1 v2 v3 v4 v5 v6 v7 v8 v9 v10 v11 v12 v13 = some r :=
 rdr [31] h
theorem fn7 (p : List UInt8) (q s u r : T) (h : (
 bif (vfits (V.t (tblT p q s u)) (some 4)) then
 (fldT 1 none (T.ptr (tblT p q s u))).bind fun x1 =>
 (derefT none x1).bind fun x2 =>
 (elemsT none x2).bind fun x3 =>
 (appT none 1 16 (T.sl true 1 []) x3).bind fun x4 =>
 (fldT 3 none (T.ptr (tblT p q s u))).bind fun x5 =>
 (derefT none x5).bind fun x6 =>
 (elemsT none x6).bind fun x7 =>
 (appT none 1 1 (T.sl true 1 []) x7).bind fun x8 =>
 bif vfits (V.t x4) none then
 bif vfits (V.t x8) none then
 bif (vfits (V.t (T.agg [T.str p, x4, T.nils, x8])) (some 4)) then
 L7_1 p q s u 0 [] p x4 x8
 else none
 else none
 else none
 else none) = some r) : fnO acfg 7 [tblT p q s u] = some r :=
 fo h
def L14_1 (v0 : List UInt8) (v1 v2 v3 : T) (v4 : List UInt8) (v5 v6 v7 : T) (v8 : Int) : Option T := runO acfg (pureFin acfg 14) [.loop 14 none (codeOf acfg 14 [1, 1, 0, 1, 0, 0]), .block 0, .code 14 none (codeOf acfg 14 [1, 1, 1])] ⟨mkTs 95 [(2, V.t (T.ptr (tblT v0 v1 v2 v3))), (3, V.t (T.ptr (tblT v4 v5 v6 v7))), (5, V.t (T.int .i64 v8))], ⟨36, mkTr []⟩, []⟩
def L14_2 (v0 : List UInt8) (v1 v2 v3 : T) (v4 : List UInt8) (v5 v6 v7 : T) (v8 : Int) : Option T := runO acfg (pureFin acfg 14) [.loop 14 none (codeOf acfg 14 [1, 1, 1, 0, 1, 0, 0]), .block 2, .code 14 none (codeOf acfg 14 [1, 1, 1, 1])] ⟨mkTs 95 [(2, V.t (T.ptr (tblT v0 v1 v2 v3))), (3, V.t (T.ptr (tblT v4 v5 v6 v7))), (6, V.t (T.int .i64 v8))], ⟨42, mkTr []⟩, []⟩
def L14_3 (v0 : List UInt8) (v1 v2 v3 : T) (v4 : List UInt8) (v5 v6 v7 : T) (v8 : Int) : Option T := runO acfg (pureFin acfg 14) [.loop 14 none (codeOf acfg 14 [1, 1, 1, 1, 0, 1, 0, 0]), .block 4, .code 14 none (codeOf acfg 14 [1, 1, 1, 1, 1])] ⟨mkTs 95 [(2, V.t (T.ptr (tblT v0 v1 v2 v3))), (3, V.t (T.ptr (tblT v4 v5 v6 v7))), (7, V.t (T.int .i64 v8))], ⟨48, mkTr []⟩, []⟩
theorem L14_1_step (v0 : List UInt8) (v1 v2 v3 : T) (v4 : List UInt8) (v5 v6 v7 : T) (v8 : Int) (r : T) (h : (
 (fldT 1 none (T.ptr (tblT v0 v1 v2 v3))).bind fun x1 =>
 (derefT none x1).bind fun x2 =>
 (lenT x2).bind fun x3 =>
 bif iLt v8 x3 then
  (fldT 1 none (T.ptr (tblT v0 v1 v2 v3))).bind fun x4 =>
  (derefT none x4).bind fun x5 =>
  (idxT 1 x5 v8).bind fun x6 =>
  (derefT none x6).bind fun x7 =>
  (T.str? x7).bind fun x8 =>
  (fldT 1 none (T.ptr (tblT v4 v5 v6 v7))).bind fun x9 =>
  (derefT none x9).bind fun x10 =>
  (idxT 1 x10 v8).bind fun x11 =>
  (derefT none x11).bind fun x12 =>
  (T.str? x12).bind fun x13 =>
  bif bNot (sEq x8 x13) then
   some (T.bool false)
  else
   L14_1 v0 v1 v2 v3 v4 v5 v6 v7 (iAdd .i64 v8 1)
 else
  L14_2 v0 v1 v2 v3 v4 v5 v6 v7 0) = some r) : L14_1 v0 v1 v2 v3 v4 v5 v6 v7 v8 = some r :=
 rd h
theorem L14_2_step (v0 : List UInt8) (v1 v2 v3 : T) (v4 : List UInt8) (v5 v6 v7 : T) (v8 : Int) (r : T) (h : (
 (fldT 2 none (T.ptr (tblT v0 v1 v2 v3))).bind fun x1 =>
 (derefT none x1).bind fun x2 =>
 (lenT x2).bind fun x3 =>
 bif iLt v8 x3 then
  (fldT 2 none (T.ptr (tblT v0 v1 v2 v3))).bind fun x4 =>
  (derefT none x4).bind fun x5 =>
  (idxT 1 x5 v8).bind fun x6 =>
  (derefT none x6).bind fun x7 =>
  (fldT 2 none (T.ptr (tblT v4 v5 v6 v7))).bind fun x8 =>
  (derefT none x8).bind fun x9 =>
  (idxT 1 x9 v8).bind fun x10 =>
  (derefT none x10).bind fun x11 =>
  (fnO acfg 22 [x7, x11]).bind fun x12 =>
  bif T.scalar x12 then
  (T.bool? x12).bind fun x13 =>
  bif bNot x13 then
   some (T.bool false)
  else
   L14_2 v0 v1 v2 v3 v4 v5 v6 v7 (iAdd .i64 v8 1)
  else none
 else
  L14_3 v0 v1 v2 v3 v4 v5 v6 v7 0) = some r) : L14_2 v0 v1 v2 v3 v4 v5 v6 v7 v8 = some r :=
 rd h
theorem L14_3_step (v0 : List UInt8) (v1 v2 v3 : T) (v4 : List UInt8) (v5 v6 v7 : T) (v8 : Int) (r : T) (h : (
 (fldT 3 none (T.ptr (tblT v0 v1 v2 v3))).bind fun x1 =>
 (derefT none x1).bind fun x2 =>
 (lenT x2).bind fun x3 =>
 bif iLt v8 x3 then
  (fldT 3 none (T.ptr (tblT v0 v1 v2 v3))).bind fun x4 =>
  (derefT none x4).bind fun x5 =>
  (idxT 1 x5 v8).bind fun x6 =>
  (derefT none x6).bind fun x7 =>
  (T.bool? x7).bind fun x8 =>
  (fldT 3 none (T.ptr (tblT v4 v5 v6 v7))).bind fun x9 =>
  (derefT none x9).bind fun x10 =>
  (idxT 1 x10 v8).bind fun x11 =>
  (derefT none x11).bind fun x12 =>
  (T.bool? x12).bind fun x13 =>
  bif bNot (bEq x8 x13) then
   some (T.bool false)
  else
   L14_3 v0 v1 v2 v3 v4 v5 v6 v7 (iAdd .i64 v8 1)
 else
  some (T.bool true)) = some r) : L14_3 v0 v1 v2 v3 v4 v5 v6 v7 v8 = some r :=
 rd h
theorem fn14 (p : List UInt8) (q s u : T) (a1_0 : List UInt8) (a1_1 a1_2 a1_3 r : T) (h : (
 bif (vfits (V.t (tblT p q s u)) (some 4)) then
 bif (vfits (V.t (tblT a1_0 a1_1 a1_2 a1_3)) (some 4)) then
 bif bNot (sEq p a1_0) then
  some (T.bool false)
 else
  (fldT 1 none (T.ptr (tblT p q s u))).bind fun x1 =>
  (derefT none x1).bind fun x2 =>
  (lenT x2).bind fun x3 =>
  (fldT 1 none (T.ptr (tblT a1_0 a1_1 a1_2 a1_3))).bind fun x4 =>
  (derefT none x4).bind fun x5 =>
  (lenT x5).bind fun x6 =>
  bif bNot (iEq x3 x6) then
   some (T.bool false)
  else
   (fldT 2 none (T.ptr (tblT p q s u))).bind fun x7 =>
   (derefT none x7).bind fun x8 =>
   (lenT x8).bind fun x9 =>
   (fldT 2 none (T.ptr (tblT a1_0 a1_1 a1_2 a1_3))).bind fun x10 =>
   (derefT none x10).bind fun x11 =>
   (lenT x11).bind fun x12 =>
   bif bNot (iEq x9 x12) then
    some (T.bool false)
   else
    (fldT 3 none (T.ptr (tblT p q s u))).bind fun x13 =>
    (derefT none x13).bind fun x14 =>
    (lenT x14).bind fun x15 =>
    (fldT 3 none (T.ptr (tblT a1_0 a1_1 a1_2 a1_3))).bind fun x16 =>
    (derefT none x16).bind fun x17 =>
    (lenT x17).bind fun x18 =>
    bif bNot (iEq x15 x18) then
     some (T.bool false)
    else
     L14_1 p q s u a1_0 a1_1 a1_2 a1_3 0
 else none
 else none) = some r) : fnO acfg 14 [tblT p q s u, tblT a1_0 a1_1 a1_2 a1_3] = some r :=
 fo h
def L22_1 (v0 v1 : T) (v2 : Int) : Option T := runO acfg (pureFin acfg 22) [.loop 22 none (codeOf acfg 22 [1, 1, 0, 1, 0, 0]), .block 0, .code 22 none (codeOf acfg 22 [1, 1, 1])] ⟨mkTs 26 [(0, V.t v0), (1, V.t v1), (5, V.t (T.int .i64 v2))], ⟨7, mkTr []⟩, []⟩
theorem L22_1_step (v0 v1 : T) (v2 : Int) (r : T) (h : (
 (lenT v0).bind fun x1 =>
 bif iLt v2 x1 then
  (idxT 1 v0 v2).bind fun x2 =>
  (derefT none x2).bind fun x3 =>
  (T.int? .i64 x3).bind fun x4 =>
  (idxT 1 v1 v2).bind fun x5 =>
  (derefT none x5).bind fun x6 =>
  (T.int? .i64 x6).bind fun x7 =>
  bif bNot (iEq x4 x7) then
   some (T.bool false)
  else
   L22_1 v0 v1 (iAdd .i64 v2 1)
 else
  some (T.bool true)) = some r) : L22_1 v0 v1 v2 = some r :=
 rd h
theorem fn22 (a0 a1 r : T) (h : (
 (lenT a0).bind fun x1 =>
 (lenT a1).bind fun x2 =>
 bif bNot (iEq x1 x2) then
  some (T.bool false)
 else
  L22_1 a0 a1 0) = some r) : fnO acfg 22 [a0, a1] = some r :=
 fo h
theorem fn44 (a0 : T) (a1 a2 : Int) (r : T) (h : (
 bif vfits (V.t a0) none then
 (derefT none (T.ptr a0)).bind fun x1 =>
 (fnO acfg 78 [x1, T.sl true 1 [T.int .i64 a1, T.int .i64 a2]]).bind fun x2 =>
 bif vfits (V.t x2) none then
 bif oneT x2 then
 (derefT none (T.ptr x2)).bind fun x3 =>
 (fnO acfg 81 [x3, T.fn (Fn.func 79) [] [T.ptr x2, T.ptr a0]]).bind fun x4 =>
 bif T.scalar x4 then
 (T.int? .i64 x4).bind fun x5 =>
 bif iLt x5 0 then
  some (T.tup [T.int .i64 0, T.bool false])
 else
  (derefT none (T.ptr x2)).bind fun x6 =>
  (idxT 1 x6 x5).bind fun x7 =>
  (derefT none x7).bind fun x8 =>
  (T.int? .i64 x8).bind fun x9 =>
  some (T.tup [T.int .i64 x9, T.bool true])
 else none
 else none
 else none
 else none) = some r) : fnO acfg 44 [a0, T.int .i64 a1, T.int .i64 a2] = some r :=
 fo h
def L51_1 (v0 : T) (v1 v2 : Int) : Option T := runO acfg (pureFin acfg 51) [.loop 51 none (codeOf acfg 51 [1, 1, 0, 1, 0, 0]), .block 0, .code 51 none (codeOf acfg 51 [1, 1, 1])] ⟨mkTs 25 [(1, V.t v0), (5, V.t T.nils), (12, V.t (T.int .i64 v1)), (13, V.t (T.int .i64 v2))], ⟨9, mkTr []⟩, []⟩
def L51_2 (v0 : T) (v1 v2 v3 : Nat) (v4 v5 : Int) (v6 : Nat) (v7 : List V) : Option T := runO acfg (pureFin acfg 51) [.loop 51 none (codeOf acfg 51 [1, 1, 0, 1, 0, 0]), .block 0, .code 51 none (codeOf acfg 51 [1, 1, 1])] ⟨mkTs 25 [(1, V.t v0), (5, V.msl 18 v1 v2 v3 none), (12, V.t (T.int .i64 v4)), (13, V.t (T.int .i64 v5))], ⟨19, mkTr [(18, Apex.Obj.cells v6 3 false v7)]⟩, []⟩
theorem L51_1_step (v0 : T) (v1 v2 : Int) (r : T) (h : (
 bif iLt v2 v1 then
  (callT acfg v0 [T.int .i64 v2]).bind fun x1 =>
  (T.bool? x1).bind fun x2 =>
  bif x2 then
   L51_2 v0 1 0 1 v1 (iAdd .i64 v2 1) 1 (rowNew [] [V.t (T.int .i64 v2)])
  else
   L51_1 v0 v1 (iAdd .i64 v2 1)
 else
  some T.nils) = some r) : L51_1 v0 v1 v2 = some r :=
 rd h
theorem L51_2_step (v0 : T) (v1 v2 v3 : Nat) (v4 v5 : Int) (v6 : Nat) (v7 : List V) (r : T) (h : (
 bif iLt v5 v4 then
  (callT acfg v0 [T.int .i64 v5]).bind fun x1 =>
  (T.bool? x1).bind fun x2 =>
  bif x2 then
   bif natEq v6 v1 then
   bif (appOK v7 v2 v3 1 [V.t (T.int .i64 v5)] 8) then
   bif (objBd 19 (Apex.Obj.cells (appGen v6 [V.t (T.int .i64 v5)]) 3 false (appCs v7 v2 [V.t (T.int .i64 v5)]))) then
   L51_2 v0 (appGen v6 [V.t (T.int .i64 v5)]) 0 (appLen v3 [V.t (T.int .i64 v5)]) v4 (iAdd .i64 v5 1) (appGen v6 [V.t (T.int .i64 v5)]) (appCs v7 v2 [V.t (T.int .i64 v5)])
   else none
   else none
   else none
  else
   bif objBd 19 (Apex.Obj.cells v6 3 false v7) then
   L51_2 v0 v1 v2 v3 v4 (iAdd .i64 v5 1) v6 v7
   else none
 else
  bif natEq v6 v1 then
  (rowT none v7 v2 v3).bind fun x3 =>
  some (T.sl false 1 x3)
  else none) = some r) : L51_2 v0 v1 v2 v3 v4 v5 v6 v7 = some r :=
 rdr [18] h
theorem fn51 (a0 a1 r : T) (h : (
 bif isPtrT a0 then
 (fldT 0 (some 4) a0).bind fun x1 =>
 (fldT 1 none x1).bind fun x2 =>
 (derefT none x2).bind fun x3 =>
 (lenT x3).bind fun x4 =>
 L51_1 a1 x4 0
 else none) = some r) : fnO acfg 51 [a0, a1] = some r :=
 fo h
theorem fn53 (a0 : T) (a1 a2 : Int) (r : T) (h : (
 bif iEq a1 a2 then
  some (T.bool true)
 else
  bif isPtrT a0 then
  (fldT 4 none a0).bind fun x1 =>
  (derefT none x1).bind fun x2 =>
  (idxT 1 x2 a1).bind fun x3 =>
  (derefT none x3).bind fun x4 =>
  (idxT 1 x4 a2).bind fun x5 =>
  (derefT none x5).bind fun x6 =>
  (T.bool? x6).bind fun x7 =>
  some (T.bool x7)
  else none) = some r) : fnO acfg 53 [a0, T.int .i64 a1, T.int .i64 a2] = some r :=
 fo h
theorem fn78 (a0 a1 r : T) (h : (
 bif vfits (V.t a0) none then
 bif vfits (V.t a1) none then
 (derefT none (T.ptr a0)).bind fun x1 =>
 (fnO acfg 51 [x1, T.fn (Fn.func 101) [] [T.ptr a1, T.ptr a0]]).bind fun x2 =>
 some x2
 else none
 else none) = some r) : fnO acfg 78 [a0, a1] = some r :=
 fo h
theorem fn111 (p : List UInt8) (q s u : T) (a1 a2 : Int) (r : T) (h : (
 bif (vfits (V.t (tblT p q s u)) (some 4)) then
 bif iEq a1 a2 then
  some (T.bool true)
 else
  (derefT (some 4) (T.ptr (tblT p q s u))).bind fun x1 =>
  (T.agg? (List.length D4) x1).bind fun x2 =>
  (T.str? (nthT x2 0)).bind fun x3 =>
  (fnO acfg 106 [tblT x3 (nthT x2 1) (nthT x2 2) (nthT x2 3), T.int .i64 a1, T.int .i64 a2]).bind fun x4 =>
  bif T.scalar x4 then
  (T.bool? x4).bind fun x5 =>
  some (T.bool x5)
  else none
 else none) = some r) : fnO acfg 111 [tblT p q s u, T.int .i64 a1, T.int .i64 a2] = some r :=
 fo h
theorem fn83 (a0 a1 r : T) (h : (
 (fnO acfg 51 [a0, a1]).bind fun x1 =>
 (lenT x1).bind fun x2 =>
 bif iEq x2 0 then
  some (T.tup [T.int .i64 0, T.bool false])
 else
  (idxT 1 x1 0).bind fun x3 =>
  (derefT none x3).bind fun x4 =>
  (T.int? .i64 x4).bind fun x5 =>
  some (T.tup [T.int .i64 x5, T.bool true])) = some r) : fnO acfg 83 [a0, a1] = some r :=
 fo h
theorem fn84 (a0 : Int) (c0 r : T) (h : (
 (derefT none c0).bind fun x1 =>
 bif isPtrT x1 then
 (fldT 4 none x1).bind fun x2 =>
 (derefT none x2).bind fun x3 =>
 (idxT 1 x3 a0).bind fun x4 =>
 (derefT none x4).bind fun x5 =>
 (idxT 1 x5 a0).bind fun x6 =>
 (derefT none x6).bind fun x7 =>
 (T.bool? x7).bind fun x8 =>
 some (T.bool x8)
 else none) = some r) : fnO acfg 84 [T.int .i64 a0, c0] = some r :=
 fo h
theorem fn85 (a0 : Int) (c0 r : T) (h : (
 (derefT none c0).bind fun x1 =>
 (fnO acfg 53 [x1, T.int .i64 0, T.int .i64 a0]).bind fun x2 =>
 bif T.scalar x2 then
 (T.bool? x2).bind fun x3 =>
 some (T.bool (bNot x3))
 else none) = some r) : fnO acfg 85 [T.int .i64 a0, c0] = some r :=
 fo h
def L108_1 (v0 v1 : T) (v2 : Int) : Option T := runO acfg (pureFin acfg 108) [.loop 108 none (codeOf acfg 108 [1, 0, 1, 0, 0]), .block 0, .code 108 none (codeOf acfg 108 [1, 1])] ⟨mkTs 41 [(0, V.t v0), (1, V.t v1), (5, V.t (T.int .i64 v2))], ⟨2, mkTr []⟩, []⟩
def L108_2 (v0 v1 : T) (v2 : Int) (v3 : Bool) (v4 : Int) : Option T := runO acfg (pureFin acfg 108) [.loop 108 none (codeOf acfg 108 [1, 0, 1, 0, 0, 1, 0, 0, 1, 0, 1, 0, 0]), .block 2, .code 108 none (codeOf acfg 108 [1, 0, 1, 0, 0, 1, 0, 0, 1, 1]), .block 1, .code 108 none (codeOf acfg 108 [1, 0, 1, 0, 0, 1, 1]), .round 108 none (codeOf acfg 108 [1, 0, 1, 0, 0]) 2, .block 0, .code 108 none (codeOf acfg 108 [1, 1])] ⟨mkTs 41 [(0, V.t v0), (1, V.t v1), (5, V.t (T.int .i64 v2)), (6, V.t (T.bool v3)), (7, V.t (T.int .i64 v4))], ⟨8, mkTr []⟩, []⟩
theorem L108_1_step (v0 v1 : T) (v2 : Int) (r : T) (h : (
 (lenT v1).bind fun x1 =>
 bif iLt v2 x1 then
  L108_2 v0 v1 v2 true 0
 else
  some (T.int .i64 (-1))) = some r) : L108_1 v0 v1 v2 = some r :=
 rd h
theorem L108_2_step (v0 v1 : T) (v2 : Int) (v3 : Bool) (v4 : Int) (r : T) (h : (
 (lenT v1).bind fun x1 =>
 bif iLt v4 x1 then
  bif v3 then
   (idxT 1 v1 v2).bind fun x2 =>
   (derefT none x2).bind fun x3 =>
   (T.int? .i64 x3).bind fun x4 =>
   (idxT 1 v0 x4).bind fun x5 =>
   (derefT none x5).bind fun x6 =>
   (idxT 1 v1 v4).bind fun x7 =>
   (derefT none x7).bind fun x8 =>
   (T.int? .i64 x8).bind fun x9 =>
   (idxT 1 x6 x9).bind fun x10 =>
   (derefT none x10).bind fun x11 =>
   (T.bool? x11).bind fun x12 =>
   L108_2 v0 v1 v2 x12 (iAdd .i64 v4 1)
  else
   L108_2 v0 v1 v2 false (iAdd .i64 v4 1)
 else
  bif v3 then
   (idxT 1 v1 v2).bind fun x13 =>
   (derefT none x13).bind fun x14 =>
   (T.int? .i64 x14).bind fun x15 =>
   some (T.int .i64 x15)
  else
   L108_1 v0 v1 (iAdd .i64 v2 1)) = some r) : L108_2 v0 v1 v2 v3 v4 = some r :=
 rd h
theorem fn108 (a0 a1 r : T) (h : (
 L108_1 a0 a1 0) = some r) : fnO acfg 108 [a0, a1] = some r :=
 fo h
def L107_1 (v0 : T) (v1 v2 v3 : Int) : Option T := runO acfg (pureFin acfg 107) [.loop 107 none (codeOf acfg 107 [1, 1, 0, 1, 0, 0]), .block 0, .code 107 none (codeOf acfg 107 [1, 1, 1])] ⟨mkTs 36 [(0, V.t v0), (1, V.t (T.int .i64 v1)), (2, V.t (T.int .i64 v2)), (7, V.t T.nils), (8, V.t (T.int .i64 v3))], ⟨3, mkTr []⟩, []⟩
def L107_2 (v0 : T) (v1 v2 : Int) (v3 v4 v5 : Nat) (v6 : Int) (v7 : Nat) (v8 : List V) : Option T := runO acfg (pureFin acfg 107) [.loop 107 none (codeOf acfg 107 [1, 1, 0, 1, 0, 0]), .block 0, .code 107 none (codeOf acfg 107 [1, 1, 1])] ⟨mkTs 36 [(0, V.t v0), (1, V.t (T.int .i64 v1)), (2, V.t (T.int .i64 v2)), (7, V.msl 26 v3 v4 v5 none), (8, V.t (T.int .i64 v6))], ⟨27, mkTr [(26, Apex.Obj.cells v7 3 false v8)]⟩, []⟩
theorem L107_1_step (v0 : T) (v1 v2 v3 : Int) (r : T) (h : (
 (lenT v0).bind fun x1 =>
 bif iLt v3 x1 then
  (idxT 1 v0 v1).bind fun x2 =>
  (derefT none x2).bind fun x3 =>
  (idxT 1 x3 v3).bind fun x4 =>
  (derefT none x4).bind fun x5 =>
  (T.bool? x5).bind fun x6 =>
  bif x6 then
   (idxT 1 v0 v2).bind fun x7 =>
   (derefT none x7).bind fun x8 =>
   (idxT 1 x8 v3).bind fun x9 =>
   (derefT none x9).bind fun x10 =>
   (T.bool? x10).bind fun x11 =>
   bif x11 then
    L107_2 v0 v1 v2 1 0 1 (iAdd .i64 v3 1) 1 (rowNew [] [V.t (T.int .i64 v3)])
   else
    L107_1 v0 v1 v2 (iAdd .i64 v3 1)
  else
   L107_1 v0 v1 v2 (iAdd .i64 v3 1)
 else
  some T.nils) = some r) : L107_1 v0 v1 v2 v3 = some r :=
 rd h
theorem L107_2_step (v0 : T) (v1 v2 : Int) (v3 v4 v5 : Nat) (v6 : Int) (v7 : Nat) (v8 : List V) (r : T) (h : (
 (lenT v0).bind fun x1 =>
 bif iLt v6 x1 then
  (idxT 1 v0 v1).bind fun x2 =>
  (derefT none x2).bind fun x3 =>
  (idxT 1 x3 v6).bind fun x4 =>
  (derefT none x4).bind fun x5 =>
  (T.bool? x5).bind fun x6 =>
  bif x6 then
   (idxT 1 v0 v2).bind fun x7 =>
   (derefT none x7).bind fun x8 =>
   (idxT 1 x8 v6).bind fun x9 =>
   (derefT none x9).bind fun x10 =>
   (T.bool? x10).bind fun x11 =>
   bif x11 then
    bif natEq v7 v3 then
    bif (appOK v8 v4 v5 1 [V.t (T.int .i64 v6)] 8) then
    bif (objBd 27 (Apex.Obj.cells (appGen v7 [V.t (T.int .i64 v6)]) 3 false (appCs v8 v4 [V.t (T.int .i64 v6)]))) then
    L107_2 v0 v1 v2 (appGen v7 [V.t (T.int .i64 v6)]) 0 (appLen v5 [V.t (T.int .i64 v6)]) (iAdd .i64 v6 1) (appGen v7 [V.t (T.int .i64 v6)]) (appCs v8 v4 [V.t (T.int .i64 v6)])
    else none
    else none
    else none
   else
    bif objBd 27 (Apex.Obj.cells v7 3 false v8) then
    L107_2 v0 v1 v2 v3 v4 v5 (iAdd .i64 v6 1) v7 v8
    else none
  else
   bif objBd 27 (Apex.Obj.cells v7 3 false v8) then
   L107_2 v0 v1 v2 v3 v4 v5 (iAdd .i64 v6 1) v7 v8
   else none
 else
  bif natEq v7 v3 then
  (rowT none v8 v4 v5).bind fun x12 =>
  some (T.sl false 1 x12)
  else none) = some r) : L107_2 v0 v1 v2 v3 v4 v5 v6 v7 v8 = some r :=
 rdr [26] h
theorem fn107 (a0 : T) (a1 a2 : Int) (r : T) (h : (
 L107_1 a0 a1 a2 0) = some r) : fnO acfg 107 [a0, T.int .i64 a1, T.int .i64 a2] = some r :=
 fo h
theorem fn79 (a0 : Int) (c0 c1 r : T) (h : (
 (derefT none c0).bind fun x1 =>
 (fnO acfg 61 [x1, T.fn (Fn.func 80) [] [c1, T.ptr (T.int .i64 a0)]]).bind fun x2 =>
 bif T.scalar x2 then
 (T.bool? x2).bind fun x3 =>
 some (T.bool x3)
 else none) = some r) : fnO acfg 79 [T.int .i64 a0, c0, c1] = some r :=
 fo h
theorem fn80 (a0 a1 : Int) (c0 c1 r : T) (h : (
 (derefT none c0).bind fun x1 =>
 (derefT none c1).bind fun x2 =>
 (T.int? .i64 x2).bind fun x3 =>
 (fnO acfg 53 [x1, T.int .i64 x3, T.int .i64 a1]).bind fun x4 =>
 bif T.scalar x4 then
 (T.bool? x4).bind fun x5 =>
 some (T.bool x5)
 else none) = some r) : fnO acfg 80 [T.int .i64 a0, T.int .i64 a1, c0, c1] = some r :=
 fo h
def L81_1 (v0 v1 : T) (v2 v3 : Int) : Option T := runO acfg (pureFin acfg 81) [.loop 81 none (codeOf acfg 81 [1, 0, 1, 0, 0]), .block 0, .code 81 none (codeOf acfg 81 [1, 1])] ⟨mkTs 19 [(0, V.t v0), (1, V.t v1), (7, V.t (T.int .i64 v2)), (8, V.t (T.int .i64 v3))], ⟨4, mkTr []⟩, []⟩
theorem L81_1_step (v0 v1 : T) (v2 v3 : Int) (r : T) (h : (
 bif iLt v3 v2 then
  (idxT 1 v0 v3).bind fun x1 =>
  (derefT none x1).bind fun x2 =>
  (T.int? .i64 x2).bind fun x3 =>
  (callT acfg v1 [T.int .i64 x3]).bind fun x4 =>
  (T.bool? x4).bind fun x5 =>
  bif x5 then
   some (T.int .i64 v3)
  else
   L81_1 v0 v1 v2 (iAdd .i64 v3 1)
 else
  some (T.int .i64 (-1))) = some r) : L81_1 v0 v1 v2 v3 = some r :=
 rd h
theorem fn81 (a0 a1 r : T) (h : (
 (lenT a0).bind fun x1 =>
 L81_1 a0 a1 x1 0) = some r) : fnO acfg 81 [a0, a1] = some r :=
 fo h
theorem row96 (a0 r : T) (h : (
 (nilT (D.slice 3) a0).bind fun x1 =>
 bif x1 then
  some (T.tup [T.nilp, T.nils])
 else
  (elemsT none a0).bind fun x2 =>
  bif appOK [] 0 0 1 x2 8 then
  bif (Nat.beq (appGen 0 (x2, false).1) (appGen 0 (x2, false).1)) then
  (allT (appCs [] 0 x2)).bind fun x3 =>
  some (T.tup [T.nili, T.int .i64 3, T.int .i64 (Int.ofNat (appOff 0 x2)), T.int .i64 (Int.ofNat (appLen 0 x2)), T.nils, T.tup x3])
  else none
  else none) = some r) : rowO acfg 96 [a0] = some r :=
 row_of (n := 3000) (by kernel_rfl) h
theorem fn101 (a0 : Int) (c0 c1 r : T) (h : (
 (derefT none c0).bind fun x1 =>
 (fnO acfg 61 [x1, T.fn (Fn.func 102) [] [c1, T.ptr (T.int .i64 a0)]]).bind fun x2 =>
 bif T.scalar x2 then
 (T.bool? x2).bind fun x3 =>
 some (T.bool x3)
 else none) = some r) : fnO acfg 101 [T.int .i64 a0, c0, c1] = some r :=
 fo h
theorem fn102 (a0 a1 : Int) (c0 c1 r : T) (h : (
 (derefT none c0).bind fun x1 =>
 (derefT none c1).bind fun x2 =>
 (T.int? .i64 x2).bind fun x3 =>
 (fnO acfg 53 [x1, T.int .i64 a1, T.int .i64 x3]).bind fun x4 =>
 bif T.scalar x4 then
 (T.bool? x4).bind fun x5 =>
 some (T.bool x5)
 else none) = some r) : fnO acfg 102 [T.int .i64 a0, T.int .i64 a1, c0, c1] = some r :=
 fo h
end
end Go.Proofs.Tryz

namespace Go.Proofs.Tryz
open Go Go.Apex
set_option maxRecDepth 100000
noncomputable section
def L45_1 (v0 v1 : Int) (v2 : List UInt8) (v3 v4 v5 : T) : Option T := runO acfg (pureFin acfg 45) [.loop 45 none (codeOf acfg 45 [1, 1, 1, 0, 1, 0, 0]), .block 0, .code 45 none (codeOf acfg 45 [1, 1, 1, 1])] ⟨mkTs 35 [(5, V.ref 10 0 0 (some 5)), (17, V.t (T.int .i64 v0)), (18, V.t (T.int .i64 v1))], ⟨16, mkTr [(10, Apex.Obj.cells 0 102 false [V.t (T.str v2), V.t v3, V.t v4, V.t v5, V.t T.nils])]⟩, []⟩
def L45_2 (v0 v1 : Int) (v2 : List UInt8) (v3 v4 v5 : T) (v6 v7 v8 v9 : Nat) (v10 : List V) : Option T := runO acfg (pureFin acfg 45) [.loop 45 none (codeOf acfg 45 [1, 1, 1, 0, 1, 0, 0]), .block 0, .code 45 none (codeOf acfg 45 [1, 1, 1, 1])] ⟨mkTs 35 [(5, V.ref 10 0 0 (some 5)), (17, V.t (T.int .i64 v0)), (18, V.t (T.int .i64 v1))], ⟨29, mkTr [(10, Apex.Obj.cells 0 102 false [V.t (T.str v2), V.t v3, V.t v4, V.t v5, V.msl 28 v6 v7 v8 none]), (28, Apex.Obj.cells v9 31 false v10)]⟩, []⟩
theorem L45_1_step (v0 v1 : Int) (v2 : List UInt8) (v3 v4 v5 r : T) (h : (
 bif iLt v1 v0 then
  (callO acfg 82 [T.ptr (T.agg [T.str v2, v3, v4, v5, T.nils]), T.int .i64 v1]).bind fun x1 =>
  bif treeV x1.1 then
   (freshTree false x1).bind fun x2 =>
   bif vfits (V.t x2) none then
   bif vfits (V.t x2) none then
   bif (objBd 29 (Apex.Obj.cells 1 31 false (rowNew [] [V.t x2]))) then
   L45_2 v0 (iAdd .i64 v1 1) v2 v3 v4 v5 1 0 1 1 (rowNew [] [V.t x2])
   else none
   else none
   else none
  else
   (freshRow false 4 none x1).bind fun x3 =>
   (treeOf none x3.2.2 x3.1 x3.2.1).bind fun x4 =>
   bif vfits (V.t x4) none then
   bif vfits (V.t x4) none then
   bif (objBd 29 (Apex.Obj.cells 1 31 false (rowNew [] [V.t x4]))) then
   L45_2 v0 (iAdd .i64 v1 1) v2 v3 v4 v5 1 0 1 1 (rowNew [] [V.t x4])
   else none
   else none
   else none
 else
  some (T.tup [T.ptr (T.agg [T.str v2, v3, v4, v5, T.nils]), T.int .i64 0])) = some r) : L45_1 v0 v1 v2 v3 v4 v5 = some r :=
 rd h
theorem L45_2_step (v0 v1 : Int) (v2 : List UInt8) (v3 v4 v5 : T) (v6 v7 v8 v9 : Nat) (v10 : List V) (r : T) (h : (
 bif iLt v1 v0 then
  bif natEq v9 v6 then
  (rowT none v10 v7 v8).bind fun x1 =>
  (callO acfg 82 [T.ptr (T.agg [T.str v2, v3, v4, v5, T.sl false 1 x1]), T.int .i64 v1]).bind fun x2 =>
  bif treeV x2.1 then
   (freshTree false x2).bind fun x3 =>
   bif vfits (V.t x3) none then
   bif vfits (V.t x3) none then
   bif natEq v9 v6 then
   bif appOK v10 v7 v8 1 [V.t x3] 24 then
   bif (objBd 29 (Apex.Obj.cells (appGen v9 [V.t x3]) 31 false (appCs v10 v7 [V.t x3]))) then
   L45_2 v0 (iAdd .i64 v1 1) v2 v3 v4 v5 (appGen v9 [V.t x3]) 0 (appLen v8 [V.t x3]) (appGen v9 [V.t x3]) (appCs v10 v7 [V.t x3])
   else none
   else none
   else none
   else none
   else none
  else
   (freshRow false 4 none x2).bind fun x4 =>
   (treeOf none x4.2.2 x4.1 x4.2.1).bind fun x5 =>
   bif vfits (V.t x5) none then
   bif vfits (V.t x5) none then
   bif natEq v9 v6 then
   bif appOK v10 v7 v8 1 [V.t x5] 24 then
   bif (objBd 29 (Apex.Obj.cells (appGen v9 [V.t x5]) 31 false (appCs v10 v7 [V.t x5]))) then
   L45_2 v0 (iAdd .i64 v1 1) v2 v3 v4 v5 (appGen v9 [V.t x5]) 0 (appLen v8 [V.t x5]) (appGen v9 [V.t x5]) (appCs v10 v7 [V.t x5])
   else none
   else none
   else none
   else none
   else none
  else none
 else
  bif natEq v9 v6 then
  (rowT none v10 v7 v8).bind fun x6 =>
  some (T.tup [T.ptr (T.agg [T.str v2, v3, v4, v5, T.sl false 1 x6]), T.int .i64 0])
  else none) = some r) : L45_2 v0 v1 v2 v3 v4 v5 v6 v7 v8 v9 v10 = some r :=
 rdr [28] h
theorem fn45 (p : List UInt8) (q s u r : T) (h : (
 bif (vfits (V.t (tblT p q s u)) (some 4)) then
 (derefT (some 4) (T.ptr (tblT p q s u))).bind fun x1 =>
 (T.agg? (List.length D4) x1).bind fun x2 =>
 (T.str? (nthT x2 0)).bind fun x3 =>
 (fnO acfg 24 [tblT x3 (nthT x2 1) (nthT x2 2) (nthT x2 3)]).bind fun x4 =>
 bif T.scalar x4 then
 (T.int? .i64 x4).bind fun x5 =>
 bif bNot (iEq x5 0) then
  some (T.tup [T.nilp, T.int .i64 x5])
 else
  (derefT (some 4) (T.ptr (tblT p q s u))).bind fun x6 =>
  (T.agg? (List.length D4) x6).bind fun x7 =>
  (T.str? (nthT x7 0)).bind fun x8 =>
  bif (vfits (V.t (tblT x8 (nthT x7 1) (nthT x7 2) (nthT x7 3))) (some 4)) then
  bif (vfits (V.t (T.agg [T.str x8, nthT x7 1, nthT x7 2, nthT x7 3, T.nils])) (some 5)) then
  (fldT 1 none (T.ptr (tblT p q s u))).bind fun x9 =>
  (derefT none x9).bind fun x10 =>
  (lenT x10).bind fun x11 =>
  L45_1 x11 0 x8 (nthT x7 1) (nthT x7 2) (nthT x7 3)
  else none
  else none
 else none
 else none) = some r) : fnO acfg 45 [tblT p q s u] = some r :=
 fo h
def R82_1k (v0 : T) (v1 v2 v3 : Nat) (v4 : T) (v5 : Nat) (v6 : List V) : List Kt := [.loop 82 none (codeOf acfg 82 [1, 1, 0, 1, 0, 0]), .block 0, .code 82 none (codeOf acfg 82 [1, 1, 1])]
def R82_1s (v0 : T) (v1 v2 v3 : Nat) (v4 : T) (v5 : Nat) (v6 : List V) : St := ⟨mkTs 51 [(0, V.t v0), (5, V.msl 7 v1 v2 v3 none), (6, V.t v4)], ⟨19, mkTr [(7, Apex.Obj.cells v5 4 false v6)]⟩, []⟩
def R82_1 (v0 : T) (v1 v2 v3 : Nat) (v4 : T) (v5 : Nat) (v6 : List V) : Option T := runO acfg (pureFin acfg 1082) (R82_1k v0 v1 v2 v3 v4 v5 v6) (R82_1s v0 v1 v2 v3 v4 v5 v6)
def R82_2k (v0 : T) (v1 v2 v3 v4 v5 v6 v7 : Nat) (v8 : List V) (v9 : Nat) (v10 : List V) : List Kt := [.loop 82 none (codeOf acfg 82 [1, 1, 0, 1, 0, 0]), .block 0, .code 82 none (codeOf acfg 82 [1, 1, 1])]
def R82_2s (v0 : T) (v1 v2 v3 v4 v5 v6 v7 : Nat) (v8 : List V) (v9 : Nat) (v10 : List V) : St := ⟨mkTs 51 [(0, V.t v0), (5, V.msl 7 v1 v2 v3 none), (6, V.msl 17 v4 v5 v6 none)], ⟨19, mkTr [(7, Apex.Obj.cells v7 4 false v8), (17, Apex.Obj.cells v9 3 false v10)]⟩, []⟩
def R82_2 (v0 : T) (v1 v2 v3 v4 v5 v6 v7 : Nat) (v8 : List V) (v9 : Nat) (v10 : List V) : Option T := runO acfg (pureFin acfg 1082) (R82_2k v0 v1 v2 v3 v4 v5 v6 v7 v8 v9 v10) (R82_2s v0 v1 v2 v3 v4 v5 v6 v7 v8 v9 v10)
def R82_3k (v0 : T) (v1 v2 v3 v4 v5 v6 v7 : Nat) (v8 : List V) (v9 : Nat) (v10 : List V) : List Kt := [.loop 82 none (codeOf acfg 82 [1, 1, 0, 1, 0, 0]), .block 0, .code 82 none (codeOf acfg 82 [1, 1, 1])]
def R82_3s (v0 : T) (v1 v2 v3 v4 v5 v6 v7 : Nat) (v8 : List V) (v9 : Nat) (v10 : List V) : St := ⟨mkTs 51 [(0, V.t v0), (5, V.msl 7 v1 v2 v3 none), (6, V.msl 47 v4 v5 v6 none)], ⟨48, mkTr [(7, Apex.Obj.cells v7 4 false v8), (47, Apex.Obj.cells v9 3 false v10)]⟩, []⟩
def R82_3 (v0 : T) (v1 v2 v3 v4 v5 v6 v7 : Nat) (v8 : List V) (v9 : Nat) (v10 : List V) : Option T := runO acfg (pureFin acfg 1082) (R82_3k v0 v1 v2 v3 v4 v5 v6 v7 v8 v9 v10) (R82_3s v0 v1 v2 v3 v4 v5 v6 v7 v8 v9 v10)
theorem R82_1_step (v0 : T) (v1 v2 v3 : Nat) (v4 : T) (v5 : Nat) (v6 : List V) (r : T) (h : (
 (lenT v4).bind fun x1 =>
 bif iLt 0 x1 then
  (idxT 1 v4 0).bind fun x2 =>
  (derefT none x2).bind fun x3 =>
  (T.int? .i64 x3).bind fun x4 =>
  (subT 1 v4 (some 1) none none).bind fun x5 =>
  bif rowIn x4 v3 then
  bif natEq v5 v1 then
  (rowS none v6 (rowOff v2 x4 1)).bind fun x6 =>
  (T.bool? x6).bind fun x7 =>
  bif bNot x7 then
   bif rowIn x4 v3 then
   bif natEq v5 v1 then
   bif (rowSetOK v6 (rowOff v2 x4 1) (List.length [V.t (T.bool true)])) then
   bif isPtrT v0 then
   (fldT 0 (some 4) v0).bind fun x8 =>
   (fldT 2 none x8).bind fun x9 =>
   (derefT none x9).bind fun x10 =>
   (idxT 1 x10 x4).bind fun x11 =>
   (derefT none x11).bind fun x12 =>
   (elemsT none x12).bind fun x13 =>
   (baseT none 1 x5).bind fun x14 =>
   bif isNilL x13 then
    bif (objBd 19 (Apex.Obj.cells v5 4 false (rowSet v6 (rowOff v2 x4 1) [V.t (T.bool true)]))) then
    R82_1 v0 v1 v2 v3 x5 v5 (rowSet v6 (rowOff v2 x4 1) [V.t (T.bool true)])
    else none
   else
    bif newOK (List.length x14) (List.length x13) 8 then
    bif (objBd 48 (Apex.Obj.cells v5 4 false (rowSet v6 (rowOff v2 x4 1) [V.t (T.bool true)]))) then
    bif (objBd 48 (Apex.Obj.cells 1 3 false (rowNew x14 x13))) then
    R82_3 v0 v1 v2 v3 1 0 (lenNew x14 x13) v5 (rowSet v6 (rowOff v2 x4 1) [V.t (T.bool true)]) 1 (rowNew x14 x13)
    else none
    else none
    else none
   else none
   else none
   else none
   else none
  else
   bif objBd 19 (Apex.Obj.cells v5 4 false v6) then
   R82_1 v0 v1 v2 v3 x5 v5 v6
   else none
  else none
  else none
 else
  bif Nat.beq v5 v1 then
  (allT v6).bind fun x15 =>
  some (T.tup [T.nili, T.int .i64 4, T.int .i64 (Int.ofNat v2), T.int .i64 (Int.ofNat v3), T.nils, T.tup x15])
  else none) = some r) : R82_1 v0 v1 v2 v3 v4 v5 v6 = some r :=
 rdr [7] h
theorem R82_2_step (v0 : T) (v1 v2 v3 v4 v5 v6 v7 : Nat) (v8 : List V) (v9 : Nat) (v10 : List V) (r : T) (h : (
 bif iLt 0 (nInt v6) then
  bif rowIn 0 v6 then
  bif natEq v9 v4 then
  (rowS none v10 (rowOff v5 0 1)).bind fun x1 =>
  (T.int? .i64 x1).bind fun x2 =>
  bif subOK 1 (Int.ofNat v6) v6 then
  bif rowIn x2 v3 then
  bif natEq v7 v1 then
  (rowS none v8 (rowOff v2 x2 1)).bind fun x3 =>
  (T.bool? x3).bind fun x4 =>
  bif bNot x4 then
   bif rowIn x2 v3 then
   bif natEq v7 v1 then
   bif (rowSetOK v8 (rowOff v2 x2 1) (List.length [V.t (T.bool true)])) then
   bif isPtrT v0 then
   (fldT 0 (some 4) v0).bind fun x5 =>
   (fldT 2 none x5).bind fun x6 =>
   (derefT none x6).bind fun x7 =>
   (idxT 1 x7 x2).bind fun x8 =>
   (derefT none x8).bind fun x9 =>
   (elemsT none x9).bind fun x10 =>
   bif natEq v9 v4 then
   bif (appOK v10 (rowOff v5 1 1) (rowLen 1 (Int.ofNat v6)) 1 x10 8) then
   bif (objBd 19 (Apex.Obj.cells v7 4 false (rowSet v8 (rowOff v2 x2 1) [V.t (T.bool true)]))) then
   bif (objBd 19 (Apex.Obj.cells (appGen v9 x10) 3 false (appCs v10 (rowOff v5 1 1) x10))) then
   R82_2 v0 v1 v2 v3 (appGen v9 x10) (appOff (rowOff v5 1 1) x10) (appLen (rowLen 1 (Int.ofNat v6)) x10) v7 (rowSet v8 (rowOff v2 x2 1) [V.t (T.bool true)]) (appGen v9 x10) (appCs v10 (rowOff v5 1 1) x10)
   else none
   else none
   else none
   else none
   else none
   else none
   else none
   else none
  else
   bif objBd 19 (Apex.Obj.cells v7 4 false v8) then
   bif objBd 19 (Apex.Obj.cells v9 3 false v10) then
   R82_2 v0 v1 v2 v3 v4 (rowOff v5 1 1) (rowLen 1 (Int.ofNat v6)) v7 v8 v9 v10
   else none
   else none
  else none
  else none
  else none
  else none
  else none
 else
  bif Nat.beq v7 v1 then
  (allT v8).bind fun x11 =>
  some (T.tup [T.nili, T.int .i64 4, T.int .i64 (Int.ofNat v2), T.int .i64 (Int.ofNat v3), T.nils, T.tup x11])
  else none) = some r) : R82_2 v0 v1 v2 v3 v4 v5 v6 v7 v8 v9 v10 = some r :=
 rdr [7, 17] h
theorem row82 (a0 : T) (a1 : Int) (r : T) (h : (
 bif isPtrT a0 then
 (fldT 0 (some 4) a0).bind fun x1 =>
 (fldT 1 none x1).bind fun x2 =>
 (derefT none x2).bind fun x3 =>
 (lenT x3).bind fun x4 =>
 bif makeOK x4 x4 1 then
 bif isPtrT a0 then
 (fldT 0 (some 4) a0).bind fun x5 =>
 (fldT 2 none x5).bind fun x6 =>
 (derefT none x6).bind fun x7 =>
 (idxT 1 x7 a1).bind fun x8 =>
 (derefT none x8).bind fun x9 =>
 (callO acfg 96 [x9]).bind fun x10 =>
 bif treeV x10.1 then
  (freshTree true x10).bind fun x11 =>
  bif (objBd 19 (Apex.Obj.cells 0 4 false (zerosV x4 (T.bool false)))) then
  R82_1 a0 0 0 (natOf x4) x11 0 (zerosV x4 (T.bool false))
  else none
 else
  (freshRow true 3 none x10).bind fun x12 =>
  bif (objBd 19 (Apex.Obj.cells 0 4 false (zerosV x4 (T.bool false)))) then
  bif objBd 19 (Apex.Obj.cells 1 3 false x12.2.2) then
  R82_2 a0 0 0 (natOf x4) 1 x12.1 x12.2.1 0 (zerosV x4 (T.bool false)) 1 x12.2.2
  else none
  else none
 else none
 else none
 else none) = some r) : rowO acfg 82 [a0, T.int .i64 a1] = some r :=
 row_of (n := 3000) (by kernel_rfl) h
def L106_1 (v0 : Int) (v1 : List UInt8) (v2 v3 v4 : T) (v5 v6 v7 : Nat) (v8 : T) (v9 : Nat) (v10 : List V) : Option T := runO acfg (pureFin acfg 106) [.loop 106 none (codeOf acfg 106 [1, 1, 1, 0, 0, 0]), .block 0, .code 106 none (codeOf acfg 106 [1, 1, 1, 1])] ⟨mkTs 60 [(2, V.t (T.int .i64 v0)), (3, V.t (T.ptr (tblT v1 v2 v3 v4))), (7, V.msl 5 v5 v6 v7 none), (8, V.t v8)], ⟨10, mkTr [(5, Apex.Obj.cells v9 4 false v10)]⟩, []⟩
def L106_2 (v0 : Int) (v1 : List UInt8) (v2 v3 v4 : T) (v5 v6 v7 : Nat) (v8 v9 : T) (v10 : Int) (v11 : Nat) (v12 : List V) : Option T := runO acfg (pureFin acfg 106) [.loop 106 none (codeOf acfg 106 [1, 1, 1, 0, 0, 0, 1, 0, 1, 1, 1, 0, 0]), .block 2, .block 1, .round 106 none (codeOf acfg 106 [1, 1, 1, 0, 0, 0]) 10, .block 0, .code 106 none (codeOf acfg 106 [1, 1, 1, 1])] ⟨mkTs 60 [(2, V.t (T.int .i64 v0)), (3, V.t (T.ptr (tblT v1 v2 v3 v4))), (7, V.msl 5 v5 v6 v7 none), (8, V.t v8), (9, V.t v9), (10, V.t (T.int .i64 v10))], ⟨25, mkTr [(5, Apex.Obj.cells v11 4 false v12)]⟩, []⟩
def L106_3 (v0 : Int) (v1 : List UInt8) (v2 v3 v4 : T) (v5 v6 v7 v8 v9 v10 : Nat) (v11 : T) (v12 : Int) (v13 : Nat) (v14 : List V) (v15 : Nat) (v16 : List V) : Option T := runO acfg (pureFin acfg 106) [.loop 106 none (codeOf acfg 106 [1, 1, 1, 0, 0, 0, 1, 0, 1, 1, 1, 0, 0]), .block 2, .block 1, .round 106 none (codeOf acfg 106 [1, 1, 1, 0, 0, 0]) 10, .block 0, .code 106 none (codeOf acfg 106 [1, 1, 1, 1])] ⟨mkTs 60 [(2, V.t (T.int .i64 v0)), (3, V.t (T.ptr (tblT v1 v2 v3 v4))), (7, V.msl 5 v5 v6 v7 none), (8, V.msl 50 v8 v9 v10 none), (9, V.t v11), (10, V.t (T.int .i64 v12))], ⟨51, mkTr [(5, Apex.Obj.cells v13 4 false v14), (50, Apex.Obj.cells v15 3 false v16)]⟩, []⟩
def L106_4 (v0 : Int) (v1 : List UInt8) (v2 v3 v4 : T) (v5 v6 v7 v8 v9 v10 v11 : Nat) (v12 : List V) (v13 : Nat) (v14 : List V) : Option T := runO acfg (pureFin acfg 106) [.loop 106 none (codeOf acfg 106 [1, 1, 1, 0, 0, 0]), .block 0, .code 106 none (codeOf acfg 106 [1, 1, 1, 1])] ⟨mkTs 60 [(2, V.t (T.int .i64 v0)), (3, V.t (T.ptr (tblT v1 v2 v3 v4))), (7, V.msl 5 v5 v6 v7 none), (8, V.msl 50 v8 v9 v10 none)], ⟨51, mkTr [(5, Apex.Obj.cells v11 4 false v12), (50, Apex.Obj.cells v13 3 false v14)]⟩, []⟩
def L106_5 (v0 : Int) (v1 : List UInt8) (v2 v3 v4 : T) (v5 v6 v7 v8 v9 v10 : Nat) (v11 : T) (v12 : Int) (v13 : Nat) (v14 : List V) (v15 : Nat) (v16 : List V) : Option T := runO acfg (pureFin acfg 106) [.loop 106 none (codeOf acfg 106 [1, 1, 1, 0, 0, 0, 1, 0, 1, 1, 1, 0, 0]), .block 2, .block 1, .round 106 none (codeOf acfg 106 [1, 1, 1, 0, 0, 0]) 51, .block 0, .code 106 none (codeOf acfg 106 [1, 1, 1, 1])] ⟨mkTs 60 [(2, V.t (T.int .i64 v0)), (3, V.t (T.ptr (tblT v1 v2 v3 v4))), (7, V.msl 5 v5 v6 v7 none), (8, V.msl 50 v8 v9 v10 none), (9, V.t v11), (10, V.t (T.int .i64 v12))], ⟨66, mkTr [(5, Apex.Obj.cells v13 4 false v14), (50, Apex.Obj.cells v15 3 false v16)]⟩, []⟩
theorem L106_1_step (v0 : Int) (v1 : List UInt8) (v2 v3 v4 : T) (v5 v6 v7 : Nat) (v8 : T) (v9 : Nat) (v10 : List V) (r : T) (h : (
 (lenT v8).bind fun x1 =>
 bif iLt 0 x1 then
  (fldT 2 none (T.ptr (tblT v1 v2 v3 v4))).bind fun x2 =>
  (derefT none x2).bind fun x3 =>
  (idxT 1 v8 0).bind fun x4 =>
  (derefT none x4).bind fun x5 =>
  (T.int? .i64 x5).bind fun x6 =>
  (idxT 1 x3 x6).bind fun x7 =>
  (derefT none x7).bind fun x8 =>
  (subT 1 v8 (some 1) none none).bind fun x9 =>
  bif objBd 25 (Apex.Obj.cells v9 4 false v10) then
  L106_2 v0 v1 v2 v3 v4 v5 v6 v7 x9 x8 0 v9 v10
  else none
 else
  bif rowIn v0 v7 then
  bif natEq v9 v5 then
  (rowS none v10 (rowOff v6 v0 1)).bind fun x10 =>
  (T.bool? x10).bind fun x11 =>
  some (T.bool x11)
  else none
  else none) = some r) : L106_1 v0 v1 v2 v3 v4 v5 v6 v7 v8 v9 v10 = some r :=
 rdr [5] h
theorem L106_2_step (v0 : Int) (v1 : List UInt8) (v2 v3 v4 : T) (v5 v6 v7 : Nat) (v8 v9 : T) (v10 : Int) (v11 : Nat) (v12 : List V) (r : T) (h : (
 (lenT v9).bind fun x1 =>
 bif iLt v10 x1 then
  (idxT 1 v9 v10).bind fun x2 =>
  (derefT none x2).bind fun x3 =>
  (T.int? .i64 x3).bind fun x4 =>
  bif rowIn x4 v7 then
  bif natEq v11 v5 then
  (rowS none v12 (rowOff v6 x4 1)).bind fun x5 =>
  (T.bool? x5).bind fun x6 =>
  bif bNot x6 then
   (idxT 1 v9 v10).bind fun x7 =>
   (derefT none x7).bind fun x8 =>
   (T.int? .i64 x8).bind fun x9 =>
   bif rowIn x9 v7 then
   bif natEq v11 v5 then
   bif (rowSetOK v12 (rowOff v6 x9 1) (List.length [V.t (T.bool true)])) then
   (idxT 1 v9 v10).bind fun x10 =>
   (derefT none x10).bind fun x11 =>
   (T.int? .i64 x11).bind fun x12 =>
   (baseT none 1 v8).bind fun x13 =>
   bif (newOK (List.length x13) (List.length [V.t (T.int .i64 x12)]) 8) then
   bif (objBd 51 (Apex.Obj.cells v11 4 false (rowSet v12 (rowOff v6 x9 1) [V.t (T.bool true)]))) then
   bif (objBd 51 (Apex.Obj.cells 1 3 false (rowNew x13 [V.t (T.int .i64 x12)]))) then
   L106_3 v0 v1 v2 v3 v4 v5 v6 v7 1 0 (lenNew x13 [V.t (T.int .i64 x12)]) v9 (iAdd .i64 v10 1) v11 (rowSet v12 (rowOff v6 x9 1) [V.t (T.bool true)]) 1 (rowNew x13 [V.t (T.int .i64 x12)])
   else none
   else none
   else none
   else none
   else none
   else none
  else
   bif objBd 25 (Apex.Obj.cells v11 4 false v12) then
   L106_2 v0 v1 v2 v3 v4 v5 v6 v7 v8 v9 (iAdd .i64 v10 1) v11 v12
   else none
  else none
  else none
 else
  bif objBd 10 (Apex.Obj.cells v11 4 false v12) then
  L106_1 v0 v1 v2 v3 v4 v5 v6 v7 v8 v11 v12
  else none) = some r) : L106_2 v0 v1 v2 v3 v4 v5 v6 v7 v8 v9 v10 v11 v12 = some r :=
 rdr [5] h
theorem L106_3_step (v0 : Int) (v1 : List UInt8) (v2 v3 v4 : T) (v5 v6 v7 v8 v9 v10 : Nat) (v11 : T) (v12 : Int) (v13 : Nat) (v14 : List V) (v15 : Nat) (v16 : List V) (r : T) (h : (
 (lenT v11).bind fun x1 =>
 bif iLt v12 x1 then
  (idxT 1 v11 v12).bind fun x2 =>
  (derefT none x2).bind fun x3 =>
  (T.int? .i64 x3).bind fun x4 =>
  bif rowIn x4 v7 then
  bif natEq v13 v5 then
  (rowS none v14 (rowOff v6 x4 1)).bind fun x5 =>
  (T.bool? x5).bind fun x6 =>
  bif bNot x6 then
   (idxT 1 v11 v12).bind fun x7 =>
   (derefT none x7).bind fun x8 =>
   (T.int? .i64 x8).bind fun x9 =>
   bif rowIn x9 v7 then
   bif natEq v13 v5 then
   bif (rowSetOK v14 (rowOff v6 x9 1) (List.length [V.t (T.bool true)])) then
   (idxT 1 v11 v12).bind fun x10 =>
   (derefT none x10).bind fun x11 =>
   (T.int? .i64 x11).bind fun x12 =>
   bif natEq v15 v8 then
   bif (appOK v16 v9 v10 1 [V.t (T.int .i64 x12)] 8) then
   bif (objBd 51 (Apex.Obj.cells v13 4 false (rowSet v14 (rowOff v6 x9 1) [V.t (T.bool true)]))) then
   bif (objBd 51 (Apex.Obj.cells (appGen v15 [V.t (T.int .i64 x12)]) 3 false (appCs v16 v9 [V.t (T.int .i64 x12)]))) then
   L106_3 v0 v1 v2 v3 v4 v5 v6 v7 (appGen v15 [V.t (T.int .i64 x12)]) 0 (appLen v10 [V.t (T.int .i64 x12)]) v11 (iAdd .i64 v12 1) v13 (rowSet v14 (rowOff v6 x9 1) [V.t (T.bool true)]) (appGen v15 [V.t (T.int .i64 x12)]) (appCs v16 v9 [V.t (T.int .i64 x12)])
   else none
   else none
   else none
   else none
   else none
   else none
   else none
  else
   bif objBd 51 (Apex.Obj.cells v13 4 false v14) then
   bif objBd 51 (Apex.Obj.cells v15 3 false v16) then
   L106_3 v0 v1 v2 v3 v4 v5 v6 v7 v8 v9 v10 v11 (iAdd .i64 v12 1) v13 v14 v15 v16
   else none
   else none
  else none
  else none
 else
  bif objBd 51 (Apex.Obj.cells v13 4 false v14) then
  bif objBd 51 (Apex.Obj.cells v15 3 false v16) then
  L106_4 v0 v1 v2 v3 v4 v5 v6 v7 v8 v9 v10 v13 v14 v15 v16
  else none
  else none) = some r) : L106_3 v0 v1 v2 v3 v4 v5 v6 v7 v8 v9 v10 v11 v12 v13 v14 v15 v16 = some r :=
 rdr [5, 50] h
theorem L106_4_step (v0 : Int) (v1 : List UInt8) (v2 v3 v4 : T) (v5 v6 v7 v8 v9 v10 v11 : Nat) (v12 : List V) (v13 : Nat) (v14 : List V) (r : T) (h : (
 bif iLt 0 (nInt v10) then
  (fldT 2 none (T.ptr (tblT v1 v2 v3 v4))).bind fun x1 =>
  (derefT none x1).bind fun x2 =>
  bif rowIn 0 v10 then
  bif natEq v13 v8 then
  (rowS none v14 (rowOff v9 0 1)).bind fun x3 =>
  (T.int? .i64 x3).bind fun x4 =>
  (idxT 1 x2 x4).bind fun x5 =>
  (derefT none x5).bind fun x6 =>
  bif subOK 1 (Int.ofNat v10) v10 then
  bif objBd 66 (Apex.Obj.cells v11 4 false v12) then
  bif objBd 66 (Apex.Obj.cells v13 3 false v14) then
  L106_5 v0 v1 v2 v3 v4 v5 v6 v7 v8 (rowOff v9 1 1) (rowLen 1 (Int.ofNat v10)) x6 0 v11 v12 v13 v14
  else none
  else none
  else none
  else none
  else none
 else
  bif rowIn v0 v7 then
  bif natEq v11 v5 then
  (rowS none v12 (rowOff v6 v0 1)).bind fun x7 =>
  (T.bool? x7).bind fun x8 =>
  some (T.bool x8)
  else none
  else none) = some r) : L106_4 v0 v1 v2 v3 v4 v5 v6 v7 v8 v9 v10 v11 v12 v13 v14 = some r :=
 rdr [5, 50] h
theorem L106_5_step (v0 : Int) (v1 : List UInt8) (v2 v3 v4 : T) (v5 v6 v7 v8 v9 v10 : Nat) (v11 : T) (v12 : Int) (v13 : Nat) (v14 : List V) (v15 : Nat) (v16 : List V) (r : T) (h : (
 (lenT v11).bind fun x1 =>
 bif iLt v12 x1 then
  (idxT 1 v11 v12).bind fun x2 =>
  (derefT none x2).bind fun x3 =>
  (T.int? .i64 x3).bind fun x4 =>
  bif rowIn x4 v7 then
  bif natEq v13 v5 then
  (rowS none v14 (rowOff v6 x4 1)).bind fun x5 =>
  (T.bool? x5).bind fun x6 =>
  bif bNot x6 then
   (idxT 1 v11 v12).bind fun x7 =>
   (derefT none x7).bind fun x8 =>
   (T.int? .i64 x8).bind fun x9 =>
   bif rowIn x9 v7 then
   bif natEq v13 v5 then
   bif (rowSetOK v14 (rowOff v6 x9 1) (List.length [V.t (T.bool true)])) then
   (idxT 1 v11 v12).bind fun x10 =>
   (derefT none x10).bind fun x11 =>
   (T.int? .i64 x11).bind fun x12 =>
   bif natEq v15 v8 then
   bif (appOK v16 v9 v10 1 [V.t (T.int .i64 x12)] 8) then
   bif (objBd 66 (Apex.Obj.cells v13 4 false (rowSet v14 (rowOff v6 x9 1) [V.t (T.bool true)]))) then
   bif (objBd 66 (Apex.Obj.cells (appGen v15 [V.t (T.int .i64 x12)]) 3 false (appCs v16 v9 [V.t (T.int .i64 x12)]))) then
   L106_5 v0 v1 v2 v3 v4 v5 v6 v7 (appGen v15 [V.t (T.int .i64 x12)]) 0 (appLen v10 [V.t (T.int .i64 x12)]) v11 (iAdd .i64 v12 1) v13 (rowSet v14 (rowOff v6 x9 1) [V.t (T.bool true)]) (appGen v15 [V.t (T.int .i64 x12)]) (appCs v16 v9 [V.t (T.int .i64 x12)])
   else none
   else none
   else none
   else none
   else none
   else none
   else none
  else
   bif objBd 66 (Apex.Obj.cells v13 4 false v14) then
   bif objBd 66 (Apex.Obj.cells v15 3 false v16) then
   L106_5 v0 v1 v2 v3 v4 v5 v6 v7 v8 v9 v10 v11 (iAdd .i64 v12 1) v13 v14 v15 v16
   else none
   else none
  else none
  else none
 else
  bif objBd 51 (Apex.Obj.cells v13 4 false v14) then
  bif objBd 51 (Apex.Obj.cells v15 3 false v16) then
  L106_4 v0 v1 v2 v3 v4 v5 v6 v7 v8 v9 v10 v13 v14 v15 v16
  else none
  else none) = some r) : L106_5 v0 v1 v2 v3 v4 v5 v6 v7 v8 v9 v10 v11 v12 v13 v14 v15 v16 = some r :=
 rdr [5, 50] h
theorem fn106 (p : List UInt8) (q s u : T) (a1 a2 : Int) (r : T) (h : (
 bif (vfits (V.t (tblT p q s u)) (some 4)) then
 (fldT 1 none (T.ptr (tblT p q s u))).bind fun x1 =>
 (derefT none x1).bind fun x2 =>
 (lenT x2).bind fun x3 =>
 bif makeOK x3 x3 1 then
 bif (objBd 10 (Apex.Obj.cells 0 4 false (zerosV x3 (T.bool false)))) then
 L106_1 a2 p q s u 0 0 (natOf x3) (T.sl true 1 [T.int .i64 a1]) 0 (zerosV x3 (T.bool false))
 else none
 else none
 else none) = some r) : fnO acfg 106 [tblT p q s u, T.int .i64 a1, T.int .i64 a2] = some r :=
 fo h
def L105_1 (v0 : List UInt8) (v1 v2 v3 : T) (v4 : Int) : Option T := runO acfg (pureFin acfg 105) [.loop 105 none (codeOf acfg 105 [1, 1, 0, 1, 0, 0]), .block 0, .code 105 none (codeOf acfg 105 [1, 1, 1])] ⟨mkTs 33 [(1, V.t (T.ptr (tblT v0 v1 v2 v3))), (3, V.t T.nils), (4, V.t (T.int .i64 v4))], ⟨4, mkTr []⟩, []⟩
def L105_2 (v0 : List UInt8) (v1 v2 v3 : T) (v4 v5 : Int) : Option T := runO acfg (pureFin acfg 105) [.loop 105 none (codeOf acfg 105 [1, 1, 0, 1, 0, 0, 1, 0, 0, 1, 0, 1, 0, 0]), .block 2, .code 105 none (codeOf acfg 105 [1, 1, 0, 1, 0, 0, 1, 0, 0, 1, 1]), .block 1, .code 105 none (codeOf acfg 105 [1, 1, 0, 1, 0, 0, 1, 1]), .round 105 none (codeOf acfg 105 [1, 1, 0, 1, 0, 0]) 4, .block 0, .code 105 none (codeOf acfg 105 [1, 1, 1])] ⟨mkTs 33 [(1, V.t (T.ptr (tblT v0 v1 v2 v3))), (3, V.t T.nils), (4, V.t (T.int .i64 v4)), (5, V.t T.nils), (6, V.t (T.int .i64 v5))], ⟨11, mkTr []⟩, []⟩
def L105_3 (v0 : List UInt8) (v1 v2 v3 : T) (v4 : Int) (v5 v6 v7 : Nat) (v8 : Int) (v9 : Nat) (v10 : List V) : Option T := runO acfg (pureFin acfg 105) [.loop 105 none (codeOf acfg 105 [1, 1, 0, 1, 0, 0, 1, 0, 0, 1, 0, 1, 0, 0]), .block 2, .code 105 none (codeOf acfg 105 [1, 1, 0, 1, 0, 0, 1, 0, 0, 1, 1]), .block 1, .code 105 none (codeOf acfg 105 [1, 1, 0, 1, 0, 0, 1, 1]), .round 105 none (codeOf acfg 105 [1, 1, 0, 1, 0, 0]) 4, .block 0, .code 105 none (codeOf acfg 105 [1, 1, 1])] ⟨mkTs 33 [(1, V.t (T.ptr (tblT v0 v1 v2 v3))), (3, V.t T.nils), (4, V.t (T.int .i64 v4)), (5, V.msl 22 v5 v6 v7 none), (6, V.t (T.int .i64 v8))], ⟨23, mkTr [(22, Apex.Obj.cells v9 4 false v10)]⟩, []⟩
def L105_4 (v0 : List UInt8) (v1 v2 v3 : T) (v4 v5 v6 : Nat) (v7 : Int) (v8 : Nat) (v9 : List V) : Option T := runO acfg (pureFin acfg 105) [.loop 105 none (codeOf acfg 105 [1, 1, 0, 1, 0, 0]), .block 0, .code 105 none (codeOf acfg 105 [1, 1, 1])] ⟨mkTs 33 [(1, V.t (T.ptr (tblT v0 v1 v2 v3))), (3, V.msl 19 v4 v5 v6 none), (4, V.t (T.int .i64 v7))], ⟨20, mkTr [(19, Apex.Obj.cells v8 31 false v9)]⟩, []⟩
def L105_5 (v0 : List UInt8) (v1 v2 v3 : T) (v4 v5 v6 : Nat) (v7 : Int) (v8 : Nat) (v9 : List V) : Option T := runO acfg (pureFin acfg 105) [.loop 105 none (codeOf acfg 105 [1, 1, 0, 1, 0, 0]), .block 0, .code 105 none (codeOf acfg 105 [1, 1, 1])] ⟨mkTs 33 [(1, V.t (T.ptr (tblT v0 v1 v2 v3))), (3, V.msl 31 v4 v5 v6 none), (4, V.t (T.int .i64 v7))], ⟨32, mkTr [(31, Apex.Obj.cells v8 31 false v9)]⟩, []⟩
def L105_7 (v0 : List UInt8) (v1 v2 v3 : T) (v4 v5 v6 : Nat) (v7 v8 : Int) (v9 : Nat) (v10 : List V) : Option T := runO acfg (pureFin acfg 105) [.loop 105 none (codeOf acfg 105 [1, 1, 0, 1, 0, 0, 1, 0, 0, 1, 0, 1, 0, 0]), .block 2, .code 105 none (codeOf acfg 105 [1, 1, 0, 1, 0, 0, 1, 0, 0, 1, 1]), .block 1, .code 105 none (codeOf acfg 105 [1, 1, 0, 1, 0, 0, 1, 1]), .round 105 none (codeOf acfg 105 [1, 1, 0, 1, 0, 0]) 32, .block 0, .code 105 none (codeOf acfg 105 [1, 1, 1])] ⟨mkTs 33 [(1, V.t (T.ptr (tblT v0 v1 v2 v3))), (3, V.msl 31 v4 v5 v6 none), (4, V.t (T.int .i64 v7)), (5, V.t T.nils), (6, V.t (T.int .i64 v8))], ⟨39, mkTr [(31, Apex.Obj.cells v9 31 false v10)]⟩, []⟩
def L105_9 (v0 : List UInt8) (v1 v2 v3 : T) (v4 v5 v6 : Nat) (v7 : Int) (v8 v9 v10 : Nat) (v11 : Int) (v12 : Nat) (v13 : List V) (v14 : Nat) (v15 : List V) : Option T := runO acfg (pureFin acfg 105) [.loop 105 none (codeOf acfg 105 [1, 1, 0, 1, 0, 0, 1, 0, 0, 1, 0, 1, 0, 0]), .block 2, .code 105 none (codeOf acfg 105 [1, 1, 0, 1, 0, 0, 1, 0, 0, 1, 1]), .block 1, .code 105 none (codeOf acfg 105 [1, 1, 0, 1, 0, 0, 1, 1]), .round 105 none (codeOf acfg 105 [1, 1, 0, 1, 0, 0]) 32, .block 0, .code 105 none (codeOf acfg 105 [1, 1, 1])] ⟨mkTs 33 [(1, V.t (T.ptr (tblT v0 v1 v2 v3))), (3, V.msl 31 v4 v5 v6 none), (4, V.t (T.int .i64 v7)), (5, V.msl 50 v8 v9 v10 none), (6, V.t (T.int .i64 v11))], ⟨51, mkTr [(31, Apex.Obj.cells v12 31 false v13), (50, Apex.Obj.cells v14 4 false v15)]⟩, []⟩
theorem L105_1_step (v0 : List UInt8) (v1 v2 v3 : T) (v4 : Int) (r : T) (h : (
 (fldT 1 none (T.ptr (tblT v0 v1 v2 v3))).bind fun x1 =>
 (derefT none x1).bind fun x2 =>
 (lenT x2).bind fun x3 =>
 bif iLt v4 x3 then
  L105_2 v0 v1 v2 v3 v4 0
 else
  some T.nils) = some r) : L105_1 v0 v1 v2 v3 v4 = some r :=
 rd h
theorem L105_2_step (v0 : List UInt8) (v1 v2 v3 : T) (v4 v5 : Int) (r : T) (h : (
 (fldT 1 none (T.ptr (tblT v0 v1 v2 v3))).bind fun x1 =>
 (derefT none x1).bind fun x2 =>
 (lenT x2).bind fun x3 =>
 bif iLt v5 x3 then
  (derefT (some 4) (T.ptr (tblT v0 v1 v2 v3))).bind fun x4 =>
  (T.agg? (List.length D4) x4).bind fun x5 =>
  (T.str? (nthT x5 0)).bind fun x6 =>
  (fnO acfg 111 [tblT x6 (nthT x5 1) (nthT x5 2) (nthT x5 3), T.int .i64 v4, T.int .i64 v5]).bind fun x7 =>
  bif T.scalar x7 then
  (T.bool? x7).bind fun x8 =>
  L105_3 v0 v1 v2 v3 v4 1 0 1 (iAdd .i64 v5 1) 1 (rowNew [] [V.t (T.bool x8)])
  else none
 else
  L105_4 v0 v1 v2 v3 1 0 1 (iAdd .i64 v4 1) 1 (rowNew [] [V.t T.nils])) = some r) : L105_2 v0 v1 v2 v3 v4 v5 = some r :=
 rd h
theorem L105_3_step (v0 : List UInt8) (v1 v2 v3 : T) (v4 : Int) (v5 v6 v7 : Nat) (v8 : Int) (v9 : Nat) (v10 : List V) (r : T) (h : (
 (fldT 1 none (T.ptr (tblT v0 v1 v2 v3))).bind fun x1 =>
 (derefT none x1).bind fun x2 =>
 (lenT x2).bind fun x3 =>
 bif iLt v8 x3 then
  (derefT (some 4) (T.ptr (tblT v0 v1 v2 v3))).bind fun x4 =>
  (T.agg? (List.length D4) x4).bind fun x5 =>
  (T.str? (nthT x5 0)).bind fun x6 =>
  (fnO acfg 111 [tblT x6 (nthT x5 1) (nthT x5 2) (nthT x5 3), T.int .i64 v4, T.int .i64 v8]).bind fun x7 =>
  bif T.scalar x7 then
  (T.bool? x7).bind fun x8 =>
  bif natEq v9 v5 then
  bif (appOK v10 v6 v7 1 [V.t (T.bool x8)] 1) then
  bif (objBd 23 (Apex.Obj.cells (appGen v9 [V.t (T.bool x8)]) 4 false (appCs v10 v6 [V.t (T.bool x8)]))) then
  L105_3 v0 v1 v2 v3 v4 (appGen v9 [V.t (T.bool x8)]) 0 (appLen v7 [V.t (T.bool x8)]) (iAdd .i64 v8 1) (appGen v9 [V.t (T.bool x8)]) (appCs v10 v6 [V.t (T.bool x8)])
  else none
  else none
  else none
  else none
 else
  bif natEq v5 v9 then
  (treeOf none v10 v6 v7).bind fun x9 =>
  bif vfits (V.t x9) none then
  bif vfits (V.t x9) none then
  bif (objBd 32 (Apex.Obj.cells 1 31 false (rowNew [] [V.t x9]))) then
  L105_5 v0 v1 v2 v3 1 0 1 (iAdd .i64 v4 1) 1 (rowNew [] [V.t x9])
  else none
  else none
  else none
  else none) = some r) : L105_3 v0 v1 v2 v3 v4 v5 v6 v7 v8 v9 v10 = some r :=
 rdr [22] h
theorem L105_5_step (v0 : List UInt8) (v1 v2 v3 : T) (v4 v5 v6 : Nat) (v7 : Int) (v8 : Nat) (v9 : List V) (r : T) (h : (
 (fldT 1 none (T.ptr (tblT v0 v1 v2 v3))).bind fun x1 =>
 (derefT none x1).bind fun x2 =>
 (lenT x2).bind fun x3 =>
 bif iLt v7 x3 then
  bif objBd 39 (Apex.Obj.cells v8 31 false v9) then
  L105_7 v0 v1 v2 v3 v4 v5 v6 v7 0 v8 v9
  else none
 else
  bif natEq v8 v4 then
  (rowT none v9 v5 v6).bind fun x4 =>
  some (T.sl false 1 x4)
  else none) = some r) : L105_5 v0 v1 v2 v3 v4 v5 v6 v7 v8 v9 = some r :=
 rdr [31] h
theorem L105_7_step (v0 : List UInt8) (v1 v2 v3 : T) (v4 v5 v6 : Nat) (v7 v8 : Int) (v9 : Nat) (v10 : List V) (r : T) (h : (
 (fldT 1 none (T.ptr (tblT v0 v1 v2 v3))).bind fun x1 =>
 (derefT none x1).bind fun x2 =>
 (lenT x2).bind fun x3 =>
 bif iLt v8 x3 then
  (derefT (some 4) (T.ptr (tblT v0 v1 v2 v3))).bind fun x4 =>
  (T.agg? (List.length D4) x4).bind fun x5 =>
  (T.str? (nthT x5 0)).bind fun x6 =>
  (fnO acfg 111 [tblT x6 (nthT x5 1) (nthT x5 2) (nthT x5 3), T.int .i64 v7, T.int .i64 v8]).bind fun x7 =>
  bif T.scalar x7 then
  (T.bool? x7).bind fun x8 =>
  bif objBd 51 (Apex.Obj.cells v9 31 false v10) then
  L105_9 v0 v1 v2 v3 v4 v5 v6 v7 1 0 1 (iAdd .i64 v8 1) v9 v10 1 (rowNew [] [V.t (T.bool x8)])
  else none
  else none
 else
  bif natEq v9 v4 then
  bif appOK v10 v5 v6 1 [V.t T.nils] 24 then
  bif (objBd 32 (Apex.Obj.cells (appGen v9 [V.t T.nils]) 31 false (appCs v10 v5 [V.t T.nils]))) then
  L105_5 v0 v1 v2 v3 (appGen v9 [V.t T.nils]) 0 (appLen v6 [V.t T.nils]) (iAdd .i64 v7 1) (appGen v9 [V.t T.nils]) (appCs v10 v5 [V.t T.nils])
  else none
  else none
  else none) = some r) : L105_7 v0 v1 v2 v3 v4 v5 v6 v7 v8 v9 v10 = some r :=
 rdr [31] h
theorem L105_9_step (v0 : List UInt8) (v1 v2 v3 : T) (v4 v5 v6 : Nat) (v7 : Int) (v8 v9 v10 : Nat) (v11 : Int) (v12 : Nat) (v13 : List V) (v14 : Nat) (v15 : List V) (r : T) (h : (
 (fldT 1 none (T.ptr (tblT v0 v1 v2 v3))).bind fun x1 =>
 (derefT none x1).bind fun x2 =>
 (lenT x2).bind fun x3 =>
 bif iLt v11 x3 then
  (derefT (some 4) (T.ptr (tblT v0 v1 v2 v3))).bind fun x4 =>
  (T.agg? (List.length D4) x4).bind fun x5 =>
  (T.str? (nthT x5 0)).bind fun x6 =>
  (fnO acfg 111 [tblT x6 (nthT x5 1) (nthT x5 2) (nthT x5 3), T.int .i64 v7, T.int .i64 v11]).bind fun x7 =>
  bif T.scalar x7 then
  (T.bool? x7).bind fun x8 =>
  bif natEq v14 v8 then
  bif (appOK v15 v9 v10 1 [V.t (T.bool x8)] 1) then
  bif objBd 51 (Apex.Obj.cells v12 31 false v13) then
  bif (objBd 51 (Apex.Obj.cells (appGen v14 [V.t (T.bool x8)]) 4 false (appCs v15 v9 [V.t (T.bool x8)]))) then
  L105_9 v0 v1 v2 v3 v4 v5 v6 v7 (appGen v14 [V.t (T.bool x8)]) 0 (appLen v10 [V.t (T.bool x8)]) (iAdd .i64 v11 1) v12 v13 (appGen v14 [V.t (T.bool x8)]) (appCs v15 v9 [V.t (T.bool x8)])
  else none
  else none
  else none
  else none
  else none
 else
  bif natEq v8 v14 then
  (treeOf none v15 v9 v10).bind fun x9 =>
  bif vfits (V.t x9) none then
  bif vfits (V.t x9) none then
  bif natEq v12 v4 then
  bif appOK v13 v5 v6 1 [V.t x9] 24 then
  bif (objBd 32 (Apex.Obj.cells (appGen v12 [V.t x9]) 31 false (appCs v13 v5 [V.t x9]))) then
  L105_5 v0 v1 v2 v3 (appGen v12 [V.t x9]) 0 (appLen v6 [V.t x9]) (iAdd .i64 v7 1) (appGen v12 [V.t x9]) (appCs v13 v5 [V.t x9])
  else none
  else none
  else none
  else none
  else none
  else none) = some r) : L105_9 v0 v1 v2 v3 v4 v5 v6 v7 v8 v9 v10 v11 v12 v13 v14 v15 = some r :=
 rdr [31, 50] h
theorem fn105 (p : List UInt8) (q s u r : T) (h : (
 bif (vfits (V.t (tblT p q s u)) (some 4)) then
 L105_1 p q s u 0
 else none) = some r) : fnO acfg 105 [tblT p q s u] = some r :=
 fo h
end
end Go.Proofs.Tryz

namespace Go.Proofs.Tryz
open Go Go.Apex
set_option maxRecDepth 100000
noncomputable section
def L46_1 (v0 v1 : T) (v2 : Int) (v3 : Bool) (v4 : Int) (v5 : Bool) (v6 : Int) (v7 : Bool) (v8 v9 : T) (v10 : Int) (v11 : Bool) (v12 : Int) (v13 v14 : Bool) (v15 : Int) (v16 : Bool) (v17 v18 : T) (v19 : Int) (v20 : Bool) (v21 : Int) (v22 v23 : Bool) (v24 v25 v26 : T) (v27 v28 v29 v30 v31 : Int) (v32 : Bool) (v33 v34 : T) (v35 : Int) (v36 : Bool) (v37 : Int) (v38 : Bool) (v39 : Int) (v40 : Bool) (v41 v42 : T) (v43 : Int) (v44 : Bool) (v45 : Int) (v46 v47 : Bool) (v48 : Int) (v49 : Bool) (v50 v51 : T) (v52 : Int) (v53 : Bool) (v54 : Int) (v55 v56 : Bool) (v57 v58 : T) : Option T := runO acfg (pureFin acfg 46) [.loop 86 none (codeOf acfg 86 [1, 0, 0]), .block 0, .over 86 24 (mkTs 64 [(0, V.t v0), (1, V.t v1), (2, V.ref 1 0 0 (some 3)), (3, V.ref 2 0 0 none), (4, V.t (T.int .i64 v2)), (5, V.t (T.bool v3)), (6, V.t (T.int .i64 v4)), (7, V.t (T.bool v5)), (8, V.t (T.tup [])), (9, V.t (T.tup [])), (10, V.t (T.tup [])), (11, V.t (T.tup [])), (12, V.t (T.tup [T.int .i64 v6, T.bool v7])), (13, V.t v8), (14, V.t (T.fn (Fn.func 84) [] [v9])), (15, V.t (T.tup [T.int .i64 v10, T.bool v11])), (16, V.t (T.int .i64 v12)), (17, V.t (T.bool v13)), (18, V.t (T.bool v14)), (19, V.t (T.tup [])), (20, V.t (T.tup [])), (21, V.t (T.tup [T.int .i64 v15, T.bool v16])), (22, V.t v17), (23, V.t (T.fn (Fn.func 85) [] [v18])), (24, V.t (T.tup [T.int .i64 v19, T.bool v20])), (25, V.t (T.int .i64 v21)), (26, V.t (T.bool v22)), (27, V.t (T.bool v23)), (28, V.t (T.tup [])), (29, V.t (T.tup [])), (30, V.t v24), (31, V.t (T.fn (Fn.func 86) [v25] [])), (32, V.t (T.tup [])), (33, V.t (T.tup [])), (34, V.t (T.tup [])), (35, V.t (T.tup [])), (36, V.t (T.tup [])), (37, V.t (T.tup [])), (38, V.t (T.tup [])), (39, V.t (T.tup [])), (40, V.t (T.tup [])), (41, V.t (T.tup [])), (42, V.t (T.tup [])), (43, V.t (T.tup [])), (44, V.t (T.tup [])), (45, V.t (T.tup [])), (46, V.t (T.tup [])), (47, V.t (T.tup [])), (48, V.t (T.tup [])), (49, V.t (T.tup [])), (50, V.t (T.tup [])), (51, V.t (T.tup [])), (52, V.t (T.tup [])), (53, V.t (T.tup [])), (54, V.t (T.tup [])), (55, V.t (T.tup [])), (56, V.t (T.tup [])), (57, V.t (T.tup [])), (58, V.t (T.tup [])), (59, V.t (T.tup [])), (60, V.t (T.tup [])), (61, V.t (T.tup [])), (62, V.t (T.tup [])), (63, V.t (T.tup []))]) [23], .block 0, .code 46 none (codeOf acfg 46 [1, 1, 1, 1])] ⟨mkTs 31 [(0, V.t v26), (1, V.yld 24), (11, V.t (T.int .i64 v27)), (12, V.t (T.int .i64 v28))], ⟨32, mkTr [(1, Apex.Obj.cells 0 47 false [V.t (T.int .u8 v29), V.t (T.int .i64 v30), V.t (T.int .i64 v31)]), (2, Apex.Obj.cells 0 4 false [V.t (T.bool v32)]), (23, Apex.Obj.defer true), (24, Apex.Obj.loop LoopState.ready none 46 (mkTs 64 [(0, V.t v33), (1, V.t v34), (2, V.ref 1 0 0 (some 3)), (3, V.ref 2 0 0 none), (4, V.t (T.int .i64 v35)), (5, V.t (T.bool v36)), (6, V.t (T.int .i64 v37)), (7, V.t (T.bool v38)), (8, V.t (T.tup [])), (9, V.t (T.tup [])), (10, V.t (T.tup [])), (11, V.t (T.tup [])), (12, V.t (T.tup [T.int .i64 v39, T.bool v40])), (13, V.t v41), (14, V.t (T.fn (Fn.func 84) [] [v42])), (15, V.t (T.tup [T.int .i64 v43, T.bool v44])), (16, V.t (T.int .i64 v45)), (17, V.t (T.bool v46)), (18, V.t (T.bool v47)), (19, V.t (T.tup [])), (20, V.t (T.tup [])), (21, V.t (T.tup [T.int .i64 v48, T.bool v49])), (22, V.t v50), (23, V.t (T.fn (Fn.func 85) [] [v51])), (24, V.t (T.tup [T.int .i64 v52, T.bool v53])), (25, V.t (T.int .i64 v54)), (26, V.t (T.bool v55)), (27, V.t (T.bool v56)), (28, V.t (T.tup [])), (29, V.t (T.tup [])), (30, V.t v57), (31, V.t (T.fn (Fn.func 86) [v58] [])), (32, V.t (T.tup [])), (33, V.t (T.tup [])), (34, V.t (T.tup [])), (35, V.t (T.tup [])), (36, V.t (T.tup [])), (37, V.t (T.tup [])), (38, V.t (T.tup [])), (39, V.t (T.tup [])), (40, V.t (T.tup [])), (41, V.t (T.tup [])), (42, V.t (T.tup [])), (43, V.t (T.tup [])), (44, V.t (T.tup [])), (45, V.t (T.tup [])), (46, V.t (T.tup [])), (47, V.t (T.tup [])), (48, V.t (T.tup [])), (49, V.t (T.tup [])), (50, V.t (T.tup [])), (51, V.t (T.tup [])), (52, V.t (T.tup [])), (53, V.t (T.tup [])), (54, V.t (T.tup [])), (55, V.t (T.tup [])), (56, V.t (T.tup [])), (57, V.t (T.tup [])), (58, V.t (T.tup [])), (59, V.t (T.tup [])), (60, V.t (T.tup [])), (61, V.t (T.tup [])), (62, V.t (T.tup [])), (63, V.t (T.tup []))]) [32, 33] (codeOf acfg 46 [1, 1, 1, 0, 1, 0, 0]) (codeOf acfg 46 [1, 1, 1, 0, 1, 0, 1]))]⟩, []⟩
def L46_2 (v0 v1 : T) (v2 : Int) (v3 : Bool) (v4 : Int) (v5 : Bool) (v6 : Int) (v7 : Bool) (v8 v9 : T) (v10 : Int) (v11 : Bool) (v12 : Int) (v13 v14 : Bool) (v15 : Int) (v16 : Bool) (v17 v18 : T) (v19 : Int) (v20 : Bool) (v21 : Int) (v22 v23 : Bool) (v24 v25 v26 : T) (v27 v28 v29 v30 v31 v32 v33 v34 : Int) (v35 : Bool) (v36 v37 : T) (v38 : Int) (v39 : Bool) (v40 : Int) (v41 : Bool) (v42 : Int) (v43 : Bool) (v44 v45 : T) (v46 : Int) (v47 : Bool) (v48 : Int) (v49 v50 : Bool) (v51 : Int) (v52 : Bool) (v53 v54 : T) (v55 : Int) (v56 : Bool) (v57 : Int) (v58 v59 : Bool) (v60 v61 : T) : Option T := runO acfg (pureFin acfg 46) [.loop 86 none (codeOf acfg 86 [1, 0, 0, 1, 1, 0, 0, 1, 1, 0, 0]), .block 2, .block 1, .code 86 none (codeOf acfg 86 [1, 0, 0, 1, 1, 1]), .round 86 none (codeOf acfg 86 [1, 0, 0]) 32, .block 0, .over 86 24 (mkTs 64 [(0, V.t v0), (1, V.t v1), (2, V.ref 1 0 0 (some 3)), (3, V.ref 2 0 0 none), (4, V.t (T.int .i64 v2)), (5, V.t (T.bool v3)), (6, V.t (T.int .i64 v4)), (7, V.t (T.bool v5)), (8, V.t (T.tup [])), (9, V.t (T.tup [])), (10, V.t (T.tup [])), (11, V.t (T.tup [])), (12, V.t (T.tup [T.int .i64 v6, T.bool v7])), (13, V.t v8), (14, V.t (T.fn (Fn.func 84) [] [v9])), (15, V.t (T.tup [T.int .i64 v10, T.bool v11])), (16, V.t (T.int .i64 v12)), (17, V.t (T.bool v13)), (18, V.t (T.bool v14)), (19, V.t (T.tup [])), (20, V.t (T.tup [])), (21, V.t (T.tup [T.int .i64 v15, T.bool v16])), (22, V.t v17), (23, V.t (T.fn (Fn.func 85) [] [v18])), (24, V.t (T.tup [T.int .i64 v19, T.bool v20])), (25, V.t (T.int .i64 v21)), (26, V.t (T.bool v22)), (27, V.t (T.bool v23)), (28, V.t (T.tup [])), (29, V.t (T.tup [])), (30, V.t v24), (31, V.t (T.fn (Fn.func 86) [v25] [])), (32, V.t (T.tup [])), (33, V.t (T.tup [])), (34, V.t (T.tup [])), (35, V.t (T.tup [])), (36, V.t (T.tup [])), (37, V.t (T.tup [])), (38, V.t (T.tup [])), (39, V.t (T.tup [])), (40, V.t (T.tup [])), (41, V.t (T.tup [])), (42, V.t (T.tup [])), (43, V.t (T.tup [])), (44, V.t (T.tup [])), (45, V.t (T.tup [])), (46, V.t (T.tup [])), (47, V.t (T.tup [])), (48, V.t (T.tup [])), (49, V.t (T.tup [])), (50, V.t (T.tup [])), (51, V.t (T.tup [])), (52, V.t (T.tup [])), (53, V.t (T.tup [])), (54, V.t (T.tup [])), (55, V.t (T.tup [])), (56, V.t (T.tup [])), (57, V.t (T.tup [])), (58, V.t (T.tup [])), (59, V.t (T.tup [])), (60, V.t (T.tup [])), (61, V.t (T.tup [])), (62, V.t (T.tup [])), (63, V.t (T.tup []))]) [23], .block 0, .code 46 none (codeOf acfg 46 [1, 1, 1, 1])] ⟨mkTs 31 [(0, V.t v26), (1, V.yld 24), (4, V.t (T.int .i64 v27)), (11, V.t (T.int .i64 v28)), (12, V.t (T.int .i64 v29)), (20, V.t (T.int .i64 v30)), (21, V.t (T.int .i64 v31))], ⟨42, mkTr [(1, Apex.Obj.cells 0 47 false [V.t (T.int .u8 v32), V.t (T.int .i64 v33), V.t (T.int .i64 v34)]), (2, Apex.Obj.cells 0 4 false [V.t (T.bool v35)]), (23, Apex.Obj.defer true), (24, Apex.Obj.loop LoopState.ready none 46 (mkTs 64 [(0, V.t v36), (1, V.t v37), (2, V.ref 1 0 0 (some 3)), (3, V.ref 2 0 0 none), (4, V.t (T.int .i64 v38)), (5, V.t (T.bool v39)), (6, V.t (T.int .i64 v40)), (7, V.t (T.bool v41)), (8, V.t (T.tup [])), (9, V.t (T.tup [])), (10, V.t (T.tup [])), (11, V.t (T.tup [])), (12, V.t (T.tup [T.int .i64 v42, T.bool v43])), (13, V.t v44), (14, V.t (T.fn (Fn.func 84) [] [v45])), (15, V.t (T.tup [T.int .i64 v46, T.bool v47])), (16, V.t (T.int .i64 v48)), (17, V.t (T.bool v49)), (18, V.t (T.bool v50)), (19, V.t (T.tup [])), (20, V.t (T.tup [])), (21, V.t (T.tup [T.int .i64 v51, T.bool v52])), (22, V.t v53), (23, V.t (T.fn (Fn.func 85) [] [v54])), (24, V.t (T.tup [T.int .i64 v55, T.bool v56])), (25, V.t (T.int .i64 v57)), (26, V.t (T.bool v58)), (27, V.t (T.bool v59)), (28, V.t (T.tup [])), (29, V.t (T.tup [])), (30, V.t v60), (31, V.t (T.fn (Fn.func 86) [v61] [])), (32, V.t (T.tup [])), (33, V.t (T.tup [])), (34, V.t (T.tup [])), (35, V.t (T.tup [])), (36, V.t (T.tup [])), (37, V.t (T.tup [])), (38, V.t (T.tup [])), (39, V.t (T.tup [])), (40, V.t (T.tup [])), (41, V.t (T.tup [])), (42, V.t (T.tup [])), (43, V.t (T.tup [])), (44, V.t (T.tup [])), (45, V.t (T.tup [])), (46, V.t (T.tup [])), (47, V.t (T.tup [])), (48, V.t (T.tup [])), (49, V.t (T.tup [])), (50, V.t (T.tup [])), (51, V.t (T.tup [])), (52, V.t (T.tup [])), (53, V.t (T.tup [])), (54, V.t (T.tup [])), (55, V.t (T.tup [])), (56, V.t (T.tup [])), (57, V.t (T.tup [])), (58, V.t (T.tup [])), (59, V.t (T.tup [])), (60, V.t (T.tup [])), (61, V.t (T.tup [])), (62, V.t (T.tup [])), (63, V.t (T.tup []))]) [32, 33] (codeOf acfg 46 [1, 1, 1, 0, 1, 0, 0]) (codeOf acfg 46 [1, 1, 1, 0, 1, 0, 1]))]⟩, []⟩
theorem L46_1_step (v0 v1 : T) (v2 : Int) (v3 : Bool) (v4 : Int) (v5 : Bool) (v6 : Int) (v7 : Bool) (v8 v9 : T) (v10 : Int) (v11 : Bool) (v12 : Int) (v13 v14 : Bool) (v15 : Int) (v16 : Bool) (v17 v18 : T) (v19 : Int) (v20 : Bool) (v21 : Int) (v22 v23 : Bool) (v24 v25 v26 : T) (v27 v28 v29 v30 v31 : Int) (v32 : Bool) (v33 v34 : T) (v35 : Int) (v36 : Bool) (v37 : Int) (v38 : Bool) (v39 : Int) (v40 : Bool) (v41 v42 : T) (v43 : Int) (v44 : Bool) (v45 : Int) (v46 v47 : Bool) (v48 : Int) (v49 : Bool) (v50 v51 : T) (v52 : Int) (v53 : Bool) (v54 : Int) (v55 v56 : Bool) (v57 v58 r : T) (h : (
 bif iLt v28 v27 then
  bif isPtrT v26 then
  (fldT 0 (some 4) v26).bind fun x1 =>
  (fldT 1 none x1).bind fun x2 =>
  (derefT none x2).bind fun x3 =>
  (lenT x3).bind fun x4 =>
  L46_2 v0 v1 v2 v3 v4 v5 v6 v7 v8 v9 v10 v11 v12 v13 v14 v15 v16 v17 v18 v19 v20 v21 v22 v23 v24 v25 v26 v28 v27 v28 x4 0 v29 v30 v31 v32 v33 v34 v35 v36 v37 v38 v39 v40 v41 v42 v43 v44 v45 v46 v47 v48 v49 v50 v51 v52 v53 v54 v55 v56 v57 v58
  else none
 else
  (derefT none v1).bind fun x5 =>
  (fnO acfg 87 [x5]).bind fun x6 =>
  bif T.scalar x6 then
  (T.tup? (List.length [47, 4]) x6).bind fun x7 =>
  (T.agg? (List.length [D.int .u8, D.int .i64, D.int .i64]) (nthT x7 0)).bind fun x8 =>
  (T.int? .u8 (nthT x8 0)).bind fun x9 =>
  (T.int? .i64 (nthT x8 1)).bind fun x10 =>
  (T.int? .i64 (nthT x8 2)).bind fun x11 =>
  (T.bool? (nthT x7 1)).bind fun x12 =>
  some (T.tup [T.agg [T.int .u8 x9, T.int .i64 x10, T.int .i64 x11], T.bool x12])
  else none) = some r) : L46_1 v0 v1 v2 v3 v4 v5 v6 v7 v8 v9 v10 v11 v12 v13 v14 v15 v16 v17 v18 v19 v20 v21 v22 v23 v24 v25 v26 v27 v28 v29 v30 v31 v32 v33 v34 v35 v36 v37 v38 v39 v40 v41 v42 v43 v44 v45 v46 v47 v48 v49 v50 v51 v52 v53 v54 v55 v56 v57 v58 = some r :=
 rd h
theorem L46_2_step (v0 v1 : T) (v2 : Int) (v3 : Bool) (v4 : Int) (v5 : Bool) (v6 : Int) (v7 : Bool) (v8 v9 : T) (v10 : Int) (v11 : Bool) (v12 : Int) (v13 v14 : Bool) (v15 : Int) (v16 : Bool) (v17 v18 : T) (v19 : Int) (v20 : Bool) (v21 : Int) (v22 v23 : Bool) (v24 v25 v26 : T) (v27 v28 v29 v30 v31 v32 v33 v34 : Int) (v35 : Bool) (v36 v37 : T) (v38 : Int) (v39 : Bool) (v40 : Int) (v41 : Bool) (v42 : Int) (v43 : Bool) (v44 v45 : T) (v46 : Int) (v47 : Bool) (v48 : Int) (v49 v50 : Bool) (v51 : Int) (v52 : Bool) (v53 v54 : T) (v55 : Int) (v56 : Bool) (v57 : Int) (v58 v59 : Bool) (v60 v61 r : T) (h : (
 bif iLt v31 v30 then
  (derefT none v37).bind fun x1 =>
  (fnO acfg 44 [x1, T.int .i64 v27, T.int .i64 v31]).bind fun x2 =>
  bif T.scalar x2 then
  (T.tup? (List.length [3, 4]) x2).bind fun x3 =>
  (T.int? .i64 (nthT x3 0)).bind fun x4 =>
  (T.bool? (nthT x3 1)).bind fun x5 =>
  bif x5 then
   L46_2 v0 v1 v2 v3 v4 v5 v6 v7 v8 v9 v10 v11 v12 v13 v14 v15 v16 v17 v18 v19 v20 v21 v22 v23 v24 v25 v26 v27 v28 v29 v30 (iAdd .i64 v31 1) v32 v33 v34 v35 v36 v37 v38 v39 v40 v41 v42 v43 v44 v45 v46 v47 v48 v49 v50 v51 v52 v53 v54 v55 v56 v57 v58 v59 v60 v61
  else
   bif iLe v31 v27 then
    L46_2 v0 v1 v2 v3 v4 v5 v6 v7 v8 v9 v10 v11 v12 v13 v14 v15 v16 v17 v18 v19 v20 v21 v22 v23 v24 v25 v26 v27 v28 v29 v30 (iAdd .i64 v31 1) v32 v33 v34 v35 v36 v37 v38 v39 v40 v41 v42 v43 v44 v45 v46 v47 v48 v49 v50 v51 v52 v53 v54 v55 v56 v57 v58 v59 v60 v61
   else
    (derefT none v37).bind fun x6 =>
    (fnO acfg 78 [x6, T.sl true 1 [T.int .i64 v27, T.int .i64 v31]]).bind fun x7 =>
    (lenT x7).bind fun x8 =>
    bif iEq x8 0 then
     some (T.tup [T.agg [T.int .u8 3, T.int .i64 v27, T.int .i64 v31], T.bool true])
    else
     some (T.tup [T.agg [T.int .u8 4, T.int .i64 v27, T.int .i64 v31], T.bool true])
  else none
 else
  L46_1 v0 v1 v2 v3 v4 v5 v6 v7 v8 v9 v10 v11 v12 v13 v14 v15 v16 v17 v18 v19 v20 v21 v22 v23 v24 v25 v26 v28 (iAdd .i64 v29 1) v32 v33 v34 v35 v36 v37 v38 v39 v40 v41 v42 v43 v44 v45 v46 v47 v48 v49 v50 v51 v52 v53 v54 v55 v56 v57 v58 v59 v60 v61) = some r) : L46_2 v0 v1 v2 v3 v4 v5 v6 v7 v8 v9 v10 v11 v12 v13 v14 v15 v16 v17 v18 v19 v20 v21 v22 v23 v24 v25 v26 v27 v28 v29 v30 v31 v32 v33 v34 v35 v36 v37 v38 v39 v40 v41 v42 v43 v44 v45 v46 v47 v48 v49 v50 v51 v52 v53 v54 v55 v56 v57 v58 v59 v60 v61 = some r :=
 rd h
theorem fn46 (a0 r : T) (h : (
 bif vfits (V.t a0) none then
 (derefT none (T.ptr a0)).bind fun x1 =>
 (fnO acfg 83 [x1, T.fn (Fn.func 84) [] [T.ptr a0]]).bind fun x2 =>
 bif T.scalar x2 then
 (T.tup? (List.length [3, 4]) x2).bind fun x3 =>
 (T.int? .i64 (nthT x3 0)).bind fun x4 =>
 (T.bool? (nthT x3 1)).bind fun x5 =>
 bif x5 then
  some (T.tup [T.agg [T.int .u8 1, T.int .i64 x4, T.int .i64 0], T.bool true])
 else
  (derefT none (T.ptr a0)).bind fun x6 =>
  (fnO acfg 83 [x6, T.fn (Fn.func 85) [] [T.ptr a0]]).bind fun x7 =>
  bif T.scalar x7 then
  (T.tup? (List.length [3, 4]) x7).bind fun x8 =>
  (T.int? .i64 (nthT x8 0)).bind fun x9 =>
  (T.bool? (nthT x8 1)).bind fun x10 =>
  bif x10 then
   some (T.tup [T.agg [T.int .u8 2, T.int .i64 x9, T.int .i64 0], T.bool true])
  else
   (derefT none (T.ptr a0)).bind fun x11 =>
   bif isPtrT x11 then
   (fldT 0 (some 4) x11).bind fun x12 =>
   (fldT 1 none x12).bind fun x13 =>
   (derefT none x13).bind fun x14 =>
   (lenT x14).bind fun x15 =>
   L46_1 a0 (T.ptr a0) x4 x5 x9 x10 x4 x5 x1 (T.ptr a0) x4 x5 x4 x5 x5 x9 x10 x6 (T.ptr a0) x9 x10 x9 x10 x10 x11 x11 x11 x15 0 0 0 0 false a0 (T.ptr a0) x4 x5 x9 x10 x4 x5 x1 (T.ptr a0) x4 x5 x4 x5 x5 x9 x10 x6 (T.ptr a0) x9 x10 x9 x10 x10 x11 x11
   else none
  else none
 else none
 else none) = some r) : fnO acfg 46 [a0] = some r :=
 fo h
def L99_1 (v0 : List UInt8) (v1 v2 v3 : T) (v4 : Int) (v5 : T) (v6 v7 v8 v9 : Int) : Option T := runO acfg (pureFin acfg 99) [.loop 99 none (codeOf acfg 99 [1, 1, 0, 1, 0, 0]), .block 0, .code 99 none (codeOf acfg 99 [1, 1, 1])] ⟨mkTs 112 [(1, V.t (T.ptr (tblT v0 v1 v2 v3))), (2, V.ref 1 0 0 (some 3)), (3, V.t (T.int .i64 v4)), (4, V.t v5), (5, V.t (T.int .i64 v6))], ⟨10, mkTr [(1, Apex.Obj.cells 0 47 false [V.t (T.int .u8 v7), V.t (T.int .i64 v8), V.t (T.int .i64 v9)])]⟩, []⟩
def L99_2 (v0 : List UInt8) (v1 v2 v3 : T) (v4 : Int) (v5 : T) (v6 v7 v8 v9 : Int) : Option T := runO acfg (pureFin acfg 99) [.loop 99 none (codeOf acfg 99 [1, 1, 1, 0, 1, 0, 0]), .block 2, .code 99 none (codeOf acfg 99 [1, 1, 1, 1])] ⟨mkTs 112 [(1, V.t (T.ptr (tblT v0 v1 v2 v3))), (2, V.ref 1 0 0 (some 3)), (3, V.t (T.int .i64 v4)), (4, V.t v5), (6, V.t (T.int .i64 v6))], ⟨14, mkTr [(1, Apex.Obj.cells 0 47 false [V.t (T.int .u8 v7), V.t (T.int .i64 v8), V.t (T.int .i64 v9)])]⟩, []⟩
def L99_3 (v0 : List UInt8) (v1 v2 v3 : T) (v4 : Int) (v5 : T) (v6 v7 v8 v9 : Int) : Option T := runO acfg (pureFin acfg 99) [.loop 99 none (codeOf acfg 99 [1, 1, 1, 1, 0, 1, 0, 0]), .block 4, .code 99 none (codeOf acfg 99 [1, 1, 1, 1, 1])] ⟨mkTs 112 [(1, V.t (T.ptr (tblT v0 v1 v2 v3))), (2, V.ref 1 0 0 (some 3)), (3, V.t (T.int .i64 v4)), (4, V.t v5), (7, V.t (T.int .i64 v6))], ⟨18, mkTr [(1, Apex.Obj.cells 0 47 false [V.t (T.int .u8 v7), V.t (T.int .i64 v8), V.t (T.int .i64 v9)])]⟩, []⟩
def L99_4 (v0 : List UInt8) (v1 v2 v3 : T) (v4 : Int) (v5 : T) (v6 v7 v8 v9 v10 : Int) : Option T := runO acfg (pureFin acfg 99) [.loop 99 none (codeOf acfg 99 [1, 1, 1, 1, 0, 1, 0, 0, 1, 0, 0, 1, 0, 0]), .block 6, .block 5, .code 99 none (codeOf acfg 99 [1, 1, 1, 1, 0, 1, 0, 0, 1, 1]), .round 99 none (codeOf acfg 99 [1, 1, 1, 1, 0, 1, 0, 0]) 18, .block 4, .code 99 none (codeOf acfg 99 [1, 1, 1, 1, 1])] ⟨mkTs 112 [(1, V.t (T.ptr (tblT v0 v1 v2 v3))), (2, V.ref 1 0 0 (some 3)), (3, V.t (T.int .i64 v4)), (4, V.t v5), (7, V.t (T.int .i64 v6)), (8, V.t (T.int .i64 v7))], ⟨24, mkTr [(1, Apex.Obj.cells 0 47 false [V.t (T.int .u8 v8), V.t (T.int .i64 v9), V.t (T.int .i64 v10)])]⟩, []⟩
def L99_5 (v0 : List UInt8) (v1 v2 v3 : T) (v4 : Int) (v5 : T) (v6 v7 v8 v9 : Int) : Option T := runO acfg (pureFin acfg 99) [.loop 99 none (codeOf acfg 99 [1, 1, 1, 1, 1, 1, 0, 1, 0, 0]), .block 8, .code 99 none (codeOf acfg 99 [1, 1, 1, 1, 1, 1, 1])] ⟨mkTs 112 [(1, V.t (T.ptr (tblT v0 v1 v2 v3))), (2, V.ref 1 0 0 (some 3)), (3, V.t (T.int .i64 v4)), (4, V.t v5), (10, V.t (T.int .i64 v6))], ⟨26, mkTr [(1, Apex.Obj.cells 0 47 false [V.t (T.int .u8 v7), V.t (T.int .i64 v8), V.t (T.int .i64 v9)])]⟩, []⟩
def L99_6 (v0 : List UInt8) (v1 v2 v3 : T) (v4 : Int) (v5 : T) (v6 v7 v8 v9 v10 : Int) : Option T := runO acfg (pureFin acfg 99) [.loop 99 none (codeOf acfg 99 [1, 1, 1, 1, 1, 1, 0, 1, 0, 0, 1, 0, 0, 1, 0, 0]), .block 10, .block 9, .code 99 none (codeOf acfg 99 [1, 1, 1, 1, 1, 1, 0, 1, 0, 0, 1, 1]), .round 99 none (codeOf acfg 99 [1, 1, 1, 1, 1, 1, 0, 1, 0, 0]) 26, .block 8, .code 99 none (codeOf acfg 99 [1, 1, 1, 1, 1, 1, 1])] ⟨mkTs 112 [(1, V.t (T.ptr (tblT v0 v1 v2 v3))), (2, V.ref 1 0 0 (some 3)), (3, V.t (T.int .i64 v4)), (4, V.t v5), (10, V.t (T.int .i64 v6)), (11, V.t (T.int .i64 v7))], ⟨30, mkTr [(1, Apex.Obj.cells 0 47 false [V.t (T.int .u8 v8), V.t (T.int .i64 v9), V.t (T.int .i64 v10)])]⟩, []⟩
theorem L99_1_step (v0 : List UInt8) (v1 v2 v3 : T) (v4 : Int) (v5 : T) (v6 v7 v8 v9 : Int) (r : T) (h : (
 bif iLt v6 v4 then
  (derefT (some 4) (T.ptr (tblT v0 v1 v2 v3))).bind fun x1 =>
  (T.agg? (List.length D4) x1).bind fun x2 =>
  (T.str? (nthT x2 0)).bind fun x3 =>
  (fnO acfg 106 [tblT x3 (nthT x2 1) (nthT x2 2) (nthT x2 3), T.int .i64 v6, T.int .i64 v6]).bind fun x4 =>
  bif T.scalar x4 then
  (T.bool? x4).bind fun x5 =>
  bif x5 then
   some (T.agg [T.int .u8 1, T.int .i64 v6, T.int .i64 0])
  else
   L99_1 v0 v1 v2 v3 v4 v5 (iAdd .i64 v6 1) v7 v8 v9
  else none
 else
  L99_2 v0 v1 v2 v3 v4 v5 0 v7 v8 v9) = some r) : L99_1 v0 v1 v2 v3 v4 v5 v6 v7 v8 v9 = some r :=
 rd h
theorem L99_2_step (v0 : List UInt8) (v1 v2 v3 : T) (v4 : Int) (v5 : T) (v6 v7 v8 v9 : Int) (r : T) (h : (
 bif iLt v6 v4 then
  (idxT 1 v5 0).bind fun x1 =>
  (derefT none x1).bind fun x2 =>
  (idxT 1 x2 v6).bind fun x3 =>
  (derefT none x3).bind fun x4 =>
  (T.bool? x4).bind fun x5 =>
  bif bNot x5 then
   some (T.agg [T.int .u8 2, T.int .i64 v6, T.int .i64 0])
  else
   L99_2 v0 v1 v2 v3 v4 v5 (iAdd .i64 v6 1) v7 v8 v9
 else
  L99_3 v0 v1 v2 v3 v4 v5 0 v7 v8 v9) = some r) : L99_2 v0 v1 v2 v3 v4 v5 v6 v7 v8 v9 = some r :=
 rd h
theorem L99_3_step (v0 : List UInt8) (v1 v2 v3 : T) (v4 : Int) (v5 : T) (v6 v7 v8 v9 : Int) (r : T) (h : (
 bif iLt v6 v4 then
  L99_4 v0 v1 v2 v3 v4 v5 v6 (iAdd .i64 v6 1) v7 v8 v9
 else
  (fldT 3 none (T.ptr (tblT v0 v1 v2 v3))).bind fun x1 =>
  (derefT none x1).bind fun x2 =>
  (idxT 1 x2 0).bind fun x3 =>
  (derefT none x3).bind fun x4 =>
  (T.bool? x4).bind fun x5 =>
  bif x5 then
   some (T.agg [T.int .u8 5, T.int .i64 0, T.int .i64 0])
  else
   L99_5 v0 v1 v2 v3 v4 v5 0 v7 v8 v9) = some r) : L99_3 v0 v1 v2 v3 v4 v5 v6 v7 v8 v9 = some r :=
 rd h
theorem L99_4_step (v0 : List UInt8) (v1 v2 v3 : T) (v4 : Int) (v5 : T) (v6 v7 v8 v9 v10 : Int) (r : T) (h : (
 bif iLt v7 v4 then
  (fnO acfg 107 [v5, T.int .i64 v6, T.int .i64 v7]).bind fun x1 =>
  (lenT x1).bind fun x2 =>
  bif iEq x2 0 then
   some (T.agg [T.int .u8 3, T.int .i64 v6, T.int .i64 v7])
  else
   (fnO acfg 108 [v5, x1]).bind fun x3 =>
   bif T.scalar x3 then
   (T.int? .i64 x3).bind fun x4 =>
   bif iLt x4 0 then
    some (T.agg [T.int .u8 4, T.int .i64 v6, T.int .i64 v7])
   else
    L99_4 v0 v1 v2 v3 v4 v5 v6 (iAdd .i64 v7 1) v8 v9 v10
   else none
 else
  L99_3 v0 v1 v2 v3 v4 v5 (iAdd .i64 v6 1) v8 v9 v10) = some r) : L99_4 v0 v1 v2 v3 v4 v5 v6 v7 v8 v9 v10 = some r :=
 rd h
theorem L99_5_step (v0 : List UInt8) (v1 v2 v3 : T) (v4 : Int) (v5 : T) (v6 v7 v8 v9 : Int) (r : T) (h : (
 bif iLt v6 v4 then
  L99_6 v0 v1 v2 v3 v4 v5 v6 0 v7 v8 v9
 else
  some (T.agg [T.int .u8 0, T.int .i64 0, T.int .i64 0])) = some r) : L99_5 v0 v1 v2 v3 v4 v5 v6 v7 v8 v9 = some r :=
 rd h
theorem L99_6_step (v0 : List UInt8) (v1 v2 v3 : T) (v4 : Int) (v5 : T) (v6 v7 v8 v9 v10 : Int) (r : T) (h : (
 bif iLt v7 v4 then
  (fldT 3 none (T.ptr (tblT v0 v1 v2 v3))).bind fun x1 =>
  (derefT none x1).bind fun x2 =>
  (idxT 1 x2 v6).bind fun x3 =>
  (derefT none x3).bind fun x4 =>
  (T.bool? x4).bind fun x5 =>
  bif x5 then
   (fldT 3 none (T.ptr (tblT v0 v1 v2 v3))).bind fun x6 =>
   (derefT none x6).bind fun x7 =>
   (idxT 1 x7 v7).bind fun x8 =>
   (derefT none x8).bind fun x9 =>
   (T.bool? x9).bind fun x10 =>
   bif bNot x10 then
    (idxT 1 v5 v6).bind fun x11 =>
    (derefT none x11).bind fun x12 =>
    (idxT 1 x12 v7).bind fun x13 =>
    (derefT none x13).bind fun x14 =>
    (T.bool? x14).bind fun x15 =>
    bif x15 then
     some (T.agg [T.int .u8 5, T.int .i64 v6, T.int .i64 v7])
    else
     L99_6 v0 v1 v2 v3 v4 v5 v6 (iAdd .i64 v7 1) v8 v9 v10
   else
    L99_6 v0 v1 v2 v3 v4 v5 v6 (iAdd .i64 v7 1) v8 v9 v10
  else
   L99_6 v0 v1 v2 v3 v4 v5 v6 (iAdd .i64 v7 1) v8 v9 v10
 else
  L99_5 v0 v1 v2 v3 v4 v5 (iAdd .i64 v6 1) v8 v9 v10) = some r) : L99_6 v0 v1 v2 v3 v4 v5 v6 v7 v8 v9 v10 = some r :=
 rd h
theorem fn99 (p : List UInt8) (q s u r : T) (h : (
 bif (vfits (V.t (tblT p q s u)) (some 4)) then
 (fldT 1 none (T.ptr (tblT p q s u))).bind fun x1 =>
 (derefT none x1).bind fun x2 =>
 (lenT x2).bind fun x3 =>
 (derefT (some 4) (T.ptr (tblT p q s u))).bind fun x4 =>
 (T.agg? (List.length D4) x4).bind fun x5 =>
 (T.str? (nthT x5 0)).bind fun x6 =>
 (fnO acfg 105 [tblT x6 (nthT x5 1) (nthT x5 2) (nthT x5 3)]).bind fun x7 =>
 L99_1 p q s u x3 x7 0 0 0 0
 else none) = some r) : fnO acfg 99 [tblT p q s u] = some r :=
 fo h
def L87_1 (v0 v1 v2 v3 v4 v5 v6 v7 : T) (v8 : Bool) (v9 v10 v11 : T) (v12 v13 v14 v15 v16 : Int) (v17 : Bool) (v18 v19 v20 v21 v22 v23 v24 v25 : T) (v26 : Bool) (v27 v28 : T) : Option T := runO acfg (pureFin acfg 87) [.loop 86 none (codeOf acfg 86 [1, 0, 0]), .block 0, .over 86 13 (mkTs 47 [(0, V.t v0), (1, V.t v1), (2, V.ref 1 0 0 (some 3)), (3, V.ref 2 0 0 none), (4, V.t (T.tup [])), (5, V.t (T.tup [])), (6, V.t v2), (7, V.t v3), (8, V.t v4), (9, V.t v5), (10, V.t v6), (11, V.t v7), (12, V.t (T.bool v8)), (13, V.t (T.tup [])), (14, V.t v9), (15, V.t (T.fn (Fn.func 86) [v10] [])), (16, V.t (T.tup [])), (17, V.t (T.tup [])), (18, V.t (T.tup [])), (19, V.t (T.tup [])), (20, V.t (T.tup [])), (21, V.t (T.tup [])), (22, V.t (T.tup [])), (23, V.t (T.tup [])), (24, V.t (T.tup [])), (25, V.t (T.tup [])), (26, V.t (T.tup [])), (27, V.t (T.tup [])), (28, V.t (T.tup [])), (29, V.t (T.tup [])), (30, V.t (T.tup [])), (31, V.t (T.tup [])), (32, V.t (T.tup [])), (33, V.t (T.tup [])), (34, V.t (T.tup [])), (35, V.t (T.tup [])), (36, V.t (T.tup [])), (37, V.t (T.tup [])), (38, V.t (T.tup [])), (39, V.t (T.tup [])), (40, V.t (T.tup [])), (41, V.t (T.tup [])), (42, V.t (T.tup [])), (43, V.t (T.tup [])), (44, V.t (T.tup [])), (45, V.t (T.tup [])), (46, V.t (T.tup []))]) [12], .block 0, .code 87 none (codeOf acfg 87 [1, 1, 1])] ⟨mkTs 31 [(0, V.t v11), (1, V.yld 13), (11, V.t (T.int .i64 v12)), (12, V.t (T.int .i64 v13))], ⟨21, mkTr [(1, Apex.Obj.cells 0 47 false [V.t (T.int .u8 v14), V.t (T.int .i64 v15), V.t (T.int .i64 v16)]), (2, Apex.Obj.cells 0 4 false [V.t (T.bool v17)]), (12, Apex.Obj.defer true), (13, Apex.Obj.loop LoopState.ready none 87 (mkTs 47 [(0, V.t v18), (1, V.t v19), (2, V.ref 1 0 0 (some 3)), (3, V.ref 2 0 0 none), (4, V.t (T.tup [])), (5, V.t (T.tup [])), (6, V.t v20), (7, V.t v21), (8, V.t v22), (9, V.t v23), (10, V.t v24), (11, V.t v25), (12, V.t (T.bool v26)), (13, V.t (T.tup [])), (14, V.t v27), (15, V.t (T.fn (Fn.func 86) [v28] [])), (16, V.t (T.tup [])), (17, V.t (T.tup [])), (18, V.t (T.tup [])), (19, V.t (T.tup [])), (20, V.t (T.tup [])), (21, V.t (T.tup [])), (22, V.t (T.tup [])), (23, V.t (T.tup [])), (24, V.t (T.tup [])), (25, V.t (T.tup [])), (26, V.t (T.tup [])), (27, V.t (T.tup [])), (28, V.t (T.tup [])), (29, V.t (T.tup [])), (30, V.t (T.tup [])), (31, V.t (T.tup [])), (32, V.t (T.tup [])), (33, V.t (T.tup [])), (34, V.t (T.tup [])), (35, V.t (T.tup [])), (36, V.t (T.tup [])), (37, V.t (T.tup [])), (38, V.t (T.tup [])), (39, V.t (T.tup [])), (40, V.t (T.tup [])), (41, V.t (T.tup [])), (42, V.t (T.tup [])), (43, V.t (T.tup [])), (44, V.t (T.tup [])), (45, V.t (T.tup [])), (46, V.t (T.tup []))]) [16, 17] (codeOf acfg 87 [1, 1, 0, 1, 0, 0]) (codeOf acfg 87 [1, 1, 0, 1, 0, 1]))]⟩, []⟩
def L87_2 (v0 v1 v2 v3 v4 v5 v6 v7 : T) (v8 : Bool) (v9 v10 v11 : T) (v12 v13 v14 v15 v16 v17 v18 v19 : Int) (v20 : Bool) (v21 v22 v23 v24 v25 v26 v27 v28 : T) (v29 : Bool) (v30 v31 : T) : Option T := runO acfg (pureFin acfg 87) [.loop 86 none (codeOf acfg 86 [1, 0, 0, 1, 1, 0, 0, 1, 1, 0, 0]), .block 2, .block 1, .code 86 none (codeOf acfg 86 [1, 0, 0, 1, 1, 1]), .round 86 none (codeOf acfg 86 [1, 0, 0]) 21, .block 0, .over 86 13 (mkTs 47 [(0, V.t v0), (1, V.t v1), (2, V.ref 1 0 0 (some 3)), (3, V.ref 2 0 0 none), (4, V.t (T.tup [])), (5, V.t (T.tup [])), (6, V.t v2), (7, V.t v3), (8, V.t v4), (9, V.t v5), (10, V.t v6), (11, V.t v7), (12, V.t (T.bool v8)), (13, V.t (T.tup [])), (14, V.t v9), (15, V.t (T.fn (Fn.func 86) [v10] [])), (16, V.t (T.tup [])), (17, V.t (T.tup [])), (18, V.t (T.tup [])), (19, V.t (T.tup [])), (20, V.t (T.tup [])), (21, V.t (T.tup [])), (22, V.t (T.tup [])), (23, V.t (T.tup [])), (24, V.t (T.tup [])), (25, V.t (T.tup [])), (26, V.t (T.tup [])), (27, V.t (T.tup [])), (28, V.t (T.tup [])), (29, V.t (T.tup [])), (30, V.t (T.tup [])), (31, V.t (T.tup [])), (32, V.t (T.tup [])), (33, V.t (T.tup [])), (34, V.t (T.tup [])), (35, V.t (T.tup [])), (36, V.t (T.tup [])), (37, V.t (T.tup [])), (38, V.t (T.tup [])), (39, V.t (T.tup [])), (40, V.t (T.tup [])), (41, V.t (T.tup [])), (42, V.t (T.tup [])), (43, V.t (T.tup [])), (44, V.t (T.tup [])), (45, V.t (T.tup [])), (46, V.t (T.tup []))]) [12], .block 0, .code 87 none (codeOf acfg 87 [1, 1, 1])] ⟨mkTs 31 [(0, V.t v11), (1, V.yld 13), (4, V.t (T.int .i64 v12)), (11, V.t (T.int .i64 v13)), (12, V.t (T.int .i64 v14)), (20, V.t (T.int .i64 v15)), (21, V.t (T.int .i64 v16))], ⟨31, mkTr [(1, Apex.Obj.cells 0 47 false [V.t (T.int .u8 v17), V.t (T.int .i64 v18), V.t (T.int .i64 v19)]), (2, Apex.Obj.cells 0 4 false [V.t (T.bool v20)]), (12, Apex.Obj.defer true), (13, Apex.Obj.loop LoopState.ready none 87 (mkTs 47 [(0, V.t v21), (1, V.t v22), (2, V.ref 1 0 0 (some 3)), (3, V.ref 2 0 0 none), (4, V.t (T.tup [])), (5, V.t (T.tup [])), (6, V.t v23), (7, V.t v24), (8, V.t v25), (9, V.t v26), (10, V.t v27), (11, V.t v28), (12, V.t (T.bool v29)), (13, V.t (T.tup [])), (14, V.t v30), (15, V.t (T.fn (Fn.func 86) [v31] [])), (16, V.t (T.tup [])), (17, V.t (T.tup [])), (18, V.t (T.tup [])), (19, V.t (T.tup [])), (20, V.t (T.tup [])), (21, V.t (T.tup [])), (22, V.t (T.tup [])), (23, V.t (T.tup [])), (24, V.t (T.tup [])), (25, V.t (T.tup [])), (26, V.t (T.tup [])), (27, V.t (T.tup [])), (28, V.t (T.tup [])), (29, V.t (T.tup [])), (30, V.t (T.tup [])), (31, V.t (T.tup [])), (32, V.t (T.tup [])), (33, V.t (T.tup [])), (34, V.t (T.tup [])), (35, V.t (T.tup [])), (36, V.t (T.tup [])), (37, V.t (T.tup [])), (38, V.t (T.tup [])), (39, V.t (T.tup [])), (40, V.t (T.tup [])), (41, V.t (T.tup [])), (42, V.t (T.tup [])), (43, V.t (T.tup [])), (44, V.t (T.tup [])), (45, V.t (T.tup [])), (46, V.t (T.tup []))]) [16, 17] (codeOf acfg 87 [1, 1, 0, 1, 0, 0]) (codeOf acfg 87 [1, 1, 0, 1, 0, 1]))]⟩, []⟩
theorem L87_1_step (v0 v1 v2 v3 v4 v5 v6 v7 : T) (v8 : Bool) (v9 v10 v11 : T) (v12 v13 v14 v15 v16 : Int) (v17 : Bool) (v18 v19 v20 v21 v22 v23 v24 v25 : T) (v26 : Bool) (v27 v28 r : T) (h : (
 bif iLt v13 v12 then
  bif isPtrT v11 then
  (fldT 0 (some 4) v11).bind fun x1 =>
  (fldT 1 none x1).bind fun x2 =>
  (derefT none x2).bind fun x3 =>
  (lenT x3).bind fun x4 =>
  L87_2 v0 v1 v2 v3 v4 v5 v6 v7 v8 v9 v10 v11 v13 v12 v13 x4 0 v14 v15 v16 v17 v18 v19 v20 v21 v22 v23 v24 v25 v26 v27 v28
  else none
 else
  some (T.tup [T.agg [T.int .u8 0, T.int .i64 0, T.int .i64 0], T.bool false])) = some r) : L87_1 v0 v1 v2 v3 v4 v5 v6 v7 v8 v9 v10 v11 v12 v13 v14 v15 v16 v17 v18 v19 v20 v21 v22 v23 v24 v25 v26 v27 v28 = some r :=
 rd h
theorem L87_2_step (v0 v1 v2 v3 v4 v5 v6 v7 : T) (v8 : Bool) (v9 v10 v11 : T) (v12 v13 v14 v15 v16 v17 v18 v19 : Int) (v20 : Bool) (v21 v22 v23 v24 v25 v26 v27 v28 : T) (v29 : Bool) (v30 v31 r : T) (h : (
 bif iLt v16 v15 then
  (derefT none v22).bind fun x1 =>
  bif isPtrT x1 then
  (fldT 0 (some 4) x1).bind fun x2 =>
  (fldT 3 none x2).bind fun x3 =>
  (derefT none x3).bind fun x4 =>
  (idxT 1 x4 v12).bind fun x5 =>
  (derefT none x5).bind fun x6 =>
  (T.bool? x6).bind fun x7 =>
  bif x7 then
   (derefT none v22).bind fun x8 =>
   bif isPtrT x8 then
   (fldT 0 (some 4) x8).bind fun x9 =>
   (fldT 3 none x9).bind fun x10 =>
   (derefT none x10).bind fun x11 =>
   (idxT 1 x11 v16).bind fun x12 =>
   (derefT none x12).bind fun x13 =>
   (T.bool? x13).bind fun x14 =>
   bif bNot x14 then
    (derefT none v22).bind fun x15 =>
    (fnO acfg 53 [x15, T.int .i64 v12, T.int .i64 v16]).bind fun x16 =>
    bif T.scalar x16 then
    (T.bool? x16).bind fun x17 =>
    bif x17 then
     some (T.tup [T.agg [T.int .u8 5, T.int .i64 v12, T.int .i64 v16], T.bool true])
    else
     L87_2 v0 v1 v2 v3 v4 v5 v6 v7 v8 v9 v10 v11 v12 v13 v14 v15 (iAdd .i64 v16 1) v17 v18 v19 v20 v21 v22 v23 v24 v25 v26 v27 v28 v29 v30 v31
    else none
   else
    L87_2 v0 v1 v2 v3 v4 v5 v6 v7 v8 v9 v10 v11 v12 v13 v14 v15 (iAdd .i64 v16 1) v17 v18 v19 v20 v21 v22 v23 v24 v25 v26 v27 v28 v29 v30 v31
   else none
  else
   L87_2 v0 v1 v2 v3 v4 v5 v6 v7 v8 v9 v10 v11 v12 v13 v14 v15 (iAdd .i64 v16 1) v17 v18 v19 v20 v21 v22 v23 v24 v25 v26 v27 v28 v29 v30 v31
  else none
 else
  L87_1 v0 v1 v2 v3 v4 v5 v6 v7 v8 v9 v10 v11 v13 (iAdd .i64 v14 1) v17 v18 v19 v20 v21 v22 v23 v24 v25 v26 v27 v28 v29 v30 v31) = some r) : L87_2 v0 v1 v2 v3 v4 v5 v6 v7 v8 v9 v10 v11 v12 v13 v14 v15 v16 v17 v18 v19 v20 v21 v22 v23 v24 v25 v26 v27 v28 v29 v30 v31 = some r :=
 rd h
theorem fn87 (a0 r : T) (h : (
 bif vfits (V.t a0) none then
 (derefT none (T.ptr a0)).bind fun x1 =>
 bif isPtrT x1 then
 (fldT 0 (some 4) x1).bind fun x2 =>
 (fldT 3 none x2).bind fun x3 =>
 (derefT none x3).bind fun x4 =>
 (idxT 1 x4 0).bind fun x5 =>
 (derefT none x5).bind fun x6 =>
 (T.bool? x6).bind fun x7 =>
 bif x7 then
  some (T.tup [T.agg [T.int .u8 5, T.int .i64 0, T.int .i64 0], T.bool true])
 else
  (derefT none (T.ptr a0)).bind fun x8 =>
  bif isPtrT x8 then
  (fldT 0 (some 4) x8).bind fun x9 =>
  (fldT 1 none x9).bind fun x10 =>
  (derefT none x10).bind fun x11 =>
  (lenT x11).bind fun x12 =>
  L87_1 a0 (T.ptr a0) x1 x1 x2 x3 x4 x5 x7 x8 x8 x8 x12 0 0 0 0 false a0 (T.ptr a0) x1 x1 x2 x3 x4 x5 x7 x8 x8
  else none
 else none
 else none) = some r) : fnO acfg 87 [a0] = some r :=
 fo h
theorem fn17 (p : List UInt8) (q s u r : T) (h : (
 bif (vfits (V.t (tblT p q s u)) (some 4)) then
 (derefT (some 4) (T.ptr (tblT p q s u))).bind fun x1 =>
 (T.agg? (List.length D4) x1).bind fun x2 =>
 (T.str? (nthT x2 0)).bind fun x3 =>
 (fnO acfg 45 [tblT x3 (nthT x2 1) (nthT x2 2) (nthT x2 3)]).bind fun x4 =>
 (T.tup? (List.length [66, 36]) x4).bind fun x5 =>
 (T.int? .i64 (nthT x5 1)).bind fun x6 =>
 bif bNot (iEq x6 0) then
  some (T.tup [T.agg [T.int .u8 0, T.int .i64 0, T.int .i64 0], T.int .i64 x6])
 else
  (fnO acfg 46 [nthT x5 0]).bind fun x7 =>
  bif T.scalar x7 then
  (T.tup? (List.length [47, 4]) x7).bind fun x8 =>
  (T.agg? (List.length [D.int .u8, D.int .i64, D.int .i64]) (nthT x8 0)).bind fun x9 =>
  (T.int? .u8 (nthT x9 0)).bind fun x10 =>
  (T.int? .i64 (nthT x9 1)).bind fun x11 =>
  (T.int? .i64 (nthT x9 2)).bind fun x12 =>
  (T.bool? (nthT x8 1)).bind fun x13 =>
  bif x13 then
   some (T.tup [T.agg [T.int .u8 x10, T.int .i64 x11, T.int .i64 x12], T.int .i64 12])
  else
   some (T.tup [T.agg [T.int .u8 0, T.int .i64 0, T.int .i64 0], T.int .i64 0])
  else none
 else none) = some r) : fnO acfg 17 [tblT p q s u] = some r :=
 fo h
theorem fn76 (p : List UInt8) (q s u r : T) (h : (
 bif (vfits (V.t (tblT p q s u)) (some 4)) then
 (derefT (some 4) (T.ptr (tblT p q s u))).bind fun x1 =>
 (T.agg? (List.length D4) x1).bind fun x2 =>
 (T.str? (nthT x2 0)).bind fun x3 =>
 (fnO acfg 39 [tblT x3 (nthT x2 1) (nthT x2 2) (nthT x2 3)]).bind fun x4 =>
 bif T.scalar x4 then
 (T.int? .i64 x4).bind fun x5 =>
 bif bNot (iEq x5 0) then
  some (T.tup [T.agg [T.int .u8 0, T.int .i64 0, T.int .i64 0], T.int .i64 x5])
 else
  (derefT (some 4) (T.ptr (tblT p q s u))).bind fun x6 =>
  (T.agg? (List.length D4) x6).bind fun x7 =>
  (T.str? (nthT x7 0)).bind fun x8 =>
  (fnO acfg 99 [tblT x8 (nthT x7 1) (nthT x7 2) (nthT x7 3)]).bind fun x9 =>
  bif T.scalar x9 then
  (T.agg? (List.length [D.int .u8, D.int .i64, D.int .i64]) x9).bind fun x10 =>
  (T.int? .u8 (nthT x10 0)).bind fun x11 =>
  (T.int? .i64 (nthT x10 1)).bind fun x12 =>
  (T.int? .i64 (nthT x10 2)).bind fun x13 =>
  bif bNot (iEq x11 0) then
   some (T.tup [T.agg [T.int .u8 x11, T.int .i64 x12, T.int .i64 x13], T.int .i64 12])
  else
   some (T.tup [T.agg [T.int .u8 0, T.int .i64 0, T.int .i64 0], T.int .i64 0])
  else none
 else none
 else none) = some r) : fnO acfg 76 [tblT p q s u] = some r :=
 fo h
end
end Go.Proofs.Tryz

namespace Go.Proofs.Tryz
open Go Go.Apex
set_option maxRecDepth 100000
noncomputable section
def L31_1 (v0 : Int) (v1 : T) (v2 v3 : Int) : Option T := runO acfg (pureFin acfg 31) [.loop 31 none (codeOf acfg 31 [1, 0, 1, 0, 0]), .block 0, .code 31 none (codeOf acfg 31 [1, 1])] ⟨mkTs 19 [(2, V.t (T.int .i64 v0)), (6, V.t v1), (7, V.t (T.int .i64 v2)), (8, V.t (T.int .i64 v3))], ⟨6, mkTr []⟩, []⟩
theorem L31_1_step (v0 : Int) (v1 : T) (v2 v3 : Int) (r : T) (h : (
 bif iLt v3 v2 then
  (idxT 3 v1 v3).bind fun x1 =>
  (derefT (some 3) x1).bind fun x2 =>
  (T.agg? (List.length [D.int .u8, D.str, D.slice 25]) x2).bind fun x3 =>
  (T.int? .u8 (nthT x3 0)).bind fun x4 =>
  (T.str? (nthT x3 1)).bind fun x5 =>
  bif (vfits (V.t (T.agg [T.int .u8 x4, T.str x5, nthT x3 2])) (some 3)) then
  (derefT (some 3) (T.ptr (T.agg [T.int .u8 x4, T.str x5, nthT x3 2]))).bind fun x6 =>
  (T.agg? (List.length [D.int .u8, D.str, D.slice 25]) x6).bind fun x7 =>
  (T.int? .u8 (nthT x7 0)).bind fun x8 =>
  (T.str? (nthT x7 1)).bind fun x9 =>
  (fnO acfg 31 [T.agg [T.int .u8 x8, T.str x9, nthT x7 2]]).bind fun x10 =>
  bif T.scalar x10 then
  (T.int? .i64 x10).bind fun x11 =>
  L31_1 (iMax v0 x11) v1 v2 (iAdd .i64 v3 1)
  else none
  else none
 else
  some (T.int .i64 (iAdd .i64 v0 1))) = some r) : L31_1 v0 v1 v2 v3 = some r :=
 rd h
theorem fn31 (p : Int) (q : List UInt8) (s r : T) (h : (
 bif (vfits (V.t (T.agg [T.int .u8 p, T.str q, s])) (some 3)) then
 (fldT 2 none (T.ptr (T.agg [T.int .u8 p, T.str q, s]))).bind fun x1 =>
 (derefT none x1).bind fun x2 =>
 (lenT x2).bind fun x3 =>
 L31_1 0 x2 x3 0
 else none) = some r) : fnO acfg 31 [T.agg [T.int .u8 p, T.str q, s]] = some r :=
 fo h
def L36_1 (v0 : Int) (v1 : List UInt8) (v2 : T) (v3 v4 : Int) : Option T := runO acfg (pureFin acfg 36) [.loop 36 none (codeOf acfg 36 [1, 1, 0, 1, 0, 0]), .block 0, .code 36 none (codeOf acfg 36 [1, 1, 1])] ⟨mkTs 22 [(1, V.t (T.ptr (T.agg [T.int .u8 v0, T.str v1, v2]))), (3, V.t (T.int .i64 v3)), (4, V.t (T.int .i64 v4))], ⟨4, mkTr []⟩, []⟩
theorem L36_1_step (v0 : Int) (v1 : List UInt8) (v2 : T) (v3 v4 : Int) (r : T) (h : (
 (fldT 2 none (T.ptr (T.agg [T.int .u8 v0, T.str v1, v2]))).bind fun x1 =>
 (derefT none x1).bind fun x2 =>
 (lenT x2).bind fun x3 =>
 bif iLt v4 x3 then
  (fldT 2 none (T.ptr (T.agg [T.int .u8 v0, T.str v1, v2]))).bind fun x4 =>
  (derefT none x4).bind fun x5 =>
  (idxT 3 x5 v4).bind fun x6 =>
  (derefT (some 3) x6).bind fun x7 =>
  (T.agg? (List.length [D.int .u8, D.str, D.slice 25]) x7).bind fun x8 =>
  (T.int? .u8 (nthT x8 0)).bind fun x9 =>
  (T.str? (nthT x8 1)).bind fun x10 =>
  (fnO acfg 36 [T.agg [T.int .u8 x9, T.str x10, nthT x8 2]]).bind fun x11 =>
  bif T.scalar x11 then
  (T.int? .i64 x11).bind fun x12 =>
  L36_1 v0 v1 v2 (iMax v3 x12) (iAdd .i64 v4 1)
  else none
 else
  some (T.int .i64 (iAdd .i64 v3 1))) = some r) : L36_1 v0 v1 v2 v3 v4 = some r :=
 rd h
theorem fn36 (p : Int) (q : List UInt8) (s r : T) (h : (
 bif (vfits (V.t (T.agg [T.int .u8 p, T.str q, s])) (some 3)) then
 L36_1 p q s 0 0
 else none) = some r) : fnO acfg 36 [T.agg [T.int .u8 p, T.str q, s]] = some r :=
 fo h
def L4_1 (v0 v1 : Int) (v2 : List UInt8) (v3 : T) (v4 : Int) : Option T := runO acfg (pureFin acfg 4) [.loop 4 none (codeOf acfg 4 [1, 1, 0, 1, 0, 0]), .block 0, .code 4 none (codeOf acfg 4 [1, 1, 1])] ⟨mkTs 36 [(1, V.t (T.int .i64 v0)), (2, V.t (T.ptr (T.agg [T.int .u8 v1, T.str v2, v3]))), (5, V.t (T.int .i64 v4))], ⟨17, mkTr []⟩, []⟩
theorem L4_1_step (v0 v1 : Int) (v2 : List UInt8) (v3 : T) (v4 : Int) (r : T) (h : (
 (fldT 2 none (T.ptr (T.agg [T.int .u8 v1, T.str v2, v3]))).bind fun x1 =>
 (derefT none x1).bind fun x2 =>
 (lenT x2).bind fun x3 =>
 bif iLt v4 x3 then
  (fldT 2 none (T.ptr (T.agg [T.int .u8 v1, T.str v2, v3]))).bind fun x4 =>
  (derefT none x4).bind fun x5 =>
  (idxT 3 x5 v4).bind fun x6 =>
  (derefT (some 3) x6).bind fun x7 =>
  (T.agg? (List.length [D.int .u8, D.str, D.slice 25]) x7).bind fun x8 =>
  (T.int? .u8 (nthT x8 0)).bind fun x9 =>
  (T.str? (nthT x8 1)).bind fun x10 =>
  (fnO acfg 4 [T.agg [T.int .u8 x9, T.str x10, nthT x8 2], T.int .i64 (iSub .i64 v0 1)]).bind fun x11 =>
  bif T.scalar x11 then
  (T.bool? x11).bind fun x12 =>
  bif bNot x12 then
   some (T.bool false)
  else
   L4_1 v0 v1 v2 v3 (iAdd .i64 v4 1)
  else none
 else
  some (T.bool true)) = some r) : L4_1 v0 v1 v2 v3 v4 = some r :=
 rd h
theorem fn4 (p : Int) (q : List UInt8) (s : T) (a1 : Int) (r : T) (h : (
 bif (vfits (V.t (T.agg [T.int .u8 p, T.str q, s])) (some 3)) then
 bif iEq a1 0 then
  some (T.bool false)
 else
  (fldT 2 none (T.ptr (T.agg [T.int .u8 p, T.str q, s]))).bind fun x1 =>
  (derefT none x1).bind fun x2 =>
  (lenT x2).bind fun x3 =>
  bif iLt 4 x3 then
   some (T.bool false)
  else
   bif iLt 30 (sLen q) then
    some (T.bool false)
   else
    L4_1 a1 p q s 0
 else none) = some r) : fnO acfg 4 [T.agg [T.int .u8 p, T.str q, s], T.int .i64 a1] = some r :=
 fo h
end
end Go.Proofs.Tryz

namespace Go.Proofs.Tryz
open Go Go.Apex
set_option maxRecDepth 100000
noncomputable section
def L8_1 (v0 : Int) (v1 : List UInt8) (v2 : T) (v3 v4 : Int) (v5 : List UInt8) (v6 : Int) (v7 : List UInt8) : Option T := runO acfg (pureFin acfg 8) [.loop 8 none (codeOf acfg 8 [1, 1, 0, 1, 0, 0]), .block 0, .code 8 none (codeOf acfg 8 [1, 1, 1])] ⟨mkTs 29 [(1, V.t (T.ptr (T.agg [T.int .u8 v0, T.str v1, v2]))), (2, V.ref 1 0 0 (some 3)), (3, V.ref 7 0 0 (some 3)), (4, V.t (T.int .i64 v3))], ⟨10, mkTr [(1, Apex.Obj.cells 0 25 false [V.t (T.int .u8 v4), V.t (T.str v5), V.t T.nils]), (7, Apex.Obj.cells 0 25 false [V.t (T.int .u8 v6), V.t (T.str v7), V.t T.nils])]⟩, []⟩
def L8_2 (v0 : Int) (v1 : List UInt8) (v2 : T) (v3 v4 : Int) (v5 : List UInt8) (v6 : Int) (v7 : List UInt8) (v8 v9 v10 v11 : Nat) (v12 : List V) : Option T := runO acfg (pureFin acfg 8) [.loop 8 none (codeOf acfg 8 [1, 1, 0, 1, 0, 0]), .block 0, .code 8 none (codeOf acfg 8 [1, 1, 1])] ⟨mkTs 29 [(1, V.t (T.ptr (T.agg [T.int .u8 v0, T.str v1, v2]))), (2, V.ref 1 0 0 (some 3)), (3, V.ref 7 0 0 (some 3)), (4, V.t (T.int .i64 v3))], ⟨25, mkTr [(1, Apex.Obj.cells 0 25 false [V.t (T.int .u8 v4), V.t (T.str v5), V.t T.nils]), (7, Apex.Obj.cells 0 25 false [V.t (T.int .u8 v6), V.t (T.str v7), V.msl 24 v8 v9 v10 (some 3)]), (24, Apex.Obj.cells v11 25 false v12)]⟩, []⟩
theorem L8_1_step (v0 : Int) (v1 : List UInt8) (v2 : T) (v3 v4 : Int) (v5 : List UInt8) (v6 : Int) (v7 : List UInt8) (r : T) (h : (
 (fldT 2 none (T.ptr (T.agg [T.int .u8 v0, T.str v1, v2]))).bind fun x1 =>
 (derefT none x1).bind fun x2 =>
 (lenT x2).bind fun x3 =>
 bif iLt v3 x3 then
  (fldT 2 none (T.ptr (T.agg [T.int .u8 v0, T.str v1, v2]))).bind fun x4 =>
  (derefT none x4).bind fun x5 =>
  (idxT 3 x5 v3).bind fun x6 =>
  (derefT (some 3) x6).bind fun x7 =>
  (T.agg? (List.length [D.int .u8, D.str, D.slice 25]) x7).bind fun x8 =>
  (T.int? .u8 (nthT x8 0)).bind fun x9 =>
  (T.str? (nthT x8 1)).bind fun x10 =>
  (fnO acfg 8 [T.agg [T.int .u8 x9, T.str x10, nthT x8 2]]).bind fun x11 =>
  (T.agg? (List.length [D.int .u8, D.str, D.slice 25]) x11).bind fun x12 =>
  (T.int? .u8 (nthT x12 0)).bind fun x13 =>
  (T.str? (nthT x12 1)).bind fun x14 =>
  bif (vfits (V.t (T.agg [T.int .u8 x13, T.str x14, nthT x12 2])) (some 3)) then
  bif (vfits (V.t (T.agg [T.int .u8 x13, T.str x14, nthT x12 2])) (some 3)) then
  L8_2 v0 v1 v2 (iAdd .i64 v3 1) v4 v5 v6 v7 1 0 1 1 (rowNew [] [V.t (T.agg [T.int .u8 x13, T.str x14, nthT x12 2])])
  else none
  else none
 else
  some (T.agg [T.int .u8 v6, T.str v7, T.nils])) = some r) : L8_1 v0 v1 v2 v3 v4 v5 v6 v7 = some r :=
 rd h
theorem L8_2_step (v0 : Int) (v1 : List UInt8) (v2 : T) (v3 v4 : Int) (v5 : List UInt8) (v6 : Int) (v7 : List UInt8) (v8 v9 v10 v11 : Nat) (v12 : List V) (r : T) (h : (
 (fldT 2 none (T.ptr (T.agg [T.int .u8 v0, T.str v1, v2]))).bind fun x1 =>
 (derefT none x1).bind fun x2 =>
 (lenT x2).bind fun x3 =>
 bif iLt v3 x3 then
  (fldT 2 none (T.ptr (T.agg [T.int .u8 v0, T.str v1, v2]))).bind fun x4 =>
  (derefT none x4).bind fun x5 =>
  (idxT 3 x5 v3).bind fun x6 =>
  (derefT (some 3) x6).bind fun x7 =>
  (T.agg? (List.length [D.int .u8, D.str, D.slice 25]) x7).bind fun x8 =>
  (T.int? .u8 (nthT x8 0)).bind fun x9 =>
  (T.str? (nthT x8 1)).bind fun x10 =>
  (fnO acfg 8 [T.agg [T.int .u8 x9, T.str x10, nthT x8 2]]).bind fun x11 =>
  (T.agg? (List.length [D.int .u8, D.str, D.slice 25]) x11).bind fun x12 =>
  (T.int? .u8 (nthT x12 0)).bind fun x13 =>
  (T.str? (nthT x12 1)).bind fun x14 =>
  bif (vfits (V.t (T.agg [T.int .u8 x13, T.str x14, nthT x12 2])) (some 3)) then
  bif (vfits (V.t (T.agg [T.int .u8 x13, T.str x14, nthT x12 2])) (some 3)) then
  bif natEq v11 v8 then
  bif (appOK v12 v9 v10 3 [V.t (T.agg [T.int .u8 x13, T.str x14, nthT x12 2])] 48) then
  bif (objBd 25 (Apex.Obj.cells (appGen v11 [V.t (T.agg [T.int .u8 x13, T.str x14, nthT x12 2])]) 25 false (appCs v12 v9 [V.t (T.agg [T.int .u8 x13, T.str x14, nthT x12 2])]))) then
  L8_2 v0 v1 v2 (iAdd .i64 v3 1) v4 v5 v6 v7 (appGen v11 [V.t (T.agg [T.int .u8 x13, T.str x14, nthT x12 2])]) 0 (appLen v10 [V.t (T.agg [T.int .u8 x13, T.str x14, nthT x12 2])]) (appGen v11 [V.t (T.agg [T.int .u8 x13, T.str x14, nthT x12 2])]) (appCs v12 v9 [V.t (T.agg [T.int .u8 x13, T.str x14, nthT x12 2])])
  else none
  else none
  else none
  else none
  else none
 else
  bif natEq v11 v8 then
  (rowT (some 3) v12 v9 v10).bind fun x15 =>
  some (T.agg [T.int .u8 v6, T.str v7, T.sl false 3 x15])
  else none) = some r) : L8_2 v0 v1 v2 v3 v4 v5 v6 v7 v8 v9 v10 v11 v12 = some r :=
 rdr [24] h
theorem fn8 (p : Int) (q : List UInt8) (s r : T) (h : (
 bif (vfits (V.t (T.agg [T.int .u8 p, T.str q, s])) (some 3)) then
 L8_1 p q s 0 0 [] p q
 else none) = some r) : fnO acfg 8 [T.agg [T.int .u8 p, T.str q, s]] = some r :=
 fo h
def L13_1 (v0 : Int) (v1 : List UInt8) (v2 : T) (v3 : Int) (v4 : List UInt8) (v5 : T) (v6 : Int) : Option T := runO acfg (pureFin acfg 13) [.loop 13 none (codeOf acfg 13 [1, 1, 0, 1, 0, 0]), .block 0, .code 13 none (codeOf acfg 13 [1, 1, 1])] ⟨mkTs 46 [(2, V.t (T.ptr (T.agg [T.int .u8 v0, T.str v1, v2]))), (3, V.t (T.ptr (T.agg [T.int .u8 v3, T.str v4, v5]))), (5, V.t (T.int .i64 v6))], ⟨25, mkTr []⟩, []⟩
theorem L13_1_step (v0 : Int) (v1 : List UInt8) (v2 : T) (v3 : Int) (v4 : List UInt8) (v5 : T) (v6 : Int) (r : T) (h : (
 (fldT 2 none (T.ptr (T.agg [T.int .u8 v0, T.str v1, v2]))).bind fun x1 =>
 (derefT none x1).bind fun x2 =>
 (lenT x2).bind fun x3 =>
 bif iLt v6 x3 then
  (fldT 2 none (T.ptr (T.agg [T.int .u8 v0, T.str v1, v2]))).bind fun x4 =>
  (derefT none x4).bind fun x5 =>
  (idxT 3 x5 v6).bind fun x6 =>
  (derefT (some 3) x6).bind fun x7 =>
  (T.agg? (List.length [D.int .u8, D.str, D.slice 25]) x7).bind fun x8 =>
  (T.int? .u8 (nthT x8 0)).bind fun x9 =>
  (T.str? (nthT x8 1)).bind fun x10 =>
  (fldT 2 none (T.ptr (T.agg [T.int .u8 v3, T.str v4, v5]))).bind fun x11 =>
  (derefT none x11).bind fun x12 =>
  (idxT 3 x12 v6).bind fun x13 =>
  (derefT (some 3) x13).bind fun x14 =>
  (T.agg? (List.length [D.int .u8, D.str, D.slice 25]) x14).bind fun x15 =>
  (T.int? .u8 (nthT x15 0)).bind fun x16 =>
  (T.str? (nthT x15 1)).bind fun x17 =>
  (fnO acfg 13 [T.agg [T.int .u8 x9, T.str x10, nthT x8 2], T.agg [T.int .u8 x16, T.str x17, nthT x15 2]]).bind fun x18 =>
  bif T.scalar x18 then
  (T.bool? x18).bind fun x19 =>
  bif bNot x19 then
   some (T.bool false)
  else
   L13_1 v0 v1 v2 v3 v4 v5 (iAdd .i64 v6 1)
  else none
 else
  some (T.bool true)) = some r) : L13_1 v0 v1 v2 v3 v4 v5 v6 = some r :=
 rd h
theorem fn13 (p : Int) (q : List UInt8) (s : T) (a1_0 : Int) (a1_1 : List UInt8) (a1_2 r : T) (h : (
 bif (vfits (V.t (T.agg [T.int .u8 p, T.str q, s])) (some 3)) then
 bif (vfits (V.t (T.agg [T.int .u8 a1_0, T.str a1_1, a1_2])) (some 3)) then
 bif bNot (iEq p a1_0) then
  some (T.bool false)
 else
  bif bNot (sEq q a1_1) then
   some (T.bool false)
  else
   (fldT 2 none (T.ptr (T.agg [T.int .u8 p, T.str q, s]))).bind fun x1 =>
   (derefT none x1).bind fun x2 =>
   (lenT x2).bind fun x3 =>
   (fldT 2 none (T.ptr (T.agg [T.int .u8 a1_0, T.str a1_1, a1_2]))).bind fun x4 =>
   (derefT none x4).bind fun x5 =>
   (lenT x5).bind fun x6 =>
   bif bNot (iEq x3 x6) then
    some (T.bool false)
   else
    L13_1 p q s a1_0 a1_1 a1_2 0
 else none
 else none) = some r) : fnO acfg 13 [T.agg [T.int .u8 p, T.str q, s], T.agg [T.int .u8 a1_0, T.str a1_1, a1_2]] = some r :=
 fo h
end
end Go.Proofs.Tryz

namespace Go.Proofs.Tryz
open Go Go.Apex
set_option maxRecDepth 100000
noncomputable section
theorem fn33 (p : Int) (q : List UInt8) (s r : T) (h : (
 bif (vfits (V.t (T.agg [T.int .u8 p, T.str q, s])) (some 3)) then
 (fnO acfg 66 []).bind fun x1 =>
 (lookT (some (T.int .i64 0)) x1 (T.int .u8 p)).bind fun x2 =>
 (T.int? .i64 x2.1).bind fun x3 =>
 bif bNot x2.2 then
  some (T.bool false)
 else
  (fldT 2 none (T.ptr (T.agg [T.int .u8 p, T.str q, s]))).bind fun x4 =>
  (derefT none x4).bind fun x5 =>
  (lenT x5).bind fun x6 =>
  bif bNot (iEq x3 x6) then
   some (T.bool false)
  else
   bif iEq p 5 then
    (fnO acfg 62 [T.str q]).bind fun x7 =>
    bif T.scalar x7 then
    (T.bool? x7).bind fun x8 =>
    bif bNot x8 then
     some (T.bool false)
    else
     bif bNot (iEq p 5) then
      bif bNot (sEq q []) then
       some (T.bool false)
      else
       (fldT 2 none (T.ptr (T.agg [T.int .u8 p, T.str q, s]))).bind fun x9 =>
       (derefT none x9).bind fun x10 =>
       (fnO acfg 67 [x10, T.fn (Fn.func 68) [] []]).bind fun x11 =>
       bif T.scalar x11 then
       (T.bool? x11).bind fun x12 =>
       some (T.bool x12)
       else none
     else
      (fldT 2 none (T.ptr (T.agg [T.int .u8 p, T.str q, s]))).bind fun x13 =>
      (derefT none x13).bind fun x14 =>
      (fnO acfg 67 [x14, T.fn (Fn.func 68) [] []]).bind fun x15 =>
      bif T.scalar x15 then
      (T.bool? x15).bind fun x16 =>
      some (T.bool x16)
      else none
    else none
   else
    bif bNot (iEq p 5) then
     bif bNot (sEq q []) then
      some (T.bool false)
     else
      (fldT 2 none (T.ptr (T.agg [T.int .u8 p, T.str q, s]))).bind fun x17 =>
      (derefT none x17).bind fun x18 =>
      (fnO acfg 67 [x18, T.fn (Fn.func 68) [] []]).bind fun x19 =>
      bif T.scalar x19 then
      (T.bool? x19).bind fun x20 =>
      some (T.bool x20)
      else none
    else
     (fldT 2 none (T.ptr (T.agg [T.int .u8 p, T.str q, s]))).bind fun x21 =>
     (derefT none x21).bind fun x22 =>
     (fnO acfg 67 [x22, T.fn (Fn.func 68) [] []]).bind fun x23 =>
     bif T.scalar x23 then
     (T.bool? x23).bind fun x24 =>
     some (T.bool x24)
     else none
 else none) = some r) : fnO acfg 33 [T.agg [T.int .u8 p, T.str q, s]] = some r :=
 fo h
def L37_1 (v0 : Int) (v1 : List UInt8) (v2 : T) (v3 : Int) : Option T := runO acfg (pureFin acfg 37) [.loop 37 none (codeOf acfg 37 [1, 1, 0, 1, 0, 0]), .block 0, .code 37 none (codeOf acfg 37 [1, 1, 1])] ⟨mkTs 44 [(1, V.t (T.ptr (T.agg [T.int .u8 v0, T.str v1, v2]))), (3, V.t (T.int .i64 v3))], ⟨29, mkTr []⟩, []⟩
theorem L37_1_step (v0 : Int) (v1 : List UInt8) (v2 : T) (v3 : Int) (r : T) (h : (
 (fldT 2 none (T.ptr (T.agg [T.int .u8 v0, T.str v1, v2]))).bind fun x1 =>
 (derefT none x1).bind fun x2 =>
 (lenT x2).bind fun x3 =>
 bif iLt v3 x3 then
  (fldT 2 none (T.ptr (T.agg [T.int .u8 v0, T.str v1, v2]))).bind fun x4 =>
  (derefT none x4).bind fun x5 =>
  (idxT 3 x5 v3).bind fun x6 =>
  (derefT (some 3) x6).bind fun x7 =>
  (T.agg? (List.length [D.int .u8, D.str, D.slice 25]) x7).bind fun x8 =>
  (T.int? .u8 (nthT x8 0)).bind fun x9 =>
  (T.str? (nthT x8 1)).bind fun x10 =>
  (fnO acfg 37 [T.agg [T.int .u8 x9, T.str x10, nthT x8 2]]).bind fun x11 =>
  bif T.scalar x11 then
  (T.bool? x11).bind fun x12 =>
  bif bNot x12 then
   some (T.bool false)
  else
   L37_1 v0 v1 v2 (iAdd .i64 v3 1)
  else none
 else
  some (T.bool true)) = some r) : L37_1 v0 v1 v2 v3 = some r :=
 rd h
theorem fn37 (p : Int) (q : List UInt8) (s r : T) (h : (
 bif (vfits (V.t (T.agg [T.int .u8 p, T.str q, s])) (some 3)) then
 (fldT 2 none (T.ptr (T.agg [T.int .u8 p, T.str q, s]))).bind fun x1 =>
 (derefT none x1).bind fun x2 =>
 (lenT x2).bind fun x3 =>
 (fnO acfg 71 [T.int .u8 p]).bind fun x4 =>
 bif T.scalar x4 then
 (T.int? .i64 x4).bind fun x5 =>
 bif bNot (iEq x3 x5) then
  some (T.bool false)
 else
  (fnO acfg 72 [T.str q]).bind fun x6 =>
  bif T.scalar x6 then
  (T.bool? x6).bind fun x7 =>
  bif (bNot (bEq (iEq p 5) x7)) then
   some (T.bool false)
  else
   bif bNot (iEq p 5) then
    bif bNot (sEq q []) then
     some (T.bool false)
    else
     L37_1 p q s 0
   else
    L37_1 p q s 0
  else none
 else none
 else none) = some r) : fnO acfg 37 [T.agg [T.int .u8 p, T.str q, s]] = some r :=
 fo h
theorem fn66  (r : T) (h : (
 some (T.mp [T.int .u8 1, T.int .u8 2, T.int .u8 3, T.int .u8 4, T.int .u8 5, T.int .u8 6, T.int .u8 7] [T.int .i64 0, T.int .i64 0, T.int .i64 0, T.int .i64 0, T.int .i64 0, T.int .i64 1, T.int .i64 2])) = some r) : fnO acfg 66 [] = some r :=
 fo h
def L67_1 (v0 v1 : T) (v2 v3 : Int) : Option T := runO acfg (pureFin acfg 67) [.loop 67 none (codeOf acfg 67 [1, 0, 1, 0, 0]), .block 0, .code 67 none (codeOf acfg 67 [1, 1])] ⟨mkTs 20 [(1, V.t v0), (7, V.t v1), (8, V.t (T.int .i64 v2)), (9, V.t (T.int .i64 v3))], ⟨4, mkTr []⟩, []⟩
theorem L67_1_step (v0 v1 : T) (v2 v3 : Int) (r : T) (h : (
 bif iLt v3 v2 then
  (idxT 3 v1 v3).bind fun x1 =>
  (derefT (some 3) x1).bind fun x2 =>
  (T.agg? (List.length [D.int .u8, D.str, D.slice 25]) x2).bind fun x3 =>
  (T.int? .u8 (nthT x3 0)).bind fun x4 =>
  (T.str? (nthT x3 1)).bind fun x5 =>
  bif (vfits (V.t (T.agg [T.int .u8 x4, T.str x5, nthT x3 2])) (some 3)) then
  (derefT (some 3) (T.ptr (T.agg [T.int .u8 x4, T.str x5, nthT x3 2]))).bind fun x6 =>
  (T.agg? (List.length [D.int .u8, D.str, D.slice 25]) x6).bind fun x7 =>
  (T.int? .u8 (nthT x7 0)).bind fun x8 =>
  (T.str? (nthT x7 1)).bind fun x9 =>
  (callT acfg v0 [T.int .i64 v3, T.agg [T.int .u8 x8, T.str x9, nthT x7 2]]).bind fun x10 =>
  (T.bool? x10).bind fun x11 =>
  bif bNot x11 then
   some (T.bool false)
  else
   L67_1 v0 v1 v2 (iAdd .i64 v3 1)
  else none
 else
  some (T.bool true)) = some r) : L67_1 v0 v1 v2 v3 = some r :=
 rd h
theorem fn67 (a0 a1 r : T) (h : (
 (lenT a0).bind fun x1 =>
 L67_1 a1 a0 x1 0) = some r) : fnO acfg 67 [a0, a1] = some r :=
 fo h
theorem fn68 (a0 a1_0 : Int) (a1_1 : List UInt8) (a1_2 r : T) (h : (
 bif (vfits (V.t (T.agg [T.int .u8 a1_0, T.str a1_1, a1_2])) (some 3)) then
 (derefT (some 3) (T.ptr (T.agg [T.int .u8 a1_0, T.str a1_1, a1_2]))).bind fun x1 =>
 (T.agg? (List.length [D.int .u8, D.str, D.slice 25]) x1).bind fun x2 =>
 (T.int? .u8 (nthT x2 0)).bind fun x3 =>
 (T.str? (nthT x2 1)).bind fun x4 =>
 (fnO acfg 33 [T.agg [T.int .u8 x3, T.str x4, nthT x2 2]]).bind fun x5 =>
 bif T.scalar x5 then
 (T.bool? x5).bind fun x6 =>
 some (T.bool x6)
 else none
 else none) = some r) : fnO acfg 68 [T.int .i64 a0, T.agg [T.int .u8 a1_0, T.str a1_1, a1_2]] = some r :=
 fo h
theorem fn71 (a0 : Int) (r : T) (h : (
 bif iEq a0 1 then
  bif iEq a0 1 then
   some (T.int .i64 0)
  else
   bif iEq a0 6 then
    some (T.int .i64 1)
   else
    bif iEq a0 7 then
     some (T.int .i64 2)
    else
     some (T.int .i64 (-1))
 else
  bif iEq a0 2 then
   bif iEq a0 2 then
    some (T.int .i64 0)
   else
    bif iEq a0 6 then
     some (T.int .i64 1)
    else
     bif iEq a0 7 then
      some (T.int .i64 2)
     else
      some (T.int .i64 (-1))
  else
   bif iEq a0 3 then
    bif iEq a0 3 then
     some (T.int .i64 0)
    else
     bif iEq a0 6 then
      some (T.int .i64 1)
     else
      bif iEq a0 7 then
       some (T.int .i64 2)
      else
       some (T.int .i64 (-1))
   else
    bif iEq a0 4 then
     bif iEq a0 4 then
      some (T.int .i64 0)
     else
      bif iEq a0 6 then
       some (T.int .i64 1)
      else
       bif iEq a0 7 then
        some (T.int .i64 2)
       else
        some (T.int .i64 (-1))
    else
     bif iEq a0 5 then
      some (T.int .i64 0)
     else
      bif iEq a0 6 then
       some (T.int .i64 1)
      else
       bif iEq a0 7 then
        some (T.int .i64 2)
       else
        some (T.int .i64 (-1))) = some r) : fnO acfg 71 [T.int .u8 a0] = some r :=
 fo h
end
end Go.Proofs.Tryz

namespace Go.Proofs.Tryz
open Go Go.Apex
set_option maxRecDepth 100000
noncomputable section
theorem fn34 (p : Int) (q : List UInt8) (s a1 r : T) (h : (
 bif (vfits (V.t (T.agg [T.int .u8 p, T.str q, s])) (some 3)) then
 bif vfits (V.t a1) none then
 bif iEq p 5 then
  (derefT none (T.ptr a1)).bind fun x1 =>
  (callT acfg x1 [T.str q]).bind fun x2 =>
  (T.bool? x2).bind fun x3 =>
  bif bNot x3 then
   some (T.bool false)
  else
   (fldT 2 none (T.ptr (T.agg [T.int .u8 p, T.str q, s]))).bind fun x4 =>
   (derefT none x4).bind fun x5 =>
   (fnO acfg 67 [x5, T.fn (Fn.func 69) [] [T.ptr a1]]).bind fun x6 =>
   bif T.scalar x6 then
   (T.bool? x6).bind fun x7 =>
   some (T.bool x7)
   else none
 else
  (fldT 2 none (T.ptr (T.agg [T.int .u8 p, T.str q, s]))).bind fun x8 =>
  (derefT none x8).bind fun x9 =>
  (fnO acfg 67 [x9, T.fn (Fn.func 69) [] [T.ptr a1]]).bind fun x10 =>
  bif T.scalar x10 then
  (T.bool? x10).bind fun x11 =>
  some (T.bool x11)
  else none
 else none
 else none) = some r) : fnO acfg 34 [T.agg [T.int .u8 p, T.str q, s], a1] = some r :=
 fo h
theorem fn69 (a0 a1_0 : Int) (a1_1 : List UInt8) (a1_2 c0 r : T) (h : (
 bif (vfits (V.t (T.agg [T.int .u8 a1_0, T.str a1_1, a1_2])) (some 3)) then
 (derefT (some 3) (T.ptr (T.agg [T.int .u8 a1_0, T.str a1_1, a1_2]))).bind fun x1 =>
 (T.agg? (List.length [D.int .u8, D.str, D.slice 25]) x1).bind fun x2 =>
 (T.int? .u8 (nthT x2 0)).bind fun x3 =>
 (T.str? (nthT x2 1)).bind fun x4 =>
 (derefT none c0).bind fun x5 =>
 (fnO acfg 34 [T.agg [T.int .u8 x3, T.str x4, nthT x2 2], x5]).bind fun x6 =>
 bif T.scalar x6 then
 (T.bool? x6).bind fun x7 =>
 some (T.bool x7)
 else none
 else none) = some r) : fnO acfg 69 [T.int .i64 a0, T.agg [T.int .u8 a1_0, T.str a1_1, a1_2], c0] = some r :=
 fo h
def L42_1 (v0 : T) (v1 : Int) (v2 : List UInt8) (v3 : T) (v4 : Int) : Option T := runO acfg (pureFin acfg 42) [.loop 42 none (codeOf acfg 42 [1, 1, 0, 1, 0, 0]), .block 0, .code 42 none (codeOf acfg 42 [1, 1, 1])] ⟨mkTs 31 [(0, V.t v0), (3, V.t (T.ptr (T.agg [T.int .u8 v1, T.str v2, v3]))), (5, V.t (T.int .i64 v4))], ⟨13, mkTr []⟩, []⟩
theorem L42_1_step (v0 : T) (v1 : Int) (v2 : List UInt8) (v3 : T) (v4 : Int) (r : T) (h : (
 (fldT 2 none (T.ptr (T.agg [T.int .u8 v1, T.str v2, v3]))).bind fun x1 =>
 (derefT none x1).bind fun x2 =>
 (lenT x2).bind fun x3 =>
 bif iLt v4 x3 then
  (fldT 2 none (T.ptr (T.agg [T.int .u8 v1, T.str v2, v3]))).bind fun x4 =>
  (derefT none x4).bind fun x5 =>
  (idxT 3 x5 v4).bind fun x6 =>
  (derefT (some 3) x6).bind fun x7 =>
  (T.agg? (List.length [D.int .u8, D.str, D.slice 25]) x7).bind fun x8 =>
  (T.int? .u8 (nthT x8 0)).bind fun x9 =>
  (T.str? (nthT x8 1)).bind fun x10 =>
  (fnO acfg 42 [v0, T.agg [T.int .u8 x9, T.str x10, nthT x8 2]]).bind fun x11 =>
  bif T.scalar x11 then
  (T.bool? x11).bind fun x12 =>
  bif bNot x12 then
   some (T.bool false)
  else
   L42_1 v0 v1 v2 v3 (iAdd .i64 v4 1)
  else none
 else
  some (T.bool true)) = some r) : L42_1 v0 v1 v2 v3 v4 = some r :=
 rd h
theorem fn42 (a0 : T) (a1_0 : Int) (a1_1 : List UInt8) (a1_2 r : T) (h : (
 bif (vfits (V.t (T.agg [T.int .u8 a1_0, T.str a1_1, a1_2])) (some 3)) then
 bif iEq a1_0 5 then
  (fnO acfg 40 [a0, T.str a1_1]).bind fun x1 =>
  bif T.scalar x1 then
  (T.int? .i64 x1).bind fun x2 =>
  bif iLt x2 0 then
   some (T.bool false)
  else
   L42_1 a0 a1_0 a1_1 a1_2 0
  else none
 else
  L42_1 a0 a1_0 a1_1 a1_2 0
 else none) = some r) : fnO acfg 42 [a0, T.agg [T.int .u8 a1_0, T.str a1_1, a1_2]] = some r :=
 fo h
end
end Go.Proofs.Tryz

namespace Go.Proofs.Tryz
open Go Go.Apex
set_option maxRecDepth 100000
noncomputable section
theorem fn38 (p : Int) (q : List UInt8) (s r : T) (h : (
 bif (vfits (V.t (T.agg [T.int .u8 p, T.str q, s])) (some 3)) then
 bif iEq p 1 then
  some (T.str [102, 108, 97, 103])
 else
  bif iEq p 2 then
   some (T.str [109, 97, 120])
  else
   bif iEq p 3 then
    some (T.str [115, 101, 116])
   else
    bif iEq p 4 then
     some (T.str [111, 110, 99, 101])
    else
     bif iEq p 6 then
      (fldT 2 none (T.ptr (T.agg [T.int .u8 p, T.str q, s]))).bind fun x1 =>
      (derefT none x1).bind fun x2 =>
      (idxT 3 x2 0).bind fun x3 =>
      (derefT (some 3) x3).bind fun x4 =>
      (T.agg? (List.length [D.int .u8, D.str, D.slice 25]) x4).bind fun x5 =>
      (T.int? .u8 (nthT x5 0)).bind fun x6 =>
      (T.str? (nthT x5 1)).bind fun x7 =>
      (fnO acfg 38 [T.agg [T.int .u8 x6, T.str x7, nthT x5 2]]).bind fun x8 =>
      bif T.scalar x8 then
      (T.str? x8).bind fun x9 =>
      bif sCatOK [109, 97, 112, 40] x9 then
      bif sCatOK (sCat [109, 97, 112, 40] x9) [41] then
      some (T.str (sCat (sCat [109, 97, 112, 40] x9) [41]))
      else none
      else none
      else none
     else
      bif iEq p 7 then
       (fldT 2 none (T.ptr (T.agg [T.int .u8 p, T.str q, s]))).bind fun x10 =>
       (derefT none x10).bind fun x11 =>
       (idxT 3 x11 0).bind fun x12 =>
       (derefT (some 3) x12).bind fun x13 =>
       (T.agg? (List.length [D.int .u8, D.str, D.slice 25]) x13).bind fun x14 =>
       (T.int? .u8 (nthT x14 0)).bind fun x15 =>
       (T.str? (nthT x14 1)).bind fun x16 =>
       (fnO acfg 38 [T.agg [T.int .u8 x15, T.str x16, nthT x14 2]]).bind fun x17 =>
       bif T.scalar x17 then
       (T.str? x17).bind fun x18 =>
       bif sCatOK [112, 97, 105, 114, 40] x18 then
       bif sCatOK (sCat [112, 97, 105, 114, 40] x18) [44, 32] then
       (fldT 2 none (T.ptr (T.agg [T.int .u8 p, T.str q, s]))).bind fun x19 =>
       (derefT none x19).bind fun x20 =>
       (idxT 3 x20 1).bind fun x21 =>
       (derefT (some 3) x21).bind fun x22 =>
       (T.agg? (List.length [D.int .u8, D.str, D.slice 25]) x22).bind fun x23 =>
       (T.int? .u8 (nthT x23 0)).bind fun x24 =>
       (T.str? (nthT x23 1)).bind fun x25 =>
       (fnO acfg 38 [T.agg [T.int .u8 x24, T.str x25, nthT x23 2]]).bind fun x26 =>
       bif T.scalar x26 then
       (T.str? x26).bind fun x27 =>
       bif (sCatOK (sCat (sCat [112, 97, 105, 114, 40] x18) [44, 32]) x27) then
       bif (sCatOK (sCat (sCat (sCat [112, 97, 105, 114, 40] x18) [44, 32]) x27) [41]) then
       some (T.str (sCat (sCat (sCat (sCat [112, 97, 105, 114, 40] x18) [44, 32]) x27) [41]))
       else none
       else none
       else none
       else none
       else none
       else none
      else
       some (T.str q)
 else none) = some r) : fnO acfg 38 [T.agg [T.int .u8 p, T.str q, s]] = some r :=
 fo h
end
end Go.Proofs.Tryz

namespace Go.Proofs.Tryz
open Go Go.Apex
set_option maxRecDepth 100000
noncomputable section
theorem fn10 (p : Int) (q : List UInt8) (s r : T) (h : (
 bif (vfits (V.t (T.agg [T.int .u8 p, T.str q, s])) (some 3)) then
 (derefT (some 3) (T.ptr (T.agg [T.int .u8 p, T.str q, s]))).bind fun x1 =>
 (T.agg? (List.length [D.int .u8, D.str, D.slice 25]) x1).bind fun x2 =>
 (T.int? .u8 (nthT x2 0)).bind fun x3 =>
 (T.str? (nthT x2 1)).bind fun x4 =>
 (fnO acfg 31 [T.agg [T.int .u8 x3, T.str x4, nthT x2 2]]).bind fun x5 =>
 bif T.scalar x5 then
 (T.int? .i64 x5).bind fun x6 =>
 bif iLt 4 x6 then
  some (T.tup [T.str [], T.int .i64 5])
 else
  (derefT (some 3) (T.ptr (T.agg [T.int .u8 p, T.str q, s]))).bind fun x7 =>
  (T.agg? (List.length [D.int .u8, D.str, D.slice 25]) x7).bind fun x8 =>
  (T.int? .u8 (nthT x8 0)).bind fun x9 =>
  (T.str? (nthT x8 1)).bind fun x10 =>
  (fnO acfg 33 [T.agg [T.int .u8 x9, T.str x10, nthT x8 2]]).bind fun x11 =>
  bif T.scalar x11 then
  (T.bool? x11).bind fun x12 =>
  bif bNot x12 then
   some (T.tup [T.str [], T.int .i64 4])
  else
   (derefT (some 3) (T.ptr (T.agg [T.int .u8 p, T.str q, s]))).bind fun x13 =>
   (T.agg? (List.length [D.int .u8, D.str, D.slice 25]) x13).bind fun x14 =>
   (T.int? .u8 (nthT x14 0)).bind fun x15 =>
   (T.str? (nthT x14 1)).bind fun x16 =>
   (fnO acfg 35 [T.agg [T.int .u8 x15, T.str x16, nthT x14 2]]).bind fun x17 =>
   bif T.scalar x17 then
   (T.str? x17).bind fun x18 =>
   some (T.tup [T.str x18, T.int .i64 0])
   else none
  else none
 else none
 else none) = some r) : fnO acfg 10 [T.agg [T.int .u8 p, T.str q, s]] = some r :=
 fo h
theorem fn11 (p : Int) (q : List UInt8) (s r : T) (h : (
 bif (vfits (V.t (T.agg [T.int .u8 p, T.str q, s])) (some 3)) then
 (derefT (some 3) (T.ptr (T.agg [T.int .u8 p, T.str q, s]))).bind fun x1 =>
 (T.agg? (List.length [D.int .u8, D.str, D.slice 25]) x1).bind fun x2 =>
 (T.int? .u8 (nthT x2 0)).bind fun x3 =>
 (T.str? (nthT x2 1)).bind fun x4 =>
 (fnO acfg 36 [T.agg [T.int .u8 x3, T.str x4, nthT x2 2]]).bind fun x5 =>
 bif T.scalar x5 then
 (T.int? .i64 x5).bind fun x6 =>
 bif iLt 4 x6 then
  some (T.tup [T.str [], T.int .i64 5])
 else
  (derefT (some 3) (T.ptr (T.agg [T.int .u8 p, T.str q, s]))).bind fun x7 =>
  (T.agg? (List.length [D.int .u8, D.str, D.slice 25]) x7).bind fun x8 =>
  (T.int? .u8 (nthT x8 0)).bind fun x9 =>
  (T.str? (nthT x8 1)).bind fun x10 =>
  (fnO acfg 37 [T.agg [T.int .u8 x9, T.str x10, nthT x8 2]]).bind fun x11 =>
  bif T.scalar x11 then
  (T.bool? x11).bind fun x12 =>
  bif bNot x12 then
   some (T.tup [T.str [], T.int .i64 4])
  else
   (derefT (some 3) (T.ptr (T.agg [T.int .u8 p, T.str q, s]))).bind fun x13 =>
   (T.agg? (List.length [D.int .u8, D.str, D.slice 25]) x13).bind fun x14 =>
   (T.int? .u8 (nthT x14 0)).bind fun x15 =>
   (T.str? (nthT x14 1)).bind fun x16 =>
   (fnO acfg 38 [T.agg [T.int .u8 x15, T.str x16, nthT x14 2]]).bind fun x17 =>
   bif T.scalar x17 then
   (T.str? x17).bind fun x18 =>
   some (T.tup [T.str x18, T.int .i64 0])
   else none
  else none
 else none
 else none) = some r) : fnO acfg 11 [T.agg [T.int .u8 p, T.str q, s]] = some r :=
 fo h
end
end Go.Proofs.Tryz

namespace Go.Proofs.Tryz
open Go Go.Apex
set_option maxRecDepth 100000
noncomputable section
def L40_1 (v0 : T) (v1 : List UInt8) (v2 : Int) : Option T := runO acfg (pureFin acfg 40) [.loop 40 none (codeOf acfg 40 [1, 0, 1, 0, 0]), .block 0, .code 40 none (codeOf acfg 40 [1, 1])] ⟨mkTs 20 [(0, V.t v0), (1, V.t (T.str v1)), (5, V.t (T.int .i64 v2))], ⟨2, mkTr []⟩, []⟩
theorem L40_1_step (v0 : T) (v1 : List UInt8) (v2 : Int) (r : T) (h : (
 (lenT v0).bind fun x1 =>
 bif iLt v2 x1 then
  (idxT 4 v0 v2).bind fun x2 =>
  (fldT 0 none x2).bind fun x3 =>
  (derefT none x3).bind fun x4 =>
  (T.str? x4).bind fun x5 =>
  bif sEq x5 v1 then
   some (T.int .i64 v2)
  else
   L40_1 v0 v1 (iAdd .i64 v2 1)
 else
  some (T.int .i64 (-1))) = some r) : L40_1 v0 v1 v2 = some r :=
 rd h
theorem fn40 (a0 : T) (a1 : List UInt8) (r : T) (h : (
 L40_1 a0 a1 0) = some r) : fnO acfg 40 [a0, T.str a1] = some r :=
 fo h
end
end Go.Proofs.Tryz

namespace Go.Proofs.Tryz
open Go Go.Apex
set_option maxRecDepth 100000
noncomputable section
def L65_1 (v0 v1 : T) (v2 v3 : Int) : Option T := runO acfg (pureFin acfg 65) [.loop 65 none (codeOf acfg 65 [1, 0, 1, 0, 0]), .block 0, .code 65 none (codeOf acfg 65 [1, 1])] ⟨mkTs 19 [(0, V.t v0), (1, V.t v1), (7, V.t (T.int .i64 v2)), (8, V.t (T.int .i64 v3))], ⟨4, mkTr []⟩, []⟩
theorem L65_1_step (v0 v1 : T) (v2 v3 : Int) (r : T) (h : (
 bif iLt v3 v2 then
  (idxT 4 v0 v3).bind fun x1 =>
  (derefT (some 4) x1).bind fun x2 =>
  (T.agg? (List.length D4) x2).bind fun x3 =>
  (T.str? (nthT x3 0)).bind fun x4 =>
  (callT acfg v1 [tblT x4 (nthT x3 1) (nthT x3 2) (nthT x3 3)]).bind fun x5 =>
  (T.bool? x5).bind fun x6 =>
  bif x6 then
   some (T.int .i64 v3)
  else
   L65_1 v0 v1 v2 (iAdd .i64 v3 1)
 else
  some (T.int .i64 (-1))) = some r) : L65_1 v0 v1 v2 v3 = some r :=
 rd h
theorem fn65 (a0 a1 r : T) (h : (
 (lenT a0).bind fun x1 =>
 L65_1 a0 a1 x1 0) = some r) : fnO acfg 65 [a0, a1] = some r :=
 fo h
theorem fn26 (a0 a1 r : T) (h : (
 (fnO acfg 65 [a0, a1]).bind fun x1 =>
 bif T.scalar x1 then
 (T.int? .i64 x1).bind fun x2 =>
 some (T.bool (iLe 0 x2))
 else none) = some r) : fnO acfg 26 [a0, a1] = some r :=
 fo h
theorem fn30 (p : List UInt8) (q s u c0 r : T) (h : (
 bif (vfits (V.t (tblT p q s u)) (some 4)) then
 (derefT none c0).bind fun x1 =>
 (T.str? x1).bind fun x2 =>
 some (T.bool (sEq p x2))
 else none) = some r) : fnO acfg 30 [tblT p q s u, c0] = some r :=
 fo h
theorem fn29 (a0 : List UInt8) (c0 r : T) (h : (
 (derefT none c0).bind fun x1 =>
 (fnO acfg 26 [x1, T.fn (Fn.func 30) [] [T.ptr (T.str a0)]]).bind fun x2 =>
 bif T.scalar x2 then
 (T.bool? x2).bind fun x3 =>
 some (T.bool x3)
 else none) = some r) : fnO acfg 29 [T.str a0, c0] = some r :=
 fo h
end
end Go.Proofs.Tryz

namespace Go.Proofs.Tryz
open Go Go.Apex
set_option maxRecDepth 100000
noncomputable section
def L32_1 (v0 v1 : T) (v2 v3 : Int) : Option T := runO acfg (pureFin acfg 32) [.loop 32 none (codeOf acfg 32 [1, 0, 1, 0, 0]), .block 0, .code 32 none (codeOf acfg 32 [1, 1])] ⟨mkTs 20 [(1, V.t v0), (7, V.t v1), (8, V.t (T.int .i64 v2)), (9, V.t (T.int .i64 v3))], ⟨4, mkTr []⟩, []⟩
theorem L32_1_step (v0 v1 : T) (v2 v3 : Int) (r : T) (h : (
 bif iLt v3 v2 then
  (idxT 4 v1 v3).bind fun x1 =>
  (derefT (some 4) x1).bind fun x2 =>
  (T.agg? (List.length D4) x2).bind fun x3 =>
  (T.str? (nthT x3 0)).bind fun x4 =>
  bif (vfits (V.t (tblT x4 (nthT x3 1) (nthT x3 2) (nthT x3 3))) (some 4)) then
  (derefT (some 4) (T.ptr (tblT x4 (nthT x3 1) (nthT x3 2) (nthT x3 3)))).bind fun x5 =>
  (T.agg? (List.length D4) x5).bind fun x6 =>
  (T.str? (nthT x6 0)).bind fun x7 =>
  (callT acfg v0 [T.int .i64 v3, tblT x7 (nthT x6 1) (nthT x6 2) (nthT x6 3)]).bind fun x8 =>
  (T.bool? x8).bind fun x9 =>
  bif bNot x9 then
   some (T.bool false)
  else
   L32_1 v0 v1 v2 (iAdd .i64 v3 1)
  else none
 else
  some (T.bool true)) = some r) : L32_1 v0 v1 v2 v3 = some r :=
 rd h
theorem fn32 (a0 a1 r : T) (h : (
 (lenT a0).bind fun x1 =>
 L32_1 a1 a0 x1 0) = some r) : fnO acfg 32 [a0, a1] = some r :=
 fo h
end
end Go.Proofs.Tryz

namespace Go.Proofs.Tryz
open Go Go.Apex
set_option maxRecDepth 100000
noncomputable section
def L35_1k (v0 : Int) (v1 : List UInt8) (v2 : T) (v3 : Int) (v4 : List UInt8) (v5 : T) (v6 v7 v8 v9 : List UInt8) (v10 : T) (v11 v12 : List T) : List Kt := [.code 35 none (codeOf acfg 35 [1, 1, 0, 1, 0]), .block 0, .code 35 none (codeOf acfg 35 [1, 1, 1])]
def L35_1s (v0 : Int) (v1 : List UInt8) (v2 : T) (v3 : Int) (v4 : List UInt8) (v5 : T) (v6 v7 v8 v9 : List UInt8) (v10 : T) (v11 v12 : List T) : St := ⟨mkTs 47 [(0, V.t (T.agg [T.int .u8 v0, T.str v1, v2])), (1, V.t (T.ptr (T.agg [T.int .u8 v3, T.str v4, v5]))), (2, V.t (T.str v6)), (3, V.t (T.str v7)), (4, V.t (T.tup [])), (5, V.t (T.tup [])), (6, V.t (T.tup [])), (7, V.t (T.tup [])), (8, V.t (T.tup [])), (9, V.t (T.ptr (T.str v8))), (10, V.t (T.str v9)), (11, V.t v10), (12, V.it 6 none), (13, V.t (T.tup [])), (14, V.t (T.tup [])), (15, V.t (T.tup [])), (16, V.t (T.tup [])), (17, V.t (T.tup [])), (18, V.t (T.tup [])), (19, V.t (T.tup [])), (20, V.t (T.tup [])), (21, V.t (T.tup [])), (22, V.t (T.tup [])), (23, V.t (T.tup [])), (24, V.t (T.tup [])), (25, V.t (T.tup [])), (26, V.t (T.tup [])), (27, V.t (T.tup [])), (28, V.t (T.tup [])), (29, V.t (T.tup [])), (30, V.t (T.tup [])), (31, V.t (T.tup [])), (32, V.t (T.tup [])), (33, V.t (T.tup [])), (34, V.t (T.tup [])), (35, V.t (T.tup [])), (36, V.t (T.tup [])), (37, V.t (T.tup [])), (38, V.t (T.tup [])), (39, V.t (T.tup [])), (40, V.t (T.tup [])), (41, V.t (T.tup [])), (42, V.t (T.tup [])), (43, V.t (T.tup [])), (44, V.t (T.tup [])), (45, V.t (T.tup [])), (46, V.t (T.tup []))], ⟨7, mkTr [(6, Apex.Obj.mit v11 v12)]⟩, []⟩
def L35_1 (v0 : Int) (v1 : List UInt8) (v2 : T) (v3 : Int) (v4 : List UInt8) (v5 : T) (v6 v7 v8 v9 : List UInt8) (v10 : T) (v11 v12 : List T) : Option T := runO acfg (pureFin acfg 35) (L35_1k v0 v1 v2 v3 v4 v5 v6 v7 v8 v9 v10 v11 v12) (L35_1s v0 v1 v2 v3 v4 v5 v6 v7 v8 v9 v10 v11 v12)
def L35_2 (v0 : List UInt8) (v1 : T) (v2 v3 : Int) : Option T := runO acfg (pureFin acfg 35) [.loop 35 none (codeOf acfg 35 [1, 1, 1, 1, 1, 0, 1, 0, 0]), .block 2, .code 35 none (codeOf acfg 35 [1, 1, 1, 1, 1, 1])] ⟨mkTs 47 [(3, V.t (T.str v0)), (6, V.t T.nils), (29, V.t v1), (30, V.t (T.int .i64 v2)), (31, V.t (T.int .i64 v3))], ⟨16, mkTr []⟩, []⟩
def L35_3 (v0 : List UInt8) (v1 v2 v3 : Nat) (v4 : T) (v5 v6 : Int) (v7 : Nat) (v8 : List V) : Option T := runO acfg (pureFin acfg 35) [.loop 35 none (codeOf acfg 35 [1, 1, 1, 1, 1, 0, 1, 0, 0]), .block 2, .code 35 none (codeOf acfg 35 [1, 1, 1, 1, 1, 1])] ⟨mkTs 47 [(3, V.t (T.str v0)), (6, V.msl 25 v1 v2 v3 none), (29, V.t v4), (30, V.t (T.int .i64 v5)), (31, V.t (T.int .i64 v6))], ⟨26, mkTr [(25, Apex.Obj.cells v7 9 false v8)]⟩, []⟩
theorem L35_1_end (v0 : Int) (v1 : List UInt8) (v2 : T) (v3 : Int) (v4 : List UInt8) (v5 : T) (v6 v7 v8 v9 : List UInt8) (v10 : T) (v11 v12 : List T) (r : T) (h : (
 (fldT 2 none (T.ptr (T.agg [T.int .u8 v3, T.str v4, v5]))).bind fun x1 =>
 (derefT none x1).bind fun x2 =>
 (lenT x2).bind fun x3 =>
 bif iEq x3 0 then
  some (T.str v7)
 else
  (fldT 2 none (T.ptr (T.agg [T.int .u8 v3, T.str v4, v5]))).bind fun x4 =>
  (derefT none x4).bind fun x5 =>
  (lenT x5).bind fun x6 =>
  L35_2 v7 x5 x6 0) = some r) : endO acfg 35 (L35_1k v0 v1 v2 v3 v4 v5 v6 v7 v8 v9 v10 v11 v12) (L35_1s v0 v1 v2 v3 v4 v5 v6 v7 v8 v9 v10 v11 v12) = some r :=
 end_of (n := 3000) (rows := []) (by kernel_rfl) h
theorem L35_2_step (v0 : List UInt8) (v1 : T) (v2 v3 : Int) (r : T) (h : (
 bif iLt v3 v2 then
  (idxT 3 v1 v3).bind fun x1 =>
  (derefT (some 3) x1).bind fun x2 =>
  (T.agg? (List.length [D.int .u8, D.str, D.slice 25]) x2).bind fun x3 =>
  (T.int? .u8 (nthT x3 0)).bind fun x4 =>
  (T.str? (nthT x3 1)).bind fun x5 =>
  bif (vfits (V.t (T.agg [T.int .u8 x4, T.str x5, nthT x3 2])) (some 3)) then
  (derefT (some 3) (T.ptr (T.agg [T.int .u8 x4, T.str x5, nthT x3 2]))).bind fun x6 =>
  (T.agg? (List.length [D.int .u8, D.str, D.slice 25]) x6).bind fun x7 =>
  (T.int? .u8 (nthT x7 0)).bind fun x8 =>
  (T.str? (nthT x7 1)).bind fun x9 =>
  (fnO acfg 35 [T.agg [T.int .u8 x8, T.str x9, nthT x7 2]]).bind fun x10 =>
  bif T.scalar x10 then
  (T.str? x10).bind fun x11 =>
  L35_3 v0 1 0 1 v1 v2 (iAdd .i64 v3 1) 1 (rowNew [] [V.t (T.str x11)])
  else none
  else none
 else
  bif sCatOK v0 [40] then
  (fnO acfg 49 [T.nils, T.str [44, 32]]).bind fun x12 =>
  bif T.scalar x12 then
  (T.str? x12).bind fun x13 =>
  bif sCatOK (sCat v0 [40]) x13 then
  bif (sCatOK (sCat (sCat v0 [40]) x13) [41]) then
  some (T.str (sCat (sCat (sCat v0 [40]) x13) [41]))
  else none
  else none
  else none
  else none) = some r) : L35_2 v0 v1 v2 v3 = some r :=
 rd h
theorem L35_3_step (v0 : List UInt8) (v1 v2 v3 : Nat) (v4 : T) (v5 v6 : Int) (v7 : Nat) (v8 : List V) (r : T) (h : (
 bif iLt v6 v5 then
  (idxT 3 v4 v6).bind fun x1 =>
  (derefT (some 3) x1).bind fun x2 =>
  (T.agg? (List.length [D.int .u8, D.str, D.slice 25]) x2).bind fun x3 =>
  (T.int? .u8 (nthT x3 0)).bind fun x4 =>
  (T.str? (nthT x3 1)).bind fun x5 =>
  bif (vfits (V.t (T.agg [T.int .u8 x4, T.str x5, nthT x3 2])) (some 3)) then
  (derefT (some 3) (T.ptr (T.agg [T.int .u8 x4, T.str x5, nthT x3 2]))).bind fun x6 =>
  (T.agg? (List.length [D.int .u8, D.str, D.slice 25]) x6).bind fun x7 =>
  (T.int? .u8 (nthT x7 0)).bind fun x8 =>
  (T.str? (nthT x7 1)).bind fun x9 =>
  (fnO acfg 35 [T.agg [T.int .u8 x8, T.str x9, nthT x7 2]]).bind fun x10 =>
  bif T.scalar x10 then
  (T.str? x10).bind fun x11 =>
  bif natEq v7 v1 then
  bif (appOK v8 v2 v3 1 [V.t (T.str x11)] 16) then
  bif (objBd 26 (Apex.Obj.cells (appGen v7 [V.t (T.str x11)]) 9 false (appCs v8 v2 [V.t (T.str x11)]))) then
  L35_3 v0 (appGen v7 [V.t (T.str x11)]) 0 (appLen v3 [V.t (T.str x11)]) v4 v5 (iAdd .i64 v6 1) (appGen v7 [V.t (T.str x11)]) (appCs v8 v2 [V.t (T.str x11)])
  else none
  else none
  else none
  else none
  else none
 else
  bif sCatOK v0 [40] then
  bif natEq v7 v1 then
  (rowT none v8 v2 v3).bind fun x12 =>
  (fnO acfg 49 [T.sl false 1 x12, T.str [44, 32]]).bind fun x13 =>
  bif T.scalar x13 then
  (T.str? x13).bind fun x14 =>
  bif sCatOK (sCat v0 [40]) x14 then
  bif (sCatOK (sCat (sCat v0 [40]) x14) [41]) then
  some (T.str (sCat (sCat (sCat v0 [40]) x14) [41]))
  else none
  else none
  else none
  else none
  else none) = some r) : L35_3 v0 v1 v2 v3 v4 v5 v6 v7 v8 = some r :=
 rdr [25] h
theorem fn35 (p : Int) (q : List UInt8) (s r : T) (h : (
 bif (vfits (V.t (T.agg [T.int .u8 p, T.str q, s])) (some 3)) then
 (fnO acfg 70 []).bind fun x1 =>
 (mpT x1).bind fun x2 =>
 L35_1 p q s p q s [] q q q x1 x2.1 x2.2
 else none) = some r) : fnO acfg 35 [T.agg [T.int .u8 p, T.str q, s]] = some r :=
 fo h
end
end Go.Proofs.Tryz

namespace Go.Proofs.Tryz
open Go Go.Apex
set_option maxRecDepth 100000
noncomputable section
theorem fn9 (a0 : T) (a1_0 : Int) (a1_1 : List UInt8) (a1_2 r : T) (h : (
 bif vfits (V.t a0) none then
 bif (vfits (V.t (T.agg [T.int .u8 a1_0, T.str a1_1, a1_2])) (some 3)) then
 (derefT none (T.ptr a0)).bind fun x1 =>
 (lenT x1).bind fun x2 =>
 bif iLt 8 x2 then
  some (T.int .i64 5)
 else
  (derefT (some 3) (T.ptr (T.agg [T.int .u8 a1_0, T.str a1_1, a1_2]))).bind fun x3 =>
  (T.agg? (List.length [D.int .u8, D.str, D.slice 25]) x3).bind fun x4 =>
  (T.int? .u8 (nthT x4 0)).bind fun x5 =>
  (T.str? (nthT x4 1)).bind fun x6 =>
  (fnO acfg 31 [T.agg [T.int .u8 x5, T.str x6, nthT x4 2]]).bind fun x7 =>
  bif T.scalar x7 then
  (T.int? .i64 x7).bind fun x8 =>
  bif iLt 4 x8 then
   some (T.int .i64 5)
  else
   (derefT none (T.ptr a0)).bind fun x9 =>
   (fnO acfg 32 [x9, T.fn (Fn.func 23) [] []]).bind fun x10 =>
   bif T.scalar x10 then
   (T.bool? x10).bind fun x11 =>
   bif bNot x11 then
    some (T.int .i64 4)
   else
    (derefT (some 3) (T.ptr (T.agg [T.int .u8 a1_0, T.str a1_1, a1_2]))).bind fun x12 =>
    (T.agg? (List.length [D.int .u8, D.str, D.slice 25]) x12).bind fun x13 =>
    (T.int? .u8 (nthT x13 0)).bind fun x14 =>
    (T.str? (nthT x13 1)).bind fun x15 =>
    (fnO acfg 33 [T.agg [T.int .u8 x14, T.str x15, nthT x13 2]]).bind fun x16 =>
    bif T.scalar x16 then
    (T.bool? x16).bind fun x17 =>
    bif bNot x17 then
     some (T.int .i64 4)
    else
     (derefT none (T.ptr a0)).bind fun x18 =>
     (fnO acfg 32 [x18, T.fn (Fn.func 25) [] [T.ptr a0]]).bind fun x19 =>
     bif T.scalar x19 then
     (T.bool? x19).bind fun x20 =>
     bif bNot x20 then
      some (T.int .i64 6)
     else
      (derefT none (T.ptr a0)).bind fun x21 =>
      (fnO acfg 32 [x21, T.fn (Fn.func 28) [] []]).bind fun x22 =>
      bif T.scalar x22 then
      (T.bool? x22).bind fun x23 =>
      bif bNot x23 then
       some (T.int .i64 12)
      else
       (derefT (some 3) (T.ptr (T.agg [T.int .u8 a1_0, T.str a1_1, a1_2]))).bind fun x24 =>
       (T.agg? (List.length [D.int .u8, D.str, D.slice 25]) x24).bind fun x25 =>
       (T.int? .u8 (nthT x25 0)).bind fun x26 =>
       (T.str? (nthT x25 1)).bind fun x27 =>
       (fnO acfg 34 [T.agg [T.int .u8 x26, T.str x27, nthT x25 2], T.fn (Fn.func 29) [] [T.ptr a0]]).bind fun x28 =>
       bif T.scalar x28 then
       (T.bool? x28).bind fun x29 =>
       bif bNot x29 then
        some (T.int .i64 7)
       else
        some (T.int .i64 0)
       else none
      else none
     else none
    else none
   else none
  else none
 else none
 else none) = some r) : fnO acfg 9 [a0, T.agg [T.int .u8 a1_0, T.str a1_1, a1_2]] = some r :=
 fo h
def L12_1 (v0 : T) (v1 : Int) (v2 : List UInt8) (v3 : T) (v4 : Bool) (v5 : Int) : Option T := runO acfg (pureFin acfg 12) [.loop 12 none (codeOf acfg 12 [1, 1, 1, 0, 1, 0, 0]), .block 0, .code 12 none (codeOf acfg 12 [1, 1, 1, 1])] ⟨mkTs 67 [(0, V.t v0), (3, V.t (T.ptr (T.agg [T.int .u8 v1, T.str v2, v3]))), (5, V.t (T.bool v4)), (6, V.t (T.int .i64 v5))], ⟨14, mkTr []⟩, []⟩
def L12_2 (v0 : T) (v1 : Int) (v2 : List UInt8) (v3 : T) (v4 : Int) : Option T := runO acfg (pureFin acfg 12) [.loop 12 none (codeOf acfg 12 [1, 1, 1, 1, 1, 0, 1, 0, 0]), .block 2, .code 12 none (codeOf acfg 12 [1, 1, 1, 1, 1, 1])] ⟨mkTs 67 [(0, V.t v0), (3, V.t (T.ptr (T.agg [T.int .u8 v1, T.str v2, v3]))), (7, V.t (T.int .i64 v4))], ⟨21, mkTr []⟩, []⟩
def L12_3 (v0 : T) (v1 : Int) (v2 : List UInt8) (v3 : T) (v4 : Int) : Option T := runO acfg (pureFin acfg 12) [.loop 12 none (codeOf acfg 12 [1, 1, 1, 1, 1, 1, 0, 1, 0, 0]), .block 4, .code 12 none (codeOf acfg 12 [1, 1, 1, 1, 1, 1, 1])] ⟨mkTs 67 [(0, V.t v0), (3, V.t (T.ptr (T.agg [T.int .u8 v1, T.str v2, v3]))), (8, V.t (T.int .i64 v4))], ⟨26, mkTr []⟩, []⟩
theorem L12_1_step (v0 : T) (v1 : Int) (v2 : List UInt8) (v3 : T) (v4 : Bool) (v5 : Int) (r : T) (h : (
 (lenT v0).bind fun x1 =>
 bif iLt v5 x1 then
  bif v4 then
   (idxT 4 v0 v5).bind fun x2 =>
   (derefT (some 4) x2).bind fun x3 =>
   (T.agg? (List.length D4) x3).bind fun x4 =>
   (T.str? (nthT x4 0)).bind fun x5 =>
   (fnO acfg 39 [tblT x5 (nthT x4 1) (nthT x4 2) (nthT x4 3)]).bind fun x6 =>
   bif T.scalar x6 then
   (T.int? .i64 x6).bind fun x7 =>
   L12_1 v0 v1 v2 v3 (iEq x7 0) (iAdd .i64 v5 1)
   else none
  else
   L12_1 v0 v1 v2 v3 false (iAdd .i64 v5 1)
 else
  bif bNot v4 then
   some (T.int .i64 4)
  else
   L12_2 v0 v1 v2 v3 0) = some r) : L12_1 v0 v1 v2 v3 v4 v5 = some r :=
 rd h
theorem L12_2_step (v0 : T) (v1 : Int) (v2 : List UInt8) (v3 : T) (v4 : Int) (r : T) (h : (
 (lenT v0).bind fun x1 =>
 bif iLt v4 x1 then
  (idxT 4 v0 v4).bind fun x2 =>
  (fldT 0 none x2).bind fun x3 =>
  (derefT none x3).bind fun x4 =>
  (T.str? x4).bind fun x5 =>
  (fnO acfg 40 [v0, T.str x5]).bind fun x6 =>
  bif T.scalar x6 then
  (T.int? .i64 x6).bind fun x7 =>
  bif bNot (iEq x7 v4) then
   some (T.int .i64 6)
  else
   L12_2 v0 v1 v2 v3 (iAdd .i64 v4 1)
  else none
 else
  L12_3 v0 v1 v2 v3 0) = some r) : L12_2 v0 v1 v2 v3 v4 = some r :=
 rd h
theorem L12_3_step (v0 : T) (v1 : Int) (v2 : List UInt8) (v3 : T) (v4 : Int) (r : T) (h : (
 (lenT v0).bind fun x1 =>
 bif iLt v4 x1 then
  (idxT 4 v0 v4).bind fun x2 =>
  (derefT (some 4) x2).bind fun x3 =>
  (T.agg? (List.length D4) x3).bind fun x4 =>
  (T.str? (nthT x4 0)).bind fun x5 =>
  (fnO acfg 41 [tblT x5 (nthT x4 1) (nthT x4 2) (nthT x4 3)]).bind fun x6 =>
  bif T.scalar x6 then
  (T.int? .i64 x6).bind fun x7 =>
  bif bNot (iEq x7 0) then
   some (T.int .i64 12)
  else
   L12_3 v0 v1 v2 v3 (iAdd .i64 v4 1)
  else none
 else
  (derefT (some 3) (T.ptr (T.agg [T.int .u8 v1, T.str v2, v3]))).bind fun x8 =>
  (T.agg? (List.length [D.int .u8, D.str, D.slice 25]) x8).bind fun x9 =>
  (T.int? .u8 (nthT x9 0)).bind fun x10 =>
  (T.str? (nthT x9 1)).bind fun x11 =>
  (fnO acfg 42 [v0, T.agg [T.int .u8 x10, T.str x11, nthT x9 2]]).bind fun x12 =>
  bif T.scalar x12 then
  (T.bool? x12).bind fun x13 =>
  bif bNot x13 then
   some (T.int .i64 7)
  else
   some (T.int .i64 0)
  else none) = some r) : L12_3 v0 v1 v2 v3 v4 = some r :=
 rd h
theorem fn12 (a0 : T) (a1_0 : Int) (a1_1 : List UInt8) (a1_2 r : T) (h : (
 bif (vfits (V.t (T.agg [T.int .u8 a1_0, T.str a1_1, a1_2])) (some 3)) then
 (lenT a0).bind fun x1 =>
 bif iLt 8 x1 then
  some (T.int .i64 5)
 else
  (derefT (some 3) (T.ptr (T.agg [T.int .u8 a1_0, T.str a1_1, a1_2]))).bind fun x2 =>
  (T.agg? (List.length [D.int .u8, D.str, D.slice 25]) x2).bind fun x3 =>
  (T.int? .u8 (nthT x3 0)).bind fun x4 =>
  (T.str? (nthT x3 1)).bind fun x5 =>
  (fnO acfg 36 [T.agg [T.int .u8 x4, T.str x5, nthT x3 2]]).bind fun x6 =>
  bif T.scalar x6 then
  (T.int? .i64 x6).bind fun x7 =>
  bif iLt 4 x7 then
   some (T.int .i64 5)
  else
   (derefT (some 3) (T.ptr (T.agg [T.int .u8 a1_0, T.str a1_1, a1_2]))).bind fun x8 =>
   (T.agg? (List.length [D.int .u8, D.str, D.slice 25]) x8).bind fun x9 =>
   (T.int? .u8 (nthT x9 0)).bind fun x10 =>
   (T.str? (nthT x9 1)).bind fun x11 =>
   (fnO acfg 37 [T.agg [T.int .u8 x10, T.str x11, nthT x9 2]]).bind fun x12 =>
   bif T.scalar x12 then
   (T.bool? x12).bind fun x13 =>
   L12_1 a0 a1_0 a1_1 a1_2 x13 0
   else none
  else none
 else none) = some r) : fnO acfg 12 [a0, T.agg [T.int .u8 a1_0, T.str a1_1, a1_2]] = some r :=
 fo h
theorem fn23 (a0 : Int) (a1_0 : List UInt8) (a1_1 a1_2 a1_3 r : T) (h : (
 bif (vfits (V.t (tblT a1_0 a1_1 a1_2 a1_3)) (some 4)) then
 (derefT (some 4) (T.ptr (tblT a1_0 a1_1 a1_2 a1_3))).bind fun x1 =>
 (T.agg? (List.length D4) x1).bind fun x2 =>
 (T.str? (nthT x2 0)).bind fun x3 =>
 (fnO acfg 24 [tblT x3 (nthT x2 1) (nthT x2 2) (nthT x2 3)]).bind fun x4 =>
 bif T.scalar x4 then
 (T.int? .i64 x4).bind fun x5 =>
 some (T.bool (iEq x5 0))
 else none
 else none) = some r) : fnO acfg 23 [T.int .i64 a0, tblT a1_0 a1_1 a1_2 a1_3] = some r :=
 fo h
theorem fn25 (a0 : Int) (a1_0 : List UInt8) (a1_1 a1_2 a1_3 c0 r : T) (h : (
 bif (vfits (V.t (tblT a1_0 a1_1 a1_2 a1_3)) (some 4)) then
 (derefT none c0).bind fun x1 =>
 (subT 4 x1 none (some a0) none).bind fun x2 =>
 (fnO acfg 26 [x2, T.fn (Fn.func 27) [] [T.ptr (tblT a1_0 a1_1 a1_2 a1_3)]]).bind fun x3 =>
 bif T.scalar x3 then
 (T.bool? x3).bind fun x4 =>
 some (T.bool (bNot x4))
 else none
 else none) = some r) : fnO acfg 25 [T.int .i64 a0, tblT a1_0 a1_1 a1_2 a1_3, c0] = some r :=
 fo h
theorem fn27 (p : List UInt8) (q s u c0 r : T) (h : (
 bif (vfits (V.t (tblT p q s u)) (some 4)) then
 (fldT 0 none c0).bind fun x1 =>
 (derefT none x1).bind fun x2 =>
 (T.str? x2).bind fun x3 =>
 some (T.bool (sEq p x3))
 else none) = some r) : fnO acfg 27 [tblT p q s u, c0] = some r :=
 fo h
theorem fn28 (a0 : Int) (a1_0 : List UInt8) (a1_1 a1_2 a1_3 r : T) (h : (
 bif (vfits (V.t (tblT a1_0 a1_1 a1_2 a1_3)) (some 4)) then
 (derefT (some 4) (T.ptr (tblT a1_0 a1_1 a1_2 a1_3))).bind fun x1 =>
 (T.agg? (List.length D4) x1).bind fun x2 =>
 (T.str? (nthT x2 0)).bind fun x3 =>
 (fnO acfg 17 [tblT x3 (nthT x2 1) (nthT x2 2) (nthT x2 3)]).bind fun x4 =>
 bif T.scalar x4 then
 (T.tup? (List.length [47, 36]) x4).bind fun x5 =>
 (T.agg? (List.length [D.int .u8, D.int .i64, D.int .i64]) (nthT x5 0)).bind fun x6 =>
 (T.int? .u8 (nthT x6 0)).bind fun x7 =>
 (T.int? .i64 (nthT x6 1)).bind fun x8 =>
 (T.int? .i64 (nthT x6 2)).bind fun x9 =>
 (T.int? .i64 (nthT x5 1)).bind fun x10 =>
 some (T.bool (iEq x10 0))
 else none
 else none) = some r) : fnO acfg 28 [T.int .i64 a0, tblT a1_0 a1_1 a1_2 a1_3] = some r :=
 fo h
theorem fn41 (p : List UInt8) (q s u r : T) (h : (
 bif (vfits (V.t (tblT p q s u)) (some 4)) then
 (derefT (some 4) (T.ptr (tblT p q s u))).bind fun x1 =>
 (T.agg? (List.length D4) x1).bind fun x2 =>
 (T.str? (nthT x2 0)).bind fun x3 =>
 (fnO acfg 76 [tblT x3 (nthT x2 1) (nthT x2 2) (nthT x2 3)]).bind fun x4 =>
 bif T.scalar x4 then
 (T.tup? (List.length [47, 36]) x4).bind fun x5 =>
 (T.agg? (List.length [D.int .u8, D.int .i64, D.int .i64]) (nthT x5 0)).bind fun x6 =>
 (T.int? .u8 (nthT x6 0)).bind fun x7 =>
 (T.int? .i64 (nthT x6 1)).bind fun x8 =>
 (T.int? .i64 (nthT x6 2)).bind fun x9 =>
 (T.int? .i64 (nthT x5 1)).bind fun x10 =>
 some (T.int .i64 x10)
 else none
 else none) = some r) : fnO acfg 41 [tblT p q s u] = some r :=
 fo h
end
end Go.Proofs.Tryz

namespace Go.Proofs.Tryz
open Go Go.Apex
set_option maxRecDepth 100000
noncomputable section
def L3_1 (v0 : T) (v1 : Int) (v2 : List UInt8) (v3 : T) (v4 : Int) : Option T := runO acfg (pureFin acfg 3) [.loop 3 none (codeOf acfg 3 [1, 1, 1, 0, 1, 0, 0]), .block 0, .code 3 none (codeOf acfg 3 [1, 1, 1, 1])] ⟨mkTs 97 [(0, V.t v0), (3, V.t (T.ptr (T.agg [T.int .u8 v1, T.str v2, v3]))), (5, V.t T.nils), (6, V.t (T.int .i64 v4))], ⟨12, mkTr []⟩, []⟩
def L3_2 (v0 : T) (v1 : Int) (v2 : List UInt8) (v3 : T) (v4 v5 v6 : Nat) (v7 : Int) (v8 : Nat) (v9 : List V) : Option T := runO acfg (pureFin acfg 3) [.loop 3 none (codeOf acfg 3 [1, 1, 1, 0, 1, 0, 0]), .block 0, .code 3 none (codeOf acfg 3 [1, 1, 1, 1])] ⟨mkTs 97 [(0, V.t v0), (3, V.t (T.ptr (T.agg [T.int .u8 v1, T.str v2, v3]))), (5, V.msl 29 v4 v5 v6 (some 4)), (6, V.t (T.int .i64 v7))], ⟨30, mkTr [(29, Apex.Obj.cells v8 33 false v9)]⟩, []⟩
def L3_3 (v0 : T) (v1 : Int) : Option T := runO acfg (pureFin acfg 3) [.loop 3 none (codeOf acfg 3 [1, 1, 1, 1, 1, 1, 1, 1, 1, 0, 1, 0, 0]), .block 2, .code 3 none (codeOf acfg 3 [1, 1, 1, 1, 1, 1, 1, 1, 1, 1])] ⟨mkTs 97 [(0, V.t v0), (5, V.t T.nils), (13, V.t (T.int .i64 v1))], ⟨60, mkTr []⟩, []⟩
def L3_4 (v0 : T) (v1 v2 v3 : Nat) (v4 : Int) (v5 : Nat) (v6 : List V) : Option T := runO acfg (pureFin acfg 3) [.loop 3 none (codeOf acfg 3 [1, 1, 1, 1, 1, 1, 1, 1, 1, 0, 1, 0, 0]), .block 2, .code 3 none (codeOf acfg 3 [1, 1, 1, 1, 1, 1, 1, 1, 1, 1])] ⟨mkTs 97 [(0, V.t v0), (5, V.msl 29 v1 v2 v3 (some 4)), (13, V.t (T.int .i64 v4))], ⟨78, mkTr [(29, Apex.Obj.cells v5 33 false v6)]⟩, []⟩
theorem L3_1_step (v0 : T) (v1 : Int) (v2 : List UInt8) (v3 : T) (v4 : Int) (r : T) (h : (
 (lenT v0).bind fun x1 =>
 bif iLt v4 x1 then
  (idxT 4 v0 v4).bind fun x2 =>
  (derefT (some 4) x2).bind fun x3 =>
  (T.agg? (List.length D4) x3).bind fun x4 =>
  (T.str? (nthT x4 0)).bind fun x5 =>
  (fnO acfg 6 [tblT x5 (nthT x4 1) (nthT x4 2) (nthT x4 3)]).bind fun x6 =>
  bif T.scalar x6 then
  (T.bool? x6).bind fun x7 =>
  bif bNot x7 then
   (fnO acfg 5 []).bind fun x8 =>
   bif T.scalar x8 then
   (T.bool? x8).bind fun x9 =>
   some (T.bool x9)
   else none
  else
   (idxT 4 v0 v4).bind fun x10 =>
   (derefT (some 4) x10).bind fun x11 =>
   (T.agg? (List.length D4) x11).bind fun x12 =>
   (T.str? (nthT x12 0)).bind fun x13 =>
   (fnO acfg 7 [tblT x13 (nthT x12 1) (nthT x12 2) (nthT x12 3)]).bind fun x14 =>
   (T.agg? (List.length D4) x14).bind fun x15 =>
   (T.str? (nthT x15 0)).bind fun x16 =>
   bif (vfits (V.t (tblT x16 (nthT x15 1) (nthT x15 2) (nthT x15 3))) (some 4)) then
   bif (vfits (V.t (tblT x16 (nthT x15 1) (nthT x15 2) (nthT x15 3))) (some 4)) then
   L3_2 v0 v1 v2 v3 1 0 1 (iAdd .i64 v4 1) 1 (rowNew [] [V.t (tblT x16 (nthT x15 1) (nthT x15 2) (nthT x15 3))])
   else none
   else none
  else none
 else
  (derefT (some 3) (T.ptr (T.agg [T.int .u8 v1, T.str v2, v3]))).bind fun x17 =>
  (T.agg? (List.length [D.int .u8, D.str, D.slice 25]) x17).bind fun x18 =>
  (T.int? .u8 (nthT x18 0)).bind fun x19 =>
  (T.str? (nthT x18 1)).bind fun x20 =>
  (fnO acfg 8 [T.agg [T.int .u8 x19, T.str x20, nthT x18 2]]).bind fun x21 =>
  (T.agg? (List.length [D.int .u8, D.str, D.slice 25]) x21).bind fun x22 =>
  (T.int? .u8 (nthT x22 0)).bind fun x23 =>
  (T.str? (nthT x22 1)).bind fun x24 =>
  bif (vfits (V.t (T.agg [T.int .u8 x23, T.str x24, nthT x22 2])) (some 3)) then
  (derefT (some 3) (T.ptr (T.agg [T.int .u8 x23, T.str x24, nthT x22 2]))).bind fun x25 =>
  (T.agg? (List.length [D.int .u8, D.str, D.slice 25]) x25).bind fun x26 =>
  (T.int? .u8 (nthT x26 0)).bind fun x27 =>
  (T.str? (nthT x26 1)).bind fun x28 =>
  (fnO acfg 9 [T.nils, T.agg [T.int .u8 x27, T.str x28, nthT x26 2]]).bind fun x29 =>
  bif T.scalar x29 then
  (T.int? .i64 x29).bind fun x30 =>
  (derefT (some 3) (T.ptr (T.agg [T.int .u8 x23, T.str x24, nthT x22 2]))).bind fun x31 =>
  (T.agg? (List.length [D.int .u8, D.str, D.slice 25]) x31).bind fun x32 =>
  (T.int? .u8 (nthT x32 0)).bind fun x33 =>
  (T.str? (nthT x32 1)).bind fun x34 =>
  (fnO acfg 10 [T.agg [T.int .u8 x33, T.str x34, nthT x32 2]]).bind fun x35 =>
  bif T.scalar x35 then
  (T.tup? (List.length [9, 36]) x35).bind fun x36 =>
  (T.str? (nthT x36 0)).bind fun x37 =>
  (T.int? .i64 (nthT x36 1)).bind fun x38 =>
  (derefT (some 3) (T.ptr (T.agg [T.int .u8 v1, T.str v2, v3]))).bind fun x39 =>
  (T.agg? (List.length [D.int .u8, D.str, D.slice 25]) x39).bind fun x40 =>
  (T.int? .u8 (nthT x40 0)).bind fun x41 =>
  (T.str? (nthT x40 1)).bind fun x42 =>
  (fnO acfg 11 [T.agg [T.int .u8 x41, T.str x42, nthT x40 2]]).bind fun x43 =>
  bif T.scalar x43 then
  (T.tup? (List.length [9, 36]) x43).bind fun x44 =>
  (T.str? (nthT x44 0)).bind fun x45 =>
  (T.int? .i64 (nthT x44 1)).bind fun x46 =>
  (derefT (some 3) (T.ptr (T.agg [T.int .u8 v1, T.str v2, v3]))).bind fun x47 =>
  (T.agg? (List.length [D.int .u8, D.str, D.slice 25]) x47).bind fun x48 =>
  (T.int? .u8 (nthT x48 0)).bind fun x49 =>
  (T.str? (nthT x48 1)).bind fun x50 =>
  (fnO acfg 12 [v0, T.agg [T.int .u8 x49, T.str x50, nthT x48 2]]).bind fun x51 =>
  bif T.scalar x51 then
  (T.int? .i64 x51).bind fun x52 =>
  bif bNot (iEq x30 x52) then
   some (T.bool false)
  else
   bif bNot (sEq x37 x45) then
    some (T.bool false)
   else
    bif bNot (iEq x38 x46) then
     some (T.bool false)
    else
     (derefT (some 3) (T.ptr (T.agg [T.int .u8 x23, T.str x24, nthT x22 2]))).bind fun x53 =>
     (T.agg? (List.length [D.int .u8, D.str, D.slice 25]) x53).bind fun x54 =>
     (T.int? .u8 (nthT x54 0)).bind fun x55 =>
     (T.str? (nthT x54 1)).bind fun x56 =>
     (derefT (some 3) (T.ptr (T.agg [T.int .u8 v1, T.str v2, v3]))).bind fun x57 =>
     (T.agg? (List.length [D.int .u8, D.str, D.slice 25]) x57).bind fun x58 =>
     (T.int? .u8 (nthT x58 0)).bind fun x59 =>
     (T.str? (nthT x58 1)).bind fun x60 =>
     (fnO acfg 13 [T.agg [T.int .u8 x55, T.str x56, nthT x54 2], T.agg [T.int .u8 x59, T.str x60, nthT x58 2]]).bind fun x61 =>
     bif T.scalar x61 then
     (T.bool? x61).bind fun x62 =>
     bif bNot x62 then
      some (T.bool false)
     else
      L3_3 v0 0
     else none
  else none
  else none
  else none
  else none
  else none) = some r) : L3_1 v0 v1 v2 v3 v4 = some r :=
 rd h
theorem L3_2_step (v0 : T) (v1 : Int) (v2 : List UInt8) (v3 : T) (v4 v5 v6 : Nat) (v7 : Int) (v8 : Nat) (v9 : List V) (r : T) (h : (
 (lenT v0).bind fun x1 =>
 bif iLt v7 x1 then
  (idxT 4 v0 v7).bind fun x2 =>
  (derefT (some 4) x2).bind fun x3 =>
  (T.agg? (List.length D4) x3).bind fun x4 =>
  (T.str? (nthT x4 0)).bind fun x5 =>
  (fnO acfg 6 [tblT x5 (nthT x4 1) (nthT x4 2) (nthT x4 3)]).bind fun x6 =>
  bif T.scalar x6 then
  (T.bool? x6).bind fun x7 =>
  bif bNot x7 then
   (fnO acfg 5 []).bind fun x8 =>
   bif T.scalar x8 then
   (T.bool? x8).bind fun x9 =>
   some (T.bool x9)
   else none
  else
   (idxT 4 v0 v7).bind fun x10 =>
   (derefT (some 4) x10).bind fun x11 =>
   (T.agg? (List.length D4) x11).bind fun x12 =>
   (T.str? (nthT x12 0)).bind fun x13 =>
   (fnO acfg 7 [tblT x13 (nthT x12 1) (nthT x12 2) (nthT x12 3)]).bind fun x14 =>
   (T.agg? (List.length D4) x14).bind fun x15 =>
   (T.str? (nthT x15 0)).bind fun x16 =>
   bif (vfits (V.t (tblT x16 (nthT x15 1) (nthT x15 2) (nthT x15 3))) (some 4)) then
   bif (vfits (V.t (tblT x16 (nthT x15 1) (nthT x15 2) (nthT x15 3))) (some 4)) then
   bif natEq v8 v4 then
   bif (appOK v9 v5 v6 4 [V.t (tblT x16 (nthT x15 1) (nthT x15 2) (nthT x15 3))] 88) then
   bif (objBd 30 (Apex.Obj.cells (appGen v8 [V.t (tblT x16 (nthT x15 1) (nthT x15 2) (nthT x15 3))]) 33 false (appCs v9 v5 [V.t (tblT x16 (nthT x15 1) (nthT x15 2) (nthT x15 3))]))) then
   L3_2 v0 v1 v2 v3 (appGen v8 [V.t (tblT x16 (nthT x15 1) (nthT x15 2) (nthT x15 3))]) 0 (appLen v6 [V.t (tblT x16 (nthT x15 1) (nthT x15 2) (nthT x15 3))]) (iAdd .i64 v7 1) (appGen v8 [V.t (tblT x16 (nthT x15 1) (nthT x15 2) (nthT x15 3))]) (appCs v9 v5 [V.t (tblT x16 (nthT x15 1) (nthT x15 2) (nthT x15 3))])
   else none
   else none
   else none
   else none
   else none
  else none
 else
  (derefT (some 3) (T.ptr (T.agg [T.int .u8 v1, T.str v2, v3]))).bind fun x17 =>
  (T.agg? (List.length [D.int .u8, D.str, D.slice 25]) x17).bind fun x18 =>
  (T.int? .u8 (nthT x18 0)).bind fun x19 =>
  (T.str? (nthT x18 1)).bind fun x20 =>
  (fnO acfg 8 [T.agg [T.int .u8 x19, T.str x20, nthT x18 2]]).bind fun x21 =>
  (T.agg? (List.length [D.int .u8, D.str, D.slice 25]) x21).bind fun x22 =>
  (T.int? .u8 (nthT x22 0)).bind fun x23 =>
  (T.str? (nthT x22 1)).bind fun x24 =>
  bif (vfits (V.t (T.agg [T.int .u8 x23, T.str x24, nthT x22 2])) (some 3)) then
  (derefT (some 3) (T.ptr (T.agg [T.int .u8 x23, T.str x24, nthT x22 2]))).bind fun x25 =>
  (T.agg? (List.length [D.int .u8, D.str, D.slice 25]) x25).bind fun x26 =>
  (T.int? .u8 (nthT x26 0)).bind fun x27 =>
  (T.str? (nthT x26 1)).bind fun x28 =>
  bif natEq v8 v4 then
  (rowT (some 4) v9 v5 v6).bind fun x29 =>
  (fnO acfg 9 [T.sl false 4 x29, T.agg [T.int .u8 x27, T.str x28, nthT x26 2]]).bind fun x30 =>
  bif T.scalar x30 then
  (T.int? .i64 x30).bind fun x31 =>
  (derefT (some 3) (T.ptr (T.agg [T.int .u8 x23, T.str x24, nthT x22 2]))).bind fun x32 =>
  (T.agg? (List.length [D.int .u8, D.str, D.slice 25]) x32).bind fun x33 =>
  (T.int? .u8 (nthT x33 0)).bind fun x34 =>
  (T.str? (nthT x33 1)).bind fun x35 =>
  (fnO acfg 10 [T.agg [T.int .u8 x34, T.str x35, nthT x33 2]]).bind fun x36 =>
  bif T.scalar x36 then
  (T.tup? (List.length [9, 36]) x36).bind fun x37 =>
  (T.str? (nthT x37 0)).bind fun x38 =>
  (T.int? .i64 (nthT x37 1)).bind fun x39 =>
  (derefT (some 3) (T.ptr (T.agg [T.int .u8 v1, T.str v2, v3]))).bind fun x40 =>
  (T.agg? (List.length [D.int .u8, D.str, D.slice 25]) x40).bind fun x41 =>
  (T.int? .u8 (nthT x41 0)).bind fun x42 =>
  (T.str? (nthT x41 1)).bind fun x43 =>
  (fnO acfg 11 [T.agg [T.int .u8 x42, T.str x43, nthT x41 2]]).bind fun x44 =>
  bif T.scalar x44 then
  (T.tup? (List.length [9, 36]) x44).bind fun x45 =>
  (T.str? (nthT x45 0)).bind fun x46 =>
  (T.int? .i64 (nthT x45 1)).bind fun x47 =>
  (derefT (some 3) (T.ptr (T.agg [T.int .u8 v1, T.str v2, v3]))).bind fun x48 =>
  (T.agg? (List.length [D.int .u8, D.str, D.slice 25]) x48).bind fun x49 =>
  (T.int? .u8 (nthT x49 0)).bind fun x50 =>
  (T.str? (nthT x49 1)).bind fun x51 =>
  (fnO acfg 12 [v0, T.agg [T.int .u8 x50, T.str x51, nthT x49 2]]).bind fun x52 =>
  bif T.scalar x52 then
  (T.int? .i64 x52).bind fun x53 =>
  bif bNot (iEq x31 x53) then
   some (T.bool false)
  else
   bif bNot (sEq x38 x46) then
    some (T.bool false)
   else
    bif bNot (iEq x39 x47) then
     some (T.bool false)
    else
     (derefT (some 3) (T.ptr (T.agg [T.int .u8 x23, T.str x24, nthT x22 2]))).bind fun x54 =>
     (T.agg? (List.length [D.int .u8, D.str, D.slice 25]) x54).bind fun x55 =>
     (T.int? .u8 (nthT x55 0)).bind fun x56 =>
     (T.str? (nthT x55 1)).bind fun x57 =>
     (derefT (some 3) (T.ptr (T.agg [T.int .u8 v1, T.str v2, v3]))).bind fun x58 =>
     (T.agg? (List.length [D.int .u8, D.str, D.slice 25]) x58).bind fun x59 =>
     (T.int? .u8 (nthT x59 0)).bind fun x60 =>
     (T.str? (nthT x59 1)).bind fun x61 =>
     (fnO acfg 13 [T.agg [T.int .u8 x56, T.str x57, nthT x55 2], T.agg [T.int .u8 x60, T.str x61, nthT x59 2]]).bind fun x62 =>
     bif T.scalar x62 then
     (T.bool? x62).bind fun x63 =>
     bif bNot x63 then
      some (T.bool false)
     else
      bif objBd 78 (Apex.Obj.cells v8 33 false v9) then
      L3_4 v0 v4 v5 v6 0 v8 v9
      else none
     else none
  else none
  else none
  else none
  else none
  else none
  else none) = some r) : L3_2 v0 v1 v2 v3 v4 v5 v6 v7 v8 v9 = some r :=
 rdr [29] h
theorem L3_3_step (v0 : T) (v1 : Int) (r : T) (h : (
 (lenT v0).bind fun x1 =>
 bif iLt v1 x1 then
  none
 else
  (fnO acfg 5 []).bind fun x2 =>
  bif T.scalar x2 then
  (T.bool? x2).bind fun x3 =>
  some (T.bool x3)
  else none) = some r) : L3_3 v0 v1 = some r :=
 rd h
theorem L3_4_step (v0 : T) (v1 v2 v3 : Nat) (v4 : Int) (v5 : Nat) (v6 : List V) (r : T) (h : (
 (lenT v0).bind fun x1 =>
 bif iLt v4 x1 then
  bif rowIn v4 v3 then
  bif natEq v5 v1 then
  (rowS (some 4) v6 (rowOff v2 v4 4)).bind fun x2 =>
  (T.agg? (List.length D4) x2).bind fun x3 =>
  (T.str? (nthT x3 0)).bind fun x4 =>
  (idxT 4 v0 v4).bind fun x5 =>
  (derefT (some 4) x5).bind fun x6 =>
  (T.agg? (List.length D4) x6).bind fun x7 =>
  (T.str? (nthT x7 0)).bind fun x8 =>
  (fnO acfg 14 [tblT x4 (nthT x3 1) (nthT x3 2) (nthT x3 3), tblT x8 (nthT x7 1) (nthT x7 2) (nthT x7 3)]).bind fun x9 =>
  bif T.scalar x9 then
  (T.bool? x9).bind fun x10 =>
  bif bNot x10 then
   some (T.bool false)
  else
   bif objBd 78 (Apex.Obj.cells v5 33 false v6) then
   L3_4 v0 v1 v2 v3 (iAdd .i64 v4 1) v5 v6
   else none
  else none
  else none
  else none
 else
  (fnO acfg 5 []).bind fun x11 =>
  bif T.scalar x11 then
  (T.bool? x11).bind fun x12 =>
  some (T.bool x12)
  else none) = some r) : L3_4 v0 v1 v2 v3 v4 v5 v6 = some r :=
 rdr [29] h
theorem fn3 (a0 : T) (a1_0 : Int) (a1_1 : List UInt8) (a1_2 r : T) (h : (
 bif (vfits (V.t (T.agg [T.int .u8 a1_0, T.str a1_1, a1_2])) (some 3)) then
 (lenT a0).bind fun x1 =>
 bif iLt 10 x1 then
  (fnO acfg 5 []).bind fun x2 =>
  bif T.scalar x2 then
  (T.bool? x2).bind fun x3 =>
  some (T.bool x3)
  else none
 else
  (derefT (some 3) (T.ptr (T.agg [T.int .u8 a1_0, T.str a1_1, a1_2]))).bind fun x4 =>
  (T.agg? (List.length [D.int .u8, D.str, D.slice 25]) x4).bind fun x5 =>
  (T.int? .u8 (nthT x5 0)).bind fun x6 =>
  (T.str? (nthT x5 1)).bind fun x7 =>
  (fnO acfg 4 [T.agg [T.int .u8 x6, T.str x7, nthT x5 2], T.int .i64 6]).bind fun x8 =>
  bif T.scalar x8 then
  (T.bool? x8).bind fun x9 =>
  bif bNot x9 then
   (fnO acfg 5 []).bind fun x10 =>
   bif T.scalar x10 then
   (T.bool? x10).bind fun x11 =>
   some (T.bool x11)
   else none
  else
   L3_1 a0 a1_0 a1_1 a1_2 0
  else none
 else none) = some r) : fnO acfg 3 [a0, T.agg [T.int .u8 a1_0, T.str a1_1, a1_2]] = some r :=
 fo h
end
end Go.Proofs.Tryz
