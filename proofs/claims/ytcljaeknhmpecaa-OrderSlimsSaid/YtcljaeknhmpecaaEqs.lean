import Derived.Test.YtcljaeknhmpecaaCfg
import Derived.Test.YtcljaeknhmpecaaApexA44
import Derived.KernelRfl
set_option linter.all false
namespace Go.Proofs.Try
open Go Go.Apex
set_option maxRecDepth 100000
abbrev tblT (n : List UInt8) (e a w : T) : T := .agg [.str n, e, a, w]
abbrev D4 := [D.str, D.slice 9, D.slice 38, D.slice 4]
noncomputable section
theorem fn61 (a0 a1 a2 : Int) (r : T) (h : (
 bif iLe a1 a0 then
  some (T.bool (iLe a0 a2))
 else
  some (T.bool false)) = some r) : fnO acfg 61 [T.int .i64 a0, T.int .i64 a1, T.int .i64 a2] = some r :=
 fo h
def L62_1 (v0 : List UInt8) (v1 : Int) : Option T := runO acfg (pureFin acfg 62) [.loop 62 none (codeOf acfg 62 [1, 1, 0, 1, 0, 0]), .block 0, .code 62 none (codeOf acfg 62 [1, 1, 1])] ⟨mkTs 48 [(0, V.t (T.str v0)), (3, V.t (T.int .i64 v1))], ⟨16, mkTr []⟩, []⟩
theorem L62_1_step (v0 : List UInt8) (v1 : Int) (r : T) (h : (
 bif iLt v1 (sLen v0) then
  (byteAt v0 v1).bind fun x1 =>
  bif iLe 97 x1 then
   (byteAt v0 v1).bind fun x2 =>
   bif bNot (iLe x2 122) then
    (byteAt v0 v1).bind fun x3 =>
    bif iLe 48 x3 then
     (byteAt v0 v1).bind fun x4 =>
     bif bNot (iLe x4 57) then
      some (T.bool false)
     else
      L62_1 v0 (iAdd .i64 v1 1)
    else
     some (T.bool false)
   else
    L62_1 v0 (iAdd .i64 v1 1)
  else
   (byteAt v0 v1).bind fun x5 =>
   bif iLe 48 x5 then
    (byteAt v0 v1).bind fun x6 =>
    bif bNot (iLe x6 57) then
     some (T.bool false)
    else
     L62_1 v0 (iAdd .i64 v1 1)
   else
    some (T.bool false)
 else
  some (T.bool true)) = some r) : L62_1 v0 v1 = some r :=
 rd h
theorem fn62 (a0 : List UInt8) (r : T) (h : (
 (fnO acfg 61 [T.int .i64 (sLen a0), T.int .i64 1, T.int .i64 12]).bind fun x1 =>
 bif T.scalar x1 then
 (T.bool? x1).bind fun x2 =>
 bif bNot x2 then
  some (T.bool false)
 else
  (byteAt a0 0).bind fun x3 =>
  bif iLt x3 97 then
   some (T.bool false)
  else
   (byteAt a0 0).bind fun x4 =>
   bif iLt 122 x4 then
    some (T.bool false)
   else
    L62_1 a0 0
 else none) = some r) : fnO acfg 62 [T.str a0] = some r :=
 fo h
def L63_1 (v0 : T) (v1 : List UInt8) (v2 : Int) : Option T := runO acfg (pureFin acfg 63) [.loop 63 none (codeOf acfg 63 [1, 0, 1, 0, 0]), .block 0, .code 63 none (codeOf acfg 63 [1, 1])] ⟨mkTs 19 [(0, V.t v0), (1, V.t (T.str v1)), (5, V.t (T.int .i64 v2))], ⟨2, mkTr []⟩, []⟩
theorem L63_1_step (v0 : T) (v1 : List UInt8) (v2 : Int) (r : T) (h : (
 (lenT v0).bind fun x1 =>
 bif iLt v2 x1 then
  (idxT 1 v0 v2).bind fun x2 =>
  (derefT none x2).bind fun x3 =>
  (T.str? x3).bind fun x4 =>
  bif sEq x4 v1 then
   some (T.int .i64 v2)
  else
   L63_1 v0 v1 (iAdd .i64 v2 1)
 else
  some (T.int .i64 (-1))) = some r) : L63_1 v0 v1 v2 = some r :=
 rd h
theorem fn63 (a0 : T) (a1 : List UInt8) (r : T) (h : (
 L63_1 a0 a1 0) = some r) : fnO acfg 63 [a0, T.str a1] = some r :=
 fo h
theorem fn60 (a0 : List UInt8) (r : T) (h : (
 (fnO acfg 62 [T.str a0]).bind fun x1 =>
 bif T.scalar x1 then
 (T.bool? x1).bind fun x2 =>
 bif x2 then
  (fnO acfg 100 []).bind fun x3 =>
  (fnO acfg 63 [x3, T.str a0]).bind fun x4 =>
  bif T.scalar x4 then
  (T.int? .i64 x4).bind fun x5 =>
  some (T.bool (iLt x5 0))
  else none
 else
  some (T.bool false)
 else none) = some r) : fnO acfg 60 [T.str a0] = some r :=
 fo h
theorem fn100  (r : T) (h : (
 some (T.sl true 1 [T.str [102, 108, 97, 103], T.str [109, 97, 120], T.str [115, 101, 116], T.str [111, 110, 99, 101], T.str [109, 97, 112], T.str [112, 97, 105, 114]])) = some r) : fnO acfg 100 [] = some r :=
 fo h
def L49_1 (v0 : List UInt8) (v1 v2 : Int) : Option T := runO acfg (pureFin acfg 49) [.loop 49 none (codeOf acfg 49 [1, 0, 1, 0, 0]), .block 0, .code 49 none (codeOf acfg 49 [1, 1])] ⟨mkTs 50 [(0, V.t (T.str v0)), (7, V.t (T.int .i64 v1)), (8, V.t (T.int .i64 v2))], ⟨4, mkTr []⟩, []⟩
theorem L49_1_step (v0 : List UInt8) (v1 v2 : Int) (r : T) (h : (
 bif iLt v2 v1 then
  (byteAt v0 v2).bind fun x1 =>
  bif iLe 97 x1 then
   (byteAt v0 v2).bind fun x2 =>
   (byteAt v0 v2).bind fun x3 =>
   bif iLe 48 x3 then
    (byteAt v0 v2).bind fun x4 =>
    bif bNot (iLe x2 122) then
     bif bNot (iLe x4 57) then
      some (T.bool false)
     else
      bif iEq v2 0 then
       some (T.bool false)
      else
       L49_1 v0 v1 (iAdd .i64 v2 1)
    else
     L49_1 v0 v1 (iAdd .i64 v2 1)
   else
    bif bNot (iLe x2 122) then
     some (T.bool false)
    else
     L49_1 v0 v1 (iAdd .i64 v2 1)
  else
   (byteAt v0 v2).bind fun x5 =>
   bif iLe 48 x5 then
    (byteAt v0 v2).bind fun x6 =>
    bif bNot (iLe x6 57) then
     some (T.bool false)
    else
     bif iEq v2 0 then
      some (T.bool false)
     else
      L49_1 v0 v1 (iAdd .i64 v2 1)
   else
    some (T.bool false)
 else
  bif iLt 0 (sLen v0) then
   some (T.bool (iLe (sLen v0) 12))
  else
   some (T.bool false)) = some r) : L49_1 v0 v1 v2 = some r :=
 rd h
theorem fn49 (a0 : List UInt8) (r : T) (h : (
 L49_1 a0 (sLen a0) 0) = some r) : fnO acfg 49 [T.str a0] = some r :=
 fo h
theorem fn54 (a0 : List UInt8) (r : T) (h : (
 (fnO acfg 90 []).bind fun x1 =>
 (lookT (some (T.int .u8 0)) x1 (T.str a0)).bind fun x2 =>
 (T.int? .u8 x2.1).bind fun x3 =>
 (fnO acfg 49 [T.str a0]).bind fun x4 =>
 bif T.scalar x4 then
 (T.bool? x4).bind fun x5 =>
 bif x5 then
  some (T.bool (bNot x2.2))
 else
  some (T.bool false)
 else none) = some r) : fnO acfg 54 [T.str a0] = some r :=
 fo h
def L89_1 (v0 : T) (v1 : List UInt8) (v2 v3 : Int) : Option T := runO acfg (pureFin acfg 89) [.loop 89 none (codeOf acfg 89 [1, 0, 1, 0, 0]), .block 0, .code 89 none (codeOf acfg 89 [1, 1])] ⟨mkTs 19 [(0, V.t v0), (1, V.t (T.str v1)), (7, V.t (T.int .i64 v2)), (8, V.t (T.int .i64 v3))], ⟨4, mkTr []⟩, []⟩
theorem L89_1_step (v0 : T) (v1 : List UInt8) (v2 v3 : Int) (r : T) (h : (
 bif iLt v3 v2 then
  (idxT 1 v0 v3).bind fun x1 =>
  (derefT none x1).bind fun x2 =>
  (T.str? x2).bind fun x3 =>
  bif sEq v1 x3 then
   some (T.int .i64 v3)
  else
   L89_1 v0 v1 v2 (iAdd .i64 v3 1)
 else
  some (T.int .i64 (-1))) = some r) : L89_1 v0 v1 v2 v3 = some r :=
 rd h
theorem fn89 (a0 : T) (a1 : List UInt8) (r : T) (h : (
 (lenT a0).bind fun x1 =>
 L89_1 a0 a1 x1 0) = some r) : fnO acfg 89 [a0, T.str a1] = some r :=
 fo h
theorem fn50 (a0 : T) (a1 : List UInt8) (r : T) (h : (
 (fnO acfg 89 [a0, T.str a1]).bind fun x1 =>
 bif T.scalar x1 then
 (T.int? .i64 x1).bind fun x2 =>
 some (T.bool (iLe 0 x2))
 else none) = some r) : fnO acfg 50 [a0, T.str a1] = some r :=
 fo h
theorem fn47 (a0 a1 : Int) (c0 r : T) (h : (
 bif iLe 0 a1 then
  (derefT none c0).bind fun x1 =>
  (T.int? .i64 x1).bind fun x2 =>
  some (T.bool (iLt a1 x2))
 else
  some (T.bool false)) = some r) : fnO acfg 47 [T.int .i64 a0, T.int .i64 a1, c0] = some r :=
 fo h
theorem fn48 (a0 : Int) (a1 : List UInt8) (c0 r : T) (h : (
 (fnO acfg 49 [T.str a1]).bind fun x1 =>
 bif T.scalar x1 then
 (T.bool? x1).bind fun x2 =>
 bif x2 then
  (fldT 1 none c0).bind fun x3 =>
  (derefT none x3).bind fun x4 =>
  (subT 1 x4 none (some a0) none).bind fun x5 =>
  (fnO acfg 50 [x5, T.str a1]).bind fun x6 =>
  bif T.scalar x6 then
  (T.bool? x6).bind fun x7 =>
  some (T.bool (bNot x7))
  else none
 else
  some (T.bool false)
 else none) = some r) : fnO acfg 48 [T.int .i64 a0, T.str a1, c0] = some r :=
 fo h
theorem fn51 (a0 : Int) (a1 c0 r : T) (h : (
 bif vfits (V.t a1) none then
 (derefT none (T.ptr a1)).bind fun x1 =>
 (derefT none c0).bind fun x2 =>
 (fnO acfg 53 [x1, x2]).bind fun x3 =>
 bif T.scalar x3 then
 (T.bool? x3).bind fun x4 =>
 bif x4 then
  (derefT none (T.ptr a1)).bind fun x5 =>
  (fnO acfg 53 [x5, T.fn (Fn.func 52) [] [T.ptr a1]]).bind fun x6 =>
  bif T.scalar x6 then
  (T.bool? x6).bind fun x7 =>
  some (T.bool x7)
  else none
 else
  some (T.bool false)
 else none
 else none) = some r) : fnO acfg 51 [T.int .i64 a0, a1, c0] = some r :=
 fo h
theorem fn52 (a0 a1 : Int) (c0 r : T) (h : (
 bif iEq a0 0 then
  some (T.bool true)
 else
  (derefT none c0).bind fun x1 =>
  (idxT 1 x1 (iSub .i64 a0 1)).bind fun x2 =>
  (derefT none x2).bind fun x3 =>
  (T.int? .i64 x3).bind fun x4 =>
  some (T.bool (iLt x4 a1))) = some r) : fnO acfg 52 [T.int .i64 a0, T.int .i64 a1, c0] = some r :=
 fo h
def L53_1 (v0 v1 : T) (v2 v3 : Int) : Option T := runO acfg (pureFin acfg 53) [.loop 53 none (codeOf acfg 53 [1, 0, 1, 0, 0]), .block 0, .code 53 none (codeOf acfg 53 [1, 1])] ⟨mkTs 20 [(1, V.t v0), (7, V.t v1), (8, V.t (T.int .i64 v2)), (9, V.t (T.int .i64 v3))], ⟨4, mkTr []⟩, []⟩
theorem L53_1_step (v0 v1 : T) (v2 v3 : Int) (r : T) (h : (
 bif iLt v3 v2 then
  (idxT 1 v1 v3).bind fun x1 =>
  (derefT none x1).bind fun x2 =>
  (T.int? .i64 x2).bind fun x3 =>
  (callT acfg v0 [T.int .i64 v3, T.int .i64 x3]).bind fun x4 =>
  (T.bool? x4).bind fun x5 =>
  bif bNot x5 then
   some (T.bool false)
  else
   L53_1 v0 v1 v2 (iAdd .i64 v3 1)
 else
  some (T.bool true)) = some r) : L53_1 v0 v1 v2 v3 = some r :=
 rd h
theorem fn53 (a0 a1 r : T) (h : (
 (lenT a0).bind fun x1 =>
 L53_1 a1 a0 x1 0) = some r) : fnO acfg 53 [a0, a1] = some r :=
 fo h
def L55_1 (v0 v1 : T) (v2 v3 : Int) : Option T := runO acfg (pureFin acfg 55) [.loop 55 none (codeOf acfg 55 [1, 0, 1, 0, 0]), .block 0, .code 55 none (codeOf acfg 55 [1, 1])] ⟨mkTs 20 [(1, V.t v0), (7, V.t v1), (8, V.t (T.int .i64 v2)), (9, V.t (T.int .i64 v3))], ⟨4, mkTr []⟩, []⟩
theorem L55_1_step (v0 v1 : T) (v2 v3 : Int) (r : T) (h : (
 bif iLt v3 v2 then
  (idxT 1 v1 v3).bind fun x1 =>
  (derefT none x1).bind fun x2 =>
  (T.str? x2).bind fun x3 =>
  (callT acfg v0 [T.int .i64 v3, T.str x3]).bind fun x4 =>
  (T.bool? x4).bind fun x5 =>
  bif bNot x5 then
   some (T.bool false)
  else
   L55_1 v0 v1 v2 (iAdd .i64 v3 1)
 else
  some (T.bool true)) = some r) : L55_1 v0 v1 v2 v3 = some r :=
 rd h
theorem fn55 (a0 a1 r : T) (h : (
 (lenT a0).bind fun x1 =>
 L55_1 a1 a0 x1 0) = some r) : fnO acfg 55 [a0, a1] = some r :=
 fo h
def L56_1 (v0 v1 : T) (v2 v3 : Int) : Option T := runO acfg (pureFin acfg 56) [.loop 56 none (codeOf acfg 56 [1, 0, 1, 0, 0]), .block 0, .code 56 none (codeOf acfg 56 [1, 1])] ⟨mkTs 20 [(1, V.t v0), (7, V.t v1), (8, V.t (T.int .i64 v2)), (9, V.t (T.int .i64 v3))], ⟨4, mkTr []⟩, []⟩
theorem L56_1_step (v0 v1 : T) (v2 v3 : Int) (r : T) (h : (
 bif iLt v3 v2 then
  (idxT 1 v1 v3).bind fun x1 =>
  (derefT none x1).bind fun x2 =>
  (callT acfg v0 [T.int .i64 v3, x2]).bind fun x3 =>
  (T.bool? x3).bind fun x4 =>
  bif bNot x4 then
   some (T.bool false)
  else
   L56_1 v0 v1 v2 (iAdd .i64 v3 1)
 else
  some (T.bool true)) = some r) : L56_1 v0 v1 v2 v3 = some r :=
 rd h
theorem fn56 (a0 a1 r : T) (h : (
 (lenT a0).bind fun x1 =>
 L56_1 a1 a0 x1 0) = some r) : fnO acfg 56 [a0, a1] = some r :=
 fo h
theorem fn16 (p : List UInt8) (q s u r : T) (h : (
 bif (vfits (V.t (tblT p q s u)) (some 4)) then
 (fldT 1 none (T.ptr (tblT p q s u))).bind fun x1 =>
 (derefT none x1).bind fun x2 =>
 (lenT x2).bind fun x3 =>
 bif oneT (T.int .i64 x3) then
 bif (vfits (V.t (T.fn (Fn.func 47) [] [T.ptr (T.int .i64 x3)])) none) then
 bif (oneT (T.fn (Fn.func 47) [] [T.ptr (T.int .i64 x3)])) then
 (fldT 0 none (T.ptr (tblT p q s u))).bind fun x4 =>
 (derefT none x4).bind fun x5 =>
 (T.str? x5).bind fun x6 =>
 (fnO acfg 54 [T.str x6]).bind fun x7 =>
 bif T.scalar x7 then
 (T.bool? x7).bind fun x8 =>
 bif bNot x8 then
  some (T.int .i64 4)
 else
  (derefT none (T.ptr (T.int .i64 x3))).bind fun x9 =>
  (T.int? .i64 x9).bind fun x10 =>
  bif iLt x10 1 then
   some (T.int .i64 4)
  else
   (derefT none (T.ptr (T.int .i64 x3))).bind fun x11 =>
   (T.int? .i64 x11).bind fun x12 =>
   bif iLt 12 x12 then
    some (T.int .i64 4)
   else
    (fldT 2 none (T.ptr (tblT p q s u))).bind fun x13 =>
    (derefT none x13).bind fun x14 =>
    (lenT x14).bind fun x15 =>
    (derefT none (T.ptr (T.int .i64 x3))).bind fun x16 =>
    (T.int? .i64 x16).bind fun x17 =>
    bif bNot (iEq x15 x17) then
     some (T.int .i64 4)
    else
     (fldT 3 none (T.ptr (tblT p q s u))).bind fun x18 =>
     (derefT none x18).bind fun x19 =>
     (lenT x19).bind fun x20 =>
     (derefT none (T.ptr (T.int .i64 x3))).bind fun x21 =>
     (T.int? .i64 x21).bind fun x22 =>
     bif bNot (iEq x20 x22) then
      some (T.int .i64 4)
     else
      (fldT 1 none (T.ptr (tblT p q s u))).bind fun x23 =>
      (derefT none x23).bind fun x24 =>
      (fnO acfg 55 [x24, T.fn (Fn.func 48) [] [T.ptr (tblT p q s u)]]).bind fun x25 =>
      bif T.scalar x25 then
      (T.bool? x25).bind fun x26 =>
      bif bNot x26 then
       some (T.int .i64 4)
      else
       (fldT 2 none (T.ptr (tblT p q s u))).bind fun x27 =>
       (derefT none x27).bind fun x28 =>
       (fnO acfg 56 [x28, T.fn (Fn.func 51) [] [T.ptr (T.fn (Fn.func 47) [] [T.ptr (T.int .i64 x3)])]]).bind fun x29 =>
       bif T.scalar x29 then
       (T.bool? x29).bind fun x30 =>
       bif bNot x30 then
        some (T.int .i64 4)
       else
        some (T.int .i64 0)
       else none
      else none
 else none
 else none
 else none
 else none
 else none) = some r) : fnO acfg 16 [tblT p q s u] = some r :=
 fo h
def L19_1 (v0 : List UInt8) (v1 v2 v3 : T) (v4 v5 : Int) : Option T := runO acfg (pureFin acfg 19) [.loop 19 none (codeOf acfg 19 [1, 1, 1, 0, 1, 0, 0]), .block 0, .code 19 none (codeOf acfg 19 [1, 1, 1, 1])] ⟨mkTs 102 [(1, V.t (T.ptr (tblT v0 v1 v2 v3))), (3, V.t (T.int .i64 v4)), (4, V.t (T.int .i64 v5))], ⟨30, mkTr []⟩, []⟩
def L19_2 (v0 : List UInt8) (v1 v2 v3 : T) (v4 v5 v6 : Int) : Option T := runO acfg (pureFin acfg 19) [.loop 19 none (codeOf acfg 19 [1, 1, 1, 0, 1, 0, 0, 1, 0, 0, 1, 1, 0, 0]), .block 2, .block 1, .code 19 none (codeOf acfg 19 [1, 1, 1, 0, 1, 0, 0, 1, 1]), .round 19 none (codeOf acfg 19 [1, 1, 1, 0, 1, 0, 0]) 30, .block 0, .code 19 none (codeOf acfg 19 [1, 1, 1, 1])] ⟨mkTs 102 [(1, V.t (T.ptr (tblT v0 v1 v2 v3))), (3, V.t (T.int .i64 v4)), (4, V.t (T.int .i64 v5)), (5, V.t (T.int .i64 v6))], ⟨53, mkTr []⟩, []⟩
theorem L19_1_step (v0 : List UInt8) (v1 v2 v3 : T) (v4 v5 : Int) (r : T) (h : (
 bif iLt v5 v4 then
  (fldT 1 none (T.ptr (tblT v0 v1 v2 v3))).bind fun x1 =>
  (derefT none x1).bind fun x2 =>
  (idxT 1 x2 v5).bind fun x3 =>
  (derefT none x3).bind fun x4 =>
  (T.str? x4).bind fun x5 =>
  (fnO acfg 62 [T.str x5]).bind fun x6 =>
  bif T.scalar x6 then
  (T.bool? x6).bind fun x7 =>
  bif bNot x7 then
   some (T.int .i64 4)
  else
   (fldT 1 none (T.ptr (tblT v0 v1 v2 v3))).bind fun x8 =>
   (derefT none x8).bind fun x9 =>
   (fldT 1 none (T.ptr (tblT v0 v1 v2 v3))).bind fun x10 =>
   (derefT none x10).bind fun x11 =>
   (idxT 1 x11 v5).bind fun x12 =>
   (derefT none x12).bind fun x13 =>
   (T.str? x13).bind fun x14 =>
   (fnO acfg 63 [x9, T.str x14]).bind fun x15 =>
   bif T.scalar x15 then
   (T.int? .i64 x15).bind fun x16 =>
   bif bNot (iEq x16 v5) then
    some (T.int .i64 4)
   else
    L19_2 v0 v1 v2 v3 v4 v5 0
   else none
  else none
 else
  some (T.int .i64 0)) = some r) : L19_1 v0 v1 v2 v3 v4 v5 = some r :=
 rd h
theorem L19_2_step (v0 : List UInt8) (v1 v2 v3 : T) (v4 v5 v6 : Int) (r : T) (h : (
 (fldT 2 none (T.ptr (tblT v0 v1 v2 v3))).bind fun x1 =>
 (derefT none x1).bind fun x2 =>
 (idxT 1 x2 v5).bind fun x3 =>
 (derefT none x3).bind fun x4 =>
 (lenT x4).bind fun x5 =>
 bif iLt v6 x5 then
  (fldT 2 none (T.ptr (tblT v0 v1 v2 v3))).bind fun x6 =>
  (derefT none x6).bind fun x7 =>
  (idxT 1 x7 v5).bind fun x8 =>
  (derefT none x8).bind fun x9 =>
  (idxT 1 x9 v6).bind fun x10 =>
  (derefT none x10).bind fun x11 =>
  (T.int? .i64 x11).bind fun x12 =>
  (fnO acfg 61 [T.int .i64 x12, T.int .i64 0, T.int .i64 (iSub .i64 v4 1)]).bind fun x13 =>
  bif T.scalar x13 then
  (T.bool? x13).bind fun x14 =>
  bif bNot x14 then
   some (T.int .i64 4)
  else
   bif iLt 0 v6 then
    (fldT 2 none (T.ptr (tblT v0 v1 v2 v3))).bind fun x15 =>
    (derefT none x15).bind fun x16 =>
    (idxT 1 x16 v5).bind fun x17 =>
    (derefT none x17).bind fun x18 =>
    (idxT 1 x18 v6).bind fun x19 =>
    (derefT none x19).bind fun x20 =>
    (T.int? .i64 x20).bind fun x21 =>
    (fldT 2 none (T.ptr (tblT v0 v1 v2 v3))).bind fun x22 =>
    (derefT none x22).bind fun x23 =>
    (idxT 1 x23 v5).bind fun x24 =>
    (derefT none x24).bind fun x25 =>
    (idxT 1 x25 (iSub .i64 v6 1)).bind fun x26 =>
    (derefT none x26).bind fun x27 =>
    (T.int? .i64 x27).bind fun x28 =>
    bif iLe x21 x28 then
     some (T.int .i64 4)
    else
     L19_2 v0 v1 v2 v3 v4 v5 (iAdd .i64 v6 1)
   else
    L19_2 v0 v1 v2 v3 v4 v5 (iAdd .i64 v6 1)
  else none
 else
  L19_1 v0 v1 v2 v3 v4 (iAdd .i64 v5 1)) = some r) : L19_2 v0 v1 v2 v3 v4 v5 v6 = some r :=
 rd h
theorem fn19 (p : List UInt8) (q s u r : T) (h : (
 bif (vfits (V.t (tblT p q s u)) (some 4)) then
 (fldT 1 none (T.ptr (tblT p q s u))).bind fun x1 =>
 (derefT none x1).bind fun x2 =>
 (lenT x2).bind fun x3 =>
 (fldT 0 none (T.ptr (tblT p q s u))).bind fun x4 =>
 (derefT none x4).bind fun x5 =>
 (T.str? x5).bind fun x6 =>
 (fnO acfg 60 [T.str x6]).bind fun x7 =>
 bif T.scalar x7 then
 (T.bool? x7).bind fun x8 =>
 bif bNot x8 then
  some (T.int .i64 4)
 else
  (fnO acfg 61 [T.int .i64 x3, T.int .i64 1, T.int .i64 12]).bind fun x9 =>
  bif T.scalar x9 then
  (T.bool? x9).bind fun x10 =>
  bif bNot x10 then
   some (T.int .i64 4)
  else
   (fldT 2 none (T.ptr (tblT p q s u))).bind fun x11 =>
   (derefT none x11).bind fun x12 =>
   (lenT x12).bind fun x13 =>
   bif bNot (iEq x13 x3) then
    some (T.int .i64 4)
   else
    (fldT 3 none (T.ptr (tblT p q s u))).bind fun x14 =>
    (derefT none x14).bind fun x15 =>
    (lenT x15).bind fun x16 =>
    bif bNot (iEq x16 x3) then
     some (T.int .i64 4)
    else
     L19_1 p q s u x3 0
  else none
 else none
 else none) = some r) : fnO acfg 19 [tblT p q s u] = some r :=
 fo h
end
end Go.Proofs.Try

namespace Go.Proofs.Try
open Go Go.Apex
set_option maxRecDepth 100000
noncomputable section
def L13_1 (v0 : List UInt8) (v1 v2 v3 : T) (v4 : Int) : Option T := runO acfg (pureFin acfg 13) [.loop 13 none (codeOf acfg 13 [1, 1, 0, 1, 0, 0]), .block 0, .code 13 none (codeOf acfg 13 [1, 1, 1])] ⟨mkTs 55 [(1, V.t (T.ptr (tblT v0 v1 v2 v3))), (3, V.t (T.int .i64 v4))], ⟨25, mkTr []⟩, []⟩
def L13_2 (v0 : List UInt8) (v1 v2 v3 : T) (v4 : Int) : Option T := runO acfg (pureFin acfg 13) [.loop 13 none (codeOf acfg 13 [1, 1, 1, 0, 1, 0, 0]), .block 2, .code 13 none (codeOf acfg 13 [1, 1, 1, 1])] ⟨mkTs 55 [(1, V.t (T.ptr (tblT v0 v1 v2 v3))), (4, V.t (T.int .i64 v4))], ⟨31, mkTr []⟩, []⟩
theorem L13_1_step (v0 : List UInt8) (v1 v2 v3 : T) (v4 : Int) (r : T) (h : (
 (fldT 1 none (T.ptr (tblT v0 v1 v2 v3))).bind fun x1 =>
 (derefT none x1).bind fun x2 =>
 (lenT x2).bind fun x3 =>
 bif iLt v4 x3 then
  (fldT 1 none (T.ptr (tblT v0 v1 v2 v3))).bind fun x4 =>
  (derefT none x4).bind fun x5 =>
  (idxT 1 x5 v4).bind fun x6 =>
  (derefT none x6).bind fun x7 =>
  (T.str? x7).bind fun x8 =>
  bif iLt 30 (sLen x8) then
   some (T.bool false)
  else
   L13_1 v0 v1 v2 v3 (iAdd .i64 v4 1)
 else
  L13_2 v0 v1 v2 v3 0) = some r) : L13_1 v0 v1 v2 v3 v4 = some r :=
 rd h
theorem L13_2_step (v0 : List UInt8) (v1 v2 v3 : T) (v4 : Int) (r : T) (h : (
 (fldT 2 none (T.ptr (tblT v0 v1 v2 v3))).bind fun x1 =>
 (derefT none x1).bind fun x2 =>
 (lenT x2).bind fun x3 =>
 bif iLt v4 x3 then
  (fldT 2 none (T.ptr (tblT v0 v1 v2 v3))).bind fun x4 =>
  (derefT none x4).bind fun x5 =>
  (idxT 1 x5 v4).bind fun x6 =>
  (derefT none x6).bind fun x7 =>
  (lenT x7).bind fun x8 =>
  bif iLt 20 x8 then
   some (T.bool false)
  else
   L13_2 v0 v1 v2 v3 (iAdd .i64 v4 1)
 else
  some (T.bool true)) = some r) : L13_2 v0 v1 v2 v3 v4 = some r :=
 rd h
theorem fn13 (p : List UInt8) (q s u r : T) (h : (
 bif (vfits (V.t (tblT p q s u)) (some 4)) then
 (fldT 1 none (T.ptr (tblT p q s u))).bind fun x1 =>
 (derefT none x1).bind fun x2 =>
 (lenT x2).bind fun x3 =>
 bif iLt 20 x3 then
  some (T.bool false)
 else
  (fldT 2 none (T.ptr (tblT p q s u))).bind fun x4 =>
  (derefT none x4).bind fun x5 =>
  (lenT x5).bind fun x6 =>
  bif iLt 20 x6 then
   some (T.bool false)
  else
   (fldT 3 none (T.ptr (tblT p q s u))).bind fun x7 =>
   (derefT none x7).bind fun x8 =>
   (lenT x8).bind fun x9 =>
   bif iLt 20 x9 then
    some (T.bool false)
   else
    (fldT 0 none (T.ptr (tblT p q s u))).bind fun x10 =>
    (derefT none x10).bind fun x11 =>
    (T.str? x11).bind fun x12 =>
    bif iLt 30 (sLen x12) then
     some (T.bool false)
    else
     L13_1 p q s u 0
 else none) = some r) : fnO acfg 13 [tblT p q s u] = some r :=
 fo h
def L15_1 (v0 : List UInt8) (v1 v2 v3 : T) (v4 : Int) (v5 v6 : List UInt8) (v7 v8 : T) : Option T := runO acfg (pureFin acfg 15) [.loop 15 none (codeOf acfg 15 [1, 1, 0, 1, 0, 0]), .block 0, .code 15 none (codeOf acfg 15 [1, 1, 1])] ⟨mkTs 36 [(1, V.t (T.ptr (tblT v0 v1 v2 v3))), (2, V.ref 1 0 0 (some 4)), (3, V.ref 13 0 0 (some 4)), (4, V.t (T.int .i64 v4))], ⟨16, mkTr [(1, Apex.Obj.cells 0 26 false [V.t (T.str v5), V.t T.nils, V.t T.nils, V.t T.nils]), (13, Apex.Obj.cells 0 26 false [V.t (T.str v6), V.t v7, V.t T.nils, V.t v8])]⟩, []⟩
def L15_2 (v0 : List UInt8) (v1 v2 v3 : T) (v4 : Int) (v5 v6 : List UInt8) (v7 : T) (v8 v9 v10 : Nat) (v11 : T) (v12 : Nat) (v13 : List V) : Option T := runO acfg (pureFin acfg 15) [.loop 15 none (codeOf acfg 15 [1, 1, 0, 1, 0, 0]), .block 0, .code 15 none (codeOf acfg 15 [1, 1, 1])] ⟨mkTs 36 [(1, V.t (T.ptr (tblT v0 v1 v2 v3))), (2, V.ref 1 0 0 (some 4)), (3, V.ref 13 0 0 (some 4)), (4, V.t (T.int .i64 v4))], ⟨32, mkTr [(1, Apex.Obj.cells 0 26 false [V.t (T.str v5), V.t T.nils, V.t T.nils, V.t T.nils]), (13, Apex.Obj.cells 0 26 false [V.t (T.str v6), V.t v7, V.msl 31 v8 v9 v10 none, V.t v11]), (31, Apex.Obj.cells v12 38 false v13)]⟩, []⟩
theorem L15_1_step (v0 : List UInt8) (v1 v2 v3 : T) (v4 : Int) (v5 v6 : List UInt8) (v7 v8 r : T) (h : (
 (fldT 2 none (T.ptr (tblT v0 v1 v2 v3))).bind fun x1 =>
 (derefT none x1).bind fun x2 =>
 (lenT x2).bind fun x3 =>
 bif iLt v4 x3 then
  (fldT 2 none (T.ptr (tblT v0 v1 v2 v3))).bind fun x4 =>
  (derefT none x4).bind fun x5 =>
  (idxT 1 x5 v4).bind fun x6 =>
  (derefT none x6).bind fun x7 =>
  (elemsT none x7).bind fun x8 =>
  (appT none 1 8 (T.sl true 1 []) x8).bind fun x9 =>
  bif vfits (V.t x9) none then
  bif vfits (V.t x9) none then
  (baseT none 1 T.nils).bind fun x10 =>
  bif (newOK (List.length x10) (List.length [V.t x9]) 24) then
  bif (vfits (V.msl 31 1 0 (lenNew x10 [V.t x9]) none) none) then
  bif (objBd 32 (Apex.Obj.cells 1 38 false (rowNew x10 [V.t x9]))) then
  L15_2 v0 v1 v2 v3 (iAdd .i64 v4 1) v5 v6 v7 1 0 (lenNew x10 [V.t x9]) v8 1 (rowNew x10 [V.t x9])
  else none
  else none
  else none
  else none
  else none
 else
  bif (vfits (V.t (T.agg [T.str v6, v7, T.nils, v8])) (some 4)) then
  some (T.agg [T.str v6, v7, T.nils, v8])
  else none) = some r) : L15_1 v0 v1 v2 v3 v4 v5 v6 v7 v8 = some r :=
 rd h
theorem L15_2_step (v0 : List UInt8) (v1 v2 v3 : T) (v4 : Int) (v5 v6 : List UInt8) (v7 : T) (v8 v9 v10 : Nat) (v11 : T) (v12 : Nat) (v13 : List V) (r : T) (h : (
 (fldT 2 none (T.ptr (tblT v0 v1 v2 v3))).bind fun x1 =>
 (derefT none x1).bind fun x2 =>
 (lenT x2).bind fun x3 =>
 bif iLt v4 x3 then
  (fldT 2 none (T.ptr (tblT v0 v1 v2 v3))).bind fun x4 =>
  (derefT none x4).bind fun x5 =>
  (idxT 1 x5 v4).bind fun x6 =>
  (derefT none x6).bind fun x7 =>
  (elemsT none x7).bind fun x8 =>
  (appT none 1 8 (T.sl true 1 []) x8).bind fun x9 =>
  bif vfits (V.t x9) none then
  bif vfits (V.t x9) none then
  bif natEq v12 v8 then
  bif appOK v13 v9 v10 1 [V.t x9] 24 then
  bif (vfits (V.msl 31 (appGen v12 [V.t x9]) (appOff v9 [V.t x9]) (appLen v10 [V.t x9]) none) none) then
  bif (objBd 32 (Apex.Obj.cells (appGen v12 [V.t x9]) 38 false (appCs v13 v9 [V.t x9]))) then
  L15_2 v0 v1 v2 v3 (iAdd .i64 v4 1) v5 v6 v7 (appGen v12 [V.t x9]) 0 (appLen v10 [V.t x9]) v11 (appGen v12 [V.t x9]) (appCs v13 v9 [V.t x9])
  else none
  else none
  else none
  else none
  else none
  else none
 else
  bif (vfits (V.agg [V.t (T.str v6), V.t v7, V.msl 31 v8 v9 v10 none, V.t v11]) (some 4)) then
  bif natEq v12 v8 then
  (rowT none v13 v9 v10).bind fun x10 =>
  some (T.agg [T.str v6, v7, T.sl false 1 x10, v11])
  else none
  else none) = some r) : L15_2 v0 v1 v2 v3 v4 v5 v6 v7 v8 v9 v10 v11 v12 v13 = some r :=
 rdr [31] h
theorem fn15 (p : List UInt8) (q s u r : T) (h : (
 bif (vfits (V.t (tblT p q s u)) (some 4)) then
 (fldT 0 none (T.ptr (tblT p q s u))).bind fun x1 =>
 (derefT none x1).bind fun x2 =>
 (T.str? x2).bind fun x3 =>
 (fldT 1 none (T.ptr (tblT p q s u))).bind fun x4 =>
 (derefT none x4).bind fun x5 =>
 (elemsT none x5).bind fun x6 =>
 (appT none 1 16 (T.sl true 1 []) x6).bind fun x7 =>
 (fldT 3 none (T.ptr (tblT p q s u))).bind fun x8 =>
 (derefT none x8).bind fun x9 =>
 (elemsT none x9).bind fun x10 =>
 (appT none 1 1 (T.sl true 1 []) x10).bind fun x11 =>
 bif vfits (V.t x7) none then
 bif vfits (V.t x11) none then
 bif (vfits (V.t (T.agg [T.str x3, x7, T.nils, x11])) (some 4)) then
 L15_1 p q s u 0 [] x3 x7 x11
 else none
 else none
 else none
 else none) = some r) : fnO acfg 15 [tblT p q s u] = some r :=
 fo h
def L20_1 (v0 : List UInt8) (v1 v2 v3 : T) (v4 : List UInt8) (v5 v6 v7 : T) (v8 : Int) : Option T := runO acfg (pureFin acfg 20) [.loop 20 none (codeOf acfg 20 [1, 1, 0, 1, 0, 0]), .block 0, .code 20 none (codeOf acfg 20 [1, 1, 1])] ⟨mkTs 95 [(2, V.t (T.ptr (tblT v0 v1 v2 v3))), (3, V.t (T.ptr (tblT v4 v5 v6 v7))), (5, V.t (T.int .i64 v8))], ⟨36, mkTr []⟩, []⟩
def L20_2 (v0 : List UInt8) (v1 v2 v3 : T) (v4 : List UInt8) (v5 v6 v7 : T) (v8 : Int) : Option T := runO acfg (pureFin acfg 20) [.loop 20 none (codeOf acfg 20 [1, 1, 1, 0, 1, 0, 0]), .block 2, .code 20 none (codeOf acfg 20 [1, 1, 1, 1])] ⟨mkTs 95 [(2, V.t (T.ptr (tblT v0 v1 v2 v3))), (3, V.t (T.ptr (tblT v4 v5 v6 v7))), (6, V.t (T.int .i64 v8))], ⟨42, mkTr []⟩, []⟩
def L20_3 (v0 : List UInt8) (v1 v2 v3 : T) (v4 : List UInt8) (v5 v6 v7 : T) (v8 : Int) : Option T := runO acfg (pureFin acfg 20) [.loop 20 none (codeOf acfg 20 [1, 1, 1, 1, 0, 1, 0, 0]), .block 4, .code 20 none (codeOf acfg 20 [1, 1, 1, 1, 1])] ⟨mkTs 95 [(2, V.t (T.ptr (tblT v0 v1 v2 v3))), (3, V.t (T.ptr (tblT v4 v5 v6 v7))), (7, V.t (T.int .i64 v8))], ⟨48, mkTr []⟩, []⟩
theorem L20_1_step (v0 : List UInt8) (v1 v2 v3 : T) (v4 : List UInt8) (v5 v6 v7 : T) (v8 : Int) (r : T) (h : (
 (fldT 1 none (T.ptr (tblT v0 v1 v2 v3))).bind fun x1 =>
 (derefT none x1).bind fun x2 =>
 (lenT x2).bind fun x3 =>
 bif iLt v8 x3 then
  (fldT 1 none (T.ptr (tblT v0 v1 v2 v3))).bind fun x4 =>
  (derefT none x4).bind fun x5 =>
  (idxT 1 x5 v8).bind fun x6 =>
  (derefT none x6).bind fun x7 =>
  (T.str? x7).bind fun x8 =>
  (fldT 1 none (T.ptr (tblT v4 v5 v6 v7))).bind fun x9 =>
  (derefT none x9).bind fun x10 =>
  (idxT 1 x10 v8).bind fun x11 =>
  (derefT none x11).bind fun x12 =>
  (T.str? x12).bind fun x13 =>
  bif bNot (sEq x8 x13) then
   some (T.bool false)
  else
   L20_1 v0 v1 v2 v3 v4 v5 v6 v7 (iAdd .i64 v8 1)
 else
  L20_2 v0 v1 v2 v3 v4 v5 v6 v7 0) = some r) : L20_1 v0 v1 v2 v3 v4 v5 v6 v7 v8 = some r :=
 rd h
theorem L20_2_step (v0 : List UInt8) (v1 v2 v3 : T) (v4 : List UInt8) (v5 v6 v7 : T) (v8 : Int) (r : T) (h : (
 (fldT 2 none (T.ptr (tblT v0 v1 v2 v3))).bind fun x1 =>
 (derefT none x1).bind fun x2 =>
 (lenT x2).bind fun x3 =>
 bif iLt v8 x3 then
  (fldT 2 none (T.ptr (tblT v0 v1 v2 v3))).bind fun x4 =>
  (derefT none x4).bind fun x5 =>
  (idxT 1 x5 v8).bind fun x6 =>
  (derefT none x6).bind fun x7 =>
  (fldT 2 none (T.ptr (tblT v4 v5 v6 v7))).bind fun x8 =>
  (derefT none x8).bind fun x9 =>
  (idxT 1 x9 v8).bind fun x10 =>
  (derefT none x10).bind fun x11 =>
  (fnO acfg 31 [x7, x11]).bind fun x12 =>
  bif T.scalar x12 then
  (T.bool? x12).bind fun x13 =>
  bif bNot x13 then
   some (T.bool false)
  else
   L20_2 v0 v1 v2 v3 v4 v5 v6 v7 (iAdd .i64 v8 1)
  else none
 else
  L20_3 v0 v1 v2 v3 v4 v5 v6 v7 0) = some r) : L20_2 v0 v1 v2 v3 v4 v5 v6 v7 v8 = some r :=
 rd h
theorem L20_3_step (v0 : List UInt8) (v1 v2 v3 : T) (v4 : List UInt8) (v5 v6 v7 : T) (v8 : Int) (r : T) (h : (
 (fldT 3 none (T.ptr (tblT v0 v1 v2 v3))).bind fun x1 =>
 (derefT none x1).bind fun x2 =>
 (lenT x2).bind fun x3 =>
 bif iLt v8 x3 then
  (fldT 3 none (T.ptr (tblT v0 v1 v2 v3))).bind fun x4 =>
  (derefT none x4).bind fun x5 =>
  (idxT 1 x5 v8).bind fun x6 =>
  (derefT none x6).bind fun x7 =>
  (T.bool? x7).bind fun x8 =>
  (fldT 3 none (T.ptr (tblT v4 v5 v6 v7))).bind fun x9 =>
  (derefT none x9).bind fun x10 =>
  (idxT 1 x10 v8).bind fun x11 =>
  (derefT none x11).bind fun x12 =>
  (T.bool? x12).bind fun x13 =>
  bif bNot (bEq x8 x13) then
   some (T.bool false)
  else
   L20_3 v0 v1 v2 v3 v4 v5 v6 v7 (iAdd .i64 v8 1)
 else
  some (T.bool true)) = some r) : L20_3 v0 v1 v2 v3 v4 v5 v6 v7 v8 = some r :=
 rd h
theorem fn20 (p : List UInt8) (q s u : T) (a1_0 : List UInt8) (a1_1 a1_2 a1_3 r : T) (h : (
 bif (vfits (V.t (tblT p q s u)) (some 4)) then
 bif (vfits (V.t (tblT a1_0 a1_1 a1_2 a1_3)) (some 4)) then
 (fldT 0 none (T.ptr (tblT p q s u))).bind fun x1 =>
 (derefT none x1).bind fun x2 =>
 (T.str? x2).bind fun x3 =>
 (fldT 0 none (T.ptr (tblT a1_0 a1_1 a1_2 a1_3))).bind fun x4 =>
 (derefT none x4).bind fun x5 =>
 (T.str? x5).bind fun x6 =>
 bif bNot (sEq x3 x6) then
  some (T.bool false)
 else
  (fldT 1 none (T.ptr (tblT p q s u))).bind fun x7 =>
  (derefT none x7).bind fun x8 =>
  (lenT x8).bind fun x9 =>
  (fldT 1 none (T.ptr (tblT a1_0 a1_1 a1_2 a1_3))).bind fun x10 =>
  (derefT none x10).bind fun x11 =>
  (lenT x11).bind fun x12 =>
  bif bNot (iEq x9 x12) then
   some (T.bool false)
  else
   (fldT 2 none (T.ptr (tblT p q s u))).bind fun x13 =>
   (derefT none x13).bind fun x14 =>
   (lenT x14).bind fun x15 =>
   (fldT 2 none (T.ptr (tblT a1_0 a1_1 a1_2 a1_3))).bind fun x16 =>
   (derefT none x16).bind fun x17 =>
   (lenT x17).bind fun x18 =>
   bif bNot (iEq x15 x18) then
    some (T.bool false)
   else
    (fldT 3 none (T.ptr (tblT p q s u))).bind fun x19 =>
    (derefT none x19).bind fun x20 =>
    (lenT x20).bind fun x21 =>
    (fldT 3 none (T.ptr (tblT a1_0 a1_1 a1_2 a1_3))).bind fun x22 =>
    (derefT none x22).bind fun x23 =>
    (lenT x23).bind fun x24 =>
    bif bNot (iEq x21 x24) then
     some (T.bool false)
    else
     L20_1 p q s u a1_0 a1_1 a1_2 a1_3 0
 else none
 else none) = some r) : fnO acfg 20 [tblT p q s u, tblT a1_0 a1_1 a1_2 a1_3] = some r :=
 fo h
def L31_1 (v0 v1 : T) (v2 : Int) : Option T := runO acfg (pureFin acfg 31) [.loop 31 none (codeOf acfg 31 [1, 1, 0, 1, 0, 0]), .block 0, .code 31 none (codeOf acfg 31 [1, 1, 1])] ⟨mkTs 26 [(0, V.t v0), (1, V.t v1), (5, V.t (T.int .i64 v2))], ⟨7, mkTr []⟩, []⟩
theorem L31_1_step (v0 v1 : T) (v2 : Int) (r : T) (h : (
 (lenT v0).bind fun x1 =>
 bif iLt v2 x1 then
  (idxT 1 v0 v2).bind fun x2 =>
  (derefT none x2).bind fun x3 =>
  (T.int? .i64 x3).bind fun x4 =>
  (idxT 1 v1 v2).bind fun x5 =>
  (derefT none x5).bind fun x6 =>
  (T.int? .i64 x6).bind fun x7 =>
  bif bNot (iEq x4 x7) then
   some (T.bool false)
  else
   L31_1 v0 v1 (iAdd .i64 v2 1)
 else
  some (T.bool true)) = some r) : L31_1 v0 v1 v2 = some r :=
 rd h
theorem fn31 (a0 a1 r : T) (h : (
 (lenT a0).bind fun x1 =>
 (lenT a1).bind fun x2 =>
 bif bNot (iEq x1 x2) then
  some (T.bool false)
 else
  L31_1 a0 a1 0) = some r) : fnO acfg 31 [a0, a1] = some r :=
 fo h
theorem fn65 (a0 : T) (a1 a2 : Int) (r : T) (h : (
 bif vfits (V.t a0) none then
 (derefT none (T.ptr a0)).bind fun x1 =>
 (fnO acfg 77 [x1, T.sl true 1 [T.int .i64 a1, T.int .i64 a2]]).bind fun x2 =>
 bif vfits (V.t x2) none then
 bif oneT x2 then
 (derefT none (T.ptr x2)).bind fun x3 =>
 (fnO acfg 103 [x3, T.fn (Fn.func 101) [] [T.ptr x2, T.ptr a0]]).bind fun x4 =>
 bif T.scalar x4 then
 (T.int? .i64 x4).bind fun x5 =>
 bif iLt x5 0 then
  some (T.tup [T.int .i64 0, T.bool false])
 else
  (derefT none (T.ptr x2)).bind fun x6 =>
  (idxT 1 x6 x5).bind fun x7 =>
  (derefT none x7).bind fun x8 =>
  (T.int? .i64 x8).bind fun x9 =>
  some (T.tup [T.int .i64 x9, T.bool true])
 else none
 else none
 else none
 else none) = some r) : fnO acfg 65 [a0, T.int .i64 a1, T.int .i64 a2] = some r :=
 fo h
def L66_1 (v0 : T) (v1 v2 : Int) : Option T := runO acfg (pureFin acfg 66) [.loop 66 none (codeOf acfg 66 [1, 1, 0, 1, 0, 0]), .block 0, .code 66 none (codeOf acfg 66 [1, 1, 1])] ⟨mkTs 25 [(1, V.t v0), (5, V.t T.nils), (12, V.t (T.int .i64 v1)), (13, V.t (T.int .i64 v2))], ⟨9, mkTr []⟩, []⟩
def L66_2 (v0 : T) (v1 v2 v3 : Nat) (v4 v5 : Int) (v6 : Nat) (v7 : List V) : Option T := runO acfg (pureFin acfg 66) [.loop 66 none (codeOf acfg 66 [1, 1, 0, 1, 0, 0]), .block 0, .code 66 none (codeOf acfg 66 [1, 1, 1])] ⟨mkTs 25 [(1, V.t v0), (5, V.msl 18 v1 v2 v3 none), (12, V.t (T.int .i64 v4)), (13, V.t (T.int .i64 v5))], ⟨19, mkTr [(18, Apex.Obj.cells v6 3 false v7)]⟩, []⟩
theorem L66_1_step (v0 : T) (v1 v2 : Int) (r : T) (h : (
 bif iLt v2 v1 then
  (callT acfg v0 [T.int .i64 v2]).bind fun x1 =>
  (T.bool? x1).bind fun x2 =>
  bif x2 then
   (baseT none 1 T.nils).bind fun x3 =>
   bif (newOK (List.length x3) (List.length [V.t (T.int .i64 v2)]) 8) then
   bif (objBd 19 (Apex.Obj.cells 1 3 false (rowNew x3 [V.t (T.int .i64 v2)]))) then
   L66_2 v0 1 0 (lenNew x3 [V.t (T.int .i64 v2)]) v1 (iAdd .i64 v2 1) 1 (rowNew x3 [V.t (T.int .i64 v2)])
   else none
   else none
  else
   L66_1 v0 v1 (iAdd .i64 v2 1)
 else
  some T.nils) = some r) : L66_1 v0 v1 v2 = some r :=
 rd h
theorem L66_2_step (v0 : T) (v1 v2 v3 : Nat) (v4 v5 : Int) (v6 : Nat) (v7 : List V) (r : T) (h : (
 bif iLt v5 v4 then
  (callT acfg v0 [T.int .i64 v5]).bind fun x1 =>
  (T.bool? x1).bind fun x2 =>
  bif x2 then
   bif natEq v6 v1 then
   bif (appOK v7 v2 v3 1 [V.t (T.int .i64 v5)] 8) then
   bif (objBd 19 (Apex.Obj.cells (appGen v6 [V.t (T.int .i64 v5)]) 3 false (appCs v7 v2 [V.t (T.int .i64 v5)]))) then
   L66_2 v0 (appGen v6 [V.t (T.int .i64 v5)]) 0 (appLen v3 [V.t (T.int .i64 v5)]) v4 (iAdd .i64 v5 1) (appGen v6 [V.t (T.int .i64 v5)]) (appCs v7 v2 [V.t (T.int .i64 v5)])
   else none
   else none
   else none
  else
   bif objBd 19 (Apex.Obj.cells v6 3 false v7) then
   L66_2 v0 v1 v2 v3 v4 (iAdd .i64 v5 1) v6 v7
   else none
 else
  bif natEq v6 v1 then
  (rowT none v7 v2 v3).bind fun x3 =>
  some (T.sl false 1 x3)
  else none) = some r) : L66_2 v0 v1 v2 v3 v4 v5 v6 v7 = some r :=
 rdr [18] h
theorem fn66 (a0 a1 r : T) (h : (
 bif isPtrT a0 then
 (fldT 0 (some 4) a0).bind fun x1 =>
 (fldT 1 none x1).bind fun x2 =>
 (derefT none x2).bind fun x3 =>
 (lenT x3).bind fun x4 =>
 L66_1 a1 x4 0
 else none) = some r) : fnO acfg 66 [a0, a1] = some r :=
 fo h
theorem fn70 (a0 : T) (a1 a2 : Int) (r : T) (h : (
 bif iEq a1 a2 then
  some (T.bool true)
 else
  bif isPtrT a0 then
  (fldT 4 none a0).bind fun x1 =>
  (derefT none x1).bind fun x2 =>
  (idxT 1 x2 a1).bind fun x3 =>
  (derefT none x3).bind fun x4 =>
  (idxT 1 x4 a2).bind fun x5 =>
  (derefT none x5).bind fun x6 =>
  (T.bool? x6).bind fun x7 =>
  some (T.bool x7)
  else none) = some r) : fnO acfg 70 [a0, T.int .i64 a1, T.int .i64 a2] = some r :=
 fo h
theorem fn77 (a0 a1 r : T) (h : (
 bif vfits (V.t a0) none then
 bif vfits (V.t a1) none then
 (derefT none (T.ptr a0)).bind fun x1 =>
 (fnO acfg 66 [x1, T.fn (Fn.func 110) [] [T.ptr a1, T.ptr a0]]).bind fun x2 =>
 some x2
 else none
 else none) = some r) : fnO acfg 77 [a0, a1] = some r :=
 fo h
theorem fn79 (p : List UInt8) (q s u : T) (a1 a2 : Int) (r : T) (h : (
 bif (vfits (V.t (tblT p q s u)) (some 4)) then
 bif iEq a1 a2 then
  some (T.bool true)
 else
  (derefT (some 4) (T.ptr (tblT p q s u))).bind fun x1 =>
  (T.agg? (List.length D4) x1).bind fun x2 =>
  (T.str? (nthT x2 0)).bind fun x3 =>
  (fnO acfg 85 [tblT x3 (nthT x2 1) (nthT x2 2) (nthT x2 3), T.int .i64 a1, T.int .i64 a2]).bind fun x4 =>
  bif T.scalar x4 then
  (T.bool? x4).bind fun x5 =>
  some (T.bool x5)
  else none
 else none) = some r) : fnO acfg 79 [tblT p q s u, T.int .i64 a1, T.int .i64 a2] = some r :=
 fo h
theorem fn92 (a0 a1 r : T) (h : (
 (fnO acfg 66 [a0, a1]).bind fun x1 =>
 (lenT x1).bind fun x2 =>
 bif iEq x2 0 then
  some (T.tup [T.int .i64 0, T.bool false])
 else
  (idxT 1 x1 0).bind fun x3 =>
  (derefT none x3).bind fun x4 =>
  (T.int? .i64 x4).bind fun x5 =>
  some (T.tup [T.int .i64 x5, T.bool true])) = some r) : fnO acfg 92 [a0, a1] = some r :=
 fo h
theorem fn93 (a0 : Int) (c0 r : T) (h : (
 (derefT none c0).bind fun x1 =>
 bif isPtrT x1 then
 (fldT 4 none x1).bind fun x2 =>
 (derefT none x2).bind fun x3 =>
 (idxT 1 x3 a0).bind fun x4 =>
 (derefT none x4).bind fun x5 =>
 (idxT 1 x5 a0).bind fun x6 =>
 (derefT none x6).bind fun x7 =>
 (T.bool? x7).bind fun x8 =>
 some (T.bool x8)
 else none) = some r) : fnO acfg 93 [T.int .i64 a0, c0] = some r :=
 fo h
theorem fn94 (a0 : Int) (c0 r : T) (h : (
 (derefT none c0).bind fun x1 =>
 (fnO acfg 70 [x1, T.int .i64 0, T.int .i64 a0]).bind fun x2 =>
 bif T.scalar x2 then
 (T.bool? x2).bind fun x3 =>
 some (T.bool (bNot x3))
 else none) = some r) : fnO acfg 94 [T.int .i64 a0, c0] = some r :=
 fo h
def L99_1 (v0 v1 : T) (v2 : Int) : Option T := runO acfg (pureFin acfg 99) [.loop 99 none (codeOf acfg 99 [1, 0, 1, 0, 0]), .block 0, .code 99 none (codeOf acfg 99 [1, 1])] ⟨mkTs 41 [(0, V.t v0), (1, V.t v1), (5, V.t (T.int .i64 v2))], ⟨2, mkTr []⟩, []⟩
def L99_2 (v0 v1 : T) (v2 : Int) (v3 : Bool) (v4 : Int) : Option T := runO acfg (pureFin acfg 99) [.loop 99 none (codeOf acfg 99 [1, 0, 1, 0, 0, 1, 0, 0, 1, 0, 1, 0, 0]), .block 2, .code 99 none (codeOf acfg 99 [1, 0, 1, 0, 0, 1, 0, 0, 1, 1]), .block 1, .code 99 none (codeOf acfg 99 [1, 0, 1, 0, 0, 1, 1]), .round 99 none (codeOf acfg 99 [1, 0, 1, 0, 0]) 2, .block 0, .code 99 none (codeOf acfg 99 [1, 1])] ⟨mkTs 41 [(0, V.t v0), (1, V.t v1), (5, V.t (T.int .i64 v2)), (6, V.t (T.bool v3)), (7, V.t (T.int .i64 v4))], ⟨8, mkTr []⟩, []⟩
theorem L99_1_step (v0 v1 : T) (v2 : Int) (r : T) (h : (
 (lenT v1).bind fun x1 =>
 bif iLt v2 x1 then
  L99_2 v0 v1 v2 true 0
 else
  some (T.int .i64 (-1))) = some r) : L99_1 v0 v1 v2 = some r :=
 rd h
theorem L99_2_step (v0 v1 : T) (v2 : Int) (v3 : Bool) (v4 : Int) (r : T) (h : (
 (lenT v1).bind fun x1 =>
 bif iLt v4 x1 then
  bif v3 then
   (idxT 1 v1 v2).bind fun x2 =>
   (derefT none x2).bind fun x3 =>
   (T.int? .i64 x3).bind fun x4 =>
   (idxT 1 v0 x4).bind fun x5 =>
   (derefT none x5).bind fun x6 =>
   (idxT 1 v1 v4).bind fun x7 =>
   (derefT none x7).bind fun x8 =>
   (T.int? .i64 x8).bind fun x9 =>
   (idxT 1 x6 x9).bind fun x10 =>
   (derefT none x10).bind fun x11 =>
   (T.bool? x11).bind fun x12 =>
   L99_2 v0 v1 v2 x12 (iAdd .i64 v4 1)
  else
   L99_2 v0 v1 v2 false (iAdd .i64 v4 1)
 else
  bif v3 then
   (idxT 1 v1 v2).bind fun x13 =>
   (derefT none x13).bind fun x14 =>
   (T.int? .i64 x14).bind fun x15 =>
   some (T.int .i64 x15)
  else
   L99_1 v0 v1 (iAdd .i64 v2 1)) = some r) : L99_2 v0 v1 v2 v3 v4 = some r :=
 rd h
theorem fn99 (a0 a1 r : T) (h : (
 L99_1 a0 a1 0) = some r) : fnO acfg 99 [a0, a1] = some r :=
 fo h
def L98_1 (v0 : T) (v1 v2 v3 : Int) : Option T := runO acfg (pureFin acfg 98) [.loop 98 none (codeOf acfg 98 [1, 1, 0, 1, 0, 0]), .block 0, .code 98 none (codeOf acfg 98 [1, 1, 1])] ⟨mkTs 36 [(0, V.t v0), (1, V.t (T.int .i64 v1)), (2, V.t (T.int .i64 v2)), (7, V.t T.nils), (8, V.t (T.int .i64 v3))], ⟨3, mkTr []⟩, []⟩
def L98_2 (v0 : T) (v1 v2 : Int) (v3 v4 v5 : Nat) (v6 : Int) (v7 : Nat) (v8 : List V) : Option T := runO acfg (pureFin acfg 98) [.loop 98 none (codeOf acfg 98 [1, 1, 0, 1, 0, 0]), .block 0, .code 98 none (codeOf acfg 98 [1, 1, 1])] ⟨mkTs 36 [(0, V.t v0), (1, V.t (T.int .i64 v1)), (2, V.t (T.int .i64 v2)), (7, V.msl 26 v3 v4 v5 none), (8, V.t (T.int .i64 v6))], ⟨27, mkTr [(26, Apex.Obj.cells v7 3 false v8)]⟩, []⟩
theorem L98_1_step (v0 : T) (v1 v2 v3 : Int) (r : T) (h : (
 (lenT v0).bind fun x1 =>
 bif iLt v3 x1 then
  (idxT 1 v0 v1).bind fun x2 =>
  (derefT none x2).bind fun x3 =>
  (idxT 1 x3 v3).bind fun x4 =>
  (derefT none x4).bind fun x5 =>
  (T.bool? x5).bind fun x6 =>
  bif x6 then
   (idxT 1 v0 v2).bind fun x7 =>
   (derefT none x7).bind fun x8 =>
   (idxT 1 x8 v3).bind fun x9 =>
   (derefT none x9).bind fun x10 =>
   (T.bool? x10).bind fun x11 =>
   bif x11 then
    (baseT none 1 T.nils).bind fun x12 =>
    bif (newOK (List.length x12) (List.length [V.t (T.int .i64 v3)]) 8) then
    bif (objBd 27 (Apex.Obj.cells 1 3 false (rowNew x12 [V.t (T.int .i64 v3)]))) then
    L98_2 v0 v1 v2 1 0 (lenNew x12 [V.t (T.int .i64 v3)]) (iAdd .i64 v3 1) 1 (rowNew x12 [V.t (T.int .i64 v3)])
    else none
    else none
   else
    L98_1 v0 v1 v2 (iAdd .i64 v3 1)
  else
   L98_1 v0 v1 v2 (iAdd .i64 v3 1)
 else
  some T.nils) = some r) : L98_1 v0 v1 v2 v3 = some r :=
 rd h
theorem L98_2_step (v0 : T) (v1 v2 : Int) (v3 v4 v5 : Nat) (v6 : Int) (v7 : Nat) (v8 : List V) (r : T) (h : (
 (lenT v0).bind fun x1 =>
 bif iLt v6 x1 then
  (idxT 1 v0 v1).bind fun x2 =>
  (derefT none x2).bind fun x3 =>
  (idxT 1 x3 v6).bind fun x4 =>
  (derefT none x4).bind fun x5 =>
  (T.bool? x5).bind fun x6 =>
  bif x6 then
   (idxT 1 v0 v2).bind fun x7 =>
   (derefT none x7).bind fun x8 =>
   (idxT 1 x8 v6).bind fun x9 =>
   (derefT none x9).bind fun x10 =>
   (T.bool? x10).bind fun x11 =>
   bif x11 then
    bif natEq v7 v3 then
    bif (appOK v8 v4 v5 1 [V.t (T.int .i64 v6)] 8) then
    bif (objBd 27 (Apex.Obj.cells (appGen v7 [V.t (T.int .i64 v6)]) 3 false (appCs v8 v4 [V.t (T.int .i64 v6)]))) then
    L98_2 v0 v1 v2 (appGen v7 [V.t (T.int .i64 v6)]) 0 (appLen v5 [V.t (T.int .i64 v6)]) (iAdd .i64 v6 1) (appGen v7 [V.t (T.int .i64 v6)]) (appCs v8 v4 [V.t (T.int .i64 v6)])
    else none
    else none
    else none
   else
    bif objBd 27 (Apex.Obj.cells v7 3 false v8) then
    L98_2 v0 v1 v2 v3 v4 v5 (iAdd .i64 v6 1) v7 v8
    else none
  else
   bif objBd 27 (Apex.Obj.cells v7 3 false v8) then
   L98_2 v0 v1 v2 v3 v4 v5 (iAdd .i64 v6 1) v7 v8
   else none
 else
  bif natEq v7 v3 then
  (rowT none v8 v4 v5).bind fun x12 =>
  some (T.sl false 1 x12)
  else none) = some r) : L98_2 v0 v1 v2 v3 v4 v5 v6 v7 v8 = some r :=
 rdr [26] h
theorem fn98 (a0 : T) (a1 a2 : Int) (r : T) (h : (
 L98_1 a0 a1 a2 0) = some r) : fnO acfg 98 [a0, T.int .i64 a1, T.int .i64 a2] = some r :=
 fo h
theorem fn101 (a0 : Int) (c0 c1 r : T) (h : (
 (derefT none c0).bind fun x1 =>
 (fnO acfg 53 [x1, T.fn (Fn.func 102) [] [c1, T.ptr (T.int .i64 a0)]]).bind fun x2 =>
 bif T.scalar x2 then
 (T.bool? x2).bind fun x3 =>
 some (T.bool x3)
 else none) = some r) : fnO acfg 101 [T.int .i64 a0, c0, c1] = some r :=
 fo h
theorem fn102 (a0 a1 : Int) (c0 c1 r : T) (h : (
 (derefT none c0).bind fun x1 =>
 (derefT none c1).bind fun x2 =>
 (T.int? .i64 x2).bind fun x3 =>
 (fnO acfg 70 [x1, T.int .i64 x3, T.int .i64 a1]).bind fun x4 =>
 bif T.scalar x4 then
 (T.bool? x4).bind fun x5 =>
 some (T.bool x5)
 else none) = some r) : fnO acfg 102 [T.int .i64 a0, T.int .i64 a1, c0, c1] = some r :=
 fo h
def L103_1 (v0 v1 : T) (v2 v3 : Int) : Option T := runO acfg (pureFin acfg 103) [.loop 103 none (codeOf acfg 103 [1, 0, 1, 0, 0]), .block 0, .code 103 none (codeOf acfg 103 [1, 1])] ⟨mkTs 19 [(0, V.t v0), (1, V.t v1), (7, V.t (T.int .i64 v2)), (8, V.t (T.int .i64 v3))], ⟨4, mkTr []⟩, []⟩
theorem L103_1_step (v0 v1 : T) (v2 v3 : Int) (r : T) (h : (
 bif iLt v3 v2 then
  (idxT 1 v0 v3).bind fun x1 =>
  (derefT none x1).bind fun x2 =>
  (T.int? .i64 x2).bind fun x3 =>
  (callT acfg v1 [T.int .i64 x3]).bind fun x4 =>
  (T.bool? x4).bind fun x5 =>
  bif x5 then
   some (T.int .i64 v3)
  else
   L103_1 v0 v1 v2 (iAdd .i64 v3 1)
 else
  some (T.int .i64 (-1))) = some r) : L103_1 v0 v1 v2 v3 = some r :=
 rd h
theorem fn103 (a0 a1 r : T) (h : (
 (lenT a0).bind fun x1 =>
 L103_1 a0 a1 x1 0) = some r) : fnO acfg 103 [a0, a1] = some r :=
 fo h
theorem row108 (a0 r : T) (h : (
 (nilT (D.slice 3) a0).bind fun x1 =>
 bif x1 then
  some (T.tup [T.nilp, T.nils])
 else
  (elemsT none a0).bind fun x2 =>
  bif true then
  bif appOK [] 0 0 1 x2 8 then
  bif (Nat.beq (appGen 0 (x2, false).1) (appGen 0 (x2, false).1)) then
  (allT (appCs [] 0 x2)).bind fun x3 =>
  some (T.tup [T.nili, T.int .i64 3, T.int .i64 (Int.ofNat (appOff 0 x2)), T.int .i64 (Int.ofNat (appLen 0 x2)), T.nils, T.tup x3])
  else none
  else none
  else none) = some r) : rowO acfg 108 [a0] = some r :=
 row_of (n := 3000) (by kernel_rfl) h
theorem fn110 (a0 : Int) (c0 c1 r : T) (h : (
 (derefT none c0).bind fun x1 =>
 (fnO acfg 53 [x1, T.fn (Fn.func 111) [] [c1, T.ptr (T.int .i64 a0)]]).bind fun x2 =>
 bif T.scalar x2 then
 (T.bool? x2).bind fun x3 =>
 some (T.bool x3)
 else none) = some r) : fnO acfg 110 [T.int .i64 a0, c0, c1] = some r :=
 fo h
theorem fn111 (a0 a1 : Int) (c0 c1 r : T) (h : (
 (derefT none c0).bind fun x1 =>
 (derefT none c1).bind fun x2 =>
 (T.int? .i64 x2).bind fun x3 =>
 (fnO acfg 70 [x1, T.int .i64 a1, T.int .i64 x3]).bind fun x4 =>
 bif T.scalar x4 then
 (T.bool? x4).bind fun x5 =>
 some (T.bool x5)
 else none) = some r) : fnO acfg 111 [T.int .i64 a0, T.int .i64 a1, c0, c1] = some r :=
 fo h
end
end Go.Proofs.Try

namespace Go.Proofs.Try
open Go Go.Apex
set_option maxRecDepth 100000
noncomputable section
def L57_1 (v0 v1 : Int) (v2 : List UInt8) (v3 v4 v5 : T) : Option T := runO acfg (pureFin acfg 57) [.loop 57 none (codeOf acfg 57 [1, 1, 1, 0, 1, 0, 0]), .block 0, .code 57 none (codeOf acfg 57 [1, 1, 1, 1])] ⟨mkTs 35 [(5, V.ref 10 0 0 (some 5)), (17, V.t (T.int .i64 v0)), (18, V.t (T.int .i64 v1))], ⟨16, mkTr [(10, Apex.Obj.cells 0 107 false [V.t (T.str v2), V.t v3, V.t v4, V.t v5, V.t T.nils])]⟩, []⟩
def L57_2 (v0 v1 : Int) (v2 : List UInt8) (v3 v4 v5 : T) (v6 v7 v8 v9 : Nat) (v10 : List V) : Option T := runO acfg (pureFin acfg 57) [.loop 57 none (codeOf acfg 57 [1, 1, 1, 0, 1, 0, 0]), .block 0, .code 57 none (codeOf acfg 57 [1, 1, 1, 1])] ⟨mkTs 35 [(5, V.ref 10 0 0 (some 5)), (17, V.t (T.int .i64 v0)), (18, V.t (T.int .i64 v1))], ⟨29, mkTr [(10, Apex.Obj.cells 0 107 false [V.t (T.str v2), V.t v3, V.t v4, V.t v5, V.msl 28 v6 v7 v8 none]), (28, Apex.Obj.cells v9 24 false v10)]⟩, []⟩
theorem L57_1_step (v0 v1 : Int) (v2 : List UInt8) (v3 v4 v5 r : T) (h : (
 bif iLt v1 v0 then
  (callO acfg 91 [T.ptr (T.agg [T.str v2, v3, v4, v5, T.nils]), T.int .i64 v1]).bind fun x1 =>
  bif treeV x1.1 then
   (freshTree false x1).bind fun x2 =>
   bif vfits (V.t x2) none then
   bif vfits (V.t x2) none then
   (baseT none 1 T.nils).bind fun x3 =>
   bif (newOK (List.length x3) (List.length [V.t x2]) 24) then
   bif (vfits (V.msl 28 1 0 (lenNew x3 [V.t x2]) none) none) then
   bif (objBd 29 (Apex.Obj.cells 1 24 false (rowNew x3 [V.t x2]))) then
   L57_2 v0 (iAdd .i64 v1 1) v2 v3 v4 v5 1 0 (lenNew x3 [V.t x2]) 1 (rowNew x3 [V.t x2])
   else none
   else none
   else none
   else none
   else none
  else
   (freshRow false 4 none x1).bind fun x4 =>
   (treeOf none x4.2.2 x4.1 x4.2.1).bind fun x5 =>
   bif vfits (V.t x5) none then
   bif vfits (V.t x5) none then
   (baseT none 1 T.nils).bind fun x6 =>
   bif (newOK (List.length x6) (List.length [V.t x5]) 24) then
   bif (vfits (V.msl 28 1 0 (lenNew x6 [V.t x5]) none) none) then
   bif (objBd 29 (Apex.Obj.cells 1 24 false (rowNew x6 [V.t x5]))) then
   L57_2 v0 (iAdd .i64 v1 1) v2 v3 v4 v5 1 0 (lenNew x6 [V.t x5]) 1 (rowNew x6 [V.t x5])
   else none
   else none
   else none
   else none
   else none
 else
  some (T.tup [T.ptr (T.agg [T.str v2, v3, v4, v5, T.nils]), T.int .i64 0])) = some r) : L57_1 v0 v1 v2 v3 v4 v5 = some r :=
 rd h
theorem L57_2_step (v0 v1 : Int) (v2 : List UInt8) (v3 v4 v5 : T) (v6 v7 v8 v9 : Nat) (v10 : List V) (r : T) (h : (
 bif iLt v1 v0 then
  bif natEq v9 v6 then
  (rowT none v10 v7 v8).bind fun x1 =>
  (callO acfg 91 [T.ptr (T.agg [T.str v2, v3, v4, v5, T.sl false 1 x1]), T.int .i64 v1]).bind fun x2 =>
  bif treeV x2.1 then
   (freshTree false x2).bind fun x3 =>
   bif vfits (V.t x3) none then
   bif vfits (V.t x3) none then
   bif natEq v9 v6 then
   bif appOK v10 v7 v8 1 [V.t x3] 24 then
   bif (vfits (V.msl 28 (appGen v9 [V.t x3]) (appOff v7 [V.t x3]) (appLen v8 [V.t x3]) none) none) then
   bif (objBd 29 (Apex.Obj.cells (appGen v9 [V.t x3]) 24 false (appCs v10 v7 [V.t x3]))) then
   L57_2 v0 (iAdd .i64 v1 1) v2 v3 v4 v5 (appGen v9 [V.t x3]) 0 (appLen v8 [V.t x3]) (appGen v9 [V.t x3]) (appCs v10 v7 [V.t x3])
   else none
   else none
   else none
   else none
   else none
   else none
  else
   (freshRow false 4 none x2).bind fun x4 =>
   (treeOf none x4.2.2 x4.1 x4.2.1).bind fun x5 =>
   bif vfits (V.t x5) none then
   bif vfits (V.t x5) none then
   bif natEq v9 v6 then
   bif appOK v10 v7 v8 1 [V.t x5] 24 then
   bif (vfits (V.msl 28 (appGen v9 [V.t x5]) (appOff v7 [V.t x5]) (appLen v8 [V.t x5]) none) none) then
   bif (objBd 29 (Apex.Obj.cells (appGen v9 [V.t x5]) 24 false (appCs v10 v7 [V.t x5]))) then
   L57_2 v0 (iAdd .i64 v1 1) v2 v3 v4 v5 (appGen v9 [V.t x5]) 0 (appLen v8 [V.t x5]) (appGen v9 [V.t x5]) (appCs v10 v7 [V.t x5])
   else none
   else none
   else none
   else none
   else none
   else none
  else none
 else
  bif natEq v9 v6 then
  (rowT none v10 v7 v8).bind fun x6 =>
  some (T.tup [T.ptr (T.agg [T.str v2, v3, v4, v5, T.sl false 1 x6]), T.int .i64 0])
  else none) = some r) : L57_2 v0 v1 v2 v3 v4 v5 v6 v7 v8 v9 v10 = some r :=
 rdr [28] h
theorem fn57 (p : List UInt8) (q s u r : T) (h : (
 bif (vfits (V.t (tblT p q s u)) (some 4)) then
 (derefT (some 4) (T.ptr (tblT p q s u))).bind fun x1 =>
 (T.agg? (List.length D4) x1).bind fun x2 =>
 (T.str? (nthT x2 0)).bind fun x3 =>
 (fnO acfg 16 [tblT x3 (nthT x2 1) (nthT x2 2) (nthT x2 3)]).bind fun x4 =>
 bif T.scalar x4 then
 (T.int? .i64 x4).bind fun x5 =>
 bif bNot (iEq x5 0) then
  some (T.tup [T.nilp, T.int .i64 x5])
 else
  (derefT (some 4) (T.ptr (tblT p q s u))).bind fun x6 =>
  (T.agg? (List.length D4) x6).bind fun x7 =>
  (T.str? (nthT x7 0)).bind fun x8 =>
  bif (vfits (V.t (tblT x8 (nthT x7 1) (nthT x7 2) (nthT x7 3))) (some 4)) then
  bif (vfits (V.t (T.agg [T.str x8, nthT x7 1, nthT x7 2, nthT x7 3, T.nils])) (some 5)) then
  (fldT 1 none (T.ptr (tblT p q s u))).bind fun x9 =>
  (derefT none x9).bind fun x10 =>
  (lenT x10).bind fun x11 =>
  L57_1 x11 0 x8 (nthT x7 1) (nthT x7 2) (nthT x7 3)
  else none
  else none
 else none
 else none) = some r) : fnO acfg 57 [tblT p q s u] = some r :=
 fo h
def R91_1k (v0 : T) (v1 v2 v3 : Nat) (v4 : T) (v5 : Nat) (v6 : List V) : List Kt := [.loop 91 none (codeOf acfg 91 [1, 1, 0, 1, 0, 0]), .block 0, .code 91 none (codeOf acfg 91 [1, 1, 1])]
def R91_1s (v0 : T) (v1 v2 v3 : Nat) (v4 : T) (v5 : Nat) (v6 : List V) : St := ⟨mkTs 51 [(0, V.t v0), (5, V.msl 7 v1 v2 v3 none), (6, V.t v4)], ⟨19, mkTr [(7, Apex.Obj.cells v5 4 false v6)]⟩, []⟩
def R91_1 (v0 : T) (v1 v2 v3 : Nat) (v4 : T) (v5 : Nat) (v6 : List V) : Option T := runO acfg (pureFin acfg 1091) (R91_1k v0 v1 v2 v3 v4 v5 v6) (R91_1s v0 v1 v2 v3 v4 v5 v6)
def R91_2k (v0 : T) (v1 v2 v3 v4 v5 v6 v7 : Nat) (v8 : List V) (v9 : Nat) (v10 : List V) : List Kt := [.loop 91 none (codeOf acfg 91 [1, 1, 0, 1, 0, 0]), .block 0, .code 91 none (codeOf acfg 91 [1, 1, 1])]
def R91_2s (v0 : T) (v1 v2 v3 v4 v5 v6 v7 : Nat) (v8 : List V) (v9 : Nat) (v10 : List V) : St := ⟨mkTs 51 [(0, V.t v0), (5, V.msl 7 v1 v2 v3 none), (6, V.msl 17 v4 v5 v6 none)], ⟨19, mkTr [(7, Apex.Obj.cells v7 4 false v8), (17, Apex.Obj.cells v9 3 false v10)]⟩, []⟩
def R91_2 (v0 : T) (v1 v2 v3 v4 v5 v6 v7 : Nat) (v8 : List V) (v9 : Nat) (v10 : List V) : Option T := runO acfg (pureFin acfg 1091) (R91_2k v0 v1 v2 v3 v4 v5 v6 v7 v8 v9 v10) (R91_2s v0 v1 v2 v3 v4 v5 v6 v7 v8 v9 v10)
def R91_3k (v0 : T) (v1 v2 v3 v4 v5 v6 v7 : Nat) (v8 : List V) (v9 : Nat) (v10 : List V) : List Kt := [.loop 91 none (codeOf acfg 91 [1, 1, 0, 1, 0, 0]), .block 0, .code 91 none (codeOf acfg 91 [1, 1, 1])]
def R91_3s (v0 : T) (v1 v2 v3 v4 v5 v6 v7 : Nat) (v8 : List V) (v9 : Nat) (v10 : List V) : St := ⟨mkTs 51 [(0, V.t v0), (5, V.msl 7 v1 v2 v3 none), (6, V.msl 47 v4 v5 v6 none)], ⟨48, mkTr [(7, Apex.Obj.cells v7 4 false v8), (47, Apex.Obj.cells v9 3 false v10)]⟩, []⟩
def R91_3 (v0 : T) (v1 v2 v3 v4 v5 v6 v7 : Nat) (v8 : List V) (v9 : Nat) (v10 : List V) : Option T := runO acfg (pureFin acfg 1091) (R91_3k v0 v1 v2 v3 v4 v5 v6 v7 v8 v9 v10) (R91_3s v0 v1 v2 v3 v4 v5 v6 v7 v8 v9 v10)
theorem R91_1_step (v0 : T) (v1 v2 v3 : Nat) (v4 : T) (v5 : Nat) (v6 : List V) (r : T) (h : (
 (lenT v4).bind fun x1 =>
 bif iLt 0 x1 then
  (idxT 1 v4 0).bind fun x2 =>
  (derefT none x2).bind fun x3 =>
  (T.int? .i64 x3).bind fun x4 =>
  (subT 1 v4 (some 1) none none).bind fun x5 =>
  bif rowIn x4 v3 then
  bif natEq v5 v1 then
  (rowS none v6 (rowOff v2 x4 1)).bind fun x6 =>
  (T.bool? x6).bind fun x7 =>
  bif bNot x7 then
   bif rowIn x4 v3 then
   bif natEq v5 v1 then
   bif (rowSetOK v6 (rowOff v2 x4 1) (List.length [V.t (T.bool true)])) then
   bif isPtrT v0 then
   (fldT 0 (some 4) v0).bind fun x8 =>
   (fldT 2 none x8).bind fun x9 =>
   (derefT none x9).bind fun x10 =>
   (idxT 1 x10 x4).bind fun x11 =>
   (derefT none x11).bind fun x12 =>
   (elemsT none x12).bind fun x13 =>
   (baseT none 1 x5).bind fun x14 =>
   bif isNilL x13 then
    bif (objBd 19 (Apex.Obj.cells v5 4 false (rowSet v6 (rowOff v2 x4 1) [V.t (T.bool true)]))) then
    R91_1 v0 v1 v2 v3 x5 v5 (rowSet v6 (rowOff v2 x4 1) [V.t (T.bool true)])
    else none
   else
    bif newOK (List.length x14) (List.length x13) 8 then
    bif (objBd 48 (Apex.Obj.cells v5 4 false (rowSet v6 (rowOff v2 x4 1) [V.t (T.bool true)]))) then
    bif (objBd 48 (Apex.Obj.cells 1 3 false (rowNew x14 x13))) then
    R91_3 v0 v1 v2 v3 1 0 (lenNew x14 x13) v5 (rowSet v6 (rowOff v2 x4 1) [V.t (T.bool true)]) 1 (rowNew x14 x13)
    else none
    else none
    else none
   else none
   else none
   else none
   else none
  else
   bif objBd 19 (Apex.Obj.cells v5 4 false v6) then
   R91_1 v0 v1 v2 v3 x5 v5 v6
   else none
  else none
  else none
 else
  bif Nat.beq v5 v1 then
  (allT v6).bind fun x15 =>
  some (T.tup [T.nili, T.int .i64 4, T.int .i64 (Int.ofNat v2), T.int .i64 (Int.ofNat v3), T.nils, T.tup x15])
  else none) = some r) : R91_1 v0 v1 v2 v3 v4 v5 v6 = some r :=
 rdr [7] h
theorem R91_2_step (v0 : T) (v1 v2 v3 v4 v5 v6 v7 : Nat) (v8 : List V) (v9 : Nat) (v10 : List V) (r : T) (h : (
 bif iLt 0 (nInt v6) then
  bif rowIn 0 v6 then
  bif natEq v9 v4 then
  (rowS none v10 (rowOff v5 0 1)).bind fun x1 =>
  (T.int? .i64 x1).bind fun x2 =>
  bif subOK 1 (Int.ofNat v6) v6 then
  bif rowIn x2 v3 then
  bif natEq v7 v1 then
  (rowS none v8 (rowOff v2 x2 1)).bind fun x3 =>
  (T.bool? x3).bind fun x4 =>
  bif bNot x4 then
   bif rowIn x2 v3 then
   bif natEq v7 v1 then
   bif (rowSetOK v8 (rowOff v2 x2 1) (List.length [V.t (T.bool true)])) then
   bif isPtrT v0 then
   (fldT 0 (some 4) v0).bind fun x5 =>
   (fldT 2 none x5).bind fun x6 =>
   (derefT none x6).bind fun x7 =>
   (idxT 1 x7 x2).bind fun x8 =>
   (derefT none x8).bind fun x9 =>
   (elemsT none x9).bind fun x10 =>
   bif natEq v9 v4 then
   bif (appOK v10 (rowOff v5 1 1) (rowLen 1 (Int.ofNat v6)) 1 x10 8) then
   bif (objBd 19 (Apex.Obj.cells v7 4 false (rowSet v8 (rowOff v2 x2 1) [V.t (T.bool true)]))) then
   bif (objBd 19 (Apex.Obj.cells (appGen v9 x10) 3 false (appCs v10 (rowOff v5 1 1) x10))) then
   R91_2 v0 v1 v2 v3 (appGen v9 x10) (appOff (rowOff v5 1 1) x10) (appLen (rowLen 1 (Int.ofNat v6)) x10) v7 (rowSet v8 (rowOff v2 x2 1) [V.t (T.bool true)]) (appGen v9 x10) (appCs v10 (rowOff v5 1 1) x10)
   else none
   else none
   else none
   else none
   else none
   else none
   else none
   else none
  else
   bif objBd 19 (Apex.Obj.cells v7 4 false v8) then
   bif objBd 19 (Apex.Obj.cells v9 3 false v10) then
   R91_2 v0 v1 v2 v3 v4 (rowOff v5 1 1) (rowLen 1 (Int.ofNat v6)) v7 v8 v9 v10
   else none
   else none
  else none
  else none
  else none
  else none
  else none
 else
  bif Nat.beq v7 v1 then
  (allT v8).bind fun x11 =>
  some (T.tup [T.nili, T.int .i64 4, T.int .i64 (Int.ofNat v2), T.int .i64 (Int.ofNat v3), T.nils, T.tup x11])
  else none) = some r) : R91_2 v0 v1 v2 v3 v4 v5 v6 v7 v8 v9 v10 = some r :=
 rdr [7, 17] h
theorem row91 (a0 : T) (a1 : Int) (r : T) (h : (
 bif isPtrT a0 then
 (fldT 0 (some 4) a0).bind fun x1 =>
 (fldT 1 none x1).bind fun x2 =>
 (derefT none x2).bind fun x3 =>
 (lenT x3).bind fun x4 =>
 bif makeOK x4 x4 1 then
 bif isPtrT a0 then
 (fldT 0 (some 4) a0).bind fun x5 =>
 (fldT 2 none x5).bind fun x6 =>
 (derefT none x6).bind fun x7 =>
 (idxT 1 x7 a1).bind fun x8 =>
 (derefT none x8).bind fun x9 =>
 (callO acfg 108 [x9]).bind fun x10 =>
 bif treeV x10.1 then
  (freshTree true x10).bind fun x11 =>
  bif (objBd 19 (Apex.Obj.cells 0 4 false (zerosV x4 (T.bool false)))) then
  R91_1 a0 0 0 (natOf x4) x11 0 (zerosV x4 (T.bool false))
  else none
 else
  (freshRow true 3 none x10).bind fun x12 =>
  bif (objBd 19 (Apex.Obj.cells 0 4 false (zerosV x4 (T.bool false)))) then
  bif objBd 19 (Apex.Obj.cells 1 3 false x12.2.2) then
  R91_2 a0 0 0 (natOf x4) 1 x12.1 x12.2.1 0 (zerosV x4 (T.bool false)) 1 x12.2.2
  else none
  else none
 else none
 else none
 else none) = some r) : rowO acfg 91 [a0, T.int .i64 a1] = some r :=
 row_of (n := 3000) (by kernel_rfl) h
def L85_1 (v0 : Int) (v1 : List UInt8) (v2 v3 v4 : T) (v5 v6 v7 : Nat) (v8 : T) (v9 : Nat) (v10 : List V) : Option T := runO acfg (pureFin acfg 85) [.loop 85 none (codeOf acfg 85 [1, 1, 1, 0, 0, 0]), .block 0, .code 85 none (codeOf acfg 85 [1, 1, 1, 1])] ⟨mkTs 60 [(2, V.t (T.int .i64 v0)), (3, V.t (T.ptr (tblT v1 v2 v3 v4))), (7, V.msl 5 v5 v6 v7 none), (8, V.t v8)], ⟨10, mkTr [(5, Apex.Obj.cells v9 4 false v10)]⟩, []⟩
def L85_2 (v0 : Int) (v1 : List UInt8) (v2 v3 v4 : T) (v5 v6 v7 : Nat) (v8 v9 : T) (v10 : Int) (v11 : Nat) (v12 : List V) : Option T := runO acfg (pureFin acfg 85) [.loop 85 none (codeOf acfg 85 [1, 1, 1, 0, 0, 0, 1, 0, 1, 1, 1, 0, 0]), .block 2, .block 1, .round 85 none (codeOf acfg 85 [1, 1, 1, 0, 0, 0]) 10, .block 0, .code 85 none (codeOf acfg 85 [1, 1, 1, 1])] ⟨mkTs 60 [(2, V.t (T.int .i64 v0)), (3, V.t (T.ptr (tblT v1 v2 v3 v4))), (7, V.msl 5 v5 v6 v7 none), (8, V.t v8), (9, V.t v9), (10, V.t (T.int .i64 v10))], ⟨25, mkTr [(5, Apex.Obj.cells v11 4 false v12)]⟩, []⟩
def L85_3 (v0 : Int) (v1 : List UInt8) (v2 v3 v4 : T) (v5 v6 v7 v8 v9 v10 : Nat) (v11 : T) (v12 : Int) (v13 : Nat) (v14 : List V) (v15 : Nat) (v16 : List V) : Option T := runO acfg (pureFin acfg 85) [.loop 85 none (codeOf acfg 85 [1, 1, 1, 0, 0, 0, 1, 0, 1, 1, 1, 0, 0]), .block 2, .block 1, .round 85 none (codeOf acfg 85 [1, 1, 1, 0, 0, 0]) 10, .block 0, .code 85 none (codeOf acfg 85 [1, 1, 1, 1])] ⟨mkTs 60 [(2, V.t (T.int .i64 v0)), (3, V.t (T.ptr (tblT v1 v2 v3 v4))), (7, V.msl 5 v5 v6 v7 none), (8, V.msl 50 v8 v9 v10 none), (9, V.t v11), (10, V.t (T.int .i64 v12))], ⟨51, mkTr [(5, Apex.Obj.cells v13 4 false v14), (50, Apex.Obj.cells v15 3 false v16)]⟩, []⟩
def L85_4 (v0 : Int) (v1 : List UInt8) (v2 v3 v4 : T) (v5 v6 v7 v8 v9 v10 v11 : Nat) (v12 : List V) (v13 : Nat) (v14 : List V) : Option T := runO acfg (pureFin acfg 85) [.loop 85 none (codeOf acfg 85 [1, 1, 1, 0, 0, 0]), .block 0, .code 85 none (codeOf acfg 85 [1, 1, 1, 1])] ⟨mkTs 60 [(2, V.t (T.int .i64 v0)), (3, V.t (T.ptr (tblT v1 v2 v3 v4))), (7, V.msl 5 v5 v6 v7 none), (8, V.msl 50 v8 v9 v10 none)], ⟨51, mkTr [(5, Apex.Obj.cells v11 4 false v12), (50, Apex.Obj.cells v13 3 false v14)]⟩, []⟩
def L85_5 (v0 : Int) (v1 : List UInt8) (v2 v3 v4 : T) (v5 v6 v7 v8 v9 v10 : Nat) (v11 : T) (v12 : Int) (v13 : Nat) (v14 : List V) (v15 : Nat) (v16 : List V) : Option T := runO acfg (pureFin acfg 85) [.loop 85 none (codeOf acfg 85 [1, 1, 1, 0, 0, 0, 1, 0, 1, 1, 1, 0, 0]), .block 2, .block 1, .round 85 none (codeOf acfg 85 [1, 1, 1, 0, 0, 0]) 51, .block 0, .code 85 none (codeOf acfg 85 [1, 1, 1, 1])] ⟨mkTs 60 [(2, V.t (T.int .i64 v0)), (3, V.t (T.ptr (tblT v1 v2 v3 v4))), (7, V.msl 5 v5 v6 v7 none), (8, V.msl 50 v8 v9 v10 none), (9, V.t v11), (10, V.t (T.int .i64 v12))], ⟨66, mkTr [(5, Apex.Obj.cells v13 4 false v14), (50, Apex.Obj.cells v15 3 false v16)]⟩, []⟩
theorem L85_1_step (v0 : Int) (v1 : List UInt8) (v2 v3 v4 : T) (v5 v6 v7 : Nat) (v8 : T) (v9 : Nat) (v10 : List V) (r : T) (h : (
 (lenT v8).bind fun x1 =>
 bif iLt 0 x1 then
  (fldT 2 none (T.ptr (tblT v1 v2 v3 v4))).bind fun x2 =>
  (derefT none x2).bind fun x3 =>
  (idxT 1 v8 0).bind fun x4 =>
  (derefT none x4).bind fun x5 =>
  (T.int? .i64 x5).bind fun x6 =>
  (idxT 1 x3 x6).bind fun x7 =>
  (derefT none x7).bind fun x8 =>
  (subT 1 v8 (some 1) none none).bind fun x9 =>
  bif objBd 25 (Apex.Obj.cells v9 4 false v10) then
  L85_2 v0 v1 v2 v3 v4 v5 v6 v7 x9 x8 0 v9 v10
  else none
 else
  bif rowIn v0 v7 then
  bif natEq v9 v5 then
  (rowS none v10 (rowOff v6 v0 1)).bind fun x10 =>
  (T.bool? x10).bind fun x11 =>
  some (T.bool x11)
  else none
  else none) = some r) : L85_1 v0 v1 v2 v3 v4 v5 v6 v7 v8 v9 v10 = some r :=
 rdr [5] h
theorem L85_2_step (v0 : Int) (v1 : List UInt8) (v2 v3 v4 : T) (v5 v6 v7 : Nat) (v8 v9 : T) (v10 : Int) (v11 : Nat) (v12 : List V) (r : T) (h : (
 (lenT v9).bind fun x1 =>
 bif iLt v10 x1 then
  (idxT 1 v9 v10).bind fun x2 =>
  (derefT none x2).bind fun x3 =>
  (T.int? .i64 x3).bind fun x4 =>
  bif rowIn x4 v7 then
  bif natEq v11 v5 then
  (rowS none v12 (rowOff v6 x4 1)).bind fun x5 =>
  (T.bool? x5).bind fun x6 =>
  bif bNot x6 then
   (idxT 1 v9 v10).bind fun x7 =>
   (derefT none x7).bind fun x8 =>
   (T.int? .i64 x8).bind fun x9 =>
   bif rowIn x9 v7 then
   bif natEq v11 v5 then
   bif (rowSetOK v12 (rowOff v6 x9 1) (List.length [V.t (T.bool true)])) then
   (idxT 1 v9 v10).bind fun x10 =>
   (derefT none x10).bind fun x11 =>
   (T.int? .i64 x11).bind fun x12 =>
   (baseT none 1 v8).bind fun x13 =>
   bif (newOK (List.length x13) (List.length [V.t (T.int .i64 x12)]) 8) then
   bif (objBd 51 (Apex.Obj.cells v11 4 false (rowSet v12 (rowOff v6 x9 1) [V.t (T.bool true)]))) then
   bif (objBd 51 (Apex.Obj.cells 1 3 false (rowNew x13 [V.t (T.int .i64 x12)]))) then
   L85_3 v0 v1 v2 v3 v4 v5 v6 v7 1 0 (lenNew x13 [V.t (T.int .i64 x12)]) v9 (iAdd .i64 v10 1) v11 (rowSet v12 (rowOff v6 x9 1) [V.t (T.bool true)]) 1 (rowNew x13 [V.t (T.int .i64 x12)])
   else none
   else none
   else none
   else none
   else none
   else none
  else
   bif objBd 25 (Apex.Obj.cells v11 4 false v12) then
   L85_2 v0 v1 v2 v3 v4 v5 v6 v7 v8 v9 (iAdd .i64 v10 1) v11 v12
   else none
  else none
  else none
 else
  bif objBd 10 (Apex.Obj.cells v11 4 false v12) then
  L85_1 v0 v1 v2 v3 v4 v5 v6 v7 v8 v11 v12
  else none) = some r) : L85_2 v0 v1 v2 v3 v4 v5 v6 v7 v8 v9 v10 v11 v12 = some r :=
 rdr [5] h
theorem L85_3_step (v0 : Int) (v1 : List UInt8) (v2 v3 v4 : T) (v5 v6 v7 v8 v9 v10 : Nat) (v11 : T) (v12 : Int) (v13 : Nat) (v14 : List V) (v15 : Nat) (v16 : List V) (r : T) (h : (
 (lenT v11).bind fun x1 =>
 bif iLt v12 x1 then
  (idxT 1 v11 v12).bind fun x2 =>
  (derefT none x2).bind fun x3 =>
  (T.int? .i64 x3).bind fun x4 =>
  bif rowIn x4 v7 then
  bif natEq v13 v5 then
  (rowS none v14 (rowOff v6 x4 1)).bind fun x5 =>
  (T.bool? x5).bind fun x6 =>
  bif bNot x6 then
   (idxT 1 v11 v12).bind fun x7 =>
   (derefT none x7).bind fun x8 =>
   (T.int? .i64 x8).bind fun x9 =>
   bif rowIn x9 v7 then
   bif natEq v13 v5 then
   bif (rowSetOK v14 (rowOff v6 x9 1) (List.length [V.t (T.bool true)])) then
   (idxT 1 v11 v12).bind fun x10 =>
   (derefT none x10).bind fun x11 =>
   (T.int? .i64 x11).bind fun x12 =>
   bif natEq v15 v8 then
   bif (appOK v16 v9 v10 1 [V.t (T.int .i64 x12)] 8) then
   bif (objBd 51 (Apex.Obj.cells v13 4 false (rowSet v14 (rowOff v6 x9 1) [V.t (T.bool true)]))) then
   bif (objBd 51 (Apex.Obj.cells (appGen v15 [V.t (T.int .i64 x12)]) 3 false (appCs v16 v9 [V.t (T.int .i64 x12)]))) then
   L85_3 v0 v1 v2 v3 v4 v5 v6 v7 (appGen v15 [V.t (T.int .i64 x12)]) 0 (appLen v10 [V.t (T.int .i64 x12)]) v11 (iAdd .i64 v12 1) v13 (rowSet v14 (rowOff v6 x9 1) [V.t (T.bool true)]) (appGen v15 [V.t (T.int .i64 x12)]) (appCs v16 v9 [V.t (T.int .i64 x12)])
   else none
   else none
   else none
   else none
   else none
   else none
   else none
  else
   bif objBd 51 (Apex.Obj.cells v13 4 false v14) then
   bif objBd 51 (Apex.Obj.cells v15 3 false v16) then
   L85_3 v0 v1 v2 v3 v4 v5 v6 v7 v8 v9 v10 v11 (iAdd .i64 v12 1) v13 v14 v15 v16
   else none
   else none
  else none
  else none
 else
  bif objBd 51 (Apex.Obj.cells v13 4 false v14) then
  bif objBd 51 (Apex.Obj.cells v15 3 false v16) then
  L85_4 v0 v1 v2 v3 v4 v5 v6 v7 v8 v9 v10 v13 v14 v15 v16
  else none
  else none) = some r) : L85_3 v0 v1 v2 v3 v4 v5 v6 v7 v8 v9 v10 v11 v12 v13 v14 v15 v16 = some r :=
 rdr [5, 50] h
theorem L85_4_step (v0 : Int) (v1 : List UInt8) (v2 v3 v4 : T) (v5 v6 v7 v8 v9 v10 v11 : Nat) (v12 : List V) (v13 : Nat) (v14 : List V) (r : T) (h : (
 bif iLt 0 (nInt v10) then
  (fldT 2 none (T.ptr (tblT v1 v2 v3 v4))).bind fun x1 =>
  (derefT none x1).bind fun x2 =>
  bif rowIn 0 v10 then
  bif natEq v13 v8 then
  (rowS none v14 (rowOff v9 0 1)).bind fun x3 =>
  (T.int? .i64 x3).bind fun x4 =>
  (idxT 1 x2 x4).bind fun x5 =>
  (derefT none x5).bind fun x6 =>
  bif subOK 1 (Int.ofNat v10) v10 then
  bif objBd 66 (Apex.Obj.cells v11 4 false v12) then
  bif objBd 66 (Apex.Obj.cells v13 3 false v14) then
  L85_5 v0 v1 v2 v3 v4 v5 v6 v7 v8 (rowOff v9 1 1) (rowLen 1 (Int.ofNat v10)) x6 0 v11 v12 v13 v14
  else none
  else none
  else none
  else none
  else none
 else
  bif rowIn v0 v7 then
  bif natEq v11 v5 then
  (rowS none v12 (rowOff v6 v0 1)).bind fun x7 =>
  (T.bool? x7).bind fun x8 =>
  some (T.bool x8)
  else none
  else none) = some r) : L85_4 v0 v1 v2 v3 v4 v5 v6 v7 v8 v9 v10 v11 v12 v13 v14 = some r :=
 rdr [5, 50] h
theorem L85_5_step (v0 : Int) (v1 : List UInt8) (v2 v3 v4 : T) (v5 v6 v7 v8 v9 v10 : Nat) (v11 : T) (v12 : Int) (v13 : Nat) (v14 : List V) (v15 : Nat) (v16 : List V) (r : T) (h : (
 (lenT v11).bind fun x1 =>
 bif iLt v12 x1 then
  (idxT 1 v11 v12).bind fun x2 =>
  (derefT none x2).bind fun x3 =>
  (T.int? .i64 x3).bind fun x4 =>
  bif rowIn x4 v7 then
  bif natEq v13 v5 then
  (rowS none v14 (rowOff v6 x4 1)).bind fun x5 =>
  (T.bool? x5).bind fun x6 =>
  bif bNot x6 then
   (idxT 1 v11 v12).bind fun x7 =>
   (derefT none x7).bind fun x8 =>
   (T.int? .i64 x8).bind fun x9 =>
   bif rowIn x9 v7 then
   bif natEq v13 v5 then
   bif (rowSetOK v14 (rowOff v6 x9 1) (List.length [V.t (T.bool true)])) then
   (idxT 1 v11 v12).bind fun x10 =>
   (derefT none x10).bind fun x11 =>
   (T.int? .i64 x11).bind fun x12 =>
   bif natEq v15 v8 then
   bif (appOK v16 v9 v10 1 [V.t (T.int .i64 x12)] 8) then
   bif (objBd 66 (Apex.Obj.cells v13 4 false (rowSet v14 (rowOff v6 x9 1) [V.t (T.bool true)]))) then
   bif (objBd 66 (Apex.Obj.cells (appGen v15 [V.t (T.int .i64 x12)]) 3 false (appCs v16 v9 [V.t (T.int .i64 x12)]))) then
   L85_5 v0 v1 v2 v3 v4 v5 v6 v7 (appGen v15 [V.t (T.int .i64 x12)]) 0 (appLen v10 [V.t (T.int .i64 x12)]) v11 (iAdd .i64 v12 1) v13 (rowSet v14 (rowOff v6 x9 1) [V.t (T.bool true)]) (appGen v15 [V.t (T.int .i64 x12)]) (appCs v16 v9 [V.t (T.int .i64 x12)])
   else none
   else none
   else none
   else none
   else none
   else none
   else none
  else
   bif objBd 66 (Apex.Obj.cells v13 4 false v14) then
   bif objBd 66 (Apex.Obj.cells v15 3 false v16) then
   L85_5 v0 v1 v2 v3 v4 v5 v6 v7 v8 v9 v10 v11 (iAdd .i64 v12 1) v13 v14 v15 v16
   else none
   else none
  else none
  else none
 else
  bif objBd 51 (Apex.Obj.cells v13 4 false v14) then
  bif objBd 51 (Apex.Obj.cells v15 3 false v16) then
  L85_4 v0 v1 v2 v3 v4 v5 v6 v7 v8 v9 v10 v13 v14 v15 v16
  else none
  else none) = some r) : L85_5 v0 v1 v2 v3 v4 v5 v6 v7 v8 v9 v10 v11 v12 v13 v14 v15 v16 = some r :=
 rdr [5, 50] h
theorem fn85 (p : List UInt8) (q s u : T) (a1 a2 : Int) (r : T) (h : (
 bif (vfits (V.t (tblT p q s u)) (some 4)) then
 (fldT 1 none (T.ptr (tblT p q s u))).bind fun x1 =>
 (derefT none x1).bind fun x2 =>
 (lenT x2).bind fun x3 =>
 bif makeOK x3 x3 1 then
 bif (objBd 10 (Apex.Obj.cells 0 4 false (zerosV x3 (T.bool false)))) then
 L85_1 a2 p q s u 0 0 (natOf x3) (T.sl true 1 [T.int .i64 a1]) 0 (zerosV x3 (T.bool false))
 else none
 else none
 else none) = some r) : fnO acfg 85 [tblT p q s u, T.int .i64 a1, T.int .i64 a2] = some r :=
 fo h
def L97_1 (v0 : List UInt8) (v1 v2 v3 : T) (v4 : Int) : Option T := runO acfg (pureFin acfg 97) [.loop 97 none (codeOf acfg 97 [1, 1, 0, 1, 0, 0]), .block 0, .code 97 none (codeOf acfg 97 [1, 1, 1])] ⟨mkTs 33 [(1, V.t (T.ptr (tblT v0 v1 v2 v3))), (3, V.t T.nils), (4, V.t (T.int .i64 v4))], ⟨4, mkTr []⟩, []⟩
def L97_2 (v0 : List UInt8) (v1 v2 v3 : T) (v4 v5 : Int) : Option T := runO acfg (pureFin acfg 97) [.loop 97 none (codeOf acfg 97 [1, 1, 0, 1, 0, 0, 1, 0, 0, 1, 0, 1, 0, 0]), .block 2, .code 97 none (codeOf acfg 97 [1, 1, 0, 1, 0, 0, 1, 0, 0, 1, 1]), .block 1, .code 97 none (codeOf acfg 97 [1, 1, 0, 1, 0, 0, 1, 1]), .round 97 none (codeOf acfg 97 [1, 1, 0, 1, 0, 0]) 4, .block 0, .code 97 none (codeOf acfg 97 [1, 1, 1])] ⟨mkTs 33 [(1, V.t (T.ptr (tblT v0 v1 v2 v3))), (3, V.t T.nils), (4, V.t (T.int .i64 v4)), (5, V.t T.nils), (6, V.t (T.int .i64 v5))], ⟨11, mkTr []⟩, []⟩
def L97_3 (v0 : List UInt8) (v1 v2 v3 : T) (v4 : Int) (v5 v6 v7 : Nat) (v8 : Int) (v9 : Nat) (v10 : List V) : Option T := runO acfg (pureFin acfg 97) [.loop 97 none (codeOf acfg 97 [1, 1, 0, 1, 0, 0, 1, 0, 0, 1, 0, 1, 0, 0]), .block 2, .code 97 none (codeOf acfg 97 [1, 1, 0, 1, 0, 0, 1, 0, 0, 1, 1]), .block 1, .code 97 none (codeOf acfg 97 [1, 1, 0, 1, 0, 0, 1, 1]), .round 97 none (codeOf acfg 97 [1, 1, 0, 1, 0, 0]) 4, .block 0, .code 97 none (codeOf acfg 97 [1, 1, 1])] ⟨mkTs 33 [(1, V.t (T.ptr (tblT v0 v1 v2 v3))), (3, V.t T.nils), (4, V.t (T.int .i64 v4)), (5, V.msl 22 v5 v6 v7 none), (6, V.t (T.int .i64 v8))], ⟨23, mkTr [(22, Apex.Obj.cells v9 4 false v10)]⟩, []⟩
def L97_4 (v0 : List UInt8) (v1 v2 v3 : T) (v4 v5 v6 : Nat) (v7 : Int) (v8 : Nat) (v9 : List V) : Option T := runO acfg (pureFin acfg 97) [.loop 97 none (codeOf acfg 97 [1, 1, 0, 1, 0, 0]), .block 0, .code 97 none (codeOf acfg 97 [1, 1, 1])] ⟨mkTs 33 [(1, V.t (T.ptr (tblT v0 v1 v2 v3))), (3, V.msl 19 v4 v5 v6 none), (4, V.t (T.int .i64 v7))], ⟨20, mkTr [(19, Apex.Obj.cells v8 24 false v9)]⟩, []⟩
def L97_5 (v0 : List UInt8) (v1 v2 v3 : T) (v4 v5 v6 : Nat) (v7 : Int) (v8 : Nat) (v9 : List V) : Option T := runO acfg (pureFin acfg 97) [.loop 97 none (codeOf acfg 97 [1, 1, 0, 1, 0, 0]), .block 0, .code 97 none (codeOf acfg 97 [1, 1, 1])] ⟨mkTs 33 [(1, V.t (T.ptr (tblT v0 v1 v2 v3))), (3, V.msl 31 v4 v5 v6 none), (4, V.t (T.int .i64 v7))], ⟨32, mkTr [(31, Apex.Obj.cells v8 24 false v9)]⟩, []⟩
def L97_7 (v0 : List UInt8) (v1 v2 v3 : T) (v4 v5 v6 : Nat) (v7 v8 : Int) (v9 : Nat) (v10 : List V) : Option T := runO acfg (pureFin acfg 97) [.loop 97 none (codeOf acfg 97 [1, 1, 0, 1, 0, 0, 1, 0, 0, 1, 0, 1, 0, 0]), .block 2, .code 97 none (codeOf acfg 97 [1, 1, 0, 1, 0, 0, 1, 0, 0, 1, 1]), .block 1, .code 97 none (codeOf acfg 97 [1, 1, 0, 1, 0, 0, 1, 1]), .round 97 none (codeOf acfg 97 [1, 1, 0, 1, 0, 0]) 32, .block 0, .code 97 none (codeOf acfg 97 [1, 1, 1])] ⟨mkTs 33 [(1, V.t (T.ptr (tblT v0 v1 v2 v3))), (3, V.msl 31 v4 v5 v6 none), (4, V.t (T.int .i64 v7)), (5, V.t T.nils), (6, V.t (T.int .i64 v8))], ⟨39, mkTr [(31, Apex.Obj.cells v9 24 false v10)]⟩, []⟩
def L97_9 (v0 : List UInt8) (v1 v2 v3 : T) (v4 v5 v6 : Nat) (v7 : Int) (v8 v9 v10 : Nat) (v11 : Int) (v12 : Nat) (v13 : List V) (v14 : Nat) (v15 : List V) : Option T := runO acfg (pureFin acfg 97) [.loop 97 none (codeOf acfg 97 [1, 1, 0, 1, 0, 0, 1, 0, 0, 1, 0, 1, 0, 0]), .block 2, .code 97 none (codeOf acfg 97 [1, 1, 0, 1, 0, 0, 1, 0, 0, 1, 1]), .block 1, .code 97 none (codeOf acfg 97 [1, 1, 0, 1, 0, 0, 1, 1]), .round 97 none (codeOf acfg 97 [1, 1, 0, 1, 0, 0]) 32, .block 0, .code 97 none (codeOf acfg 97 [1, 1, 1])] ⟨mkTs 33 [(1, V.t (T.ptr (tblT v0 v1 v2 v3))), (3, V.msl 31 v4 v5 v6 none), (4, V.t (T.int .i64 v7)), (5, V.msl 50 v8 v9 v10 none), (6, V.t (T.int .i64 v11))], ⟨51, mkTr [(31, Apex.Obj.cells v12 24 false v13), (50, Apex.Obj.cells v14 4 false v15)]⟩, []⟩
theorem L97_1_step (v0 : List UInt8) (v1 v2 v3 : T) (v4 : Int) (r : T) (h : (
 (fldT 1 none (T.ptr (tblT v0 v1 v2 v3))).bind fun x1 =>
 (derefT none x1).bind fun x2 =>
 (lenT x2).bind fun x3 =>
 bif iLt v4 x3 then
  L97_2 v0 v1 v2 v3 v4 0
 else
  some T.nils) = some r) : L97_1 v0 v1 v2 v3 v4 = some r :=
 rd h
theorem L97_2_step (v0 : List UInt8) (v1 v2 v3 : T) (v4 v5 : Int) (r : T) (h : (
 (fldT 1 none (T.ptr (tblT v0 v1 v2 v3))).bind fun x1 =>
 (derefT none x1).bind fun x2 =>
 (lenT x2).bind fun x3 =>
 bif iLt v5 x3 then
  (derefT (some 4) (T.ptr (tblT v0 v1 v2 v3))).bind fun x4 =>
  (T.agg? (List.length D4) x4).bind fun x5 =>
  (T.str? (nthT x5 0)).bind fun x6 =>
  (fnO acfg 79 [tblT x6 (nthT x5 1) (nthT x5 2) (nthT x5 3), T.int .i64 v4, T.int .i64 v5]).bind fun x7 =>
  bif T.scalar x7 then
  (T.bool? x7).bind fun x8 =>
  (baseT none 1 T.nils).bind fun x9 =>
  bif (newOK (List.length x9) (List.length [V.t (T.bool x8)]) 1) then
  bif (objBd 23 (Apex.Obj.cells 1 4 false (rowNew x9 [V.t (T.bool x8)]))) then
  L97_3 v0 v1 v2 v3 v4 1 0 (lenNew x9 [V.t (T.bool x8)]) (iAdd .i64 v5 1) 1 (rowNew x9 [V.t (T.bool x8)])
  else none
  else none
  else none
 else
  bif vfits (V.t T.nils) none then
  bif vfits (V.t T.nils) none then
  (baseT none 1 T.nils).bind fun x10 =>
  bif (newOK (List.length x10) (List.length [V.t T.nils]) 24) then
  bif (objBd 20 (Apex.Obj.cells 1 24 false (rowNew x10 [V.t T.nils]))) then
  L97_4 v0 v1 v2 v3 1 0 (lenNew x10 [V.t T.nils]) (iAdd .i64 v4 1) 1 (rowNew x10 [V.t T.nils])
  else none
  else none
  else none
  else none) = some r) : L97_2 v0 v1 v2 v3 v4 v5 = some r :=
 rd h
theorem L97_3_step (v0 : List UInt8) (v1 v2 v3 : T) (v4 : Int) (v5 v6 v7 : Nat) (v8 : Int) (v9 : Nat) (v10 : List V) (r : T) (h : (
 (fldT 1 none (T.ptr (tblT v0 v1 v2 v3))).bind fun x1 =>
 (derefT none x1).bind fun x2 =>
 (lenT x2).bind fun x3 =>
 bif iLt v8 x3 then
  (derefT (some 4) (T.ptr (tblT v0 v1 v2 v3))).bind fun x4 =>
  (T.agg? (List.length D4) x4).bind fun x5 =>
  (T.str? (nthT x5 0)).bind fun x6 =>
  (fnO acfg 79 [tblT x6 (nthT x5 1) (nthT x5 2) (nthT x5 3), T.int .i64 v4, T.int .i64 v8]).bind fun x7 =>
  bif T.scalar x7 then
  (T.bool? x7).bind fun x8 =>
  bif natEq v9 v5 then
  bif (appOK v10 v6 v7 1 [V.t (T.bool x8)] 1) then
  bif (objBd 23 (Apex.Obj.cells (appGen v9 [V.t (T.bool x8)]) 4 false (appCs v10 v6 [V.t (T.bool x8)]))) then
  L97_3 v0 v1 v2 v3 v4 (appGen v9 [V.t (T.bool x8)]) 0 (appLen v7 [V.t (T.bool x8)]) (iAdd .i64 v8 1) (appGen v9 [V.t (T.bool x8)]) (appCs v10 v6 [V.t (T.bool x8)])
  else none
  else none
  else none
  else none
 else
  bif natEq v5 v9 then
  (treeOf none v10 v6 v7).bind fun x9 =>
  bif vfits (V.t x9) none then
  bif vfits (V.t x9) none then
  (baseT none 1 T.nils).bind fun x10 =>
  bif (newOK (List.length x10) (List.length [V.t x9]) 24) then
  bif (objBd 32 (Apex.Obj.cells 1 24 false (rowNew x10 [V.t x9]))) then
  L97_5 v0 v1 v2 v3 1 0 (lenNew x10 [V.t x9]) (iAdd .i64 v4 1) 1 (rowNew x10 [V.t x9])
  else none
  else none
  else none
  else none
  else none) = some r) : L97_3 v0 v1 v2 v3 v4 v5 v6 v7 v8 v9 v10 = some r :=
 rdr [22] h
theorem L97_5_step (v0 : List UInt8) (v1 v2 v3 : T) (v4 v5 v6 : Nat) (v7 : Int) (v8 : Nat) (v9 : List V) (r : T) (h : (
 (fldT 1 none (T.ptr (tblT v0 v1 v2 v3))).bind fun x1 =>
 (derefT none x1).bind fun x2 =>
 (lenT x2).bind fun x3 =>
 bif iLt v7 x3 then
  bif objBd 39 (Apex.Obj.cells v8 24 false v9) then
  L97_7 v0 v1 v2 v3 v4 v5 v6 v7 0 v8 v9
  else none
 else
  bif natEq v8 v4 then
  (rowT none v9 v5 v6).bind fun x4 =>
  some (T.sl false 1 x4)
  else none) = some r) : L97_5 v0 v1 v2 v3 v4 v5 v6 v7 v8 v9 = some r :=
 rdr [31] h
theorem L97_7_step (v0 : List UInt8) (v1 v2 v3 : T) (v4 v5 v6 : Nat) (v7 v8 : Int) (v9 : Nat) (v10 : List V) (r : T) (h : (
 (fldT 1 none (T.ptr (tblT v0 v1 v2 v3))).bind fun x1 =>
 (derefT none x1).bind fun x2 =>
 (lenT x2).bind fun x3 =>
 bif iLt v8 x3 then
  (derefT (some 4) (T.ptr (tblT v0 v1 v2 v3))).bind fun x4 =>
  (T.agg? (List.length D4) x4).bind fun x5 =>
  (T.str? (nthT x5 0)).bind fun x6 =>
  (fnO acfg 79 [tblT x6 (nthT x5 1) (nthT x5 2) (nthT x5 3), T.int .i64 v7, T.int .i64 v8]).bind fun x7 =>
  bif T.scalar x7 then
  (T.bool? x7).bind fun x8 =>
  (baseT none 1 T.nils).bind fun x9 =>
  bif (newOK (List.length x9) (List.length [V.t (T.bool x8)]) 1) then
  bif objBd 51 (Apex.Obj.cells v9 24 false v10) then
  bif (objBd 51 (Apex.Obj.cells 1 4 false (rowNew x9 [V.t (T.bool x8)]))) then
  L97_9 v0 v1 v2 v3 v4 v5 v6 v7 1 0 (lenNew x9 [V.t (T.bool x8)]) (iAdd .i64 v8 1) v9 v10 1 (rowNew x9 [V.t (T.bool x8)])
  else none
  else none
  else none
  else none
 else
  bif vfits (V.t T.nils) none then
  bif vfits (V.t T.nils) none then
  bif natEq v9 v4 then
  bif appOK v10 v5 v6 1 [V.t T.nils] 24 then
  bif (objBd 32 (Apex.Obj.cells (appGen v9 [V.t T.nils]) 24 false (appCs v10 v5 [V.t T.nils]))) then
  L97_5 v0 v1 v2 v3 (appGen v9 [V.t T.nils]) 0 (appLen v6 [V.t T.nils]) (iAdd .i64 v7 1) (appGen v9 [V.t T.nils]) (appCs v10 v5 [V.t T.nils])
  else none
  else none
  else none
  else none
  else none) = some r) : L97_7 v0 v1 v2 v3 v4 v5 v6 v7 v8 v9 v10 = some r :=
 rdr [31] h
theorem L97_9_step (v0 : List UInt8) (v1 v2 v3 : T) (v4 v5 v6 : Nat) (v7 : Int) (v8 v9 v10 : Nat) (v11 : Int) (v12 : Nat) (v13 : List V) (v14 : Nat) (v15 : List V) (r : T) (h : (
 (fldT 1 none (T.ptr (tblT v0 v1 v2 v3))).bind fun x1 =>
 (derefT none x1).bind fun x2 =>
 (lenT x2).bind fun x3 =>
 bif iLt v11 x3 then
  (derefT (some 4) (T.ptr (tblT v0 v1 v2 v3))).bind fun x4 =>
  (T.agg? (List.length D4) x4).bind fun x5 =>
  (T.str? (nthT x5 0)).bind fun x6 =>
  (fnO acfg 79 [tblT x6 (nthT x5 1) (nthT x5 2) (nthT x5 3), T.int .i64 v7, T.int .i64 v11]).bind fun x7 =>
  bif T.scalar x7 then
  (T.bool? x7).bind fun x8 =>
  bif natEq v14 v8 then
  bif (appOK v15 v9 v10 1 [V.t (T.bool x8)] 1) then
  bif objBd 51 (Apex.Obj.cells v12 24 false v13) then
  bif (objBd 51 (Apex.Obj.cells (appGen v14 [V.t (T.bool x8)]) 4 false (appCs v15 v9 [V.t (T.bool x8)]))) then
  L97_9 v0 v1 v2 v3 v4 v5 v6 v7 (appGen v14 [V.t (T.bool x8)]) 0 (appLen v10 [V.t (T.bool x8)]) (iAdd .i64 v11 1) v12 v13 (appGen v14 [V.t (T.bool x8)]) (appCs v15 v9 [V.t (T.bool x8)])
  else none
  else none
  else none
  else none
  else none
 else
  bif natEq v8 v14 then
  (treeOf none v15 v9 v10).bind fun x9 =>
  bif vfits (V.t x9) none then
  bif vfits (V.t x9) none then
  bif natEq v12 v4 then
  bif appOK v13 v5 v6 1 [V.t x9] 24 then
  bif (objBd 32 (Apex.Obj.cells (appGen v12 [V.t x9]) 24 false (appCs v13 v5 [V.t x9]))) then
  L97_5 v0 v1 v2 v3 (appGen v12 [V.t x9]) 0 (appLen v6 [V.t x9]) (iAdd .i64 v7 1) (appGen v12 [V.t x9]) (appCs v13 v5 [V.t x9])
  else none
  else none
  else none
  else none
  else none
  else none) = some r) : L97_9 v0 v1 v2 v3 v4 v5 v6 v7 v8 v9 v10 v11 v12 v13 v14 v15 = some r :=
 rdr [31, 50] h
theorem fn97 (p : List UInt8) (q s u r : T) (h : (
 bif (vfits (V.t (tblT p q s u)) (some 4)) then
 L97_1 p q s u 0
 else none) = some r) : fnO acfg 97 [tblT p q s u] = some r :=
 fo h
end
end Go.Proofs.Try

namespace Go.Proofs.Try
open Go Go.Apex
set_option maxRecDepth 100000
noncomputable section
def L58_1 (v0 v1 : T) (v2 : Int) (v3 : Bool) (v4 : Int) (v5 : Bool) (v6 : Int) (v7 : Bool) (v8 v9 : T) (v10 : Int) (v11 : Bool) (v12 : Int) (v13 v14 : Bool) (v15 : Int) (v16 : Bool) (v17 v18 : T) (v19 : Int) (v20 : Bool) (v21 : Int) (v22 v23 : Bool) (v24 v25 v26 : T) (v27 v28 v29 v30 v31 : Int) (v32 : Bool) (v33 v34 : T) (v35 : Int) (v36 : Bool) (v37 : Int) (v38 : Bool) (v39 : Int) (v40 : Bool) (v41 v42 : T) (v43 : Int) (v44 : Bool) (v45 : Int) (v46 v47 : Bool) (v48 : Int) (v49 : Bool) (v50 v51 : T) (v52 : Int) (v53 : Bool) (v54 : Int) (v55 v56 : Bool) (v57 v58 : T) : Option T := runO acfg (pureFin acfg 58) [.loop 95 none (codeOf acfg 95 [1, 0, 0]), .block 0, .over 95 24 (mkTs 64 [(0, V.t v0), (1, V.t v1), (2, V.ref 1 0 0 (some 3)), (3, V.ref 2 0 0 none), (4, V.t (T.int .i64 v2)), (5, V.t (T.bool v3)), (6, V.t (T.int .i64 v4)), (7, V.t (T.bool v5)), (8, V.t (T.tup [])), (9, V.t (T.tup [])), (10, V.t (T.tup [])), (11, V.t (T.tup [])), (12, V.t (T.tup [T.int .i64 v6, T.bool v7])), (13, V.t v8), (14, V.t (T.fn (Fn.func 93) [] [v9])), (15, V.t (T.tup [T.int .i64 v10, T.bool v11])), (16, V.t (T.int .i64 v12)), (17, V.t (T.bool v13)), (18, V.t (T.bool v14)), (19, V.t (T.tup [])), (20, V.t (T.tup [])), (21, V.t (T.tup [T.int .i64 v15, T.bool v16])), (22, V.t v17), (23, V.t (T.fn (Fn.func 94) [] [v18])), (24, V.t (T.tup [T.int .i64 v19, T.bool v20])), (25, V.t (T.int .i64 v21)), (26, V.t (T.bool v22)), (27, V.t (T.bool v23)), (28, V.t (T.tup [])), (29, V.t (T.tup [])), (30, V.t v24), (31, V.t (T.fn (Fn.func 95) [v25] [])), (32, V.t (T.tup [])), (33, V.t (T.tup [])), (34, V.t (T.tup [])), (35, V.t (T.tup [])), (36, V.t (T.tup [])), (37, V.t (T.tup [])), (38, V.t (T.tup [])), (39, V.t (T.tup [])), (40, V.t (T.tup [])), (41, V.t (T.tup [])), (42, V.t (T.tup [])), (43, V.t (T.tup [])), (44, V.t (T.tup [])), (45, V.t (T.tup [])), (46, V.t (T.tup [])), (47, V.t (T.tup [])), (48, V.t (T.tup [])), (49, V.t (T.tup [])), (50, V.t (T.tup [])), (51, V.t (T.tup [])), (52, V.t (T.tup [])), (53, V.t (T.tup [])), (54, V.t (T.tup [])), (55, V.t (T.tup [])), (56, V.t (T.tup [])), (57, V.t (T.tup [])), (58, V.t (T.tup [])), (59, V.t (T.tup [])), (60, V.t (T.tup [])), (61, V.t (T.tup [])), (62, V.t (T.tup [])), (63, V.t (T.tup []))]) [23], .block 0, .code 58 none (codeOf acfg 58 [1, 1, 1, 1])] ⟨mkTs 31 [(0, V.t v26), (1, V.yld 24), (11, V.t (T.int .i64 v27)), (12, V.t (T.int .i64 v28))], ⟨32, mkTr [(1, Apex.Obj.cells 0 33 false [V.t (T.int .u8 v29), V.t (T.int .i64 v30), V.t (T.int .i64 v31)]), (2, Apex.Obj.cells 0 4 false [V.t (T.bool v32)]), (23, Apex.Obj.defer true), (24, Apex.Obj.loop LoopState.ready none 58 (mkTs 64 [(0, V.t v33), (1, V.t v34), (2, V.ref 1 0 0 (some 3)), (3, V.ref 2 0 0 none), (4, V.t (T.int .i64 v35)), (5, V.t (T.bool v36)), (6, V.t (T.int .i64 v37)), (7, V.t (T.bool v38)), (8, V.t (T.tup [])), (9, V.t (T.tup [])), (10, V.t (T.tup [])), (11, V.t (T.tup [])), (12, V.t (T.tup [T.int .i64 v39, T.bool v40])), (13, V.t v41), (14, V.t (T.fn (Fn.func 93) [] [v42])), (15, V.t (T.tup [T.int .i64 v43, T.bool v44])), (16, V.t (T.int .i64 v45)), (17, V.t (T.bool v46)), (18, V.t (T.bool v47)), (19, V.t (T.tup [])), (20, V.t (T.tup [])), (21, V.t (T.tup [T.int .i64 v48, T.bool v49])), (22, V.t v50), (23, V.t (T.fn (Fn.func 94) [] [v51])), (24, V.t (T.tup [T.int .i64 v52, T.bool v53])), (25, V.t (T.int .i64 v54)), (26, V.t (T.bool v55)), (27, V.t (T.bool v56)), (28, V.t (T.tup [])), (29, V.t (T.tup [])), (30, V.t v57), (31, V.t (T.fn (Fn.func 95) [v58] [])), (32, V.t (T.tup [])), (33, V.t (T.tup [])), (34, V.t (T.tup [])), (35, V.t (T.tup [])), (36, V.t (T.tup [])), (37, V.t (T.tup [])), (38, V.t (T.tup [])), (39, V.t (T.tup [])), (40, V.t (T.tup [])), (41, V.t (T.tup [])), (42, V.t (T.tup [])), (43, V.t (T.tup [])), (44, V.t (T.tup [])), (45, V.t (T.tup [])), (46, V.t (T.tup [])), (47, V.t (T.tup [])), (48, V.t (T.tup [])), (49, V.t (T.tup [])), (50, V.t (T.tup [])), (51, V.t (T.tup [])), (52, V.t (T.tup [])), (53, V.t (T.tup [])), (54, V.t (T.tup [])), (55, V.t (T.tup [])), (56, V.t (T.tup [])), (57, V.t (T.tup [])), (58, V.t (T.tup [])), (59, V.t (T.tup [])), (60, V.t (T.tup [])), (61, V.t (T.tup [])), (62, V.t (T.tup [])), (63, V.t (T.tup []))]) [32, 33] (codeOf acfg 58 [1, 1, 1, 0, 1, 0, 0]) (codeOf acfg 58 [1, 1, 1, 0, 1, 0, 1]))]⟩, []⟩
def L58_2 (v0 v1 : T) (v2 : Int) (v3 : Bool) (v4 : Int) (v5 : Bool) (v6 : Int) (v7 : Bool) (v8 v9 : T) (v10 : Int) (v11 : Bool) (v12 : Int) (v13 v14 : Bool) (v15 : Int) (v16 : Bool) (v17 v18 : T) (v19 : Int) (v20 : Bool) (v21 : Int) (v22 v23 : Bool) (v24 v25 v26 : T) (v27 v28 v29 v30 v31 v32 v33 v34 : Int) (v35 : Bool) (v36 v37 : T) (v38 : Int) (v39 : Bool) (v40 : Int) (v41 : Bool) (v42 : Int) (v43 : Bool) (v44 v45 : T) (v46 : Int) (v47 : Bool) (v48 : Int) (v49 v50 : Bool) (v51 : Int) (v52 : Bool) (v53 v54 : T) (v55 : Int) (v56 : Bool) (v57 : Int) (v58 v59 : Bool) (v60 v61 : T) : Option T := runO acfg (pureFin acfg 58) [.loop 95 none (codeOf acfg 95 [1, 0, 0, 1, 1, 0, 0, 1, 1, 0, 0]), .block 2, .block 1, .code 95 none (codeOf acfg 95 [1, 0, 0, 1, 1, 1]), .round 95 none (codeOf acfg 95 [1, 0, 0]) 32, .block 0, .over 95 24 (mkTs 64 [(0, V.t v0), (1, V.t v1), (2, V.ref 1 0 0 (some 3)), (3, V.ref 2 0 0 none), (4, V.t (T.int .i64 v2)), (5, V.t (T.bool v3)), (6, V.t (T.int .i64 v4)), (7, V.t (T.bool v5)), (8, V.t (T.tup [])), (9, V.t (T.tup [])), (10, V.t (T.tup [])), (11, V.t (T.tup [])), (12, V.t (T.tup [T.int .i64 v6, T.bool v7])), (13, V.t v8), (14, V.t (T.fn (Fn.func 93) [] [v9])), (15, V.t (T.tup [T.int .i64 v10, T.bool v11])), (16, V.t (T.int .i64 v12)), (17, V.t (T.bool v13)), (18, V.t (T.bool v14)), (19, V.t (T.tup [])), (20, V.t (T.tup [])), (21, V.t (T.tup [T.int .i64 v15, T.bool v16])), (22, V.t v17), (23, V.t (T.fn (Fn.func 94) [] [v18])), (24, V.t (T.tup [T.int .i64 v19, T.bool v20])), (25, V.t (T.int .i64 v21)), (26, V.t (T.bool v22)), (27, V.t (T.bool v23)), (28, V.t (T.tup [])), (29, V.t (T.tup [])), (30, V.t v24), (31, V.t (T.fn (Fn.func 95) [v25] [])), (32, V.t (T.tup [])), (33, V.t (T.tup [])), (34, V.t (T.tup [])), (35, V.t (T.tup [])), (36, V.t (T.tup [])), (37, V.t (T.tup [])), (38, V.t (T.tup [])), (39, V.t (T.tup [])), (40, V.t (T.tup [])), (41, V.t (T.tup [])), (42, V.t (T.tup [])), (43, V.t (T.tup [])), (44, V.t (T.tup [])), (45, V.t (T.tup [])), (46, V.t (T.tup [])), (47, V.t (T.tup [])), (48, V.t (T.tup [])), (49, V.t (T.tup [])), (50, V.t (T.tup [])), (51, V.t (T.tup [])), (52, V.t (T.tup [])), (53, V.t (T.tup [])), (54, V.t (T.tup [])), (55, V.t (T.tup [])), (56, V.t (T.tup [])), (57, V.t (T.tup [])), (58, V.t (T.tup [])), (59, V.t (T.tup [])), (60, V.t (T.tup [])), (61, V.t (T.tup [])), (62, V.t (T.tup [])), (63, V.t (T.tup []))]) [23], .block 0, .code 58 none (codeOf acfg 58 [1, 1, 1, 1])] ⟨mkTs 31 [(0, V.t v26), (1, V.yld 24), (4, V.t (T.int .i64 v27)), (11, V.t (T.int .i64 v28)), (12, V.t (T.int .i64 v29)), (20, V.t (T.int .i64 v30)), (21, V.t (T.int .i64 v31))], ⟨42, mkTr [(1, Apex.Obj.cells 0 33 false [V.t (T.int .u8 v32), V.t (T.int .i64 v33), V.t (T.int .i64 v34)]), (2, Apex.Obj.cells 0 4 false [V.t (T.bool v35)]), (23, Apex.Obj.defer true), (24, Apex.Obj.loop LoopState.ready none 58 (mkTs 64 [(0, V.t v36), (1, V.t v37), (2, V.ref 1 0 0 (some 3)), (3, V.ref 2 0 0 none), (4, V.t (T.int .i64 v38)), (5, V.t (T.bool v39)), (6, V.t (T.int .i64 v40)), (7, V.t (T.bool v41)), (8, V.t (T.tup [])), (9, V.t (T.tup [])), (10, V.t (T.tup [])), (11, V.t (T.tup [])), (12, V.t (T.tup [T.int .i64 v42, T.bool v43])), (13, V.t v44), (14, V.t (T.fn (Fn.func 93) [] [v45])), (15, V.t (T.tup [T.int .i64 v46, T.bool v47])), (16, V.t (T.int .i64 v48)), (17, V.t (T.bool v49)), (18, V.t (T.bool v50)), (19, V.t (T.tup [])), (20, V.t (T.tup [])), (21, V.t (T.tup [T.int .i64 v51, T.bool v52])), (22, V.t v53), (23, V.t (T.fn (Fn.func 94) [] [v54])), (24, V.t (T.tup [T.int .i64 v55, T.bool v56])), (25, V.t (T.int .i64 v57)), (26, V.t (T.bool v58)), (27, V.t (T.bool v59)), (28, V.t (T.tup [])), (29, V.t (T.tup [])), (30, V.t v60), (31, V.t (T.fn (Fn.func 95) [v61] [])), (32, V.t (T.tup [])), (33, V.t (T.tup [])), (34, V.t (T.tup [])), (35, V.t (T.tup [])), (36, V.t (T.tup [])), (37, V.t (T.tup [])), (38, V.t (T.tup [])), (39, V.t (T.tup [])), (40, V.t (T.tup [])), (41, V.t (T.tup [])), (42, V.t (T.tup [])), (43, V.t (T.tup [])), (44, V.t (T.tup [])), (45, V.t (T.tup [])), (46, V.t (T.tup [])), (47, V.t (T.tup [])), (48, V.t (T.tup [])), (49, V.t (T.tup [])), (50, V.t (T.tup [])), (51, V.t (T.tup [])), (52, V.t (T.tup [])), (53, V.t (T.tup [])), (54, V.t (T.tup [])), (55, V.t (T.tup [])), (56, V.t (T.tup [])), (57, V.t (T.tup [])), (58, V.t (T.tup [])), (59, V.t (T.tup [])), (60, V.t (T.tup [])), (61, V.t (T.tup [])), (62, V.t (T.tup [])), (63, V.t (T.tup []))]) [32, 33] (codeOf acfg 58 [1, 1, 1, 0, 1, 0, 0]) (codeOf acfg 58 [1, 1, 1, 0, 1, 0, 1]))]⟩, []⟩
theorem L58_1_step (v0 v1 : T) (v2 : Int) (v3 : Bool) (v4 : Int) (v5 : Bool) (v6 : Int) (v7 : Bool) (v8 v9 : T) (v10 : Int) (v11 : Bool) (v12 : Int) (v13 v14 : Bool) (v15 : Int) (v16 : Bool) (v17 v18 : T) (v19 : Int) (v20 : Bool) (v21 : Int) (v22 v23 : Bool) (v24 v25 v26 : T) (v27 v28 v29 v30 v31 : Int) (v32 : Bool) (v33 v34 : T) (v35 : Int) (v36 : Bool) (v37 : Int) (v38 : Bool) (v39 : Int) (v40 : Bool) (v41 v42 : T) (v43 : Int) (v44 : Bool) (v45 : Int) (v46 v47 : Bool) (v48 : Int) (v49 : Bool) (v50 v51 : T) (v52 : Int) (v53 : Bool) (v54 : Int) (v55 v56 : Bool) (v57 v58 r : T) (h : (
 bif iLt v28 v27 then
  bif isPtrT v26 then
  (fldT 0 (some 4) v26).bind fun x1 =>
  (fldT 1 none x1).bind fun x2 =>
  (derefT none x2).bind fun x3 =>
  (lenT x3).bind fun x4 =>
  L58_2 v0 v1 v2 v3 v4 v5 v6 v7 v8 v9 v10 v11 v12 v13 v14 v15 v16 v17 v18 v19 v20 v21 v22 v23 v24 v25 v26 v28 v27 v28 x4 0 v29 v30 v31 v32 v33 v34 v35 v36 v37 v38 v39 v40 v41 v42 v43 v44 v45 v46 v47 v48 v49 v50 v51 v52 v53 v54 v55 v56 v57 v58
  else none
 else
  (derefT none v1).bind fun x5 =>
  (fnO acfg 96 [x5]).bind fun x6 =>
  bif T.scalar x6 then
  (T.tup? (List.length [33, 4]) x6).bind fun x7 =>
  (T.agg? (List.length [D.int .u8, D.int .i64, D.int .i64]) (nthT x7 0)).bind fun x8 =>
  (T.int? .u8 (nthT x8 0)).bind fun x9 =>
  (T.int? .i64 (nthT x8 1)).bind fun x10 =>
  (T.int? .i64 (nthT x8 2)).bind fun x11 =>
  (T.bool? (nthT x7 1)).bind fun x12 =>
  bif (vfits (V.t (T.agg [T.int .u8 x9, T.int .i64 x10, T.int .i64 x11])) (some 3)) then
  some (T.tup [T.agg [T.int .u8 x9, T.int .i64 x10, T.int .i64 x11], T.bool x12])
  else none
  else none) = some r) : L58_1 v0 v1 v2 v3 v4 v5 v6 v7 v8 v9 v10 v11 v12 v13 v14 v15 v16 v17 v18 v19 v20 v21 v22 v23 v24 v25 v26 v27 v28 v29 v30 v31 v32 v33 v34 v35 v36 v37 v38 v39 v40 v41 v42 v43 v44 v45 v46 v47 v48 v49 v50 v51 v52 v53 v54 v55 v56 v57 v58 = some r :=
 rd h
theorem L58_2_step (v0 v1 : T) (v2 : Int) (v3 : Bool) (v4 : Int) (v5 : Bool) (v6 : Int) (v7 : Bool) (v8 v9 : T) (v10 : Int) (v11 : Bool) (v12 : Int) (v13 v14 : Bool) (v15 : Int) (v16 : Bool) (v17 v18 : T) (v19 : Int) (v20 : Bool) (v21 : Int) (v22 v23 : Bool) (v24 v25 v26 : T) (v27 v28 v29 v30 v31 v32 v33 v34 : Int) (v35 : Bool) (v36 v37 : T) (v38 : Int) (v39 : Bool) (v40 : Int) (v41 : Bool) (v42 : Int) (v43 : Bool) (v44 v45 : T) (v46 : Int) (v47 : Bool) (v48 : Int) (v49 v50 : Bool) (v51 : Int) (v52 : Bool) (v53 v54 : T) (v55 : Int) (v56 : Bool) (v57 : Int) (v58 v59 : Bool) (v60 v61 r : T) (h : (
 bif iLt v31 v30 then
  (derefT none v37).bind fun x1 =>
  (fnO acfg 65 [x1, T.int .i64 v27, T.int .i64 v31]).bind fun x2 =>
  bif T.scalar x2 then
  (T.tup? (List.length [3, 4]) x2).bind fun x3 =>
  (T.int? .i64 (nthT x3 0)).bind fun x4 =>
  (T.bool? (nthT x3 1)).bind fun x5 =>
  bif x5 then
   L58_2 v0 v1 v2 v3 v4 v5 v6 v7 v8 v9 v10 v11 v12 v13 v14 v15 v16 v17 v18 v19 v20 v21 v22 v23 v24 v25 v26 v27 v28 v29 v30 (iAdd .i64 v31 1) v32 v33 v34 v35 v36 v37 v38 v39 v40 v41 v42 v43 v44 v45 v46 v47 v48 v49 v50 v51 v52 v53 v54 v55 v56 v57 v58 v59 v60 v61
  else
   bif iLe v31 v27 then
    L58_2 v0 v1 v2 v3 v4 v5 v6 v7 v8 v9 v10 v11 v12 v13 v14 v15 v16 v17 v18 v19 v20 v21 v22 v23 v24 v25 v26 v27 v28 v29 v30 (iAdd .i64 v31 1) v32 v33 v34 v35 v36 v37 v38 v39 v40 v41 v42 v43 v44 v45 v46 v47 v48 v49 v50 v51 v52 v53 v54 v55 v56 v57 v58 v59 v60 v61
   else
    (derefT none v37).bind fun x6 =>
    (fnO acfg 77 [x6, T.sl true 1 [T.int .i64 v27, T.int .i64 v31]]).bind fun x7 =>
    (lenT x7).bind fun x8 =>
    bif iEq x8 0 then
     bif (vfits (V.t (T.agg [T.int .u8 3, T.int .i64 v27, T.int .i64 v31])) (some 3)) then
     some (T.tup [T.agg [T.int .u8 3, T.int .i64 v27, T.int .i64 v31], T.bool true])
     else none
    else
     bif (vfits (V.t (T.agg [T.int .u8 4, T.int .i64 v27, T.int .i64 v31])) (some 3)) then
     some (T.tup [T.agg [T.int .u8 4, T.int .i64 v27, T.int .i64 v31], T.bool true])
     else none
  else none
 else
  L58_1 v0 v1 v2 v3 v4 v5 v6 v7 v8 v9 v10 v11 v12 v13 v14 v15 v16 v17 v18 v19 v20 v21 v22 v23 v24 v25 v26 v28 (iAdd .i64 v29 1) v32 v33 v34 v35 v36 v37 v38 v39 v40 v41 v42 v43 v44 v45 v46 v47 v48 v49 v50 v51 v52 v53 v54 v55 v56 v57 v58 v59 v60 v61) = some r) : L58_2 v0 v1 v2 v3 v4 v5 v6 v7 v8 v9 v10 v11 v12 v13 v14 v15 v16 v17 v18 v19 v20 v21 v22 v23 v24 v25 v26 v27 v28 v29 v30 v31 v32 v33 v34 v35 v36 v37 v38 v39 v40 v41 v42 v43 v44 v45 v46 v47 v48 v49 v50 v51 v52 v53 v54 v55 v56 v57 v58 v59 v60 v61 = some r :=
 rd h
theorem fn58 (a0 r : T) (h : (
 bif vfits (V.t a0) none then
 (derefT none (T.ptr a0)).bind fun x1 =>
 (fnO acfg 92 [x1, T.fn (Fn.func 93) [] [T.ptr a0]]).bind fun x2 =>
 bif T.scalar x2 then
 (T.tup? (List.length [3, 4]) x2).bind fun x3 =>
 (T.int? .i64 (nthT x3 0)).bind fun x4 =>
 (T.bool? (nthT x3 1)).bind fun x5 =>
 bif x5 then
  bif (vfits (V.t (T.agg [T.int .u8 1, T.int .i64 x4, T.int .i64 0])) (some 3)) then
  some (T.tup [T.agg [T.int .u8 1, T.int .i64 x4, T.int .i64 0], T.bool true])
  else none
 else
  (derefT none (T.ptr a0)).bind fun x6 =>
  (fnO acfg 92 [x6, T.fn (Fn.func 94) [] [T.ptr a0]]).bind fun x7 =>
  bif T.scalar x7 then
  (T.tup? (List.length [3, 4]) x7).bind fun x8 =>
  (T.int? .i64 (nthT x8 0)).bind fun x9 =>
  (T.bool? (nthT x8 1)).bind fun x10 =>
  bif x10 then
   bif (vfits (V.t (T.agg [T.int .u8 2, T.int .i64 x9, T.int .i64 0])) (some 3)) then
   some (T.tup [T.agg [T.int .u8 2, T.int .i64 x9, T.int .i64 0], T.bool true])
   else none
  else
   (derefT none (T.ptr a0)).bind fun x11 =>
   bif isPtrT x11 then
   (fldT 0 (some 4) x11).bind fun x12 =>
   (fldT 1 none x12).bind fun x13 =>
   (derefT none x13).bind fun x14 =>
   (lenT x14).bind fun x15 =>
   L58_1 a0 (T.ptr a0) x4 x5 x9 x10 x4 x5 x1 (T.ptr a0) x4 x5 x4 x5 x5 x9 x10 x6 (T.ptr a0) x9 x10 x9 x10 x10 x11 x11 x11 x15 0 0 0 0 false a0 (T.ptr a0) x4 x5 x9 x10 x4 x5 x1 (T.ptr a0) x4 x5 x4 x5 x5 x9 x10 x6 (T.ptr a0) x9 x10 x9 x10 x10 x11 x11
   else none
  else none
 else none
 else none) = some r) : fnO acfg 58 [a0] = some r :=
 fo h
def L59_1 (v0 : List UInt8) (v1 v2 v3 : T) (v4 : Int) (v5 : T) (v6 v7 v8 v9 : Int) : Option T := runO acfg (pureFin acfg 59) [.loop 59 none (codeOf acfg 59 [1, 1, 0, 1, 0, 0]), .block 0, .code 59 none (codeOf acfg 59 [1, 1, 1])] ⟨mkTs 112 [(1, V.t (T.ptr (tblT v0 v1 v2 v3))), (2, V.ref 1 0 0 (some 3)), (3, V.t (T.int .i64 v4)), (4, V.t v5), (5, V.t (T.int .i64 v6))], ⟨10, mkTr [(1, Apex.Obj.cells 0 33 false [V.t (T.int .u8 v7), V.t (T.int .i64 v8), V.t (T.int .i64 v9)])]⟩, []⟩
def L59_2 (v0 : List UInt8) (v1 v2 v3 : T) (v4 : Int) (v5 : T) (v6 v7 v8 v9 : Int) : Option T := runO acfg (pureFin acfg 59) [.loop 59 none (codeOf acfg 59 [1, 1, 1, 0, 1, 0, 0]), .block 2, .code 59 none (codeOf acfg 59 [1, 1, 1, 1])] ⟨mkTs 112 [(1, V.t (T.ptr (tblT v0 v1 v2 v3))), (2, V.ref 1 0 0 (some 3)), (3, V.t (T.int .i64 v4)), (4, V.t v5), (6, V.t (T.int .i64 v6))], ⟨14, mkTr [(1, Apex.Obj.cells 0 33 false [V.t (T.int .u8 v7), V.t (T.int .i64 v8), V.t (T.int .i64 v9)])]⟩, []⟩
def L59_3 (v0 : List UInt8) (v1 v2 v3 : T) (v4 : Int) (v5 : T) (v6 v7 v8 v9 : Int) : Option T := runO acfg (pureFin acfg 59) [.loop 59 none (codeOf acfg 59 [1, 1, 1, 1, 0, 1, 0, 0]), .block 4, .code 59 none (codeOf acfg 59 [1, 1, 1, 1, 1])] ⟨mkTs 112 [(1, V.t (T.ptr (tblT v0 v1 v2 v3))), (2, V.ref 1 0 0 (some 3)), (3, V.t (T.int .i64 v4)), (4, V.t v5), (7, V.t (T.int .i64 v6))], ⟨18, mkTr [(1, Apex.Obj.cells 0 33 false [V.t (T.int .u8 v7), V.t (T.int .i64 v8), V.t (T.int .i64 v9)])]⟩, []⟩
def L59_4 (v0 : List UInt8) (v1 v2 v3 : T) (v4 : Int) (v5 : T) (v6 v7 v8 v9 v10 : Int) : Option T := runO acfg (pureFin acfg 59) [.loop 59 none (codeOf acfg 59 [1, 1, 1, 1, 0, 1, 0, 0, 1, 0, 0, 1, 0, 0]), .block 6, .block 5, .code 59 none (codeOf acfg 59 [1, 1, 1, 1, 0, 1, 0, 0, 1, 1]), .round 59 none (codeOf acfg 59 [1, 1, 1, 1, 0, 1, 0, 0]) 18, .block 4, .code 59 none (codeOf acfg 59 [1, 1, 1, 1, 1])] ⟨mkTs 112 [(1, V.t (T.ptr (tblT v0 v1 v2 v3))), (2, V.ref 1 0 0 (some 3)), (3, V.t (T.int .i64 v4)), (4, V.t v5), (7, V.t (T.int .i64 v6)), (8, V.t (T.int .i64 v7))], ⟨24, mkTr [(1, Apex.Obj.cells 0 33 false [V.t (T.int .u8 v8), V.t (T.int .i64 v9), V.t (T.int .i64 v10)])]⟩, []⟩
def L59_5 (v0 : List UInt8) (v1 v2 v3 : T) (v4 : Int) (v5 : T) (v6 v7 v8 v9 : Int) : Option T := runO acfg (pureFin acfg 59) [.loop 59 none (codeOf acfg 59 [1, 1, 1, 1, 1, 1, 0, 1, 0, 0]), .block 8, .code 59 none (codeOf acfg 59 [1, 1, 1, 1, 1, 1, 1])] ⟨mkTs 112 [(1, V.t (T.ptr (tblT v0 v1 v2 v3))), (2, V.ref 1 0 0 (some 3)), (3, V.t (T.int .i64 v4)), (4, V.t v5), (10, V.t (T.int .i64 v6))], ⟨26, mkTr [(1, Apex.Obj.cells 0 33 false [V.t (T.int .u8 v7), V.t (T.int .i64 v8), V.t (T.int .i64 v9)])]⟩, []⟩
def L59_6 (v0 : List UInt8) (v1 v2 v3 : T) (v4 : Int) (v5 : T) (v6 v7 v8 v9 v10 : Int) : Option T := runO acfg (pureFin acfg 59) [.loop 59 none (codeOf acfg 59 [1, 1, 1, 1, 1, 1, 0, 1, 0, 0, 1, 0, 0, 1, 0, 0]), .block 10, .block 9, .code 59 none (codeOf acfg 59 [1, 1, 1, 1, 1, 1, 0, 1, 0, 0, 1, 1]), .round 59 none (codeOf acfg 59 [1, 1, 1, 1, 1, 1, 0, 1, 0, 0]) 26, .block 8, .code 59 none (codeOf acfg 59 [1, 1, 1, 1, 1, 1, 1])] ⟨mkTs 112 [(1, V.t (T.ptr (tblT v0 v1 v2 v3))), (2, V.ref 1 0 0 (some 3)), (3, V.t (T.int .i64 v4)), (4, V.t v5), (10, V.t (T.int .i64 v6)), (11, V.t (T.int .i64 v7))], ⟨30, mkTr [(1, Apex.Obj.cells 0 33 false [V.t (T.int .u8 v8), V.t (T.int .i64 v9), V.t (T.int .i64 v10)])]⟩, []⟩
theorem L59_1_step (v0 : List UInt8) (v1 v2 v3 : T) (v4 : Int) (v5 : T) (v6 v7 v8 v9 : Int) (r : T) (h : (
 bif iLt v6 v4 then
  (derefT (some 4) (T.ptr (tblT v0 v1 v2 v3))).bind fun x1 =>
  (T.agg? (List.length D4) x1).bind fun x2 =>
  (T.str? (nthT x2 0)).bind fun x3 =>
  (fnO acfg 85 [tblT x3 (nthT x2 1) (nthT x2 2) (nthT x2 3), T.int .i64 v6, T.int .i64 v6]).bind fun x4 =>
  bif T.scalar x4 then
  (T.bool? x4).bind fun x5 =>
  bif x5 then
   bif (vfits (V.t (T.agg [T.int .u8 1, T.int .i64 v6, T.int .i64 0])) (some 3)) then
   some (T.agg [T.int .u8 1, T.int .i64 v6, T.int .i64 0])
   else none
  else
   L59_1 v0 v1 v2 v3 v4 v5 (iAdd .i64 v6 1) v7 v8 v9
  else none
 else
  L59_2 v0 v1 v2 v3 v4 v5 0 v7 v8 v9) = some r) : L59_1 v0 v1 v2 v3 v4 v5 v6 v7 v8 v9 = some r :=
 rd h
theorem L59_2_step (v0 : List UInt8) (v1 v2 v3 : T) (v4 : Int) (v5 : T) (v6 v7 v8 v9 : Int) (r : T) (h : (
 bif iLt v6 v4 then
  (idxT 1 v5 0).bind fun x1 =>
  (derefT none x1).bind fun x2 =>
  (idxT 1 x2 v6).bind fun x3 =>
  (derefT none x3).bind fun x4 =>
  (T.bool? x4).bind fun x5 =>
  bif bNot x5 then
   bif (vfits (V.t (T.agg [T.int .u8 2, T.int .i64 v6, T.int .i64 0])) (some 3)) then
   some (T.agg [T.int .u8 2, T.int .i64 v6, T.int .i64 0])
   else none
  else
   L59_2 v0 v1 v2 v3 v4 v5 (iAdd .i64 v6 1) v7 v8 v9
 else
  L59_3 v0 v1 v2 v3 v4 v5 0 v7 v8 v9) = some r) : L59_2 v0 v1 v2 v3 v4 v5 v6 v7 v8 v9 = some r :=
 rd h
theorem L59_3_step (v0 : List UInt8) (v1 v2 v3 : T) (v4 : Int) (v5 : T) (v6 v7 v8 v9 : Int) (r : T) (h : (
 bif iLt v6 v4 then
  L59_4 v0 v1 v2 v3 v4 v5 v6 (iAdd .i64 v6 1) v7 v8 v9
 else
  (fldT 3 none (T.ptr (tblT v0 v1 v2 v3))).bind fun x1 =>
  (derefT none x1).bind fun x2 =>
  (idxT 1 x2 0).bind fun x3 =>
  (derefT none x3).bind fun x4 =>
  (T.bool? x4).bind fun x5 =>
  bif x5 then
   bif (vfits (V.t (T.agg [T.int .u8 5, T.int .i64 0, T.int .i64 0])) (some 3)) then
   some (T.agg [T.int .u8 5, T.int .i64 0, T.int .i64 0])
   else none
  else
   L59_5 v0 v1 v2 v3 v4 v5 0 v7 v8 v9) = some r) : L59_3 v0 v1 v2 v3 v4 v5 v6 v7 v8 v9 = some r :=
 rd h
theorem L59_4_step (v0 : List UInt8) (v1 v2 v3 : T) (v4 : Int) (v5 : T) (v6 v7 v8 v9 v10 : Int) (r : T) (h : (
 bif iLt v7 v4 then
  (fnO acfg 98 [v5, T.int .i64 v6, T.int .i64 v7]).bind fun x1 =>
  (lenT x1).bind fun x2 =>
  bif iEq x2 0 then
   bif (vfits (V.t (T.agg [T.int .u8 3, T.int .i64 v6, T.int .i64 v7])) (some 3)) then
   some (T.agg [T.int .u8 3, T.int .i64 v6, T.int .i64 v7])
   else none
  else
   (fnO acfg 99 [v5, x1]).bind fun x3 =>
   bif T.scalar x3 then
   (T.int? .i64 x3).bind fun x4 =>
   bif iLt x4 0 then
    bif (vfits (V.t (T.agg [T.int .u8 4, T.int .i64 v6, T.int .i64 v7])) (some 3)) then
    some (T.agg [T.int .u8 4, T.int .i64 v6, T.int .i64 v7])
    else none
   else
    L59_4 v0 v1 v2 v3 v4 v5 v6 (iAdd .i64 v7 1) v8 v9 v10
   else none
 else
  L59_3 v0 v1 v2 v3 v4 v5 (iAdd .i64 v6 1) v8 v9 v10) = some r) : L59_4 v0 v1 v2 v3 v4 v5 v6 v7 v8 v9 v10 = some r :=
 rd h
theorem L59_5_step (v0 : List UInt8) (v1 v2 v3 : T) (v4 : Int) (v5 : T) (v6 v7 v8 v9 : Int) (r : T) (h : (
 bif iLt v6 v4 then
  L59_6 v0 v1 v2 v3 v4 v5 v6 0 v7 v8 v9
 else
  bif (vfits (V.t (T.agg [T.int .u8 0, T.int .i64 0, T.int .i64 0])) (some 3)) then
  some (T.agg [T.int .u8 0, T.int .i64 0, T.int .i64 0])
  else none) = some r) : L59_5 v0 v1 v2 v3 v4 v5 v6 v7 v8 v9 = some r :=
 rd h
theorem L59_6_step (v0 : List UInt8) (v1 v2 v3 : T) (v4 : Int) (v5 : T) (v6 v7 v8 v9 v10 : Int) (r : T) (h : (
 bif iLt v7 v4 then
  (fldT 3 none (T.ptr (tblT v0 v1 v2 v3))).bind fun x1 =>
  (derefT none x1).bind fun x2 =>
  (idxT 1 x2 v6).bind fun x3 =>
  (derefT none x3).bind fun x4 =>
  (T.bool? x4).bind fun x5 =>
  bif x5 then
   (fldT 3 none (T.ptr (tblT v0 v1 v2 v3))).bind fun x6 =>
   (derefT none x6).bind fun x7 =>
   (idxT 1 x7 v7).bind fun x8 =>
   (derefT none x8).bind fun x9 =>
   (T.bool? x9).bind fun x10 =>
   bif bNot x10 then
    (idxT 1 v5 v6).bind fun x11 =>
    (derefT none x11).bind fun x12 =>
    (idxT 1 x12 v7).bind fun x13 =>
    (derefT none x13).bind fun x14 =>
    (T.bool? x14).bind fun x15 =>
    bif x15 then
     bif (vfits (V.t (T.agg [T.int .u8 5, T.int .i64 v6, T.int .i64 v7])) (some 3)) then
     some (T.agg [T.int .u8 5, T.int .i64 v6, T.int .i64 v7])
     else none
    else
     L59_6 v0 v1 v2 v3 v4 v5 v6 (iAdd .i64 v7 1) v8 v9 v10
   else
    L59_6 v0 v1 v2 v3 v4 v5 v6 (iAdd .i64 v7 1) v8 v9 v10
  else
   L59_6 v0 v1 v2 v3 v4 v5 v6 (iAdd .i64 v7 1) v8 v9 v10
 else
  L59_5 v0 v1 v2 v3 v4 v5 (iAdd .i64 v6 1) v8 v9 v10) = some r) : L59_6 v0 v1 v2 v3 v4 v5 v6 v7 v8 v9 v10 = some r :=
 rd h
theorem fn59 (p : List UInt8) (q s u r : T) (h : (
 bif (vfits (V.t (tblT p q s u)) (some 4)) then
 (fldT 1 none (T.ptr (tblT p q s u))).bind fun x1 =>
 (derefT none x1).bind fun x2 =>
 (lenT x2).bind fun x3 =>
 (derefT (some 4) (T.ptr (tblT p q s u))).bind fun x4 =>
 (T.agg? (List.length D4) x4).bind fun x5 =>
 (T.str? (nthT x5 0)).bind fun x6 =>
 (fnO acfg 97 [tblT x6 (nthT x5 1) (nthT x5 2) (nthT x5 3)]).bind fun x7 =>
 L59_1 p q s u x3 x7 0 0 0 0
 else none) = some r) : fnO acfg 59 [tblT p q s u] = some r :=
 fo h
def L96_1 (v0 v1 v2 v3 v4 v5 v6 v7 : T) (v8 : Bool) (v9 v10 v11 : T) (v12 v13 v14 v15 v16 : Int) (v17 : Bool) (v18 v19 v20 v21 v22 v23 v24 v25 : T) (v26 : Bool) (v27 v28 : T) : Option T := runO acfg (pureFin acfg 96) [.loop 95 none (codeOf acfg 95 [1, 0, 0]), .block 0, .over 95 13 (mkTs 47 [(0, V.t v0), (1, V.t v1), (2, V.ref 1 0 0 (some 3)), (3, V.ref 2 0 0 none), (4, V.t (T.tup [])), (5, V.t (T.tup [])), (6, V.t v2), (7, V.t v3), (8, V.t v4), (9, V.t v5), (10, V.t v6), (11, V.t v7), (12, V.t (T.bool v8)), (13, V.t (T.tup [])), (14, V.t v9), (15, V.t (T.fn (Fn.func 95) [v10] [])), (16, V.t (T.tup [])), (17, V.t (T.tup [])), (18, V.t (T.tup [])), (19, V.t (T.tup [])), (20, V.t (T.tup [])), (21, V.t (T.tup [])), (22, V.t (T.tup [])), (23, V.t (T.tup [])), (24, V.t (T.tup [])), (25, V.t (T.tup [])), (26, V.t (T.tup [])), (27, V.t (T.tup [])), (28, V.t (T.tup [])), (29, V.t (T.tup [])), (30, V.t (T.tup [])), (31, V.t (T.tup [])), (32, V.t (T.tup [])), (33, V.t (T.tup [])), (34, V.t (T.tup [])), (35, V.t (T.tup [])), (36, V.t (T.tup [])), (37, V.t (T.tup [])), (38, V.t (T.tup [])), (39, V.t (T.tup [])), (40, V.t (T.tup [])), (41, V.t (T.tup [])), (42, V.t (T.tup [])), (43, V.t (T.tup [])), (44, V.t (T.tup [])), (45, V.t (T.tup [])), (46, V.t (T.tup []))]) [12], .block 0, .code 96 none (codeOf acfg 96 [1, 1, 1])] ⟨mkTs 31 [(0, V.t v11), (1, V.yld 13), (11, V.t (T.int .i64 v12)), (12, V.t (T.int .i64 v13))], ⟨21, mkTr [(1, Apex.Obj.cells 0 33 false [V.t (T.int .u8 v14), V.t (T.int .i64 v15), V.t (T.int .i64 v16)]), (2, Apex.Obj.cells 0 4 false [V.t (T.bool v17)]), (12, Apex.Obj.defer true), (13, Apex.Obj.loop LoopState.ready none 96 (mkTs 47 [(0, V.t v18), (1, V.t v19), (2, V.ref 1 0 0 (some 3)), (3, V.ref 2 0 0 none), (4, V.t (T.tup [])), (5, V.t (T.tup [])), (6, V.t v20), (7, V.t v21), (8, V.t v22), (9, V.t v23), (10, V.t v24), (11, V.t v25), (12, V.t (T.bool v26)), (13, V.t (T.tup [])), (14, V.t v27), (15, V.t (T.fn (Fn.func 95) [v28] [])), (16, V.t (T.tup [])), (17, V.t (T.tup [])), (18, V.t (T.tup [])), (19, V.t (T.tup [])), (20, V.t (T.tup [])), (21, V.t (T.tup [])), (22, V.t (T.tup [])), (23, V.t (T.tup [])), (24, V.t (T.tup [])), (25, V.t (T.tup [])), (26, V.t (T.tup [])), (27, V.t (T.tup [])), (28, V.t (T.tup [])), (29, V.t (T.tup [])), (30, V.t (T.tup [])), (31, V.t (T.tup [])), (32, V.t (T.tup [])), (33, V.t (T.tup [])), (34, V.t (T.tup [])), (35, V.t (T.tup [])), (36, V.t (T.tup [])), (37, V.t (T.tup [])), (38, V.t (T.tup [])), (39, V.t (T.tup [])), (40, V.t (T.tup [])), (41, V.t (T.tup [])), (42, V.t (T.tup [])), (43, V.t (T.tup [])), (44, V.t (T.tup [])), (45, V.t (T.tup [])), (46, V.t (T.tup []))]) [16, 17] (codeOf acfg 96 [1, 1, 0, 1, 0, 0]) (codeOf acfg 96 [1, 1, 0, 1, 0, 1]))]⟩, []⟩
def L96_2 (v0 v1 v2 v3 v4 v5 v6 v7 : T) (v8 : Bool) (v9 v10 v11 : T) (v12 v13 v14 v15 v16 v17 v18 v19 : Int) (v20 : Bool) (v21 v22 v23 v24 v25 v26 v27 v28 : T) (v29 : Bool) (v30 v31 : T) : Option T := runO acfg (pureFin acfg 96) [.loop 95 none (codeOf acfg 95 [1, 0, 0, 1, 1, 0, 0, 1, 1, 0, 0]), .block 2, .block 1, .code 95 none (codeOf acfg 95 [1, 0, 0, 1, 1, 1]), .round 95 none (codeOf acfg 95 [1, 0, 0]) 21, .block 0, .over 95 13 (mkTs 47 [(0, V.t v0), (1, V.t v1), (2, V.ref 1 0 0 (some 3)), (3, V.ref 2 0 0 none), (4, V.t (T.tup [])), (5, V.t (T.tup [])), (6, V.t v2), (7, V.t v3), (8, V.t v4), (9, V.t v5), (10, V.t v6), (11, V.t v7), (12, V.t (T.bool v8)), (13, V.t (T.tup [])), (14, V.t v9), (15, V.t (T.fn (Fn.func 95) [v10] [])), (16, V.t (T.tup [])), (17, V.t (T.tup [])), (18, V.t (T.tup [])), (19, V.t (T.tup [])), (20, V.t (T.tup [])), (21, V.t (T.tup [])), (22, V.t (T.tup [])), (23, V.t (T.tup [])), (24, V.t (T.tup [])), (25, V.t (T.tup [])), (26, V.t (T.tup [])), (27, V.t (T.tup [])), (28, V.t (T.tup [])), (29, V.t (T.tup [])), (30, V.t (T.tup [])), (31, V.t (T.tup [])), (32, V.t (T.tup [])), (33, V.t (T.tup [])), (34, V.t (T.tup [])), (35, V.t (T.tup [])), (36, V.t (T.tup [])), (37, V.t (T.tup [])), (38, V.t (T.tup [])), (39, V.t (T.tup [])), (40, V.t (T.tup [])), (41, V.t (T.tup [])), (42, V.t (T.tup [])), (43, V.t (T.tup [])), (44, V.t (T.tup [])), (45, V.t (T.tup [])), (46, V.t (T.tup []))]) [12], .block 0, .code 96 none (codeOf acfg 96 [1, 1, 1])] ⟨mkTs 31 [(0, V.t v11), (1, V.yld 13), (4, V.t (T.int .i64 v12)), (11, V.t (T.int .i64 v13)), (12, V.t (T.int .i64 v14)), (20, V.t (T.int .i64 v15)), (21, V.t (T.int .i64 v16))], ⟨31, mkTr [(1, Apex.Obj.cells 0 33 false [V.t (T.int .u8 v17), V.t (T.int .i64 v18), V.t (T.int .i64 v19)]), (2, Apex.Obj.cells 0 4 false [V.t (T.bool v20)]), (12, Apex.Obj.defer true), (13, Apex.Obj.loop LoopState.ready none 96 (mkTs 47 [(0, V.t v21), (1, V.t v22), (2, V.ref 1 0 0 (some 3)), (3, V.ref 2 0 0 none), (4, V.t (T.tup [])), (5, V.t (T.tup [])), (6, V.t v23), (7, V.t v24), (8, V.t v25), (9, V.t v26), (10, V.t v27), (11, V.t v28), (12, V.t (T.bool v29)), (13, V.t (T.tup [])), (14, V.t v30), (15, V.t (T.fn (Fn.func 95) [v31] [])), (16, V.t (T.tup [])), (17, V.t (T.tup [])), (18, V.t (T.tup [])), (19, V.t (T.tup [])), (20, V.t (T.tup [])), (21, V.t (T.tup [])), (22, V.t (T.tup [])), (23, V.t (T.tup [])), (24, V.t (T.tup [])), (25, V.t (T.tup [])), (26, V.t (T.tup [])), (27, V.t (T.tup [])), (28, V.t (T.tup [])), (29, V.t (T.tup [])), (30, V.t (T.tup [])), (31, V.t (T.tup [])), (32, V.t (T.tup [])), (33, V.t (T.tup [])), (34, V.t (T.tup [])), (35, V.t (T.tup [])), (36, V.t (T.tup [])), (37, V.t (T.tup [])), (38, V.t (T.tup [])), (39, V.t (T.tup [])), (40, V.t (T.tup [])), (41, V.t (T.tup [])), (42, V.t (T.tup [])), (43, V.t (T.tup [])), (44, V.t (T.tup [])), (45, V.t (T.tup [])), (46, V.t (T.tup []))]) [16, 17] (codeOf acfg 96 [1, 1, 0, 1, 0, 0]) (codeOf acfg 96 [1, 1, 0, 1, 0, 1]))]⟩, []⟩
theorem L96_1_step (v0 v1 v2 v3 v4 v5 v6 v7 : T) (v8 : Bool) (v9 v10 v11 : T) (v12 v13 v14 v15 v16 : Int) (v17 : Bool) (v18 v19 v20 v21 v22 v23 v24 v25 : T) (v26 : Bool) (v27 v28 r : T) (h : (
 bif iLt v13 v12 then
  bif isPtrT v11 then
  (fldT 0 (some 4) v11).bind fun x1 =>
  (fldT 1 none x1).bind fun x2 =>
  (derefT none x2).bind fun x3 =>
  (lenT x3).bind fun x4 =>
  L96_2 v0 v1 v2 v3 v4 v5 v6 v7 v8 v9 v10 v11 v13 v12 v13 x4 0 v14 v15 v16 v17 v18 v19 v20 v21 v22 v23 v24 v25 v26 v27 v28
  else none
 else
  bif (vfits (V.t (T.agg [T.int .u8 0, T.int .i64 0, T.int .i64 0])) (some 3)) then
  some (T.tup [T.agg [T.int .u8 0, T.int .i64 0, T.int .i64 0], T.bool false])
  else none) = some r) : L96_1 v0 v1 v2 v3 v4 v5 v6 v7 v8 v9 v10 v11 v12 v13 v14 v15 v16 v17 v18 v19 v20 v21 v22 v23 v24 v25 v26 v27 v28 = some r :=
 rd h
theorem L96_2_step (v0 v1 v2 v3 v4 v5 v6 v7 : T) (v8 : Bool) (v9 v10 v11 : T) (v12 v13 v14 v15 v16 v17 v18 v19 : Int) (v20 : Bool) (v21 v22 v23 v24 v25 v26 v27 v28 : T) (v29 : Bool) (v30 v31 r : T) (h : (
 bif iLt v16 v15 then
  (derefT none v22).bind fun x1 =>
  bif isPtrT x1 then
  (fldT 0 (some 4) x1).bind fun x2 =>
  (fldT 3 none x2).bind fun x3 =>
  (derefT none x3).bind fun x4 =>
  (idxT 1 x4 v12).bind fun x5 =>
  (derefT none x5).bind fun x6 =>
  (T.bool? x6).bind fun x7 =>
  bif x7 then
   (derefT none v22).bind fun x8 =>
   bif isPtrT x8 then
   (fldT 0 (some 4) x8).bind fun x9 =>
   (fldT 3 none x9).bind fun x10 =>
   (derefT none x10).bind fun x11 =>
   (idxT 1 x11 v16).bind fun x12 =>
   (derefT none x12).bind fun x13 =>
   (T.bool? x13).bind fun x14 =>
   bif bNot x14 then
    (derefT none v22).bind fun x15 =>
    (fnO acfg 70 [x15, T.int .i64 v12, T.int .i64 v16]).bind fun x16 =>
    bif T.scalar x16 then
    (T.bool? x16).bind fun x17 =>
    bif x17 then
     bif (vfits (V.t (T.agg [T.int .u8 5, T.int .i64 v12, T.int .i64 v16])) (some 3)) then
     some (T.tup [T.agg [T.int .u8 5, T.int .i64 v12, T.int .i64 v16], T.bool true])
     else none
    else
     L96_2 v0 v1 v2 v3 v4 v5 v6 v7 v8 v9 v10 v11 v12 v13 v14 v15 (iAdd .i64 v16 1) v17 v18 v19 v20 v21 v22 v23 v24 v25 v26 v27 v28 v29 v30 v31
    else none
   else
    L96_2 v0 v1 v2 v3 v4 v5 v6 v7 v8 v9 v10 v11 v12 v13 v14 v15 (iAdd .i64 v16 1) v17 v18 v19 v20 v21 v22 v23 v24 v25 v26 v27 v28 v29 v30 v31
   else none
  else
   L96_2 v0 v1 v2 v3 v4 v5 v6 v7 v8 v9 v10 v11 v12 v13 v14 v15 (iAdd .i64 v16 1) v17 v18 v19 v20 v21 v22 v23 v24 v25 v26 v27 v28 v29 v30 v31
  else none
 else
  L96_1 v0 v1 v2 v3 v4 v5 v6 v7 v8 v9 v10 v11 v13 (iAdd .i64 v14 1) v17 v18 v19 v20 v21 v22 v23 v24 v25 v26 v27 v28 v29 v30 v31) = some r) : L96_2 v0 v1 v2 v3 v4 v5 v6 v7 v8 v9 v10 v11 v12 v13 v14 v15 v16 v17 v18 v19 v20 v21 v22 v23 v24 v25 v26 v27 v28 v29 v30 v31 = some r :=
 rd h
theorem fn96 (a0 r : T) (h : (
 bif vfits (V.t a0) none then
 (derefT none (T.ptr a0)).bind fun x1 =>
 bif isPtrT x1 then
 (fldT 0 (some 4) x1).bind fun x2 =>
 (fldT 3 none x2).bind fun x3 =>
 (derefT none x3).bind fun x4 =>
 (idxT 1 x4 0).bind fun x5 =>
 (derefT none x5).bind fun x6 =>
 (T.bool? x6).bind fun x7 =>
 bif x7 then
  bif (vfits (V.t (T.agg [T.int .u8 5, T.int .i64 0, T.int .i64 0])) (some 3)) then
  some (T.tup [T.agg [T.int .u8 5, T.int .i64 0, T.int .i64 0], T.bool true])
  else none
 else
  (derefT none (T.ptr a0)).bind fun x8 =>
  bif isPtrT x8 then
  (fldT 0 (some 4) x8).bind fun x9 =>
  (fldT 1 none x9).bind fun x10 =>
  (derefT none x10).bind fun x11 =>
  (lenT x11).bind fun x12 =>
  L96_1 a0 (T.ptr a0) x1 x1 x2 x3 x4 x5 x7 x8 x8 x8 x12 0 0 0 0 false a0 (T.ptr a0) x1 x1 x2 x3 x4 x5 x7 x8 x8
  else none
 else none
 else none) = some r) : fnO acfg 96 [a0] = some r :=
 fo h
theorem fn18 (p : List UInt8) (q s u r : T) (h : (
 bif (vfits (V.t (tblT p q s u)) (some 4)) then
 (derefT (some 4) (T.ptr (tblT p q s u))).bind fun x1 =>
 (T.agg? (List.length D4) x1).bind fun x2 =>
 (T.str? (nthT x2 0)).bind fun x3 =>
 (fnO acfg 19 [tblT x3 (nthT x2 1) (nthT x2 2) (nthT x2 3)]).bind fun x4 =>
 bif T.scalar x4 then
 (T.int? .i64 x4).bind fun x5 =>
 bif bNot (iEq x5 0) then
  bif (vfits (V.t (T.agg [T.int .u8 0, T.int .i64 0, T.int .i64 0])) (some 3)) then
  some (T.tup [T.agg [T.int .u8 0, T.int .i64 0, T.int .i64 0], T.int .i64 x5])
  else none
 else
  (derefT (some 4) (T.ptr (tblT p q s u))).bind fun x6 =>
  (T.agg? (List.length D4) x6).bind fun x7 =>
  (T.str? (nthT x7 0)).bind fun x8 =>
  (fnO acfg 59 [tblT x8 (nthT x7 1) (nthT x7 2) (nthT x7 3)]).bind fun x9 =>
  bif T.scalar x9 then
  (T.agg? (List.length [D.int .u8, D.int .i64, D.int .i64]) x9).bind fun x10 =>
  (T.int? .u8 (nthT x10 0)).bind fun x11 =>
  (T.int? .i64 (nthT x10 1)).bind fun x12 =>
  (T.int? .i64 (nthT x10 2)).bind fun x13 =>
  bif (vfits (V.t (T.agg [T.int .u8 x11, T.int .i64 x12, T.int .i64 x13])) (some 3)) then
  (fldT 0 none (T.ptr (T.agg [T.int .u8 x11, T.int .i64 x12, T.int .i64 x13]))).bind fun x14 =>
  (derefT none x14).bind fun x15 =>
  (T.int? .u8 x15).bind fun x16 =>
  bif bNot (iEq x16 0) then
   (derefT (some 3) (T.ptr (T.agg [T.int .u8 x11, T.int .i64 x12, T.int .i64 x13]))).bind fun x17 =>
   (T.agg? (List.length [D.int .u8, D.int .i64, D.int .i64]) x17).bind fun x18 =>
   (T.int? .u8 (nthT x18 0)).bind fun x19 =>
   (T.int? .i64 (nthT x18 1)).bind fun x20 =>
   (T.int? .i64 (nthT x18 2)).bind fun x21 =>
   bif (vfits (V.t (T.agg [T.int .u8 x19, T.int .i64 x20, T.int .i64 x21])) (some 3)) then
   some (T.tup [T.agg [T.int .u8 x19, T.int .i64 x20, T.int .i64 x21], T.int .i64 12])
   else none
  else
   bif (vfits (V.t (T.agg [T.int .u8 0, T.int .i64 0, T.int .i64 0])) (some 3)) then
   some (T.tup [T.agg [T.int .u8 0, T.int .i64 0, T.int .i64 0], T.int .i64 0])
   else none
  else none
  else none
 else none
 else none) = some r) : fnO acfg 18 [tblT p q s u] = some r :=
 fo h
end
end Go.Proofs.Try

namespace Go.Proofs.Try
open Go Go.Apex
set_option maxRecDepth 100000
noncomputable section
theorem fn34 (p : List UInt8) (q s u : T) (a1 : Int) (r : T) (h : (
 bif (vfits (V.t (tblT p q s u)) (some 4)) then
 (fldT 1 none (T.ptr (tblT p q s u))).bind fun x1 =>
 (derefT none x1).bind fun x2 =>
 (lenT x2).bind fun x3 =>
 (fnO acfg 61 [T.int .i64 a1, T.int .i64 0, T.int .i64 (iSub .i64 x3 1)]).bind fun x4 =>
 bif T.scalar x4 then
 (T.bool? x4).bind fun x5 =>
 some (T.bool x5)
 else none
 else none) = some r) : fnO acfg 34 [tblT p q s u, T.int .i64 a1] = some r :=
 fo h
theorem fn76 (a0 a1 r : T) (h : (
 bif vfits (V.t a0) none then
 (fnO acfg 53 [a1, T.fn (Fn.func 109) [] [T.ptr a0]]).bind fun x1 =>
 bif T.scalar x1 then
 (T.bool? x1).bind fun x2 =>
 bif bNot x2 then
  some (T.int .i64 7)
 else
  some (T.int .i64 0)
 else none
 else none) = some r) : fnO acfg 76 [a0, a1] = some r :=
 fo h
theorem fn109 (a0 a1 : Int) (c0 r : T) (h : (
 bif iLe 0 a1 then
  (derefT none c0).bind fun x1 =>
  bif isPtrT x1 then
  (fldT 0 (some 4) x1).bind fun x2 =>
  (fldT 1 none x2).bind fun x3 =>
  (derefT none x3).bind fun x4 =>
  (lenT x4).bind fun x5 =>
  some (T.bool (iLt a1 x5))
  else none
 else
  some (T.bool false)) = some r) : fnO acfg 109 [T.int .i64 a0, T.int .i64 a1, c0] = some r :=
 fo h
end
end Go.Proofs.Try

namespace Go.Proofs.Try
open Go Go.Apex
set_option maxRecDepth 100000
noncomputable section
theorem fn105 (a0 a1 r : T) (h : (
 (fnO acfg 103 [a0, a1]).bind fun x1 =>
 bif T.scalar x1 then
 (T.int? .i64 x1).bind fun x2 =>
 some (T.bool (iLe 0 x2))
 else none) = some r) : fnO acfg 105 [a0, a1] = some r :=
 fo h
theorem fn64 (p : List UInt8) (q s u a1 r : T) (h : (
 bif (vfits (V.t (tblT p q s u)) (some 4)) then
 (derefT (some 4) (T.ptr (tblT p q s u))).bind fun x1 =>
 (T.agg? (List.length D4) x1).bind fun x2 =>
 (T.str? (nthT x2 0)).bind fun x3 =>
 (fnO acfg 57 [tblT x3 (nthT x2 1) (nthT x2 2) (nthT x2 3)]).bind fun x4 =>
 (T.tup? (List.length [74, 30]) x4).bind fun x5 =>
 (T.int? .i64 (nthT x5 1)).bind fun x6 =>
 bif bNot (iEq x6 0) then
  some (T.tup [T.nilp, T.int .i64 x6])
 else
  (fnO acfg 58 [nthT x5 0]).bind fun x7 =>
  bif T.scalar x7 then
  (T.tup? (List.length [33, 4]) x7).bind fun x8 =>
  (T.agg? (List.length [D.int .u8, D.int .i64, D.int .i64]) (nthT x8 0)).bind fun x9 =>
  (T.int? .u8 (nthT x9 0)).bind fun x10 =>
  (T.int? .i64 (nthT x9 1)).bind fun x11 =>
  (T.int? .i64 (nthT x9 2)).bind fun x12 =>
  (T.bool? (nthT x8 1)).bind fun x13 =>
  bif (vfits (V.t (T.agg [T.int .u8 x10, T.int .i64 x11, T.int .i64 x12])) (some 3)) then
  bif x13 then
   some (T.tup [T.nilp, T.int .i64 12])
  else
   (fnO acfg 76 [nthT x5 0, a1]).bind fun x14 =>
   bif T.scalar x14 then
   (T.int? .i64 x14).bind fun x15 =>
   bif bNot (iEq x15 0) then
    some (T.tup [T.nilp, T.int .i64 x15])
   else
    some (T.tup [nthT x5 0, T.int .i64 0])
   else none
  else none
  else none
 else none) = some r) : fnO acfg 64 [tblT p q s u, a1] = some r :=
 fo h
theorem fn43 (p : List UInt8) (q s u r : T) (h : (
 bif (vfits (V.t (tblT p q s u)) (some 4)) then
 (derefT (some 4) (T.ptr (tblT p q s u))).bind fun x1 =>
 (T.agg? (List.length D4) x1).bind fun x2 =>
 (T.str? (nthT x2 0)).bind fun x3 =>
 (fnO acfg 18 [tblT x3 (nthT x2 1) (nthT x2 2) (nthT x2 3)]).bind fun x4 =>
 bif T.scalar x4 then
 (T.tup? (List.length [33, 30]) x4).bind fun x5 =>
 (T.agg? (List.length [D.int .u8, D.int .i64, D.int .i64]) (nthT x5 0)).bind fun x6 =>
 (T.int? .u8 (nthT x6 0)).bind fun x7 =>
 (T.int? .i64 (nthT x6 1)).bind fun x8 =>
 (T.int? .i64 (nthT x6 2)).bind fun x9 =>
 (T.int? .i64 (nthT x5 1)).bind fun x10 =>
 bif (vfits (V.t (T.agg [T.int .u8 x7, T.int .i64 x8, T.int .i64 x9])) (some 3)) then
 some (T.int .i64 x10)
 else none
 else none
 else none) = some r) : fnO acfg 43 [tblT p q s u] = some r :=
 fo h
theorem fn23 (p : List UInt8) (q s u : T) (a1 a2 : Int) (r : T) (h : (
 bif (vfits (V.t (tblT p q s u)) (some 4)) then
 (derefT (some 4) (T.ptr (tblT p q s u))).bind fun x1 =>
 (T.agg? (List.length D4) x1).bind fun x2 =>
 (T.str? (nthT x2 0)).bind fun x3 =>
 (fnO acfg 64 [tblT x3 (nthT x2 1) (nthT x2 2) (nthT x2 3), T.sl true 1 [T.int .i64 a1, T.int .i64 a2]]).bind fun x4 =>
 (T.tup? (List.length [74, 30]) x4).bind fun x5 =>
 (T.int? .i64 (nthT x5 1)).bind fun x6 =>
 bif bNot (iEq x6 0) then
  some (T.tup [T.int .i64 0, T.int .i64 x6])
 else
  (fnO acfg 65 [nthT x5 0, T.int .i64 a1, T.int .i64 a2]).bind fun x7 =>
  bif T.scalar x7 then
  (T.tup? (List.length [3, 4]) x7).bind fun x8 =>
  (T.int? .i64 (nthT x8 0)).bind fun x9 =>
  (T.bool? (nthT x8 1)).bind fun x10 =>
  some (T.tup [T.int .i64 x9, T.int .i64 0])
  else none
 else none) = some r) : fnO acfg 23 [tblT p q s u, T.int .i64 a1, T.int .i64 a2] = some r :=
 fo h
end
end Go.Proofs.Try

namespace Go.Proofs.Try
open Go Go.Apex
set_option maxRecDepth 100000
noncomputable section
theorem fn22 (p : List UInt8) (q s u : T) (a1 a2 : Int) (r : T) (h : (
 bif (vfits (V.t (tblT p q s u)) (some 4)) then
 (derefT (some 4) (T.ptr (tblT p q s u))).bind fun x1 =>
 (T.agg? (List.length D4) x1).bind fun x2 =>
 (T.str? (nthT x2 0)).bind fun x3 =>
 (fnO acfg 15 [tblT x3 (nthT x2 1) (nthT x2 2) (nthT x2 3)]).bind fun x4 =>
 (T.agg? (List.length D4) x4).bind fun x5 =>
 (T.str? (nthT x5 0)).bind fun x6 =>
 (fnO acfg 23 [tblT x6 (nthT x5 1) (nthT x5 2) (nthT x5 3), T.int .i64 a1, T.int .i64 a2]).bind fun x7 =>
 bif T.scalar x7 then
 (T.tup? (List.length [3, 30]) x7).bind fun x8 =>
 (T.int? .i64 (nthT x8 0)).bind fun x9 =>
 (T.int? .i64 (nthT x8 1)).bind fun x10 =>
 bif bNot (iEq x10 0) then
  some (T.int .i64 (-1))
 else
  (derefT (some 4) (T.ptr (tblT p q s u))).bind fun x11 =>
  (T.agg? (List.length D4) x11).bind fun x12 =>
  (T.str? (nthT x12 0)).bind fun x13 =>
  (fnO acfg 34 [tblT x13 (nthT x12 1) (nthT x12 2) (nthT x12 3), T.int .i64 x9]).bind fun x14 =>
  bif T.scalar x14 then
  (T.bool? x14).bind fun x15 =>
  bif bNot x15 then
   some (T.int .i64 (-1))
  else
   some (T.int .i64 x9)
  else none
 else none
 else none) = some r) : fnO acfg 22 [tblT p q s u, T.int .i64 a1, T.int .i64 a2] = some r :=
 fo h
end
end Go.Proofs.Try

namespace Go.Proofs.Try
open Go Go.Apex
set_option maxRecDepth 100000
noncomputable section
theorem fn112 (a0 : Int) (c0 c1 r : T) (h : (
 (derefT none c0).bind fun x1 =>
 bif isPtrT x1 then
 (fldT 4 none x1).bind fun x2 =>
 (derefT none x2).bind fun x3 =>
 (derefT none c1).bind fun x4 =>
 (T.int? .i64 x4).bind fun x5 =>
 (idxT 1 x3 x5).bind fun x6 =>
 (derefT none x6).bind fun x7 =>
 (idxT 1 x7 a0).bind fun x8 =>
 (derefT none x8).bind fun x9 =>
 (T.bool? x9).bind fun x10 =>
 some (T.bool x10)
 else none) = some r) : fnO acfg 112 [T.int .i64 a0, c0, c1] = some r :=
 fo h
theorem fn113 (a0 : Int) (c0 c1 r : T) (h : (
 (derefT none c0).bind fun x1 =>
 (fnO acfg 105 [x1, T.fn (Fn.func 114) [] [T.ptr (T.int .i64 a0), c1]]).bind fun x2 =>
 bif T.scalar x2 then
 (T.bool? x2).bind fun x3 =>
 some (T.bool x3)
 else none) = some r) : fnO acfg 113 [T.int .i64 a0, c0, c1] = some r :=
 fo h
theorem fn114 (a0 : Int) (c0 c1 r : T) (h : (
 (derefT none c0).bind fun x1 =>
 (T.int? .i64 x1).bind fun x2 =>
 bif bNot (iEq x2 a0) then
  (derefT none c1).bind fun x3 =>
  (derefT none c0).bind fun x4 =>
  (T.int? .i64 x4).bind fun x5 =>
  (fnO acfg 70 [x3, T.int .i64 a0, T.int .i64 x5]).bind fun x6 =>
  bif T.scalar x6 then
  (T.bool? x6).bind fun x7 =>
  some (T.bool x7)
  else none
 else
  some (T.bool false)) = some r) : fnO acfg 114 [T.int .i64 a0, c0, c1] = some r :=
 fo h
theorem row80 (a0 r : T) (h : (
 (nilT (D.slice 9) a0).bind fun x1 =>
 bif x1 then
  some (T.tup [T.nilp, T.nils])
 else
  (elemsT none a0).bind fun x2 =>
  bif appOK [] 0 0 1 x2 16 then
  bif (Nat.beq (appGen 0 (x2, false).1) (appGen 0 (x2, false).1)) then
  (allT (appCs [] 0 x2)).bind fun x3 =>
  some (T.tup [T.nili, T.int .i64 9, T.int .i64 (Int.ofNat (appOff 0 x2)), T.int .i64 (Int.ofNat (appLen 0 x2)), T.nils, T.tup x3])
  else none
  else none) = some r) : rowO acfg 80 [a0] = some r :=
 row_of (n := 3000) (by kernel_rfl) h
theorem row81 (a0 r : T) (h : (
 (nilT (D.slice 4) a0).bind fun x1 =>
 bif x1 then
  some (T.tup [T.nilp, T.nils])
 else
  (elemsT none a0).bind fun x2 =>
  bif appOK [] 0 0 1 x2 1 then
  bif (Nat.beq (appGen 0 (x2, false).1) (appGen 0 (x2, false).1)) then
  (allT (appCs [] 0 x2)).bind fun x3 =>
  some (T.tup [T.nili, T.int .i64 4, T.int .i64 (Int.ofNat (appOff 0 x2)), T.int .i64 (Int.ofNat (appLen 0 x2)), T.nils, T.tup x3])
  else none
  else none) = some r) : rowO acfg 81 [a0] = some r :=
 row_of (n := 3000) (by kernel_rfl) h
def L82_1 (v0 : T) (v1 : Int) (v2 : T) (v3 : Int) (v4 v5 v6 v7 v8 : T) (v9 : Int) (v10 v11 v12 v13 v14 v15 v16 v17 v18 v19 : T) (v20 v21 : Int) : Option T := runO acfg (pureFin acfg 82) [.loop 107 none (codeOf acfg 107 [1, 1, 1, 0, 1, 0, 0]), .block 0, .code 107 none (codeOf acfg 107 [1, 1, 1, 1]), .ret 107 (some 14) (mkTs 15 [(0, V.t v0), (1, V.t (T.int .i64 v1)), (2, V.t v2), (3, V.t (T.ptr (T.int .i64 v3))), (4, V.t T.nils), (5, V.t v4), (6, V.t (T.fn (Fn.func 113) [] [v5, v6])), (7, V.t v7), (8, V.t (T.fn (Fn.func 112) [] [v8, T.ptr (T.int .i64 v9)])), (9, V.t v10), (10, V.t (T.fn (Fn.func 113) [] [v11, v12])), (11, V.t v13), (12, V.t v14), (13, V.t (T.fn (Fn.func 113) [] [v15, v16])), (14, V.t (T.tup []))]) [], .ops 82 3 false (opsAt (codeOf acfg 82 [1, 1, 1, 0])) 10 (opsDrop 4 (opsAt (codeOf acfg 82 [1, 1, 1, 0]))) 14, .code 82 none (codeOf acfg 82 [1, 1, 1, 1])] ⟨mkTs 42 [(0, V.t v17), (1, V.t (T.fn (Fn.func 113) [] [v18, v19])), (5, V.t (T.int .i64 v20)), (6, V.t (T.int .i64 v21))], ⟨25, mkTr []⟩, []⟩
def L82_2 (v0 : T) (v1 : Int) (v2 : T) (v3 : Int) (v4 v5 v6 v7 v8 : T) (v9 : Int) (v10 v11 v12 v13 : T) (v14 v15 v16 : Nat) (v17 v18 : T) (v19 v20 v21 : Nat) (v22 v23 : T) (v24 v25 : Int) (v26 : Nat) (v27 : List V) : Option T := runO acfg (pureFin acfg 82) [.loop 107 none (codeOf acfg 107 [1, 1, 1, 0, 1, 0, 0]), .block 0, .code 107 none (codeOf acfg 107 [1, 1, 1, 1]), .ret 107 (some 14) (mkTs 15 [(0, V.t v0), (1, V.t (T.int .i64 v1)), (2, V.t v2), (3, V.t (T.ptr (T.int .i64 v3))), (4, V.t T.nils), (5, V.t v4), (6, V.t (T.fn (Fn.func 113) [] [v5, v6])), (7, V.t v7), (8, V.t (T.fn (Fn.func 112) [] [v8, T.ptr (T.int .i64 v9)])), (9, V.t v10), (10, V.t (T.fn (Fn.func 113) [] [v11, v12])), (11, V.t v13), (12, V.msl 11 v14 v15 v16 none), (13, V.t (T.fn (Fn.func 113) [] [v17, v18])), (14, V.t (T.tup []))]) [], .ops 82 3 false (opsAt (codeOf acfg 82 [1, 1, 1, 0])) 10 (opsDrop 4 (opsAt (codeOf acfg 82 [1, 1, 1, 0]))) 14, .code 82 none (codeOf acfg 82 [1, 1, 1, 1])] ⟨mkTs 42 [(0, V.msl 11 v19 v20 v21 none), (1, V.t (T.fn (Fn.func 113) [] [v22, v23])), (5, V.t (T.int .i64 v24)), (6, V.t (T.int .i64 v25))], ⟨25, mkTr [(11, Apex.Obj.cells v26 3 false v27)]⟩, []⟩
theorem L82_2_step (v0 : T) (v1 : Int) (v2 : T) (v3 : Int) (v4 v5 v6 v7 v8 : T) (v9 : Int) (v10 v11 v12 v13 : T) (v14 v15 v16 : Nat) (v17 v18 : T) (v19 v20 v21 : Nat) (v22 v23 : T) (v24 v25 : Int) (v26 : Nat) (v27 : List V) (r : T) (h : (
 bif iLt v25 (nInt v21) then
  bif rowIn v25 v21 then
  bif natEq v26 v19 then
  (rowS none v27 (rowOff v20 v25 1)).bind fun x1 =>
  (T.int? .i64 x1).bind fun x2 =>
  (callT acfg (T.fn (Fn.func 113) [] [v22, v23]) [T.int .i64 x2]).bind fun x3 =>
  (T.bool? x3).bind fun x4 =>
  bif bNot x4 then
   bif rowIn v24 v21 then
   bif natEq v26 v19 then
   bif (rowSetOK v27 (rowOff v20 v24 1) (List.length [V.t (T.int .i64 x2)])) then
   bif (objBd 25 (Apex.Obj.cells v26 3 false (rowSet v27 (rowOff v20 v24 1) [V.t (T.int .i64 x2)]))) then
   L82_2 v0 v1 v2 v3 v4 v5 v6 v7 v8 v9 v10 v11 v12 v13 v14 v15 v16 v17 v18 v19 v20 v21 v22 v23 (iAdd .i64 v24 1) (iAdd .i64 v25 1) v26 (rowSet v27 (rowOff v20 v24 1) [V.t (T.int .i64 x2)])
   else none
   else none
   else none
   else none
  else
   bif objBd 25 (Apex.Obj.cells v26 3 false v27) then
   L82_2 v0 v1 v2 v3 v4 v5 v6 v7 v8 v9 v10 v11 v12 v13 v14 v15 v16 v17 v18 v19 v20 v21 v22 v23 v24 (iAdd .i64 v25 1) v26 v27
   else none
  else none
  else none
 else
  bif subOK v24 (Int.ofNat v21) v21 then
  bif natEq v26 v19 then
  bif (clrOK v27 (rowOff v20 v24 1) (rowLen v24 (Int.ofNat v21)) (T.int .i64 0)) then
  bif subOK 0 v24 v21 then
  bif natEq v26 v19 then
  (rowT none (clrCs v27 (rowOff v20 v24 1) (rowLen v24 (Int.ofNat v21)) (T.int .i64 0)) (rowOff v20 0 1) (rowLen 0 v24)).bind fun x5 =>
  some (T.sl false 1 x5)
  else none
  else none
  else none
  else none
  else none) = some r) : L82_2 v0 v1 v2 v3 v4 v5 v6 v7 v8 v9 v10 v11 v12 v13 v14 v15 v16 v17 v18 v19 v20 v21 v22 v23 v24 v25 v26 v27 = some r :=
 rdr [11] h
theorem fn82 (a0 : T) (a1 : Int) (r : T) (h : (
 bif vfits (V.t a0) none then
 (derefT none (T.ptr a0)).bind fun x1 =>
 (fnO acfg 66 [x1, T.fn (Fn.func 112) [] [T.ptr a0, T.ptr (T.int .i64 a1)]]).bind fun x2 =>
 bif vfits (V.t x2) none then
 bif oneT x2 then
 (derefT none (T.ptr x2)).bind fun x3 =>
 (callO acfg 108 [x3]).bind fun x4 =>
 bif treeV x4.1 then
  (freshTree true x4).bind fun x5 =>
  (fnO acfg 103 [x5, T.fn (Fn.func 113) [] [T.ptr x2, T.ptr a0]]).bind fun x6 =>
  bif T.scalar x6 then
  (T.int? .i64 x6).bind fun x7 =>
  bif iEq x7 (-1) then
   some x5
  else
   L82_1 a0 a1 (T.ptr a0) a1 (T.ptr x2) (T.ptr x2) (T.ptr a0) x1 (T.ptr a0) a1 x2 (T.ptr x2) (T.ptr a0) x3 x5 (T.ptr x2) (T.ptr a0) x5 (T.ptr x2) (T.ptr a0) x7 (iAdd .i64 x7 1)
  else none
 else
  (freshRow true 3 none x4).bind fun x8 =>
  (rowT none x8.2.2 x8.1 x8.2.1).bind fun x9 =>
  (fnO acfg 103 [T.sl false 1 x9, T.fn (Fn.func 113) [] [T.ptr x2, T.ptr a0]]).bind fun x10 =>
  bif T.scalar x10 then
  (T.int? .i64 x10).bind fun x11 =>
  bif iEq x11 (-1) then
   (rowT none x8.2.2 x8.1 x8.2.1).bind fun x12 =>
   some (T.sl false 1 x12)
  else
   bif objBd 25 (Apex.Obj.cells 1 3 false x8.2.2) then
   L82_2 a0 a1 (T.ptr a0) a1 (T.ptr x2) (T.ptr x2) (T.ptr a0) x1 (T.ptr a0) a1 x2 (T.ptr x2) (T.ptr a0) x3 1 x8.1 x8.2.1 (T.ptr x2) (T.ptr a0) 1 x8.1 x8.2.1 (T.ptr x2) (T.ptr a0) x11 (iAdd .i64 x11 1) 1 x8.2.2
   else none
  else none
 else none
 else none
 else none) = some r) : fnO acfg 82 [a0, T.int .i64 a1] = some r :=
 fo h
def L39_1 (v0 : T) (v1 v2 : Int) (v3 v4 : List UInt8) (v5 v6 : T) : Option T := runO acfg (pureFin acfg 39) [.loop 39 none (codeOf acfg 39 [1, 1, 1, 1, 0, 1, 0, 0]), .block 0, .code 39 none (codeOf acfg 39 [1, 1, 1, 1, 1])] ⟨mkTs 42 [(2, V.ref 1 0 0 (some 4)), (4, V.t v0), (6, V.ref 21 0 0 (some 4)), (28, V.t (T.int .i64 v1)), (29, V.t (T.int .i64 v2))], ⟨27, mkTr [(1, Apex.Obj.cells 0 26 false [V.t (T.str v3), V.t T.nils, V.t T.nils, V.t T.nils]), (21, Apex.Obj.cells 0 26 false [V.t (T.str v4), V.t v5, V.t T.nils, V.t v6])]⟩, []⟩
def L39_2 (v0 : T) (v1 v2 : Int) (v3 v4 : List UInt8) (v5 : T) (v6 v7 v8 : Nat) (v9 : T) (v10 : Nat) (v11 : List V) : Option T := runO acfg (pureFin acfg 39) [.loop 39 none (codeOf acfg 39 [1, 1, 1, 1, 0, 1, 0, 0]), .block 0, .code 39 none (codeOf acfg 39 [1, 1, 1, 1, 1])] ⟨mkTs 42 [(2, V.ref 1 0 0 (some 4)), (4, V.t v0), (6, V.ref 21 0 0 (some 4)), (28, V.t (T.int .i64 v1)), (29, V.t (T.int .i64 v2))], ⟨37, mkTr [(1, Apex.Obj.cells 0 26 false [V.t (T.str v3), V.t T.nils, V.t T.nils, V.t T.nils]), (21, Apex.Obj.cells 0 26 false [V.t (T.str v4), V.t v5, V.msl 36 v6 v7 v8 none, V.t v9]), (36, Apex.Obj.cells v10 38 false v11)]⟩, []⟩
theorem L39_1_step (v0 : T) (v1 v2 : Int) (v3 v4 : List UInt8) (v5 v6 r : T) (h : (
 bif iLt v2 v1 then
  (fnO acfg 82 [v0, T.int .i64 v2]).bind fun x1 =>
  bif vfits (V.t x1) none then
  bif vfits (V.t x1) none then
  bif (objBd 37 (Apex.Obj.cells 1 38 false (rowNew [] [V.t x1]))) then
  L39_2 v0 v1 (iAdd .i64 v2 1) v3 v4 v5 1 0 1 v6 1 (rowNew [] [V.t x1])
  else none
  else none
  else none
 else
  bif (vfits (V.t (T.agg [T.str v4, v5, T.nils, v6])) (some 4)) then
  some (T.tup [T.agg [T.str v4, v5, T.nils, v6], T.int .i64 0])
  else none) = some r) : L39_1 v0 v1 v2 v3 v4 v5 v6 = some r :=
 rd h
theorem L39_2_step (v0 : T) (v1 v2 : Int) (v3 v4 : List UInt8) (v5 : T) (v6 v7 v8 : Nat) (v9 : T) (v10 : Nat) (v11 : List V) (r : T) (h : (
 bif iLt v2 v1 then
  (fnO acfg 82 [v0, T.int .i64 v2]).bind fun x1 =>
  bif vfits (V.t x1) none then
  bif vfits (V.t x1) none then
  bif natEq v10 v6 then
  bif appOK v11 v7 v8 1 [V.t x1] 24 then
  bif (objBd 37 (Apex.Obj.cells (appGen v10 [V.t x1]) 38 false (appCs v11 v7 [V.t x1]))) then
  L39_2 v0 v1 (iAdd .i64 v2 1) v3 v4 v5 (appGen v10 [V.t x1]) 0 (appLen v8 [V.t x1]) v9 (appGen v10 [V.t x1]) (appCs v11 v7 [V.t x1])
  else none
  else none
  else none
  else none
  else none
 else
  bif (vfits (V.agg [V.t (T.str v4), V.t v5, V.msl 36 v6 v7 v8 none, V.t v9]) (some 4)) then
  bif natEq v10 v6 then
  (rowT none v11 v7 v8).bind fun x2 =>
  some (T.tup [T.agg [T.str v4, v5, T.sl false 1 x2, v9], T.int .i64 0])
  else none
  else none) = some r) : L39_2 v0 v1 v2 v3 v4 v5 v6 v7 v8 v9 v10 v11 = some r :=
 rdr [36] h
theorem fn39 (p : List UInt8) (q s u r : T) (h : (
 bif (vfits (V.t (tblT p q s u)) (some 4)) then
 (derefT (some 4) (T.ptr (tblT p q s u))).bind fun x1 =>
 (T.agg? (List.length D4) x1).bind fun x2 =>
 (T.str? (nthT x2 0)).bind fun x3 =>
 (fnO acfg 64 [tblT x3 (nthT x2 1) (nthT x2 2) (nthT x2 3), T.nils]).bind fun x4 =>
 (T.tup? (List.length [74, 30]) x4).bind fun x5 =>
 (T.int? .i64 (nthT x5 1)).bind fun x6 =>
 bif bNot (iEq x6 0) then
  some (T.tup [T.agg [T.str [], T.nils, T.nils, T.nils], T.int .i64 x6])
 else
  (fldT 1 none (T.ptr (tblT p q s u))).bind fun x7 =>
  (derefT none x7).bind fun x8 =>
  (callO acfg 80 [x8]).bind fun x9 =>
  bif treeV x9.1 then
   (freshTree true x9).bind fun x10 =>
   (fldT 3 none (T.ptr (tblT p q s u))).bind fun x11 =>
   (derefT none x11).bind fun x12 =>
   (callO acfg 81 [x12]).bind fun x13 =>
   bif treeV x13.1 then
    (freshTree true x13).bind fun x14 =>
    bif vfits (V.t x10) none then
    bif vfits (V.t x14) none then
    bif (vfits (V.t (T.agg [T.str p, x10, T.nils, x14])) (some 4)) then
    (fldT 1 none (T.ptr (tblT p q s u))).bind fun x15 =>
    (derefT none x15).bind fun x16 =>
    (lenT x16).bind fun x17 =>
    L39_1 (nthT x5 0) x17 0 [] p x10 x14
    else none
    else none
    else none
   else
    (freshRow true 4 none x13).bind fun x18 =>
    (treeOf none x18.2.2 x18.1 x18.2.1).bind fun x19 =>
    bif vfits (V.t x10) none then
    bif vfits (V.t x19) none then
    bif (vfits (V.t (T.agg [T.str p, x10, T.nils, x19])) (some 4)) then
    (fldT 1 none (T.ptr (tblT p q s u))).bind fun x20 =>
    (derefT none x20).bind fun x21 =>
    (lenT x21).bind fun x22 =>
    L39_1 (nthT x5 0) x22 0 [] p x10 x19
    else none
    else none
    else none
  else
   (freshRow true 9 none x9).bind fun x23 =>
   (treeOf none x23.2.2 x23.1 x23.2.1).bind fun x24 =>
   (fldT 3 none (T.ptr (tblT p q s u))).bind fun x25 =>
   (derefT none x25).bind fun x26 =>
   (callO acfg 81 [x26]).bind fun x27 =>
   bif treeV x27.1 then
    (freshTree true x27).bind fun x28 =>
    bif vfits (V.t x24) none then
    bif vfits (V.t x28) none then
    bif (vfits (V.t (T.agg [T.str p, x24, T.nils, x28])) (some 4)) then
    (fldT 1 none (T.ptr (tblT p q s u))).bind fun x29 =>
    (derefT none x29).bind fun x30 =>
    (lenT x30).bind fun x31 =>
    L39_1 (nthT x5 0) x31 0 [] p x24 x28
    else none
    else none
    else none
   else
    (freshRow true 4 none x27).bind fun x32 =>
    (treeOf none x32.2.2 x32.1 x32.2.1).bind fun x33 =>
    bif vfits (V.t x24) none then
    bif vfits (V.t x33) none then
    bif (vfits (V.t (T.agg [T.str p, x24, T.nils, x33])) (some 4)) then
    (fldT 1 none (T.ptr (tblT p q s u))).bind fun x34 =>
    (derefT none x34).bind fun x35 =>
    (lenT x35).bind fun x36 =>
    L39_1 (nthT x5 0) x36 0 [] p x24 x33
    else none
    else none
    else none
 else none) = some r) : fnO acfg 39 [tblT p q s u] = some r :=
 fo h
def R15_1k (v0 : List UInt8) (v1 v2 v3 : T) (v4 : Int) (v5 v6 : List UInt8) (v7 v8 : T) : List Kt := [.loop 15 none (codeOf acfg 15 [1, 1, 0, 1, 0, 0]), .block 0, .code 15 none (codeOf acfg 15 [1, 1, 1])]
def R15_1s (v0 : List UInt8) (v1 v2 v3 : T) (v4 : Int) (v5 v6 : List UInt8) (v7 v8 : T) : St := ⟨mkTs 36 [(1, V.t (T.ptr (tblT v0 v1 v2 v3))), (2, V.ref 1 0 0 (some 4)), (3, V.ref 13 0 0 (some 4)), (4, V.t (T.int .i64 v4))], ⟨16, mkTr [(1, Apex.Obj.cells 0 26 false [V.t (T.str v5), V.t T.nils, V.t T.nils, V.t T.nils]), (13, Apex.Obj.cells 0 26 false [V.t (T.str v6), V.t v7, V.t T.nils, V.t v8])]⟩, []⟩
def R15_1 (v0 : List UInt8) (v1 v2 v3 : T) (v4 : Int) (v5 v6 : List UInt8) (v7 v8 : T) : Option T := runO acfg (pureFin acfg 1015) (R15_1k v0 v1 v2 v3 v4 v5 v6 v7 v8) (R15_1s v0 v1 v2 v3 v4 v5 v6 v7 v8)
def R15_2k (v0 : List UInt8) (v1 v2 v3 : T) (v4 : Int) (v5 v6 : List UInt8) (v7 : T) (v8 v9 v10 : Nat) (v11 : T) (v12 : Nat) (v13 : List V) : List Kt := [.loop 15 none (codeOf acfg 15 [1, 1, 0, 1, 0, 0]), .block 0, .code 15 none (codeOf acfg 15 [1, 1, 1])]
def R15_2s (v0 : List UInt8) (v1 v2 v3 : T) (v4 : Int) (v5 v6 : List UInt8) (v7 : T) (v8 v9 v10 : Nat) (v11 : T) (v12 : Nat) (v13 : List V) : St := ⟨mkTs 36 [(1, V.t (T.ptr (tblT v0 v1 v2 v3))), (2, V.ref 1 0 0 (some 4)), (3, V.ref 13 0 0 (some 4)), (4, V.t (T.int .i64 v4))], ⟨32, mkTr [(1, Apex.Obj.cells 0 26 false [V.t (T.str v5), V.t T.nils, V.t T.nils, V.t T.nils]), (13, Apex.Obj.cells 0 26 false [V.t (T.str v6), V.t v7, V.msl 31 v8 v9 v10 none, V.t v11]), (31, Apex.Obj.cells v12 38 false v13)]⟩, []⟩
def R15_2 (v0 : List UInt8) (v1 v2 v3 : T) (v4 : Int) (v5 v6 : List UInt8) (v7 : T) (v8 v9 v10 : Nat) (v11 : T) (v12 : Nat) (v13 : List V) : Option T := runO acfg (pureFin acfg 1015) (R15_2k v0 v1 v2 v3 v4 v5 v6 v7 v8 v9 v10 v11 v12 v13) (R15_2s v0 v1 v2 v3 v4 v5 v6 v7 v8 v9 v10 v11 v12 v13)
theorem R15_1_step (v0 : List UInt8) (v1 v2 v3 : T) (v4 : Int) (v5 v6 : List UInt8) (v7 v8 r : T) (h : (
 (fldT 2 none (T.ptr (tblT v0 v1 v2 v3))).bind fun x1 =>
 (derefT none x1).bind fun x2 =>
 (lenT x2).bind fun x3 =>
 bif iLt v4 x3 then
  (fldT 2 none (T.ptr (tblT v0 v1 v2 v3))).bind fun x4 =>
  (derefT none x4).bind fun x5 =>
  (idxT 1 x5 v4).bind fun x6 =>
  (derefT none x6).bind fun x7 =>
  (elemsT none x7).bind fun x8 =>
  (appT none 1 8 (T.sl true 1 []) x8).bind fun x9 =>
  bif vfits (V.t x9) none then
  bif vfits (V.t x9) none then
  bif (objBd 32 (Apex.Obj.cells 1 38 false (rowNew [] [V.t x9]))) then
  R15_2 v0 v1 v2 v3 (iAdd .i64 v4 1) v5 v6 v7 1 0 1 v8 1 (rowNew [] [V.t x9])
  else none
  else none
  else none
 else
  bif (vfits (V.t (T.agg [T.str v6, v7, T.nils, v8])) (some 4)) then
  some (T.tup [T.nilp, T.agg [T.str v6, v7, T.nils, v8]])
  else none) = some r) : R15_1 v0 v1 v2 v3 v4 v5 v6 v7 v8 = some r :=
 rd h
theorem R15_2_step (v0 : List UInt8) (v1 v2 v3 : T) (v4 : Int) (v5 v6 : List UInt8) (v7 : T) (v8 v9 v10 : Nat) (v11 : T) (v12 : Nat) (v13 : List V) (r : T) (h : (
 (fldT 2 none (T.ptr (tblT v0 v1 v2 v3))).bind fun x1 =>
 (derefT none x1).bind fun x2 =>
 (lenT x2).bind fun x3 =>
 bif iLt v4 x3 then
  (fldT 2 none (T.ptr (tblT v0 v1 v2 v3))).bind fun x4 =>
  (derefT none x4).bind fun x5 =>
  (idxT 1 x5 v4).bind fun x6 =>
  (derefT none x6).bind fun x7 =>
  (elemsT none x7).bind fun x8 =>
  (appT none 1 8 (T.sl true 1 []) x8).bind fun x9 =>
  bif vfits (V.t x9) none then
  bif vfits (V.t x9) none then
  bif natEq v12 v8 then
  bif appOK v13 v9 v10 1 [V.t x9] 24 then
  bif (objBd 32 (Apex.Obj.cells (appGen v12 [V.t x9]) 38 false (appCs v13 v9 [V.t x9]))) then
  R15_2 v0 v1 v2 v3 (iAdd .i64 v4 1) v5 v6 v7 (appGen v12 [V.t x9]) 0 (appLen v10 [V.t x9]) v11 (appGen v12 [V.t x9]) (appCs v13 v9 [V.t x9])
  else none
  else none
  else none
  else none
  else none
 else
  bif (vfits (V.agg [V.t (T.str v6), V.t v7, V.msl 31 v8 v9 v10 none, V.t v11]) (some 4)) then
  bif Nat.beq v12 v8 then
  (allT v13).bind fun x10 =>
  some (T.tup [T.bool true, T.int .i64 2, T.int .i64 38, T.int .i64 (Int.ofNat v9), T.int .i64 (Int.ofNat v10), T.nils, T.tup [T.str v6, v7, T.nils, v11], T.tup x10])
  else none
  else none) = some r) : R15_2 v0 v1 v2 v3 v4 v5 v6 v7 v8 v9 v10 v11 v12 v13 = some r :=
 rdr [31] h
theorem row15 (p : List UInt8) (q s u r : T) (h : (
 bif (vfits (V.t (tblT p q s u)) (some 4)) then
 (fldT 1 none (T.ptr (tblT p q s u))).bind fun x1 =>
 (derefT none x1).bind fun x2 =>
 (elemsT none x2).bind fun x3 =>
 (appT none 1 16 (T.sl true 1 []) x3).bind fun x4 =>
 (fldT 3 none (T.ptr (tblT p q s u))).bind fun x5 =>
 (derefT none x5).bind fun x6 =>
 (elemsT none x6).bind fun x7 =>
 (appT none 1 1 (T.sl true 1 []) x7).bind fun x8 =>
 bif vfits (V.t x4) none then
 bif vfits (V.t x8) none then
 bif (vfits (V.t (T.agg [T.str p, x4, T.nils, x8])) (some 4)) then
 R15_1 p q s u 0 [] p x4 x8
 else none
 else none
 else none
 else none) = some r) : rowO acfg 15 [tblT p q s u] = some r :=
 row_of (n := 3000) (by kernel_rfl) h
end
end Go.Proofs.Try

namespace Go.Proofs.Try
open Go Go.Apex
set_option maxRecDepth 100000
noncomputable section
def L40_1 (v0 : List UInt8) (v1 v2 v3 : T) (v4 v5 : Int) : Option T := runO acfg (pureFin acfg 40) [.loop 40 none (codeOf acfg 40 [1, 1, 1, 0, 1, 0, 0]), .block 0, .code 40 none (codeOf acfg 40 [1, 1, 1, 1])] ⟨mkTs 33 [(1, V.t (T.ptr (tblT v0 v1 v2 v3))), (5, V.t T.nils), (14, V.t (T.int .i64 v4)), (15, V.t (T.int .i64 v5))], ⟨13, mkTr []⟩, []⟩
def L40_2 (v0 : List UInt8) (v1 v2 v3 : T) (v4 v5 v6 : Nat) (v7 v8 : Int) (v9 : Nat) (v10 : List V) : Option T := runO acfg (pureFin acfg 40) [.loop 40 none (codeOf acfg 40 [1, 1, 1, 0, 1, 0, 0]), .block 0, .code 40 none (codeOf acfg 40 [1, 1, 1, 1])] ⟨mkTs 33 [(1, V.t (T.ptr (tblT v0 v1 v2 v3))), (5, V.msl 21 v4 v5 v6 none), (14, V.t (T.int .i64 v7)), (15, V.t (T.int .i64 v8))], ⟨22, mkTr [(21, Apex.Obj.cells v9 9 false v10)]⟩, []⟩
theorem L40_1_step (v0 : List UInt8) (v1 v2 v3 : T) (v4 v5 : Int) (r : T) (h : (
 bif iLt v5 v4 then
  (derefT (some 4) (T.ptr (tblT v0 v1 v2 v3))).bind fun x1 =>
  (T.agg? (List.length D4) x1).bind fun x2 =>
  (T.str? (nthT x2 0)).bind fun x3 =>
  (fnO acfg 83 [tblT x3 (nthT x2 1) (nthT x2 2) (nthT x2 3), T.int .i64 v5]).bind fun x4 =>
  bif T.scalar x4 then
  (T.str? x4).bind fun x5 =>
  L40_2 v0 v1 v2 v3 1 0 1 v4 (iAdd .i64 v5 1) 1 (rowNew [] [V.t (T.str x5)])
  else none
 else
  bif sCatOK [108, 97, 116, 116, 105, 99, 101, 32] v0 then
  bif sCatOK (sCat [108, 97, 116, 116, 105, 99, 101, 32] v0) [32, 123, 32] then
  (fnO acfg 84 [T.nils, T.str [59, 32]]).bind fun x6 =>
  bif T.scalar x6 then
  (T.str? x6).bind fun x7 =>
  bif (sCatOK (sCat (sCat [108, 97, 116, 116, 105, 99, 101, 32] v0) [32, 123, 32]) x7) then
  bif (sCatOK (sCat (sCat (sCat [108, 97, 116, 116, 105, 99, 101, 32] v0) [32, 123, 32]) x7) [32, 125]) then
  some (T.tup [T.str (sCat (sCat (sCat (sCat [108, 97, 116, 116, 105, 99, 101, 32] v0) [32, 123, 32]) x7) [32, 125]), T.int .i64 0])
  else none
  else none
  else none
  else none
  else none) = some r) : L40_1 v0 v1 v2 v3 v4 v5 = some r :=
 rd h
theorem L40_2_step (v0 : List UInt8) (v1 v2 v3 : T) (v4 v5 v6 : Nat) (v7 v8 : Int) (v9 : Nat) (v10 : List V) (r : T) (h : (
 bif iLt v8 v7 then
  (derefT (some 4) (T.ptr (tblT v0 v1 v2 v3))).bind fun x1 =>
  (T.agg? (List.length D4) x1).bind fun x2 =>
  (T.str? (nthT x2 0)).bind fun x3 =>
  (fnO acfg 83 [tblT x3 (nthT x2 1) (nthT x2 2) (nthT x2 3), T.int .i64 v8]).bind fun x4 =>
  bif T.scalar x4 then
  (T.str? x4).bind fun x5 =>
  bif natEq v9 v4 then
  bif (appOK v10 v5 v6 1 [V.t (T.str x5)] 16) then
  bif (objBd 22 (Apex.Obj.cells (appGen v9 [V.t (T.str x5)]) 9 false (appCs v10 v5 [V.t (T.str x5)]))) then
  L40_2 v0 v1 v2 v3 (appGen v9 [V.t (T.str x5)]) 0 (appLen v6 [V.t (T.str x5)]) v7 (iAdd .i64 v8 1) (appGen v9 [V.t (T.str x5)]) (appCs v10 v5 [V.t (T.str x5)])
  else none
  else none
  else none
  else none
 else
  bif sCatOK [108, 97, 116, 116, 105, 99, 101, 32] v0 then
  bif sCatOK (sCat [108, 97, 116, 116, 105, 99, 101, 32] v0) [32, 123, 32] then
  bif natEq v9 v4 then
  (rowT none v10 v5 v6).bind fun x6 =>
  (fnO acfg 84 [T.sl false 1 x6, T.str [59, 32]]).bind fun x7 =>
  bif T.scalar x7 then
  (T.str? x7).bind fun x8 =>
  bif (sCatOK (sCat (sCat [108, 97, 116, 116, 105, 99, 101, 32] v0) [32, 123, 32]) x8) then
  bif (sCatOK (sCat (sCat (sCat [108, 97, 116, 116, 105, 99, 101, 32] v0) [32, 123, 32]) x8) [32, 125]) then
  some (T.tup [T.str (sCat (sCat (sCat (sCat [108, 97, 116, 116, 105, 99, 101, 32] v0) [32, 123, 32]) x8) [32, 125]), T.int .i64 0])
  else none
  else none
  else none
  else none
  else none
  else none) = some r) : L40_2 v0 v1 v2 v3 v4 v5 v6 v7 v8 v9 v10 = some r :=
 rdr [21] h
theorem fn40 (p : List UInt8) (q s u r : T) (h : (
 bif (vfits (V.t (tblT p q s u)) (some 4)) then
 (derefT (some 4) (T.ptr (tblT p q s u))).bind fun x1 =>
 (T.agg? (List.length D4) x1).bind fun x2 =>
 (T.str? (nthT x2 0)).bind fun x3 =>
 (fnO acfg 16 [tblT x3 (nthT x2 1) (nthT x2 2) (nthT x2 3)]).bind fun x4 =>
 bif T.scalar x4 then
 (T.int? .i64 x4).bind fun x5 =>
 bif bNot (iEq x5 0) then
  some (T.tup [T.str [], T.int .i64 x5])
 else
  (fldT 1 none (T.ptr (tblT p q s u))).bind fun x6 =>
  (derefT none x6).bind fun x7 =>
  (lenT x7).bind fun x8 =>
  L40_1 p q s u x8 0
 else none
 else none) = some r) : fnO acfg 40 [tblT p q s u] = some r :=
 fo h
def L41_1 (v0 : List UInt8) (v1 v2 v3 : T) (v4 : Int) (v5 : List UInt8) (v6 : Nat) (v7 : List C) (v8 : List UInt8) (v9 : T) (v10 v11 v12 : Nat) (v13 : T) : Option T := runO acfg (pureFin acfg 41) [.loop 41 none (codeOf acfg 41 [1, 1, 1, 0, 1, 0, 0]), .block 0, .code 41 none (codeOf acfg 41 [1, 1, 1, 1])] ⟨mkTs 75 [(1, V.t (T.ptr (tblT v0 v1 v2 v3))), (2, V.ref 1 0 0 (some 4)), (5, V.ref 10 0 0 (some 4)), (6, V.t (T.int .i64 v4))], ⟨13, mkTr [(1, Apex.Obj.cells 0 26 false [V.t (T.str v5), V.t T.nils, V.t T.nils, V.t T.nils]), (9, Apex.Obj.nest v6 38 v7 none), (10, Apex.Obj.cells 0 26 false [V.t (T.str v8), V.t v9, V.msl 9 v10 v11 v12 none, V.t v13])]⟩, []⟩
def L41_2 (v0 : List UInt8) (v1 v2 v3 : T) (v4 v5 : Int) (v6 : List UInt8) (v7 : Nat) (v8 : List C) (v9 : List UInt8) (v10 : T) (v11 v12 v13 : Nat) (v14 : T) : Option T := runO acfg (pureFin acfg 41) [.loop 41 none (codeOf acfg 41 [1, 1, 1, 0, 1, 0, 0, 1, 0, 0, 1, 1, 0, 0]), .block 2, .block 1, .code 41 none (codeOf acfg 41 [1, 1, 1, 0, 1, 0, 0, 1, 1]), .round 41 none (codeOf acfg 41 [1, 1, 1, 0, 1, 0, 0]) 13, .block 0, .code 41 none (codeOf acfg 41 [1, 1, 1, 1])] ⟨mkTs 75 [(1, V.t (T.ptr (tblT v0 v1 v2 v3))), (2, V.ref 1 0 0 (some 4)), (5, V.ref 10 0 0 (some 4)), (6, V.t (T.int .i64 v4)), (7, V.t (T.int .i64 v5))], ⟨24, mkTr [(1, Apex.Obj.cells 0 26 false [V.t (T.str v6), V.t T.nils, V.t T.nils, V.t T.nils]), (9, Apex.Obj.nest v7 38 v8 none), (10, Apex.Obj.cells 0 26 false [V.t (T.str v9), V.t v10, V.msl 9 v11 v12 v13 none, V.t v14])]⟩, []⟩
def L41_3 (v0 : List UInt8) (v1 v2 v3 : T) (v4 v5 : Int) (v6 : Bool) (v7 : Int) (v8 : List UInt8) (v9 : Nat) (v10 : List C) (v11 : List UInt8) (v12 : T) (v13 v14 v15 : Nat) (v16 : T) : Option T := runO acfg (pureFin acfg 41) [.loop 41 none (codeOf acfg 41 [1, 1, 1, 0, 1, 0, 0, 1, 0, 0, 1, 1, 0, 0, 1, 0, 0, 1, 0, 1, 0, 0]), .block 4, .code 41 none (codeOf acfg 41 [1, 1, 1, 0, 1, 0, 0, 1, 0, 0, 1, 1, 0, 0, 1, 0, 0, 1, 1]), .block 3, .code 41 none (codeOf acfg 41 [1, 1, 1, 0, 1, 0, 0, 1, 0, 0, 1, 1, 0, 0, 1, 1]), .round 41 none (codeOf acfg 41 [1, 1, 1, 0, 1, 0, 0, 1, 0, 0, 1, 1, 0, 0]) 24, .block 2, .block 1, .code 41 none (codeOf acfg 41 [1, 1, 1, 0, 1, 0, 0, 1, 1]), .round 41 none (codeOf acfg 41 [1, 1, 1, 0, 1, 0, 0]) 13, .block 0, .code 41 none (codeOf acfg 41 [1, 1, 1, 1])] ⟨mkTs 75 [(1, V.t (T.ptr (tblT v0 v1 v2 v3))), (2, V.ref 1 0 0 (some 4)), (5, V.ref 10 0 0 (some 4)), (6, V.t (T.int .i64 v4)), (7, V.t (T.int .i64 v5)), (8, V.t (T.bool v6)), (9, V.t (T.int .i64 v7))], ⟨35, mkTr [(1, Apex.Obj.cells 0 26 false [V.t (T.str v8), V.t T.nils, V.t T.nils, V.t T.nils]), (9, Apex.Obj.nest v9 38 v10 none), (10, Apex.Obj.cells 0 26 false [V.t (T.str v11), V.t v12, V.msl 9 v13 v14 v15 none, V.t v16])]⟩, []⟩
theorem L41_1_step (v0 : List UInt8) (v1 v2 v3 : T) (v4 : Int) (v5 : List UInt8) (v6 : Nat) (v7 : List C) (v8 : List UInt8) (v9 : T) (v10 v11 v12 : Nat) (v13 r : T) (h : (
 (fldT 1 none (T.ptr (tblT v0 v1 v2 v3))).bind fun x1 =>
 (derefT none x1).bind fun x2 =>
 (lenT x2).bind fun x3 =>
 bif iLt v4 x3 then
  bif rowIn v4 v12 then
  bif natEq v6 v10 then
  bif (fitC v7 (rowOff v11 v4 1) (List.length [V.t T.nils])) then
  bif (objBd 24 (Apex.Obj.nest v6 38 (putC (junkC v7 (rowOff v11 v4 1) (List.length [V.t T.nils])) (rowOff v11 v4 1) [C.v (V.t T.nils)]) none)) then
  L41_2 v0 v1 v2 v3 v4 0 v5 v6 (putC (junkC v7 (rowOff v11 v4 1) (List.length [V.t T.nils])) (rowOff v11 v4 1) [C.v (V.t T.nils)]) v8 v9 v10 v11 v12 v13
  else none
  else none
  else none
  else none
 else
  bif (vfits (V.agg [V.t (T.str v8), V.t v9, V.msl 9 v10 v11 v12 none, V.t v13]) (some 4)) then
  bif natEq v6 v10 then
  (nestT none v7 v11 v12).bind fun x4 =>
  some (T.tup [T.agg [T.str v8, v9, T.sl false 1 x4, v13], T.int .i64 0])
  else none
  else none) = some r) : L41_1 v0 v1 v2 v3 v4 v5 v6 v7 v8 v9 v10 v11 v12 v13 = some r :=
 rdr [9] h
theorem L41_2_step (v0 : List UInt8) (v1 v2 v3 : T) (v4 v5 : Int) (v6 : List UInt8) (v7 : Nat) (v8 : List C) (v9 : List UInt8) (v10 : T) (v11 v12 v13 : Nat) (v14 r : T) (h : (
 (fldT 1 none (T.ptr (tblT v0 v1 v2 v3))).bind fun x1 =>
 (derefT none x1).bind fun x2 =>
 (lenT x2).bind fun x3 =>
 bif iLt v5 x3 then
  (derefT (some 4) (T.ptr (tblT v0 v1 v2 v3))).bind fun x4 =>
  (T.agg? (List.length D4) x4).bind fun x5 =>
  (T.str? (nthT x5 0)).bind fun x6 =>
  (fnO acfg 85 [tblT x6 (nthT x5 1) (nthT x5 2) (nthT x5 3), T.int .i64 v4, T.int .i64 v5]).bind fun x7 =>
  bif T.scalar x7 then
  (T.bool? x7).bind fun x8 =>
  bif objBd 35 (Apex.Obj.nest v7 38 v8 none) then
  L41_3 v0 v1 v2 v3 v4 v5 x8 0 v6 v7 v8 v9 v10 v11 v12 v13 v14
  else none
  else none
 else
  bif objBd 13 (Apex.Obj.nest v7 38 v8 none) then
  L41_1 v0 v1 v2 v3 (iAdd .i64 v4 1) v6 v7 v8 v9 v10 v11 v12 v13 v14
  else none) = some r) : L41_2 v0 v1 v2 v3 v4 v5 v6 v7 v8 v9 v10 v11 v12 v13 v14 = some r :=
 rdr [9] h
theorem L41_3_step (v0 : List UInt8) (v1 v2 v3 : T) (v4 v5 : Int) (v6 : Bool) (v7 : Int) (v8 : List UInt8) (v9 : Nat) (v10 : List C) (v11 : List UInt8) (v12 : T) (v13 v14 v15 : Nat) (v16 r : T) (h : (
 (fldT 1 none (T.ptr (tblT v0 v1 v2 v3))).bind fun x1 =>
 (derefT none x1).bind fun x2 =>
 (lenT x2).bind fun x3 =>
 bif iLt v7 x3 then
  bif v6 then
   (derefT (some 4) (T.ptr (tblT v0 v1 v2 v3))).bind fun x4 =>
   (T.agg? (List.length D4) x4).bind fun x5 =>
   (T.str? (nthT x5 0)).bind fun x6 =>
   (fnO acfg 85 [tblT x6 (nthT x5 1) (nthT x5 2) (nthT x5 3), T.int .i64 v4, T.int .i64 v7]).bind fun x7 =>
   bif T.scalar x7 then
   (T.bool? x7).bind fun x8 =>
   bif x8 then
    (derefT (some 4) (T.ptr (tblT v0 v1 v2 v3))).bind fun x9 =>
    (T.agg? (List.length D4) x9).bind fun x10 =>
    (T.str? (nthT x10 0)).bind fun x11 =>
    (fnO acfg 85 [tblT x11 (nthT x10 1) (nthT x10 2) (nthT x10 3), T.int .i64 v7, T.int .i64 v5]).bind fun x12 =>
    bif T.scalar x12 then
    (T.bool? x12).bind fun x13 =>
    bif objBd 35 (Apex.Obj.nest v9 38 v10 none) then
    L41_3 v0 v1 v2 v3 v4 v5 (bNot x13) (iAdd .i64 v7 1) v8 v9 v10 v11 v12 v13 v14 v15 v16
    else none
    else none
   else
    bif objBd 35 (Apex.Obj.nest v9 38 v10 none) then
    L41_3 v0 v1 v2 v3 v4 v5 (bNot false) (iAdd .i64 v7 1) v8 v9 v10 v11 v12 v13 v14 v15 v16
    else none
   else none
  else
   bif objBd 35 (Apex.Obj.nest v9 38 v10 none) then
   L41_3 v0 v1 v2 v3 v4 v5 false (iAdd .i64 v7 1) v8 v9 v10 v11 v12 v13 v14 v15 v16
   else none
 else
  bif v6 then
   bif rowIn v4 v15 then
   bif natEq v9 v13 then
   bif isOwn v10 (rowOff v14 v4 1) then
    (ownX 3 none v10 (rowOff v14 v4 1)).bind fun x14 =>
    bif rowIn v4 v15 then
    bif natEq v13 v13 then
    bif natEq (rowOff v14 v4 1) (rowOff v14 v4 1) then
    bif (appOK (ownV x14) 0 (lenX x14) 1 [V.t (T.int .i64 v5)] 8) then
    bif rowIn v4 v15 then
    bif natEq v13 v13 then
    bif (fitC (junk1 v10 (rowOff v14 v4 1)) (rowOff v14 v4 1) (List.length [V.msl 41 (appGen 1 [V.t (T.int .i64 v5)]) (appOff 0 [V.t (T.int .i64 v5)]) (appLen (lenX x14) [V.t (T.int .i64 v5)]) none])) then
    bif natEq (rowOff v14 v4 1) (rowOff v14 v4 1) then
    (rowT none (appCs (ownV x14) 0 [V.t (T.int .i64 v5)]) (appOff 0 [V.t (T.int .i64 v5)]) (appLen (lenX x14) [V.t (T.int .i64 v5)])).bind fun x15 =>
    bif (objBd 24 (Apex.Obj.nest v13 38 (putC (junk1 v10 (rowOff v14 v4 1)) (rowOff v14 v4 1) [C.own 3 none x15]) none)) then
    L41_2 v0 v1 v2 v3 v4 (iAdd .i64 v5 1) v8 v13 (putC (junk1 v10 (rowOff v14 v4 1)) (rowOff v14 v4 1) [C.own 3 none x15]) v11 v12 v13 v14 v15 v16
    else none
    else none
    else none
    else none
    else none
    else none
    else none
    else none
    else none
   else
    bif isVal v10 (rowOff v14 v4 1) then
    bif rowIn v4 v15 then
    bif natEq v9 v13 then
    (rowC none v10 (rowOff v14 v4 1)).bind fun x16 =>
    (baseT none 1 x16).bind fun x17 =>
    bif (newOK (List.length x17) (List.length [V.t (T.int .i64 v5)]) 8) then
    bif rowIn v4 v15 then
    bif natEq v9 v13 then
    bif (fitC v10 (rowOff v14 v4 1) (List.length [V.msl 51 1 0 (lenNew x17 [V.t (T.int .i64 v5)]) none])) then
    (rowT none (rowNew x17 [V.t (T.int .i64 v5)]) 0 (lenNew x17 [V.t (T.int .i64 v5)])).bind fun x18 =>
    bif (objBd 24 (Apex.Obj.nest v9 38 (putC (junkC v10 (rowOff v14 v4 1) (List.length [V.msl 51 1 0 (lenNew x17 [V.t (T.int .i64 v5)]) none])) (rowOff v14 v4 1) [C.own 3 none x18]) none)) then
    L41_2 v0 v1 v2 v3 v4 (iAdd .i64 v5 1) v8 v9 (putC (junkC v10 (rowOff v14 v4 1) (List.length [V.msl 51 1 0 (lenNew x17 [V.t (T.int .i64 v5)]) none])) (rowOff v14 v4 1) [C.own 3 none x18]) v11 v12 v13 v14 v15 v16
    else none
    else none
    else none
    else none
    else none
    else none
    else none
    else none
   else none
   else none
  else
   bif objBd 24 (Apex.Obj.nest v9 38 v10 none) then
   L41_2 v0 v1 v2 v3 v4 (iAdd .i64 v5 1) v8 v9 v10 v11 v12 v13 v14 v15 v16
   else none) = some r) : L41_3 v0 v1 v2 v3 v4 v5 v6 v7 v8 v9 v10 v11 v12 v13 v14 v15 v16 = some r :=
 rdr [9] h
theorem fn41 (p : List UInt8) (q s u r : T) (h : (
 bif (vfits (V.t (tblT p q s u)) (some 4)) then
 (derefT (some 4) (T.ptr (tblT p q s u))).bind fun x1 =>
 (T.agg? (List.length D4) x1).bind fun x2 =>
 (T.str? (nthT x2 0)).bind fun x3 =>
 (fnO acfg 43 [tblT x3 (nthT x2 1) (nthT x2 2) (nthT x2 3)]).bind fun x4 =>
 bif T.scalar x4 then
 (T.int? .i64 x4).bind fun x5 =>
 bif bNot (iEq x5 0) then
  some (T.tup [T.agg [T.str [], T.nils, T.nils, T.nils], T.int .i64 x5])
 else
  (derefT (some 4) (T.ptr (tblT p q s u))).bind fun x6 =>
  (T.agg? (List.length D4) x6).bind fun x7 =>
  (T.str? (nthT x7 0)).bind fun x8 =>
  (callO acfg 15 [tblT x8 (nthT x7 1) (nthT x7 2) (nthT x7 3)]).bind fun x9 =>
  bif treeV x9.1 then
   (freshTree true x9).bind fun x10 =>
   (T.agg? (List.length D4) x10).bind fun x11 =>
   (T.str? (nthT x11 0)).bind fun x12 =>
   bif (vfits (V.t (tblT x12 (nthT x11 1) (nthT x11 2) (nthT x11 3))) (some 4)) then
   none
   else none
  else
   (aggRow 2 (List.length [(9, (0, false)), (22, (1, false)), (23, (2, false)), (24, (3, false))]) 38 none x9).bind fun x13 =>
   (T.str? (nthT x13.1 0)).bind fun x14 =>
   bif (vfits (V.agg [V.t (T.str x14), V.t (nthT x13.1 1), V.msl 9 1 x13.2.1 x13.2.2.1 none, V.t (nthT x13.1 3)]) (some 4)) then
   bif (objBd 13 (Apex.Obj.nest 1 38 (nestOf x13.2.2.2) none)) then
   L41_1 p q s u 0 [] 1 (nestOf x13.2.2.2) x14 (nthT x13.1 1) 1 x13.2.1 x13.2.2.1 (nthT x13.1 3)
   else none
   else none
 else none
 else none) = some r) : fnO acfg 41 [tblT p q s u] = some r :=
 fo h
def L42_1 (v0 : List UInt8) (v1 v2 v3 : T) (v4 : List UInt8) (v5 : Int) : Option T := runO acfg (pureFin acfg 42) [.loop 42 none (codeOf acfg 42 [1, 1, 1, 0, 1, 0, 0]), .block 0, .code 42 none (codeOf acfg 42 [1, 1, 1, 1])] ⟨mkTs 74 [(1, V.t (T.ptr (tblT v0 v1 v2 v3))), (5, V.t (T.str v4)), (6, V.t (T.int .i64 v5))], ⟨14, mkTr []⟩, []⟩
def L42_2 (v0 : List UInt8) (v1 v2 v3 : T) (v4 : List UInt8) (v5 v6 : Int) : Option T := runO acfg (pureFin acfg 42) [.loop 42 none (codeOf acfg 42 [1, 1, 1, 0, 1, 0, 0, 1, 0, 0, 1, 1, 1, 1, 0, 0]), .block 2, .block 1, .code 42 none (codeOf acfg 42 [1, 1, 1, 0, 1, 0, 0, 1, 1]), .round 42 none (codeOf acfg 42 [1, 1, 1, 0, 1, 0, 0]) 14, .block 0, .code 42 none (codeOf acfg 42 [1, 1, 1, 1])] ⟨mkTs 74 [(1, V.t (T.ptr (tblT v0 v1 v2 v3))), (5, V.t (T.str v4)), (6, V.t (T.int .i64 v5)), (7, V.t (T.int .i64 v6))], ⟨41, mkTr []⟩, []⟩
def L42_3 (v0 : List UInt8) (v1 v2 v3 : T) (v4 : List UInt8) (v5 v6 : Int) : Option T := runO acfg (pureFin acfg 42) [.loop 42 none (codeOf acfg 42 [1, 1, 1, 0, 1, 0, 0, 1, 0, 0, 1, 1, 1, 1, 0, 0]), .block 2, .block 1, .code 42 none (codeOf acfg 42 [1, 1, 1, 0, 1, 0, 0, 1, 1]), .round 42 none (codeOf acfg 42 [1, 1, 1, 0, 1, 0, 0]) 14, .block 0, .code 42 none (codeOf acfg 42 [1, 1, 1, 1])] ⟨mkTs 74 [(1, V.t (T.ptr (tblT v0 v1 v2 v3))), (5, V.t (T.str v4)), (6, V.t (T.int .i64 v5)), (7, V.t (T.int .i64 v6))], ⟨38, mkTr []⟩, []⟩
def L42_4 (v0 : List UInt8) (v1 v2 v3 : T) (v4 : List UInt8) (v5 v6 : Int) : Option T := runO acfg (pureFin acfg 42) [.loop 42 none (codeOf acfg 42 [1, 1, 1, 0, 1, 0, 0, 1, 0, 0, 1, 1, 1, 1, 0, 0]), .block 2, .block 1, .code 42 none (codeOf acfg 42 [1, 1, 1, 0, 1, 0, 0, 1, 1]), .round 42 none (codeOf acfg 42 [1, 1, 1, 0, 1, 0, 0]) 14, .block 0, .code 42 none (codeOf acfg 42 [1, 1, 1, 1])] ⟨mkTs 74 [(1, V.t (T.ptr (tblT v0 v1 v2 v3))), (5, V.t (T.str v4)), (6, V.t (T.int .i64 v5)), (7, V.t (T.int .i64 v6))], ⟨35, mkTr []⟩, []⟩
theorem L42_1_step (v0 : List UInt8) (v1 v2 v3 : T) (v4 : List UInt8) (v5 : Int) (r : T) (h : (
 (fldT 1 none (T.ptr (tblT v0 v1 v2 v3))).bind fun x1 =>
 (derefT none x1).bind fun x2 =>
 (lenT x2).bind fun x3 =>
 bif iLt v5 x3 then
  bif iLt 0 v5 then
   bif sCatOK v4 [59, 32] then
   (fldT 1 none (T.ptr (tblT v0 v1 v2 v3))).bind fun x4 =>
   (derefT none x4).bind fun x5 =>
   (idxT 1 x5 v5).bind fun x6 =>
   (derefT none x6).bind fun x7 =>
   (T.str? x7).bind fun x8 =>
   bif sCatOK (sCat v4 [59, 32]) x8 then
   (fldT 3 none (T.ptr (tblT v0 v1 v2 v3))).bind fun x9 =>
   (derefT none x9).bind fun x10 =>
   (idxT 1 x10 v5).bind fun x11 =>
   (derefT none x11).bind fun x12 =>
   (T.bool? x12).bind fun x13 =>
   bif x13 then
    bif (sCatOK (sCat (sCat v4 [59, 32]) x8) [33]) then
    L42_2 v0 v1 v2 v3 (sCat (sCat (sCat v4 [59, 32]) x8) [33]) v5 0
    else none
   else
    L42_3 v0 v1 v2 v3 (sCat (sCat v4 [59, 32]) x8) v5 0
   else none
   else none
  else
   (fldT 1 none (T.ptr (tblT v0 v1 v2 v3))).bind fun x14 =>
   (derefT none x14).bind fun x15 =>
   (idxT 1 x15 v5).bind fun x16 =>
   (derefT none x16).bind fun x17 =>
   (T.str? x17).bind fun x18 =>
   bif sCatOK v4 x18 then
   (fldT 3 none (T.ptr (tblT v0 v1 v2 v3))).bind fun x19 =>
   (derefT none x19).bind fun x20 =>
   (idxT 1 x20 v5).bind fun x21 =>
   (derefT none x21).bind fun x22 =>
   (T.bool? x22).bind fun x23 =>
   bif x23 then
    bif sCatOK (sCat v4 x18) [33] then
    L42_3 v0 v1 v2 v3 (sCat (sCat v4 x18) [33]) v5 0
    else none
   else
    L42_4 v0 v1 v2 v3 (sCat v4 x18) v5 0
   else none
 else
  bif sCatOK v4 [32, 125] then
  some (T.tup [T.str (sCat v4 [32, 125]), T.int .i64 0])
  else none) = some r) : L42_1 v0 v1 v2 v3 v4 v5 = some r :=
 rd h
theorem L42_2_step (v0 : List UInt8) (v1 v2 v3 : T) (v4 : List UInt8) (v5 v6 : Int) (r : T) (h : (
 (fldT 2 none (T.ptr (tblT v0 v1 v2 v3))).bind fun x1 =>
 (derefT none x1).bind fun x2 =>
 (idxT 1 x2 v5).bind fun x3 =>
 (derefT none x3).bind fun x4 =>
 (lenT x4).bind fun x5 =>
 bif iLt v6 x5 then
  bif iEq v6 0 then
   bif sCatOK v4 [58, 32] then
   (fldT 1 none (T.ptr (tblT v0 v1 v2 v3))).bind fun x6 =>
   (derefT none x6).bind fun x7 =>
   (fldT 2 none (T.ptr (tblT v0 v1 v2 v3))).bind fun x8 =>
   (derefT none x8).bind fun x9 =>
   (idxT 1 x9 v5).bind fun x10 =>
   (derefT none x10).bind fun x11 =>
   (idxT 1 x11 v6).bind fun x12 =>
   (derefT none x12).bind fun x13 =>
   (T.int? .i64 x13).bind fun x14 =>
   (idxT 1 x7 x14).bind fun x15 =>
   (derefT none x15).bind fun x16 =>
   (T.str? x16).bind fun x17 =>
   bif sCatOK (sCat v4 [58, 32]) x17 then
   L42_2 v0 v1 v2 v3 (sCat (sCat v4 [58, 32]) x17) v5 (iAdd .i64 v6 1)
   else none
   else none
  else
   bif sCatOK v4 [44, 32] then
   (fldT 1 none (T.ptr (tblT v0 v1 v2 v3))).bind fun x18 =>
   (derefT none x18).bind fun x19 =>
   (fldT 2 none (T.ptr (tblT v0 v1 v2 v3))).bind fun x20 =>
   (derefT none x20).bind fun x21 =>
   (idxT 1 x21 v5).bind fun x22 =>
   (derefT none x22).bind fun x23 =>
   (idxT 1 x23 v6).bind fun x24 =>
   (derefT none x24).bind fun x25 =>
   (T.int? .i64 x25).bind fun x26 =>
   (idxT 1 x19 x26).bind fun x27 =>
   (derefT none x27).bind fun x28 =>
   (T.str? x28).bind fun x29 =>
   bif sCatOK (sCat v4 [44, 32]) x29 then
   L42_2 v0 v1 v2 v3 (sCat (sCat v4 [44, 32]) x29) v5 (iAdd .i64 v6 1)
   else none
   else none
 else
  L42_1 v0 v1 v2 v3 v4 (iAdd .i64 v5 1)) = some r) : L42_2 v0 v1 v2 v3 v4 v5 v6 = some r :=
 rd h
theorem L42_3_step (v0 : List UInt8) (v1 v2 v3 : T) (v4 : List UInt8) (v5 v6 : Int) (r : T) (h : (
 (fldT 2 none (T.ptr (tblT v0 v1 v2 v3))).bind fun x1 =>
 (derefT none x1).bind fun x2 =>
 (idxT 1 x2 v5).bind fun x3 =>
 (derefT none x3).bind fun x4 =>
 (lenT x4).bind fun x5 =>
 bif iLt v6 x5 then
  bif iEq v6 0 then
   bif sCatOK v4 [58, 32] then
   (fldT 1 none (T.ptr (tblT v0 v1 v2 v3))).bind fun x6 =>
   (derefT none x6).bind fun x7 =>
   (fldT 2 none (T.ptr (tblT v0 v1 v2 v3))).bind fun x8 =>
   (derefT none x8).bind fun x9 =>
   (idxT 1 x9 v5).bind fun x10 =>
   (derefT none x10).bind fun x11 =>
   (idxT 1 x11 v6).bind fun x12 =>
   (derefT none x12).bind fun x13 =>
   (T.int? .i64 x13).bind fun x14 =>
   (idxT 1 x7 x14).bind fun x15 =>
   (derefT none x15).bind fun x16 =>
   (T.str? x16).bind fun x17 =>
   bif sCatOK (sCat v4 [58, 32]) x17 then
   L42_3 v0 v1 v2 v3 (sCat (sCat v4 [58, 32]) x17) v5 (iAdd .i64 v6 1)
   else none
   else none
  else
   bif sCatOK v4 [44, 32] then
   (fldT 1 none (T.ptr (tblT v0 v1 v2 v3))).bind fun x18 =>
   (derefT none x18).bind fun x19 =>
   (fldT 2 none (T.ptr (tblT v0 v1 v2 v3))).bind fun x20 =>
   (derefT none x20).bind fun x21 =>
   (idxT 1 x21 v5).bind fun x22 =>
   (derefT none x22).bind fun x23 =>
   (idxT 1 x23 v6).bind fun x24 =>
   (derefT none x24).bind fun x25 =>
   (T.int? .i64 x25).bind fun x26 =>
   (idxT 1 x19 x26).bind fun x27 =>
   (derefT none x27).bind fun x28 =>
   (T.str? x28).bind fun x29 =>
   bif sCatOK (sCat v4 [44, 32]) x29 then
   L42_3 v0 v1 v2 v3 (sCat (sCat v4 [44, 32]) x29) v5 (iAdd .i64 v6 1)
   else none
   else none
 else
  L42_1 v0 v1 v2 v3 v4 (iAdd .i64 v5 1)) = some r) : L42_3 v0 v1 v2 v3 v4 v5 v6 = some r :=
 rd h
theorem L42_4_step (v0 : List UInt8) (v1 v2 v3 : T) (v4 : List UInt8) (v5 v6 : Int) (r : T) (h : (
 (fldT 2 none (T.ptr (tblT v0 v1 v2 v3))).bind fun x1 =>
 (derefT none x1).bind fun x2 =>
 (idxT 1 x2 v5).bind fun x3 =>
 (derefT none x3).bind fun x4 =>
 (lenT x4).bind fun x5 =>
 bif iLt v6 x5 then
  bif iEq v6 0 then
   bif sCatOK v4 [58, 32] then
   (fldT 1 none (T.ptr (tblT v0 v1 v2 v3))).bind fun x6 =>
   (derefT none x6).bind fun x7 =>
   (fldT 2 none (T.ptr (tblT v0 v1 v2 v3))).bind fun x8 =>
   (derefT none x8).bind fun x9 =>
   (idxT 1 x9 v5).bind fun x10 =>
   (derefT none x10).bind fun x11 =>
   (idxT 1 x11 v6).bind fun x12 =>
   (derefT none x12).bind fun x13 =>
   (T.int? .i64 x13).bind fun x14 =>
   (idxT 1 x7 x14).bind fun x15 =>
   (derefT none x15).bind fun x16 =>
   (T.str? x16).bind fun x17 =>
   bif sCatOK (sCat v4 [58, 32]) x17 then
   L42_4 v0 v1 v2 v3 (sCat (sCat v4 [58, 32]) x17) v5 (iAdd .i64 v6 1)
   else none
   else none
  else
   bif sCatOK v4 [44, 32] then
   (fldT 1 none (T.ptr (tblT v0 v1 v2 v3))).bind fun x18 =>
   (derefT none x18).bind fun x19 =>
   (fldT 2 none (T.ptr (tblT v0 v1 v2 v3))).bind fun x20 =>
   (derefT none x20).bind fun x21 =>
   (idxT 1 x21 v5).bind fun x22 =>
   (derefT none x22).bind fun x23 =>
   (idxT 1 x23 v6).bind fun x24 =>
   (derefT none x24).bind fun x25 =>
   (T.int? .i64 x25).bind fun x26 =>
   (idxT 1 x19 x26).bind fun x27 =>
   (derefT none x27).bind fun x28 =>
   (T.str? x28).bind fun x29 =>
   bif sCatOK (sCat v4 [44, 32]) x29 then
   L42_4 v0 v1 v2 v3 (sCat (sCat v4 [44, 32]) x29) v5 (iAdd .i64 v6 1)
   else none
   else none
 else
  L42_1 v0 v1 v2 v3 v4 (iAdd .i64 v5 1)) = some r) : L42_4 v0 v1 v2 v3 v4 v5 v6 = some r :=
 rd h
theorem fn42 (p : List UInt8) (q s u r : T) (h : (
 bif (vfits (V.t (tblT p q s u)) (some 4)) then
 (derefT (some 4) (T.ptr (tblT p q s u))).bind fun x1 =>
 (T.agg? (List.length D4) x1).bind fun x2 =>
 (T.str? (nthT x2 0)).bind fun x3 =>
 (fnO acfg 19 [tblT x3 (nthT x2 1) (nthT x2 2) (nthT x2 3)]).bind fun x4 =>
 bif T.scalar x4 then
 (T.int? .i64 x4).bind fun x5 =>
 bif bNot (iEq x5 0) then
  some (T.tup [T.str [], T.int .i64 x5])
 else
  bif sCatOK [108, 97, 116, 116, 105, 99, 101, 32] p then
  bif sCatOK (sCat [108, 97, 116, 116, 105, 99, 101, 32] p) [32, 123, 32] then
  L42_1 p q s u (sCat (sCat [108, 97, 116, 116, 105, 99, 101, 32] p) [32, 123, 32]) 0
  else none
  else none
 else none
 else none) = some r) : fnO acfg 42 [tblT p q s u] = some r :=
 fo h
def L83_1 (v0 : List UInt8) (v1 v2 v3 v4 : T) (v5 v6 : Int) (v7 v8 v9 : Nat) (v10 : Int) (v11 : Nat) (v12 : List V) : Option T := runO acfg (pureFin acfg 83) [.loop 83 none (codeOf acfg 83 [1, 1, 1, 1, 1, 0, 1, 0, 0]), .block 0, .code 83 none (codeOf acfg 83 [1, 1, 1, 1, 1, 1])] ⟨mkTs 48 [(2, V.t (T.ptr (tblT v0 v1 v2 v3))), (5, V.ref 2 0 0 (some 2)), (6, V.t T.nils), (25, V.t v4), (26, V.t (T.int .i64 v5)), (27, V.t (T.int .i64 v6))], ⟨56, mkTr [(2, Apex.Obj.cells 0 120 false [V.ref 2 0 0 (some 2), V.msl 43 v7 v8 v9 none]), (42, Apex.Obj.cells 0 5 false [V.t (T.int .u8 v10)]), (43, Apex.Obj.cells v11 5 false v12)]⟩, []⟩
def L83_2 (v0 : List UInt8) (v1 v2 v3 v4 : T) (v5 v6 : Int) : Option T := runO acfg (pureFin acfg 83) [.loop 83 none (codeOf acfg 83 [1, 1, 1, 1, 1, 0, 1, 0, 0]), .block 0, .code 83 none (codeOf acfg 83 [1, 1, 1, 1, 1, 1])] ⟨mkTs 48 [(2, V.t (T.ptr (tblT v0 v1 v2 v3))), (5, V.ref 2 0 0 (some 2)), (6, V.t T.nils), (25, V.t v4), (26, V.t (T.int .i64 v5)), (27, V.t (T.int .i64 v6))], ⟨40, mkTr [(2, Apex.Obj.cells 0 120 false [V.ref 2 0 0 (some 2), V.t T.nils])]⟩, []⟩
def L83_3 (v0 : List UInt8) (v1 v2 v3 v4 : T) (v5 v6 : Int) (v7 v8 v9 v10 : Nat) (v11 : List V) (v12 : Int) : Option T := runO acfg (pureFin acfg 83) [.loop 83 none (codeOf acfg 83 [1, 1, 1, 1, 1, 0, 1, 0, 0]), .block 0, .code 83 none (codeOf acfg 83 [1, 1, 1, 1, 1, 1])] ⟨mkTs 48 [(2, V.t (T.ptr (tblT v0 v1 v2 v3))), (5, V.ref 2 0 0 (some 2)), (6, V.t T.nils), (25, V.t v4), (26, V.t (T.int .i64 v5)), (27, V.t (T.int .i64 v6))], ⟨56, mkTr [(2, Apex.Obj.cells 0 120 false [V.ref 2 0 0 (some 2), V.msl 19 v7 v8 v9 none]), (19, Apex.Obj.cells v10 5 false v11), (42, Apex.Obj.cells 0 5 false [V.t (T.int .u8 v12)])]⟩, []⟩
def L83_4 (v0 : List UInt8) (v1 v2 v3 v4 : T) (v5 v6 : Int) (v7 v8 v9 v10 : Nat) (v11 : List V) : Option T := runO acfg (pureFin acfg 83) [.loop 83 none (codeOf acfg 83 [1, 1, 1, 1, 1, 0, 1, 0, 0]), .block 0, .code 83 none (codeOf acfg 83 [1, 1, 1, 1, 1, 1])] ⟨mkTs 48 [(2, V.t (T.ptr (tblT v0 v1 v2 v3))), (5, V.ref 2 0 0 (some 2)), (6, V.t T.nils), (25, V.t v4), (26, V.t (T.int .i64 v5)), (27, V.t (T.int .i64 v6))], ⟨40, mkTr [(2, Apex.Obj.cells 0 120 false [V.ref 2 0 0 (some 2), V.msl 19 v7 v8 v9 none]), (19, Apex.Obj.cells v10 5 false v11)]⟩, []⟩
def L83_7 (v0 : List UInt8) (v1 v2 v3 : T) (v4 v5 v6 : Nat) (v7 : T) (v8 v9 : Int) (v10 v11 v12 v13 : Nat) (v14 : List V) (v15 : Int) (v16 : Nat) (v17 : List V) : Option T := runO acfg (pureFin acfg 83) [.loop 83 none (codeOf acfg 83 [1, 1, 1, 1, 1, 0, 1, 0, 0]), .block 0, .code 83 none (codeOf acfg 83 [1, 1, 1, 1, 1, 1])] ⟨mkTs 48 [(2, V.t (T.ptr (tblT v0 v1 v2 v3))), (5, V.ref 2 0 0 (some 2)), (6, V.msl 67 v4 v5 v6 none), (25, V.t v7), (26, V.t (T.int .i64 v8)), (27, V.t (T.int .i64 v9))], ⟨68, mkTr [(2, Apex.Obj.cells 0 120 false [V.ref 2 0 0 (some 2), V.msl 19 v10 v11 v12 none]), (19, Apex.Obj.cells v13 5 false v14), (42, Apex.Obj.cells 0 5 false [V.t (T.int .u8 v15)]), (67, Apex.Obj.cells v16 9 false v17)]⟩, []⟩
def L83_8 (v0 : List UInt8) (v1 v2 v3 : T) (v4 v5 v6 : Nat) (v7 : T) (v8 v9 : Int) (v10 v11 v12 v13 : Nat) (v14 : List V) (v15 : Nat) (v16 : List V) : Option T := runO acfg (pureFin acfg 83) [.loop 83 none (codeOf acfg 83 [1, 1, 1, 1, 1, 0, 1, 0, 0]), .block 0, .code 83 none (codeOf acfg 83 [1, 1, 1, 1, 1, 1])] ⟨mkTs 48 [(2, V.t (T.ptr (tblT v0 v1 v2 v3))), (5, V.ref 2 0 0 (some 2)), (6, V.msl 51 v4 v5 v6 none), (25, V.t v7), (26, V.t (T.int .i64 v8)), (27, V.t (T.int .i64 v9))], ⟨52, mkTr [(2, Apex.Obj.cells 0 120 false [V.ref 2 0 0 (some 2), V.msl 19 v10 v11 v12 none]), (19, Apex.Obj.cells v13 5 false v14), (51, Apex.Obj.cells v15 9 false v16)]⟩, []⟩
theorem L83_3_step (v0 : List UInt8) (v1 v2 v3 v4 : T) (v5 v6 : Int) (v7 v8 v9 v10 : Nat) (v11 : List V) (v12 : Int) (r : T) (h : (
 bif iLt v6 v5 then
  (idxT 1 v4 v6).bind fun x1 =>
  (derefT none x1).bind fun x2 =>
  (T.int? .i64 x2).bind fun x3 =>
  (fldT 1 none (T.ptr (tblT v0 v1 v2 v3))).bind fun x4 =>
  (derefT none x4).bind fun x5 =>
  (idxT 1 x5 x3).bind fun x6 =>
  (derefT none x6).bind fun x7 =>
  (T.str? x7).bind fun x8 =>
  bif objBd 68 (Apex.Obj.cells v10 5 false v11) then
  L83_7 v0 v1 v2 v3 1 0 1 v4 v5 (iAdd .i64 v6 1) v7 v8 v9 v10 v11 v12 1 (rowNew [] [V.t (T.str x8)])
  else none
 else
  bif Nat.ble 1 v9 then
  bif natEq v7 v10 then
  (bytesV v11 v8 (nInt v9)).bind fun x9 =>
  some (T.str x9)
  else none
  else none) = some r) : L83_3 v0 v1 v2 v3 v4 v5 v6 v7 v8 v9 v10 v11 v12 = some r :=
 rdr [19] h
theorem L83_4_step (v0 : List UInt8) (v1 v2 v3 v4 : T) (v5 v6 : Int) (v7 v8 v9 v10 : Nat) (v11 : List V) (r : T) (h : (
 bif iLt v6 v5 then
  (idxT 1 v4 v6).bind fun x1 =>
  (derefT none x1).bind fun x2 =>
  (T.int? .i64 x2).bind fun x3 =>
  (fldT 1 none (T.ptr (tblT v0 v1 v2 v3))).bind fun x4 =>
  (derefT none x4).bind fun x5 =>
  (idxT 1 x5 x3).bind fun x6 =>
  (derefT none x6).bind fun x7 =>
  (T.str? x7).bind fun x8 =>
  bif objBd 52 (Apex.Obj.cells v10 5 false v11) then
  L83_8 v0 v1 v2 v3 1 0 1 v4 v5 (iAdd .i64 v6 1) v7 v8 v9 v10 v11 1 (rowNew [] [V.t (T.str x8)])
  else none
 else
  bif Nat.ble 1 v9 then
  bif natEq v7 v10 then
  (bytesV v11 v8 (nInt v9)).bind fun x9 =>
  some (T.str x9)
  else none
  else none) = some r) : L83_4 v0 v1 v2 v3 v4 v5 v6 v7 v8 v9 v10 v11 = some r :=
 rdr [19] h
theorem L83_7_step (v0 : List UInt8) (v1 v2 v3 : T) (v4 v5 v6 : Nat) (v7 : T) (v8 v9 : Int) (v10 v11 v12 v13 : Nat) (v14 : List V) (v15 : Int) (v16 : Nat) (v17 : List V) (r : T) (h : (
 bif iLt v9 v8 then
  (idxT 1 v7 v9).bind fun x1 =>
  (derefT none x1).bind fun x2 =>
  (T.int? .i64 x2).bind fun x3 =>
  (fldT 1 none (T.ptr (tblT v0 v1 v2 v3))).bind fun x4 =>
  (derefT none x4).bind fun x5 =>
  (idxT 1 x5 x3).bind fun x6 =>
  (derefT none x6).bind fun x7 =>
  (T.str? x7).bind fun x8 =>
  bif natEq v16 v4 then
  bif (appOK v17 v5 v6 1 [V.t (T.str x8)] 16) then
  bif objBd 68 (Apex.Obj.cells v13 5 false v14) then
  bif (objBd 68 (Apex.Obj.cells (appGen v16 [V.t (T.str x8)]) 9 false (appCs v17 v5 [V.t (T.str x8)]))) then
  L83_7 v0 v1 v2 v3 (appGen v16 [V.t (T.str x8)]) 0 (appLen v6 [V.t (T.str x8)]) v7 v8 (iAdd .i64 v9 1) v10 v11 v12 v13 v14 v15 (appGen v16 [V.t (T.str x8)]) (appCs v17 v5 [V.t (T.str x8)])
  else none
  else none
  else none
  else none
 else
  bif iLt 0 (nInt v6) then
   bif natEq v16 v4 then
   (rowT none v17 v5 v6).bind fun x9 =>
   (fnO acfg 84 [T.sl false 1 x9, T.str [44, 32]]).bind fun x10 =>
   bif T.scalar x10 then
   (T.str? x10).bind fun x11 =>
   bif sCatOK [58, 32] x11 then
   bif natEq v13 v10 then
   bif (appOK v14 v11 v12 1 (elemsS (sCat [58, 32] x11)) 1) then
   bif (natEq (appGen v13 (elemsS (sCat [58, 32] x11))) (appGen v13 (elemsS (sCat [58, 32] x11)))) then
   (bytesV (appCs v14 v11 (elemsS (sCat [58, 32] x11))) (appOff v11 (elemsS (sCat [58, 32] x11))) (nInt (appLen v12 (elemsS (sCat [58, 32] x11))))).bind fun x12 =>
   some (T.str x12)
   else none
   else none
   else none
   else none
   else none
   else none
  else
   bif Nat.ble 1 v12 then
   bif natEq v10 v13 then
   (bytesV v14 v11 (nInt v12)).bind fun x13 =>
   some (T.str x13)
   else none
   else none) = some r) : L83_7 v0 v1 v2 v3 v4 v5 v6 v7 v8 v9 v10 v11 v12 v13 v14 v15 v16 v17 = some r :=
 rdr [19, 67] h
theorem L83_8_step (v0 : List UInt8) (v1 v2 v3 : T) (v4 v5 v6 : Nat) (v7 : T) (v8 v9 : Int) (v10 v11 v12 v13 : Nat) (v14 : List V) (v15 : Nat) (v16 : List V) (r : T) (h : (
 bif iLt v9 v8 then
  (idxT 1 v7 v9).bind fun x1 =>
  (derefT none x1).bind fun x2 =>
  (T.int? .i64 x2).bind fun x3 =>
  (fldT 1 none (T.ptr (tblT v0 v1 v2 v3))).bind fun x4 =>
  (derefT none x4).bind fun x5 =>
  (idxT 1 x5 x3).bind fun x6 =>
  (derefT none x6).bind fun x7 =>
  (T.str? x7).bind fun x8 =>
  bif natEq v15 v4 then
  bif (appOK v16 v5 v6 1 [V.t (T.str x8)] 16) then
  bif objBd 52 (Apex.Obj.cells v13 5 false v14) then
  bif (objBd 52 (Apex.Obj.cells (appGen v15 [V.t (T.str x8)]) 9 false (appCs v16 v5 [V.t (T.str x8)]))) then
  L83_8 v0 v1 v2 v3 (appGen v15 [V.t (T.str x8)]) 0 (appLen v6 [V.t (T.str x8)]) v7 v8 (iAdd .i64 v9 1) v10 v11 v12 v13 v14 (appGen v15 [V.t (T.str x8)]) (appCs v16 v5 [V.t (T.str x8)])
  else none
  else none
  else none
  else none
 else
  bif iLt 0 (nInt v6) then
   bif natEq v15 v4 then
   (rowT none v16 v5 v6).bind fun x9 =>
   (fnO acfg 84 [T.sl false 1 x9, T.str [44, 32]]).bind fun x10 =>
   bif T.scalar x10 then
   (T.str? x10).bind fun x11 =>
   bif sCatOK [58, 32] x11 then
   bif natEq v13 v10 then
   bif (appOK v14 v11 v12 1 (elemsS (sCat [58, 32] x11)) 1) then
   bif (natEq (appGen v13 (elemsS (sCat [58, 32] x11))) (appGen v13 (elemsS (sCat [58, 32] x11)))) then
   (bytesV (appCs v14 v11 (elemsS (sCat [58, 32] x11))) (appOff v11 (elemsS (sCat [58, 32] x11))) (nInt (appLen v12 (elemsS (sCat [58, 32] x11))))).bind fun x12 =>
   some (T.str x12)
   else none
   else none
   else none
   else none
   else none
   else none
  else
   bif Nat.ble 1 v12 then
   bif natEq v10 v13 then
   (bytesV v14 v11 (nInt v12)).bind fun x13 =>
   some (T.str x13)
   else none
   else none) = some r) : L83_8 v0 v1 v2 v3 v4 v5 v6 v7 v8 v9 v10 v11 v12 v13 v14 v15 v16 = some r :=
 rdr [19, 51] h
theorem fn83 (p : List UInt8) (q s u : T) (a1 : Int) (r : T) (h : (
 bif (vfits (V.t (tblT p q s u)) (some 4)) then
 (fldT 1 none (T.ptr (tblT p q s u))).bind fun x1 =>
 (derefT none x1).bind fun x2 =>
 (idxT 1 x2 a1).bind fun x3 =>
 (derefT none x3).bind fun x4 =>
 (T.str? x4).bind fun x5 =>
 bif isNilL (elemsS x5) then
  (fldT 3 none (T.ptr (tblT p q s u))).bind fun x6 =>
  (derefT none x6).bind fun x7 =>
  (idxT 1 x7 a1).bind fun x8 =>
  (derefT none x8).bind fun x9 =>
  (T.bool? x9).bind fun x10 =>
  bif x10 then
   (fldT 2 none (T.ptr (tblT p q s u))).bind fun x11 =>
   (derefT none x11).bind fun x12 =>
   (idxT 1 x12 a1).bind fun x13 =>
   (derefT none x13).bind fun x14 =>
   (lenT x14).bind fun x15 =>
   L83_1 p q s u x14 x15 0 1 0 1 33 1 (rowNew [] [V.t (T.int .u8 33)])
  else
   (fldT 2 none (T.ptr (tblT p q s u))).bind fun x16 =>
   (derefT none x16).bind fun x17 =>
   (idxT 1 x17 a1).bind fun x18 =>
   (derefT none x18).bind fun x19 =>
   (lenT x19).bind fun x20 =>
   L83_2 p q s u x19 x20 0
 else
  bif (newOK (List.length ([] : List T)) (List.length (elemsS x5)) 1) then
  (fldT 3 none (T.ptr (tblT p q s u))).bind fun x21 =>
  (derefT none x21).bind fun x22 =>
  (idxT 1 x22 a1).bind fun x23 =>
  (derefT none x23).bind fun x24 =>
  (T.bool? x24).bind fun x25 =>
  bif x25 then
   bif (appOK (rowNew [] (elemsS x5)) 0 (lenNew [] (elemsS x5)) 1 [V.t (T.int .u8 33)] 1) then
   (fldT 2 none (T.ptr (tblT p q s u))).bind fun x26 =>
   (derefT none x26).bind fun x27 =>
   (idxT 1 x27 a1).bind fun x28 =>
   (derefT none x28).bind fun x29 =>
   (lenT x29).bind fun x30 =>
   bif (objBd 56 (Apex.Obj.cells (appGen 1 [V.t (T.int .u8 33)]) 5 false (appCs (rowNew [] (elemsS x5)) 0 [V.t (T.int .u8 33)]))) then
   L83_3 p q s u x29 x30 0 2 0 (appLen (lenNew [] (elemsS x5)) [V.t (T.int .u8 33)]) 2 (appCs (rowNew [] (elemsS x5)) 0 [V.t (T.int .u8 33)]) 33
   else none
   else none
  else
   (fldT 2 none (T.ptr (tblT p q s u))).bind fun x31 =>
   (derefT none x31).bind fun x32 =>
   (idxT 1 x32 a1).bind fun x33 =>
   (derefT none x33).bind fun x34 =>
   (lenT x34).bind fun x35 =>
   bif (objBd 40 (Apex.Obj.cells 1 5 false (rowNew [] (elemsS x5)))) then
   L83_4 p q s u x34 x35 0 1 0 (lenNew [] (elemsS x5)) 1 (rowNew [] (elemsS x5))
   else none
  else none
 else none) = some r) : fnO acfg 83 [tblT p q s u, T.int .i64 a1] = some r :=
 fo h
theorem fn11 (p : List UInt8) (q s u r : T) (h : (
 bif (vfits (V.t (tblT p q s u)) (some 4)) then
 (derefT (some 4) (T.ptr (tblT p q s u))).bind fun x1 =>
 (T.agg? (List.length D4) x1).bind fun x2 =>
 (T.str? (nthT x2 0)).bind fun x3 =>
 (fnO acfg 13 [tblT x3 (nthT x2 1) (nthT x2 2) (nthT x2 3)]).bind fun x4 =>
 bif T.scalar x4 then
 (T.bool? x4).bind fun x5 =>
 bif bNot x5 then
  (fnO acfg 14 []).bind fun x6 =>
  bif T.scalar x6 then
  (T.bool? x6).bind fun x7 =>
  some (T.bool x7)
  else none
 else
  (derefT (some 4) (T.ptr (tblT p q s u))).bind fun x8 =>
  (T.agg? (List.length D4) x8).bind fun x9 =>
  (T.str? (nthT x9 0)).bind fun x10 =>
  (fnO acfg 15 [tblT x10 (nthT x9 1) (nthT x9 2) (nthT x9 3)]).bind fun x11 =>
  (T.agg? (List.length D4) x11).bind fun x12 =>
  (T.str? (nthT x12 0)).bind fun x13 =>
  bif (vfits (V.t (tblT x13 (nthT x12 1) (nthT x12 2) (nthT x12 3))) (some 4)) then
  (derefT (some 4) (T.ptr (tblT x13 (nthT x12 1) (nthT x12 2) (nthT x12 3)))).bind fun x14 =>
  (T.agg? (List.length D4) x14).bind fun x15 =>
  (T.str? (nthT x15 0)).bind fun x16 =>
  (fnO acfg 39 [tblT x16 (nthT x15 1) (nthT x15 2) (nthT x15 3)]).bind fun x17 =>
  (T.tup? (List.length [26, 30]) x17).bind fun x18 =>
  (T.agg? (List.length D4) (nthT x18 0)).bind fun x19 =>
  (T.str? (nthT x19 0)).bind fun x20 =>
  (T.int? .i64 (nthT x18 1)).bind fun x21 =>
  bif (vfits (V.t (tblT x20 (nthT x19 1) (nthT x19 2) (nthT x19 3))) (some 4)) then
  (derefT (some 4) (T.ptr (tblT x13 (nthT x12 1) (nthT x12 2) (nthT x12 3)))).bind fun x22 =>
  (T.agg? (List.length D4) x22).bind fun x23 =>
  (T.str? (nthT x23 0)).bind fun x24 =>
  (fnO acfg 40 [tblT x24 (nthT x23 1) (nthT x23 2) (nthT x23 3)]).bind fun x25 =>
  bif T.scalar x25 then
  (T.tup? (List.length [9, 30]) x25).bind fun x26 =>
  (T.str? (nthT x26 0)).bind fun x27 =>
  (T.int? .i64 (nthT x26 1)).bind fun x28 =>
  (derefT (some 4) (T.ptr (tblT p q s u))).bind fun x29 =>
  (T.agg? (List.length D4) x29).bind fun x30 =>
  (T.str? (nthT x30 0)).bind fun x31 =>
  (fnO acfg 41 [tblT x31 (nthT x30 1) (nthT x30 2) (nthT x30 3)]).bind fun x32 =>
  (T.tup? (List.length [26, 30]) x32).bind fun x33 =>
  (T.agg? (List.length D4) (nthT x33 0)).bind fun x34 =>
  (T.str? (nthT x34 0)).bind fun x35 =>
  (T.int? .i64 (nthT x33 1)).bind fun x36 =>
  bif (vfits (V.t (tblT x35 (nthT x34 1) (nthT x34 2) (nthT x34 3))) (some 4)) then
  (derefT (some 4) (T.ptr (tblT p q s u))).bind fun x37 =>
  (T.agg? (List.length D4) x37).bind fun x38 =>
  (T.str? (nthT x38 0)).bind fun x39 =>
  (fnO acfg 42 [tblT x39 (nthT x38 1) (nthT x38 2) (nthT x38 3)]).bind fun x40 =>
  bif T.scalar x40 then
  (T.tup? (List.length [9, 30]) x40).bind fun x41 =>
  (T.str? (nthT x41 0)).bind fun x42 =>
  (T.int? .i64 (nthT x41 1)).bind fun x43 =>
  (derefT (some 4) (T.ptr (tblT x20 (nthT x19 1) (nthT x19 2) (nthT x19 3)))).bind fun x44 =>
  (T.agg? (List.length D4) x44).bind fun x45 =>
  (T.str? (nthT x45 0)).bind fun x46 =>
  (derefT (some 4) (T.ptr (tblT x35 (nthT x34 1) (nthT x34 2) (nthT x34 3)))).bind fun x47 =>
  (T.agg? (List.length D4) x47).bind fun x48 =>
  (T.str? (nthT x48 0)).bind fun x49 =>
  (fnO acfg 20 [tblT x46 (nthT x45 1) (nthT x45 2) (nthT x45 3), tblT x49 (nthT x48 1) (nthT x48 2) (nthT x48 3)]).bind fun x50 =>
  bif T.scalar x50 then
  (T.bool? x50).bind fun x51 =>
  bif x51 then
   bif iEq x21 x36 then
    bif sEq x27 x42 then
     bif iEq x28 x43 then
      (derefT (some 4) (T.ptr (tblT x13 (nthT x12 1) (nthT x12 2) (nthT x12 3)))).bind fun x52 =>
      (T.agg? (List.length D4) x52).bind fun x53 =>
      (T.str? (nthT x53 0)).bind fun x54 =>
      (derefT (some 4) (T.ptr (tblT p q s u))).bind fun x55 =>
      (T.agg? (List.length D4) x55).bind fun x56 =>
      (T.str? (nthT x56 0)).bind fun x57 =>
      (fnO acfg 20 [tblT x54 (nthT x53 1) (nthT x53 2) (nthT x53 3), tblT x57 (nthT x56 1) (nthT x56 2) (nthT x56 3)]).bind fun x58 =>
      bif T.scalar x58 then
      (T.bool? x58).bind fun x59 =>
      bif x59 then
       (fnO acfg 14 []).bind fun x60 =>
       bif T.scalar x60 then
       (T.bool? x60).bind fun x61 =>
       some (T.bool x61)
       else none
      else
       some (T.bool false)
      else none
     else
      some (T.bool false)
    else
     some (T.bool false)
   else
    some (T.bool false)
  else
   some (T.bool false)
  else none
  else none
  else none
  else none
  else none
  else none
 else none
 else none) = some r) : fnO acfg 11 [tblT p q s u] = some r :=
 fo h
end
end Go.Proofs.Try
