import Derived.Test.YtcljaeknhmpecaaCfg
import Derived.Test.YtcljaeknhmpecaaApexA44
import Derived.KernelRfl
set_option linter.all false
set_option linter.unusedVariables false
set_option linter.unusedSimpArgs false
set_option linter.unusedSectionVars false
set_option linter.deprecated false
/- Equations of functions, printed by program. Each is checked by the kernel. -/
namespace Go.Proofs.Try
open Go Go.Apex
set_option maxRecDepth 100000
noncomputable def L21_1k (v0 : T) (v1 : List UInt8) (v2 : T) (v3 : T) (v4 : T) (v5 : Int) (v6 : Int) (v7 : List UInt8) : List Kt := [.loop 21 none (codeOf acfg 21 [1, 1, 1, 0, 1, 0, 0]), .block 0, .code 21 none (codeOf acfg 21 [1, 1, 1, 1])]
noncomputable def L21_1s (v0 : T) (v1 : List UInt8) (v2 : T) (v3 : T) (v4 : T) (v5 : Int) (v6 : Int) (v7 : List UInt8) : St := ⟨(mkTs 159 [(1, (V.t v0)), (2, (V.t (T.ptr (T.agg [(T.str v1), v2, v3, v4])))), (4, (V.ref 1 0 0 (some 4))), (6, (V.t (T.int IntKind.i64 v5))), (7, (V.t T.nils)), (9, (V.t (T.int IntKind.i64 v6)))]), ⟨10, mkTr [(1, (Go.Apex.Obj.cells 0 26 false [(V.t (T.str v7)), (V.t T.nils), (V.t T.nils), (V.t T.nils)]))]⟩, []⟩
noncomputable def L21_1 (v0 : T) (v1 : List UInt8) (v2 : T) (v3 : T) (v4 : T) (v5 : Int) (v6 : Int) (v7 : List UInt8) : Option T := runO acfg (pureFin acfg 21) (L21_1k v0 v1 v2 v3 v4 v5 v6 v7) (L21_1s v0 v1 v2 v3 v4 v5 v6 v7)
noncomputable def L21_2k (v0 : T) (v1 : List UInt8) (v2 : T) (v3 : T) (v4 : T) (v5 : Int) (v6 : Nat) (v7 : Nat) (v8 : Nat) (v9 : Int) (v10 : List UInt8) (v11 : Nat) (v12 : List V) : List Kt := [.loop 21 none (codeOf acfg 21 [1, 1, 1, 0, 1, 0, 0]), .block 0, .code 21 none (codeOf acfg 21 [1, 1, 1, 1])]
noncomputable def L21_2s (v0 : T) (v1 : List UInt8) (v2 : T) (v3 : T) (v4 : T) (v5 : Int) (v6 : Nat) (v7 : Nat) (v8 : Nat) (v9 : Int) (v10 : List UInt8) (v11 : Nat) (v12 : List V) : St := ⟨(mkTs 159 [(1, (V.t v0)), (2, (V.t (T.ptr (T.agg [(T.str v1), v2, v3, v4])))), (4, (V.ref 1 0 0 (some 4))), (6, (V.t (T.int IntKind.i64 v5))), (7, (V.msl 16 v6 v7 v8 none)), (9, (V.t (T.int IntKind.i64 v9)))]), ⟨17, mkTr [(1, (Go.Apex.Obj.cells 0 26 false [(V.t (T.str v10)), (V.t T.nils), (V.t T.nils), (V.t T.nils)])), (16, (Go.Apex.Obj.cells v11 3 false v12))]⟩, []⟩
noncomputable def L21_2 (v0 : T) (v1 : List UInt8) (v2 : T) (v3 : T) (v4 : T) (v5 : Int) (v6 : Nat) (v7 : Nat) (v8 : Nat) (v9 : Int) (v10 : List UInt8) (v11 : Nat) (v12 : List V) : Option T := runO acfg (pureFin acfg 21) (L21_2k v0 v1 v2 v3 v4 v5 v6 v7 v8 v9 v10 v11 v12) (L21_2s v0 v1 v2 v3 v4 v5 v6 v7 v8 v9 v10 v11 v12)
noncomputable def L21_3k (v0 : T) (v1 : List UInt8) (v2 : T) (v3 : T) (v4 : T) (v5 : Int) (v6 : Int) (v7 : List UInt8) : List Kt := [.loop 21 none (codeOf acfg 21 [1, 1, 1, 1, 0, 1, 0, 0]), .block 2, .code 21 none (codeOf acfg 21 [1, 1, 1, 1, 1])]
noncomputable def L21_3s (v0 : T) (v1 : List UInt8) (v2 : T) (v3 : T) (v4 : T) (v5 : Int) (v6 : Int) (v7 : List UInt8) : St := ⟨(mkTs 159 [(1, (V.t v0)), (2, (V.t (T.ptr (T.agg [(T.str v1), v2, v3, v4])))), (4, (V.ref 1 0 0 (some 4))), (6, (V.t (T.int IntKind.i64 v5))), (7, (V.t T.nils)), (10, (V.t (T.int IntKind.i64 v6)))]), ⟨14, mkTr [(1, (Go.Apex.Obj.cells 0 26 false [(V.t (T.str v7)), (V.t T.nils), (V.t T.nils), (V.t T.nils)]))]⟩, []⟩
noncomputable def L21_3 (v0 : T) (v1 : List UInt8) (v2 : T) (v3 : T) (v4 : T) (v5 : Int) (v6 : Int) (v7 : List UInt8) : Option T := runO acfg (pureFin acfg 21) (L21_3k v0 v1 v2 v3 v4 v5 v6 v7) (L21_3s v0 v1 v2 v3 v4 v5 v6 v7)
noncomputable def L21_4k (v0 : T) (v1 : List UInt8) (v2 : T) (v3 : T) (v4 : T) (v5 : Int) (v6 : Nat) (v7 : Nat) (v8 : Nat) (v9 : Int) (v10 : List UInt8) (v11 : Nat) (v12 : List V) : List Kt := [.loop 21 none (codeOf acfg 21 [1, 1, 1, 1, 0, 1, 0, 0]), .block 2, .code 21 none (codeOf acfg 21 [1, 1, 1, 1, 1])]
noncomputable def L21_4s (v0 : T) (v1 : List UInt8) (v2 : T) (v3 : T) (v4 : T) (v5 : Int) (v6 : Nat) (v7 : Nat) (v8 : Nat) (v9 : Int) (v10 : List UInt8) (v11 : Nat) (v12 : List V) : St := ⟨(mkTs 159 [(1, (V.t v0)), (2, (V.t (T.ptr (T.agg [(T.str v1), v2, v3, v4])))), (4, (V.ref 1 0 0 (some 4))), (6, (V.t (T.int IntKind.i64 v5))), (7, (V.msl 16 v6 v7 v8 none)), (10, (V.t (T.int IntKind.i64 v9)))]), ⟨21, mkTr [(1, (Go.Apex.Obj.cells 0 26 false [(V.t (T.str v10)), (V.t T.nils), (V.t T.nils), (V.t T.nils)])), (16, (Go.Apex.Obj.cells v11 3 false v12))]⟩, []⟩
noncomputable def L21_4 (v0 : T) (v1 : List UInt8) (v2 : T) (v3 : T) (v4 : T) (v5 : Int) (v6 : Nat) (v7 : Nat) (v8 : Nat) (v9 : Int) (v10 : List UInt8) (v11 : Nat) (v12 : List V) : Option T := runO acfg (pureFin acfg 21) (L21_4k v0 v1 v2 v3 v4 v5 v6 v7 v8 v9 v10 v11 v12) (L21_4s v0 v1 v2 v3 v4 v5 v6 v7 v8 v9 v10 v11 v12)
noncomputable def L21_6k (v0 : List UInt8) (v1 : T) (v2 : T) (v3 : T) (v4 : Int) (v5 : Nat) (v6 : Nat) (v7 : Nat) (v8 : Nat) (v9 : Nat) (v10 : Nat) (v11 : Int) (v12 : List UInt8) (v13 : Nat) (v14 : List V) (v15 : Nat) (v16 : List V) : List Kt := [.loop 21 none (codeOf acfg 21 [1, 1, 1, 1, 1, 1, 0, 1, 0, 0]), .block 4, .code 21 none (codeOf acfg 21 [1, 1, 1, 1, 1, 1, 1])]
noncomputable def L21_6s (v0 : List UInt8) (v1 : T) (v2 : T) (v3 : T) (v4 : Int) (v5 : Nat) (v6 : Nat) (v7 : Nat) (v8 : Nat) (v9 : Nat) (v10 : Nat) (v11 : Int) (v12 : List UInt8) (v13 : Nat) (v14 : List V) (v15 : Nat) (v16 : List V) : St := ⟨(mkTs 159 [(2, (V.t (T.ptr (T.agg [(T.str v0), v1, v2, v3])))), (4, (V.ref 1 0 0 (some 4))), (6, (V.t (T.int IntKind.i64 v4))), (7, (V.msl 16 v5 v6 v7 none)), (8, (V.msl 30 v8 v9 v10 none)), (12, (V.t (T.int IntKind.i64 v11)))]), ⟨33, mkTr [(1, (Go.Apex.Obj.cells 0 26 false [(V.t (T.str v12)), (V.t T.nils), (V.t T.nils), (V.t T.nils)])), (16, (Go.Apex.Obj.cells v13 3 false v14)), (30, (Go.Apex.Obj.cells v15 3 false v16))]⟩, []⟩
noncomputable def L21_6 (v0 : List UInt8) (v1 : T) (v2 : T) (v3 : T) (v4 : Int) (v5 : Nat) (v6 : Nat) (v7 : Nat) (v8 : Nat) (v9 : Nat) (v10 : Nat) (v11 : Int) (v12 : List UInt8) (v13 : Nat) (v14 : List V) (v15 : Nat) (v16 : List V) : Option T := runO acfg (pureFin acfg 21) (L21_6k v0 v1 v2 v3 v4 v5 v6 v7 v8 v9 v10 v11 v12 v13 v14 v15 v16) (L21_6s v0 v1 v2 v3 v4 v5 v6 v7 v8 v9 v10 v11 v12 v13 v14 v15 v16)
noncomputable def L21_8k (v0 : List UInt8) (v1 : T) (v2 : T) (v3 : T) (v4 : Int) (v5 : Nat) (v6 : Nat) (v7 : Nat) (v8 : Nat) (v9 : Nat) (v10 : Nat) (v11 : Int) (v12 : List UInt8) (v13 : Nat) (v14 : List V) (v15 : Nat) (v16 : List V) (v17 : List UInt8) : List Kt := [.loop 21 none (codeOf acfg 21 [1, 1, 1, 1, 1, 1, 1, 1, 0, 1, 0, 0]), .block 6, .code 21 none (codeOf acfg 21 [1, 1, 1, 1, 1, 1, 1, 1, 1])]
noncomputable def L21_8s (v0 : List UInt8) (v1 : T) (v2 : T) (v3 : T) (v4 : Int) (v5 : Nat) (v6 : Nat) (v7 : Nat) (v8 : Nat) (v9 : Nat) (v10 : Nat) (v11 : Int) (v12 : List UInt8) (v13 : Nat) (v14 : List V) (v15 : Nat) (v16 : List V) (v17 : List UInt8) : St := ⟨(mkTs 159 [(2, (V.t (T.ptr (T.agg [(T.str v0), v1, v2, v3])))), (4, (V.ref 1 0 0 (some 4))), (6, (V.t (T.int IntKind.i64 v4))), (7, (V.msl 16 v5 v6 v7 none)), (8, (V.msl 30 v8 v9 v10 none)), (13, (V.ref 39 0 0 (some 4))), (14, (V.t (T.int IntKind.i64 v11)))]), ⟨42, mkTr [(1, (Go.Apex.Obj.cells 0 26 false [(V.t (T.str v12)), (V.t T.nils), (V.t T.nils), (V.t T.nils)])), (16, (Go.Apex.Obj.cells v13 3 false v14)), (30, (Go.Apex.Obj.cells v15 3 false v16)), (39, (Go.Apex.Obj.cells 0 26 false [(V.t (T.str v17)), (V.t T.nils), (V.t T.nils), (V.t T.nils)]))]⟩, []⟩
noncomputable def L21_8 (v0 : List UInt8) (v1 : T) (v2 : T) (v3 : T) (v4 : Int) (v5 : Nat) (v6 : Nat) (v7 : Nat) (v8 : Nat) (v9 : Nat) (v10 : Nat) (v11 : Int) (v12 : List UInt8) (v13 : Nat) (v14 : List V) (v15 : Nat) (v16 : List V) (v17 : List UInt8) : Option T := runO acfg (pureFin acfg 21) (L21_8k v0 v1 v2 v3 v4 v5 v6 v7 v8 v9 v10 v11 v12 v13 v14 v15 v16 v17) (L21_8s v0 v1 v2 v3 v4 v5 v6 v7 v8 v9 v10 v11 v12 v13 v14 v15 v16 v17)
noncomputable def L21_9k (v0 : List UInt8) (v1 : T) (v2 : T) (v3 : T) (v4 : Int) (v5 : Nat) (v6 : Nat) (v7 : Nat) (v8 : Nat) (v9 : Nat) (v10 : Nat) (v11 : Int) (v12 : Int) (v13 : List UInt8) (v14 : Nat) (v15 : List V) (v16 : Nat) (v17 : List V) (v18 : List UInt8) (v19 : Nat) (v20 : Nat) (v21 : Nat) (v22 : Nat) (v23 : Nat) (v24 : Nat) (v25 : Nat) (v26 : List V) (v27 : Nat) (v28 : List V) : List Kt := [.loop 21 none (codeOf acfg 21 [1, 1, 1, 1, 1, 1, 1, 1, 0, 1, 0, 0, 1, 0, 0, 1, 1, 0, 1, 0, 0]), .block 8, .code 21 none (codeOf acfg 21 [1, 1, 1, 1, 1, 1, 1, 1, 0, 1, 0, 0, 1, 0, 0, 1, 1, 1]), .block 7, .code 21 none (codeOf acfg 21 [1, 1, 1, 1, 1, 1, 1, 1, 0, 1, 0, 0, 1, 1]), .round 21 none (codeOf acfg 21 [1, 1, 1, 1, 1, 1, 1, 1, 0, 1, 0, 0]) 42, .block 6, .code 21 none (codeOf acfg 21 [1, 1, 1, 1, 1, 1, 1, 1, 1])]
noncomputable def L21_9s (v0 : List UInt8) (v1 : T) (v2 : T) (v3 : T) (v4 : Int) (v5 : Nat) (v6 : Nat) (v7 : Nat) (v8 : Nat) (v9 : Nat) (v10 : Nat) (v11 : Int) (v12 : Int) (v13 : List UInt8) (v14 : Nat) (v15 : List V) (v16 : Nat) (v17 : List V) (v18 : List UInt8) (v19 : Nat) (v20 : Nat) (v21 : Nat) (v22 : Nat) (v23 : Nat) (v24 : Nat) (v25 : Nat) (v26 : List V) (v27 : Nat) (v28 : List V) : St := ⟨(mkTs 159 [(2, (V.t (T.ptr (T.agg [(T.str v0), v1, v2, v3])))), (4, (V.ref 1 0 0 (some 4))), (6, (V.t (T.int IntKind.i64 v4))), (7, (V.msl 16 v5 v6 v7 none)), (8, (V.msl 30 v8 v9 v10 none)), (13, (V.ref 39 0 0 (some 4))), (14, (V.t (T.int IntKind.i64 v11))), (15, (V.t T.nils)), (16, (V.t (T.int IntKind.i64 v12)))]), ⟨75, mkTr [(1, (Go.Apex.Obj.cells 0 26 false [(V.t (T.str v13)), (V.t T.nils), (V.t T.nils), (V.t T.nils)])), (16, (Go.Apex.Obj.cells v14 3 false v15)), (30, (Go.Apex.Obj.cells v16 3 false v17)), (39, (Go.Apex.Obj.cells 0 26 false [(V.t (T.str v18)), (V.msl 56 v19 v20 v21 none), (V.t T.nils), (V.msl 68 v22 v23 v24 none)])), (56, (Go.Apex.Obj.cells v25 9 false v26)), (68, (Go.Apex.Obj.cells v27 4 false v28))]⟩, []⟩
noncomputable def L21_9 (v0 : List UInt8) (v1 : T) (v2 : T) (v3 : T) (v4 : Int) (v5 : Nat) (v6 : Nat) (v7 : Nat) (v8 : Nat) (v9 : Nat) (v10 : Nat) (v11 : Int) (v12 : Int) (v13 : List UInt8) (v14 : Nat) (v15 : List V) (v16 : Nat) (v17 : List V) (v18 : List UInt8) (v19 : Nat) (v20 : Nat) (v21 : Nat) (v22 : Nat) (v23 : Nat) (v24 : Nat) (v25 : Nat) (v26 : List V) (v27 : Nat) (v28 : List V) : Option T := runO acfg (pureFin acfg 21) (L21_9k v0 v1 v2 v3 v4 v5 v6 v7 v8 v9 v10 v11 v12 v13 v14 v15 v16 v17 v18 v19 v20 v21 v22 v23 v24 v25 v26 v27 v28) (L21_9s v0 v1 v2 v3 v4 v5 v6 v7 v8 v9 v10 v11 v12 v13 v14 v15 v16 v17 v18 v19 v20 v21 v22 v23 v24 v25 v26 v27 v28)
noncomputable def L21_10k (v0 : List UInt8) (v1 : T) (v2 : T) (v3 : T) (v4 : Int) (v5 : Nat) (v6 : Nat) (v7 : Nat) (v8 : Nat) (v9 : Nat) (v10 : Nat) (v11 : Int) (v12 : Int) (v13 : Int) (v14 : List UInt8) (v15 : Nat) (v16 : List V) (v17 : Nat) (v18 : List V) (v19 : List UInt8) (v20 : Nat) (v21 : Nat) (v22 : Nat) (v23 : Nat) (v24 : Nat) (v25 : Nat) (v26 : Nat) (v27 : List V) (v28 : Nat) (v29 : List V) : List Kt := [.loop 21 none (codeOf acfg 21 [1, 1, 1, 1, 1, 1, 1, 1, 0, 1, 0, 0, 1, 0, 0, 1, 1, 0, 1, 0, 0, 1, 0, 0, 1, 0, 0]), .block 10, .block 9, .code 21 none (codeOf acfg 21 [1, 1, 1, 1, 1, 1, 1, 1, 0, 1, 0, 0, 1, 0, 0, 1, 1, 0, 1, 0, 0, 1, 1]), .round 21 none (codeOf acfg 21 [1, 1, 1, 1, 1, 1, 1, 1, 0, 1, 0, 0, 1, 0, 0, 1, 1, 0, 1, 0, 0]) 75, .block 8, .code 21 none (codeOf acfg 21 [1, 1, 1, 1, 1, 1, 1, 1, 0, 1, 0, 0, 1, 0, 0, 1, 1, 1]), .block 7, .code 21 none (codeOf acfg 21 [1, 1, 1, 1, 1, 1, 1, 1, 0, 1, 0, 0, 1, 1]), .round 21 none (codeOf acfg 21 [1, 1, 1, 1, 1, 1, 1, 1, 0, 1, 0, 0]) 42, .block 6, .code 21 none (codeOf acfg 21 [1, 1, 1, 1, 1, 1, 1, 1, 1])]
noncomputable def L21_10s (v0 : List UInt8) (v1 : T) (v2 : T) (v3 : T) (v4 : Int) (v5 : Nat) (v6 : Nat) (v7 : Nat) (v8 : Nat) (v9 : Nat) (v10 : Nat) (v11 : Int) (v12 : Int) (v13 : Int) (v14 : List UInt8) (v15 : Nat) (v16 : List V) (v17 : Nat) (v18 : List V) (v19 : List UInt8) (v20 : Nat) (v21 : Nat) (v22 : Nat) (v23 : Nat) (v24 : Nat) (v25 : Nat) (v26 : Nat) (v27 : List V) (v28 : Nat) (v29 : List V) : St := ⟨(mkTs 159 [(2, (V.t (T.ptr (T.agg [(T.str v0), v1, v2, v3])))), (4, (V.ref 1 0 0 (some 4))), (6, (V.t (T.int IntKind.i64 v4))), (7, (V.msl 16 v5 v6 v7 none)), (8, (V.msl 30 v8 v9 v10 none)), (13, (V.ref 39 0 0 (some 4))), (14, (V.t (T.int IntKind.i64 v11))), (15, (V.t T.nils)), (16, (V.t (T.int IntKind.i64 v12))), (17, (V.t (T.int IntKind.i64 v13)))]), ⟨79, mkTr [(1, (Go.Apex.Obj.cells 0 26 false [(V.t (T.str v14)), (V.t T.nils), (V.t T.nils), (V.t T.nils)])), (16, (Go.Apex.Obj.cells v15 3 false v16)), (30, (Go.Apex.Obj.cells v17 3 false v18)), (39, (Go.Apex.Obj.cells 0 26 false [(V.t (T.str v19)), (V.msl 56 v20 v21 v22 none), (V.t T.nils), (V.msl 68 v23 v24 v25 none)])), (56, (Go.Apex.Obj.cells v26 9 false v27)), (68, (Go.Apex.Obj.cells v28 4 false v29))]⟩, []⟩
noncomputable def L21_10 (v0 : List UInt8) (v1 : T) (v2 : T) (v3 : T) (v4 : Int) (v5 : Nat) (v6 : Nat) (v7 : Nat) (v8 : Nat) (v9 : Nat) (v10 : Nat) (v11 : Int) (v12 : Int) (v13 : Int) (v14 : List UInt8) (v15 : Nat) (v16 : List V) (v17 : Nat) (v18 : List V) (v19 : List UInt8) (v20 : Nat) (v21 : Nat) (v22 : Nat) (v23 : Nat) (v24 : Nat) (v25 : Nat) (v26 : Nat) (v27 : List V) (v28 : Nat) (v29 : List V) : Option T := runO acfg (pureFin acfg 21) (L21_10k v0 v1 v2 v3 v4 v5 v6 v7 v8 v9 v10 v11 v12 v13 v14 v15 v16 v17 v18 v19 v20 v21 v22 v23 v24 v25 v26 v27 v28 v29) (L21_10s v0 v1 v2 v3 v4 v5 v6 v7 v8 v9 v10 v11 v12 v13 v14 v15 v16 v17 v18 v19 v20 v21 v22 v23 v24 v25 v26 v27 v28 v29)
noncomputable def L21_11k (v0 : List UInt8) (v1 : T) (v2 : T) (v3 : T) (v4 : Int) (v5 : Nat) (v6 : Nat) (v7 : Nat) (v8 : Nat) (v9 : Nat) (v10 : Nat) (v11 : Int) (v12 : List UInt8) (v13 : Nat) (v14 : List V) (v15 : Nat) (v16 : List V) (v17 : List UInt8) (v18 : Nat) (v19 : Nat) (v20 : Nat) (v21 : Nat) (v22 : Nat) (v23 : Nat) (v24 : Nat) (v25 : Nat) (v26 : Nat) (v27 : Nat) (v28 : List V) (v29 : Nat) (v30 : List V) (v31 : Nat) (v32 : List V) : List Kt := [.loop 21 none (codeOf acfg 21 [1, 1, 1, 1, 1, 1, 1, 1, 0, 1, 0, 0]), .block 6, .code 21 none (codeOf acfg 21 [1, 1, 1, 1, 1, 1, 1, 1, 1])]
noncomputable def L21_11s (v0 : List UInt8) (v1 : T) (v2 : T) (v3 : T) (v4 : Int) (v5 : Nat) (v6 : Nat) (v7 : Nat) (v8 : Nat) (v9 : Nat) (v10 : Nat) (v11 : Int) (v12 : List UInt8) (v13 : Nat) (v14 : List V) (v15 : Nat) (v16 : List V) (v17 : List UInt8) (v18 : Nat) (v19 : Nat) (v20 : Nat) (v21 : Nat) (v22 : Nat) (v23 : Nat) (v24 : Nat) (v25 : Nat) (v26 : Nat) (v27 : Nat) (v28 : List V) (v29 : Nat) (v30 : List V) (v31 : Nat) (v32 : List V) : St := ⟨(mkTs 159 [(2, (V.t (T.ptr (T.agg [(T.str v0), v1, v2, v3])))), (4, (V.ref 1 0 0 (some 4))), (6, (V.t (T.int IntKind.i64 v4))), (7, (V.msl 16 v5 v6 v7 none)), (8, (V.msl 30 v8 v9 v10 none)), (13, (V.ref 39 0 0 (some 4))), (14, (V.t (T.int IntKind.i64 v11)))]), ⟨83, mkTr [(1, (Go.Apex.Obj.cells 0 26 false [(V.t (T.str v12)), (V.t T.nils), (V.t T.nils), (V.t T.nils)])), (16, (Go.Apex.Obj.cells v13 3 false v14)), (30, (Go.Apex.Obj.cells v15 3 false v16)), (39, (Go.Apex.Obj.cells 0 26 false [(V.t (T.str v17)), (V.msl 56 v18 v19 v20 none), (V.msl 82 v21 v22 v23 none), (V.msl 68 v24 v25 v26 none)])), (56, (Go.Apex.Obj.cells v27 9 false v28)), (68, (Go.Apex.Obj.cells v29 4 false v30)), (82, (Go.Apex.Obj.cells v31 38 false v32))]⟩, []⟩
noncomputable def L21_11 (v0 : List UInt8) (v1 : T) (v2 : T) (v3 : T) (v4 : Int) (v5 : Nat) (v6 : Nat) (v7 : Nat) (v8 : Nat) (v9 : Nat) (v10 : Nat) (v11 : Int) (v12 : List UInt8) (v13 : Nat) (v14 : List V) (v15 : Nat) (v16 : List V) (v17 : List UInt8) (v18 : Nat) (v19 : Nat) (v20 : Nat) (v21 : Nat) (v22 : Nat) (v23 : Nat) (v24 : Nat) (v25 : Nat) (v26 : Nat) (v27 : Nat) (v28 : List V) (v29 : Nat) (v30 : List V) (v31 : Nat) (v32 : List V) : Option T := runO acfg (pureFin acfg 21) (L21_11k v0 v1 v2 v3 v4 v5 v6 v7 v8 v9 v10 v11 v12 v13 v14 v15 v16 v17 v18 v19 v20 v21 v22 v23 v24 v25 v26 v27 v28 v29 v30 v31 v32) (L21_11s v0 v1 v2 v3 v4 v5 v6 v7 v8 v9 v10 v11 v12 v13 v14 v15 v16 v17 v18 v19 v20 v21 v22 v23 v24 v25 v26 v27 v28 v29 v30 v31 v32)
noncomputable def L21_12k (v0 : List UInt8) (v1 : T) (v2 : T) (v3 : T) (v4 : Int) (v5 : Nat) (v6 : Nat) (v7 : Nat) (v8 : Nat) (v9 : Nat) (v10 : Nat) (v11 : Int) (v12 : Nat) (v13 : Nat) (v14 : Nat) (v15 : Int) (v16 : Int) (v17 : List UInt8) (v18 : Nat) (v19 : List V) (v20 : Nat) (v21 : List V) (v22 : List UInt8) (v23 : Nat) (v24 : Nat) (v25 : Nat) (v26 : Nat) (v27 : Nat) (v28 : Nat) (v29 : Nat) (v30 : List V) (v31 : Nat) (v32 : List V) (v33 : Nat) (v34 : List V) : List Kt := [.loop 21 none (codeOf acfg 21 [1, 1, 1, 1, 1, 1, 1, 1, 0, 1, 0, 0, 1, 0, 0, 1, 1, 0, 1, 0, 0, 1, 0, 0, 1, 0, 0]), .block 10, .block 9, .code 21 none (codeOf acfg 21 [1, 1, 1, 1, 1, 1, 1, 1, 0, 1, 0, 0, 1, 0, 0, 1, 1, 0, 1, 0, 0, 1, 1]), .round 21 none (codeOf acfg 21 [1, 1, 1, 1, 1, 1, 1, 1, 0, 1, 0, 0, 1, 0, 0, 1, 1, 0, 1, 0, 0]) 75, .block 8, .code 21 none (codeOf acfg 21 [1, 1, 1, 1, 1, 1, 1, 1, 0, 1, 0, 0, 1, 0, 0, 1, 1, 1]), .block 7, .code 21 none (codeOf acfg 21 [1, 1, 1, 1, 1, 1, 1, 1, 0, 1, 0, 0, 1, 1]), .round 21 none (codeOf acfg 21 [1, 1, 1, 1, 1, 1, 1, 1, 0, 1, 0, 0]) 42, .block 6, .code 21 none (codeOf acfg 21 [1, 1, 1, 1, 1, 1, 1, 1, 1])]
noncomputable def L21_12s (v0 : List UInt8) (v1 : T) (v2 : T) (v3 : T) (v4 : Int) (v5 : Nat) (v6 : Nat) (v7 : Nat) (v8 : Nat) (v9 : Nat) (v10 : Nat) (v11 : Int) (v12 : Nat) (v13 : Nat) (v14 : Nat) (v15 : Int) (v16 : Int) (v17 : List UInt8) (v18 : Nat) (v19 : List V) (v20 : Nat) (v21 : List V) (v22 : List UInt8) (v23 : Nat) (v24 : Nat) (v25 : Nat) (v26 : Nat) (v27 : Nat) (v28 : Nat) (v29 : Nat) (v30 : List V) (v31 : Nat) (v32 : List V) (v33 : Nat) (v34 : List V) : St := ⟨(mkTs 159 [(2, (V.t (T.ptr (T.agg [(T.str v0), v1, v2, v3])))), (4, (V.ref 1 0 0 (some 4))), (6, (V.t (T.int IntKind.i64 v4))), (7, (V.msl 16 v5 v6 v7 none)), (8, (V.msl 30 v8 v9 v10 none)), (13, (V.ref 39 0 0 (some 4))), (14, (V.t (T.int IntKind.i64 v11))), (15, (V.msl 109 v12 v13 v14 none)), (16, (V.t (T.int IntKind.i64 v15))), (17, (V.t (T.int IntKind.i64 v16)))]), ⟨110, mkTr [(1, (Go.Apex.Obj.cells 0 26 false [(V.t (T.str v17)), (V.t T.nils), (V.t T.nils), (V.t T.nils)])), (16, (Go.Apex.Obj.cells v18 3 false v19)), (30, (Go.Apex.Obj.cells v20 3 false v21)), (39, (Go.Apex.Obj.cells 0 26 false [(V.t (T.str v22)), (V.msl 56 v23 v24 v25 none), (V.t T.nils), (V.msl 68 v26 v27 v28 none)])), (56, (Go.Apex.Obj.cells v29 9 false v30)), (68, (Go.Apex.Obj.cells v31 4 false v32)), (109, (Go.Apex.Obj.cells v33 3 false v34))]⟩, []⟩
noncomputable def L21_12 (v0 : List UInt8) (v1 : T) (v2 : T) (v3 : T) (v4 : Int) (v5 : Nat) (v6 : Nat) (v7 : Nat) (v8 : Nat) (v9 : Nat) (v10 : Nat) (v11 : Int) (v12 : Nat) (v13 : Nat) (v14 : Nat) (v15 : Int) (v16 : Int) (v17 : List UInt8) (v18 : Nat) (v19 : List V) (v20 : Nat) (v21 : List V) (v22 : List UInt8) (v23 : Nat) (v24 : Nat) (v25 : Nat) (v26 : Nat) (v27 : Nat) (v28 : Nat) (v29 : Nat) (v30 : List V) (v31 : Nat) (v32 : List V) (v33 : Nat) (v34 : List V) : Option T := runO acfg (pureFin acfg 21) (L21_12k v0 v1 v2 v3 v4 v5 v6 v7 v8 v9 v10 v11 v12 v13 v14 v15 v16 v17 v18 v19 v20 v21 v22 v23 v24 v25 v26 v27 v28 v29 v30 v31 v32 v33 v34) (L21_12s v0 v1 v2 v3 v4 v5 v6 v7 v8 v9 v10 v11 v12 v13 v14 v15 v16 v17 v18 v19 v20 v21 v22 v23 v24 v25 v26 v27 v28 v29 v30 v31 v32 v33 v34)
noncomputable def L21_13k (v0 : List UInt8) (v1 : T) (v2 : T) (v3 : T) (v4 : Int) (v5 : Nat) (v6 : Nat) (v7 : Nat) (v8 : Nat) (v9 : Nat) (v10 : Nat) (v11 : Int) (v12 : Int) (v13 : List UInt8) (v14 : Nat) (v15 : List V) (v16 : Nat) (v17 : List V) (v18 : List UInt8) (v19 : Nat) (v20 : Nat) (v21 : Nat) (v22 : Nat) (v23 : Nat) (v24 : Nat) (v25 : Nat) (v26 : Nat) (v27 : Nat) (v28 : Nat) (v29 : List V) (v30 : Nat) (v31 : List V) (v32 : Nat) (v33 : List V) : List Kt := [.loop 21 none (codeOf acfg 21 [1, 1, 1, 1, 1, 1, 1, 1, 0, 1, 0, 0, 1, 0, 0, 1, 1, 0, 1, 0, 0]), .block 8, .code 21 none (codeOf acfg 21 [1, 1, 1, 1, 1, 1, 1, 1, 0, 1, 0, 0, 1, 0, 0, 1, 1, 1]), .block 7, .code 21 none (codeOf acfg 21 [1, 1, 1, 1, 1, 1, 1, 1, 0, 1, 0, 0, 1, 1]), .round 21 none (codeOf acfg 21 [1, 1, 1, 1, 1, 1, 1, 1, 0, 1, 0, 0]) 83, .block 6, .code 21 none (codeOf acfg 21 [1, 1, 1, 1, 1, 1, 1, 1, 1])]
noncomputable def L21_13s (v0 : List UInt8) (v1 : T) (v2 : T) (v3 : T) (v4 : Int) (v5 : Nat) (v6 : Nat) (v7 : Nat) (v8 : Nat) (v9 : Nat) (v10 : Nat) (v11 : Int) (v12 : Int) (v13 : List UInt8) (v14 : Nat) (v15 : List V) (v16 : Nat) (v17 : List V) (v18 : List UInt8) (v19 : Nat) (v20 : Nat) (v21 : Nat) (v22 : Nat) (v23 : Nat) (v24 : Nat) (v25 : Nat) (v26 : Nat) (v27 : Nat) (v28 : Nat) (v29 : List V) (v30 : Nat) (v31 : List V) (v32 : Nat) (v33 : List V) : St := ⟨(mkTs 159 [(2, (V.t (T.ptr (T.agg [(T.str v0), v1, v2, v3])))), (4, (V.ref 1 0 0 (some 4))), (6, (V.t (T.int IntKind.i64 v4))), (7, (V.msl 16 v5 v6 v7 none)), (8, (V.msl 30 v8 v9 v10 none)), (13, (V.ref 39 0 0 (some 4))), (14, (V.t (T.int IntKind.i64 v11))), (15, (V.t T.nils)), (16, (V.t (T.int IntKind.i64 v12)))]), ⟨116, mkTr [(1, (Go.Apex.Obj.cells 0 26 false [(V.t (T.str v13)), (V.t T.nils), (V.t T.nils), (V.t T.nils)])), (16, (Go.Apex.Obj.cells v14 3 false v15)), (30, (Go.Apex.Obj.cells v16 3 false v17)), (39, (Go.Apex.Obj.cells 0 26 false [(V.t (T.str v18)), (V.msl 56 v19 v20 v21 none), (V.msl 82 v22 v23 v24 none), (V.msl 68 v25 v26 v27 none)])), (56, (Go.Apex.Obj.cells v28 9 false v29)), (68, (Go.Apex.Obj.cells v30 4 false v31)), (82, (Go.Apex.Obj.cells v32 38 false v33))]⟩, []⟩
noncomputable def L21_13 (v0 : List UInt8) (v1 : T) (v2 : T) (v3 : T) (v4 : Int) (v5 : Nat) (v6 : Nat) (v7 : Nat) (v8 : Nat) (v9 : Nat) (v10 : Nat) (v11 : Int) (v12 : Int) (v13 : List UInt8) (v14 : Nat) (v15 : List V) (v16 : Nat) (v17 : List V) (v18 : List UInt8) (v19 : Nat) (v20 : Nat) (v21 : Nat) (v22 : Nat) (v23 : Nat) (v24 : Nat) (v25 : Nat) (v26 : Nat) (v27 : Nat) (v28 : Nat) (v29 : List V) (v30 : Nat) (v31 : List V) (v32 : Nat) (v33 : List V) : Option T := runO acfg (pureFin acfg 21) (L21_13k v0 v1 v2 v3 v4 v5 v6 v7 v8 v9 v10 v11 v12 v13 v14 v15 v16 v17 v18 v19 v20 v21 v22 v23 v24 v25 v26 v27 v28 v29 v30 v31 v32 v33) (L21_13s v0 v1 v2 v3 v4 v5 v6 v7 v8 v9 v10 v11 v12 v13 v14 v15 v16 v17 v18 v19 v20 v21 v22 v23 v24 v25 v26 v27 v28 v29 v30 v31 v32 v33)
noncomputable def L21_14k (v0 : List UInt8) (v1 : T) (v2 : T) (v3 : T) (v4 : Int) (v5 : Nat) (v6 : Nat) (v7 : Nat) (v8 : Nat) (v9 : Nat) (v10 : Nat) (v11 : Int) (v12 : Nat) (v13 : Nat) (v14 : Nat) (v15 : Int) (v16 : List UInt8) (v17 : Nat) (v18 : List V) (v19 : Nat) (v20 : List V) (v21 : List UInt8) (v22 : Nat) (v23 : Nat) (v24 : Nat) (v25 : Nat) (v26 : Nat) (v27 : Nat) (v28 : Nat) (v29 : List V) (v30 : Nat) (v31 : List V) (v32 : Nat) (v33 : List V) : List Kt := [.loop 21 none (codeOf acfg 21 [1, 1, 1, 1, 1, 1, 1, 1, 0, 1, 0, 0, 1, 0, 0, 1, 1, 0, 1, 0, 0]), .block 8, .code 21 none (codeOf acfg 21 [1, 1, 1, 1, 1, 1, 1, 1, 0, 1, 0, 0, 1, 0, 0, 1, 1, 1]), .block 7, .code 21 none (codeOf acfg 21 [1, 1, 1, 1, 1, 1, 1, 1, 0, 1, 0, 0, 1, 1]), .round 21 none (codeOf acfg 21 [1, 1, 1, 1, 1, 1, 1, 1, 0, 1, 0, 0]) 42, .block 6, .code 21 none (codeOf acfg 21 [1, 1, 1, 1, 1, 1, 1, 1, 1])]
noncomputable def L21_14s (v0 : List UInt8) (v1 : T) (v2 : T) (v3 : T) (v4 : Int) (v5 : Nat) (v6 : Nat) (v7 : Nat) (v8 : Nat) (v9 : Nat) (v10 : Nat) (v11 : Int) (v12 : Nat) (v13 : Nat) (v14 : Nat) (v15 : Int) (v16 : List UInt8) (v17 : Nat) (v18 : List V) (v19 : Nat) (v20 : List V) (v21 : List UInt8) (v22 : Nat) (v23 : Nat) (v24 : Nat) (v25 : Nat) (v26 : Nat) (v27 : Nat) (v28 : Nat) (v29 : List V) (v30 : Nat) (v31 : List V) (v32 : Nat) (v33 : List V) : St := ⟨(mkTs 159 [(2, (V.t (T.ptr (T.agg [(T.str v0), v1, v2, v3])))), (4, (V.ref 1 0 0 (some 4))), (6, (V.t (T.int IntKind.i64 v4))), (7, (V.msl 16 v5 v6 v7 none)), (8, (V.msl 30 v8 v9 v10 none)), (13, (V.ref 39 0 0 (some 4))), (14, (V.t (T.int IntKind.i64 v11))), (15, (V.msl 109 v12 v13 v14 none)), (16, (V.t (T.int IntKind.i64 v15)))]), ⟨110, mkTr [(1, (Go.Apex.Obj.cells 0 26 false [(V.t (T.str v16)), (V.t T.nils), (V.t T.nils), (V.t T.nils)])), (16, (Go.Apex.Obj.cells v17 3 false v18)), (30, (Go.Apex.Obj.cells v19 3 false v20)), (39, (Go.Apex.Obj.cells 0 26 false [(V.t (T.str v21)), (V.msl 56 v22 v23 v24 none), (V.t T.nils), (V.msl 68 v25 v26 v27 none)])), (56, (Go.Apex.Obj.cells v28 9 false v29)), (68, (Go.Apex.Obj.cells v30 4 false v31)), (109, (Go.Apex.Obj.cells v32 3 false v33))]⟩, []⟩
noncomputable def L21_14 (v0 : List UInt8) (v1 : T) (v2 : T) (v3 : T) (v4 : Int) (v5 : Nat) (v6 : Nat) (v7 : Nat) (v8 : Nat) (v9 : Nat) (v10 : Nat) (v11 : Int) (v12 : Nat) (v13 : Nat) (v14 : Nat) (v15 : Int) (v16 : List UInt8) (v17 : Nat) (v18 : List V) (v19 : Nat) (v20 : List V) (v21 : List UInt8) (v22 : Nat) (v23 : Nat) (v24 : Nat) (v25 : Nat) (v26 : Nat) (v27 : Nat) (v28 : Nat) (v29 : List V) (v30 : Nat) (v31 : List V) (v32 : Nat) (v33 : List V) : Option T := runO acfg (pureFin acfg 21) (L21_14k v0 v1 v2 v3 v4 v5 v6 v7 v8 v9 v10 v11 v12 v13 v14 v15 v16 v17 v18 v19 v20 v21 v22 v23 v24 v25 v26 v27 v28 v29 v30 v31 v32 v33) (L21_14s v0 v1 v2 v3 v4 v5 v6 v7 v8 v9 v10 v11 v12 v13 v14 v15 v16 v17 v18 v19 v20 v21 v22 v23 v24 v25 v26 v27 v28 v29 v30 v31 v32 v33)
noncomputable def L21_15k (v0 : List UInt8) (v1 : T) (v2 : T) (v3 : T) (v4 : Int) (v5 : Nat) (v6 : Nat) (v7 : Nat) (v8 : Nat) (v9 : Nat) (v10 : Nat) (v11 : Int) (v12 : Int) (v13 : Int) (v14 : List UInt8) (v15 : Nat) (v16 : List V) (v17 : Nat) (v18 : List V) (v19 : List UInt8) (v20 : Nat) (v21 : Nat) (v22 : Nat) (v23 : Nat) (v24 : Nat) (v25 : Nat) (v26 : Nat) (v27 : Nat) (v28 : Nat) (v29 : Nat) (v30 : List V) (v31 : Nat) (v32 : List V) (v33 : Nat) (v34 : List V) : List Kt := [.loop 21 none (codeOf acfg 21 [1, 1, 1, 1, 1, 1, 1, 1, 0, 1, 0, 0, 1, 0, 0, 1, 1, 0, 1, 0, 0, 1, 0, 0, 1, 0, 0]), .block 10, .block 9, .code 21 none (codeOf acfg 21 [1, 1, 1, 1, 1, 1, 1, 1, 0, 1, 0, 0, 1, 0, 0, 1, 1, 0, 1, 0, 0, 1, 1]), .round 21 none (codeOf acfg 21 [1, 1, 1, 1, 1, 1, 1, 1, 0, 1, 0, 0, 1, 0, 0, 1, 1, 0, 1, 0, 0]) 116, .block 8, .code 21 none (codeOf acfg 21 [1, 1, 1, 1, 1, 1, 1, 1, 0, 1, 0, 0, 1, 0, 0, 1, 1, 1]), .block 7, .code 21 none (codeOf acfg 21 [1, 1, 1, 1, 1, 1, 1, 1, 0, 1, 0, 0, 1, 1]), .round 21 none (codeOf acfg 21 [1, 1, 1, 1, 1, 1, 1, 1, 0, 1, 0, 0]) 83, .block 6, .code 21 none (codeOf acfg 21 [1, 1, 1, 1, 1, 1, 1, 1, 1])]
noncomputable def L21_15s (v0 : List UInt8) (v1 : T) (v2 : T) (v3 : T) (v4 : Int) (v5 : Nat) (v6 : Nat) (v7 : Nat) (v8 : Nat) (v9 : Nat) (v10 : Nat) (v11 : Int) (v12 : Int) (v13 : Int) (v14 : List UInt8) (v15 : Nat) (v16 : List V) (v17 : Nat) (v18 : List V) (v19 : List UInt8) (v20 : Nat) (v21 : Nat) (v22 : Nat) (v23 : Nat) (v24 : Nat) (v25 : Nat) (v26 : Nat) (v27 : Nat) (v28 : Nat) (v29 : Nat) (v30 : List V) (v31 : Nat) (v32 : List V) (v33 : Nat) (v34 : List V) : St := ⟨(mkTs 159 [(2, (V.t (T.ptr (T.agg [(T.str v0), v1, v2, v3])))), (4, (V.ref 1 0 0 (some 4))), (6, (V.t (T.int IntKind.i64 v4))), (7, (V.msl 16 v5 v6 v7 none)), (8, (V.msl 30 v8 v9 v10 none)), (13, (V.ref 39 0 0 (some 4))), (14, (V.t (T.int IntKind.i64 v11))), (15, (V.t T.nils)), (16, (V.t (T.int IntKind.i64 v12))), (17, (V.t (T.int IntKind.i64 v13)))]), ⟨120, mkTr [(1, (Go.Apex.Obj.cells 0 26 false [(V.t (T.str v14)), (V.t T.nils), (V.t T.nils), (V.t T.nils)])), (16, (Go.Apex.Obj.cells v15 3 false v16)), (30, (Go.Apex.Obj.cells v17 3 false v18)), (39, (Go.Apex.Obj.cells 0 26 false [(V.t (T.str v19)), (V.msl 56 v20 v21 v22 none), (V.msl 82 v23 v24 v25 none), (V.msl 68 v26 v27 v28 none)])), (56, (Go.Apex.Obj.cells v29 9 false v30)), (68, (Go.Apex.Obj.cells v31 4 false v32)), (82, (Go.Apex.Obj.cells v33 38 false v34))]⟩, []⟩
noncomputable def L21_15 (v0 : List UInt8) (v1 : T) (v2 : T) (v3 : T) (v4 : Int) (v5 : Nat) (v6 : Nat) (v7 : Nat) (v8 : Nat) (v9 : Nat) (v10 : Nat) (v11 : Int) (v12 : Int) (v13 : Int) (v14 : List UInt8) (v15 : Nat) (v16 : List V) (v17 : Nat) (v18 : List V) (v19 : List UInt8) (v20 : Nat) (v21 : Nat) (v22 : Nat) (v23 : Nat) (v24 : Nat) (v25 : Nat) (v26 : Nat) (v27 : Nat) (v28 : Nat) (v29 : Nat) (v30 : List V) (v31 : Nat) (v32 : List V) (v33 : Nat) (v34 : List V) : Option T := runO acfg (pureFin acfg 21) (L21_15k v0 v1 v2 v3 v4 v5 v6 v7 v8 v9 v10 v11 v12 v13 v14 v15 v16 v17 v18 v19 v20 v21 v22 v23 v24 v25 v26 v27 v28 v29 v30 v31 v32 v33 v34) (L21_15s v0 v1 v2 v3 v4 v5 v6 v7 v8 v9 v10 v11 v12 v13 v14 v15 v16 v17 v18 v19 v20 v21 v22 v23 v24 v25 v26 v27 v28 v29 v30 v31 v32 v33 v34)
noncomputable def L21_16k (v0 : List UInt8) (v1 : T) (v2 : T) (v3 : T) (v4 : Int) (v5 : Nat) (v6 : Nat) (v7 : Nat) (v8 : Nat) (v9 : Nat) (v10 : Nat) (v11 : Int) (v12 : Nat) (v13 : Nat) (v14 : Nat) (v15 : Int) (v16 : Int) (v17 : List UInt8) (v18 : Nat) (v19 : List V) (v20 : Nat) (v21 : List V) (v22 : List UInt8) (v23 : Nat) (v24 : Nat) (v25 : Nat) (v26 : Nat) (v27 : Nat) (v28 : Nat) (v29 : Nat) (v30 : List V) (v31 : Nat) (v32 : List V) (v33 : Nat) (v34 : List V) : List Kt := [.loop 21 none (codeOf acfg 21 [1, 1, 1, 1, 1, 1, 1, 1, 0, 1, 0, 0, 1, 0, 0, 1, 1, 0, 1, 0, 0, 1, 0, 0, 1, 0, 0]), .block 10, .block 9, .code 21 none (codeOf acfg 21 [1, 1, 1, 1, 1, 1, 1, 1, 0, 1, 0, 0, 1, 0, 0, 1, 1, 0, 1, 0, 0, 1, 1]), .round 21 none (codeOf acfg 21 [1, 1, 1, 1, 1, 1, 1, 1, 0, 1, 0, 0, 1, 0, 0, 1, 1, 0, 1, 0, 0]) 110, .block 8, .code 21 none (codeOf acfg 21 [1, 1, 1, 1, 1, 1, 1, 1, 0, 1, 0, 0, 1, 0, 0, 1, 1, 1]), .block 7, .code 21 none (codeOf acfg 21 [1, 1, 1, 1, 1, 1, 1, 1, 0, 1, 0, 0, 1, 1]), .round 21 none (codeOf acfg 21 [1, 1, 1, 1, 1, 1, 1, 1, 0, 1, 0, 0]) 42, .block 6, .code 21 none (codeOf acfg 21 [1, 1, 1, 1, 1, 1, 1, 1, 1])]
noncomputable def L21_16s (v0 : List UInt8) (v1 : T) (v2 : T) (v3 : T) (v4 : Int) (v5 : Nat) (v6 : Nat) (v7 : Nat) (v8 : Nat) (v9 : Nat) (v10 : Nat) (v11 : Int) (v12 : Nat) (v13 : Nat) (v14 : Nat) (v15 : Int) (v16 : Int) (v17 : List UInt8) (v18 : Nat) (v19 : List V) (v20 : Nat) (v21 : List V) (v22 : List UInt8) (v23 : Nat) (v24 : Nat) (v25 : Nat) (v26 : Nat) (v27 : Nat) (v28 : Nat) (v29 : Nat) (v30 : List V) (v31 : Nat) (v32 : List V) (v33 : Nat) (v34 : List V) : St := ⟨(mkTs 159 [(2, (V.t (T.ptr (T.agg [(T.str v0), v1, v2, v3])))), (4, (V.ref 1 0 0 (some 4))), (6, (V.t (T.int IntKind.i64 v4))), (7, (V.msl 16 v5 v6 v7 none)), (8, (V.msl 30 v8 v9 v10 none)), (13, (V.ref 39 0 0 (some 4))), (14, (V.t (T.int IntKind.i64 v11))), (15, (V.msl 109 v12 v13 v14 none)), (16, (V.t (T.int IntKind.i64 v15))), (17, (V.t (T.int IntKind.i64 v16)))]), ⟨114, mkTr [(1, (Go.Apex.Obj.cells 0 26 false [(V.t (T.str v17)), (V.t T.nils), (V.t T.nils), (V.t T.nils)])), (16, (Go.Apex.Obj.cells v18 3 false v19)), (30, (Go.Apex.Obj.cells v20 3 false v21)), (39, (Go.Apex.Obj.cells 0 26 false [(V.t (T.str v22)), (V.msl 56 v23 v24 v25 none), (V.t T.nils), (V.msl 68 v26 v27 v28 none)])), (56, (Go.Apex.Obj.cells v29 9 false v30)), (68, (Go.Apex.Obj.cells v31 4 false v32)), (109, (Go.Apex.Obj.cells v33 3 false v34))]⟩, []⟩
noncomputable def L21_16 (v0 : List UInt8) (v1 : T) (v2 : T) (v3 : T) (v4 : Int) (v5 : Nat) (v6 : Nat) (v7 : Nat) (v8 : Nat) (v9 : Nat) (v10 : Nat) (v11 : Int) (v12 : Nat) (v13 : Nat) (v14 : Nat) (v15 : Int) (v16 : Int) (v17 : List UInt8) (v18 : Nat) (v19 : List V) (v20 : Nat) (v21 : List V) (v22 : List UInt8) (v23 : Nat) (v24 : Nat) (v25 : Nat) (v26 : Nat) (v27 : Nat) (v28 : Nat) (v29 : Nat) (v30 : List V) (v31 : Nat) (v32 : List V) (v33 : Nat) (v34 : List V) : Option T := runO acfg (pureFin acfg 21) (L21_16k v0 v1 v2 v3 v4 v5 v6 v7 v8 v9 v10 v11 v12 v13 v14 v15 v16 v17 v18 v19 v20 v21 v22 v23 v24 v25 v26 v27 v28 v29 v30 v31 v32 v33 v34) (L21_16s v0 v1 v2 v3 v4 v5 v6 v7 v8 v9 v10 v11 v12 v13 v14 v15 v16 v17 v18 v19 v20 v21 v22 v23 v24 v25 v26 v27 v28 v29 v30 v31 v32 v33 v34)
noncomputable def L21_17k (v0 : List UInt8) (v1 : T) (v2 : T) (v3 : T) (v4 : Int) (v5 : Nat) (v6 : Nat) (v7 : Nat) (v8 : Nat) (v9 : Nat) (v10 : Nat) (v11 : Int) (v12 : List UInt8) (v13 : Nat) (v14 : List V) (v15 : Nat) (v16 : List V) (v17 : List UInt8) (v18 : Nat) (v19 : Nat) (v20 : Nat) (v21 : Nat) (v22 : Nat) (v23 : Nat) (v24 : Nat) (v25 : Nat) (v26 : Nat) (v27 : Nat) (v28 : List V) (v29 : Nat) (v30 : List V) (v31 : Nat) (v32 : List V) : List Kt := [.loop 21 none (codeOf acfg 21 [1, 1, 1, 1, 1, 1, 1, 1, 0, 1, 0, 0]), .block 6, .code 21 none (codeOf acfg 21 [1, 1, 1, 1, 1, 1, 1, 1, 1])]
noncomputable def L21_17s (v0 : List UInt8) (v1 : T) (v2 : T) (v3 : T) (v4 : Int) (v5 : Nat) (v6 : Nat) (v7 : Nat) (v8 : Nat) (v9 : Nat) (v10 : Nat) (v11 : Int) (v12 : List UInt8) (v13 : Nat) (v14 : List V) (v15 : Nat) (v16 : List V) (v17 : List UInt8) (v18 : Nat) (v19 : Nat) (v20 : Nat) (v21 : Nat) (v22 : Nat) (v23 : Nat) (v24 : Nat) (v25 : Nat) (v26 : Nat) (v27 : Nat) (v28 : List V) (v29 : Nat) (v30 : List V) (v31 : Nat) (v32 : List V) : St := ⟨(mkTs 159 [(2, (V.t (T.ptr (T.agg [(T.str v0), v1, v2, v3])))), (4, (V.ref 1 0 0 (some 4))), (6, (V.t (T.int IntKind.i64 v4))), (7, (V.msl 16 v5 v6 v7 none)), (8, (V.msl 30 v8 v9 v10 none)), (13, (V.ref 39 0 0 (some 4))), (14, (V.t (T.int IntKind.i64 v11)))]), ⟨118, mkTr [(1, (Go.Apex.Obj.cells 0 26 false [(V.t (T.str v12)), (V.t T.nils), (V.t T.nils), (V.t T.nils)])), (16, (Go.Apex.Obj.cells v13 3 false v14)), (30, (Go.Apex.Obj.cells v15 3 false v16)), (39, (Go.Apex.Obj.cells 0 26 false [(V.t (T.str v17)), (V.msl 56 v18 v19 v20 none), (V.msl 117 v21 v22 v23 none), (V.msl 68 v24 v25 v26 none)])), (56, (Go.Apex.Obj.cells v27 9 false v28)), (68, (Go.Apex.Obj.cells v29 4 false v30)), (117, (Go.Apex.Obj.cells v31 38 false v32))]⟩, []⟩
noncomputable def L21_17 (v0 : List UInt8) (v1 : T) (v2 : T) (v3 : T) (v4 : Int) (v5 : Nat) (v6 : Nat) (v7 : Nat) (v8 : Nat) (v9 : Nat) (v10 : Nat) (v11 : Int) (v12 : List UInt8) (v13 : Nat) (v14 : List V) (v15 : Nat) (v16 : List V) (v17 : List UInt8) (v18 : Nat) (v19 : Nat) (v20 : Nat) (v21 : Nat) (v22 : Nat) (v23 : Nat) (v24 : Nat) (v25 : Nat) (v26 : Nat) (v27 : Nat) (v28 : List V) (v29 : Nat) (v30 : List V) (v31 : Nat) (v32 : List V) : Option T := runO acfg (pureFin acfg 21) (L21_17k v0 v1 v2 v3 v4 v5 v6 v7 v8 v9 v10 v11 v12 v13 v14 v15 v16 v17 v18 v19 v20 v21 v22 v23 v24 v25 v26 v27 v28 v29 v30 v31 v32) (L21_17s v0 v1 v2 v3 v4 v5 v6 v7 v8 v9 v10 v11 v12 v13 v14 v15 v16 v17 v18 v19 v20 v21 v22 v23 v24 v25 v26 v27 v28 v29 v30 v31 v32)
noncomputable def L21_18k (v0 : List UInt8) (v1 : T) (v2 : T) (v3 : T) (v4 : Int) (v5 : Nat) (v6 : Nat) (v7 : Nat) (v8 : Nat) (v9 : Nat) (v10 : Nat) (v11 : Int) (v12 : Nat) (v13 : Nat) (v14 : Nat) (v15 : Int) (v16 : Int) (v17 : List UInt8) (v18 : Nat) (v19 : List V) (v20 : Nat) (v21 : List V) (v22 : List UInt8) (v23 : Nat) (v24 : Nat) (v25 : Nat) (v26 : Nat) (v27 : Nat) (v28 : Nat) (v29 : Nat) (v30 : Nat) (v31 : Nat) (v32 : Nat) (v33 : List V) (v34 : Nat) (v35 : List V) (v36 : Nat) (v37 : List V) (v38 : Nat) (v39 : List V) : List Kt := [.loop 21 none (codeOf acfg 21 [1, 1, 1, 1, 1, 1, 1, 1, 0, 1, 0, 0, 1, 0, 0, 1, 1, 0, 1, 0, 0, 1, 0, 0, 1, 0, 0]), .block 10, .block 9, .code 21 none (codeOf acfg 21 [1, 1, 1, 1, 1, 1, 1, 1, 0, 1, 0, 0, 1, 0, 0, 1, 1, 0, 1, 0, 0, 1, 1]), .round 21 none (codeOf acfg 21 [1, 1, 1, 1, 1, 1, 1, 1, 0, 1, 0, 0, 1, 0, 0, 1, 1, 0, 1, 0, 0]) 116, .block 8, .code 21 none (codeOf acfg 21 [1, 1, 1, 1, 1, 1, 1, 1, 0, 1, 0, 0, 1, 0, 0, 1, 1, 1]), .block 7, .code 21 none (codeOf acfg 21 [1, 1, 1, 1, 1, 1, 1, 1, 0, 1, 0, 0, 1, 1]), .round 21 none (codeOf acfg 21 [1, 1, 1, 1, 1, 1, 1, 1, 0, 1, 0, 0]) 83, .block 6, .code 21 none (codeOf acfg 21 [1, 1, 1, 1, 1, 1, 1, 1, 1])]
noncomputable def L21_18s (v0 : List UInt8) (v1 : T) (v2 : T) (v3 : T) (v4 : Int) (v5 : Nat) (v6 : Nat) (v7 : Nat) (v8 : Nat) (v9 : Nat) (v10 : Nat) (v11 : Int) (v12 : Nat) (v13 : Nat) (v14 : Nat) (v15 : Int) (v16 : Int) (v17 : List UInt8) (v18 : Nat) (v19 : List V) (v20 : Nat) (v21 : List V) (v22 : List UInt8) (v23 : Nat) (v24 : Nat) (v25 : Nat) (v26 : Nat) (v27 : Nat) (v28 : Nat) (v29 : Nat) (v30 : Nat) (v31 : Nat) (v32 : Nat) (v33 : List V) (v34 : Nat) (v35 : List V) (v36 : Nat) (v37 : List V) (v38 : Nat) (v39 : List V) : St := ⟨(mkTs 159 [(2, (V.t (T.ptr (T.agg [(T.str v0), v1, v2, v3])))), (4, (V.ref 1 0 0 (some 4))), (6, (V.t (T.int IntKind.i64 v4))), (7, (V.msl 16 v5 v6 v7 none)), (8, (V.msl 30 v8 v9 v10 none)), (13, (V.ref 39 0 0 (some 4))), (14, (V.t (T.int IntKind.i64 v11))), (15, (V.msl 150 v12 v13 v14 none)), (16, (V.t (T.int IntKind.i64 v15))), (17, (V.t (T.int IntKind.i64 v16)))]), ⟨151, mkTr [(1, (Go.Apex.Obj.cells 0 26 false [(V.t (T.str v17)), (V.t T.nils), (V.t T.nils), (V.t T.nils)])), (16, (Go.Apex.Obj.cells v18 3 false v19)), (30, (Go.Apex.Obj.cells v20 3 false v21)), (39, (Go.Apex.Obj.cells 0 26 false [(V.t (T.str v22)), (V.msl 56 v23 v24 v25 none), (V.msl 82 v26 v27 v28 none), (V.msl 68 v29 v30 v31 none)])), (56, (Go.Apex.Obj.cells v32 9 false v33)), (68, (Go.Apex.Obj.cells v34 4 false v35)), (82, (Go.Apex.Obj.cells v36 38 false v37)), (150, (Go.Apex.Obj.cells v38 3 false v39))]⟩, []⟩
noncomputable def L21_18 (v0 : List UInt8) (v1 : T) (v2 : T) (v3 : T) (v4 : Int) (v5 : Nat) (v6 : Nat) (v7 : Nat) (v8 : Nat) (v9 : Nat) (v10 : Nat) (v11 : Int) (v12 : Nat) (v13 : Nat) (v14 : Nat) (v15 : Int) (v16 : Int) (v17 : List UInt8) (v18 : Nat) (v19 : List V) (v20 : Nat) (v21 : List V) (v22 : List UInt8) (v23 : Nat) (v24 : Nat) (v25 : Nat) (v26 : Nat) (v27 : Nat) (v28 : Nat) (v29 : Nat) (v30 : Nat) (v31 : Nat) (v32 : Nat) (v33 : List V) (v34 : Nat) (v35 : List V) (v36 : Nat) (v37 : List V) (v38 : Nat) (v39 : List V) : Option T := runO acfg (pureFin acfg 21) (L21_18k v0 v1 v2 v3 v4 v5 v6 v7 v8 v9 v10 v11 v12 v13 v14 v15 v16 v17 v18 v19 v20 v21 v22 v23 v24 v25 v26 v27 v28 v29 v30 v31 v32 v33 v34 v35 v36 v37 v38 v39) (L21_18s v0 v1 v2 v3 v4 v5 v6 v7 v8 v9 v10 v11 v12 v13 v14 v15 v16 v17 v18 v19 v20 v21 v22 v23 v24 v25 v26 v27 v28 v29 v30 v31 v32 v33 v34 v35 v36 v37 v38 v39)
noncomputable def L21_19k (v0 : List UInt8) (v1 : T) (v2 : T) (v3 : T) (v4 : Int) (v5 : Nat) (v6 : Nat) (v7 : Nat) (v8 : Nat) (v9 : Nat) (v10 : Nat) (v11 : Int) (v12 : Int) (v13 : List UInt8) (v14 : Nat) (v15 : List V) (v16 : Nat) (v17 : List V) (v18 : List UInt8) (v19 : Nat) (v20 : Nat) (v21 : Nat) (v22 : Nat) (v23 : Nat) (v24 : Nat) (v25 : Nat) (v26 : Nat) (v27 : Nat) (v28 : Nat) (v29 : List V) (v30 : Nat) (v31 : List V) (v32 : Nat) (v33 : List V) : List Kt := [.loop 21 none (codeOf acfg 21 [1, 1, 1, 1, 1, 1, 1, 1, 0, 1, 0, 0, 1, 0, 0, 1, 1, 0, 1, 0, 0]), .block 8, .code 21 none (codeOf acfg 21 [1, 1, 1, 1, 1, 1, 1, 1, 0, 1, 0, 0, 1, 0, 0, 1, 1, 1]), .block 7, .code 21 none (codeOf acfg 21 [1, 1, 1, 1, 1, 1, 1, 1, 0, 1, 0, 0, 1, 1]), .round 21 none (codeOf acfg 21 [1, 1, 1, 1, 1, 1, 1, 1, 0, 1, 0, 0]) 118, .block 6, .code 21 none (codeOf acfg 21 [1, 1, 1, 1, 1, 1, 1, 1, 1])]
noncomputable def L21_19s (v0 : List UInt8) (v1 : T) (v2 : T) (v3 : T) (v4 : Int) (v5 : Nat) (v6 : Nat) (v7 : Nat) (v8 : Nat) (v9 : Nat) (v10 : Nat) (v11 : Int) (v12 : Int) (v13 : List UInt8) (v14 : Nat) (v15 : List V) (v16 : Nat) (v17 : List V) (v18 : List UInt8) (v19 : Nat) (v20 : Nat) (v21 : Nat) (v22 : Nat) (v23 : Nat) (v24 : Nat) (v25 : Nat) (v26 : Nat) (v27 : Nat) (v28 : Nat) (v29 : List V) (v30 : Nat) (v31 : List V) (v32 : Nat) (v33 : List V) : St := ⟨(mkTs 159 [(2, (V.t (T.ptr (T.agg [(T.str v0), v1, v2, v3])))), (4, (V.ref 1 0 0 (some 4))), (6, (V.t (T.int IntKind.i64 v4))), (7, (V.msl 16 v5 v6 v7 none)), (8, (V.msl 30 v8 v9 v10 none)), (13, (V.ref 39 0 0 (some 4))), (14, (V.t (T.int IntKind.i64 v11))), (15, (V.t T.nils)), (16, (V.t (T.int IntKind.i64 v12)))]), ⟨151, mkTr [(1, (Go.Apex.Obj.cells 0 26 false [(V.t (T.str v13)), (V.t T.nils), (V.t T.nils), (V.t T.nils)])), (16, (Go.Apex.Obj.cells v14 3 false v15)), (30, (Go.Apex.Obj.cells v16 3 false v17)), (39, (Go.Apex.Obj.cells 0 26 false [(V.t (T.str v18)), (V.msl 56 v19 v20 v21 none), (V.msl 117 v22 v23 v24 none), (V.msl 68 v25 v26 v27 none)])), (56, (Go.Apex.Obj.cells v28 9 false v29)), (68, (Go.Apex.Obj.cells v30 4 false v31)), (117, (Go.Apex.Obj.cells v32 38 false v33))]⟩, []⟩
noncomputable def L21_19 (v0 : List UInt8) (v1 : T) (v2 : T) (v3 : T) (v4 : Int) (v5 : Nat) (v6 : Nat) (v7 : Nat) (v8 : Nat) (v9 : Nat) (v10 : Nat) (v11 : Int) (v12 : Int) (v13 : List UInt8) (v14 : Nat) (v15 : List V) (v16 : Nat) (v17 : List V) (v18 : List UInt8) (v19 : Nat) (v20 : Nat) (v21 : Nat) (v22 : Nat) (v23 : Nat) (v24 : Nat) (v25 : Nat) (v26 : Nat) (v27 : Nat) (v28 : Nat) (v29 : List V) (v30 : Nat) (v31 : List V) (v32 : Nat) (v33 : List V) : Option T := runO acfg (pureFin acfg 21) (L21_19k v0 v1 v2 v3 v4 v5 v6 v7 v8 v9 v10 v11 v12 v13 v14 v15 v16 v17 v18 v19 v20 v21 v22 v23 v24 v25 v26 v27 v28 v29 v30 v31 v32 v33) (L21_19s v0 v1 v2 v3 v4 v5 v6 v7 v8 v9 v10 v11 v12 v13 v14 v15 v16 v17 v18 v19 v20 v21 v22 v23 v24 v25 v26 v27 v28 v29 v30 v31 v32 v33)
noncomputable def L21_20k (v0 : List UInt8) (v1 : T) (v2 : T) (v3 : T) (v4 : Int) (v5 : Nat) (v6 : Nat) (v7 : Nat) (v8 : Nat) (v9 : Nat) (v10 : Nat) (v11 : Int) (v12 : Nat) (v13 : Nat) (v14 : Nat) (v15 : Int) (v16 : List UInt8) (v17 : Nat) (v18 : List V) (v19 : Nat) (v20 : List V) (v21 : List UInt8) (v22 : Nat) (v23 : Nat) (v24 : Nat) (v25 : Nat) (v26 : Nat) (v27 : Nat) (v28 : Nat) (v29 : Nat) (v30 : Nat) (v31 : Nat) (v32 : List V) (v33 : Nat) (v34 : List V) (v35 : Nat) (v36 : List V) (v37 : Nat) (v38 : List V) : List Kt := [.loop 21 none (codeOf acfg 21 [1, 1, 1, 1, 1, 1, 1, 1, 0, 1, 0, 0, 1, 0, 0, 1, 1, 0, 1, 0, 0]), .block 8, .code 21 none (codeOf acfg 21 [1, 1, 1, 1, 1, 1, 1, 1, 0, 1, 0, 0, 1, 0, 0, 1, 1, 1]), .block 7, .code 21 none (codeOf acfg 21 [1, 1, 1, 1, 1, 1, 1, 1, 0, 1, 0, 0, 1, 1]), .round 21 none (codeOf acfg 21 [1, 1, 1, 1, 1, 1, 1, 1, 0, 1, 0, 0]) 83, .block 6, .code 21 none (codeOf acfg 21 [1, 1, 1, 1, 1, 1, 1, 1, 1])]
noncomputable def L21_20s (v0 : List UInt8) (v1 : T) (v2 : T) (v3 : T) (v4 : Int) (v5 : Nat) (v6 : Nat) (v7 : Nat) (v8 : Nat) (v9 : Nat) (v10 : Nat) (v11 : Int) (v12 : Nat) (v13 : Nat) (v14 : Nat) (v15 : Int) (v16 : List UInt8) (v17 : Nat) (v18 : List V) (v19 : Nat) (v20 : List V) (v21 : List UInt8) (v22 : Nat) (v23 : Nat) (v24 : Nat) (v25 : Nat) (v26 : Nat) (v27 : Nat) (v28 : Nat) (v29 : Nat) (v30 : Nat) (v31 : Nat) (v32 : List V) (v33 : Nat) (v34 : List V) (v35 : Nat) (v36 : List V) (v37 : Nat) (v38 : List V) : St := ⟨(mkTs 159 [(2, (V.t (T.ptr (T.agg [(T.str v0), v1, v2, v3])))), (4, (V.ref 1 0 0 (some 4))), (6, (V.t (T.int IntKind.i64 v4))), (7, (V.msl 16 v5 v6 v7 none)), (8, (V.msl 30 v8 v9 v10 none)), (13, (V.ref 39 0 0 (some 4))), (14, (V.t (T.int IntKind.i64 v11))), (15, (V.msl 150 v12 v13 v14 none)), (16, (V.t (T.int IntKind.i64 v15)))]), ⟨151, mkTr [(1, (Go.Apex.Obj.cells 0 26 false [(V.t (T.str v16)), (V.t T.nils), (V.t T.nils), (V.t T.nils)])), (16, (Go.Apex.Obj.cells v17 3 false v18)), (30, (Go.Apex.Obj.cells v19 3 false v20)), (39, (Go.Apex.Obj.cells 0 26 false [(V.t (T.str v21)), (V.msl 56 v22 v23 v24 none), (V.msl 82 v25 v26 v27 none), (V.msl 68 v28 v29 v30 none)])), (56, (Go.Apex.Obj.cells v31 9 false v32)), (68, (Go.Apex.Obj.cells v33 4 false v34)), (82, (Go.Apex.Obj.cells v35 38 false v36)), (150, (Go.Apex.Obj.cells v37 3 false v38))]⟩, []⟩
noncomputable def L21_20 (v0 : List UInt8) (v1 : T) (v2 : T) (v3 : T) (v4 : Int) (v5 : Nat) (v6 : Nat) (v7 : Nat) (v8 : Nat) (v9 : Nat) (v10 : Nat) (v11 : Int) (v12 : Nat) (v13 : Nat) (v14 : Nat) (v15 : Int) (v16 : List UInt8) (v17 : Nat) (v18 : List V) (v19 : Nat) (v20 : List V) (v21 : List UInt8) (v22 : Nat) (v23 : Nat) (v24 : Nat) (v25 : Nat) (v26 : Nat) (v27 : Nat) (v28 : Nat) (v29 : Nat) (v30 : Nat) (v31 : Nat) (v32 : List V) (v33 : Nat) (v34 : List V) (v35 : Nat) (v36 : List V) (v37 : Nat) (v38 : List V) : Option T := runO acfg (pureFin acfg 21) (L21_20k v0 v1 v2 v3 v4 v5 v6 v7 v8 v9 v10 v11 v12 v13 v14 v15 v16 v17 v18 v19 v20 v21 v22 v23 v24 v25 v26 v27 v28 v29 v30 v31 v32 v33 v34 v35 v36 v37 v38) (L21_20s v0 v1 v2 v3 v4 v5 v6 v7 v8 v9 v10 v11 v12 v13 v14 v15 v16 v17 v18 v19 v20 v21 v22 v23 v24 v25 v26 v27 v28 v29 v30 v31 v32 v33 v34 v35 v36 v37 v38)
noncomputable def L21_21k (v0 : List UInt8) (v1 : T) (v2 : T) (v3 : T) (v4 : Int) (v5 : Nat) (v6 : Nat) (v7 : Nat) (v8 : Nat) (v9 : Nat) (v10 : Nat) (v11 : Int) (v12 : Int) (v13 : Int) (v14 : List UInt8) (v15 : Nat) (v16 : List V) (v17 : Nat) (v18 : List V) (v19 : List UInt8) (v20 : Nat) (v21 : Nat) (v22 : Nat) (v23 : Nat) (v24 : Nat) (v25 : Nat) (v26 : Nat) (v27 : Nat) (v28 : Nat) (v29 : Nat) (v30 : List V) (v31 : Nat) (v32 : List V) (v33 : Nat) (v34 : List V) : List Kt := [.loop 21 none (codeOf acfg 21 [1, 1, 1, 1, 1, 1, 1, 1, 0, 1, 0, 0, 1, 0, 0, 1, 1, 0, 1, 0, 0, 1, 0, 0, 1, 0, 0]), .block 10, .block 9, .code 21 none (codeOf acfg 21 [1, 1, 1, 1, 1, 1, 1, 1, 0, 1, 0, 0, 1, 0, 0, 1, 1, 0, 1, 0, 0, 1, 1]), .round 21 none (codeOf acfg 21 [1, 1, 1, 1, 1, 1, 1, 1, 0, 1, 0, 0, 1, 0, 0, 1, 1, 0, 1, 0, 0]) 151, .block 8, .code 21 none (codeOf acfg 21 [1, 1, 1, 1, 1, 1, 1, 1, 0, 1, 0, 0, 1, 0, 0, 1, 1, 1]), .block 7, .code 21 none (codeOf acfg 21 [1, 1, 1, 1, 1, 1, 1, 1, 0, 1, 0, 0, 1, 1]), .round 21 none (codeOf acfg 21 [1, 1, 1, 1, 1, 1, 1, 1, 0, 1, 0, 0]) 118, .block 6, .code 21 none (codeOf acfg 21 [1, 1, 1, 1, 1, 1, 1, 1, 1])]
noncomputable def L21_21s (v0 : List UInt8) (v1 : T) (v2 : T) (v3 : T) (v4 : Int) (v5 : Nat) (v6 : Nat) (v7 : Nat) (v8 : Nat) (v9 : Nat) (v10 : Nat) (v11 : Int) (v12 : Int) (v13 : Int) (v14 : List UInt8) (v15 : Nat) (v16 : List V) (v17 : Nat) (v18 : List V) (v19 : List UInt8) (v20 : Nat) (v21 : Nat) (v22 : Nat) (v23 : Nat) (v24 : Nat) (v25 : Nat) (v26 : Nat) (v27 : Nat) (v28 : Nat) (v29 : Nat) (v30 : List V) (v31 : Nat) (v32 : List V) (v33 : Nat) (v34 : List V) : St := ⟨(mkTs 159 [(2, (V.t (T.ptr (T.agg [(T.str v0), v1, v2, v3])))), (4, (V.ref 1 0 0 (some 4))), (6, (V.t (T.int IntKind.i64 v4))), (7, (V.msl 16 v5 v6 v7 none)), (8, (V.msl 30 v8 v9 v10 none)), (13, (V.ref 39 0 0 (some 4))), (14, (V.t (T.int IntKind.i64 v11))), (15, (V.t T.nils)), (16, (V.t (T.int IntKind.i64 v12))), (17, (V.t (T.int IntKind.i64 v13)))]), ⟨155, mkTr [(1, (Go.Apex.Obj.cells 0 26 false [(V.t (T.str v14)), (V.t T.nils), (V.t T.nils), (V.t T.nils)])), (16, (Go.Apex.Obj.cells v15 3 false v16)), (30, (Go.Apex.Obj.cells v17 3 false v18)), (39, (Go.Apex.Obj.cells 0 26 false [(V.t (T.str v19)), (V.msl 56 v20 v21 v22 none), (V.msl 117 v23 v24 v25 none), (V.msl 68 v26 v27 v28 none)])), (56, (Go.Apex.Obj.cells v29 9 false v30)), (68, (Go.Apex.Obj.cells v31 4 false v32)), (117, (Go.Apex.Obj.cells v33 38 false v34))]⟩, []⟩
noncomputable def L21_21 (v0 : List UInt8) (v1 : T) (v2 : T) (v3 : T) (v4 : Int) (v5 : Nat) (v6 : Nat) (v7 : Nat) (v8 : Nat) (v9 : Nat) (v10 : Nat) (v11 : Int) (v12 : Int) (v13 : Int) (v14 : List UInt8) (v15 : Nat) (v16 : List V) (v17 : Nat) (v18 : List V) (v19 : List UInt8) (v20 : Nat) (v21 : Nat) (v22 : Nat) (v23 : Nat) (v24 : Nat) (v25 : Nat) (v26 : Nat) (v27 : Nat) (v28 : Nat) (v29 : Nat) (v30 : List V) (v31 : Nat) (v32 : List V) (v33 : Nat) (v34 : List V) : Option T := runO acfg (pureFin acfg 21) (L21_21k v0 v1 v2 v3 v4 v5 v6 v7 v8 v9 v10 v11 v12 v13 v14 v15 v16 v17 v18 v19 v20 v21 v22 v23 v24 v25 v26 v27 v28 v29 v30 v31 v32 v33 v34) (L21_21s v0 v1 v2 v3 v4 v5 v6 v7 v8 v9 v10 v11 v12 v13 v14 v15 v16 v17 v18 v19 v20 v21 v22 v23 v24 v25 v26 v27 v28 v29 v30 v31 v32 v33 v34)
noncomputable def L21_22k (v0 : List UInt8) (v1 : T) (v2 : T) (v3 : T) (v4 : Int) (v5 : Nat) (v6 : Nat) (v7 : Nat) (v8 : Nat) (v9 : Nat) (v10 : Nat) (v11 : Int) (v12 : Nat) (v13 : Nat) (v14 : Nat) (v15 : Int) (v16 : Int) (v17 : List UInt8) (v18 : Nat) (v19 : List V) (v20 : Nat) (v21 : List V) (v22 : List UInt8) (v23 : Nat) (v24 : Nat) (v25 : Nat) (v26 : Nat) (v27 : Nat) (v28 : Nat) (v29 : Nat) (v30 : Nat) (v31 : Nat) (v32 : Nat) (v33 : List V) (v34 : Nat) (v35 : List V) (v36 : Nat) (v37 : List V) (v38 : Nat) (v39 : List V) : List Kt := [.loop 21 none (codeOf acfg 21 [1, 1, 1, 1, 1, 1, 1, 1, 0, 1, 0, 0, 1, 0, 0, 1, 1, 0, 1, 0, 0, 1, 0, 0, 1, 0, 0]), .block 10, .block 9, .code 21 none (codeOf acfg 21 [1, 1, 1, 1, 1, 1, 1, 1, 0, 1, 0, 0, 1, 0, 0, 1, 1, 0, 1, 0, 0, 1, 1]), .round 21 none (codeOf acfg 21 [1, 1, 1, 1, 1, 1, 1, 1, 0, 1, 0, 0, 1, 0, 0, 1, 1, 0, 1, 0, 0]) 151, .block 8, .code 21 none (codeOf acfg 21 [1, 1, 1, 1, 1, 1, 1, 1, 0, 1, 0, 0, 1, 0, 0, 1, 1, 1]), .block 7, .code 21 none (codeOf acfg 21 [1, 1, 1, 1, 1, 1, 1, 1, 0, 1, 0, 0, 1, 1]), .round 21 none (codeOf acfg 21 [1, 1, 1, 1, 1, 1, 1, 1, 0, 1, 0, 0]) 83, .block 6, .code 21 none (codeOf acfg 21 [1, 1, 1, 1, 1, 1, 1, 1, 1])]
noncomputable def L21_22s (v0 : List UInt8) (v1 : T) (v2 : T) (v3 : T) (v4 : Int) (v5 : Nat) (v6 : Nat) (v7 : Nat) (v8 : Nat) (v9 : Nat) (v10 : Nat) (v11 : Int) (v12 : Nat) (v13 : Nat) (v14 : Nat) (v15 : Int) (v16 : Int) (v17 : List UInt8) (v18 : Nat) (v19 : List V) (v20 : Nat) (v21 : List V) (v22 : List UInt8) (v23 : Nat) (v24 : Nat) (v25 : Nat) (v26 : Nat) (v27 : Nat) (v28 : Nat) (v29 : Nat) (v30 : Nat) (v31 : Nat) (v32 : Nat) (v33 : List V) (v34 : Nat) (v35 : List V) (v36 : Nat) (v37 : List V) (v38 : Nat) (v39 : List V) : St := ⟨(mkTs 159 [(2, (V.t (T.ptr (T.agg [(T.str v0), v1, v2, v3])))), (4, (V.ref 1 0 0 (some 4))), (6, (V.t (T.int IntKind.i64 v4))), (7, (V.msl 16 v5 v6 v7 none)), (8, (V.msl 30 v8 v9 v10 none)), (13, (V.ref 39 0 0 (some 4))), (14, (V.t (T.int IntKind.i64 v11))), (15, (V.msl 150 v12 v13 v14 none)), (16, (V.t (T.int IntKind.i64 v15))), (17, (V.t (T.int IntKind.i64 v16)))]), ⟨155, mkTr [(1, (Go.Apex.Obj.cells 0 26 false [(V.t (T.str v17)), (V.t T.nils), (V.t T.nils), (V.t T.nils)])), (16, (Go.Apex.Obj.cells v18 3 false v19)), (30, (Go.Apex.Obj.cells v20 3 false v21)), (39, (Go.Apex.Obj.cells 0 26 false [(V.t (T.str v22)), (V.msl 56 v23 v24 v25 none), (V.msl 82 v26 v27 v28 none), (V.msl 68 v29 v30 v31 none)])), (56, (Go.Apex.Obj.cells v32 9 false v33)), (68, (Go.Apex.Obj.cells v34 4 false v35)), (82, (Go.Apex.Obj.cells v36 38 false v37)), (150, (Go.Apex.Obj.cells v38 3 false v39))]⟩, []⟩
noncomputable def L21_22 (v0 : List UInt8) (v1 : T) (v2 : T) (v3 : T) (v4 : Int) (v5 : Nat) (v6 : Nat) (v7 : Nat) (v8 : Nat) (v9 : Nat) (v10 : Nat) (v11 : Int) (v12 : Nat) (v13 : Nat) (v14 : Nat) (v15 : Int) (v16 : Int) (v17 : List UInt8) (v18 : Nat) (v19 : List V) (v20 : Nat) (v21 : List V) (v22 : List UInt8) (v23 : Nat) (v24 : Nat) (v25 : Nat) (v26 : Nat) (v27 : Nat) (v28 : Nat) (v29 : Nat) (v30 : Nat) (v31 : Nat) (v32 : Nat) (v33 : List V) (v34 : Nat) (v35 : List V) (v36 : Nat) (v37 : List V) (v38 : Nat) (v39 : List V) : Option T := runO acfg (pureFin acfg 21) (L21_22k v0 v1 v2 v3 v4 v5 v6 v7 v8 v9 v10 v11 v12 v13 v14 v15 v16 v17 v18 v19 v20 v21 v22 v23 v24 v25 v26 v27 v28 v29 v30 v31 v32 v33 v34 v35 v36 v37 v38 v39) (L21_22s v0 v1 v2 v3 v4 v5 v6 v7 v8 v9 v10 v11 v12 v13 v14 v15 v16 v17 v18 v19 v20 v21 v22 v23 v24 v25 v26 v27 v28 v29 v30 v31 v32 v33 v34 v35 v36 v37 v38 v39)
noncomputable def L21_23k (v0 : List UInt8) (v1 : T) (v2 : T) (v3 : T) (v4 : Int) (v5 : Nat) (v6 : Nat) (v7 : Nat) (v8 : Nat) (v9 : Nat) (v10 : Nat) (v11 : Int) (v12 : Nat) (v13 : Nat) (v14 : Nat) (v15 : Int) (v16 : Int) (v17 : List UInt8) (v18 : Nat) (v19 : List V) (v20 : Nat) (v21 : List V) (v22 : List UInt8) (v23 : Nat) (v24 : Nat) (v25 : Nat) (v26 : Nat) (v27 : Nat) (v28 : Nat) (v29 : Nat) (v30 : Nat) (v31 : Nat) (v32 : Nat) (v33 : List V) (v34 : Nat) (v35 : List V) (v36 : Nat) (v37 : List V) (v38 : Nat) (v39 : List V) : List Kt := [.loop 21 none (codeOf acfg 21 [1, 1, 1, 1, 1, 1, 1, 1, 0, 1, 0, 0, 1, 0, 0, 1, 1, 0, 1, 0, 0, 1, 0, 0, 1, 0, 0]), .block 10, .block 9, .code 21 none (codeOf acfg 21 [1, 1, 1, 1, 1, 1, 1, 1, 0, 1, 0, 0, 1, 0, 0, 1, 1, 0, 1, 0, 0, 1, 1]), .round 21 none (codeOf acfg 21 [1, 1, 1, 1, 1, 1, 1, 1, 0, 1, 0, 0, 1, 0, 0, 1, 1, 0, 1, 0, 0]) 151, .block 8, .code 21 none (codeOf acfg 21 [1, 1, 1, 1, 1, 1, 1, 1, 0, 1, 0, 0, 1, 0, 0, 1, 1, 1]), .block 7, .code 21 none (codeOf acfg 21 [1, 1, 1, 1, 1, 1, 1, 1, 0, 1, 0, 0, 1, 1]), .round 21 none (codeOf acfg 21 [1, 1, 1, 1, 1, 1, 1, 1, 0, 1, 0, 0]) 118, .block 6, .code 21 none (codeOf acfg 21 [1, 1, 1, 1, 1, 1, 1, 1, 1])]
noncomputable def L21_23s (v0 : List UInt8) (v1 : T) (v2 : T) (v3 : T) (v4 : Int) (v5 : Nat) (v6 : Nat) (v7 : Nat) (v8 : Nat) (v9 : Nat) (v10 : Nat) (v11 : Int) (v12 : Nat) (v13 : Nat) (v14 : Nat) (v15 : Int) (v16 : Int) (v17 : List UInt8) (v18 : Nat) (v19 : List V) (v20 : Nat) (v21 : List V) (v22 : List UInt8) (v23 : Nat) (v24 : Nat) (v25 : Nat) (v26 : Nat) (v27 : Nat) (v28 : Nat) (v29 : Nat) (v30 : Nat) (v31 : Nat) (v32 : Nat) (v33 : List V) (v34 : Nat) (v35 : List V) (v36 : Nat) (v37 : List V) (v38 : Nat) (v39 : List V) : St := ⟨(mkTs 159 [(2, (V.t (T.ptr (T.agg [(T.str v0), v1, v2, v3])))), (4, (V.ref 1 0 0 (some 4))), (6, (V.t (T.int IntKind.i64 v4))), (7, (V.msl 16 v5 v6 v7 none)), (8, (V.msl 30 v8 v9 v10 none)), (13, (V.ref 39 0 0 (some 4))), (14, (V.t (T.int IntKind.i64 v11))), (15, (V.msl 185 v12 v13 v14 none)), (16, (V.t (T.int IntKind.i64 v15))), (17, (V.t (T.int IntKind.i64 v16)))]), ⟨186, mkTr [(1, (Go.Apex.Obj.cells 0 26 false [(V.t (T.str v17)), (V.t T.nils), (V.t T.nils), (V.t T.nils)])), (16, (Go.Apex.Obj.cells v18 3 false v19)), (30, (Go.Apex.Obj.cells v20 3 false v21)), (39, (Go.Apex.Obj.cells 0 26 false [(V.t (T.str v22)), (V.msl 56 v23 v24 v25 none), (V.msl 117 v26 v27 v28 none), (V.msl 68 v29 v30 v31 none)])), (56, (Go.Apex.Obj.cells v32 9 false v33)), (68, (Go.Apex.Obj.cells v34 4 false v35)), (117, (Go.Apex.Obj.cells v36 38 false v37)), (185, (Go.Apex.Obj.cells v38 3 false v39))]⟩, []⟩
noncomputable def L21_23 (v0 : List UInt8) (v1 : T) (v2 : T) (v3 : T) (v4 : Int) (v5 : Nat) (v6 : Nat) (v7 : Nat) (v8 : Nat) (v9 : Nat) (v10 : Nat) (v11 : Int) (v12 : Nat) (v13 : Nat) (v14 : Nat) (v15 : Int) (v16 : Int) (v17 : List UInt8) (v18 : Nat) (v19 : List V) (v20 : Nat) (v21 : List V) (v22 : List UInt8) (v23 : Nat) (v24 : Nat) (v25 : Nat) (v26 : Nat) (v27 : Nat) (v28 : Nat) (v29 : Nat) (v30 : Nat) (v31 : Nat) (v32 : Nat) (v33 : List V) (v34 : Nat) (v35 : List V) (v36 : Nat) (v37 : List V) (v38 : Nat) (v39 : List V) : Option T := runO acfg (pureFin acfg 21) (L21_23k v0 v1 v2 v3 v4 v5 v6 v7 v8 v9 v10 v11 v12 v13 v14 v15 v16 v17 v18 v19 v20 v21 v22 v23 v24 v25 v26 v27 v28 v29 v30 v31 v32 v33 v34 v35 v36 v37 v38 v39) (L21_23s v0 v1 v2 v3 v4 v5 v6 v7 v8 v9 v10 v11 v12 v13 v14 v15 v16 v17 v18 v19 v20 v21 v22 v23 v24 v25 v26 v27 v28 v29 v30 v31 v32 v33 v34 v35 v36 v37 v38 v39)
noncomputable def L21_24k (v0 : List UInt8) (v1 : T) (v2 : T) (v3 : T) (v4 : Int) (v5 : Nat) (v6 : Nat) (v7 : Nat) (v8 : Nat) (v9 : Nat) (v10 : Nat) (v11 : Int) (v12 : Nat) (v13 : Nat) (v14 : Nat) (v15 : Int) (v16 : List UInt8) (v17 : Nat) (v18 : List V) (v19 : Nat) (v20 : List V) (v21 : List UInt8) (v22 : Nat) (v23 : Nat) (v24 : Nat) (v25 : Nat) (v26 : Nat) (v27 : Nat) (v28 : Nat) (v29 : Nat) (v30 : Nat) (v31 : Nat) (v32 : List V) (v33 : Nat) (v34 : List V) (v35 : Nat) (v36 : List V) (v37 : Nat) (v38 : List V) : List Kt := [.loop 21 none (codeOf acfg 21 [1, 1, 1, 1, 1, 1, 1, 1, 0, 1, 0, 0, 1, 0, 0, 1, 1, 0, 1, 0, 0]), .block 8, .code 21 none (codeOf acfg 21 [1, 1, 1, 1, 1, 1, 1, 1, 0, 1, 0, 0, 1, 0, 0, 1, 1, 1]), .block 7, .code 21 none (codeOf acfg 21 [1, 1, 1, 1, 1, 1, 1, 1, 0, 1, 0, 0, 1, 1]), .round 21 none (codeOf acfg 21 [1, 1, 1, 1, 1, 1, 1, 1, 0, 1, 0, 0]) 118, .block 6, .code 21 none (codeOf acfg 21 [1, 1, 1, 1, 1, 1, 1, 1, 1])]
noncomputable def L21_24s (v0 : List UInt8) (v1 : T) (v2 : T) (v3 : T) (v4 : Int) (v5 : Nat) (v6 : Nat) (v7 : Nat) (v8 : Nat) (v9 : Nat) (v10 : Nat) (v11 : Int) (v12 : Nat) (v13 : Nat) (v14 : Nat) (v15 : Int) (v16 : List UInt8) (v17 : Nat) (v18 : List V) (v19 : Nat) (v20 : List V) (v21 : List UInt8) (v22 : Nat) (v23 : Nat) (v24 : Nat) (v25 : Nat) (v26 : Nat) (v27 : Nat) (v28 : Nat) (v29 : Nat) (v30 : Nat) (v31 : Nat) (v32 : List V) (v33 : Nat) (v34 : List V) (v35 : Nat) (v36 : List V) (v37 : Nat) (v38 : List V) : St := ⟨(mkTs 159 [(2, (V.t (T.ptr (T.agg [(T.str v0), v1, v2, v3])))), (4, (V.ref 1 0 0 (some 4))), (6, (V.t (T.int IntKind.i64 v4))), (7, (V.msl 16 v5 v6 v7 none)), (8, (V.msl 30 v8 v9 v10 none)), (13, (V.ref 39 0 0 (some 4))), (14, (V.t (T.int IntKind.i64 v11))), (15, (V.msl 185 v12 v13 v14 none)), (16, (V.t (T.int IntKind.i64 v15)))]), ⟨186, mkTr [(1, (Go.Apex.Obj.cells 0 26 false [(V.t (T.str v16)), (V.t T.nils), (V.t T.nils), (V.t T.nils)])), (16, (Go.Apex.Obj.cells v17 3 false v18)), (30, (Go.Apex.Obj.cells v19 3 false v20)), (39, (Go.Apex.Obj.cells 0 26 false [(V.t (T.str v21)), (V.msl 56 v22 v23 v24 none), (V.msl 117 v25 v26 v27 none), (V.msl 68 v28 v29 v30 none)])), (56, (Go.Apex.Obj.cells v31 9 false v32)), (68, (Go.Apex.Obj.cells v33 4 false v34)), (117, (Go.Apex.Obj.cells v35 38 false v36)), (185, (Go.Apex.Obj.cells v37 3 false v38))]⟩, []⟩
noncomputable def L21_24 (v0 : List UInt8) (v1 : T) (v2 : T) (v3 : T) (v4 : Int) (v5 : Nat) (v6 : Nat) (v7 : Nat) (v8 : Nat) (v9 : Nat) (v10 : Nat) (v11 : Int) (v12 : Nat) (v13 : Nat) (v14 : Nat) (v15 : Int) (v16 : List UInt8) (v17 : Nat) (v18 : List V) (v19 : Nat) (v20 : List V) (v21 : List UInt8) (v22 : Nat) (v23 : Nat) (v24 : Nat) (v25 : Nat) (v26 : Nat) (v27 : Nat) (v28 : Nat) (v29 : Nat) (v30 : Nat) (v31 : Nat) (v32 : List V) (v33 : Nat) (v34 : List V) (v35 : Nat) (v36 : List V) (v37 : Nat) (v38 : List V) : Option T := runO acfg (pureFin acfg 21) (L21_24k v0 v1 v2 v3 v4 v5 v6 v7 v8 v9 v10 v11 v12 v13 v14 v15 v16 v17 v18 v19 v20 v21 v22 v23 v24 v25 v26 v27 v28 v29 v30 v31 v32 v33 v34 v35 v36 v37 v38) (L21_24s v0 v1 v2 v3 v4 v5 v6 v7 v8 v9 v10 v11 v12 v13 v14 v15 v16 v17 v18 v19 v20 v21 v22 v23 v24 v25 v26 v27 v28 v29 v30 v31 v32 v33 v34 v35 v36 v37 v38)
noncomputable def L21_25k (v0 : List UInt8) (v1 : T) (v2 : T) (v3 : T) (v4 : Int) (v5 : Nat) (v6 : Nat) (v7 : Nat) (v8 : Nat) (v9 : Nat) (v10 : Nat) (v11 : Int) (v12 : Nat) (v13 : Nat) (v14 : Nat) (v15 : Int) (v16 : Int) (v17 : List UInt8) (v18 : Nat) (v19 : List V) (v20 : Nat) (v21 : List V) (v22 : List UInt8) (v23 : Nat) (v24 : Nat) (v25 : Nat) (v26 : Nat) (v27 : Nat) (v28 : Nat) (v29 : Nat) (v30 : Nat) (v31 : Nat) (v32 : Nat) (v33 : List V) (v34 : Nat) (v35 : List V) (v36 : Nat) (v37 : List V) (v38 : Nat) (v39 : List V) : List Kt := [.loop 21 none (codeOf acfg 21 [1, 1, 1, 1, 1, 1, 1, 1, 0, 1, 0, 0, 1, 0, 0, 1, 1, 0, 1, 0, 0, 1, 0, 0, 1, 0, 0]), .block 10, .block 9, .code 21 none (codeOf acfg 21 [1, 1, 1, 1, 1, 1, 1, 1, 0, 1, 0, 0, 1, 0, 0, 1, 1, 0, 1, 0, 0, 1, 1]), .round 21 none (codeOf acfg 21 [1, 1, 1, 1, 1, 1, 1, 1, 0, 1, 0, 0, 1, 0, 0, 1, 1, 0, 1, 0, 0]) 186, .block 8, .code 21 none (codeOf acfg 21 [1, 1, 1, 1, 1, 1, 1, 1, 0, 1, 0, 0, 1, 0, 0, 1, 1, 1]), .block 7, .code 21 none (codeOf acfg 21 [1, 1, 1, 1, 1, 1, 1, 1, 0, 1, 0, 0, 1, 1]), .round 21 none (codeOf acfg 21 [1, 1, 1, 1, 1, 1, 1, 1, 0, 1, 0, 0]) 118, .block 6, .code 21 none (codeOf acfg 21 [1, 1, 1, 1, 1, 1, 1, 1, 1])]
noncomputable def L21_25s (v0 : List UInt8) (v1 : T) (v2 : T) (v3 : T) (v4 : Int) (v5 : Nat) (v6 : Nat) (v7 : Nat) (v8 : Nat) (v9 : Nat) (v10 : Nat) (v11 : Int) (v12 : Nat) (v13 : Nat) (v14 : Nat) (v15 : Int) (v16 : Int) (v17 : List UInt8) (v18 : Nat) (v19 : List V) (v20 : Nat) (v21 : List V) (v22 : List UInt8) (v23 : Nat) (v24 : Nat) (v25 : Nat) (v26 : Nat) (v27 : Nat) (v28 : Nat) (v29 : Nat) (v30 : Nat) (v31 : Nat) (v32 : Nat) (v33 : List V) (v34 : Nat) (v35 : List V) (v36 : Nat) (v37 : List V) (v38 : Nat) (v39 : List V) : St := ⟨(mkTs 159 [(2, (V.t (T.ptr (T.agg [(T.str v0), v1, v2, v3])))), (4, (V.ref 1 0 0 (some 4))), (6, (V.t (T.int IntKind.i64 v4))), (7, (V.msl 16 v5 v6 v7 none)), (8, (V.msl 30 v8 v9 v10 none)), (13, (V.ref 39 0 0 (some 4))), (14, (V.t (T.int IntKind.i64 v11))), (15, (V.msl 185 v12 v13 v14 none)), (16, (V.t (T.int IntKind.i64 v15))), (17, (V.t (T.int IntKind.i64 v16)))]), ⟨190, mkTr [(1, (Go.Apex.Obj.cells 0 26 false [(V.t (T.str v17)), (V.t T.nils), (V.t T.nils), (V.t T.nils)])), (16, (Go.Apex.Obj.cells v18 3 false v19)), (30, (Go.Apex.Obj.cells v20 3 false v21)), (39, (Go.Apex.Obj.cells 0 26 false [(V.t (T.str v22)), (V.msl 56 v23 v24 v25 none), (V.msl 117 v26 v27 v28 none), (V.msl 68 v29 v30 v31 none)])), (56, (Go.Apex.Obj.cells v32 9 false v33)), (68, (Go.Apex.Obj.cells v34 4 false v35)), (117, (Go.Apex.Obj.cells v36 38 false v37)), (185, (Go.Apex.Obj.cells v38 3 false v39))]⟩, []⟩
noncomputable def L21_25 (v0 : List UInt8) (v1 : T) (v2 : T) (v3 : T) (v4 : Int) (v5 : Nat) (v6 : Nat) (v7 : Nat) (v8 : Nat) (v9 : Nat) (v10 : Nat) (v11 : Int) (v12 : Nat) (v13 : Nat) (v14 : Nat) (v15 : Int) (v16 : Int) (v17 : List UInt8) (v18 : Nat) (v19 : List V) (v20 : Nat) (v21 : List V) (v22 : List UInt8) (v23 : Nat) (v24 : Nat) (v25 : Nat) (v26 : Nat) (v27 : Nat) (v28 : Nat) (v29 : Nat) (v30 : Nat) (v31 : Nat) (v32 : Nat) (v33 : List V) (v34 : Nat) (v35 : List V) (v36 : Nat) (v37 : List V) (v38 : Nat) (v39 : List V) : Option T := runO acfg (pureFin acfg 21) (L21_25k v0 v1 v2 v3 v4 v5 v6 v7 v8 v9 v10 v11 v12 v13 v14 v15 v16 v17 v18 v19 v20 v21 v22 v23 v24 v25 v26 v27 v28 v29 v30 v31 v32 v33 v34 v35 v36 v37 v38 v39) (L21_25s v0 v1 v2 v3 v4 v5 v6 v7 v8 v9 v10 v11 v12 v13 v14 v15 v16 v17 v18 v19 v20 v21 v22 v23 v24 v25 v26 v27 v28 v29 v30 v31 v32 v33 v34 v35 v36 v37 v38 v39)
theorem L21_1_step (v0 : T) (v1 : List UInt8) (v2 : T) (v3 : T) (v4 : T) (v5 : Int) (v6 : Int) (v7 : List UInt8) (r : T) (h : (
 bif (iLt v6 v5) then
  L21_2 v0 v1 v2 v3 v4 v5 1 0 1 (iAdd IntKind.i64 v6 1) v7 1 (rowNew [] [(V.t (T.int IntKind.i64 v6))])
 else
  L21_3 v0 v1 v2 v3 v4 v5 2 v7) = some r) : L21_1 v0 v1 v2 v3 v4 v5 v6 v7 = some r :=
 round_of (n := 3000) (rows := []) (by kernel_rfl) h
theorem L21_2_step (v0 : T) (v1 : List UInt8) (v2 : T) (v3 : T) (v4 : T) (v5 : Int) (v6 : Nat) (v7 : Nat) (v8 : Nat) (v9 : Int) (v10 : List UInt8) (v11 : Nat) (v12 : List V) (r : T) (h : (
 bif (iLt v9 v5) then
  bif (natEq v11 v6) then
  bif (appOK v12 v7 v8 1 [(V.t (T.int IntKind.i64 v9))] 8) then
  bif (objBd 17 (Go.Apex.Obj.cells (appGen v11 [(V.t (T.int IntKind.i64 v9))]) 3 false (appCs v12 v7 [(V.t (T.int IntKind.i64 v9))]))) then
  L21_2 v0 v1 v2 v3 v4 v5 (appGen v11 [(V.t (T.int IntKind.i64 v9))]) 0 (appLen v8 [(V.t (T.int IntKind.i64 v9))]) (iAdd IntKind.i64 v9 1) v10 (appGen v11 [(V.t (T.int IntKind.i64 v9))]) (appCs v12 v7 [(V.t (T.int IntKind.i64 v9))])
  else none
  else none
  else none
 else
  bif (objBd 21 (Go.Apex.Obj.cells v11 3 false v12)) then
  L21_4 v0 v1 v2 v3 v4 v5 v6 v7 v8 2 v10 v11 v12
  else none) = some r) : L21_2 v0 v1 v2 v3 v4 v5 v6 v7 v8 v9 v10 v11 v12 = some r :=
 round_of (n := 3000) (rows := [16]) (by kernel_rfl) h
theorem L21_4_step (v0 : T) (v1 : List UInt8) (v2 : T) (v3 : T) (v4 : T) (v5 : Int) (v6 : Nat) (v7 : Nat) (v8 : Nat) (v9 : Int) (v10 : List UInt8) (v11 : Nat) (v12 : List V) (r : T) (h : (
 bif (iLt v9 v5) then
  ((lenT v0)).bind fun x1 =>
  bif (iLt 0 x1) then
   ((lenT v0)).bind fun x2 =>
   ((iOp BinOp.rem IntKind.i64 v9 IntKind.i64 x2)).bind fun x3 =>
   ((idxT 1 v0 x3)).bind fun x4 =>
   ((derefT none x4)).bind fun x5 =>
   ((T.int? IntKind.u8 x5)).bind fun x6 =>
   ((iOp BinOp.rem IntKind.i64 (iWrap IntKind.i64 x6) IntKind.i64 v9)).bind fun x7 =>
   bif (rowIn (iAdd IntKind.i64 1 x7) v8) then
   bif (natEq v11 v6) then
   ((rowS none v12 (rowOff v7 (iAdd IntKind.i64 1 x7) 1))).bind fun x8 =>
   ((T.int? IntKind.i64 x8)).bind fun x9 =>
   bif (rowIn v9 v8) then
   bif (natEq v11 v6) then
   ((rowS none v12 (rowOff v7 v9 1))).bind fun x10 =>
   ((T.int? IntKind.i64 x10)).bind fun x11 =>
   bif (rowIn v9 v8) then
   bif (natEq v11 v6) then
   bif (rowSetOK v12 (rowOff v7 v9 1) (List.length [(V.t (T.int IntKind.i64 x9))])) then
   bif (rowIn (iAdd IntKind.i64 1 x7) v8) then
   bif (natEq v11 v6) then
   bif (rowSetOK (rowSet v12 (rowOff v7 v9 1) [(V.t (T.int IntKind.i64 x9))]) (rowOff v7 (iAdd IntKind.i64 1 x7) 1) (List.length [(V.t (T.int IntKind.i64 x11))])) then
   bif (objBd 21 (Go.Apex.Obj.cells v11 3 false (rowSet (rowSet v12 (rowOff v7 v9 1) [(V.t (T.int IntKind.i64 x9))]) (rowOff v7 (iAdd IntKind.i64 1 x7) 1) [(V.t (T.int IntKind.i64 x11))]))) then
   L21_4 v0 v1 v2 v3 v4 v5 v6 v7 v8 (iAdd IntKind.i64 v9 1) v10 v11 (rowSet (rowSet v12 (rowOff v7 v9 1) [(V.t (T.int IntKind.i64 x9))]) (rowOff v7 (iAdd IntKind.i64 1 x7) 1) [(V.t (T.int IntKind.i64 x11))])
   else none
   else none
   else none
   else none
   else none
   else none
   else none
   else none
   else none
   else none
   else none
  else
   bif (makeOK v5 v5 8) then
   bif (objBd 33 (Go.Apex.Obj.cells v11 3 false v12)) then
   bif (objBd 33 (Go.Apex.Obj.cells 0 3 false (zerosV v5 (T.int IntKind.i64 0)))) then
   L21_6 v1 v2 v3 v4 v5 v6 v7 v8 0 0 (natOf v5) 0 v10 v11 v12 0 (zerosV v5 (T.int IntKind.i64 0))
   else none
   else none
   else none
 else
  bif (makeOK v5 v5 8) then
  bif (objBd 33 (Go.Apex.Obj.cells v11 3 false v12)) then
  bif (objBd 33 (Go.Apex.Obj.cells 0 3 false (zerosV v5 (T.int IntKind.i64 0)))) then
  L21_6 v1 v2 v3 v4 v5 v6 v7 v8 0 0 (natOf v5) 0 v10 v11 v12 0 (zerosV v5 (T.int IntKind.i64 0))
  else none
  else none
  else none) = some r) : L21_4 v0 v1 v2 v3 v4 v5 v6 v7 v8 v9 v10 v11 v12 = some r :=
 round_of (n := 3000) (rows := [16]) (by kernel_rfl) h
theorem L21_6_step (v0 : List UInt8) (v1 : T) (v2 : T) (v3 : T) (v4 : Int) (v5 : Nat) (v6 : Nat) (v7 : Nat) (v8 : Nat) (v9 : Nat) (v10 : Nat) (v11 : Int) (v12 : List UInt8) (v13 : Nat) (v14 : List V) (v15 : Nat) (v16 : List V) (r : T) (h : (
 bif (iLt v11 v4) then
  bif (rowIn v11 v7) then
  bif (natEq v13 v5) then
  ((rowS none v14 (rowOff v6 v11 1))).bind fun x1 =>
  ((T.int? IntKind.i64 x1)).bind fun x2 =>
  bif (rowIn x2 v10) then
  bif (natEq v15 v8) then
  bif (rowSetOK v16 (rowOff v9 x2 1) (List.length [(V.t (T.int IntKind.i64 v11))])) then
  bif (objBd 33 (Go.Apex.Obj.cells v13 3 false v14)) then
  bif (objBd 33 (Go.Apex.Obj.cells v15 3 false (rowSet v16 (rowOff v9 x2 1) [(V.t (T.int IntKind.i64 v11))]))) then
  L21_6 v0 v1 v2 v3 v4 v5 v6 v7 v8 v9 v10 (iAdd IntKind.i64 v11 1) v12 v13 v14 v15 (rowSet v16 (rowOff v9 x2 1) [(V.t (T.int IntKind.i64 v11))])
  else none
  else none
  else none
  else none
  else none
  else none
  else none
 else
  bif (objBd 42 (Go.Apex.Obj.cells v13 3 false v14)) then
  bif (objBd 42 (Go.Apex.Obj.cells v15 3 false v16)) then
  L21_8 v0 v1 v2 v3 v4 v5 v6 v7 v8 v9 v10 0 v12 v13 v14 v15 v16 v0
  else none
  else none) = some r) : L21_6 v0 v1 v2 v3 v4 v5 v6 v7 v8 v9 v10 v11 v12 v13 v14 v15 v16 = some r :=
 round_of (n := 3000) (rows := [16, 30]) (by kernel_rfl) h
theorem L21_8_step (v0 : List UInt8) (v1 : T) (v2 : T) (v3 : T) (v4 : Int) (v5 : Nat) (v6 : Nat) (v7 : Nat) (v8 : Nat) (v9 : Nat) (v10 : Nat) (v11 : Int) (v12 : List UInt8) (v13 : Nat) (v14 : List V) (v15 : Nat) (v16 : List V) (v17 : List UInt8) (r : T) (h : (
 bif (iLt v11 v4) then
  ((fldT 1 none (T.ptr (T.agg [(T.str v0), v1, v2, v3])))).bind fun x1 =>
  ((derefT none x1)).bind fun x2 =>
  bif (rowIn v11 v7) then
  bif (natEq v13 v5) then
  ((rowS none v14 (rowOff v6 v11 1))).bind fun x3 =>
  ((T.int? IntKind.i64 x3)).bind fun x4 =>
  ((idxT 1 x2 x4)).bind fun x5 =>
  ((derefT none x5)).bind fun x6 =>
  ((T.str? x6)).bind fun x7 =>
  ((fldT 3 none (T.ptr (T.agg [(T.str v0), v1, v2, v3])))).bind fun x8 =>
  ((derefT none x8)).bind fun x9 =>
  bif (rowIn v11 v7) then
  bif (natEq v13 v5) then
  ((rowS none v14 (rowOff v6 v11 1))).bind fun x10 =>
  ((T.int? IntKind.i64 x10)).bind fun x11 =>
  ((idxT 1 x9 x11)).bind fun x12 =>
  ((derefT none x12)).bind fun x13 =>
  ((T.bool? x13)).bind fun x14 =>
  bif (objBd 75 (Go.Apex.Obj.cells v13 3 false v14)) then
  bif (objBd 75 (Go.Apex.Obj.cells v15 3 false v16)) then
  L21_9 v0 v1 v2 v3 v4 v5 v6 v7 v8 v9 v10 v11 0 v12 v13 v14 v15 v16 v17 1 0 1 1 0 1 1 (rowNew [] [(V.t (T.str x7))]) 1 (rowNew [] [(V.t (T.bool x14))])
  else none
  else none
  else none
  else none
  else none
  else none
 else
  bif (natEq v15 v8) then
  ((rowT none v16 v9 v10)).bind fun x15 =>
  some (T.tup [(T.agg [(T.str v17), T.nils, T.nils, T.nils]), (T.sl false 1 x15)])
  else none) = some r) : L21_8 v0 v1 v2 v3 v4 v5 v6 v7 v8 v9 v10 v11 v12 v13 v14 v15 v16 v17 = some r :=
 round_of (n := 3000) (rows := [16, 30]) (by kernel_rfl) h
theorem L21_9_step (v0 : List UInt8) (v1 : T) (v2 : T) (v3 : T) (v4 : Int) (v5 : Nat) (v6 : Nat) (v7 : Nat) (v8 : Nat) (v9 : Nat) (v10 : Nat) (v11 : Int) (v12 : Int) (v13 : List UInt8) (v14 : Nat) (v15 : List V) (v16 : Nat) (v17 : List V) (v18 : List UInt8) (v19 : Nat) (v20 : Nat) (v21 : Nat) (v22 : Nat) (v23 : Nat) (v24 : Nat) (v25 : Nat) (v26 : List V) (v27 : Nat) (v28 : List V) (r : T) (h : (
 bif (iLt v12 v4) then
  bif (objBd 79 (Go.Apex.Obj.cells v14 3 false v15)) then
  bif (objBd 79 (Go.Apex.Obj.cells v16 3 false v17)) then
  bif (objBd 79 (Go.Apex.Obj.cells v25 9 false v26)) then
  bif (objBd 79 (Go.Apex.Obj.cells v27 4 false v28)) then
  L21_10 v0 v1 v2 v3 v4 v5 v6 v7 v8 v9 v10 v11 v12 0 v13 v14 v15 v16 v17 v18 v19 v20 v21 v22 v23 v24 v25 v26 v27 v28
  else none
  else none
  else none
  else none
 else
  bif (objBd 83 (Go.Apex.Obj.cells v14 3 false v15)) then
  bif (objBd 83 (Go.Apex.Obj.cells v16 3 false v17)) then
  bif (objBd 83 (Go.Apex.Obj.cells v25 9 false v26)) then
  bif (objBd 83 (Go.Apex.Obj.cells v27 4 false v28)) then
  L21_11 v0 v1 v2 v3 v4 v5 v6 v7 v8 v9 v10 (iAdd IntKind.i64 v11 1) v13 v14 v15 v16 v17 v18 v19 v20 v21 1 0 1 v22 v23 v24 v25 v26 v27 v28 1 (rowNew [] [(V.t T.nils)])
  else none
  else none
  else none
  else none) = some r) : L21_9 v0 v1 v2 v3 v4 v5 v6 v7 v8 v9 v10 v11 v12 v13 v14 v15 v16 v17 v18 v19 v20 v21 v22 v23 v24 v25 v26 v27 v28 = some r :=
 round_of (n := 3000) (rows := [16, 30, 56, 68]) (by kernel_rfl) h
theorem L21_10_step (v0 : List UInt8) (v1 : T) (v2 : T) (v3 : T) (v4 : Int) (v5 : Nat) (v6 : Nat) (v7 : Nat) (v8 : Nat) (v9 : Nat) (v10 : Nat) (v11 : Int) (v12 : Int) (v13 : Int) (v14 : List UInt8) (v15 : Nat) (v16 : List V) (v17 : Nat) (v18 : List V) (v19 : List UInt8) (v20 : Nat) (v21 : Nat) (v22 : Nat) (v23 : Nat) (v24 : Nat) (v25 : Nat) (v26 : Nat) (v27 : List V) (v28 : Nat) (v29 : List V) (r : T) (h : (
 ((fldT 2 none (T.ptr (T.agg [(T.str v0), v1, v2, v3])))).bind fun x1 =>
 ((derefT none x1)).bind fun x2 =>
 bif (rowIn v11 v7) then
 bif (natEq v15 v5) then
 ((rowS none v16 (rowOff v6 v11 1))).bind fun x3 =>
 ((T.int? IntKind.i64 x3)).bind fun x4 =>
 ((idxT 1 x2 x4)).bind fun x5 =>
 ((derefT none x5)).bind fun x6 =>
 ((lenT x6)).bind fun x7 =>
 bif (iLt v13 x7) then
  ((fldT 2 none (T.ptr (T.agg [(T.str v0), v1, v2, v3])))).bind fun x8 =>
  ((derefT none x8)).bind fun x9 =>
  bif (rowIn v11 v7) then
  bif (natEq v15 v5) then
  ((rowS none v16 (rowOff v6 v11 1))).bind fun x10 =>
  ((T.int? IntKind.i64 x10)).bind fun x11 =>
  ((idxT 1 x9 x11)).bind fun x12 =>
  ((derefT none x12)).bind fun x13 =>
  ((idxT 1 x13 v13)).bind fun x14 =>
  ((derefT none x14)).bind fun x15 =>
  ((T.int? IntKind.i64 x15)).bind fun x16 =>
  bif (rowIn x16 v10) then
  bif (natEq v17 v8) then
  ((rowS none v18 (rowOff v9 x16 1))).bind fun x17 =>
  ((T.int? IntKind.i64 x17)).bind fun x18 =>
  bif (iEq x18 v12) then
   bif (objBd 110 (Go.Apex.Obj.cells v15 3 false v16)) then
   bif (objBd 110 (Go.Apex.Obj.cells v17 3 false v18)) then
   bif (objBd 110 (Go.Apex.Obj.cells v26 9 false v27)) then
   bif (objBd 110 (Go.Apex.Obj.cells v28 4 false v29)) then
   L21_12 v0 v1 v2 v3 v4 v5 v6 v7 v8 v9 v10 v11 1 0 1 v12 (iAdd IntKind.i64 v13 1) v14 v15 v16 v17 v18 v19 v20 v21 v22 v23 v24 v25 v26 v27 v28 v29 1 (rowNew [] [(V.t (T.int IntKind.i64 v12))])
   else none
   else none
   else none
   else none
  else
   bif (objBd 79 (Go.Apex.Obj.cells v15 3 false v16)) then
   bif (objBd 79 (Go.Apex.Obj.cells v17 3 false v18)) then
   bif (objBd 79 (Go.Apex.Obj.cells v26 9 false v27)) then
   bif (objBd 79 (Go.Apex.Obj.cells v28 4 false v29)) then
   L21_10 v0 v1 v2 v3 v4 v5 v6 v7 v8 v9 v10 v11 v12 (iAdd IntKind.i64 v13 1) v14 v15 v16 v17 v18 v19 v20 v21 v22 v23 v24 v25 v26 v27 v28 v29
   else none
   else none
   else none
   else none
  else none
  else none
  else none
  else none
 else
  bif (objBd 75 (Go.Apex.Obj.cells v15 3 false v16)) then
  bif (objBd 75 (Go.Apex.Obj.cells v17 3 false v18)) then
  bif (objBd 75 (Go.Apex.Obj.cells v26 9 false v27)) then
  bif (objBd 75 (Go.Apex.Obj.cells v28 4 false v29)) then
  L21_9 v0 v1 v2 v3 v4 v5 v6 v7 v8 v9 v10 v11 (iAdd IntKind.i64 v12 1) v14 v15 v16 v17 v18 v19 v20 v21 v22 v23 v24 v25 v26 v27 v28 v29
  else none
  else none
  else none
  else none
 else none
 else none) = some r) : L21_10 v0 v1 v2 v3 v4 v5 v6 v7 v8 v9 v10 v11 v12 v13 v14 v15 v16 v17 v18 v19 v20 v21 v22 v23 v24 v25 v26 v27 v28 v29 = some r :=
 round_of (n := 3000) (rows := [16, 30, 56, 68]) (by kernel_rfl) h
theorem L21_11_step (v0 : List UInt8) (v1 : T) (v2 : T) (v3 : T) (v4 : Int) (v5 : Nat) (v6 : Nat) (v7 : Nat) (v8 : Nat) (v9 : Nat) (v10 : Nat) (v11 : Int) (v12 : List UInt8) (v13 : Nat) (v14 : List V) (v15 : Nat) (v16 : List V) (v17 : List UInt8) (v18 : Nat) (v19 : Nat) (v20 : Nat) (v21 : Nat) (v22 : Nat) (v23 : Nat) (v24 : Nat) (v25 : Nat) (v26 : Nat) (v27 : Nat) (v28 : List V) (v29 : Nat) (v30 : List V) (v31 : Nat) (v32 : List V) (r : T) (h : (
 bif (iLt v11 v4) then
  ((fldT 1 none (T.ptr (T.agg [(T.str v0), v1, v2, v3])))).bind fun x1 =>
  ((derefT none x1)).bind fun x2 =>
  bif (rowIn v11 v7) then
  bif (natEq v13 v5) then
  ((rowS none v14 (rowOff v6 v11 1))).bind fun x3 =>
  ((T.int? IntKind.i64 x3)).bind fun x4 =>
  ((idxT 1 x2 x4)).bind fun x5 =>
  ((derefT none x5)).bind fun x6 =>
  ((T.str? x6)).bind fun x7 =>
  bif (natEq v27 v18) then
  bif (appOK v28 v19 v20 1 [(V.t (T.str x7))] 16) then
  ((fldT 3 none (T.ptr (T.agg [(T.str v0), v1, v2, v3])))).bind fun x8 =>
  ((derefT none x8)).bind fun x9 =>
  bif (rowIn v11 v7) then
  bif (natEq v13 v5) then
  ((rowS none v14 (rowOff v6 v11 1))).bind fun x10 =>
  ((T.int? IntKind.i64 x10)).bind fun x11 =>
  ((idxT 1 x9 x11)).bind fun x12 =>
  ((derefT none x12)).bind fun x13 =>
  ((T.bool? x13)).bind fun x14 =>
  bif (natEq v29 v24) then
  bif (appOK v30 v25 v26 1 [(V.t (T.bool x14))] 1) then
  bif (objBd 116 (Go.Apex.Obj.cells v13 3 false v14)) then
  bif (objBd 116 (Go.Apex.Obj.cells v15 3 false v16)) then
  bif (objBd 116 (Go.Apex.Obj.cells (appGen v27 [(V.t (T.str x7))]) 9 false (appCs v28 v19 [(V.t (T.str x7))]))) then
  bif (objBd 116 (Go.Apex.Obj.cells (appGen v29 [(V.t (T.bool x14))]) 4 false (appCs v30 v25 [(V.t (T.bool x14))]))) then
  bif (objBd 116 (Go.Apex.Obj.cells v31 38 false v32)) then
  L21_13 v0 v1 v2 v3 v4 v5 v6 v7 v8 v9 v10 v11 0 v12 v13 v14 v15 v16 v17 (appGen v27 [(V.t (T.str x7))]) 0 (appLen v20 [(V.t (T.str x7))]) v21 v22 v23 (appGen v29 [(V.t (T.bool x14))]) 0 (appLen v26 [(V.t (T.bool x14))]) (appGen v27 [(V.t (T.str x7))]) (appCs v28 v19 [(V.t (T.str x7))]) (appGen v29 [(V.t (T.bool x14))]) (appCs v30 v25 [(V.t (T.bool x14))]) v31 v32
  else none
  else none
  else none
  else none
  else none
  else none
  else none
  else none
  else none
  else none
  else none
  else none
  else none
 else
  bif (natEq v27 v18) then
  ((rowT none v28 v19 v20)).bind fun x15 =>
  bif (natEq v31 v21) then
  ((rowT none v32 v22 v23)).bind fun x16 =>
  bif (natEq v29 v24) then
  ((rowT none v30 v25 v26)).bind fun x17 =>
  bif (natEq v15 v8) then
  ((rowT none v16 v9 v10)).bind fun x18 =>
  some (T.tup [(T.agg [(T.str v17), (T.sl false 1 x15), (T.sl false 1 x16), (T.sl false 1 x17)]), (T.sl false 1 x18)])
  else none
  else none
  else none
  else none) = some r) : L21_11 v0 v1 v2 v3 v4 v5 v6 v7 v8 v9 v10 v11 v12 v13 v14 v15 v16 v17 v18 v19 v20 v21 v22 v23 v24 v25 v26 v27 v28 v29 v30 v31 v32 = some r :=
 round_of (n := 3000) (rows := [16, 30, 56, 68, 82]) (by kernel_rfl) h
theorem L21_12_step (v0 : List UInt8) (v1 : T) (v2 : T) (v3 : T) (v4 : Int) (v5 : Nat) (v6 : Nat) (v7 : Nat) (v8 : Nat) (v9 : Nat) (v10 : Nat) (v11 : Int) (v12 : Nat) (v13 : Nat) (v14 : Nat) (v15 : Int) (v16 : Int) (v17 : List UInt8) (v18 : Nat) (v19 : List V) (v20 : Nat) (v21 : List V) (v22 : List UInt8) (v23 : Nat) (v24 : Nat) (v25 : Nat) (v26 : Nat) (v27 : Nat) (v28 : Nat) (v29 : Nat) (v30 : List V) (v31 : Nat) (v32 : List V) (v33 : Nat) (v34 : List V) (r : T) (h : (
 ((fldT 2 none (T.ptr (T.agg [(T.str v0), v1, v2, v3])))).bind fun x1 =>
 ((derefT none x1)).bind fun x2 =>
 bif (rowIn v11 v7) then
 bif (natEq v18 v5) then
 ((rowS none v19 (rowOff v6 v11 1))).bind fun x3 =>
 ((T.int? IntKind.i64 x3)).bind fun x4 =>
 ((idxT 1 x2 x4)).bind fun x5 =>
 ((derefT none x5)).bind fun x6 =>
 ((lenT x6)).bind fun x7 =>
 bif (iLt v16 x7) then
  ((fldT 2 none (T.ptr (T.agg [(T.str v0), v1, v2, v3])))).bind fun x8 =>
  ((derefT none x8)).bind fun x9 =>
  bif (rowIn v11 v7) then
  bif (natEq v18 v5) then
  ((rowS none v19 (rowOff v6 v11 1))).bind fun x10 =>
  ((T.int? IntKind.i64 x10)).bind fun x11 =>
  ((idxT 1 x9 x11)).bind fun x12 =>
  ((derefT none x12)).bind fun x13 =>
  ((idxT 1 x13 v16)).bind fun x14 =>
  ((derefT none x14)).bind fun x15 =>
  ((T.int? IntKind.i64 x15)).bind fun x16 =>
  bif (rowIn x16 v10) then
  bif (natEq v20 v8) then
  ((rowS none v21 (rowOff v9 x16 1))).bind fun x17 =>
  ((T.int? IntKind.i64 x17)).bind fun x18 =>
  bif (iEq x18 v15) then
   bif (natEq v33 v12) then
   bif (appOK v34 v13 v14 1 [(V.t (T.int IntKind.i64 v15))] 8) then
   bif (objBd 110 (Go.Apex.Obj.cells v18 3 false v19)) then
   bif (objBd 110 (Go.Apex.Obj.cells v20 3 false v21)) then
   bif (objBd 110 (Go.Apex.Obj.cells v29 9 false v30)) then
   bif (objBd 110 (Go.Apex.Obj.cells v31 4 false v32)) then
   bif (objBd 110 (Go.Apex.Obj.cells (appGen v33 [(V.t (T.int IntKind.i64 v15))]) 3 false (appCs v34 v13 [(V.t (T.int IntKind.i64 v15))]))) then
   L21_12 v0 v1 v2 v3 v4 v5 v6 v7 v8 v9 v10 v11 (appGen v33 [(V.t (T.int IntKind.i64 v15))]) 0 (appLen v14 [(V.t (T.int IntKind.i64 v15))]) v15 (iAdd IntKind.i64 v16 1) v17 v18 v19 v20 v21 v22 v23 v24 v25 v26 v27 v28 v29 v30 v31 v32 (appGen v33 [(V.t (T.int IntKind.i64 v15))]) (appCs v34 v13 [(V.t (T.int IntKind.i64 v15))])
   else none
   else none
   else none
   else none
   else none
   else none
   else none
  else
   bif (objBd 110 (Go.Apex.Obj.cells v18 3 false v19)) then
   bif (objBd 110 (Go.Apex.Obj.cells v20 3 false v21)) then
   bif (objBd 110 (Go.Apex.Obj.cells v29 9 false v30)) then
   bif (objBd 110 (Go.Apex.Obj.cells v31 4 false v32)) then
   bif (objBd 110 (Go.Apex.Obj.cells v33 3 false v34)) then
   L21_12 v0 v1 v2 v3 v4 v5 v6 v7 v8 v9 v10 v11 v12 v13 v14 v15 (iAdd IntKind.i64 v16 1) v17 v18 v19 v20 v21 v22 v23 v24 v25 v26 v27 v28 v29 v30 v31 v32 v33 v34
   else none
   else none
   else none
   else none
   else none
  else none
  else none
  else none
  else none
 else
  bif (objBd 110 (Go.Apex.Obj.cells v18 3 false v19)) then
  bif (objBd 110 (Go.Apex.Obj.cells v20 3 false v21)) then
  bif (objBd 110 (Go.Apex.Obj.cells v29 9 false v30)) then
  bif (objBd 110 (Go.Apex.Obj.cells v31 4 false v32)) then
  bif (objBd 110 (Go.Apex.Obj.cells v33 3 false v34)) then
  L21_14 v0 v1 v2 v3 v4 v5 v6 v7 v8 v9 v10 v11 v12 v13 v14 (iAdd IntKind.i64 v15 1) v17 v18 v19 v20 v21 v22 v23 v24 v25 v26 v27 v28 v29 v30 v31 v32 v33 v34
  else none
  else none
  else none
  else none
  else none
 else none
 else none) = some r) : L21_12 v0 v1 v2 v3 v4 v5 v6 v7 v8 v9 v10 v11 v12 v13 v14 v15 v16 v17 v18 v19 v20 v21 v22 v23 v24 v25 v26 v27 v28 v29 v30 v31 v32 v33 v34 = some r :=
 round_of (n := 3000) (rows := [16, 30, 56, 68, 109]) (by kernel_rfl) h
theorem L21_13_step (v0 : List UInt8) (v1 : T) (v2 : T) (v3 : T) (v4 : Int) (v5 : Nat) (v6 : Nat) (v7 : Nat) (v8 : Nat) (v9 : Nat) (v10 : Nat) (v11 : Int) (v12 : Int) (v13 : List UInt8) (v14 : Nat) (v15 : List V) (v16 : Nat) (v17 : List V) (v18 : List UInt8) (v19 : Nat) (v20 : Nat) (v21 : Nat) (v22 : Nat) (v23 : Nat) (v24 : Nat) (v25 : Nat) (v26 : Nat) (v27 : Nat) (v28 : Nat) (v29 : List V) (v30 : Nat) (v31 : List V) (v32 : Nat) (v33 : List V) (r : T) (h : (
 bif (iLt v12 v4) then
  bif (objBd 120 (Go.Apex.Obj.cells v14 3 false v15)) then
  bif (objBd 120 (Go.Apex.Obj.cells v16 3 false v17)) then
  bif (objBd 120 (Go.Apex.Obj.cells v28 9 false v29)) then
  bif (objBd 120 (Go.Apex.Obj.cells v30 4 false v31)) then
  bif (objBd 120 (Go.Apex.Obj.cells v32 38 false v33)) then
  L21_15 v0 v1 v2 v3 v4 v5 v6 v7 v8 v9 v10 v11 v12 0 v13 v14 v15 v16 v17 v18 v19 v20 v21 v22 v23 v24 v25 v26 v27 v28 v29 v30 v31 v32 v33
  else none
  else none
  else none
  else none
  else none
 else
  bif (natEq v32 v22) then
  bif (appOK v33 v23 v24 1 [(V.t T.nils)] 24) then
  bif (objBd 83 (Go.Apex.Obj.cells v14 3 false v15)) then
  bif (objBd 83 (Go.Apex.Obj.cells v16 3 false v17)) then
  bif (objBd 83 (Go.Apex.Obj.cells v28 9 false v29)) then
  bif (objBd 83 (Go.Apex.Obj.cells v30 4 false v31)) then
  bif (objBd 83 (Go.Apex.Obj.cells (appGen v32 [(V.t T.nils)]) 38 false (appCs v33 v23 [(V.t T.nils)]))) then
  L21_11 v0 v1 v2 v3 v4 v5 v6 v7 v8 v9 v10 (iAdd IntKind.i64 v11 1) v13 v14 v15 v16 v17 v18 v19 v20 v21 (appGen v32 [(V.t T.nils)]) 0 (appLen v24 [(V.t T.nils)]) v25 v26 v27 v28 v29 v30 v31 (appGen v32 [(V.t T.nils)]) (appCs v33 v23 [(V.t T.nils)])
  else none
  else none
  else none
  else none
  else none
  else none
  else none) = some r) : L21_13 v0 v1 v2 v3 v4 v5 v6 v7 v8 v9 v10 v11 v12 v13 v14 v15 v16 v17 v18 v19 v20 v21 v22 v23 v24 v25 v26 v27 v28 v29 v30 v31 v32 v33 = some r :=
 round_of (n := 3000) (rows := [16, 30, 56, 68, 82]) (by kernel_rfl) h
theorem L21_14_step (v0 : List UInt8) (v1 : T) (v2 : T) (v3 : T) (v4 : Int) (v5 : Nat) (v6 : Nat) (v7 : Nat) (v8 : Nat) (v9 : Nat) (v10 : Nat) (v11 : Int) (v12 : Nat) (v13 : Nat) (v14 : Nat) (v15 : Int) (v16 : List UInt8) (v17 : Nat) (v18 : List V) (v19 : Nat) (v20 : List V) (v21 : List UInt8) (v22 : Nat) (v23 : Nat) (v24 : Nat) (v25 : Nat) (v26 : Nat) (v27 : Nat) (v28 : Nat) (v29 : List V) (v30 : Nat) (v31 : List V) (v32 : Nat) (v33 : List V) (r : T) (h : (
 bif (iLt v15 v4) then
  bif (objBd 114 (Go.Apex.Obj.cells v17 3 false v18)) then
  bif (objBd 114 (Go.Apex.Obj.cells v19 3 false v20)) then
  bif (objBd 114 (Go.Apex.Obj.cells v28 9 false v29)) then
  bif (objBd 114 (Go.Apex.Obj.cells v30 4 false v31)) then
  bif (objBd 114 (Go.Apex.Obj.cells v32 3 false v33)) then
  L21_16 v0 v1 v2 v3 v4 v5 v6 v7 v8 v9 v10 v11 v12 v13 v14 v15 0 v16 v17 v18 v19 v20 v21 v22 v23 v24 v25 v26 v27 v28 v29 v30 v31 v32 v33
  else none
  else none
  else none
  else none
  else none
 else
  bif (natEq v12 v32) then
  ((treeOf none v33 v13 v14)).bind fun x1 =>
  bif (vfits (V.t x1) none) then
  bif (vfits (V.t x1) none) then
  bif (objBd 118 (Go.Apex.Obj.cells v17 3 false v18)) then
  bif (objBd 118 (Go.Apex.Obj.cells v19 3 false v20)) then
  bif (objBd 118 (Go.Apex.Obj.cells v28 9 false v29)) then
  bif (objBd 118 (Go.Apex.Obj.cells v30 4 false v31)) then
  bif (objBd 118 (Go.Apex.Obj.cells 1 38 false (rowNew [] [(V.t x1)]))) then
  L21_17 v0 v1 v2 v3 v4 v5 v6 v7 v8 v9 v10 (iAdd IntKind.i64 v11 1) v16 v17 v18 v19 v20 v21 v22 v23 v24 1 0 1 v25 v26 v27 v28 v29 v30 v31 1 (rowNew [] [(V.t x1)])
  else none
  else none
  else none
  else none
  else none
  else none
  else none
  else none) = some r) : L21_14 v0 v1 v2 v3 v4 v5 v6 v7 v8 v9 v10 v11 v12 v13 v14 v15 v16 v17 v18 v19 v20 v21 v22 v23 v24 v25 v26 v27 v28 v29 v30 v31 v32 v33 = some r :=
 round_of (n := 3000) (rows := [16, 30, 56, 68, 109]) (by kernel_rfl) h
theorem L21_15_step (v0 : List UInt8) (v1 : T) (v2 : T) (v3 : T) (v4 : Int) (v5 : Nat) (v6 : Nat) (v7 : Nat) (v8 : Nat) (v9 : Nat) (v10 : Nat) (v11 : Int) (v12 : Int) (v13 : Int) (v14 : List UInt8) (v15 : Nat) (v16 : List V) (v17 : Nat) (v18 : List V) (v19 : List UInt8) (v20 : Nat) (v21 : Nat) (v22 : Nat) (v23 : Nat) (v24 : Nat) (v25 : Nat) (v26 : Nat) (v27 : Nat) (v28 : Nat) (v29 : Nat) (v30 : List V) (v31 : Nat) (v32 : List V) (v33 : Nat) (v34 : List V) (r : T) (h : (
 ((fldT 2 none (T.ptr (T.agg [(T.str v0), v1, v2, v3])))).bind fun x1 =>
 ((derefT none x1)).bind fun x2 =>
 bif (rowIn v11 v7) then
 bif (natEq v15 v5) then
 ((rowS none v16 (rowOff v6 v11 1))).bind fun x3 =>
 ((T.int? IntKind.i64 x3)).bind fun x4 =>
 ((idxT 1 x2 x4)).bind fun x5 =>
 ((derefT none x5)).bind fun x6 =>
 ((lenT x6)).bind fun x7 =>
 bif (iLt v13 x7) then
  ((fldT 2 none (T.ptr (T.agg [(T.str v0), v1, v2, v3])))).bind fun x8 =>
  ((derefT none x8)).bind fun x9 =>
  bif (rowIn v11 v7) then
  bif (natEq v15 v5) then
  ((rowS none v16 (rowOff v6 v11 1))).bind fun x10 =>
  ((T.int? IntKind.i64 x10)).bind fun x11 =>
  ((idxT 1 x9 x11)).bind fun x12 =>
  ((derefT none x12)).bind fun x13 =>
  ((idxT 1 x13 v13)).bind fun x14 =>
  ((derefT none x14)).bind fun x15 =>
  ((T.int? IntKind.i64 x15)).bind fun x16 =>
  bif (rowIn x16 v10) then
  bif (natEq v17 v8) then
  ((rowS none v18 (rowOff v9 x16 1))).bind fun x17 =>
  ((T.int? IntKind.i64 x17)).bind fun x18 =>
  bif (iEq x18 v12) then
   bif (objBd 151 (Go.Apex.Obj.cells v15 3 false v16)) then
   bif (objBd 151 (Go.Apex.Obj.cells v17 3 false v18)) then
   bif (objBd 151 (Go.Apex.Obj.cells v29 9 false v30)) then
   bif (objBd 151 (Go.Apex.Obj.cells v31 4 false v32)) then
   bif (objBd 151 (Go.Apex.Obj.cells v33 38 false v34)) then
   L21_18 v0 v1 v2 v3 v4 v5 v6 v7 v8 v9 v10 v11 1 0 1 v12 (iAdd IntKind.i64 v13 1) v14 v15 v16 v17 v18 v19 v20 v21 v22 v23 v24 v25 v26 v27 v28 v29 v30 v31 v32 v33 v34 1 (rowNew [] [(V.t (T.int IntKind.i64 v12))])
   else none
   else none
   else none
   else none
   else none
  else
   bif (objBd 120 (Go.Apex.Obj.cells v15 3 false v16)) then
   bif (objBd 120 (Go.Apex.Obj.cells v17 3 false v18)) then
   bif (objBd 120 (Go.Apex.Obj.cells v29 9 false v30)) then
   bif (objBd 120 (Go.Apex.Obj.cells v31 4 false v32)) then
   bif (objBd 120 (Go.Apex.Obj.cells v33 38 false v34)) then
   L21_15 v0 v1 v2 v3 v4 v5 v6 v7 v8 v9 v10 v11 v12 (iAdd IntKind.i64 v13 1) v14 v15 v16 v17 v18 v19 v20 v21 v22 v23 v24 v25 v26 v27 v28 v29 v30 v31 v32 v33 v34
   else none
   else none
   else none
   else none
   else none
  else none
  else none
  else none
  else none
 else
  bif (objBd 116 (Go.Apex.Obj.cells v15 3 false v16)) then
  bif (objBd 116 (Go.Apex.Obj.cells v17 3 false v18)) then
  bif (objBd 116 (Go.Apex.Obj.cells v29 9 false v30)) then
  bif (objBd 116 (Go.Apex.Obj.cells v31 4 false v32)) then
  bif (objBd 116 (Go.Apex.Obj.cells v33 38 false v34)) then
  L21_13 v0 v1 v2 v3 v4 v5 v6 v7 v8 v9 v10 v11 (iAdd IntKind.i64 v12 1) v14 v15 v16 v17 v18 v19 v20 v21 v22 v23 v24 v25 v26 v27 v28 v29 v30 v31 v32 v33 v34
  else none
  else none
  else none
  else none
  else none
 else none
 else none) = some r) : L21_15 v0 v1 v2 v3 v4 v5 v6 v7 v8 v9 v10 v11 v12 v13 v14 v15 v16 v17 v18 v19 v20 v21 v22 v23 v24 v25 v26 v27 v28 v29 v30 v31 v32 v33 v34 = some r :=
 round_of (n := 3000) (rows := [16, 30, 56, 68, 82]) (by kernel_rfl) h
theorem L21_16_step (v0 : List UInt8) (v1 : T) (v2 : T) (v3 : T) (v4 : Int) (v5 : Nat) (v6 : Nat) (v7 : Nat) (v8 : Nat) (v9 : Nat) (v10 : Nat) (v11 : Int) (v12 : Nat) (v13 : Nat) (v14 : Nat) (v15 : Int) (v16 : Int) (v17 : List UInt8) (v18 : Nat) (v19 : List V) (v20 : Nat) (v21 : List V) (v22 : List UInt8) (v23 : Nat) (v24 : Nat) (v25 : Nat) (v26 : Nat) (v27 : Nat) (v28 : Nat) (v29 : Nat) (v30 : List V) (v31 : Nat) (v32 : List V) (v33 : Nat) (v34 : List V) (r : T) (h : (
 ((fldT 2 none (T.ptr (T.agg [(T.str v0), v1, v2, v3])))).bind fun x1 =>
 ((derefT none x1)).bind fun x2 =>
 bif (rowIn v11 v7) then
 bif (natEq v18 v5) then
 ((rowS none v19 (rowOff v6 v11 1))).bind fun x3 =>
 ((T.int? IntKind.i64 x3)).bind fun x4 =>
 ((idxT 1 x2 x4)).bind fun x5 =>
 ((derefT none x5)).bind fun x6 =>
 ((lenT x6)).bind fun x7 =>
 bif (iLt v16 x7) then
  ((fldT 2 none (T.ptr (T.agg [(T.str v0), v1, v2, v3])))).bind fun x8 =>
  ((derefT none x8)).bind fun x9 =>
  bif (rowIn v11 v7) then
  bif (natEq v18 v5) then
  ((rowS none v19 (rowOff v6 v11 1))).bind fun x10 =>
  ((T.int? IntKind.i64 x10)).bind fun x11 =>
  ((idxT 1 x9 x11)).bind fun x12 =>
  ((derefT none x12)).bind fun x13 =>
  ((idxT 1 x13 v16)).bind fun x14 =>
  ((derefT none x14)).bind fun x15 =>
  ((T.int? IntKind.i64 x15)).bind fun x16 =>
  bif (rowIn x16 v10) then
  bif (natEq v20 v8) then
  ((rowS none v21 (rowOff v9 x16 1))).bind fun x17 =>
  ((T.int? IntKind.i64 x17)).bind fun x18 =>
  bif (iEq x18 v15) then
   bif (natEq v33 v12) then
   bif (appOK v34 v13 v14 1 [(V.t (T.int IntKind.i64 v15))] 8) then
   bif (objBd 114 (Go.Apex.Obj.cells v18 3 false v19)) then
   bif (objBd 114 (Go.Apex.Obj.cells v20 3 false v21)) then
   bif (objBd 114 (Go.Apex.Obj.cells v29 9 false v30)) then
   bif (objBd 114 (Go.Apex.Obj.cells v31 4 false v32)) then
   bif (objBd 114 (Go.Apex.Obj.cells (appGen v33 [(V.t (T.int IntKind.i64 v15))]) 3 false (appCs v34 v13 [(V.t (T.int IntKind.i64 v15))]))) then
   L21_16 v0 v1 v2 v3 v4 v5 v6 v7 v8 v9 v10 v11 (appGen v33 [(V.t (T.int IntKind.i64 v15))]) 0 (appLen v14 [(V.t (T.int IntKind.i64 v15))]) v15 (iAdd IntKind.i64 v16 1) v17 v18 v19 v20 v21 v22 v23 v24 v25 v26 v27 v28 v29 v30 v31 v32 (appGen v33 [(V.t (T.int IntKind.i64 v15))]) (appCs v34 v13 [(V.t (T.int IntKind.i64 v15))])
   else none
   else none
   else none
   else none
   else none
   else none
   else none
  else
   bif (objBd 114 (Go.Apex.Obj.cells v18 3 false v19)) then
   bif (objBd 114 (Go.Apex.Obj.cells v20 3 false v21)) then
   bif (objBd 114 (Go.Apex.Obj.cells v29 9 false v30)) then
   bif (objBd 114 (Go.Apex.Obj.cells v31 4 false v32)) then
   bif (objBd 114 (Go.Apex.Obj.cells v33 3 false v34)) then
   L21_16 v0 v1 v2 v3 v4 v5 v6 v7 v8 v9 v10 v11 v12 v13 v14 v15 (iAdd IntKind.i64 v16 1) v17 v18 v19 v20 v21 v22 v23 v24 v25 v26 v27 v28 v29 v30 v31 v32 v33 v34
   else none
   else none
   else none
   else none
   else none
  else none
  else none
  else none
  else none
 else
  bif (objBd 110 (Go.Apex.Obj.cells v18 3 false v19)) then
  bif (objBd 110 (Go.Apex.Obj.cells v20 3 false v21)) then
  bif (objBd 110 (Go.Apex.Obj.cells v29 9 false v30)) then
  bif (objBd 110 (Go.Apex.Obj.cells v31 4 false v32)) then
  bif (objBd 110 (Go.Apex.Obj.cells v33 3 false v34)) then
  L21_14 v0 v1 v2 v3 v4 v5 v6 v7 v8 v9 v10 v11 v12 v13 v14 (iAdd IntKind.i64 v15 1) v17 v18 v19 v20 v21 v22 v23 v24 v25 v26 v27 v28 v29 v30 v31 v32 v33 v34
  else none
  else none
  else none
  else none
  else none
 else none
 else none) = some r) : L21_16 v0 v1 v2 v3 v4 v5 v6 v7 v8 v9 v10 v11 v12 v13 v14 v15 v16 v17 v18 v19 v20 v21 v22 v23 v24 v25 v26 v27 v28 v29 v30 v31 v32 v33 v34 = some r :=
 round_of (n := 3000) (rows := [16, 30, 56, 68, 109]) (by kernel_rfl) h
theorem L21_17_step (v0 : List UInt8) (v1 : T) (v2 : T) (v3 : T) (v4 : Int) (v5 : Nat) (v6 : Nat) (v7 : Nat) (v8 : Nat) (v9 : Nat) (v10 : Nat) (v11 : Int) (v12 : List UInt8) (v13 : Nat) (v14 : List V) (v15 : Nat) (v16 : List V) (v17 : List UInt8) (v18 : Nat) (v19 : Nat) (v20 : Nat) (v21 : Nat) (v22 : Nat) (v23 : Nat) (v24 : Nat) (v25 : Nat) (v26 : Nat) (v27 : Nat) (v28 : List V) (v29 : Nat) (v30 : List V) (v31 : Nat) (v32 : List V) (r : T) (h : (
 bif (iLt v11 v4) then
  ((fldT 1 none (T.ptr (T.agg [(T.str v0), v1, v2, v3])))).bind fun x1 =>
  ((derefT none x1)).bind fun x2 =>
  bif (rowIn v11 v7) then
  bif (natEq v13 v5) then
  ((rowS none v14 (rowOff v6 v11 1))).bind fun x3 =>
  ((T.int? IntKind.i64 x3)).bind fun x4 =>
  ((idxT 1 x2 x4)).bind fun x5 =>
  ((derefT none x5)).bind fun x6 =>
  ((T.str? x6)).bind fun x7 =>
  bif (natEq v27 v18) then
  bif (appOK v28 v19 v20 1 [(V.t (T.str x7))] 16) then
  ((fldT 3 none (T.ptr (T.agg [(T.str v0), v1, v2, v3])))).bind fun x8 =>
  ((derefT none x8)).bind fun x9 =>
  bif (rowIn v11 v7) then
  bif (natEq v13 v5) then
  ((rowS none v14 (rowOff v6 v11 1))).bind fun x10 =>
  ((T.int? IntKind.i64 x10)).bind fun x11 =>
  ((idxT 1 x9 x11)).bind fun x12 =>
  ((derefT none x12)).bind fun x13 =>
  ((T.bool? x13)).bind fun x14 =>
  bif (natEq v29 v24) then
  bif (appOK v30 v25 v26 1 [(V.t (T.bool x14))] 1) then
  bif (objBd 151 (Go.Apex.Obj.cells v13 3 false v14)) then
  bif (objBd 151 (Go.Apex.Obj.cells v15 3 false v16)) then
  bif (objBd 151 (Go.Apex.Obj.cells (appGen v27 [(V.t (T.str x7))]) 9 false (appCs v28 v19 [(V.t (T.str x7))]))) then
  bif (objBd 151 (Go.Apex.Obj.cells (appGen v29 [(V.t (T.bool x14))]) 4 false (appCs v30 v25 [(V.t (T.bool x14))]))) then
  bif (objBd 151 (Go.Apex.Obj.cells v31 38 false v32)) then
  L21_19 v0 v1 v2 v3 v4 v5 v6 v7 v8 v9 v10 v11 0 v12 v13 v14 v15 v16 v17 (appGen v27 [(V.t (T.str x7))]) 0 (appLen v20 [(V.t (T.str x7))]) v21 v22 v23 (appGen v29 [(V.t (T.bool x14))]) 0 (appLen v26 [(V.t (T.bool x14))]) (appGen v27 [(V.t (T.str x7))]) (appCs v28 v19 [(V.t (T.str x7))]) (appGen v29 [(V.t (T.bool x14))]) (appCs v30 v25 [(V.t (T.bool x14))]) v31 v32
  else none
  else none
  else none
  else none
  else none
  else none
  else none
  else none
  else none
  else none
  else none
  else none
  else none
 else
  bif (natEq v27 v18) then
  ((rowT none v28 v19 v20)).bind fun x15 =>
  bif (natEq v31 v21) then
  ((rowT none v32 v22 v23)).bind fun x16 =>
  bif (natEq v29 v24) then
  ((rowT none v30 v25 v26)).bind fun x17 =>
  bif (natEq v15 v8) then
  ((rowT none v16 v9 v10)).bind fun x18 =>
  some (T.tup [(T.agg [(T.str v17), (T.sl false 1 x15), (T.sl false 1 x16), (T.sl false 1 x17)]), (T.sl false 1 x18)])
  else none
  else none
  else none
  else none) = some r) : L21_17 v0 v1 v2 v3 v4 v5 v6 v7 v8 v9 v10 v11 v12 v13 v14 v15 v16 v17 v18 v19 v20 v21 v22 v23 v24 v25 v26 v27 v28 v29 v30 v31 v32 = some r :=
 round_of (n := 3000) (rows := [16, 30, 56, 68, 117]) (by kernel_rfl) h
theorem L21_18_step (v0 : List UInt8) (v1 : T) (v2 : T) (v3 : T) (v4 : Int) (v5 : Nat) (v6 : Nat) (v7 : Nat) (v8 : Nat) (v9 : Nat) (v10 : Nat) (v11 : Int) (v12 : Nat) (v13 : Nat) (v14 : Nat) (v15 : Int) (v16 : Int) (v17 : List UInt8) (v18 : Nat) (v19 : List V) (v20 : Nat) (v21 : List V) (v22 : List UInt8) (v23 : Nat) (v24 : Nat) (v25 : Nat) (v26 : Nat) (v27 : Nat) (v28 : Nat) (v29 : Nat) (v30 : Nat) (v31 : Nat) (v32 : Nat) (v33 : List V) (v34 : Nat) (v35 : List V) (v36 : Nat) (v37 : List V) (v38 : Nat) (v39 : List V) (r : T) (h : (
 ((fldT 2 none (T.ptr (T.agg [(T.str v0), v1, v2, v3])))).bind fun x1 =>
 ((derefT none x1)).bind fun x2 =>
 bif (rowIn v11 v7) then
 bif (natEq v18 v5) then
 ((rowS none v19 (rowOff v6 v11 1))).bind fun x3 =>
 ((T.int? IntKind.i64 x3)).bind fun x4 =>
 ((idxT 1 x2 x4)).bind fun x5 =>
 ((derefT none x5)).bind fun x6 =>
 ((lenT x6)).bind fun x7 =>
 bif (iLt v16 x7) then
  ((fldT 2 none (T.ptr (T.agg [(T.str v0), v1, v2, v3])))).bind fun x8 =>
  ((derefT none x8)).bind fun x9 =>
  bif (rowIn v11 v7) then
  bif (natEq v18 v5) then
  ((rowS none v19 (rowOff v6 v11 1))).bind fun x10 =>
  ((T.int? IntKind.i64 x10)).bind fun x11 =>
  ((idxT 1 x9 x11)).bind fun x12 =>
  ((derefT none x12)).bind fun x13 =>
  ((idxT 1 x13 v16)).bind fun x14 =>
  ((derefT none x14)).bind fun x15 =>
  ((T.int? IntKind.i64 x15)).bind fun x16 =>
  bif (rowIn x16 v10) then
  bif (natEq v20 v8) then
  ((rowS none v21 (rowOff v9 x16 1))).bind fun x17 =>
  ((T.int? IntKind.i64 x17)).bind fun x18 =>
  bif (iEq x18 v15) then
   bif (natEq v38 v12) then
   bif (appOK v39 v13 v14 1 [(V.t (T.int IntKind.i64 v15))] 8) then
   bif (objBd 151 (Go.Apex.Obj.cells v18 3 false v19)) then
   bif (objBd 151 (Go.Apex.Obj.cells v20 3 false v21)) then
   bif (objBd 151 (Go.Apex.Obj.cells v32 9 false v33)) then
   bif (objBd 151 (Go.Apex.Obj.cells v34 4 false v35)) then
   bif (objBd 151 (Go.Apex.Obj.cells v36 38 false v37)) then
   bif (objBd 151 (Go.Apex.Obj.cells (appGen v38 [(V.t (T.int IntKind.i64 v15))]) 3 false (appCs v39 v13 [(V.t (T.int IntKind.i64 v15))]))) then
   L21_18 v0 v1 v2 v3 v4 v5 v6 v7 v8 v9 v10 v11 (appGen v38 [(V.t (T.int IntKind.i64 v15))]) 0 (appLen v14 [(V.t (T.int IntKind.i64 v15))]) v15 (iAdd IntKind.i64 v16 1) v17 v18 v19 v20 v21 v22 v23 v24 v25 v26 v27 v28 v29 v30 v31 v32 v33 v34 v35 v36 v37 (appGen v38 [(V.t (T.int IntKind.i64 v15))]) (appCs v39 v13 [(V.t (T.int IntKind.i64 v15))])
   else none
   else none
   else none
   else none
   else none
   else none
   else none
   else none
  else
   bif (objBd 151 (Go.Apex.Obj.cells v18 3 false v19)) then
   bif (objBd 151 (Go.Apex.Obj.cells v20 3 false v21)) then
   bif (objBd 151 (Go.Apex.Obj.cells v32 9 false v33)) then
   bif (objBd 151 (Go.Apex.Obj.cells v34 4 false v35)) then
   bif (objBd 151 (Go.Apex.Obj.cells v36 38 false v37)) then
   bif (objBd 151 (Go.Apex.Obj.cells v38 3 false v39)) then
   L21_18 v0 v1 v2 v3 v4 v5 v6 v7 v8 v9 v10 v11 v12 v13 v14 v15 (iAdd IntKind.i64 v16 1) v17 v18 v19 v20 v21 v22 v23 v24 v25 v26 v27 v28 v29 v30 v31 v32 v33 v34 v35 v36 v37 v38 v39
   else none
   else none
   else none
   else none
   else none
   else none
  else none
  else none
  else none
  else none
 else
  bif (objBd 151 (Go.Apex.Obj.cells v18 3 false v19)) then
  bif (objBd 151 (Go.Apex.Obj.cells v20 3 false v21)) then
  bif (objBd 151 (Go.Apex.Obj.cells v32 9 false v33)) then
  bif (objBd 151 (Go.Apex.Obj.cells v34 4 false v35)) then
  bif (objBd 151 (Go.Apex.Obj.cells v36 38 false v37)) then
  bif (objBd 151 (Go.Apex.Obj.cells v38 3 false v39)) then
  L21_20 v0 v1 v2 v3 v4 v5 v6 v7 v8 v9 v10 v11 v12 v13 v14 (iAdd IntKind.i64 v15 1) v17 v18 v19 v20 v21 v22 v23 v24 v25 v26 v27 v28 v29 v30 v31 v32 v33 v34 v35 v36 v37 v38 v39
  else none
  else none
  else none
  else none
  else none
  else none
 else none
 else none) = some r) : L21_18 v0 v1 v2 v3 v4 v5 v6 v7 v8 v9 v10 v11 v12 v13 v14 v15 v16 v17 v18 v19 v20 v21 v22 v23 v24 v25 v26 v27 v28 v29 v30 v31 v32 v33 v34 v35 v36 v37 v38 v39 = some r :=
 round_of (n := 3000) (rows := [16, 30, 56, 68, 82, 150]) (by kernel_rfl) h
theorem L21_19_step (v0 : List UInt8) (v1 : T) (v2 : T) (v3 : T) (v4 : Int) (v5 : Nat) (v6 : Nat) (v7 : Nat) (v8 : Nat) (v9 : Nat) (v10 : Nat) (v11 : Int) (v12 : Int) (v13 : List UInt8) (v14 : Nat) (v15 : List V) (v16 : Nat) (v17 : List V) (v18 : List UInt8) (v19 : Nat) (v20 : Nat) (v21 : Nat) (v22 : Nat) (v23 : Nat) (v24 : Nat) (v25 : Nat) (v26 : Nat) (v27 : Nat) (v28 : Nat) (v29 : List V) (v30 : Nat) (v31 : List V) (v32 : Nat) (v33 : List V) (r : T) (h : (
 bif (iLt v12 v4) then
  bif (objBd 155 (Go.Apex.Obj.cells v14 3 false v15)) then
  bif (objBd 155 (Go.Apex.Obj.cells v16 3 false v17)) then
  bif (objBd 155 (Go.Apex.Obj.cells v28 9 false v29)) then
  bif (objBd 155 (Go.Apex.Obj.cells v30 4 false v31)) then
  bif (objBd 155 (Go.Apex.Obj.cells v32 38 false v33)) then
  L21_21 v0 v1 v2 v3 v4 v5 v6 v7 v8 v9 v10 v11 v12 0 v13 v14 v15 v16 v17 v18 v19 v20 v21 v22 v23 v24 v25 v26 v27 v28 v29 v30 v31 v32 v33
  else none
  else none
  else none
  else none
  else none
 else
  bif (natEq v32 v22) then
  bif (appOK v33 v23 v24 1 [(V.t T.nils)] 24) then
  bif (objBd 118 (Go.Apex.Obj.cells v14 3 false v15)) then
  bif (objBd 118 (Go.Apex.Obj.cells v16 3 false v17)) then
  bif (objBd 118 (Go.Apex.Obj.cells v28 9 false v29)) then
  bif (objBd 118 (Go.Apex.Obj.cells v30 4 false v31)) then
  bif (objBd 118 (Go.Apex.Obj.cells (appGen v32 [(V.t T.nils)]) 38 false (appCs v33 v23 [(V.t T.nils)]))) then
  L21_17 v0 v1 v2 v3 v4 v5 v6 v7 v8 v9 v10 (iAdd IntKind.i64 v11 1) v13 v14 v15 v16 v17 v18 v19 v20 v21 (appGen v32 [(V.t T.nils)]) 0 (appLen v24 [(V.t T.nils)]) v25 v26 v27 v28 v29 v30 v31 (appGen v32 [(V.t T.nils)]) (appCs v33 v23 [(V.t T.nils)])
  else none
  else none
  else none
  else none
  else none
  else none
  else none) = some r) : L21_19 v0 v1 v2 v3 v4 v5 v6 v7 v8 v9 v10 v11 v12 v13 v14 v15 v16 v17 v18 v19 v20 v21 v22 v23 v24 v25 v26 v27 v28 v29 v30 v31 v32 v33 = some r :=
 round_of (n := 3000) (rows := [16, 30, 56, 68, 117]) (by kernel_rfl) h
theorem L21_20_step (v0 : List UInt8) (v1 : T) (v2 : T) (v3 : T) (v4 : Int) (v5 : Nat) (v6 : Nat) (v7 : Nat) (v8 : Nat) (v9 : Nat) (v10 : Nat) (v11 : Int) (v12 : Nat) (v13 : Nat) (v14 : Nat) (v15 : Int) (v16 : List UInt8) (v17 : Nat) (v18 : List V) (v19 : Nat) (v20 : List V) (v21 : List UInt8) (v22 : Nat) (v23 : Nat) (v24 : Nat) (v25 : Nat) (v26 : Nat) (v27 : Nat) (v28 : Nat) (v29 : Nat) (v30 : Nat) (v31 : Nat) (v32 : List V) (v33 : Nat) (v34 : List V) (v35 : Nat) (v36 : List V) (v37 : Nat) (v38 : List V) (r : T) (h : (
 bif (iLt v15 v4) then
  bif (objBd 155 (Go.Apex.Obj.cells v17 3 false v18)) then
  bif (objBd 155 (Go.Apex.Obj.cells v19 3 false v20)) then
  bif (objBd 155 (Go.Apex.Obj.cells v31 9 false v32)) then
  bif (objBd 155 (Go.Apex.Obj.cells v33 4 false v34)) then
  bif (objBd 155 (Go.Apex.Obj.cells v35 38 false v36)) then
  bif (objBd 155 (Go.Apex.Obj.cells v37 3 false v38)) then
  L21_22 v0 v1 v2 v3 v4 v5 v6 v7 v8 v9 v10 v11 v12 v13 v14 v15 0 v16 v17 v18 v19 v20 v21 v22 v23 v24 v25 v26 v27 v28 v29 v30 v31 v32 v33 v34 v35 v36 v37 v38
  else none
  else none
  else none
  else none
  else none
  else none
 else
  bif (natEq v12 v37) then
  ((treeOf none v38 v13 v14)).bind fun x1 =>
  bif (vfits (V.t x1) none) then
  bif (vfits (V.t x1) none) then
  bif (natEq v35 v25) then
  bif (appOK v36 v26 v27 1 [(V.t x1)] 24) then
  bif (objBd 83 (Go.Apex.Obj.cells v17 3 false v18)) then
  bif (objBd 83 (Go.Apex.Obj.cells v19 3 false v20)) then
  bif (objBd 83 (Go.Apex.Obj.cells v31 9 false v32)) then
  bif (objBd 83 (Go.Apex.Obj.cells v33 4 false v34)) then
  bif (objBd 83 (Go.Apex.Obj.cells (appGen v35 [(V.t x1)]) 38 false (appCs v36 v26 [(V.t x1)]))) then
  L21_11 v0 v1 v2 v3 v4 v5 v6 v7 v8 v9 v10 (iAdd IntKind.i64 v11 1) v16 v17 v18 v19 v20 v21 v22 v23 v24 (appGen v35 [(V.t x1)]) 0 (appLen v27 [(V.t x1)]) v28 v29 v30 v31 v32 v33 v34 (appGen v35 [(V.t x1)]) (appCs v36 v26 [(V.t x1)])
  else none
  else none
  else none
  else none
  else none
  else none
  else none
  else none
  else none
  else none) = some r) : L21_20 v0 v1 v2 v3 v4 v5 v6 v7 v8 v9 v10 v11 v12 v13 v14 v15 v16 v17 v18 v19 v20 v21 v22 v23 v24 v25 v26 v27 v28 v29 v30 v31 v32 v33 v34 v35 v36 v37 v38 = some r :=
 round_of (n := 3000) (rows := [16, 30, 56, 68, 82, 150]) (by kernel_rfl) h
theorem L21_21_step (v0 : List UInt8) (v1 : T) (v2 : T) (v3 : T) (v4 : Int) (v5 : Nat) (v6 : Nat) (v7 : Nat) (v8 : Nat) (v9 : Nat) (v10 : Nat) (v11 : Int) (v12 : Int) (v13 : Int) (v14 : List UInt8) (v15 : Nat) (v16 : List V) (v17 : Nat) (v18 : List V) (v19 : List UInt8) (v20 : Nat) (v21 : Nat) (v22 : Nat) (v23 : Nat) (v24 : Nat) (v25 : Nat) (v26 : Nat) (v27 : Nat) (v28 : Nat) (v29 : Nat) (v30 : List V) (v31 : Nat) (v32 : List V) (v33 : Nat) (v34 : List V) (r : T) (h : (
 ((fldT 2 none (T.ptr (T.agg [(T.str v0), v1, v2, v3])))).bind fun x1 =>
 ((derefT none x1)).bind fun x2 =>
 bif (rowIn v11 v7) then
 bif (natEq v15 v5) then
 ((rowS none v16 (rowOff v6 v11 1))).bind fun x3 =>
 ((T.int? IntKind.i64 x3)).bind fun x4 =>
 ((idxT 1 x2 x4)).bind fun x5 =>
 ((derefT none x5)).bind fun x6 =>
 ((lenT x6)).bind fun x7 =>
 bif (iLt v13 x7) then
  ((fldT 2 none (T.ptr (T.agg [(T.str v0), v1, v2, v3])))).bind fun x8 =>
  ((derefT none x8)).bind fun x9 =>
  bif (rowIn v11 v7) then
  bif (natEq v15 v5) then
  ((rowS none v16 (rowOff v6 v11 1))).bind fun x10 =>
  ((T.int? IntKind.i64 x10)).bind fun x11 =>
  ((idxT 1 x9 x11)).bind fun x12 =>
  ((derefT none x12)).bind fun x13 =>
  ((idxT 1 x13 v13)).bind fun x14 =>
  ((derefT none x14)).bind fun x15 =>
  ((T.int? IntKind.i64 x15)).bind fun x16 =>
  bif (rowIn x16 v10) then
  bif (natEq v17 v8) then
  ((rowS none v18 (rowOff v9 x16 1))).bind fun x17 =>
  ((T.int? IntKind.i64 x17)).bind fun x18 =>
  bif (iEq x18 v12) then
   bif (objBd 186 (Go.Apex.Obj.cells v15 3 false v16)) then
   bif (objBd 186 (Go.Apex.Obj.cells v17 3 false v18)) then
   bif (objBd 186 (Go.Apex.Obj.cells v29 9 false v30)) then
   bif (objBd 186 (Go.Apex.Obj.cells v31 4 false v32)) then
   bif (objBd 186 (Go.Apex.Obj.cells v33 38 false v34)) then
   L21_23 v0 v1 v2 v3 v4 v5 v6 v7 v8 v9 v10 v11 1 0 1 v12 (iAdd IntKind.i64 v13 1) v14 v15 v16 v17 v18 v19 v20 v21 v22 v23 v24 v25 v26 v27 v28 v29 v30 v31 v32 v33 v34 1 (rowNew [] [(V.t (T.int IntKind.i64 v12))])
   else none
   else none
   else none
   else none
   else none
  else
   bif (objBd 155 (Go.Apex.Obj.cells v15 3 false v16)) then
   bif (objBd 155 (Go.Apex.Obj.cells v17 3 false v18)) then
   bif (objBd 155 (Go.Apex.Obj.cells v29 9 false v30)) then
   bif (objBd 155 (Go.Apex.Obj.cells v31 4 false v32)) then
   bif (objBd 155 (Go.Apex.Obj.cells v33 38 false v34)) then
   L21_21 v0 v1 v2 v3 v4 v5 v6 v7 v8 v9 v10 v11 v12 (iAdd IntKind.i64 v13 1) v14 v15 v16 v17 v18 v19 v20 v21 v22 v23 v24 v25 v26 v27 v28 v29 v30 v31 v32 v33 v34
   else none
   else none
   else none
   else none
   else none
  else none
  else none
  else none
  else none
 else
  bif (objBd 151 (Go.Apex.Obj.cells v15 3 false v16)) then
  bif (objBd 151 (Go.Apex.Obj.cells v17 3 false v18)) then
  bif (objBd 151 (Go.Apex.Obj.cells v29 9 false v30)) then
  bif (objBd 151 (Go.Apex.Obj.cells v31 4 false v32)) then
  bif (objBd 151 (Go.Apex.Obj.cells v33 38 false v34)) then
  L21_19 v0 v1 v2 v3 v4 v5 v6 v7 v8 v9 v10 v11 (iAdd IntKind.i64 v12 1) v14 v15 v16 v17 v18 v19 v20 v21 v22 v23 v24 v25 v26 v27 v28 v29 v30 v31 v32 v33 v34
  else none
  else none
  else none
  else none
  else none
 else none
 else none) = some r) : L21_21 v0 v1 v2 v3 v4 v5 v6 v7 v8 v9 v10 v11 v12 v13 v14 v15 v16 v17 v18 v19 v20 v21 v22 v23 v24 v25 v26 v27 v28 v29 v30 v31 v32 v33 v34 = some r :=
 round_of (n := 3000) (rows := [16, 30, 56, 68, 117]) (by kernel_rfl) h
theorem L21_22_step (v0 : List UInt8) (v1 : T) (v2 : T) (v3 : T) (v4 : Int) (v5 : Nat) (v6 : Nat) (v7 : Nat) (v8 : Nat) (v9 : Nat) (v10 : Nat) (v11 : Int) (v12 : Nat) (v13 : Nat) (v14 : Nat) (v15 : Int) (v16 : Int) (v17 : List UInt8) (v18 : Nat) (v19 : List V) (v20 : Nat) (v21 : List V) (v22 : List UInt8) (v23 : Nat) (v24 : Nat) (v25 : Nat) (v26 : Nat) (v27 : Nat) (v28 : Nat) (v29 : Nat) (v30 : Nat) (v31 : Nat) (v32 : Nat) (v33 : List V) (v34 : Nat) (v35 : List V) (v36 : Nat) (v37 : List V) (v38 : Nat) (v39 : List V) (r : T) (h : (
 ((fldT 2 none (T.ptr (T.agg [(T.str v0), v1, v2, v3])))).bind fun x1 =>
 ((derefT none x1)).bind fun x2 =>
 bif (rowIn v11 v7) then
 bif (natEq v18 v5) then
 ((rowS none v19 (rowOff v6 v11 1))).bind fun x3 =>
 ((T.int? IntKind.i64 x3)).bind fun x4 =>
 ((idxT 1 x2 x4)).bind fun x5 =>
 ((derefT none x5)).bind fun x6 =>
 ((lenT x6)).bind fun x7 =>
 bif (iLt v16 x7) then
  ((fldT 2 none (T.ptr (T.agg [(T.str v0), v1, v2, v3])))).bind fun x8 =>
  ((derefT none x8)).bind fun x9 =>
  bif (rowIn v11 v7) then
  bif (natEq v18 v5) then
  ((rowS none v19 (rowOff v6 v11 1))).bind fun x10 =>
  ((T.int? IntKind.i64 x10)).bind fun x11 =>
  ((idxT 1 x9 x11)).bind fun x12 =>
  ((derefT none x12)).bind fun x13 =>
  ((idxT 1 x13 v16)).bind fun x14 =>
  ((derefT none x14)).bind fun x15 =>
  ((T.int? IntKind.i64 x15)).bind fun x16 =>
  bif (rowIn x16 v10) then
  bif (natEq v20 v8) then
  ((rowS none v21 (rowOff v9 x16 1))).bind fun x17 =>
  ((T.int? IntKind.i64 x17)).bind fun x18 =>
  bif (iEq x18 v15) then
   bif (natEq v38 v12) then
   bif (appOK v39 v13 v14 1 [(V.t (T.int IntKind.i64 v15))] 8) then
   bif (objBd 155 (Go.Apex.Obj.cells v18 3 false v19)) then
   bif (objBd 155 (Go.Apex.Obj.cells v20 3 false v21)) then
   bif (objBd 155 (Go.Apex.Obj.cells v32 9 false v33)) then
   bif (objBd 155 (Go.Apex.Obj.cells v34 4 false v35)) then
   bif (objBd 155 (Go.Apex.Obj.cells v36 38 false v37)) then
   bif (objBd 155 (Go.Apex.Obj.cells (appGen v38 [(V.t (T.int IntKind.i64 v15))]) 3 false (appCs v39 v13 [(V.t (T.int IntKind.i64 v15))]))) then
   L21_22 v0 v1 v2 v3 v4 v5 v6 v7 v8 v9 v10 v11 (appGen v38 [(V.t (T.int IntKind.i64 v15))]) 0 (appLen v14 [(V.t (T.int IntKind.i64 v15))]) v15 (iAdd IntKind.i64 v16 1) v17 v18 v19 v20 v21 v22 v23 v24 v25 v26 v27 v28 v29 v30 v31 v32 v33 v34 v35 v36 v37 (appGen v38 [(V.t (T.int IntKind.i64 v15))]) (appCs v39 v13 [(V.t (T.int IntKind.i64 v15))])
   else none
   else none
   else none
   else none
   else none
   else none
   else none
   else none
  else
   bif (objBd 155 (Go.Apex.Obj.cells v18 3 false v19)) then
   bif (objBd 155 (Go.Apex.Obj.cells v20 3 false v21)) then
   bif (objBd 155 (Go.Apex.Obj.cells v32 9 false v33)) then
   bif (objBd 155 (Go.Apex.Obj.cells v34 4 false v35)) then
   bif (objBd 155 (Go.Apex.Obj.cells v36 38 false v37)) then
   bif (objBd 155 (Go.Apex.Obj.cells v38 3 false v39)) then
   L21_22 v0 v1 v2 v3 v4 v5 v6 v7 v8 v9 v10 v11 v12 v13 v14 v15 (iAdd IntKind.i64 v16 1) v17 v18 v19 v20 v21 v22 v23 v24 v25 v26 v27 v28 v29 v30 v31 v32 v33 v34 v35 v36 v37 v38 v39
   else none
   else none
   else none
   else none
   else none
   else none
  else none
  else none
  else none
  else none
 else
  bif (objBd 151 (Go.Apex.Obj.cells v18 3 false v19)) then
  bif (objBd 151 (Go.Apex.Obj.cells v20 3 false v21)) then
  bif (objBd 151 (Go.Apex.Obj.cells v32 9 false v33)) then
  bif (objBd 151 (Go.Apex.Obj.cells v34 4 false v35)) then
  bif (objBd 151 (Go.Apex.Obj.cells v36 38 false v37)) then
  bif (objBd 151 (Go.Apex.Obj.cells v38 3 false v39)) then
  L21_20 v0 v1 v2 v3 v4 v5 v6 v7 v8 v9 v10 v11 v12 v13 v14 (iAdd IntKind.i64 v15 1) v17 v18 v19 v20 v21 v22 v23 v24 v25 v26 v27 v28 v29 v30 v31 v32 v33 v34 v35 v36 v37 v38 v39
  else none
  else none
  else none
  else none
  else none
  else none
 else none
 else none) = some r) : L21_22 v0 v1 v2 v3 v4 v5 v6 v7 v8 v9 v10 v11 v12 v13 v14 v15 v16 v17 v18 v19 v20 v21 v22 v23 v24 v25 v26 v27 v28 v29 v30 v31 v32 v33 v34 v35 v36 v37 v38 v39 = some r :=
 round_of (n := 3000) (rows := [16, 30, 56, 68, 82, 150]) (by kernel_rfl) h
theorem L21_23_step (v0 : List UInt8) (v1 : T) (v2 : T) (v3 : T) (v4 : Int) (v5 : Nat) (v6 : Nat) (v7 : Nat) (v8 : Nat) (v9 : Nat) (v10 : Nat) (v11 : Int) (v12 : Nat) (v13 : Nat) (v14 : Nat) (v15 : Int) (v16 : Int) (v17 : List UInt8) (v18 : Nat) (v19 : List V) (v20 : Nat) (v21 : List V) (v22 : List UInt8) (v23 : Nat) (v24 : Nat) (v25 : Nat) (v26 : Nat) (v27 : Nat) (v28 : Nat) (v29 : Nat) (v30 : Nat) (v31 : Nat) (v32 : Nat) (v33 : List V) (v34 : Nat) (v35 : List V) (v36 : Nat) (v37 : List V) (v38 : Nat) (v39 : List V) (r : T) (h : (
 ((fldT 2 none (T.ptr (T.agg [(T.str v0), v1, v2, v3])))).bind fun x1 =>
 ((derefT none x1)).bind fun x2 =>
 bif (rowIn v11 v7) then
 bif (natEq v18 v5) then
 ((rowS none v19 (rowOff v6 v11 1))).bind fun x3 =>
 ((T.int? IntKind.i64 x3)).bind fun x4 =>
 ((idxT 1 x2 x4)).bind fun x5 =>
 ((derefT none x5)).bind fun x6 =>
 ((lenT x6)).bind fun x7 =>
 bif (iLt v16 x7) then
  ((fldT 2 none (T.ptr (T.agg [(T.str v0), v1, v2, v3])))).bind fun x8 =>
  ((derefT none x8)).bind fun x9 =>
  bif (rowIn v11 v7) then
  bif (natEq v18 v5) then
  ((rowS none v19 (rowOff v6 v11 1))).bind fun x10 =>
  ((T.int? IntKind.i64 x10)).bind fun x11 =>
  ((idxT 1 x9 x11)).bind fun x12 =>
  ((derefT none x12)).bind fun x13 =>
  ((idxT 1 x13 v16)).bind fun x14 =>
  ((derefT none x14)).bind fun x15 =>
  ((T.int? IntKind.i64 x15)).bind fun x16 =>
  bif (rowIn x16 v10) then
  bif (natEq v20 v8) then
  ((rowS none v21 (rowOff v9 x16 1))).bind fun x17 =>
  ((T.int? IntKind.i64 x17)).bind fun x18 =>
  bif (iEq x18 v15) then
   bif (natEq v38 v12) then
   bif (appOK v39 v13 v14 1 [(V.t (T.int IntKind.i64 v15))] 8) then
   bif (objBd 186 (Go.Apex.Obj.cells v18 3 false v19)) then
   bif (objBd 186 (Go.Apex.Obj.cells v20 3 false v21)) then
   bif (objBd 186 (Go.Apex.Obj.cells v32 9 false v33)) then
   bif (objBd 186 (Go.Apex.Obj.cells v34 4 false v35)) then
   bif (objBd 186 (Go.Apex.Obj.cells v36 38 false v37)) then
   bif (objBd 186 (Go.Apex.Obj.cells (appGen v38 [(V.t (T.int IntKind.i64 v15))]) 3 false (appCs v39 v13 [(V.t (T.int IntKind.i64 v15))]))) then
   L21_23 v0 v1 v2 v3 v4 v5 v6 v7 v8 v9 v10 v11 (appGen v38 [(V.t (T.int IntKind.i64 v15))]) 0 (appLen v14 [(V.t (T.int IntKind.i64 v15))]) v15 (iAdd IntKind.i64 v16 1) v17 v18 v19 v20 v21 v22 v23 v24 v25 v26 v27 v28 v29 v30 v31 v32 v33 v34 v35 v36 v37 (appGen v38 [(V.t (T.int IntKind.i64 v15))]) (appCs v39 v13 [(V.t (T.int IntKind.i64 v15))])
   else none
   else none
   else none
   else none
   else none
   else none
   else none
   else none
  else
   bif (objBd 186 (Go.Apex.Obj.cells v18 3 false v19)) then
   bif (objBd 186 (Go.Apex.Obj.cells v20 3 false v21)) then
   bif (objBd 186 (Go.Apex.Obj.cells v32 9 false v33)) then
   bif (objBd 186 (Go.Apex.Obj.cells v34 4 false v35)) then
   bif (objBd 186 (Go.Apex.Obj.cells v36 38 false v37)) then
   bif (objBd 186 (Go.Apex.Obj.cells v38 3 false v39)) then
   L21_23 v0 v1 v2 v3 v4 v5 v6 v7 v8 v9 v10 v11 v12 v13 v14 v15 (iAdd IntKind.i64 v16 1) v17 v18 v19 v20 v21 v22 v23 v24 v25 v26 v27 v28 v29 v30 v31 v32 v33 v34 v35 v36 v37 v38 v39
   else none
   else none
   else none
   else none
   else none
   else none
  else none
  else none
  else none
  else none
 else
  bif (objBd 186 (Go.Apex.Obj.cells v18 3 false v19)) then
  bif (objBd 186 (Go.Apex.Obj.cells v20 3 false v21)) then
  bif (objBd 186 (Go.Apex.Obj.cells v32 9 false v33)) then
  bif (objBd 186 (Go.Apex.Obj.cells v34 4 false v35)) then
  bif (objBd 186 (Go.Apex.Obj.cells v36 38 false v37)) then
  bif (objBd 186 (Go.Apex.Obj.cells v38 3 false v39)) then
  L21_24 v0 v1 v2 v3 v4 v5 v6 v7 v8 v9 v10 v11 v12 v13 v14 (iAdd IntKind.i64 v15 1) v17 v18 v19 v20 v21 v22 v23 v24 v25 v26 v27 v28 v29 v30 v31 v32 v33 v34 v35 v36 v37 v38 v39
  else none
  else none
  else none
  else none
  else none
  else none
 else none
 else none) = some r) : L21_23 v0 v1 v2 v3 v4 v5 v6 v7 v8 v9 v10 v11 v12 v13 v14 v15 v16 v17 v18 v19 v20 v21 v22 v23 v24 v25 v26 v27 v28 v29 v30 v31 v32 v33 v34 v35 v36 v37 v38 v39 = some r :=
 round_of (n := 3000) (rows := [16, 30, 56, 68, 117, 185]) (by kernel_rfl) h
theorem L21_24_step (v0 : List UInt8) (v1 : T) (v2 : T) (v3 : T) (v4 : Int) (v5 : Nat) (v6 : Nat) (v7 : Nat) (v8 : Nat) (v9 : Nat) (v10 : Nat) (v11 : Int) (v12 : Nat) (v13 : Nat) (v14 : Nat) (v15 : Int) (v16 : List UInt8) (v17 : Nat) (v18 : List V) (v19 : Nat) (v20 : List V) (v21 : List UInt8) (v22 : Nat) (v23 : Nat) (v24 : Nat) (v25 : Nat) (v26 : Nat) (v27 : Nat) (v28 : Nat) (v29 : Nat) (v30 : Nat) (v31 : Nat) (v32 : List V) (v33 : Nat) (v34 : List V) (v35 : Nat) (v36 : List V) (v37 : Nat) (v38 : List V) (r : T) (h : (
 bif (iLt v15 v4) then
  bif (objBd 190 (Go.Apex.Obj.cells v17 3 false v18)) then
  bif (objBd 190 (Go.Apex.Obj.cells v19 3 false v20)) then
  bif (objBd 190 (Go.Apex.Obj.cells v31 9 false v32)) then
  bif (objBd 190 (Go.Apex.Obj.cells v33 4 false v34)) then
  bif (objBd 190 (Go.Apex.Obj.cells v35 38 false v36)) then
  bif (objBd 190 (Go.Apex.Obj.cells v37 3 false v38)) then
  L21_25 v0 v1 v2 v3 v4 v5 v6 v7 v8 v9 v10 v11 v12 v13 v14 v15 0 v16 v17 v18 v19 v20 v21 v22 v23 v24 v25 v26 v27 v28 v29 v30 v31 v32 v33 v34 v35 v36 v37 v38
  else none
  else none
  else none
  else none
  else none
  else none
 else
  bif (natEq v12 v37) then
  ((treeOf none v38 v13 v14)).bind fun x1 =>
  bif (vfits (V.t x1) none) then
  bif (vfits (V.t x1) none) then
  bif (natEq v35 v25) then
  bif (appOK v36 v26 v27 1 [(V.t x1)] 24) then
  bif (objBd 118 (Go.Apex.Obj.cells v17 3 false v18)) then
  bif (objBd 118 (Go.Apex.Obj.cells v19 3 false v20)) then
  bif (objBd 118 (Go.Apex.Obj.cells v31 9 false v32)) then
  bif (objBd 118 (Go.Apex.Obj.cells v33 4 false v34)) then
  bif (objBd 118 (Go.Apex.Obj.cells (appGen v35 [(V.t x1)]) 38 false (appCs v36 v26 [(V.t x1)]))) then
  L21_17 v0 v1 v2 v3 v4 v5 v6 v7 v8 v9 v10 (iAdd IntKind.i64 v11 1) v16 v17 v18 v19 v20 v21 v22 v23 v24 (appGen v35 [(V.t x1)]) 0 (appLen v27 [(V.t x1)]) v28 v29 v30 v31 v32 v33 v34 (appGen v35 [(V.t x1)]) (appCs v36 v26 [(V.t x1)])
  else none
  else none
  else none
  else none
  else none
  else none
  else none
  else none
  else none
  else none) = some r) : L21_24 v0 v1 v2 v3 v4 v5 v6 v7 v8 v9 v10 v11 v12 v13 v14 v15 v16 v17 v18 v19 v20 v21 v22 v23 v24 v25 v26 v27 v28 v29 v30 v31 v32 v33 v34 v35 v36 v37 v38 = some r :=
 round_of (n := 3000) (rows := [16, 30, 56, 68, 117, 185]) (by kernel_rfl) h
theorem L21_25_step (v0 : List UInt8) (v1 : T) (v2 : T) (v3 : T) (v4 : Int) (v5 : Nat) (v6 : Nat) (v7 : Nat) (v8 : Nat) (v9 : Nat) (v10 : Nat) (v11 : Int) (v12 : Nat) (v13 : Nat) (v14 : Nat) (v15 : Int) (v16 : Int) (v17 : List UInt8) (v18 : Nat) (v19 : List V) (v20 : Nat) (v21 : List V) (v22 : List UInt8) (v23 : Nat) (v24 : Nat) (v25 : Nat) (v26 : Nat) (v27 : Nat) (v28 : Nat) (v29 : Nat) (v30 : Nat) (v31 : Nat) (v32 : Nat) (v33 : List V) (v34 : Nat) (v35 : List V) (v36 : Nat) (v37 : List V) (v38 : Nat) (v39 : List V) (r : T) (h : (
 ((fldT 2 none (T.ptr (T.agg [(T.str v0), v1, v2, v3])))).bind fun x1 =>
 ((derefT none x1)).bind fun x2 =>
 bif (rowIn v11 v7) then
 bif (natEq v18 v5) then
 ((rowS none v19 (rowOff v6 v11 1))).bind fun x3 =>
 ((T.int? IntKind.i64 x3)).bind fun x4 =>
 ((idxT 1 x2 x4)).bind fun x5 =>
 ((derefT none x5)).bind fun x6 =>
 ((lenT x6)).bind fun x7 =>
 bif (iLt v16 x7) then
  ((fldT 2 none (T.ptr (T.agg [(T.str v0), v1, v2, v3])))).bind fun x8 =>
  ((derefT none x8)).bind fun x9 =>
  bif (rowIn v11 v7) then
  bif (natEq v18 v5) then
  ((rowS none v19 (rowOff v6 v11 1))).bind fun x10 =>
  ((T.int? IntKind.i64 x10)).bind fun x11 =>
  ((idxT 1 x9 x11)).bind fun x12 =>
  ((derefT none x12)).bind fun x13 =>
  ((idxT 1 x13 v16)).bind fun x14 =>
  ((derefT none x14)).bind fun x15 =>
  ((T.int? IntKind.i64 x15)).bind fun x16 =>
  bif (rowIn x16 v10) then
  bif (natEq v20 v8) then
  ((rowS none v21 (rowOff v9 x16 1))).bind fun x17 =>
  ((T.int? IntKind.i64 x17)).bind fun x18 =>
  bif (iEq x18 v15) then
   bif (natEq v38 v12) then
   bif (appOK v39 v13 v14 1 [(V.t (T.int IntKind.i64 v15))] 8) then
   bif (objBd 190 (Go.Apex.Obj.cells v18 3 false v19)) then
   bif (objBd 190 (Go.Apex.Obj.cells v20 3 false v21)) then
   bif (objBd 190 (Go.Apex.Obj.cells v32 9 false v33)) then
   bif (objBd 190 (Go.Apex.Obj.cells v34 4 false v35)) then
   bif (objBd 190 (Go.Apex.Obj.cells v36 38 false v37)) then
   bif (objBd 190 (Go.Apex.Obj.cells (appGen v38 [(V.t (T.int IntKind.i64 v15))]) 3 false (appCs v39 v13 [(V.t (T.int IntKind.i64 v15))]))) then
   L21_25 v0 v1 v2 v3 v4 v5 v6 v7 v8 v9 v10 v11 (appGen v38 [(V.t (T.int IntKind.i64 v15))]) 0 (appLen v14 [(V.t (T.int IntKind.i64 v15))]) v15 (iAdd IntKind.i64 v16 1) v17 v18 v19 v20 v21 v22 v23 v24 v25 v26 v27 v28 v29 v30 v31 v32 v33 v34 v35 v36 v37 (appGen v38 [(V.t (T.int IntKind.i64 v15))]) (appCs v39 v13 [(V.t (T.int IntKind.i64 v15))])
   else none
   else none
   else none
   else none
   else none
   else none
   else none
   else none
  else
   bif (objBd 190 (Go.Apex.Obj.cells v18 3 false v19)) then
   bif (objBd 190 (Go.Apex.Obj.cells v20 3 false v21)) then
   bif (objBd 190 (Go.Apex.Obj.cells v32 9 false v33)) then
   bif (objBd 190 (Go.Apex.Obj.cells v34 4 false v35)) then
   bif (objBd 190 (Go.Apex.Obj.cells v36 38 false v37)) then
   bif (objBd 190 (Go.Apex.Obj.cells v38 3 false v39)) then
   L21_25 v0 v1 v2 v3 v4 v5 v6 v7 v8 v9 v10 v11 v12 v13 v14 v15 (iAdd IntKind.i64 v16 1) v17 v18 v19 v20 v21 v22 v23 v24 v25 v26 v27 v28 v29 v30 v31 v32 v33 v34 v35 v36 v37 v38 v39
   else none
   else none
   else none
   else none
   else none
   else none
  else none
  else none
  else none
  else none
 else
  bif (objBd 186 (Go.Apex.Obj.cells v18 3 false v19)) then
  bif (objBd 186 (Go.Apex.Obj.cells v20 3 false v21)) then
  bif (objBd 186 (Go.Apex.Obj.cells v32 9 false v33)) then
  bif (objBd 186 (Go.Apex.Obj.cells v34 4 false v35)) then
  bif (objBd 186 (Go.Apex.Obj.cells v36 38 false v37)) then
  bif (objBd 186 (Go.Apex.Obj.cells v38 3 false v39)) then
  L21_24 v0 v1 v2 v3 v4 v5 v6 v7 v8 v9 v10 v11 v12 v13 v14 (iAdd IntKind.i64 v15 1) v17 v18 v19 v20 v21 v22 v23 v24 v25 v26 v27 v28 v29 v30 v31 v32 v33 v34 v35 v36 v37 v38 v39
  else none
  else none
  else none
  else none
  else none
  else none
 else none
 else none) = some r) : L21_25 v0 v1 v2 v3 v4 v5 v6 v7 v8 v9 v10 v11 v12 v13 v14 v15 v16 v17 v18 v19 v20 v21 v22 v23 v24 v25 v26 v27 v28 v29 v30 v31 v32 v33 v34 v35 v36 v37 v38 v39 = some r :=
 round_of (n := 3000) (rows := [16, 30, 56, 68, 117, 185]) (by kernel_rfl) h
theorem fn21 (a0_0 : List UInt8) (a0_1 : T) (a0_2 : T) (a0_3 : T) (a1 : T) (r : T) (h : (
 bif (vfits (V.t (T.agg [(T.str a0_0), a0_1, a0_2, a0_3])) (some 4)) then
 ((fldT 1 none (T.ptr (T.agg [(T.str a0_0), a0_1, a0_2, a0_3])))).bind fun x1 =>
 ((derefT none x1)).bind fun x2 =>
 ((lenT x2)).bind fun x3 =>
 L21_1 a1 a0_0 a0_1 a0_2 a0_3 x3 0 []
 else none) = some r) : fnO acfg 21 [(T.agg [(T.str a0_0), a0_1, a0_2, a0_3]), a1] = some r :=
 fn_of (n := 3000) (by kernel_rfl) h
noncomputable def L4_1k (v0 : List UInt8) (v1 : T) (v2 : T) (v3 : T) (v4 : List UInt8) (v5 : T) (v6 : T) (v7 : T) (v8 : T) (v9 : Int) (v10 : Int) : List Kt := [.loop 4 none (codeOf acfg 4 [1, 1, 1, 1, 1, 1, 0, 1, 0, 0]), .block 0, .code 4 none (codeOf acfg 4 [1, 1, 1, 1, 1, 1, 1])]
noncomputable def L4_1s (v0 : List UInt8) (v1 : T) (v2 : T) (v3 : T) (v4 : List UInt8) (v5 : T) (v6 : T) (v7 : T) (v8 : T) (v9 : Int) (v10 : Int) : St := ⟨(mkTs 86 [(2, (V.t (T.ptr (T.agg [(T.str v0), v1, v2, v3])))), (5, (V.t (T.ptr (T.agg [(T.str v4), v5, v6, v7])))), (6, (V.t v8)), (8, (V.t (T.int IntKind.i64 v9))), (11, (V.t (T.int IntKind.i64 v10)))]), ⟨41, mkTr []⟩, []⟩
noncomputable def L4_1 (v0 : List UInt8) (v1 : T) (v2 : T) (v3 : T) (v4 : List UInt8) (v5 : T) (v6 : T) (v7 : T) (v8 : T) (v9 : Int) (v10 : Int) : Option T := runO acfg (pureFin acfg 4) (L4_1k v0 v1 v2 v3 v4 v5 v6 v7 v8 v9 v10) (L4_1s v0 v1 v2 v3 v4 v5 v6 v7 v8 v9 v10)
noncomputable def L4_2k (v0 : List UInt8) (v1 : T) (v2 : T) (v3 : T) (v4 : List UInt8) (v5 : T) (v6 : T) (v7 : T) (v8 : T) (v9 : Int) (v10 : Int) (v11 : Int) : List Kt := [.loop 4 none (codeOf acfg 4 [1, 1, 1, 1, 1, 1, 0, 1, 0, 0, 1, 0, 0, 1, 0, 0]), .block 2, .block 1, .code 4 none (codeOf acfg 4 [1, 1, 1, 1, 1, 1, 0, 1, 0, 0, 1, 1]), .round 4 none (codeOf acfg 4 [1, 1, 1, 1, 1, 1, 0, 1, 0, 0]) 41, .block 0, .code 4 none (codeOf acfg 4 [1, 1, 1, 1, 1, 1, 1])]
noncomputable def L4_2s (v0 : List UInt8) (v1 : T) (v2 : T) (v3 : T) (v4 : List UInt8) (v5 : T) (v6 : T) (v7 : T) (v8 : T) (v9 : Int) (v10 : Int) (v11 : Int) : St := ⟨(mkTs 86 [(2, (V.t (T.ptr (T.agg [(T.str v0), v1, v2, v3])))), (5, (V.t (T.ptr (T.agg [(T.str v4), v5, v6, v7])))), (6, (V.t v8)), (8, (V.t (T.int IntKind.i64 v9))), (11, (V.t (T.int IntKind.i64 v10))), (12, (V.t (T.int IntKind.i64 v11)))]), ⟨50, mkTr []⟩, []⟩
noncomputable def L4_2 (v0 : List UInt8) (v1 : T) (v2 : T) (v3 : T) (v4 : List UInt8) (v5 : T) (v6 : T) (v7 : T) (v8 : T) (v9 : Int) (v10 : Int) (v11 : Int) : Option T := runO acfg (pureFin acfg 4) (L4_2k v0 v1 v2 v3 v4 v5 v6 v7 v8 v9 v10 v11) (L4_2s v0 v1 v2 v3 v4 v5 v6 v7 v8 v9 v10 v11)
theorem L4_1_step (v0 : List UInt8) (v1 : T) (v2 : T) (v3 : T) (v4 : List UInt8) (v5 : T) (v6 : T) (v7 : T) (v8 : T) (v9 : Int) (v10 : Int) (r : T) (h : (
 ((lenT v8)).bind fun x1 =>
 bif (iLt v10 x1) then
  bif (iEq v9 0) then
   L4_2 v0 v1 v2 v3 v4 v5 v6 v7 v8 v9 v10 0
  else
   ((fnO acfg 14 [])).bind fun x2 =>
   bif (T.scalar x2) then
   ((T.bool? x2)).bind fun x3 =>
   some (T.bool x3)
   else none
 else
  ((fnO acfg 14 [])).bind fun x4 =>
  bif (T.scalar x4) then
  ((T.bool? x4)).bind fun x5 =>
  some (T.bool x5)
  else none) = some r) : L4_1 v0 v1 v2 v3 v4 v5 v6 v7 v8 v9 v10 = some r :=
 round_of (n := 3000) (rows := []) (by kernel_rfl) h
theorem L4_2_step (v0 : List UInt8) (v1 : T) (v2 : T) (v3 : T) (v4 : List UInt8) (v5 : T) (v6 : T) (v7 : T) (v8 : T) (v9 : Int) (v10 : Int) (v11 : Int) (r : T) (h : (
 ((lenT v8)).bind fun x1 =>
 bif (iLt v11 x1) then
  ((derefT (some 4) (T.ptr (T.agg [(T.str v0), v1, v2, v3])))).bind fun x2 =>
  ((T.agg? (List.length [D.str, (D.slice 9), (D.slice 38), (D.slice 4)]) x2)).bind fun x3 =>
  ((T.str? (nthT x3 0))).bind fun x4 =>
  ((fnO acfg 22 [(T.agg [(T.str x4), (nthT x3 1), (nthT x3 2), (nthT x3 3)]), (T.int IntKind.i64 v10), (T.int IntKind.i64 v11)])).bind fun x5 =>
  bif (T.scalar x5) then
  ((T.int? IntKind.i64 x5)).bind fun x6 =>
  ((derefT (some 4) (T.ptr (T.agg [(T.str v4), v5, v6, v7])))).bind fun x7 =>
  ((T.agg? (List.length [D.str, (D.slice 9), (D.slice 38), (D.slice 4)]) x7)).bind fun x8 =>
  ((T.str? (nthT x8 0))).bind fun x9 =>
  ((idxT 1 v8 v10)).bind fun x10 =>
  ((derefT none x10)).bind fun x11 =>
  ((T.int? IntKind.i64 x11)).bind fun x12 =>
  ((idxT 1 v8 v11)).bind fun x13 =>
  ((derefT none x13)).bind fun x14 =>
  ((T.int? IntKind.i64 x14)).bind fun x15 =>
  ((fnO acfg 22 [(T.agg [(T.str x9), (nthT x8 1), (nthT x8 2), (nthT x8 3)]), (T.int IntKind.i64 x12), (T.int IntKind.i64 x15)])).bind fun x16 =>
  bif (T.scalar x16) then
  ((T.int? IntKind.i64 x16)).bind fun x17 =>
  bif (iLt x6 0) then
   some (T.bool false)
  else
   ((idxT 1 v8 x6)).bind fun x18 =>
   ((derefT none x18)).bind fun x19 =>
   ((T.int? IntKind.i64 x19)).bind fun x20 =>
   bif (bNot (iEq x17 x20)) then
    some (T.bool false)
   else
    L4_2 v0 v1 v2 v3 v4 v5 v6 v7 v8 v9 v10 (iAdd IntKind.i64 v11 1)
  else none
  else none
 else
  L4_1 v0 v1 v2 v3 v4 v5 v6 v7 v8 v9 (iAdd IntKind.i64 v10 1)) = some r) : L4_2 v0 v1 v2 v3 v4 v5 v6 v7 v8 v9 v10 v11 = some r :=
 round_of (n := 3000) (rows := []) (by kernel_rfl) h
theorem fn4 (a0_0 : List UInt8) (a0_1 : T) (a0_2 : T) (a0_3 : T) (a1 : T) (r : T) (h : (
 bif (vfits (V.t (T.agg [(T.str a0_0), a0_1, a0_2, a0_3])) (some 4)) then
 ((derefT (some 4) (T.ptr (T.agg [(T.str a0_0), a0_1, a0_2, a0_3])))).bind fun x1 =>
 ((T.agg? (List.length [D.str, (D.slice 9), (D.slice 38), (D.slice 4)]) x1)).bind fun x2 =>
 ((T.str? (nthT x2 0))).bind fun x3 =>
 ((fnO acfg 13 [(T.agg [(T.str x3), (nthT x2 1), (nthT x2 2), (nthT x2 3)])])).bind fun x4 =>
 bif (T.scalar x4) then
 ((T.bool? x4)).bind fun x5 =>
 bif (bNot x5) then
  ((fnO acfg 14 [])).bind fun x6 =>
  bif (T.scalar x6) then
  ((T.bool? x6)).bind fun x7 =>
  some (T.bool x7)
  else none
 else
  ((derefT (some 4) (T.ptr (T.agg [(T.str a0_0), a0_1, a0_2, a0_3])))).bind fun x8 =>
  ((T.agg? (List.length [D.str, (D.slice 9), (D.slice 38), (D.slice 4)]) x8)).bind fun x9 =>
  ((T.str? (nthT x9 0))).bind fun x10 =>
  ((fnO acfg 19 [(T.agg [(T.str x10), (nthT x9 1), (nthT x9 2), (nthT x9 3)])])).bind fun x11 =>
  bif (T.scalar x11) then
  ((T.int? IntKind.i64 x11)).bind fun x12 =>
  bif (bNot (iEq x12 0)) then
   ((fnO acfg 14 [])).bind fun x13 =>
   bif (T.scalar x13) then
   ((T.bool? x13)).bind fun x14 =>
   some (T.bool x14)
   else none
  else
   ((derefT (some 4) (T.ptr (T.agg [(T.str a0_0), a0_1, a0_2, a0_3])))).bind fun x15 =>
   ((T.agg? (List.length [D.str, (D.slice 9), (D.slice 38), (D.slice 4)]) x15)).bind fun x16 =>
   ((T.str? (nthT x16 0))).bind fun x17 =>
   ((fnO acfg 21 [(T.agg [(T.str x17), (nthT x16 1), (nthT x16 2), (nthT x16 3)]), a1])).bind fun x18 =>
   ((T.tup? (List.length [26, 38]) x18)).bind fun x19 =>
   ((T.agg? (List.length [D.str, (D.slice 9), (D.slice 38), (D.slice 4)]) (nthT x19 0))).bind fun x20 =>
   ((T.str? (nthT x20 0))).bind fun x21 =>
   bif (vfits (V.t (T.agg [(T.str x21), (nthT x20 1), (nthT x20 2), (nthT x20 3)])) (some 4)) then
   ((derefT (some 4) (T.ptr (T.agg [(T.str a0_0), a0_1, a0_2, a0_3])))).bind fun x22 =>
   ((T.agg? (List.length [D.str, (D.slice 9), (D.slice 38), (D.slice 4)]) x22)).bind fun x23 =>
   ((T.str? (nthT x23 0))).bind fun x24 =>
   ((fnO acfg 15 [(T.agg [(T.str x24), (nthT x23 1), (nthT x23 2), (nthT x23 3)])])).bind fun x25 =>
   ((T.agg? (List.length [D.str, (D.slice 9), (D.slice 38), (D.slice 4)]) x25)).bind fun x26 =>
   ((T.str? (nthT x26 0))).bind fun x27 =>
   ((fnO acfg 17 [(T.agg [(T.str x27), (nthT x26 1), (nthT x26 2), (nthT x26 3)])])).bind fun x28 =>
   bif (T.scalar x28) then
   ((T.tup? (List.length [33, 30]) x28)).bind fun x29 =>
   ((T.agg? (List.length [(D.int IntKind.u8), (D.int IntKind.i64), (D.int IntKind.i64)]) (nthT x29 0))).bind fun x30 =>
   ((T.int? IntKind.u8 (nthT x30 0))).bind fun x31 =>
   ((T.int? IntKind.i64 (nthT x30 1))).bind fun x32 =>
   ((T.int? IntKind.i64 (nthT x30 2))).bind fun x33 =>
   ((T.int? IntKind.i64 (nthT x29 1))).bind fun x34 =>
   ((derefT (some 4) (T.ptr (T.agg [(T.str x21), (nthT x20 1), (nthT x20 2), (nthT x20 3)])))).bind fun x35 =>
   ((T.agg? (List.length [D.str, (D.slice 9), (D.slice 38), (D.slice 4)]) x35)).bind fun x36 =>
   ((T.str? (nthT x36 0))).bind fun x37 =>
   ((fnO acfg 15 [(T.agg [(T.str x37), (nthT x36 1), (nthT x36 2), (nthT x36 3)])])).bind fun x38 =>
   ((T.agg? (List.length [D.str, (D.slice 9), (D.slice 38), (D.slice 4)]) x38)).bind fun x39 =>
   ((T.str? (nthT x39 0))).bind fun x40 =>
   ((fnO acfg 17 [(T.agg [(T.str x40), (nthT x39 1), (nthT x39 2), (nthT x39 3)])])).bind fun x41 =>
   bif (T.scalar x41) then
   ((T.tup? (List.length [33, 30]) x41)).bind fun x42 =>
   ((T.agg? (List.length [(D.int IntKind.u8), (D.int IntKind.i64), (D.int IntKind.i64)]) (nthT x42 0))).bind fun x43 =>
   ((T.int? IntKind.u8 (nthT x43 0))).bind fun x44 =>
   ((T.int? IntKind.i64 (nthT x43 1))).bind fun x45 =>
   ((T.int? IntKind.i64 (nthT x43 2))).bind fun x46 =>
   ((T.int? IntKind.i64 (nthT x42 1))).bind fun x47 =>
   bif (bNot (iEq x34 x47)) then
    some (T.bool false)
   else
    L4_1 a0_0 a0_1 a0_2 a0_3 x21 (nthT x20 1) (nthT x20 2) (nthT x20 3) (nthT x19 1) x34 0
   else none
   else none
   else none
  else none
 else none
 else none) = some r) : fnO acfg 4 [(T.agg [(T.str a0_0), a0_1, a0_2, a0_3]), a1] = some r :=
 fn_of (n := 3000) (by kernel_rfl) h
end Go.Proofs.Try

