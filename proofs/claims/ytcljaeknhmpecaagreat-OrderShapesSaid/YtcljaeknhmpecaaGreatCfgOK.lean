import Derived.Test.YtcljaeknhmpecaaGreatCfg
import Derived.KernelRfl
import Derived.Test.YtcljaeknhmpecaaGreatShelf
set_option linter.all false
namespace Go.Proofs.Tryz
open Go Go.Apex
set_option maxRecDepth 100000
theorem tiOK0 : tiOf Tryz.prog 0 = some ti0 := by kernel_rfl
theorem tiOK1 : tiOf Tryz.prog 1 = some ti1 := by kernel_rfl
theorem tiOK2 : tiOf Tryz.prog 2 = some ti2 := by kernel_rfl
theorem tiOK3 : tiOf Tryz.prog 3 = some ti3 := by kernel_rfl
theorem tiOK4 : tiOf Tryz.prog 4 = some ti4 := by kernel_rfl
theorem tiOK5 : tiOf Tryz.prog 5 = some ti5 := by kernel_rfl
theorem tiOK6 : tiOf Tryz.prog 6 = some ti6 := by kernel_rfl
theorem tiOK7 : tiOf Tryz.prog 7 = some ti7 := by kernel_rfl
theorem tiOK8 : tiOf Tryz.prog 8 = some ti8 := by kernel_rfl
theorem tiOK9 : tiOf Tryz.prog 9 = some ti9 := by kernel_rfl
theorem tiOK10 : tiOf Tryz.prog 10 = some ti10 := by kernel_rfl
theorem tiOK11 : tiOf Tryz.prog 11 = some ti11 := by kernel_rfl
theorem tiOK12 : tiOf Tryz.prog 12 = some ti12 := by kernel_rfl
theorem tiOK13 : tiOf Tryz.prog 13 = some ti13 := by kernel_rfl
theorem tiOK14 : tiOf Tryz.prog 14 = some ti14 := by kernel_rfl
theorem tiOK15 : tiOf Tryz.prog 15 = some ti15 := by kernel_rfl
theorem tiOK16 : tiOf Tryz.prog 16 = some ti16 := by kernel_rfl
theorem tiOK17 : tiOf Tryz.prog 17 = some ti17 := by kernel_rfl
theorem tiOK18 : tiOf Tryz.prog 18 = some ti18 := by kernel_rfl
theorem tiOK19 : tiOf Tryz.prog 19 = some ti19 := by kernel_rfl
theorem tiOK20 : tiOf Tryz.prog 20 = some ti20 := by kernel_rfl
theorem tiOK21 : tiOf Tryz.prog 21 = some ti21 := by kernel_rfl
theorem tiOK22 : tiOf Tryz.prog 22 = some ti22 := by kernel_rfl
theorem tiOK23 : tiOf Tryz.prog 23 = some ti23 := by kernel_rfl
theorem tiOK24 : tiOf Tryz.prog 24 = some ti24 := by kernel_rfl
theorem tiOK25 : tiOf Tryz.prog 25 = some ti25 := by kernel_rfl
theorem tiOK26 : tiOf Tryz.prog 26 = some ti26 := by kernel_rfl
theorem tiOK27 : tiOf Tryz.prog 27 = some ti27 := by kernel_rfl
theorem tiOK28 : tiOf Tryz.prog 28 = some ti28 := by kernel_rfl
theorem tiOK29 : tiOf Tryz.prog 29 = some ti29 := by kernel_rfl
theorem tiOK30 : tiOf Tryz.prog 30 = some ti30 := by kernel_rfl
theorem tiOK31 : tiOf Tryz.prog 31 = some ti31 := by kernel_rfl
theorem tiOK32 : tiOf Tryz.prog 32 = some ti32 := by kernel_rfl
theorem tiOK33 : tiOf Tryz.prog 33 = some ti33 := by kernel_rfl
theorem tiOK34 : tiOf Tryz.prog 34 = some ti34 := by kernel_rfl
theorem tiOK35 : tiOf Tryz.prog 35 = some ti35 := by kernel_rfl
theorem tiOK36 : tiOf Tryz.prog 36 = some ti36 := by kernel_rfl
theorem tiOK37 : tiOf Tryz.prog 37 = some ti37 := by kernel_rfl
theorem tiOK38 : tiOf Tryz.prog 38 = some ti38 := by kernel_rfl
theorem tiOK39 : tiOf Tryz.prog 39 = some ti39 := by kernel_rfl
theorem tiOK40 : tiOf Tryz.prog 40 = some ti40 := by kernel_rfl
theorem tiOK41 : tiOf Tryz.prog 41 = some ti41 := by kernel_rfl
theorem tiOK42 : tiOf Tryz.prog 42 = some ti42 := by kernel_rfl
theorem tiOK43 : tiOf Tryz.prog 43 = some ti43 := by kernel_rfl
theorem tiOK44 : tiOf Tryz.prog 44 = some ti44 := by kernel_rfl
theorem tiOK45 : tiOf Tryz.prog 45 = some ti45 := by kernel_rfl
theorem tiOK46 : tiOf Tryz.prog 46 = some ti46 := by kernel_rfl
theorem tiOK47 : tiOf Tryz.prog 47 = some ti47 := by kernel_rfl
theorem tiOK48 : tiOf Tryz.prog 48 = some ti48 := by kernel_rfl
theorem tiOK49 : tiOf Tryz.prog 49 = some ti49 := by kernel_rfl
theorem tiOK50 : tiOf Tryz.prog 50 = some ti50 := by kernel_rfl
theorem tiOK51 : tiOf Tryz.prog 51 = some ti51 := by kernel_rfl
theorem tiOK52 : tiOf Tryz.prog 52 = some ti52 := by kernel_rfl
theorem tiOK53 : tiOf Tryz.prog 53 = some ti53 := by kernel_rfl
theorem tiOK54 : tiOf Tryz.prog 54 = some ti54 := by kernel_rfl
theorem tiOK55 : tiOf Tryz.prog 55 = some ti55 := by kernel_rfl
theorem tiOK56 : tiOf Tryz.prog 56 = some ti56 := by kernel_rfl
theorem tiOK57 : tiOf Tryz.prog 57 = some ti57 := by kernel_rfl
theorem tiOK58 : tiOf Tryz.prog 58 = some ti58 := by kernel_rfl
theorem tiOK59 : tiOf Tryz.prog 59 = some ti59 := by kernel_rfl
theorem tiOK60 : tiOf Tryz.prog 60 = some ti60 := by kernel_rfl
theorem tiOK61 : tiOf Tryz.prog 61 = some ti61 := by kernel_rfl
theorem tiOK62 : tiOf Tryz.prog 62 = some ti62 := by kernel_rfl
theorem tiOK63 : tiOf Tryz.prog 63 = some ti63 := by kernel_rfl
theorem tiOK64 : tiOf Tryz.prog 64 = some ti64 := by kernel_rfl
theorem tiOK65 : tiOf Tryz.prog 65 = some ti65 := by kernel_rfl
theorem tiOK66 : tiOf Tryz.prog 66 = some ti66 := by kernel_rfl
theorem tiOK67 : tiOf Tryz.prog 67 = some ti67 := by kernel_rfl
theorem tiOK68 : tiOf Tryz.prog 68 = some ti68 := by kernel_rfl
theorem tiOK69 : tiOf Tryz.prog 69 = some ti69 := by kernel_rfl
theorem tiOK70 : tiOf Tryz.prog 70 = some ti70 := by kernel_rfl
theorem tiOK71 : tiOf Tryz.prog 71 = some ti71 := by kernel_rfl
theorem tiOK72 : tiOf Tryz.prog 72 = some ti72 := by kernel_rfl
theorem tiOK73 : tiOf Tryz.prog 73 = some ti73 := by kernel_rfl
theorem tiOK74 : tiOf Tryz.prog 74 = some ti74 := by kernel_rfl
theorem tiOK75 : tiOf Tryz.prog 75 = some ti75 := by kernel_rfl
theorem tiOK76 : tiOf Tryz.prog 76 = some ti76 := by kernel_rfl
theorem tiOK77 : tiOf Tryz.prog 77 = some ti77 := by kernel_rfl
theorem tiOK78 : tiOf Tryz.prog 78 = some ti78 := by kernel_rfl
theorem tiOK79 : tiOf Tryz.prog 79 = some ti79 := by kernel_rfl
theorem tiOK80 : tiOf Tryz.prog 80 = some ti80 := by kernel_rfl
theorem tiOK81 : tiOf Tryz.prog 81 = some ti81 := by kernel_rfl
theorem tiOK82 : tiOf Tryz.prog 82 = some ti82 := by kernel_rfl
theorem tiOK83 : tiOf Tryz.prog 83 = some ti83 := by kernel_rfl
theorem tiOK84 : tiOf Tryz.prog 84 = some ti84 := by kernel_rfl
theorem tiOK85 : tiOf Tryz.prog 85 = some ti85 := by kernel_rfl
theorem tiOK86 : tiOf Tryz.prog 86 = some ti86 := by kernel_rfl
theorem tiOK87 : tiOf Tryz.prog 87 = some ti87 := by kernel_rfl
theorem tiOK88 : tiOf Tryz.prog 88 = some ti88 := by kernel_rfl
theorem tiOK89 : tiOf Tryz.prog 89 = some ti89 := by kernel_rfl
theorem tiOK90 : tiOf Tryz.prog 90 = some ti90 := by kernel_rfl
theorem tiOK91 : tiOf Tryz.prog 91 = some ti91 := by kernel_rfl
theorem tiOK92 : tiOf Tryz.prog 92 = some ti92 := by kernel_rfl
theorem tiOK93 : tiOf Tryz.prog 93 = some ti93 := by kernel_rfl
theorem tiOK94 : tiOf Tryz.prog 94 = some ti94 := by kernel_rfl
theorem tiOK95 : tiOf Tryz.prog 95 = some ti95 := by kernel_rfl
theorem tiOK96 : tiOf Tryz.prog 96 = some ti96 := by kernel_rfl
theorem tiOK97 : tiOf Tryz.prog 97 = some ti97 := by kernel_rfl
theorem tiOK98 : tiOf Tryz.prog 98 = some ti98 := by kernel_rfl
theorem tiOK99 : tiOf Tryz.prog 99 = some ti99 := by kernel_rfl
theorem tiOK100 : tiOf Tryz.prog 100 = some ti100 := by kernel_rfl
theorem tiOK101 : tiOf Tryz.prog 101 = some ti101 := by kernel_rfl
theorem tiOK102 : tiOf Tryz.prog 102 = some ti102 := by kernel_rfl
theorem tiOK103 : tiOf Tryz.prog 103 = some ti103 := by kernel_rfl
theorem tiOK104 : tiOf Tryz.prog 104 = some ti104 := by kernel_rfl
theorem tiOK105 : tiOf Tryz.prog 105 = some ti105 := by kernel_rfl
theorem tiOK106 : tiOf Tryz.prog 106 = some ti106 := by kernel_rfl
theorem tiOK107 : tiOf Tryz.prog 107 = some ti107 := by kernel_rfl
theorem tiOK108 : tiOf Tryz.prog 108 = some ti108 := by kernel_rfl
theorem tiOK109 : tiOf Tryz.prog 109 = some ti109 := by kernel_rfl
theorem tiOK110 : tiOf Tryz.prog 110 = some ti110 := by kernel_rfl
theorem tiOK111 : tiOf Tryz.prog 111 = some ti111 := by kernel_rfl
theorem tiOK112 : tiOf Tryz.prog 112 = some ti112 := by kernel_rfl
theorem tiOK113 : tiOf Tryz.prog 113 = some ti113 := by kernel_rfl
theorem tiOK114 : tiOf Tryz.prog 114 = some ti114 := by kernel_rfl
theorem tiOK115 : tiOf Tryz.prog 115 = some ti115 := by kernel_rfl
theorem tiOK116 : tiOf Tryz.prog 116 = some ti116 := by kernel_rfl
theorem tiOK117 : tiOf Tryz.prog 117 = some ti117 := by kernel_rfl
theorem tiOK118 : tiOf Tryz.prog 118 = some ti118 := by kernel_rfl
theorem tiOK119 : tiOf Tryz.prog 119 = some ti119 := by kernel_rfl
theorem tiOK120 : tiOf Tryz.prog 120 = some ti120 := by kernel_rfl
theorem tiOK121 : tiOf Tryz.prog 121 = some ti121 := by kernel_rfl
theorem tiOK122 : tiOf Tryz.prog 122 = some ti122 := by kernel_rfl
theorem tiOK123 : tiOf Tryz.prog 123 = some ti123 := by kernel_rfl
theorem tiOK124 : tiOf Tryz.prog 124 = some ti124 := by kernel_rfl
theorem tiOK125 : tiOf Tryz.prog 125 = some ti125 := by kernel_rfl
theorem tiOK126 : tiOf Tryz.prog 126 = some ti126 := by kernel_rfl
theorem tiOK127 : tiOf Tryz.prog 127 = some ti127 := by kernel_rfl
theorem tiOK128 : tiOf Tryz.prog 128 = some ti128 := by kernel_rfl
theorem tiOK129 : tiOf Tryz.prog 129 = some ti129 := by kernel_rfl
theorem tiOK130 : tiOf Tryz.prog 130 = some ti130 := by kernel_rfl
theorem tiOK131 : tiOf Tryz.prog 131 = some ti131 := by kernel_rfl
theorem tiOK132 : tiOf Tryz.prog 132 = some ti132 := by kernel_rfl
theorem tiOK133 : tiOf Tryz.prog 133 = some ti133 := by kernel_rfl
theorem tiOK134 : tiOf Tryz.prog 134 = some ti134 := by kernel_rfl
theorem tiOK135 : tiOf Tryz.prog 135 = some ti135 := by kernel_rfl
theorem tiOK136 : tiOf Tryz.prog 136 = some ti136 := by kernel_rfl
theorem tiOK137 : tiOf Tryz.prog 137 = some ti137 := by kernel_rfl
theorem tiOK138 : tiOf Tryz.prog 138 = some ti138 := by kernel_rfl
theorem tiOK139 : tiOf Tryz.prog 139 = some ti139 := by kernel_rfl
theorem tiOK140 : tiOf Tryz.prog 140 = some ti140 := by kernel_rfl
theorem tiOK141 : tiOf Tryz.prog 141 = some ti141 := by kernel_rfl
theorem tiOK142 : tiOf Tryz.prog 142 = some ti142 := by kernel_rfl
theorem tiOK143 : tiOf Tryz.prog 143 = some ti143 := by kernel_rfl
theorem tiAll : tiTab.All fun t i => tiOf Tryz.prog t = some i :=
 ⟨⟨⟨⟨⟨⟨⟨⟨trivial, tiOK0, trivial⟩, tiOK1, trivial⟩, tiOK2, ⟨trivial, tiOK3, trivial⟩⟩, tiOK4, ⟨⟨⟨trivial, tiOK5, trivial⟩, tiOK6, trivial⟩, tiOK7, ⟨trivial, tiOK8, trivial⟩⟩⟩, tiOK9, ⟨⟨⟨⟨trivial, tiOK10, trivial⟩, tiOK11, trivial⟩, tiOK12, ⟨trivial, tiOK13, trivial⟩⟩, tiOK14, ⟨⟨trivial, tiOK15, trivial⟩, tiOK16, ⟨trivial, tiOK17, trivial⟩⟩⟩⟩, tiOK18, ⟨⟨⟨⟨⟨trivial, tiOK19, trivial⟩, tiOK20, trivial⟩, tiOK21, ⟨trivial, tiOK22, trivial⟩⟩, tiOK23, ⟨⟨trivial, tiOK24, trivial⟩, tiOK25, ⟨trivial, tiOK26, trivial⟩⟩⟩, tiOK27, ⟨⟨⟨⟨trivial, tiOK28, trivial⟩, tiOK29, trivial⟩, tiOK30, ⟨trivial, tiOK31, trivial⟩⟩, tiOK32, ⟨⟨trivial, tiOK33, trivial⟩, tiOK34, ⟨trivial, tiOK35, trivial⟩⟩⟩⟩⟩, tiOK36, ⟨⟨⟨⟨⟨⟨trivial, tiOK37, trivial⟩, tiOK38, trivial⟩, tiOK39, ⟨trivial, tiOK40, trivial⟩⟩, tiOK41, ⟨⟨trivial, tiOK42, trivial⟩, tiOK43, ⟨trivial, tiOK44, trivial⟩⟩⟩, tiOK45, ⟨⟨⟨⟨trivial, tiOK46, trivial⟩, tiOK47, trivial⟩, tiOK48, ⟨trivial, tiOK49, trivial⟩⟩, tiOK50, ⟨⟨trivial, tiOK51, trivial⟩, tiOK52, ⟨trivial, tiOK53, trivial⟩⟩⟩⟩, tiOK54, ⟨⟨⟨⟨⟨trivial, tiOK55, trivial⟩, tiOK56, trivial⟩, tiOK57, ⟨trivial, tiOK58, trivial⟩⟩, tiOK59, ⟨⟨trivial, tiOK60, trivial⟩, tiOK61, ⟨trivial, tiOK62, trivial⟩⟩⟩, tiOK63, ⟨⟨⟨⟨trivial, tiOK64, trivial⟩, tiOK65, trivial⟩, tiOK66, ⟨trivial, tiOK67, trivial⟩⟩, tiOK68, ⟨⟨trivial, tiOK69, trivial⟩, tiOK70, ⟨trivial, tiOK71, trivial⟩⟩⟩⟩⟩⟩, tiOK72, ⟨⟨⟨⟨⟨⟨⟨trivial, tiOK73, trivial⟩, tiOK74, trivial⟩, tiOK75, ⟨trivial, tiOK76, trivial⟩⟩, tiOK77, ⟨⟨trivial, tiOK78, trivial⟩, tiOK79, ⟨trivial, tiOK80, trivial⟩⟩⟩, tiOK81, ⟨⟨⟨⟨trivial, tiOK82, trivial⟩, tiOK83, trivial⟩, tiOK84, ⟨trivial, tiOK85, trivial⟩⟩, tiOK86, ⟨⟨trivial, tiOK87, trivial⟩, tiOK88, ⟨trivial, tiOK89, trivial⟩⟩⟩⟩, tiOK90, ⟨⟨⟨⟨⟨trivial, tiOK91, trivial⟩, tiOK92, trivial⟩, tiOK93, ⟨trivial, tiOK94, trivial⟩⟩, tiOK95, ⟨⟨trivial, tiOK96, trivial⟩, tiOK97, ⟨trivial, tiOK98, trivial⟩⟩⟩, tiOK99, ⟨⟨⟨⟨trivial, tiOK100, trivial⟩, tiOK101, trivial⟩, tiOK102, ⟨trivial, tiOK103, trivial⟩⟩, tiOK104, ⟨⟨trivial, tiOK105, trivial⟩, tiOK106, ⟨trivial, tiOK107, trivial⟩⟩⟩⟩⟩, tiOK108, ⟨⟨⟨⟨⟨⟨trivial, tiOK109, trivial⟩, tiOK110, trivial⟩, tiOK111, ⟨trivial, tiOK112, trivial⟩⟩, tiOK113, ⟨⟨trivial, tiOK114, trivial⟩, tiOK115, ⟨trivial, tiOK116, trivial⟩⟩⟩, tiOK117, ⟨⟨⟨⟨trivial, tiOK118, trivial⟩, tiOK119, trivial⟩, tiOK120, ⟨trivial, tiOK121, trivial⟩⟩, tiOK122, ⟨⟨trivial, tiOK123, trivial⟩, tiOK124, ⟨trivial, tiOK125, trivial⟩⟩⟩⟩, tiOK126, ⟨⟨⟨⟨⟨trivial, tiOK127, trivial⟩, tiOK128, trivial⟩, tiOK129, ⟨trivial, tiOK130, trivial⟩⟩, tiOK131, ⟨⟨trivial, tiOK132, trivial⟩, tiOK133, ⟨trivial, tiOK134, trivial⟩⟩⟩, tiOK135, ⟨⟨⟨⟨trivial, tiOK136, trivial⟩, tiOK137, trivial⟩, tiOK138, ⟨trivial, tiOK139, trivial⟩⟩, tiOK140, ⟨⟨trivial, tiOK141, trivial⟩, tiOK142, ⟨trivial, tiOK143, trivial⟩⟩⟩⟩⟩⟩⟩
theorem acfgTI : CfgTI acfg Tryz.prog := ⟨fun t i h => Tr.all_find tiTab tiAll t i h⟩
noncomputable def fnOK (f : Func) : Bool := !(f.name == "runtime.NumGoroutine") && (match f.body with | some c => codeOK acfg c | none => true)
theorem fnOK3 : fnOK Tryz.f3 = true := by kernel_rfl
theorem fnOK4 : fnOK Tryz.f4 = true := by kernel_rfl
theorem fnOK5 : fnOK Tryz.f5 = true := by kernel_rfl
theorem fnOK6 : fnOK Tryz.f6 = true := by kernel_rfl
theorem fnOK7 : fnOK Tryz.f7 = true := by kernel_rfl
theorem fnOK8 : fnOK Tryz.f8 = true := by kernel_rfl
theorem fnOK9 : fnOK Tryz.f9 = true := by kernel_rfl
theorem fnOK10 : fnOK Tryz.f10 = true := by kernel_rfl
theorem fnOK11 : fnOK Tryz.f11 = true := by kernel_rfl
theorem fnOK12 : fnOK Tryz.f12 = true := by kernel_rfl
theorem fnOK13 : fnOK Tryz.f13 = true := by kernel_rfl
theorem fnOK14 : fnOK Tryz.f14 = true := by kernel_rfl
theorem fnOK15 : fnOK Tryz.f15 = true := by kernel_rfl
theorem fnOK16 : fnOK Tryz.f16 = true := by kernel_rfl
theorem fnOK17 : fnOK Tryz.f17 = true := by kernel_rfl
theorem fnOK18 : fnOK Tryz.f18 = true := by kernel_rfl
theorem fnOK19 : fnOK Tryz.f19 = true := by kernel_rfl
theorem fnOK20 : fnOK Tryz.f20 = true := by kernel_rfl
theorem fnOK21 : fnOK Tryz.f21 = true := by kernel_rfl
theorem fnOK22 : fnOK Tryz.f22 = true := by kernel_rfl
theorem fnOK23 : fnOK Tryz.f23 = true := by kernel_rfl
theorem fnOK24 : fnOK Tryz.f24 = true := by kernel_rfl
theorem fnOK25 : fnOK Tryz.f25 = true := by kernel_rfl
theorem fnOK26 : fnOK Tryz.f26 = true := by kernel_rfl
theorem fnOK27 : fnOK Tryz.f27 = true := by kernel_rfl
theorem fnOK28 : fnOK Tryz.f28 = true := by kernel_rfl
theorem fnOK29 : fnOK Tryz.f29 = true := by kernel_rfl
theorem fnOK30 : fnOK Tryz.f30 = true := by kernel_rfl
theorem fnOK31 : fnOK Tryz.f31 = true := by kernel_rfl
theorem fnOK32 : fnOK Tryz.f32 = true := by kernel_rfl
theorem fnOK33 : fnOK Tryz.f33 = true := by kernel_rfl
theorem fnOK34 : fnOK Tryz.f34 = true := by kernel_rfl
theorem fnOK35 : fnOK Tryz.f35 = true := by kernel_rfl
theorem fnOK36 : fnOK Tryz.f36 = true := by kernel_rfl
theorem fnOK37 : fnOK Tryz.f37 = true := by kernel_rfl
theorem fnOK38 : fnOK Tryz.f38 = true := by kernel_rfl
theorem fnOK39 : fnOK Tryz.f39 = true := by kernel_rfl
theorem fnOK40 : fnOK Tryz.f40 = true := by kernel_rfl
theorem fnOK41 : fnOK Tryz.f41 = true := by kernel_rfl
theorem fnOK42 : fnOK Tryz.f42 = true := by kernel_rfl
theorem fnOK43 : fnOK Tryz.f43 = true := by kernel_rfl
theorem fnOK44 : fnOK Tryz.f44 = true := by kernel_rfl
theorem fnOK45 : fnOK Tryz.f45 = true := by kernel_rfl
theorem fnOK46 : fnOK Tryz.f46 = true := by kernel_rfl
theorem fnOK47 : fnOK Tryz.f47 = true := by kernel_rfl
theorem fnOK48 : fnOK Tryz.f48 = true := by kernel_rfl
theorem fnOK49 : fnOK Tryz.f49 = true := by kernel_rfl
theorem fnOK50 : fnOK Tryz.f50 = true := by kernel_rfl
theorem fnOK51 : fnOK Tryz.f51 = true := by kernel_rfl
theorem fnOK52 : fnOK Tryz.f52 = true := by kernel_rfl
theorem fnOK53 : fnOK Tryz.f53 = true := by kernel_rfl
theorem fnOK54 : fnOK Tryz.f54 = true := by kernel_rfl
theorem fnOK55 : fnOK Tryz.f55 = true := by kernel_rfl
theorem fnOK56 : fnOK Tryz.f56 = true := by kernel_rfl
theorem fnOK57 : fnOK Tryz.f57 = true := by kernel_rfl
theorem fnOK58 : fnOK Tryz.f58 = true := by kernel_rfl
theorem fnOK59 : fnOK Tryz.f59 = true := by kernel_rfl
theorem fnOK60 : fnOK Tryz.f60 = true := by kernel_rfl
theorem fnOK61 : fnOK Tryz.f61 = true := by kernel_rfl
theorem fnOK62 : fnOK Tryz.f62 = true := by kernel_rfl
theorem fnOK63 : fnOK Tryz.f63 = true := by kernel_rfl
theorem fnOK64 : fnOK Tryz.f64 = true := by kernel_rfl
theorem fnOK65 : fnOK Tryz.f65 = true := by kernel_rfl
theorem fnOK66 : fnOK Tryz.f66 = true := by kernel_rfl
theorem fnOK67 : fnOK Tryz.f67 = true := by kernel_rfl
theorem fnOK68 : fnOK Tryz.f68 = true := by kernel_rfl
theorem fnOK69 : fnOK Tryz.f69 = true := by kernel_rfl
theorem fnOK70 : fnOK Tryz.f70 = true := by kernel_rfl
theorem fnOK71 : fnOK Tryz.f71 = true := by kernel_rfl
theorem fnOK72 : fnOK Tryz.f72 = true := by kernel_rfl
theorem fnOK73 : fnOK Tryz.f73 = true := by kernel_rfl
theorem fnOK74 : fnOK Tryz.f74 = true := by kernel_rfl
theorem fnOK75 : fnOK Tryz.f75 = true := by kernel_rfl
theorem fnOK76 : fnOK Tryz.f76 = true := by kernel_rfl
theorem fnOK77 : fnOK Tryz.f77 = true := by kernel_rfl
theorem fnOK78 : fnOK Tryz.f78 = true := by kernel_rfl
theorem fnOK79 : fnOK Tryz.f79 = true := by kernel_rfl
theorem fnOK80 : fnOK Tryz.f80 = true := by kernel_rfl
theorem fnOK81 : fnOK Tryz.f81 = true := by kernel_rfl
theorem fnOK82 : fnOK Tryz.f82 = true := by kernel_rfl
theorem fnOK83 : fnOK Tryz.f83 = true := by kernel_rfl
theorem fnOK84 : fnOK Tryz.f84 = true := by kernel_rfl
theorem fnOK85 : fnOK Tryz.f85 = true := by kernel_rfl
theorem fnOK86 : fnOK Tryz.f86 = true := by kernel_rfl
theorem fnOK87 : fnOK Tryz.f87 = true := by kernel_rfl
theorem fnOK88 : fnOK Tryz.f88 = true := by kernel_rfl
theorem fnOK89 : fnOK Tryz.f89 = true := by kernel_rfl
theorem fnOK90 : fnOK Tryz.f90 = true := by kernel_rfl
theorem fnOK91 : fnOK Tryz.f91 = true := by kernel_rfl
theorem fnOK92 : fnOK Tryz.f92 = true := by kernel_rfl
theorem fnOK93 : fnOK Tryz.f93 = true := by kernel_rfl
theorem fnOK94 : fnOK Tryz.f94 = true := by kernel_rfl
theorem fnOK95 : fnOK Tryz.f95 = true := by kernel_rfl
theorem fnOK96 : fnOK Tryz.f96 = true := by kernel_rfl
theorem fnOK97 : fnOK Tryz.f97 = true := by kernel_rfl
theorem fnOK98 : fnOK Tryz.f98 = true := by kernel_rfl
theorem fnOK99 : fnOK Tryz.f99 = true := by kernel_rfl
theorem fnOK100 : fnOK Tryz.f100 = true := by kernel_rfl
theorem fnOK101 : fnOK Tryz.f101 = true := by kernel_rfl
theorem fnOK102 : fnOK Tryz.f102 = true := by kernel_rfl
theorem fnOK104 : fnOK Tryz.f104 = true := by kernel_rfl
theorem fnOK105 : fnOK Tryz.f105 = true := by kernel_rfl
theorem fnOK106 : fnOK Tryz.f106 = true := by kernel_rfl
theorem fnOK107 : fnOK Tryz.f107 = true := by kernel_rfl
theorem fnOK108 : fnOK Tryz.f108 = true := by kernel_rfl
theorem fnOK111 : fnOK Tryz.f111 = true := by kernel_rfl
theorem fnAll : codeTab.All fun f fn => Tryz.prog.funcs[f]? = some fn /\ fnOK fn = true :=
 ⟨⟨⟨⟨⟨⟨⟨trivial, ⟨Tryz.func3, fnOK3⟩, trivial⟩, ⟨Tryz.func4, fnOK4⟩, ⟨trivial, ⟨Tryz.func5, fnOK5⟩, trivial⟩⟩, ⟨Tryz.func6, fnOK6⟩, ⟨⟨trivial, ⟨Tryz.func7, fnOK7⟩, trivial⟩, ⟨Tryz.func8, fnOK8⟩, trivial⟩⟩, ⟨Tryz.func9, fnOK9⟩, ⟨⟨⟨trivial, ⟨Tryz.func10, fnOK10⟩, trivial⟩, ⟨Tryz.func11, fnOK11⟩, ⟨trivial, ⟨Tryz.func12, fnOK12⟩, trivial⟩⟩, ⟨Tryz.func13, fnOK13⟩, ⟨⟨trivial, ⟨Tryz.func14, fnOK14⟩, trivial⟩, ⟨Tryz.func15, fnOK15⟩, trivial⟩⟩⟩, ⟨Tryz.func16, fnOK16⟩, ⟨⟨⟨⟨trivial, ⟨Tryz.func17, fnOK17⟩, trivial⟩, ⟨Tryz.func18, fnOK18⟩, ⟨trivial, ⟨Tryz.func19, fnOK19⟩, trivial⟩⟩, ⟨Tryz.func20, fnOK20⟩, ⟨⟨trivial, ⟨Tryz.func21, fnOK21⟩, trivial⟩, ⟨Tryz.func22, fnOK22⟩, trivial⟩⟩, ⟨Tryz.func23, fnOK23⟩, ⟨⟨⟨trivial, ⟨Tryz.func24, fnOK24⟩, trivial⟩, ⟨Tryz.func25, fnOK25⟩, trivial⟩, ⟨Tryz.func26, fnOK26⟩, ⟨⟨trivial, ⟨Tryz.func27, fnOK27⟩, trivial⟩, ⟨Tryz.func28, fnOK28⟩, trivial⟩⟩⟩⟩, ⟨Tryz.func29, fnOK29⟩, ⟨⟨⟨⟨⟨trivial, ⟨Tryz.func30, fnOK30⟩, trivial⟩, ⟨Tryz.func31, fnOK31⟩, ⟨trivial, ⟨Tryz.func32, fnOK32⟩, trivial⟩⟩, ⟨Tryz.func33, fnOK33⟩, ⟨⟨trivial, ⟨Tryz.func34, fnOK34⟩, trivial⟩, ⟨Tryz.func35, fnOK35⟩, trivial⟩⟩, ⟨Tryz.func36, fnOK36⟩, ⟨⟨⟨trivial, ⟨Tryz.func37, fnOK37⟩, trivial⟩, ⟨Tryz.func38, fnOK38⟩, ⟨trivial, ⟨Tryz.func39, fnOK39⟩, trivial⟩⟩, ⟨Tryz.func40, fnOK40⟩, ⟨⟨trivial, ⟨Tryz.func41, fnOK41⟩, trivial⟩, ⟨Tryz.func42, fnOK42⟩, trivial⟩⟩⟩, ⟨Tryz.func43, fnOK43⟩, ⟨⟨⟨⟨trivial, ⟨Tryz.func44, fnOK44⟩, trivial⟩, ⟨Tryz.func45, fnOK45⟩, ⟨trivial, ⟨Tryz.func46, fnOK46⟩, trivial⟩⟩, ⟨Tryz.func47, fnOK47⟩, ⟨⟨trivial, ⟨Tryz.func48, fnOK48⟩, trivial⟩, ⟨Tryz.func49, fnOK49⟩, trivial⟩⟩, ⟨Tryz.func50, fnOK50⟩, ⟨⟨⟨trivial, ⟨Tryz.func51, fnOK51⟩, trivial⟩, ⟨Tryz.func52, fnOK52⟩, trivial⟩, ⟨Tryz.func53, fnOK53⟩, ⟨⟨trivial, ⟨Tryz.func54, fnOK54⟩, trivial⟩, ⟨Tryz.func55, fnOK55⟩, trivial⟩⟩⟩⟩⟩, ⟨Tryz.func56, fnOK56⟩, ⟨⟨⟨⟨⟨⟨trivial, ⟨Tryz.func57, fnOK57⟩, trivial⟩, ⟨Tryz.func58, fnOK58⟩, ⟨trivial, ⟨Tryz.func59, fnOK59⟩, trivial⟩⟩, ⟨Tryz.func60, fnOK60⟩, ⟨⟨trivial, ⟨Tryz.func61, fnOK61⟩, trivial⟩, ⟨Tryz.func62, fnOK62⟩, trivial⟩⟩, ⟨Tryz.func63, fnOK63⟩, ⟨⟨⟨trivial, ⟨Tryz.func64, fnOK64⟩, trivial⟩, ⟨Tryz.func65, fnOK65⟩, ⟨trivial, ⟨Tryz.func66, fnOK66⟩, trivial⟩⟩, ⟨Tryz.func67, fnOK67⟩, ⟨⟨trivial, ⟨Tryz.func68, fnOK68⟩, trivial⟩, ⟨Tryz.func69, fnOK69⟩, trivial⟩⟩⟩, ⟨Tryz.func70, fnOK70⟩, ⟨⟨⟨⟨trivial, ⟨Tryz.func71, fnOK71⟩, trivial⟩, ⟨Tryz.func72, fnOK72⟩, ⟨trivial, ⟨Tryz.func73, fnOK73⟩, trivial⟩⟩, ⟨Tryz.func74, fnOK74⟩, ⟨⟨trivial, ⟨Tryz.func75, fnOK75⟩, trivial⟩, ⟨Tryz.func76, fnOK76⟩, trivial⟩⟩, ⟨Tryz.func77, fnOK77⟩, ⟨⟨⟨trivial, ⟨Tryz.func78, fnOK78⟩, trivial⟩, ⟨Tryz.func79, fnOK79⟩, trivial⟩, ⟨Tryz.func80, fnOK80⟩, ⟨⟨trivial, ⟨Tryz.func81, fnOK81⟩, trivial⟩, ⟨Tryz.func82, fnOK82⟩, trivial⟩⟩⟩⟩, ⟨Tryz.func83, fnOK83⟩, ⟨⟨⟨⟨⟨trivial, ⟨Tryz.func84, fnOK84⟩, trivial⟩, ⟨Tryz.func85, fnOK85⟩, ⟨trivial, ⟨Tryz.func86, fnOK86⟩, trivial⟩⟩, ⟨Tryz.func87, fnOK87⟩, ⟨⟨trivial, ⟨Tryz.func88, fnOK88⟩, trivial⟩, ⟨Tryz.func89, fnOK89⟩, trivial⟩⟩, ⟨Tryz.func90, fnOK90⟩, ⟨⟨⟨trivial, ⟨Tryz.func91, fnOK91⟩, trivial⟩, ⟨Tryz.func92, fnOK92⟩, trivial⟩, ⟨Tryz.func93, fnOK93⟩, ⟨⟨trivial, ⟨Tryz.func94, fnOK94⟩, trivial⟩, ⟨Tryz.func95, fnOK95⟩, trivial⟩⟩⟩, ⟨Tryz.func96, fnOK96⟩, ⟨⟨⟨⟨trivial, ⟨Tryz.func97, fnOK97⟩, trivial⟩, ⟨Tryz.func98, fnOK98⟩, ⟨trivial, ⟨Tryz.func99, fnOK99⟩, trivial⟩⟩, ⟨Tryz.func100, fnOK100⟩, ⟨⟨trivial, ⟨Tryz.func101, fnOK101⟩, trivial⟩, ⟨Tryz.func102, fnOK102⟩, trivial⟩⟩, ⟨Tryz.func104, fnOK104⟩, ⟨⟨⟨trivial, ⟨Tryz.func105, fnOK105⟩, trivial⟩, ⟨Tryz.func106, fnOK106⟩, trivial⟩, ⟨Tryz.func107, fnOK107⟩, ⟨⟨trivial, ⟨Tryz.func108, fnOK108⟩, trivial⟩, ⟨Tryz.func111, fnOK111⟩, trivial⟩⟩⟩⟩⟩⟩
theorem acfgFn : CfgFn acfg Tryz.prog (fun c => codeOK acfg c = true) := ⟨fun f fn h => by
 obtain ⟨h1, h2⟩ := Tr.all_find codeTab fnAll f fn h
 unfold fnOK at h2
 simp only [Bool.and_eq_true, Bool.not_eq_true'] at h2
 refine ⟨h1, h2.1, fun c hc => ?_⟩
 have := h2.2
 rw [hc] at this
 exact this⟩
open Go.RowKit in
theorem acfgJoin : ∀ (f : FuncId) (g : List T -> Option T) (xs : List T) (r : T), acfg.prim f = some g -> g xs = some r -> Go.Apex.Enters Tryz.prog f /\ ∀ (w : World) (S : Nat -> Prop) (cargs : Array Value), BaseOK w.heap.size w -> (∀ b, S b -> b < w.heap.size) -> RepTL w S xs cargs.toList →
  Calls Tryz.prog f cargs w fun e w' => ∃ cv S', e = .returned cv /\ Pure w S w' S' /\ RepT w' S' r cv := fun f g xs r hf hg => by
 have hf : cond (Nat.beq f 49) (some joinT) (none) = some g := hf
 cases hb : Nat.beq f 49 with
 | true =>
  rw [hb] at hf
  cases hf
  cases Nat.eq_of_beq_eq_true hb
  exact ⟨⟨Tryz.f49, Tryz.func49, by kernel_rfl, by kernel_rfl⟩, fun w S cargs hB hS hr => join_prim Tryz.strings_Join_none Tryz.strings_Join hg w S cargs hS hr⟩
 | false =>
 rw [hb] at hf
 simp only [cond_false] at hf
 cases hf
theorem acfgChk : ChkOK acfg Tryz.prog := fun f e hf => by
 have hf : cond (Nat.beq f 103) (some _) none = some e := hf
 cases hb : Nat.beq f 103 with
 | false => rw [hb] at hf; cases hf
 | true =>
  rw [hb] at hf
  cases hf
  cases Nat.eq_of_beq_eq_true hb
  exact ⟨⟨Tryz.f103, Tryz.func103, by kernel_rfl, by kernel_rfl⟩, fun b w => ⟨fun h1 h2 h3 => Go.Proofs.Any.Builder_copyCheck_fresh { Tryz.lays156 with } Tryz.Builder_Extra_156.toX72 b w h1 h2 h3, fun h1 => Go.Proofs.Any.Builder_copyCheck_used { Tryz.lays156 with } Tryz.Builder_Extra_156.toX72 b w h1⟩⟩
theorem acfgPrim : PrimOK acfg Tryz.prog := ⟨acfgJoin, acfgChk⟩
theorem acfgK : KOK acfg Tryz.prog (fun c => codeOK acfg c = true) := kok (by kernel_rfl) acfgTI
open Go.RowKit in
theorem fn_calls {f : FuncId} {xs : List T} {r : T} (hq : fnO acfg f xs = some r) (w : World) (S : Nat -> Prop) (cargs : Array Value) (hB : BaseOK w.heap.size w) (hS : ∀ b, S b -> b < w.heap.size) (hr : RepTL w S xs cargs.toList) :
  Calls Tryz.prog f cargs w fun e w' => ∃ cv S', e = .returned cv /\ Pure w S w' S' /\ RepT w' S' r cv := by
 obtain ⟨n, hn⟩ := fnO_some.1 hq
 cases n with
 | zero => cases hn
 | succ n => exact eval_calls acfgTI acfgK acfgFn acfgPrim (n := n) hn w S cargs hB hS hr
end Go.Proofs.Tryz
