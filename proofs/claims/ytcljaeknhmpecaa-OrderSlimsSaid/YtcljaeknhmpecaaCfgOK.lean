import Derived.Test.YtcljaeknhmpecaaCfg
import Derived.KernelRfl
import Derived.Test.YtcljaeknhmpecaaShelf
set_option linter.all false
namespace Go.Proofs.Try
open Go Go.Apex
set_option maxRecDepth 100000
theorem tiOK0 : tiOf Try.prog 0 = some ti0 := by kernel_rfl
theorem tiOK1 : tiOf Try.prog 1 = some ti1 := by kernel_rfl
theorem tiOK2 : tiOf Try.prog 2 = some ti2 := by kernel_rfl
theorem tiOK3 : tiOf Try.prog 3 = some ti3 := by kernel_rfl
theorem tiOK4 : tiOf Try.prog 4 = some ti4 := by kernel_rfl
theorem tiOK5 : tiOf Try.prog 5 = some ti5 := by kernel_rfl
theorem tiOK6 : tiOf Try.prog 6 = some ti6 := by kernel_rfl
theorem tiOK7 : tiOf Try.prog 7 = some ti7 := by kernel_rfl
theorem tiOK8 : tiOf Try.prog 8 = some ti8 := by kernel_rfl
theorem tiOK9 : tiOf Try.prog 9 = some ti9 := by kernel_rfl
theorem tiOK10 : tiOf Try.prog 10 = some ti10 := by kernel_rfl
theorem tiOK11 : tiOf Try.prog 11 = some ti11 := by kernel_rfl
theorem tiOK12 : tiOf Try.prog 12 = some ti12 := by kernel_rfl
theorem tiOK13 : tiOf Try.prog 13 = some ti13 := by kernel_rfl
theorem tiOK14 : tiOf Try.prog 14 = some ti14 := by kernel_rfl
theorem tiOK15 : tiOf Try.prog 15 = some ti15 := by kernel_rfl
theorem tiOK16 : tiOf Try.prog 16 = some ti16 := by kernel_rfl
theorem tiOK17 : tiOf Try.prog 17 = some ti17 := by kernel_rfl
theorem tiOK18 : tiOf Try.prog 18 = some ti18 := by kernel_rfl
theorem tiOK19 : tiOf Try.prog 19 = some ti19 := by kernel_rfl
theorem tiOK20 : tiOf Try.prog 20 = some ti20 := by kernel_rfl
theorem tiOK21 : tiOf Try.prog 21 = some ti21 := by kernel_rfl
theorem tiOK22 : tiOf Try.prog 22 = some ti22 := by kernel_rfl
theorem tiOK23 : tiOf Try.prog 23 = some ti23 := by kernel_rfl
theorem tiOK24 : tiOf Try.prog 24 = some ti24 := by kernel_rfl
theorem tiOK25 : tiOf Try.prog 25 = some ti25 := by kernel_rfl
theorem tiOK26 : tiOf Try.prog 26 = some ti26 := by kernel_rfl
theorem tiOK27 : tiOf Try.prog 27 = some ti27 := by kernel_rfl
theorem tiOK28 : tiOf Try.prog 28 = some ti28 := by kernel_rfl
theorem tiOK29 : tiOf Try.prog 29 = some ti29 := by kernel_rfl
theorem tiOK30 : tiOf Try.prog 30 = some ti30 := by kernel_rfl
theorem tiOK31 : tiOf Try.prog 31 = some ti31 := by kernel_rfl
theorem tiOK32 : tiOf Try.prog 32 = some ti32 := by kernel_rfl
theorem tiOK33 : tiOf Try.prog 33 = some ti33 := by kernel_rfl
theorem tiOK34 : tiOf Try.prog 34 = some ti34 := by kernel_rfl
theorem tiOK35 : tiOf Try.prog 35 = some ti35 := by kernel_rfl
theorem tiOK36 : tiOf Try.prog 36 = some ti36 := by kernel_rfl
theorem tiOK37 : tiOf Try.prog 37 = some ti37 := by kernel_rfl
theorem tiOK38 : tiOf Try.prog 38 = some ti38 := by kernel_rfl
theorem tiOK39 : tiOf Try.prog 39 = some ti39 := by kernel_rfl
theorem tiOK40 : tiOf Try.prog 40 = some ti40 := by kernel_rfl
theorem tiOK41 : tiOf Try.prog 41 = some ti41 := by kernel_rfl
theorem tiOK42 : tiOf Try.prog 42 = some ti42 := by kernel_rfl
theorem tiOK43 : tiOf Try.prog 43 = some ti43 := by kernel_rfl
theorem tiOK44 : tiOf Try.prog 44 = some ti44 := by kernel_rfl
theorem tiOK45 : tiOf Try.prog 45 = some ti45 := by kernel_rfl
theorem tiOK46 : tiOf Try.prog 46 = some ti46 := by kernel_rfl
theorem tiOK47 : tiOf Try.prog 47 = some ti47 := by kernel_rfl
theorem tiOK48 : tiOf Try.prog 48 = some ti48 := by kernel_rfl
theorem tiOK49 : tiOf Try.prog 49 = some ti49 := by kernel_rfl
theorem tiOK50 : tiOf Try.prog 50 = some ti50 := by kernel_rfl
theorem tiOK51 : tiOf Try.prog 51 = some ti51 := by kernel_rfl
theorem tiOK52 : tiOf Try.prog 52 = some ti52 := by kernel_rfl
theorem tiOK53 : tiOf Try.prog 53 = some ti53 := by kernel_rfl
theorem tiOK54 : tiOf Try.prog 54 = some ti54 := by kernel_rfl
theorem tiOK55 : tiOf Try.prog 55 = some ti55 := by kernel_rfl
theorem tiOK56 : tiOf Try.prog 56 = some ti56 := by kernel_rfl
theorem tiOK57 : tiOf Try.prog 57 = some ti57 := by kernel_rfl
theorem tiOK58 : tiOf Try.prog 58 = some ti58 := by kernel_rfl
theorem tiOK59 : tiOf Try.prog 59 = some ti59 := by kernel_rfl
theorem tiOK60 : tiOf Try.prog 60 = some ti60 := by kernel_rfl
theorem tiOK61 : tiOf Try.prog 61 = some ti61 := by kernel_rfl
theorem tiOK62 : tiOf Try.prog 62 = some ti62 := by kernel_rfl
theorem tiOK63 : tiOf Try.prog 63 = some ti63 := by kernel_rfl
theorem tiOK64 : tiOf Try.prog 64 = some ti64 := by kernel_rfl
theorem tiOK65 : tiOf Try.prog 65 = some ti65 := by kernel_rfl
theorem tiOK66 : tiOf Try.prog 66 = some ti66 := by kernel_rfl
theorem tiOK67 : tiOf Try.prog 67 = some ti67 := by kernel_rfl
theorem tiOK68 : tiOf Try.prog 68 = some ti68 := by kernel_rfl
theorem tiOK69 : tiOf Try.prog 69 = some ti69 := by kernel_rfl
theorem tiOK70 : tiOf Try.prog 70 = some ti70 := by kernel_rfl
theorem tiOK71 : tiOf Try.prog 71 = some ti71 := by kernel_rfl
theorem tiOK72 : tiOf Try.prog 72 = some ti72 := by kernel_rfl
theorem tiOK73 : tiOf Try.prog 73 = some ti73 := by kernel_rfl
theorem tiOK74 : tiOf Try.prog 74 = some ti74 := by kernel_rfl
theorem tiOK75 : tiOf Try.prog 75 = some ti75 := by kernel_rfl
theorem tiOK76 : tiOf Try.prog 76 = some ti76 := by kernel_rfl
theorem tiOK77 : tiOf Try.prog 77 = some ti77 := by kernel_rfl
theorem tiOK78 : tiOf Try.prog 78 = some ti78 := by kernel_rfl
theorem tiOK79 : tiOf Try.prog 79 = some ti79 := by kernel_rfl
theorem tiOK80 : tiOf Try.prog 80 = some ti80 := by kernel_rfl
theorem tiOK81 : tiOf Try.prog 81 = some ti81 := by kernel_rfl
theorem tiOK82 : tiOf Try.prog 82 = some ti82 := by kernel_rfl
theorem tiOK83 : tiOf Try.prog 83 = some ti83 := by kernel_rfl
theorem tiOK84 : tiOf Try.prog 84 = some ti84 := by kernel_rfl
theorem tiOK85 : tiOf Try.prog 85 = some ti85 := by kernel_rfl
theorem tiOK86 : tiOf Try.prog 86 = some ti86 := by kernel_rfl
theorem tiOK87 : tiOf Try.prog 87 = some ti87 := by kernel_rfl
theorem tiOK88 : tiOf Try.prog 88 = some ti88 := by kernel_rfl
theorem tiOK89 : tiOf Try.prog 89 = some ti89 := by kernel_rfl
theorem tiOK90 : tiOf Try.prog 90 = some ti90 := by kernel_rfl
theorem tiOK91 : tiOf Try.prog 91 = some ti91 := by kernel_rfl
theorem tiOK92 : tiOf Try.prog 92 = some ti92 := by kernel_rfl
theorem tiOK93 : tiOf Try.prog 93 = some ti93 := by kernel_rfl
theorem tiOK94 : tiOf Try.prog 94 = some ti94 := by kernel_rfl
theorem tiOK95 : tiOf Try.prog 95 = some ti95 := by kernel_rfl
theorem tiOK96 : tiOf Try.prog 96 = some ti96 := by kernel_rfl
theorem tiOK97 : tiOf Try.prog 97 = some ti97 := by kernel_rfl
theorem tiOK98 : tiOf Try.prog 98 = some ti98 := by kernel_rfl
theorem tiOK99 : tiOf Try.prog 99 = some ti99 := by kernel_rfl
theorem tiOK100 : tiOf Try.prog 100 = some ti100 := by kernel_rfl
theorem tiOK101 : tiOf Try.prog 101 = some ti101 := by kernel_rfl
theorem tiOK102 : tiOf Try.prog 102 = some ti102 := by kernel_rfl
theorem tiOK103 : tiOf Try.prog 103 = some ti103 := by kernel_rfl
theorem tiOK104 : tiOf Try.prog 104 = some ti104 := by kernel_rfl
theorem tiOK105 : tiOf Try.prog 105 = some ti105 := by kernel_rfl
theorem tiOK106 : tiOf Try.prog 106 = some ti106 := by kernel_rfl
theorem tiOK107 : tiOf Try.prog 107 = some ti107 := by kernel_rfl
theorem tiOK108 : tiOf Try.prog 108 = some ti108 := by kernel_rfl
theorem tiOK109 : tiOf Try.prog 109 = some ti109 := by kernel_rfl
theorem tiOK110 : tiOf Try.prog 110 = some ti110 := by kernel_rfl
theorem tiOK111 : tiOf Try.prog 111 = some ti111 := by kernel_rfl
theorem tiOK112 : tiOf Try.prog 112 = some ti112 := by kernel_rfl
theorem tiOK113 : tiOf Try.prog 113 = some ti113 := by kernel_rfl
theorem tiOK114 : tiOf Try.prog 114 = some ti114 := by kernel_rfl
theorem tiOK115 : tiOf Try.prog 115 = some ti115 := by kernel_rfl
theorem tiOK116 : tiOf Try.prog 116 = some ti116 := by kernel_rfl
theorem tiOK117 : tiOf Try.prog 117 = some ti117 := by kernel_rfl
theorem tiOK118 : tiOf Try.prog 118 = some ti118 := by kernel_rfl
theorem tiOK119 : tiOf Try.prog 119 = some ti119 := by kernel_rfl
theorem tiOK120 : tiOf Try.prog 120 = some ti120 := by kernel_rfl
theorem tiOK121 : tiOf Try.prog 121 = some ti121 := by kernel_rfl
theorem tiOK122 : tiOf Try.prog 122 = some ti122 := by kernel_rfl
theorem tiOK123 : tiOf Try.prog 123 = some ti123 := by kernel_rfl
theorem tiOK124 : tiOf Try.prog 124 = some ti124 := by kernel_rfl
theorem tiOK125 : tiOf Try.prog 125 = some ti125 := by kernel_rfl
theorem tiOK126 : tiOf Try.prog 126 = some ti126 := by kernel_rfl
theorem tiOK127 : tiOf Try.prog 127 = some ti127 := by kernel_rfl
theorem tiOK128 : tiOf Try.prog 128 = some ti128 := by kernel_rfl
theorem tiOK129 : tiOf Try.prog 129 = some ti129 := by kernel_rfl
theorem tiOK130 : tiOf Try.prog 130 = some ti130 := by kernel_rfl
theorem tiOK131 : tiOf Try.prog 131 = some ti131 := by kernel_rfl
theorem tiOK132 : tiOf Try.prog 132 = some ti132 := by kernel_rfl
theorem tiOK133 : tiOf Try.prog 133 = some ti133 := by kernel_rfl
theorem tiOK134 : tiOf Try.prog 134 = some ti134 := by kernel_rfl
theorem tiOK135 : tiOf Try.prog 135 = some ti135 := by kernel_rfl
theorem tiOK136 : tiOf Try.prog 136 = some ti136 := by kernel_rfl
theorem tiOK137 : tiOf Try.prog 137 = some ti137 := by kernel_rfl
theorem tiOK138 : tiOf Try.prog 138 = some ti138 := by kernel_rfl
theorem tiOK139 : tiOf Try.prog 139 = some ti139 := by kernel_rfl
theorem tiOK140 : tiOf Try.prog 140 = some ti140 := by kernel_rfl
theorem tiOK141 : tiOf Try.prog 141 = some ti141 := by kernel_rfl
theorem tiOK142 : tiOf Try.prog 142 = some ti142 := by kernel_rfl
theorem tiOK143 : tiOf Try.prog 143 = some ti143 := by kernel_rfl
theorem tiOK144 : tiOf Try.prog 144 = some ti144 := by kernel_rfl
theorem tiOK145 : tiOf Try.prog 145 = some ti145 := by kernel_rfl
theorem tiOK146 : tiOf Try.prog 146 = some ti146 := by kernel_rfl
theorem tiOK147 : tiOf Try.prog 147 = some ti147 := by kernel_rfl
theorem tiOK148 : tiOf Try.prog 148 = some ti148 := by kernel_rfl
theorem tiOK149 : tiOf Try.prog 149 = some ti149 := by kernel_rfl
theorem tiAll : tiTab.All fun t i => tiOf Try.prog t = some i :=
 ⟨⟨⟨⟨⟨⟨⟨⟨trivial, tiOK0, trivial⟩, tiOK1, trivial⟩, tiOK2, ⟨trivial, tiOK3, trivial⟩⟩, tiOK4, ⟨⟨⟨trivial, tiOK5, trivial⟩, tiOK6, trivial⟩, tiOK7, ⟨trivial, tiOK8, trivial⟩⟩⟩, tiOK9, ⟨⟨⟨⟨trivial, tiOK10, trivial⟩, tiOK11, trivial⟩, tiOK12, ⟨trivial, tiOK13, trivial⟩⟩, tiOK14, ⟨⟨trivial, tiOK15, trivial⟩, tiOK16, ⟨trivial, tiOK17, trivial⟩⟩⟩⟩, tiOK18, ⟨⟨⟨⟨⟨trivial, tiOK19, trivial⟩, tiOK20, trivial⟩, tiOK21, ⟨trivial, tiOK22, trivial⟩⟩, tiOK23, ⟨⟨⟨trivial, tiOK24, trivial⟩, tiOK25, trivial⟩, tiOK26, ⟨trivial, tiOK27, trivial⟩⟩⟩, tiOK28, ⟨⟨⟨⟨trivial, tiOK29, trivial⟩, tiOK30, trivial⟩, tiOK31, ⟨trivial, tiOK32, trivial⟩⟩, tiOK33, ⟨⟨trivial, tiOK34, trivial⟩, tiOK35, ⟨trivial, tiOK36, trivial⟩⟩⟩⟩⟩, tiOK37, ⟨⟨⟨⟨⟨⟨trivial, tiOK38, trivial⟩, tiOK39, trivial⟩, tiOK40, ⟨trivial, tiOK41, trivial⟩⟩, tiOK42, ⟨⟨⟨trivial, tiOK43, trivial⟩, tiOK44, trivial⟩, tiOK45, ⟨trivial, tiOK46, trivial⟩⟩⟩, tiOK47, ⟨⟨⟨⟨trivial, tiOK48, trivial⟩, tiOK49, trivial⟩, tiOK50, ⟨trivial, tiOK51, trivial⟩⟩, tiOK52, ⟨⟨trivial, tiOK53, trivial⟩, tiOK54, ⟨trivial, tiOK55, trivial⟩⟩⟩⟩, tiOK56, ⟨⟨⟨⟨⟨trivial, tiOK57, trivial⟩, tiOK58, trivial⟩, tiOK59, ⟨trivial, tiOK60, trivial⟩⟩, tiOK61, ⟨⟨⟨trivial, tiOK62, trivial⟩, tiOK63, trivial⟩, tiOK64, ⟨trivial, tiOK65, trivial⟩⟩⟩, tiOK66, ⟨⟨⟨⟨trivial, tiOK67, trivial⟩, tiOK68, trivial⟩, tiOK69, ⟨trivial, tiOK70, trivial⟩⟩, tiOK71, ⟨⟨trivial, tiOK72, trivial⟩, tiOK73, ⟨trivial, tiOK74, trivial⟩⟩⟩⟩⟩⟩, tiOK75, ⟨⟨⟨⟨⟨⟨⟨trivial, tiOK76, trivial⟩, tiOK77, trivial⟩, tiOK78, ⟨trivial, tiOK79, trivial⟩⟩, tiOK80, ⟨⟨⟨trivial, tiOK81, trivial⟩, tiOK82, trivial⟩, tiOK83, ⟨trivial, tiOK84, trivial⟩⟩⟩, tiOK85, ⟨⟨⟨⟨trivial, tiOK86, trivial⟩, tiOK87, trivial⟩, tiOK88, ⟨trivial, tiOK89, trivial⟩⟩, tiOK90, ⟨⟨trivial, tiOK91, trivial⟩, tiOK92, ⟨trivial, tiOK93, trivial⟩⟩⟩⟩, tiOK94, ⟨⟨⟨⟨⟨trivial, tiOK95, trivial⟩, tiOK96, trivial⟩, tiOK97, ⟨trivial, tiOK98, trivial⟩⟩, tiOK99, ⟨⟨⟨trivial, tiOK100, trivial⟩, tiOK101, trivial⟩, tiOK102, ⟨trivial, tiOK103, trivial⟩⟩⟩, tiOK104, ⟨⟨⟨⟨trivial, tiOK105, trivial⟩, tiOK106, trivial⟩, tiOK107, ⟨trivial, tiOK108, trivial⟩⟩, tiOK109, ⟨⟨trivial, tiOK110, trivial⟩, tiOK111, ⟨trivial, tiOK112, trivial⟩⟩⟩⟩⟩, tiOK113, ⟨⟨⟨⟨⟨⟨trivial, tiOK114, trivial⟩, tiOK115, trivial⟩, tiOK116, ⟨trivial, tiOK117, trivial⟩⟩, tiOK118, ⟨⟨⟨trivial, tiOK119, trivial⟩, tiOK120, trivial⟩, tiOK121, ⟨trivial, tiOK122, trivial⟩⟩⟩, tiOK123, ⟨⟨⟨⟨trivial, tiOK124, trivial⟩, tiOK125, trivial⟩, tiOK126, ⟨trivial, tiOK127, trivial⟩⟩, tiOK128, ⟨⟨trivial, tiOK129, trivial⟩, tiOK130, ⟨trivial, tiOK131, trivial⟩⟩⟩⟩, tiOK132, ⟨⟨⟨⟨⟨trivial, tiOK133, trivial⟩, tiOK134, trivial⟩, tiOK135, ⟨trivial, tiOK136, trivial⟩⟩, tiOK137, ⟨⟨trivial, tiOK138, trivial⟩, tiOK139, ⟨trivial, tiOK140, trivial⟩⟩⟩, tiOK141, ⟨⟨⟨⟨trivial, tiOK142, trivial⟩, tiOK143, trivial⟩, tiOK144, ⟨trivial, tiOK145, trivial⟩⟩, tiOK146, ⟨⟨trivial, tiOK147, trivial⟩, tiOK148, ⟨trivial, tiOK149, trivial⟩⟩⟩⟩⟩⟩⟩
theorem acfgTI : CfgTI acfg Try.prog := ⟨fun t i h => Tr.all_find tiTab tiAll t i h⟩
noncomputable def fnOK (f : Func) : Bool := !(f.name == "runtime.NumGoroutine") && (match f.body with | some c => codeOK acfg c | none => true)
theorem fnOK3 : fnOK Try.f3 = true := by kernel_rfl
theorem fnOK4 : fnOK Try.f4 = true := by kernel_rfl
theorem fnOK5 : fnOK Try.f5 = true := by kernel_rfl
theorem fnOK6 : fnOK Try.f6 = true := by kernel_rfl
theorem fnOK7 : fnOK Try.f7 = true := by kernel_rfl
theorem fnOK8 : fnOK Try.f8 = true := by kernel_rfl
theorem fnOK9 : fnOK Try.f9 = true := by kernel_rfl
theorem fnOK10 : fnOK Try.f10 = true := by kernel_rfl
theorem fnOK11 : fnOK Try.f11 = true := by kernel_rfl
theorem fnOK12 : fnOK Try.f12 = true := by kernel_rfl
theorem fnOK13 : fnOK Try.f13 = true := by kernel_rfl
theorem fnOK14 : fnOK Try.f14 = true := by kernel_rfl
theorem fnOK15 : fnOK Try.f15 = true := by kernel_rfl
theorem fnOK16 : fnOK Try.f16 = true := by kernel_rfl
theorem fnOK17 : fnOK Try.f17 = true := by kernel_rfl
theorem fnOK18 : fnOK Try.f18 = true := by kernel_rfl
theorem fnOK19 : fnOK Try.f19 = true := by kernel_rfl
theorem fnOK20 : fnOK Try.f20 = true := by kernel_rfl
theorem fnOK21 : fnOK Try.f21 = true := by kernel_rfl
theorem fnOK22 : fnOK Try.f22 = true := by kernel_rfl
theorem fnOK23 : fnOK Try.f23 = true := by kernel_rfl
theorem fnOK24 : fnOK Try.f24 = true := by kernel_rfl
theorem fnOK25 : fnOK Try.f25 = true := by kernel_rfl
theorem fnOK26 : fnOK Try.f26 = true := by kernel_rfl
theorem fnOK27 : fnOK Try.f27 = true := by kernel_rfl
theorem fnOK28 : fnOK Try.f28 = true := by kernel_rfl
theorem fnOK29 : fnOK Try.f29 = true := by kernel_rfl
theorem fnOK30 : fnOK Try.f30 = true := by kernel_rfl
theorem fnOK31 : fnOK Try.f31 = true := by kernel_rfl
theorem fnOK32 : fnOK Try.f32 = true := by kernel_rfl
theorem fnOK33 : fnOK Try.f33 = true := by kernel_rfl
theorem fnOK34 : fnOK Try.f34 = true := by kernel_rfl
theorem fnOK35 : fnOK Try.f35 = true := by kernel_rfl
theorem fnOK36 : fnOK Try.f36 = true := by kernel_rfl
theorem fnOK37 : fnOK Try.f37 = true := by kernel_rfl
theorem fnOK38 : fnOK Try.f38 = true := by kernel_rfl
theorem fnOK39 : fnOK Try.f39 = true := by kernel_rfl
theorem fnOK40 : fnOK Try.f40 = true := by kernel_rfl
theorem fnOK41 : fnOK Try.f41 = true := by kernel_rfl
theorem fnOK42 : fnOK Try.f42 = true := by kernel_rfl
theorem fnOK43 : fnOK Try.f43 = true := by kernel_rfl
theorem fnOK44 : fnOK Try.f44 = true := by kernel_rfl
theorem fnOK45 : fnOK Try.f45 = true := by kernel_rfl
theorem fnOK46 : fnOK Try.f46 = true := by kernel_rfl
theorem fnOK47 : fnOK Try.f47 = true := by kernel_rfl
theorem fnOK48 : fnOK Try.f48 = true := by kernel_rfl
theorem fnOK49 : fnOK Try.f49 = true := by kernel_rfl
theorem fnOK50 : fnOK Try.f50 = true := by kernel_rfl
theorem fnOK51 : fnOK Try.f51 = true := by kernel_rfl
theorem fnOK52 : fnOK Try.f52 = true := by kernel_rfl
theorem fnOK53 : fnOK Try.f53 = true := by kernel_rfl
theorem fnOK54 : fnOK Try.f54 = true := by kernel_rfl
theorem fnOK55 : fnOK Try.f55 = true := by kernel_rfl
theorem fnOK56 : fnOK Try.f56 = true := by kernel_rfl
theorem fnOK57 : fnOK Try.f57 = true := by kernel_rfl
theorem fnOK58 : fnOK Try.f58 = true := by kernel_rfl
theorem fnOK59 : fnOK Try.f59 = true := by kernel_rfl
theorem fnOK60 : fnOK Try.f60 = true := by kernel_rfl
theorem fnOK61 : fnOK Try.f61 = true := by kernel_rfl
theorem fnOK62 : fnOK Try.f62 = true := by kernel_rfl
theorem fnOK63 : fnOK Try.f63 = true := by kernel_rfl
theorem fnOK64 : fnOK Try.f64 = true := by kernel_rfl
theorem fnOK65 : fnOK Try.f65 = true := by kernel_rfl
theorem fnOK66 : fnOK Try.f66 = true := by kernel_rfl
theorem fnOK67 : fnOK Try.f67 = true := by kernel_rfl
theorem fnOK68 : fnOK Try.f68 = true := by kernel_rfl
theorem fnOK69 : fnOK Try.f69 = true := by kernel_rfl
theorem fnOK70 : fnOK Try.f70 = true := by kernel_rfl
theorem fnOK71 : fnOK Try.f71 = true := by kernel_rfl
theorem fnOK72 : fnOK Try.f72 = true := by kernel_rfl
theorem fnOK73 : fnOK Try.f73 = true := by kernel_rfl
theorem fnOK74 : fnOK Try.f74 = true := by kernel_rfl
theorem fnOK75 : fnOK Try.f75 = true := by kernel_rfl
theorem fnOK76 : fnOK Try.f76 = true := by kernel_rfl
theorem fnOK77 : fnOK Try.f77 = true := by kernel_rfl
theorem fnOK78 : fnOK Try.f78 = true := by kernel_rfl
theorem fnOK79 : fnOK Try.f79 = true := by kernel_rfl
theorem fnOK80 : fnOK Try.f80 = true := by kernel_rfl
theorem fnOK81 : fnOK Try.f81 = true := by kernel_rfl
theorem fnOK82 : fnOK Try.f82 = true := by kernel_rfl
theorem fnOK83 : fnOK Try.f83 = true := by kernel_rfl
theorem fnOK84 : fnOK Try.f84 = true := by kernel_rfl
theorem fnOK85 : fnOK Try.f85 = true := by kernel_rfl
theorem fnOK86 : fnOK Try.f86 = true := by kernel_rfl
theorem fnOK87 : fnOK Try.f87 = true := by kernel_rfl
theorem fnOK88 : fnOK Try.f88 = true := by kernel_rfl
theorem fnOK89 : fnOK Try.f89 = true := by kernel_rfl
theorem fnOK90 : fnOK Try.f90 = true := by kernel_rfl
theorem fnOK91 : fnOK Try.f91 = true := by kernel_rfl
theorem fnOK92 : fnOK Try.f92 = true := by kernel_rfl
theorem fnOK93 : fnOK Try.f93 = true := by kernel_rfl
theorem fnOK94 : fnOK Try.f94 = true := by kernel_rfl
theorem fnOK95 : fnOK Try.f95 = true := by kernel_rfl
theorem fnOK96 : fnOK Try.f96 = true := by kernel_rfl
theorem fnOK97 : fnOK Try.f97 = true := by kernel_rfl
theorem fnOK98 : fnOK Try.f98 = true := by kernel_rfl
theorem fnOK99 : fnOK Try.f99 = true := by kernel_rfl
theorem fnOK100 : fnOK Try.f100 = true := by kernel_rfl
theorem fnOK101 : fnOK Try.f101 = true := by kernel_rfl
theorem fnOK102 : fnOK Try.f102 = true := by kernel_rfl
theorem fnOK103 : fnOK Try.f103 = true := by kernel_rfl
theorem fnOK104 : fnOK Try.f104 = true := by kernel_rfl
theorem fnOK105 : fnOK Try.f105 = true := by kernel_rfl
theorem fnOK106 : fnOK Try.f106 = true := by kernel_rfl
theorem fnOK107 : fnOK Try.f107 = true := by kernel_rfl
theorem fnOK108 : fnOK Try.f108 = true := by kernel_rfl
theorem fnOK109 : fnOK Try.f109 = true := by kernel_rfl
theorem fnOK110 : fnOK Try.f110 = true := by kernel_rfl
theorem fnOK111 : fnOK Try.f111 = true := by kernel_rfl
theorem fnOK112 : fnOK Try.f112 = true := by kernel_rfl
theorem fnOK113 : fnOK Try.f113 = true := by kernel_rfl
theorem fnOK114 : fnOK Try.f114 = true := by kernel_rfl
theorem fnOK115 : fnOK Try.f115 = true := by kernel_rfl
theorem fnOK116 : fnOK Try.f116 = true := by kernel_rfl
theorem fnOK117 : fnOK Try.f117 = true := by kernel_rfl
theorem fnOK118 : fnOK Try.f118 = true := by kernel_rfl
theorem fnOK119 : fnOK Try.f119 = true := by kernel_rfl
theorem fnOK120 : fnOK Try.f120 = true := by kernel_rfl
theorem fnOK121 : fnOK Try.f121 = true := by kernel_rfl
theorem fnOK123 : fnOK Try.f123 = true := by kernel_rfl
theorem fnAll : codeTab.All fun f fn => Try.prog.funcs[f]? = some fn /\ fnOK fn = true :=
 ⟨⟨⟨⟨⟨⟨⟨trivial, ⟨Try.func3, fnOK3⟩, trivial⟩, ⟨Try.func4, fnOK4⟩, ⟨trivial, ⟨Try.func5, fnOK5⟩, trivial⟩⟩, ⟨Try.func6, fnOK6⟩, ⟨⟨trivial, ⟨Try.func7, fnOK7⟩, trivial⟩, ⟨Try.func8, fnOK8⟩, ⟨trivial, ⟨Try.func9, fnOK9⟩, trivial⟩⟩⟩, ⟨Try.func10, fnOK10⟩, ⟨⟨⟨trivial, ⟨Try.func11, fnOK11⟩, trivial⟩, ⟨Try.func12, fnOK12⟩, ⟨trivial, ⟨Try.func13, fnOK13⟩, trivial⟩⟩, ⟨Try.func14, fnOK14⟩, ⟨⟨trivial, ⟨Try.func15, fnOK15⟩, trivial⟩, ⟨Try.func16, fnOK16⟩, ⟨trivial, ⟨Try.func17, fnOK17⟩, trivial⟩⟩⟩⟩, ⟨Try.func18, fnOK18⟩, ⟨⟨⟨⟨trivial, ⟨Try.func19, fnOK19⟩, trivial⟩, ⟨Try.func20, fnOK20⟩, ⟨trivial, ⟨Try.func21, fnOK21⟩, trivial⟩⟩, ⟨Try.func22, fnOK22⟩, ⟨⟨trivial, ⟨Try.func23, fnOK23⟩, trivial⟩, ⟨Try.func24, fnOK24⟩, ⟨trivial, ⟨Try.func25, fnOK25⟩, trivial⟩⟩⟩, ⟨Try.func26, fnOK26⟩, ⟨⟨⟨trivial, ⟨Try.func27, fnOK27⟩, trivial⟩, ⟨Try.func28, fnOK28⟩, ⟨trivial, ⟨Try.func29, fnOK29⟩, trivial⟩⟩, ⟨Try.func30, fnOK30⟩, ⟨⟨trivial, ⟨Try.func31, fnOK31⟩, trivial⟩, ⟨Try.func32, fnOK32⟩, trivial⟩⟩⟩⟩, ⟨Try.func33, fnOK33⟩, ⟨⟨⟨⟨⟨trivial, ⟨Try.func34, fnOK34⟩, trivial⟩, ⟨Try.func35, fnOK35⟩, ⟨trivial, ⟨Try.func36, fnOK36⟩, trivial⟩⟩, ⟨Try.func37, fnOK37⟩, ⟨⟨trivial, ⟨Try.func38, fnOK38⟩, trivial⟩, ⟨Try.func39, fnOK39⟩, ⟨trivial, ⟨Try.func40, fnOK40⟩, trivial⟩⟩⟩, ⟨Try.func41, fnOK41⟩, ⟨⟨⟨trivial, ⟨Try.func42, fnOK42⟩, trivial⟩, ⟨Try.func43, fnOK43⟩, ⟨trivial, ⟨Try.func44, fnOK44⟩, trivial⟩⟩, ⟨Try.func45, fnOK45⟩, ⟨⟨trivial, ⟨Try.func46, fnOK46⟩, trivial⟩, ⟨Try.func47, fnOK47⟩, trivial⟩⟩⟩, ⟨Try.func48, fnOK48⟩, ⟨⟨⟨⟨trivial, ⟨Try.func49, fnOK49⟩, trivial⟩, ⟨Try.func50, fnOK50⟩, ⟨trivial, ⟨Try.func51, fnOK51⟩, trivial⟩⟩, ⟨Try.func52, fnOK52⟩, ⟨⟨trivial, ⟨Try.func53, fnOK53⟩, trivial⟩, ⟨Try.func54, fnOK54⟩, ⟨trivial, ⟨Try.func55, fnOK55⟩, trivial⟩⟩⟩, ⟨Try.func56, fnOK56⟩, ⟨⟨⟨trivial, ⟨Try.func57, fnOK57⟩, trivial⟩, ⟨Try.func58, fnOK58⟩, ⟨trivial, ⟨Try.func59, fnOK59⟩, trivial⟩⟩, ⟨Try.func60, fnOK60⟩, ⟨⟨trivial, ⟨Try.func61, fnOK61⟩, trivial⟩, ⟨Try.func62, fnOK62⟩, trivial⟩⟩⟩⟩⟩, ⟨Try.func63, fnOK63⟩, ⟨⟨⟨⟨⟨⟨trivial, ⟨Try.func64, fnOK64⟩, trivial⟩, ⟨Try.func65, fnOK65⟩, ⟨trivial, ⟨Try.func66, fnOK66⟩, trivial⟩⟩, ⟨Try.func67, fnOK67⟩, ⟨⟨trivial, ⟨Try.func68, fnOK68⟩, trivial⟩, ⟨Try.func69, fnOK69⟩, ⟨trivial, ⟨Try.func70, fnOK70⟩, trivial⟩⟩⟩, ⟨Try.func71, fnOK71⟩, ⟨⟨⟨trivial, ⟨Try.func72, fnOK72⟩, trivial⟩, ⟨Try.func73, fnOK73⟩, ⟨trivial, ⟨Try.func74, fnOK74⟩, trivial⟩⟩, ⟨Try.func75, fnOK75⟩, ⟨⟨trivial, ⟨Try.func76, fnOK76⟩, trivial⟩, ⟨Try.func77, fnOK77⟩, trivial⟩⟩⟩, ⟨Try.func78, fnOK78⟩, ⟨⟨⟨⟨trivial, ⟨Try.func79, fnOK79⟩, trivial⟩, ⟨Try.func80, fnOK80⟩, ⟨trivial, ⟨Try.func81, fnOK81⟩, trivial⟩⟩, ⟨Try.func82, fnOK82⟩, ⟨⟨trivial, ⟨Try.func83, fnOK83⟩, trivial⟩, ⟨Try.func84, fnOK84⟩, ⟨trivial, ⟨Try.func85, fnOK85⟩, trivial⟩⟩⟩, ⟨Try.func86, fnOK86⟩, ⟨⟨⟨trivial, ⟨Try.func87, fnOK87⟩, trivial⟩, ⟨Try.func88, fnOK88⟩, ⟨trivial, ⟨Try.func89, fnOK89⟩, trivial⟩⟩, ⟨Try.func90, fnOK90⟩, ⟨⟨trivial, ⟨Try.func91, fnOK91⟩, trivial⟩, ⟨Try.func92, fnOK92⟩, trivial⟩⟩⟩⟩, ⟨Try.func93, fnOK93⟩, ⟨⟨⟨⟨⟨trivial, ⟨Try.func94, fnOK94⟩, trivial⟩, ⟨Try.func95, fnOK95⟩, ⟨trivial, ⟨Try.func96, fnOK96⟩, trivial⟩⟩, ⟨Try.func97, fnOK97⟩, ⟨⟨trivial, ⟨Try.func98, fnOK98⟩, trivial⟩, ⟨Try.func99, fnOK99⟩, ⟨trivial, ⟨Try.func100, fnOK100⟩, trivial⟩⟩⟩, ⟨Try.func101, fnOK101⟩, ⟨⟨⟨trivial, ⟨Try.func102, fnOK102⟩, trivial⟩, ⟨Try.func103, fnOK103⟩, ⟨trivial, ⟨Try.func104, fnOK104⟩, trivial⟩⟩, ⟨Try.func105, fnOK105⟩, ⟨⟨trivial, ⟨Try.func106, fnOK106⟩, trivial⟩, ⟨Try.func107, fnOK107⟩, trivial⟩⟩⟩, ⟨Try.func108, fnOK108⟩, ⟨⟨⟨⟨trivial, ⟨Try.func109, fnOK109⟩, trivial⟩, ⟨Try.func110, fnOK110⟩, ⟨trivial, ⟨Try.func111, fnOK111⟩, trivial⟩⟩, ⟨Try.func112, fnOK112⟩, ⟨⟨trivial, ⟨Try.func113, fnOK113⟩, trivial⟩, ⟨Try.func114, fnOK114⟩, ⟨trivial, ⟨Try.func115, fnOK115⟩, trivial⟩⟩⟩, ⟨Try.func116, fnOK116⟩, ⟨⟨⟨trivial, ⟨Try.func117, fnOK117⟩, trivial⟩, ⟨Try.func118, fnOK118⟩, ⟨trivial, ⟨Try.func119, fnOK119⟩, trivial⟩⟩, ⟨Try.func120, fnOK120⟩, ⟨⟨trivial, ⟨Try.func121, fnOK121⟩, trivial⟩, ⟨Try.func123, fnOK123⟩, trivial⟩⟩⟩⟩⟩⟩
theorem acfgFn : CfgFn acfg Try.prog (fun c => codeOK acfg c = true) := ⟨fun f fn h => by
 obtain ⟨h1, h2⟩ := Tr.all_find codeTab fnAll f fn h
 unfold fnOK at h2
 simp only [Bool.and_eq_true, Bool.not_eq_true'] at h2
 refine ⟨h1, h2.1, fun c hc => ?_⟩
 have := h2.2
 rw [hc] at this
 exact this⟩
open Go.RowKit in
theorem acfgJoin : ∀ (f : FuncId) (g : List T -> Option T) (xs : List T) (r : T), acfg.prim f = some g -> g xs = some r -> Go.Apex.Enters Try.prog f /\ ∀ (w : World) (S : Nat -> Prop) (cargs : Array Value), BaseOK w.heap.size w -> (∀ b, S b -> b < w.heap.size) -> RepTL w S xs cargs.toList →
  Calls Try.prog f cargs w fun e w' => ∃ cv S', e = .returned cv /\ Pure w S w' S' /\ RepT w' S' r cv := fun f g xs r hf hg => by
 have hf : cond (Nat.beq f 84) (some joinT) (none) = some g := hf
 cases hb : Nat.beq f 84 with
 | true =>
  rw [hb] at hf
  cases hf
  cases Nat.eq_of_beq_eq_true hb
  exact ⟨⟨Try.f84, Try.func84, by kernel_rfl, by kernel_rfl⟩, fun w S cargs hB hS hr => join_prim Try.strings_Join_none Try.strings_Join hg w S cargs hS hr⟩
 | false =>
 rw [hb] at hf
 simp only [cond_false] at hf
 cases hf
theorem acfgChk : ChkOK acfg Try.prog := fun f e hf => by
 have hf : cond (Nat.beq f 122) (some _) none = some e := hf
 cases hb : Nat.beq f 122 with
 | false => rw [hb] at hf; cases hf
 | true =>
  rw [hb] at hf
  cases hf
  cases Nat.eq_of_beq_eq_true hb
  exact ⟨⟨Try.f122, Try.func122, by kernel_rfl, by kernel_rfl⟩, fun b w => ⟨fun h1 h2 h3 => Go.Proofs.Any.Builder_copyCheck_fresh { Try.lays156 with } Try.Builder_Extra_156.toX72 b w h1 h2 h3, fun h1 => Go.Proofs.Any.Builder_copyCheck_used { Try.lays156 with } Try.Builder_Extra_156.toX72 b w h1⟩⟩
theorem acfgPrim : PrimOK acfg Try.prog := ⟨acfgJoin, acfgChk⟩
theorem acfgK : KOK acfg Try.prog (fun c => codeOK acfg c = true) := kok (by kernel_rfl) acfgTI
open Go.RowKit in
theorem fn_calls {f : FuncId} {xs : List T} {r : T} (hq : fnO acfg f xs = some r) (w : World) (S : Nat -> Prop) (cargs : Array Value) (hB : BaseOK w.heap.size w) (hS : ∀ b, S b -> b < w.heap.size) (hr : RepTL w S xs cargs.toList) :
  Calls Try.prog f cargs w fun e w' => ∃ cv S', e = .returned cv /\ Pure w S w' S' /\ RepT w' S' r cv := by
 obtain ⟨n, hn⟩ := fnO_some.1 hq
 cases n with
 | zero => cases hn
 | succ n => exact eval_calls acfgTI acfgK acfgFn acfgPrim (n := n) hn w S cargs hB hS hr
end Go.Proofs.Try
