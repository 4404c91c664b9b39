/- The law OrderShapes returns true at every slice of tables and every shape, and both read behind the call as they read before. Its conditions: none. -/
import Derived.Test.YtcljaeknhmpecaaGreatSpec2
import Derived.Test.YtcljaeknhmpecaaGreatOpen
import Derived.Test.YtcljaeknhmpecaaGreatCfgOK
import Derived.Test.YtcljaeknhmpecaaGreatAwake
set_option linter.all false
/- OrderShapes: the row. -/
open Go Go.Apex Go.ChangeShapes Go.WideShapes Go.ChangeAt Go.RowKit Go.Deep
namespace Go.Proofs.Tryz
theorem walk3 {l : List Tbl} {q : T} {d : Nat} {s : Sh} {x : T} {W : World} {v0 v1 : Value} (h : IsTs l q) (hs : IsSh d s x) (hr : RepT W (fun b => b < W.heap.size) q v0) (hu : RepT W (fun b => b < W.heap.size) x v1) :
    Calls Tryz.prog 3 #[v0, v1] W fun e W' => e = .returned (.bool true) ∧ Below W.heap.size W W' := by
  refine (fn_calls (all_shapes h hs awake) W (fun b => b < W.heap.size) #[v0, v1] ⟨Nat.le_refl _, Nat.zero_le _, trivial⟩ (fun _ h => h) ⟨rfl, fun i x u hx hu => ?_⟩).mono ?_
  · match i with
    | 0 => simp at hx hu; subst hx hu; exact hr
    | 1 => simp at hx hu; subst hx hu; assumption
    | i + 2 => simp at hx
  · rintro e w' ⟨cv, S', rfl, hp, hr⟩
    cases hr
    exact ⟨rfl, ⟨hp.os, hp.tape, hp.output, hp.size, hp.below⟩⟩
end Go.Proofs.Tryz
namespace Go.Proofs.YtcljaeknhmpecaaGreat
open Go.Proofs.Tryz
set_option maxRecDepth 100000 in
theorem orderShapes_lifted (os : Os) (started : os.Started) (H : Type) (enc : TypeId × Value → H) :
    ReturnsInHanded {} Tryz.checked os 3 .any (Rows.orderShapesSpec.pre6 enc Tryz.prog Tryz.f3 Rows.orderShapesRow.domain false) (Rows.orderShapesSpec.post enc Tryz.prog Tryz.f3 false true false false) := by
  refine returnsInHanded_of_change (C := Tryz.checked) own started (by kernel_rfl) Tryz.func3
    (ChangeSpec.witness6 (enc := enc) (C := Tryz.checked) false ⟨#[], #[.slice none 0 0, .agg #[.int .u8 0, .string ⟨#[]⟩, .slice none 0 0]], []⟩ 8 (by kernel_rfl) (by kernel_rfl) (by kernel_rfl) (by kernel_rfl)) ?_
  intro W base args ds gs before hval0 hW hcnd _
  have hval : ∀ (j : Nat) t v, Tryz.f3.params[j]? = some t → args[j]? = some v → Value.okWide Tryz.prog W .any base t v := hval0
  have hW' := hW
  obtain ⟨p, q, hA0, hV, rfl, hfz, hnd⟩ := hW
  have hA : DataW.TrodAll enc Tryz.prog W 0 (fun _ => true) true Tryz.f3.params.toList args.toList ds p := hA0
  rw [Tryz.params3] at hA hval
  obtain ⟨v0, vs0, d0, ds0, p0, q0, hargs, rfl, rfl, h0, r0⟩ := trodAll_cons hA
  obtain ⟨v1, vs1, d1, ds1, p1, q1, rfl, rfl, rfl, h1, r1⟩ := trodAll_cons r0
  obtain ⟨rfl, rfl, rfl⟩ := trodAll_nil r1
  obtain rfl : args = #[v0, v1] := by cases args; simp_all
  obtain ⟨rfl, rfl⟩ := trodVars_none hV
  have k0 := h0
  have k1 := h1
  have lt0 : ∀ x ∈ p0, x.block < W.heap.size := by obtain ⟨m, hm⟩ := k0; exact DataW.trod_lt m _ _ _ hm
  have lt1 : ∀ x ∈ p1, x.block < W.heap.size := by obtain ⟨m, hm⟩ := k1; exact DataW.trod_lt m _ _ _ hm
  obtain ⟨ba, bl, bc, rfl⟩ := okWide_slice Tryz.underlying22 (hval 0 22 v0 rfl rfl)
  obtain ⟨cs1, rfl, hsz1⟩ := okWide_struct Tryz.underlying25 (hval 1 25 v1 rfl rfl)
  have c25 : Tryz.prog.cellsOf 25 = 3 := by kernel_rfl
  obtain ⟨fuel, hf⟩ := h0
  obtain ⟨fuel1, hf1⟩ := h1
  obtain ⟨l, q, hq, hr⟩ := open_tables hf
  have hsz : cs1.size = 3 := hsz1.trans c25
  obtain ⟨s, p, hs, hr1⟩ := open_shape fuel1 cs1.toList _ (by rw [Array.length_toList]; exact hsz) hf1
  have hr1' : RepT W (fun b => b < W.heap.size) (shT s.kind s.name p) (.agg cs1) := .agg _ _ hsz.symm fun i x v hx hv => hr1 i x v hx (by rw [Array.getElem?_toList]; exact hv)
  clear hA0 hval0
  refine (walk3 hq hs hr hr1').mono fun e W' ⟨he, bel⟩ => ?_
  subst he
  exact ⟨_, rfl, _, _, _, [], _, [], hW', trodAll_mk1 (shut_bool Tryz.underlying4 _), (trodAll_cons_mk (Below.trod laidOut (by kernel_rfl) (of_decide_eq_true (by kernel_rfl)) k0 bel lt0) (trodAll_cons_mk (Below.trod laidOut (by kernel_rfl) (of_decide_eq_true (by kernel_rfl)) k1 bel lt1) trodAll_mk0)), rfl, bel.frame _, fun h => by cases h⟩
theorem orderShapes_over : Rows.orderShapesRow.holds Tryz.pinned (OpenSpec.ofChange Rows.orderShapesSpec) :=
  OpenClaim.holds_of_wide 3 Tryz.f3 rfl rfl rfl rfl rfl rfl rfl ⟨rfl, rfl, rfl, rfl, rfl⟩ rfl rfl rfl rfl rfl (by kernel_rfl) Tryz.func3 (by kernel_rfl)
    (of_decide_eq_true (by kernel_rfl)) (by unfold Func.isWrapper; first | (rw [if_pos (by decide +kernel)]; kernel_rfl) | (rw [if_neg (by decide +kernel)]; exact ⟨rfl, rfl⟩))
    (fun os started H enc _ => orderShapes_lifted os started H enc)
/-- The statement. -/
theorem orderShapes_holds : Rows.OrderShapesSaid := orderShapes_over
end Go.Proofs.YtcljaeknhmpecaaGreat

