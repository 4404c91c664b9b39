/- The law OrderTurned returns true at every table and all bytes, and both read behind the call as they read before. Its conditions: none. -/
import Derived.Test.YtcljaeknhmpecaaSpec2
import Derived.Test.YtcljaeknhmpecaaSpec
import Derived.Test.YtcljaeknhmpecaaAwake
set_option linter.all false
set_option linter.unusedVariables false
set_option linter.unusedSimpArgs false
set_option linter.unusedSectionVars false
set_option linter.deprecated false
/- OrderTurned: the row. -/
open Go Go.Apex Go.ChangeShapes Go.WideShapes Go.ChangeAt Go.RowKit Go.Deep
namespace Go.Proofs.Try
theorem walk4 {t : Tbl} {n : List UInt8} {e a w : T} {W : World} {v0 v1 : Value} {bs : List UInt8} {y : T} (h : IsTbl t n e a w) (hr : RepT W (fun b => b < W.heap.size) (tblT n e a w) v0) (hb : IsSl (bytesL bs) y) (hu : RepT W (fun b => b < W.heap.size) y v1) :
    Calls Try.prog 4 #[v0, v1] W fun e W' => e = .returned (.bool true) ∧ Below W.heap.size W W' := by
  refine (fn_calls (all_turned h awake hb) W (fun b => b < W.heap.size) #[v0, v1] ⟨Nat.le_refl _, Nat.zero_le _, trivial⟩ (fun _ h => h) ⟨rfl, fun i x u hx hu => ?_⟩).mono ?_
  · match i with
    | 0 => simp at hx hu; subst hx hu; exact hr
    | 1 => simp at hx hu; subst hx hu; assumption
    | i + 2 => simp at hx
  · rintro e w' ⟨cv, S', rfl, hp, hr⟩
    cases hr
    exact ⟨rfl, ⟨hp.os, hp.tape, hp.output, hp.size, hp.below⟩⟩
end Go.Proofs.Try
namespace Go.Proofs.Ytcljaeknhmpecaa
open Go.Proofs.Try
set_option maxRecDepth 100000 in
theorem orderTurned_lifted (os : Os) (started : os.Started) (H : Type) (enc : TypeId × Value → H) :
    ReturnsInHanded {} Try.checked os 4 .any (Rows.orderTurnedSpec.pre6 enc Try.prog Try.f4 Rows.orderTurnedRow.domain false) (Rows.orderTurnedSpec.post enc Try.prog Try.f4 false true false false) := by
  refine returnsInHanded_of_change (C := Try.checked) own started (by kernel_rfl) Try.func4
    (ChangeSpec.witness6 (enc := enc) (C := Try.checked) false ⟨#[], #[.agg #[.string ⟨#[]⟩, .slice none 0 0, .slice none 0 0, .slice none 0 0], .slice none 0 0], []⟩ 8 (by kernel_rfl) (by kernel_rfl) (by kernel_rfl) (by kernel_rfl)) ?_
  intro W base args ds gs before hval0 hW hcnd _
  have hval : ∀ (j : Nat) t v, Try.f4.params[j]? = some t → args[j]? = some v → Value.okWide Try.prog W .any base t v := hval0
  have hW' := hW
  obtain ⟨p, q, hA0, hV, rfl, hfz, hnd⟩ := hW
  have hA : DataW.TrodAll enc Try.prog W 0 (fun _ => true) true Try.f4.params.toList args.toList ds p := hA0
  rw [Try.params4] at hA hval
  obtain ⟨v0, vs0, d0, ds0, p0, q0, hargs, rfl, rfl, h0, r0⟩ := trodAll_cons hA
  obtain ⟨v1, vs1, d1, ds1, p1, q1, rfl, rfl, rfl, h1, r1⟩ := trodAll_cons r0
  obtain ⟨rfl, rfl, rfl⟩ := trodAll_nil r1
  obtain rfl : args = #[v0, v1] := by cases args; simp_all
  obtain ⟨rfl, rfl⟩ := trodVars_none hV
  have k0 := h0
  have k1 := h1
  have lt0 : ∀ x ∈ p0, x.block < W.heap.size := by obtain ⟨m, hm⟩ := k0; exact DataW.trod_lt m _ _ _ hm
  have lt1 : ∀ x ∈ p1, x.block < W.heap.size := by obtain ⟨m, hm⟩ := k1; exact DataW.trod_lt m _ _ _ hm
  obtain ⟨cs, rfl, hsz⟩ := okWide_struct Try.underlying26 (hval 0 26 v0 rfl rfl)
  have c26 : Try.prog.cellsOf 26 = 4 := by kernel_rfl
  obtain ⟨fuel, hf⟩ := h0
  obtain ⟨fuel1, hf1⟩ := h1
  obtain ⟨t, n, e, a, w, ht, hr⟩ := open_table (cs := cs) (hsz.trans c26) hf
  obtain ⟨ba, bl, bc, rfl⟩ := okWide_slice Try.underlying37 (hval 1 37 v1 rfl rfl)
  obtain ⟨bs, y, hb1, hr1⟩ := open_bytesT Try.underlying37 Try.underlying5 (by kernel_rfl) hf1
  clear hA0 hval0
  refine (walk4 ht hr hb1 hr1).mono fun e W' ⟨he, bel⟩ => ?_
  subst he
  exact ⟨_, rfl, _, _, _, [], _, [], hW', trodAll_mk1 (shut_bool Try.underlying4 _), (trodAll_cons_mk (Below.trod laidOut (by kernel_rfl) (of_decide_eq_true (by kernel_rfl)) k0 bel lt0) (trodAll_cons_mk (Below.trod laidOut (by kernel_rfl) (of_decide_eq_true (by kernel_rfl)) k1 bel lt1) trodAll_mk0)), rfl, bel.frame _, fun h => by cases h⟩
theorem orderTurned_over : Rows.orderTurnedRow.holds Try.pinned (OpenSpec.ofChange Rows.orderTurnedSpec) :=
  OpenClaim.holds_of_wide 4 Try.f4 rfl rfl rfl rfl rfl rfl rfl ⟨rfl, rfl, rfl, rfl, rfl⟩ rfl rfl rfl rfl rfl (by kernel_rfl) Try.func4 (by kernel_rfl)
    (of_decide_eq_true (by kernel_rfl)) (by unfold Func.isWrapper; first | (rw [if_pos (by decide +kernel)]; kernel_rfl) | (rw [if_neg (by decide +kernel)]; exact ⟨rfl, rfl⟩))
    (fun os started H enc _ => orderTurned_lifted os started H enc)
/-- The statement. -/
theorem orderTurned_holds : Rows.OrderTurnedSaid := orderTurned_over
end Go.Proofs.Ytcljaeknhmpecaa

