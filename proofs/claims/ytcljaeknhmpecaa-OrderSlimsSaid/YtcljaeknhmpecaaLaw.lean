/- The law OrderSlims returns true at every table, and the table reads behind the call as it read before. Its conditions: none. -/
import Derived.Test.YtcljaeknhmpecaaSpec2
import Derived.Test.YtcljaeknhmpecaaOpen
import Derived.Test.YtcljaeknhmpecaaAwake
set_option linter.all false
/- OrderSlims: the row. -/
open Go Go.Apex Go.ChangeShapes Go.WideShapes Go.ChangeAt Go.RowKit Go.Deep
namespace Go.Proofs.Try
theorem walk11 {t : Tbl} {n : List UInt8} {e a w : T} {W : World} {v0 : Value} (h : IsTbl t n e a w) (hr : RepT W (fun b => b < W.heap.size) (tblT n e a w) v0) :
    Calls Try.prog 11 #[v0] W fun e W' => e = .returned (.bool true) ∧ Below W.heap.size W W' := by
  refine (fn_calls (all_slims h awake) W (fun b => b < W.heap.size) #[v0] ⟨Nat.le_refl _, Nat.zero_le _, trivial⟩ (fun _ h => h) ⟨rfl, fun i x u hx hu => ?_⟩).mono ?_
  · match i with
    | 0 => simp at hx hu; subst hx hu; exact hr
    | i + 1 => simp at hx
  · rintro e w' ⟨cv, S', rfl, hp, hr⟩
    cases hr
    exact ⟨rfl, ⟨hp.os, hp.tape, hp.output, hp.size, hp.below⟩⟩
end Go.Proofs.Try
namespace Go.Proofs.Ytcljaeknhmpecaa
open Go.Proofs.Try
set_option maxRecDepth 100000 in
theorem orderSlims_lifted (os : Os) (started : os.Started) (H : Type) (enc : TypeId × Value → H) :
    ReturnsInHanded {} Try.checked os 11 .any (Rows.orderSlimsSpec.pre6 enc Try.prog Try.f11 Rows.orderSlimsRow.domain false) (Rows.orderSlimsSpec.post enc Try.prog Try.f11 false true false false) := by
  refine returnsInHanded_of_change (C := Try.checked) own started (by kernel_rfl) Try.func11
    (ChangeSpec.witness6 (enc := enc) (C := Try.checked) false ⟨#[], #[.agg #[.string ⟨#[]⟩, .slice none 0 0, .slice none 0 0, .slice none 0 0]], []⟩ 8 (by kernel_rfl) (by kernel_rfl) (by kernel_rfl) (by kernel_rfl)) ?_
  intro W base args ds gs before hval0 hW hcnd _
  have hval : ∀ (j : Nat) t v, Try.f11.params[j]? = some t → args[j]? = some v → Value.okWide Try.prog W .any base t v := hval0
  have hW' := hW
  obtain ⟨p, q, hA0, hV, rfl, hfz, hnd⟩ := hW
  have hA : DataW.TrodAll enc Try.prog W 0 (fun _ => true) true Try.f11.params.toList args.toList ds p := hA0
  rw [Try.params11] at hA hval
  obtain ⟨v0, vs0, d0, ds0, p0, q0, hargs, rfl, rfl, h0, r0⟩ := trodAll_cons hA
  obtain ⟨rfl, rfl, rfl⟩ := trodAll_nil r0
  obtain rfl : args = #[v0] := by cases args; simp_all
  obtain ⟨rfl, rfl⟩ := trodVars_none hV
  have k0 := h0
  have lt0 : ∀ x ∈ p0, x.block < W.heap.size := by obtain ⟨m, hm⟩ := k0; exact DataW.trod_lt m _ _ _ hm
  obtain ⟨cs, rfl, hsz⟩ := okWide_struct Try.underlying26 (hval 0 26 v0 rfl rfl)
  have c26 : Try.prog.cellsOf 26 = 4 := by kernel_rfl
  obtain ⟨fuel, hf⟩ := h0
  obtain ⟨t, n, e, a, w, ht, hr⟩ := open_table (cs := cs) (hsz.trans c26) hf
  clear hA0 hval0
  refine (walk11 ht hr).mono fun e W' ⟨he, bel⟩ => ?_
  subst he
  exact ⟨_, rfl, _, _, _, [], _, [], hW', trodAll_mk1 (shut_bool Try.underlying4 _), (trodAll_cons_mk (Below.trod laidOut (by kernel_rfl) (of_decide_eq_true (by kernel_rfl)) k0 bel lt0) trodAll_mk0), rfl, bel.frame _, fun h => by cases h⟩
theorem orderSlims_over : Rows.orderSlimsRow.holds Try.pinned (OpenSpec.ofChange Rows.orderSlimsSpec) :=
  OpenClaim.holds_of_wide 11 Try.f11 rfl rfl rfl rfl rfl rfl rfl ⟨rfl, rfl, rfl, rfl, rfl⟩ rfl rfl rfl rfl rfl (by kernel_rfl) Try.func11 (by kernel_rfl)
    (of_decide_eq_true (by kernel_rfl)) (by unfold Func.isWrapper; first | (rw [if_pos (by decide +kernel)]; kernel_rfl) | (rw [if_neg (by decide +kernel)]; exact ⟨rfl, rfl⟩))
    (fun os started H enc _ => orderSlims_lifted os started H enc)
/-- The statement. -/
theorem orderSlims_holds : Rows.OrderSlimsSaid := orderSlims_over
end Go.Proofs.Ytcljaeknhmpecaa

