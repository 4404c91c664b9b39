/- The law OrderNames (the document's other examples and errors of chapter 3) returns true, called in whatever memory that meets the card. Its conditions: none but the card's own (the listed variables stand as the program's text lays them). -/
import Derived.Test.YtcljaeknhmpecabGreatDoorMemo
import Derived.Test.YtcljaeknhmpecabGreatDoorTie
import Derived.Test.YtcljaeknhmpecabGreatDoorCards
import Derived.WalkKit
import Derived.ProofKit
import Derived.OpenShut
import Derived.MakeChecks
import Derived.Lay
import Derived.LaidOnce
import Derived.SevenTiedAt
import Derived.Shelf.Vars
set_option linter.all false
set_option linter.unusedVariables false
set_option linter.unusedSimpArgs false
set_option linter.unusedSectionVars false
namespace Go.Proofs.YtcljaeknhmpecabGreatDoor.orderNames
open Go.ChangeShapes Go.WideShapes Go.ChangeAt Go.RowKit Go.Apex
theorem own : ownKnob Tryz.prog.godebug = none := by kernel_rfl

set_option maxRecDepth 100000 in
theorem rootOK : evalN (Tryz.acfg.memo [4, 5, 6, 7, 8, 9, 10, 11, 12, 13, 14, 15] Tryz.memoTab) 300 3 [] = some (.bool true) := by kernel_rfl
theorem walk (W : World) (h : W.ShapedOpen Tryz.prog) : Calls Tryz.prog 3 #[] W fun e w' => e = .returned (.bool true) ∧ Below W.heap.size W w' := by
  have hm : ∃ m : Int, W.cell? ⟨0, 0, none⟩ = some (.int .i64 m) :=
    cell_of_shapedOpen_int (t := 3) (zero := #[.int .i64 0]) h (by decide +kernel) (by kernel_rfl) rfl (by kernel_rfl) (by kernel_rfl) Tryz.underlying3
  have hB : BaseOK W.heap.size W := ⟨Nat.le_refl _, by
    obtain ⟨m, hm⟩ := hm
    show 1 ≤ W.heap.size
    rcases Nat.eq_zero_or_pos W.heap.size with h0 | h0
    · simp only [World.cell?] at hm
      rw [Array.getElem?_eq_none (by omega)] at hm
      cases hm
    · exact h0, hm⟩
  refine (memo_eval (by kernel_rfl) Tryz.acfgTI Tryz.acfgFn Tryz.acfgPrim Tryz.memoOK rootOK W (fun _ => False) #[] hB (fun _ h => h.elim) ⟨rfl, fun i x v h => by simp at h⟩).mono ?_
  rintro e w' ⟨cv, S', rfl, hp, hr⟩
  cases hr
  exact ⟨rfl, ⟨hp.os, hp.tape, hp.output, hp.size, hp.below⟩⟩

set_option maxRecDepth 100000 in
theorem lifted (os : Os) (started : os.Started) (H : Type) (enc : TypeId × Value → H) :
    ReturnsInHanded {} Tryz.checked os 3 .any (fun w args => (Rows.orderNamesSpec.pre enc Tryz.prog Tryz.f3 [] false w args ∧ laidMetH Tryz.prog Rows.orderNamesRow.laid w) ∧ sizedMet enc Tryz.prog Tryz.f3 (OpenSpec.ofChange Rows.orderNamesSpec) false w args)
      (Rows.orderNamesSpec.post enc Tryz.prog Tryz.f3 false true false false) := by
  refine returnsInHanded_of_calls (C := Tryz.checked) own started (by kernel_rfl)
    (ChangeSpec.witness_shaped (enc := enc) (C := Tryz.checked) (os := os) (X := fun w _ => laidMetH Tryz.prog Rows.orderNamesRow.laid w) false (World.laidAll Tryz.prog os Rows.orderNamesRow.laid) #[] 8 (World.laidAll_os _ _ _)
      (World.shaped_of_ZipB (by kernel_rfl) (by kernel_rfl)) (by kernel_rfl) (by kernel_rfl) (by kernel_rfl)
      (by rw [MakeChecks.laidMetH_plain _ _ _ (by kernel_rfl)]; exact laidMet_laidAll _ (by kernel_rfl) (by kernel_rfl))) ?_
  intro w tape i _ shaped _ ok pre _
  obtain ⟨_, _, _, fn, hfn, _, _, _, _, hval⟩ := ok
  obtain rfl : fn = Tryz.f3 := Option.some.inj (hfn.symm.trans Tryz.func3)
  obtain ⟨⟨⟨ds, gs, before, hw, _⟩, _⟩, _⟩ := pre
  have hW' := DataW.Whole.of_heap (w' := w.forCall tape i) (by rfl) hw
  have hW := hW'
  obtain ⟨p, q, hA0, hV, rfl, _, _⟩ := hW
  have hA : DataW.TrodAll enc Tryz.prog (w.forCall tape i) 0 (fun _ => true) true Tryz.f3.params.toList i.args.toList ds p := hA0
  rw [Tryz.params3] at hA
  obtain ⟨hargs, rfl, rfl⟩ := trodAll_none hA
  have hargs : i.args = #[] := by first | exact hargs | simpa using hargs
  obtain ⟨rfl, rfl⟩ := trodVars_none hV
  simp only [List.append_nil] at hW'
  rw [hargs] at hW' ⊢
  refine (walk (w.forCall tape i) shaped).mono fun e W' ⟨he, hb⟩ => ?_
  subst he
  have hpost : Rows.orderNamesSpec.post enc Tryz.prog Tryz.f3 false true false false (w.forCall tape i) #[] (.bool true) W' :=
    ⟨_, _, _, [], [], [], hW', trodAll_mk1 (shut_bool Tryz.underlying4 _), trodAll_mk0, rfl, hb.frame _, fun h => by cases h⟩
  exact ChangeSpec.post_blind hpost

theorem over : Rows.orderNamesRow.holds Tryz.pinned (OpenSpec.ofChange Rows.orderNamesSpec) :=
  OpenClaim.holds_of_wide 3 Tryz.f3 rfl rfl rfl rfl rfl rfl rfl ⟨rfl, rfl, rfl, rfl, rfl⟩ rfl rfl rfl rfl rfl (by kernel_rfl) Tryz.func3 (by kernel_rfl)
    (of_decide_eq_true (by kernel_rfl)) (by unfold Func.isWrapper; first | (rw [if_pos (by decide +kernel)]; kernel_rfl) | (rw [if_neg (by decide +kernel)]; exact ⟨rfl, rfl⟩))
    (fun os started H enc _ => lifted os started H enc)

theorem card_holds : Rows.OrderNamesCardSaid :=
  Claim7.holds_tied_plain_at .later [] [.data, .pinned] true (true, "e7f7cf9d227bdeea55f21451bf79ee2a0393e3b9922daa3b76af1a3c5a673d22") false over (fun _ h => by cases h) (by kernel_rfl) (fun _ h => by cases h) orderNames_row_tie rfl ⟨rfl, rfl⟩ (by kernel_rfl) rfl
    (fun f fn hf hfn => by
      obtain rfl : f = 3 := Option.some.inj ((show Tryz.prog.funcNamed "dripstone/dripstonelaw03.OrderNames" = some 3 by kernel_rfl).symm.trans hf) |>.symm
      obtain rfl : fn = Tryz.f3 := (Option.some.inj (Tryz.func3.symm.trans hfn)).symm
      exact ⟨by kernel_rfl, fun j t ht => by
        rw [Tryz.params3] at ht
        simp at ht⟩)
    (by kernel_rfl)
end Go.Proofs.YtcljaeknhmpecabGreatDoor.orderNames
namespace Go.Proofs.YtcljaeknhmpecabGreatDoor
/-- The card, under a short name. -/
theorem orderNames_holds : Rows.OrderNamesCardSaid := orderNames.card_holds
end Go.Proofs.YtcljaeknhmpecabGreatDoor
#print axioms Go.Proofs.YtcljaeknhmpecabGreatDoor.orderNames_holds
