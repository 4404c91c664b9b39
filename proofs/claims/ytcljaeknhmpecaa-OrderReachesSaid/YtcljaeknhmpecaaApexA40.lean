import Derived.Test.YtcljaeknhmpecaaApexA39
set_option linter.all false
set_option linter.unusedVariables false
set_option linter.unusedSimpArgs false
set_option linter.unusedSectionVars false
/- Operations on data that are not told: they do what the evaluator does (2). -/
namespace Go.Apex
open Go
section
variable {cfg : Cfg} {ts : Ts} {hb : Rd} {rows : List Nat} {slot : Nat}

theorem binV_other {ti : TypeId → Option TI} {op : BinOp} {xt : TypeId} {a b v : V} {e : Bool} (ha : ∀ (k : IntKind) (n : Int) (k' : IntKind) (m : Int), ¬ (a = .t (.int k n) ∧ b = .t (.int k' m))) (hs : ∀ n m, ¬ (a = .t (.str n) ∧ b = .t (.str m))) (he : eqV ti xt a b = some e) (hv : (op = .eql ∧ v = .t (.bool e)) ∨ (op = .neq ∧ v = .t (.bool (!e)))) :
    binV ti op xt a b = some v := by
  unfold binV
  split
  · exact absurd ⟨rfl, rfl⟩ (ha _ _ _ _)
  · exact absurd ⟨rfl, rfl⟩ (hs _ _)
  · rcases hv with ⟨rfl, rfl⟩ | ⟨rfl, rfl⟩ <;> simp [he]
theorem sBin_ok {op : BinOp} {xt : TypeId} {x y : Operand} {v : V} (h : (sBin cfg ts op xt x y).den = some v) : qBin cfg ts op xt x y = some (v, none) := by
  unfold sBin at h
  replace h := Dt.lift_bind_some h; obtain ⟨a, ha, h⟩ := h
  replace h := Dt.lift_bind_some h; obtain ⟨b, hb, h⟩ := h
  replace h := Dt.lift_bind_some h; obtain ⟨i, hi, h⟩ := h
  have key : (nilConst x || nilConst y || !i.d.isIface) = true → binV cfg.ti op xt a b = some v → qBin cfg ts op xt x y = some (v, none) := by
    intro h1 h2
    simp only [qBin, ha, hb, hi, Option.bind_some, Option.any_some, h1, if_true, h2, one, Option.map_some]
  split at h
  · rename_i d hd
    split at h
    · split at h
      · refine key (by simp [hd, D.isIface]) ?_
        exact sInt_ok xt h
      · cases h
    · cases h
  · rename_i hd
    split at h
    · split at h
      · refine key (by simp [hd, D.isIface]) ?_
        exact sStr_ok h
      · cases h
    · cases h
  · rename_i hd
    split at h
    · split at h
      · refine key (by simp [hd, D.isIface]) ?_
        refine binV_other (by simp) (by simp) ?_ (sBool2_ok h)
        simp only [eqV, hi, Option.bind_some, hd, eqCell, bEq]
      · cases h
    · cases h
  · rename_i fs hd
    replace h := cond_den h; obtain ⟨hc, h⟩ := h
    replace h := Dt.bind_some h; obtain ⟨e, h1, h⟩ := h
    refine key (by simp [hd, D.isIface]) ?_
    refine binV_other ?_ ?_ ?_ (sBool2_ok h)
    · rintro k n k' m ⟨rfl, rfl⟩; simp [V.isAgg] at hc
    · rintro n m ⟨rfl, rfl⟩; simp [V.isAgg] at hc
    · simp only [eqV, hi, Option.bind_some, hd, hc, if_true, sEqFields_ok h1]
  · rename_i hd1 hd2 hd3 hd4
    have nil : ∀ {d : D}, i.d = d → (∃ e, d = .ptr e) ∨ (∃ e, d = .slice e) ∨ (∃ a b, d = .map a b) ∨ d = .func ∨ d = .iface → ∀ p q : V, eqV cfg.ti xt p q = eqCell d p q := by
      intro d hd hc p q
      subst hd
      simp only [eqV, hi, Option.bind_some]
    cases hy : nilConstOf i.d y with
    | true =>
      rw [hy] at h
      replace h := Dt.bind_some h; obtain ⟨e, h1, h⟩ := h
      obtain ⟨h2, h3⟩ := nilConstOf_ok (ts := ts) hy
      rw [hb] at h2
      cases h2
      have hcl : (∃ e, i.d = .ptr e) ∨ (∃ e, i.d = .slice e) ∨ (∃ a b, i.d = .map a b) ∨ i.d = .func ∨ i.d = .iface := by
        rcases h3 with h | h | h | h | ⟨h, _⟩
        · exact .inl h
        · exact .inr (.inl h)
        · exact .inr (.inr (.inl h))
        · exact .inr (.inr (.inr (.inl h)))
        · exact .inr (.inr (.inr (.inr h)))
      refine key ?_ (binV_other ?_ ?_ ((nil rfl hcl _ _).trans (sNil_ok hcl h1).1) (sBool2_ok h))
      · rcases h3 with ⟨_, h⟩ | ⟨_, h⟩ | ⟨_, _, h⟩ | h | ⟨_, h⟩ <;> simp [h, D.isIface]
      · rintro k n k' m ⟨rfl, hh⟩; rcases hcl with ⟨_, h⟩ | ⟨_, h⟩ | ⟨_, _, h⟩ | h | h <;> rw [h] at hh <;> cases hh
      · rintro n m ⟨rfl, hh⟩; rcases hcl with ⟨_, h⟩ | ⟨_, h⟩ | ⟨_, _, h⟩ | h | h <;> rw [h] at hh <;> cases hh
    | false =>
      rw [hy] at h
      simp only [cond_false] at h
      replace h := cond_den h; obtain ⟨hx, h⟩ := h
      replace h := Dt.bind_some h; obtain ⟨e, h1, h⟩ := h
      obtain ⟨h2, h3⟩ := nilConstOf_ok (ts := ts) hx
      rw [ha] at h2
      cases h2
      have hcl : (∃ e, i.d = .ptr e) ∨ (∃ e, i.d = .slice e) ∨ (∃ a b, i.d = .map a b) ∨ i.d = .func ∨ i.d = .iface := by
        rcases h3 with h | h | h | h | ⟨h, _⟩
        · exact .inl h
        · exact .inr (.inl h)
        · exact .inr (.inr (.inl h))
        · exact .inr (.inr (.inr (.inl h)))
        · exact .inr (.inr (.inr (.inr h)))
      refine key ?_ (binV_other ?_ ?_ ((nil rfl hcl _ _).trans (sNil_ok hcl h1).2) (sBool2_ok h))
      · rcases h3 with ⟨_, h⟩ | ⟨_, h⟩ | ⟨_, _, h⟩ | h | ⟨_, h⟩ <;> simp [h, D.isIface]
      · rintro k n k' m ⟨hh, rfl⟩; rcases hcl with ⟨_, h⟩ | ⟨_, h⟩ | ⟨_, _, h⟩ | h | h <;> rw [h] at hh <;> cases hh
      · rintro n m ⟨hh, rfl⟩; rcases hcl with ⟨_, h⟩ | ⟨_, h⟩ | ⟨_, _, h⟩ | h | h <;> rw [h] at hh <;> cases hh
theorem sUn_ok {op : UnOp} {a v : V} (h : (sUn op a).den = some v) : unV op a = some v := by
  unfold sUn at h
  split at h
  · split at h
    · split at h
      · cases h; rfl
      · cases h
    · split at h
      · rename_i k n
        replace h := Dt.opt_some h; obtain ⟨r, h1, h⟩ := h
        cases h
        unfold iNeg at h1
        unfold unV
        split at h1
        · rename_i k2 n2 hs
          split at h1
          · rename_i e
            cases h1
            show ((semPure (Op.unary op (.int k n))).bind ofCell).map V.t = _
            rw [hs, e]; rfl
          · cases h1
        · cases h1
      · cases h
  · cases h
theorem partV_sh (i : TI) (cs : List V) (off : Nat) : partV i cs off = shPart i.sh cs off := by
  unfold partV shPart TI.sh
  cases i.agg <;> simp
theorem partT_sh (i : TI) (cs : List T) (off : Nat) : partT i cs off = partS i.sh cs off := by
  unfold partT partS TI.sh
  cases i.agg <;> simp
theorem natEq_eq {a b : Nat} (h : natEq a b = true) : a = b := Nat.eq_of_beq_eq_true h
theorem beq_eq {a b : Nat} (h : Nat.beq a b = true) : a = b := Nat.eq_of_beq_eq_true h
theorem derefT_some {sh : Option Nat} {q x : T} (h : derefT sh q = some x) : q = .ptr x ∧ x.fits sh = true := by
  unfold derefT at h
  split at h
  · split at h
    · cases h; exact ⟨rfl, by assumption⟩
    · cases h
  · cases h
theorem bind_toT {o : Option V} {x : T} (h : o.bind toT = some x) : o = some (.t x) := by
  cases o with
  | none => cases h
  | some v => cases v <;> first | (cases h; rfl) | cases h
theorem sLoad_ok {t : TypeId} {a : Operand} {v : V} (h : (sLoad cfg ts hb rows t a).den = some v) : qLoad cfg ts hb t a = some (v, none) := by
  unfold sLoad at h
  replace h := Dt.lift_bind_some h; obtain ⟨i, hi, h⟩ := h
  replace h := Dt.lift_bind_some h; obtain ⟨p, hp, h⟩ := h
  simp only [qLoad, hi, hp, Option.bind_some]
  split at h
  · replace h := Dt.opt_some h; obtain ⟨x, h1, h⟩ := h
    obtain ⟨y, h2, rfl⟩ := Dt.map_some h
    obtain ⟨rfl, hf⟩ := derefT_some h1
    rw [viewT_ok h2]
    simp only [loadV, hf, if_true, one, Option.map_some]
  · split at h
    · rename_i id gen off sh _ g e fz cs ho
      simp only [loadV, ho]
      cases hr : rows.contains id with
      | true =>
        rw [hr] at h
        replace h := Dt.chk_some h; obtain ⟨hg, h⟩ := h
        replace h := Dt.opt_some h; obtain ⟨x, h1, h⟩ := h
        obtain ⟨y, h2, rfl⟩ := Dt.map_some h
        rw [viewT_ok h2, if_pos (natEq_eq hg), partV_sh, bind_toT h1]
        rfl
      | false =>
        rw [hr] at h
        simp only [cond_false] at h
        replace h := cond_den h; obtain ⟨hg, h⟩ := h
        rw [Dt.den_lift] at h
        rw [if_pos (beq_eq hg), partV_sh, h]
        rfl
    · cases h
  · cases h
theorem isPtrT_some {q : T} (h : isPtrT q = true) : ∃ x, q = .ptr x := by
  cases q <;> simp [isPtrT] at h
  exact ⟨_, rfl⟩
theorem sNilCheck_ok {x : Operand} {v : V} (h : (sNilCheck ts x).den = some v) : qNilCheck ts x = some (v, none) := by
  unfold sNilCheck at h
  replace h := Dt.lift_bind_some h; obtain ⟨p, hp, h⟩ := h
  simp only [qNilCheck, hp, Option.bind_some]
  split at h
  · replace h := Dt.chk_some h; obtain ⟨h1, h⟩ := h
    cases h
    obtain ⟨y, rfl⟩ := isPtrT_some h1
    rfl
  · cases h; rfl
  · cases h
theorem sFieldAddr_ok {s : TypeId} {x : Operand} {f : Nat} {v : V} (h : (sFieldAddr cfg ts s x f).den = some v) : qFieldAddr cfg ts s x f = some (v, none) := by
  unfold sFieldAddr at h
  replace h := Dt.lift_bind_some h; obtain ⟨p, hp, h⟩ := h
  replace h := Dt.lift_bind_some h; obtain ⟨i, hi, h⟩ := h
  simp only [qFieldAddr, hp, Option.bind_some, fieldAddrV, hi]
  split at h
  · rename_i fs hd
    simp only [hd]
    replace h := Dt.lift_bind_some h; obtain ⟨⟨t, off⟩, hf, h⟩ := h
    replace h := Dt.lift_bind_some h; obtain ⟨j, hj, h⟩ := h
    simp only [hf, hj, Option.bind_some]
    have hz : Nat.beq j.size 0 = false := by
      cases hz : Nat.beq j.size 0 with
      | false => rfl
      | true => rw [hz] at h; cases h
    rw [hz] at h
    have hz' : ¬ j.size = 0 := fun e => by rw [e] at hz; cases hz
    simp only [hz', if_false]
    simp only [cond_false] at h
    split at h
    · replace h := Dt.opt_some h; obtain ⟨y, h1, h⟩ := h
      cases h
      unfold fldT at h1
      split at h1
      · simp only [Option.bind_eq_some_iff] at h1
        obtain ⟨z, h2, h1⟩ := h1
        split at h1
        · rename_i hfit
          cases h1
          simp only [partT_sh, h2, Option.bind_some, hfit, if_true, one, Option.map_some]
        · cases h1
      · cases h1
    · cases h; rfl
    · cases h
  · cases h
theorem sInd_ok {v : V} {n : Int} (h : (sInd v).den = some n) : asI v = some n := by
  unfold sInd at h
  split at h
  · split at h
    · cases h; rfl
    · cases h
  · cases h
theorem sIndexAddr_ok {t : TypeId} {x ix : Operand} {v : V} (h : (sIndexAddr cfg ts t x ix).den = some v) : qIndexAddr cfg ts t x ix = some (v, none) := by
  unfold sIndexAddr at h
  replace h := Dt.lift_bind_some h; obtain ⟨p, hp, h⟩ := h
  replace h := Dt.lift_bind_some h; obtain ⟨w, hw, h⟩ := h
  replace h := Dt.bind_some h; obtain ⟨i, hi, h⟩ := h
  replace h := Dt.lift_bind_some h; obtain ⟨u, hu, h⟩ := h
  simp only [qIndexAddr, hp, hw, Option.bind_some, sInd_ok hi, indexAddrV, hu]
  split at h
  · rename_i e hd
    simp only [hd]
    replace h := Dt.lift_bind_some h; obtain ⟨j, hj, h⟩ := h
    simp only [hj, Option.bind_some]
    split at h
    · replace h := Dt.opt_some h; obtain ⟨y, h1, h⟩ := h
      cases h
      unfold idxT at h1
      split at h1
      · split at h1
        · rename_i hc
          simp only [Option.map_eq_some_iff] at h1
          obtain ⟨z, h2, rfl⟩ := h1
          simp only [if_pos hc, h2, Option.map_some, one]
        · cases h1
      · cases h1
    · replace h := cond_den h; obtain ⟨hs, h⟩ := h
      replace h := Dt.chk_some h; obtain ⟨h1, h⟩ := h
      cases h
      have h1 := of_decide_eq_true h1
      simp only [if_pos (show _ ∧ _ ∧ _ from ⟨h1.1, h1.2, of_decide_eq_true hs⟩)]
      rfl
    · cases h
  · cases h
theorem sIndex_ok {t : TypeId} {x ix : Operand} {v : V} (h : (sIndex cfg ts t x ix).den = some v) : qIndex cfg ts t x ix = some (v, none) := by
  unfold sIndex at h
  replace h := Dt.lift_bind_some h; obtain ⟨p, hp, h⟩ := h
  replace h := Dt.lift_bind_some h; obtain ⟨w, hw, h⟩ := h
  replace h := Dt.bind_some h; obtain ⟨i, hi, h⟩ := h
  replace h := Dt.lift_bind_some h; obtain ⟨u, hu, h⟩ := h
  simp only [qIndex, hp, hw, Option.bind_some, sInd_ok hi, indexV, hu]
  split at h
  · rename_i hd
    split at h
    · split at h
      · replace h := Dt.opt_some h; obtain ⟨b, h1, h⟩ := h
        cases h
        unfold byteAt at h1
        split at h1
        · rename_i hc
          simp only [Option.map_eq_some_iff] at h1
          obtain ⟨z, h2, rfl⟩ := h1
          simp only [hd, if_pos hc, h2, Option.map_some, one]
        · cases h1
      · cases h
    · cases h
  · cases h
theorem sOptInt_ok {o : Option Operand} {r : Option Int} (h : (sOptInt ts o).den = some r) : optInt ts o = some r := by
  cases o with
  | none => cases h; rfl
  | some o =>
    unfold sOptInt at h
    replace h := Dt.lift_bind_some h; obtain ⟨w, hw, h⟩ := h
    replace h := Dt.bind_some h; obtain ⟨i, hi, h⟩ := h
    cases h
    simp only [optInt, hw, Option.bind_some, sInd_ok hi, Option.map_some]
theorem sSlice_ok {xt : TypeId} {x : Operand} {lo hi mx : Option Operand} {v : V} (h : (sSlice cfg ts xt x lo hi mx).den = some v) : qSlice cfg ts xt x lo hi mx = some (v, none) := by
  unfold sSlice at h
  replace h := Dt.lift_bind_some h; obtain ⟨i, hi', h⟩ := h
  replace h := Dt.lift_bind_some h; obtain ⟨p, hp, h⟩ := h
  replace h := Dt.bind_some h; obtain ⟨lo', hlo, h⟩ := h
  replace h := Dt.bind_some h; obtain ⟨hh', hhi, h⟩ := h
  replace h := Dt.bind_some h; obtain ⟨mx', hmx, h⟩ := h
  simp only [qSlice, hi', hp, Option.bind_some, sOptInt_ok hlo, sOptInt_ok hhi, sOptInt_ok hmx]
  split at h
  · rename_i hd
    split at h
    · split at h
      · replace h := Dt.opt_some h; obtain ⟨r, h1, h⟩ := h
        cases h
        unfold strSub at h1
        simp only at h1
        split at h1
        · rename_i hc
          cases h1
          rw [if_pos (by simp [hd, sliceFits])]
          simp only [sliceV, Option.isNone_none, true_and]
          rw [if_pos (by simpa using hc)]
          rfl
        · cases h1
      · cases h
    · cases h
  · rename_i e hd
    replace h := Dt.lift_bind_some h; obtain ⟨j, hj, h⟩ := h
    split at h
    · replace h := Dt.opt_some h; obtain ⟨r, h1, h⟩ := h
      cases h
      unfold subT at h1
      split at h1
      · rw [if_pos (by simp [hd, sliceFits, hj])]
        split at h1
        · rename_i hc; cases h1; simp only [sliceV, if_pos hc, one, Option.map_some]
        · cases h1
      · simp only at h1
        split at h1
        · rename_i hc
          rw [if_pos (by simp [hd, sliceFits, hj, hc.1])]
          simp only [sliceV, if_pos hc.2]
          split at h1
          · cases h1; rfl
          · split at h1
            · rename_i hc2; cases h1; simp only [if_pos hc2, one, Option.map_some]
            · cases h1
        · cases h1
      · cases h1
    · replace h := cond_den h; obtain ⟨hs, h⟩ := h
      have hs := of_decide_eq_true hs
      split at h
      · replace h := Dt.chk_some h; obtain ⟨h1, h⟩ := h
        cases h
        rw [if_pos (by simp [hd, sliceFits, hj, hs])]
        have h1 := of_decide_eq_true h1
        simp only [nInt] at h1 ⊢
        simp only [sliceV, if_pos h1]
        rfl
      · cases h
    · cases h
  · cases h
theorem sLenOp_ok {d : D} {a v : V} (h : (sLenOp hb d a).den = some v) : lenV hb d a = some v := by
  unfold sLenOp at h
  split at h
  · split at h
    · split at h
      · cases h; rfl
      · cases h
    · cases h
  · split at h
    · replace h := Dt.opt_some h; obtain ⟨n, h1, h⟩ := h
      cases h
      unfold lenT at h1
      split at h1 <;> cases h1 <;> rfl
    · cases h; rfl
    · cases h
  · split at h
    · replace h := Dt.opt_some h; obtain ⟨n, h1, h⟩ := h
      cases h
      unfold mlenT at h1
      split at h1 <;> cases h1 <;> rfl
    · split at h
      · rename_i ho; cases h; simp only [lenV, mapParts, ho, Option.map_some, nInt]
      · cases h
    · cases h
  · cases h
theorem sCap_ok {d : D} {a v : V} (h : (sCap d a).den = some v) : capV d a = some v := by
  unfold sCap at h
  split at h
  · split at h
    · replace h := Dt.opt_some h; obtain ⟨n, h1, h⟩ := h
      cases h
      unfold capT at h1
      split at h1 <;> cases h1 <;> rfl
    · cases h
  · cases h
theorem sExt_ok {g : Int → Int → Int} {k : IntKind} : ∀ {l : List V} {a : Int} {v : V}, (sExt g k a l).den = some v → foldMax g k a l = some v
  | [], a, v, h => by cases h; rfl
  | x :: l, a, v, h => by
    unfold sExt at h
    split at h
    · rename_i e; cases e
    · rename_i p r e
      cases e
      split at h
      · replace h := cond_den h; obtain ⟨hk, h⟩ := h
        simp only [foldMax, if_pos (of_decide_eq_true hk)]
        exact sExt_ok h
      · cases h
    · cases h
end
end Go.Apex
