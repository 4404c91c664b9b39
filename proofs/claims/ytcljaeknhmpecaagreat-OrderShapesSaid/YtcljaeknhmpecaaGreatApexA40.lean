import Derived.Test.YtcljaeknhmpecaaGreatApexA38
set_option linter.all false
namespace Go.Apex
open Go
section
variable {cfg : Cfg} {ts : Ts} {hb : Rd} {rows : List Nat} {slot : Nat}
theorem binV_other {ti : TypeId -> Option TI} {op : BinOp} {xt : TypeId} {a b v : V} {e : Bool} (ha : ∀ (k : IntKind) (n : Int) (k' : IntKind) (m : Int), ¬ (a = .t (.int k n) /\ b = .t (.int k' m))) (hs : ∀ n m, ¬ (a = .t (.str n) /\ b = .t (.str m))) (he : eqV ti xt a b = some e) (hv : (op = .eql /\ v = .t (.bool e)) \/ (op = .neq /\ v = .t (.bool (!e)))) :
  binV ti op xt a b = some v := by
 unfold binV
 split
 . exact absurd ⟨rfl, rfl⟩ (ha _ _ _ _)
 . exact absurd ⟨rfl, rfl⟩ (hs _ _)
 . rcases hv with ⟨rfl, rfl⟩ | ⟨rfl, rfl⟩ <;> simp [he]
theorem sBin_ok {op : BinOp} {xt : TypeId} {x y : Operand} {v : V} (h : (sBin cfg ts op xt x y).den = some v) : qBin cfg ts op xt x y = some (v, none) := by
 unfold sBin at h
 replace h := Dt.lift_bind_some h; obtain ⟨a, ha, h⟩ := h
 replace h := Dt.lift_bind_some h; obtain ⟨b, hb, h⟩ := h
 replace h := Dt.lift_bind_some h; obtain ⟨i, hi, h⟩ := h
 have key : (nilConst x || nilConst y || !i.d.isIface) = true -> binV cfg.ti op xt a b = some v -> qBin cfg ts op xt x y = some (v, none) := by
  intro h1 h2
  simp only [qBin, ha, hb, hi, oS, Option.any_some, h1, if_true, h2, one, Option.map_some]
 split at h
 . rename_i d hd
   split at h
   . split at h
     . refine key (by simp [hd, D.isIface]) ?_
       exact sInt_ok xt h
     . cases h
   . cases h
 . rename_i hd
   split at h
   . split at h
     . refine key (by simp [hd, D.isIface]) ?_
       exact sStr_ok h
     . cases h
   . cases h
 . rename_i hd
   split at h
   . split at h
     . refine key (by simp [hd, D.isIface]) ?_
       refine binV_other (by simp) (by simp) ?_ (sBool2_ok h)
       simp only [eqV, hi, oS, hd, eqCell, bEq]
     . cases h
   . cases h
 . rename_i fs hd
   replace h := cond_den h; obtain ⟨hc, h⟩ := h
   replace h := Dt.bind_some h; obtain ⟨e, h1, h⟩ := h
   refine key (by simp [hd, D.isIface]) ?_
   refine binV_other ?_ ?_ ?_ (sBool2_ok h)
   . rintro k n k' m ⟨rfl, rfl⟩; simp [V.isAgg] at hc
   . rintro n m ⟨rfl, rfl⟩; simp [V.isAgg] at hc
   . simp only [eqV, hi, oS, hd, hc, if_true, sEqFields_ok h1]
 . rename_i hd1 hd2 hd3 hd4
   have nil : ∀ {d : D}, i.d = d -> (∃ e, d = .ptr e) \/ (∃ e, d = .slice e) \/ (∃ a b, d = .map a b) \/ d = .func \/ d = .iface -> ∀ p q : V, eqV cfg.ti xt p q = eqCell d p q := by
    intro d hd hc p q
    subst hd
    simp only [eqV, hi, oS]
   cases hy : nilConstOf i.d y with
   | true =>
    rw [hy] at h
    replace h := Dt.bind_some h; obtain ⟨e, h1, h⟩ := h
    obtain ⟨h2, h3⟩ := nilConstOf_ok (ts := ts) hy
    rw [hb] at h2
    cases h2
    have hcl : (∃ e, i.d = .ptr e) \/ (∃ e, i.d = .slice e) \/ (∃ a b, i.d = .map a b) \/ i.d = .func \/ i.d = .iface := by
     rcases h3 with h | h | h | h | ⟨h, _⟩
     . exact .inl h
     . exact .inr (.inl h)
     . exact .inr (.inr (.inl h))
     . exact .inr (.inr (.inr (.inl h)))
     . exact .inr (.inr (.inr (.inr h)))
    refine key ?_ (binV_other ?_ ?_ ((nil rfl hcl _ _).trans (sNil_ok hcl h1).1) (sBool2_ok h))
    . rcases h3 with ⟨_, h⟩ | ⟨_, h⟩ | ⟨_, _, h⟩ | h | ⟨_, h⟩ <;> simp [h, D.isIface]
    . rintro k n k' m ⟨rfl, hh⟩; rcases hcl with ⟨_, h⟩ | ⟨_, h⟩ | ⟨_, _, h⟩ | h | h <;> rw [h] at hh <;> cases hh
    . rintro n m ⟨rfl, hh⟩; rcases hcl with ⟨_, h⟩ | ⟨_, h⟩ | ⟨_, _, h⟩ | h | h <;> rw [h] at hh <;> cases hh
   | false =>
    rw [hy] at h
    simp only [cond_false] at h
    replace h := cond_den h; obtain ⟨hx, h⟩ := h
    replace h := Dt.bind_some h; obtain ⟨e, h1, h⟩ := h
    obtain ⟨h2, h3⟩ := nilConstOf_ok (ts := ts) hx
    rw [ha] at h2
    cases h2
    have hcl : (∃ e, i.d = .ptr e) \/ (∃ e, i.d = .slice e) \/ (∃ a b, i.d = .map a b) \/ i.d = .func \/ i.d = .iface := by
     rcases h3 with h | h | h | h | ⟨h, _⟩
     . exact .inl h
     . exact .inr (.inl h)
     . exact .inr (.inr (.inl h))
     . exact .inr (.inr (.inr (.inl h)))
     . exact .inr (.inr (.inr (.inr h)))
    refine key ?_ (binV_other ?_ ?_ ((nil rfl hcl _ _).trans (sNil_ok hcl h1).2) (sBool2_ok h))
    . rcases h3 with ⟨_, h⟩ | ⟨_, h⟩ | ⟨_, _, h⟩ | h | ⟨_, h⟩ <;> simp [h, D.isIface]
    . rintro k n k' m ⟨hh, rfl⟩; rcases hcl with ⟨_, h⟩ | ⟨_, h⟩ | ⟨_, _, h⟩ | h | h <;> rw [h] at hh <;> cases hh
    . rintro n m ⟨hh, rfl⟩; rcases hcl with ⟨_, h⟩ | ⟨_, h⟩ | ⟨_, _, h⟩ | h | h <;> rw [h] at hh <;> cases hh
theorem sUn_ok {op : UnOp} {a v : V} (h : (sUn op a).den = some v) : unV op a = some v := by
 unfold sUn at h
 split at h
 . split at h
   . split at h
     . cases h; rfl
     . cases h
   . split at h
     . rename_i k n
       replace h := Dt.opt_some h; obtain ⟨r, h1, h⟩ := h
       cases h
       unfold iNeg at h1
       unfold unV
       split at h1
       . rename_i k2 n2 hs
         split at h1
         . rename_i e
           cases h1
           show ((semPure (Op.unary op (.int k n))).bind ofCell).map V.t = _
           rw [hs, e]; rfl
         . cases h1
       . cases h1
     . cases h
 . cases h
theorem partV_sh (i : TI) (cs : List V) (off : Nat) : partV i cs off = shPart i.sh cs off := by
 unfold partV shPart TI.sh
 cases i.agg <;> simp
theorem partT_sh (i : TI) (cs : List T) (off : Nat) : partT i cs off = partS i.sh cs off := by
 unfold partT partS TI.sh
 cases i.agg <;> simp
theorem natEq_eq {a b : Nat} (h : natEq a b = true) : a = b := Nat.eq_of_beq_eq_true h
theorem beq_eq {a b : Nat} (h : Nat.beq a b = true) : a = b := Nat.eq_of_beq_eq_true h
theorem derefT_some {sh : Option Nat} {q x : T} (h : derefT sh q = some x) : q = .ptr x /\ x.fits sh = true := by
 unfold derefT at h
 split at h
 . split at h
   . cases h; exact ⟨rfl, by assumption⟩
   . cases h
 . cases h
theorem bind_toT {o : Option V} {x : T} (h : o.bind toT = some x) : o = some (.t x) := by
 cases o with
 | none => cases h
 | some v => cases v <;> first | (cases h; rfl) | cases h
theorem t?_some {c : C} {x : T} (h : c.t? = some x) : c = .v (.t x) := by
 cases c with
 | v y => cases y <;> simp [C.t?, toT] at h; rw [h]
 | own => cases h
theorem mapO_t? : ∀ {l : List C} {xs : List T}, mapO C.t? l = some xs -> mapO C.val? l = some (xs.map .t)
 | [], xs, h => by cases h; rfl
 | c :: l, xs, h => by
  simp only [mapO, oB, oI] at h
  obtain ⟨x, hx, ys, hys, rfl⟩ := h
  rw [t?_some hx]
  simp only [mapO, C.val?, oS, mapO_t? hys, List.map_cons]
theorem allT_mapT : ∀ xs : List T, allT (xs.map V.t) = some xs
 | [] => rfl
 | x :: r => by
  have h : mapO toT (r.map V.t) = some r := allT_mapT r
  show mapO toT (V.t x :: r.map V.t) = _
  simp only [mapO, toT, oS, h]
theorem rowC_partN {i : TI} {cs : List C} {off : Nat} {x : T} (h : rowC i.sh cs off = some x) : partN i cs off = some (.t x) := by
 unfold rowC TI.sh at h
 unfold partN
 cases hag : i.agg with
 | true =>
  simp only [hag, if_true] at h ⊢
  split at h
  . rename_i hlt
    simp only [oM] at h
    obtain ⟨xs, hxs, rfl⟩ := h
    rw [if_pos hlt, mapO_t? hxs]
    simp only [Option.map_some, mkAgg, allT_mapT]
  . cases h
 | false =>
  simp only [hag, Bool.false_eq_true, if_false] at h ⊢
  simp only [oB] at h
  obtain ⟨c, hc, hx⟩ := h
  rw [hc, t?_some hx]
  rfl
theorem sLoad_ok {imm : Bool} {t : TypeId} {a : Operand} {v : V} (h : (sLoad cfg imm ts hb rows t a).den = some v) : qLoad cfg imm ts hb t a = some (v, none) := by
 unfold sLoad at h
 replace h := Dt.lift_bind_some h; obtain ⟨i, hi, h⟩ := h
 replace h := Dt.lift_bind_some h; obtain ⟨p, hp, h⟩ := h
 simp only [qLoad, hi, hp, oS]
 split at h
 . replace h := Dt.opt_some h; obtain ⟨x, h1, h⟩ := h
   obtain ⟨y, h2, rfl⟩ := Dt.map_some h
   obtain ⟨rfl, hf⟩ := derefT_some h1
   rw [viewT_ok h2]
   simp only [focLoad, loadV, hf, if_true, one, Option.map_some, Bool.cond_self]
 . split at h
   . rename_i id gen off sh _ g e fz cs ho
     simp only [focLoad, loadV, ho, Bool.cond_self]
     cases hr : rows.contains id with
     | true =>
      rw [hr] at h
      replace h := Dt.chk_some h; obtain ⟨hg, h⟩ := h
      replace h := Dt.opt_some h; obtain ⟨x, h1, h⟩ := h
      obtain ⟨y, h2, rfl⟩ := Dt.map_some h
      rw [viewT_ok h2, if_pos (natEq_eq hg), partV_sh, bind_toT h1]
      rfl
     | false =>
      rw [hr] at h
      simp only [cond_false] at h
      replace h := cond_den h; obtain ⟨hg, h⟩ := h
      rw [Dt.den_lift] at h
      rw [if_pos (beq_eq hg), partV_sh, h]
      rfl
   . rename_i id gen off sh _ g e cs fc ho
     have base : (Dt.chk (natEq g gen) (.opt T (rowC i.sh cs off) fun x => (viewT cfg.ti t x).map .t)).den = some v -> loadV i hb (.ref id gen off sh) = some v := fun h => by
      replace h := Dt.chk_some h; obtain ⟨hg, h⟩ := h
      replace h := Dt.opt_some h; obtain ⟨x, h1, h⟩ := h
      obtain ⟨y, h2, rfl⟩ := Dt.map_some h
      simp only [loadV, ho]
      rw [viewT_ok h2, if_pos (natEq_eq hg), rowC_partN h1]
     cases imm with
     | false => rw [cond_false, base h]; rfl
     | true =>
      simp only [cond_true] at h ⊢
      cases fc with
      | none =>
       simp only [focLoad, ho]
       rw [base h]; rfl
      | some p =>
       obtain ⟨h1, h⟩ := cond_den h
       replace h := Dt.chk_some h; obtain ⟨hg, h⟩ := h
       replace h := Dt.chk_some h; obtain ⟨hp, h⟩ := h
       rw [Dt.den_lift] at h
       simp only [focLoad, ho]
       rw [if_pos ⟨natEq_eq hg, natEq_eq hp, beq_eq h1⟩, partV_sh, h]; rfl
   . cases h
 . cases h
theorem isPtrT_some {q : T} (h : isPtrT q = true) : ∃ x, q = .ptr x := by
 cases q <;> simp [isPtrT] at h
 exact ⟨_, rfl⟩
theorem sNilCheck_ok {x : Operand} {v : V} (h : (sNilCheck ts x).den = some v) : qNilCheck ts x = some (v, none) := by
 unfold sNilCheck at h
 replace h := Dt.lift_bind_some h; obtain ⟨p, hp, h⟩ := h
 simp only [qNilCheck, hp, oS]
 split at h
 . replace h := Dt.chk_some h; obtain ⟨h1, h⟩ := h
   cases h
   obtain ⟨y, rfl⟩ := isPtrT_some h1
   rfl
 . cases h; rfl
 . cases h
theorem sFieldAddr_ok {s : TypeId} {x : Operand} {f : Nat} {v : V} (h : (sFieldAddr cfg ts s x f).den = some v) : qFieldAddr cfg ts s x f = some (v, none) := by
 unfold sFieldAddr at h
 replace h := Dt.lift_bind_some h; obtain ⟨p, hp, h⟩ := h
 replace h := Dt.lift_bind_some h; obtain ⟨i, hi, h⟩ := h
 simp only [qFieldAddr, hp, oS, fieldAddrV, hi]
 split at h
 . rename_i fs hd
   simp only [hd]
   replace h := Dt.lift_bind_some h; obtain ⟨⟨t, off⟩, hf, h⟩ := h
   replace h := Dt.lift_bind_some h; obtain ⟨j, hj, h⟩ := h
   simp only [hf, hj, oS]
   have hz : Nat.beq j.size 0 = false := by
    cases hz : Nat.beq j.size 0 with
    | false => rfl
    | true => rw [hz] at h; cases h
   rw [hz] at h
   have hz' : ¬ j.size = 0 := fun e => by rw [e] at hz; cases hz
   simp only [hz', if_false]
   simp only [cond_false] at h
   split at h
   . replace h := Dt.opt_some h; obtain ⟨y, h1, h⟩ := h
     cases h
     unfold fldT at h1
     split at h1
     . simp only [oB] at h1
       obtain ⟨z, h2, h1⟩ := h1
       split at h1
       . rename_i hfit
         cases h1
         simp only [partT_sh, h2, oS, hfit, if_true, one, Option.map_some]
       . cases h1
     . cases h1
   . cases h; rfl
   . cases h
 . cases h
theorem sInd_ok {v : V} {n : Int} (h : (sInd v).den = some n) : asI v = some n := by
 unfold sInd at h
 split at h
 . split at h
   . cases h; rfl
   . cases h
 . cases h
theorem sIndexAddr_ok {t : TypeId} {x ix : Operand} {v : V} (h : (sIndexAddr cfg ts t x ix).den = some v) : qIndexAddr cfg ts t x ix = some (v, none) := by
 unfold sIndexAddr at h
 replace h := Dt.lift_bind_some h; obtain ⟨p, hp, h⟩ := h
 replace h := Dt.lift_bind_some h; obtain ⟨w, hw, h⟩ := h
 replace h := Dt.bind_some h; obtain ⟨i, hi, h⟩ := h
 replace h := Dt.lift_bind_some h; obtain ⟨u, hu, h⟩ := h
 simp only [qIndexAddr, hp, hw, oS, sInd_ok hi, indexAddrV, hu]
 split at h
 . rename_i e hd
   simp only [hd]
   replace h := Dt.lift_bind_some h; obtain ⟨j, hj, h⟩ := h
   simp only [hj, oS]
   split at h
   . replace h := Dt.opt_some h; obtain ⟨y, h1, h⟩ := h
     cases h
     unfold idxT at h1
     split at h1
     . split at h1
       . rename_i hc
         simp only [oM] at h1
         obtain ⟨z, h2, rfl⟩ := h1
         simp only [if_pos hc, h2, Option.map_some, one]
       . cases h1
     . cases h1
   . replace h := cond_den h; obtain ⟨hs, h⟩ := h
     replace h := Dt.chk_some h; obtain ⟨h1, h⟩ := h
     cases h
     have h1 := of_decide_eq_true h1
     simp only [if_pos (show _ /\ _ /\ _ from ⟨h1.1, h1.2, of_decide_eq_true hs⟩)]
     rfl
   . cases h
 . cases h
theorem sIndex_ok {t : TypeId} {x ix : Operand} {v : V} (h : (sIndex cfg ts t x ix).den = some v) : qIndex cfg ts t x ix = some (v, none) := by
 unfold sIndex at h
 replace h := Dt.lift_bind_some h; obtain ⟨p, hp, h⟩ := h
 replace h := Dt.lift_bind_some h; obtain ⟨w, hw, h⟩ := h
 replace h := Dt.bind_some h; obtain ⟨i, hi, h⟩ := h
 replace h := Dt.lift_bind_some h; obtain ⟨u, hu, h⟩ := h
 simp only [qIndex, hp, hw, oS, sInd_ok hi, indexV, hu]
 split at h
 . rename_i hd
   split at h
   . split at h
     . replace h := Dt.opt_some h; obtain ⟨b, h1, h⟩ := h
       cases h
       unfold byteAt at h1
       split at h1
       . rename_i hc
         simp only [oM] at h1
         obtain ⟨z, h2, rfl⟩ := h1
         simp only [hd, if_pos hc, h2, Option.map_some, one]
       . cases h1
     . cases h
   . cases h
 . cases h
theorem sOptInt_ok {o : Option Operand} {r : Option Int} (h : (sOptInt ts o).den = some r) : optInt ts o = some r := by
 cases o with
 | none => cases h; rfl
 | some o =>
  unfold sOptInt at h
  replace h := Dt.lift_bind_some h; obtain ⟨w, hw, h⟩ := h
  replace h := Dt.bind_some h; obtain ⟨i, hi, h⟩ := h
  cases h
  simp only [optInt, hw, oS, sInd_ok hi, Option.map_some]
theorem sSlice_ok {xt : TypeId} {x : Operand} {lo hi mx : Option Operand} {v : V} (h : (sSlice cfg ts xt x lo hi mx).den = some v) : qSlice cfg ts xt x lo hi mx = some (v, none) := by
 unfold sSlice at h
 replace h := Dt.lift_bind_some h; obtain ⟨i, hi', h⟩ := h
 replace h := Dt.lift_bind_some h; obtain ⟨p, hp, h⟩ := h
 replace h := Dt.bind_some h; obtain ⟨lo', hlo, h⟩ := h
 replace h := Dt.bind_some h; obtain ⟨hh', hhi, h⟩ := h
 replace h := Dt.bind_some h; obtain ⟨mx', hmx, h⟩ := h
 simp only [qSlice, hi', hp, oS, sOptInt_ok hlo, sOptInt_ok hhi, sOptInt_ok hmx]
 split at h
 . rename_i hd
   split at h
   . split at h
     . replace h := Dt.opt_some h; obtain ⟨r, h1, h⟩ := h
       cases h
       unfold strSub at h1
       simp only at h1
       split at h1
       . rename_i hc
         cases h1
         rw [if_pos (by simp [hd, sliceFits])]
         simp only [sliceV, Option.isNone_none, true_and]
         rw [if_pos (by simpa using hc)]
         rfl
       . cases h1
     . cases h
   . cases h
 . rename_i e hd
   replace h := Dt.lift_bind_some h; obtain ⟨j, hj, h⟩ := h
   split at h
   . replace h := Dt.opt_some h; obtain ⟨r, h1, h⟩ := h
     cases h
     unfold subT at h1
     split at h1
     . rw [if_pos (by simp [hd, sliceFits, hj])]
       split at h1
       . rename_i hc; cases h1; simp only [sliceV, if_pos hc, one, Option.map_some]
       . cases h1
     . simp only at h1
       split at h1
       . rename_i hc
         rw [if_pos (by simp [hd, sliceFits, hj, hc.1])]
         simp only [sliceV, if_pos hc.2]
         split at h1
         . cases h1; rfl
         . split at h1
           . rename_i hc2; cases h1; simp only [if_pos hc2, one, Option.map_some]
           . cases h1
       . cases h1
     . cases h1
   . replace h := cond_den h; obtain ⟨hs, h⟩ := h
     have hs := of_decide_eq_true hs
     split at h
     . replace h := Dt.chk_some h; obtain ⟨h1, h⟩ := h
       cases h
       rw [if_pos (by simp [hd, sliceFits, hj, hs])]
       have h1 := of_decide_eq_true h1
       simp only [nInt] at h1 ⊢
       simp only [sliceV, if_pos h1]
       rfl
     . cases h
   . cases h
 . cases h
theorem sLenOp_ok {d : D} {a v : V} (h : (sLenOp hb d a).den = some v) : lenV hb d a = some v := by
 unfold sLenOp at h
 split at h
 . split at h
   . split at h
     . cases h; rfl
     . cases h
   . cases h
 . split at h
   . replace h := Dt.opt_some h; obtain ⟨n, h1, h⟩ := h
     cases h
     unfold lenT at h1
     split at h1 <;> cases h1 <;> rfl
   . cases h; rfl
   . cases h
 . split at h
   . replace h := Dt.opt_some h; obtain ⟨n, h1, h⟩ := h
     cases h
     unfold mlenT at h1
     split at h1 <;> cases h1 <;> rfl
   . split at h
     . rename_i ho; cases h; simp only [lenV, mapParts, ho, Option.map_some, nInt]
     . cases h
   . cases h
 . cases h
theorem sCap_ok {d : D} {a v : V} (h : (sCap d a).den = some v) : capV d a = some v := by
 unfold sCap at h
 split at h
 . split at h
   . replace h := Dt.opt_some h; obtain ⟨n, h1, h⟩ := h
     cases h
     unfold capT at h1
     split at h1 <;> cases h1 <;> rfl
   . cases h
 . cases h
theorem sExt_ok {g : Int -> Int -> Int} {k : IntKind} : ∀ {l : List V} {a : Int} {v : V}, (sExt g k a l).den = some v -> foldMax g k a l = some v
 | [], a, v, h => by cases h; rfl
 | x :: l, a, v, h => by
  unfold sExt at h
  split at h
  . rename_i e; cases e
  . rename_i p r e
    cases e
    split at h
    . replace h := cond_den h; obtain ⟨hk, h⟩ := h
      simp only [foldMax, if_pos (of_decide_eq_true hk)]
      exact sExt_ok h
    . cases h
  . cases h
end
end Go.Apex

namespace Go.Apex
open Go
section
variable {cfg : Cfg} {ts : Ts} {hb : Rd} {rows : List Nat} {slot : Nat}
theorem vfits_t (x : T) (sh : Option Nat) : (V.t x).fits sh = x.fits sh := by
 cases sh with
 | none => rfl
 | some n =>
  simp only [V.fits, T.fits, cells_t, List.length_map, List.all_map]
  congr 1
  . congr 1
    cases x <;> rfl
theorem known1_ok {v : V} (h : known1 v = true) : v.fits none = true := by
 unfold known1 at h
 split at h
 . split at h <;> first | rfl | cases h
 . cases h
theorem fitNode_ok {i : TI} {v : V} {u : Unit} (h : (fitNode i v).den = some u) : v.fits i.sh = true := by
 have k : (known1 v && !i.agg) = true -> v.fits i.sh = true := by
  intro hk
  simp only [Bool.and_eq_true, Bool.not_eq_true'] at hk
  unfold TI.sh
  rw [hk.2]
  exact known1_ok hk.1
 unfold fitNode at h
 split at h
 . exact k (cond_den h).1
 . exact k (cond_den h).1
 . exact k (cond_den h).1
 . exact (Dt.chk_some h).1
theorem cellsI_eq {i : TI} {v : V} (h : v.fits i.sh = true) : cellsI i v = v.cells := by
 unfold cellsI
 cases hi : i.agg with
 | true => rfl
 | false =>
  have hs : i.sh = none := by unfold TI.sh; rw [hi]; rfl
  rw [hs] at h
  simp only [cond_false]
  cases v with
  | t x => cases x <;> first | rfl | cases h
  | agg cs => cases h
  | _ => rfl
theorem fitNodes_ok {i : TI} : ∀ {l : List V} {u : Unit}, (fitNodes i l).den = some u -> ∀ v ∈ l, v.fits i.sh = true
 | [], _, _, _, hv => by cases hv
 | x :: l, u, h, v, hv => by
  unfold fitNodes at h
  obtain ⟨u1, h1, h2⟩ := Dt.bind_some h
  rcases List.mem_cons.1 hv with rfl | hv
  . exact fitNode_ok h1
  . exact fitNodes_ok h2 v hv
theorem sBox_ok {imm : Bool} {e : TypeId} {x : Operand} {r : V × Option Obj} (h : (sBox cfg imm slot ts e x).den = some r) : qBox cfg imm slot ts e x = some r := by
 unfold sBox at h
 obtain ⟨i, hi, h1⟩ := Dt.lift_bind_some h
 obtain ⟨v, hv, h2⟩ := Dt.lift_bind_some h1
 obtain ⟨u, hu, h3⟩ := Dt.bind_some h2
 simp only [qBox, hi, hv, oS, fitNode_ok hu, if_true]
 split at h3
 . rename_i y hy
   cases h3
   rw [hy]
 . rename_i hy
   cases h3
   rw [hy, cellsI_eq (fitNode_ok hu)]
theorem sFill_ok {pl : Nat -> Option (Nat × TI)} {place : Nat -> Option (Nat × Option Nat)} (hp : ∀ k, place k = (pl k).map fun x => (x.1, x.2.sh)) : ∀ {ps : List (Nat × V)} {cells cs : List V}, (sFill pl cells ps).den = some cs -> fill place cells ps = some cs
 | [], cells, cs, h => by cases h; rfl
 | (k, v) :: ps, cells, cs, h => by
  unfold sFill at h
  obtain ⟨⟨off, i⟩, hi, h1⟩ := Dt.lift_bind_some h
  obtain ⟨u, hu, h2⟩ := Dt.bind_some h1
  obtain ⟨hl, h3⟩ := cond_den h2
  have := Nat.le_of_ble_eq_true hl
  simp only [cellsI_eq (fitNode_ok hu)] at this h3
  unfold fill
  rw [hp, hi]
  simp only [Option.map_some, oS, fitNode_ok hu, Bool.true_and, decide_eq_true_eq, if_pos this]
  exact sFill_ok hp h3
theorem sBuild_ok {t : TypeId} {parts : List (Nat × Operand)} {v : V} (h : (sBuild cfg ts t parts).den = some v) : qBuild cfg ts t parts = some (v, none) := by
 unfold sBuild at h
 obtain ⟨i, hi, h1⟩ := Dt.lift_bind_some h
 obtain ⟨z, hz, h2⟩ := Dt.lift_bind_some h1
 simp only [qBuild, hi, hz, oS]
 split at h2
 . rename_i fs hd
   obtain ⟨hc, h3⟩ := cond_den h2
   obtain ⟨ps, hps, h4⟩ := Dt.lift_bind_some h3
   obtain ⟨cs, hcs, h5⟩ := Dt.bind_some h4
   cases h5
   have hf : fill (fieldPlace cfg fs) (z.cells.map .t) ps = some cs := sFill_ok (fun k => by
    unfold fieldPlace fieldPlaceI
    cases fieldOf fs k with
    | none => rfl
    | some to => simp only [oS]; cases cfg.ti to.1 <;> rfl) hcs
   simp only [hd, hc, if_true, hps, oS, hf, Option.map_some]
 . cases h2
theorem sBuildSlice_ok {imm : Bool} {t : TypeId} {len : Nat} {parts : List (Nat × Operand)} {r : V × Option Obj} (h : (sBuildSlice cfg imm slot ts t len parts).den = some r) : qBuildSlice cfg imm slot ts t len parts = some r := by
 unfold sBuildSlice at h
 obtain ⟨⟨e, j⟩, hj, h1⟩ := Dt.lift_bind_some h
 obtain ⟨z, hz, h2⟩ := Dt.lift_bind_some h1
 obtain ⟨hc, h3⟩ := cond_den h2
 obtain ⟨ps, hps, h4⟩ := Dt.lift_bind_some h3
 obtain ⟨cs, hcs, h5⟩ := Dt.bind_some h4
 simp only [Bool.and_eq_true, decide_eq_true_eq] at hc
 have hf : fill (elemPlace j len) (zeros len z) ps = some cs := sFill_ok (fun k => by
  unfold elemPlace elemPlaceI
  cases hb : Nat.ble (k + 1) len with
  | true => have := Nat.le_of_ble_eq_true hb; rw [if_pos (by omega)]; rfl
  | false => rw [if_neg (fun hlt => by rw [Nat.ble_eq_true_of_le hlt] at hb; cases hb)]; rfl) hcs
 simp only at hz
 simp only [qBuildSlice, hj, hz, oS]
 rw [if_pos ⟨hc.1, hc.2.1, hc.2.2⟩]
 simp only [hps, hf, oS]
 cases imm with
 | true =>
  simp only [cond_true] at h5
  obtain ⟨es, hes, h6⟩ := Dt.lift_bind_some h5
  obtain ⟨xs, hxs, h7⟩ := Dt.lift_bind_some h6
  obtain ⟨u, hu, h8⟩ := Dt.bind_some h7
  cases h8
  have hall := fitNodes_ok hu
  have hx := allT_spec hxs
  have : immRow j cs len = some xs := by
   unfold immRow
   rw [hes]
   simp only [oS, hxs]
   rw [if_pos]
   simp only [List.all_eq_true]
   intro x hx'
   rw [<- vfits_t]
   exact hall _ (by rw [hx]; exact List.mem_map_of_mem hx')
  simp only [if_true, this]
 | false =>
  simp only [cond_false] at h5
  cases h5
  simp
theorem sMakeSlice_ok {t : TypeId} {l c : Operand} {r : V × Option Obj} (h : (sMakeSlice cfg slot ts t l c).den = some r) : qMakeSlice cfg slot ts t l c = some r := by
 unfold sMakeSlice at h
 obtain ⟨⟨e, j⟩, hj, h1⟩ := Dt.lift_bind_some h
 obtain ⟨z, hz, h2⟩ := Dt.lift_bind_some h1
 obtain ⟨lv, hlv, h3⟩ := Dt.lift_bind_some h2
 obtain ⟨n, hn, h4⟩ := Dt.bind_some h3
 obtain ⟨cv, hcv, h5⟩ := Dt.lift_bind_some h4
 obtain ⟨m, hm, h6⟩ := Dt.bind_some h5
 obtain ⟨hc, h7⟩ := cond_den h6
 obtain ⟨hk, h8⟩ := Dt.chk_some h7
 cases h8
 simp only [Bool.and_eq_true, decide_eq_true_eq] at hc
 have hk := of_decide_eq_true hk
 simp only at hz
 simp only [qMakeSlice, hj, hz, hlv, hcv, oS, sInd_ok hn, sInd_ok hm]
 rw [if_pos ⟨hc.1, hc.2, hk.1, hk.2.1, hk.2.2.1, hk.2.2.2⟩]
 rfl
theorem sConv_ok {d d' : D} {a v : V} (h : (sConv cfg d d' a).den = some v) : convV cfg d d' a = some v := by
 unfold sConv at h
 split at h
 . split at h
   . cases h; rfl
   . cases h
 . split at h
   . cases h; rfl
   . cases h
 . split at h
   . obtain ⟨u, hu, h1⟩ := Dt.lift_bind_some h
     split at h1
     . rename_i hd
       cases h1
       simp only [convV, hu, oS, hd]
       rfl
     . cases h1
   . cases h
 . cases h
theorem lookT_ok {q key : T} {zero : Option T} {p : T × Bool} (h : lookT zero q key = some p) : ∃ (ks vs : List T), mapParts hb (.t q) = some (ks, vs.map .t) ∧
  ((lookupIn ks (vs.map .t) key = some none /\ zero = some p.1 /\ p.2 = false) \/ (lookupIn ks (vs.map .t) key = some (some (.t p.1)) /\ p.2 = true)) := by
 unfold lookT at h
 split at h
 . simp only [oM] at h
   obtain ⟨z, hz, rfl⟩ := h
   exact ⟨[], [], rfl, .inl ⟨rfl, hz, rfl⟩⟩
 . rename_i ks vs
   refine ⟨ks, vs, rfl, ?_⟩
   simp only [oB] at h
   obtain ⟨r, hr, h⟩ := h
   unfold lookupIn
   rw [hr]
   cases r with
   | none =>
    simp only [oM] at h
    obtain ⟨z, hz, rfl⟩ := h
    exact .inl ⟨rfl, hz, rfl⟩
   | some i =>
    simp only [oM] at h
    obtain ⟨v, hv, rfl⟩ := h
    exact .inr ⟨by simp [hv], rfl⟩
 . cases h
theorem lookM_ok {ks : List T} {vs : List V} {key : T} {zero : Option T} {p : T × Bool} (h : lookM zero ks vs key = some p) :
  ((lookupIn ks vs key = some none /\ zero = some p.1 /\ p.2 = false) \/ (lookupIn ks vs key = some (some (.t p.1)) /\ p.2 = true)) := by
 simp only [lookM, oB] at h
 obtain ⟨r, hr, h⟩ := h
 unfold lookupIn
 rw [hr]
 cases r with
 | none =>
  simp only [oM] at h
  obtain ⟨z, hz, rfl⟩ := h
  exact .inl ⟨rfl, hz, rfl⟩
 | some i =>
  simp only [oM] at h
  obtain ⟨v, hv, rfl⟩ := h
  exact .inr ⟨by simp [bind_toT hv], rfl⟩
theorem sLookup_ok {t : TypeId} {x k : Operand} {ok : Bool} {v : V} (h : (sLookup cfg ts hb t x k ok).den = some v) : qLookup cfg ts hb t x k ok = some (v, none) := by
 unfold sLookup at h
 obtain ⟨i, hi, h1⟩ := Dt.lift_bind_some h
 simp only [qLookup, hi, oS]
 split at h1
 case h_2 => cases h1
 rename_i kt et hd
 obtain ⟨ki, hki, h2⟩ := Dt.lift_bind_some h1
 obtain ⟨ei, hei, h3⟩ := Dt.lift_bind_some h2
 obtain ⟨m, hm, h4⟩ := Dt.lift_bind_some h3
 obtain ⟨kv, hkv, h5⟩ := Dt.lift_bind_some h4
 obtain ⟨key, hkey, h6⟩ := Dt.lift_bind_some h5
 obtain ⟨hf, h7⟩ := cond_den h6
 simp only [hd, hki, hei, hm, hkv, oS, hkey, hf, if_true]
 have fin : ∀ {p : T × Bool} {ks : List T} {vs : List V}, ((viewT cfg.ti et p.1).bind fun v => .ret (cond ok (.t (.tup [v, .bool p.2])) (.t v))).den = some v →
   ((lookupIn ks vs key = some none /\ ei.zero = some p.1 /\ p.2 = false) \/ (lookupIn ks vs key = some (some (.t p.1)) /\ p.2 = true)) →
   ((lookupIn ks vs key).bind fun r => match r with
     | some v => some (if ok then mkTup [v, .t (.bool true)] else v, (none : Option Obj))
     | none => ei.zero.map fun z => (if ok then .t (.tup [z, .bool false]) else .t z, none)) = some (v, none) := by
  intro p ks vs hv hp
  obtain ⟨y, hy, hv⟩ := Dt.bind_some hv
  cases hv
  rw [viewT_ok hy]
  rcases hp with ⟨a1, a2, a3⟩ | ⟨a1, a2⟩
  . rw [a1, a2, a3]; cases ok <;> rfl
  . rw [a1, a2]; cases ok <;> rfl
 split at h7
 . rename_i q
   obtain ⟨p, hp, h8⟩ := Dt.opt_some h7
   obtain ⟨ks, vs, hm1, hm2⟩ := lookT_ok (hb := hb) hp
   rw [hm1]
   exact fin h8 hm2
 . split at h7
   . rename_i ks vs ho
     obtain ⟨p, hp, h8⟩ := Dt.opt_some h7
     simp only [mapParts, ho, oS]
     exact fin h8 (lookM_ok hp)
   . cases h7
 . cases h7
theorem mapD_ok {α β : Type} {f : α -> Dt β} {g : α -> Option β} (hf : ∀ a b, (f a).den = some b -> g a = some b) : ∀ {l : List α} {r : List β}, (mapD f l).den = some r -> mapO g l = some r
 | [], r, h => by cases h; rfl
 | a :: l, r, h => by
  unfold mapD at h
  obtain ⟨x, h1, h2⟩ := Dt.bind_some h
  obtain ⟨xs, h3, h4⟩ := Dt.bind_some h2
  cases h4
  simp only [mapO, hf _ _ h1, mapD_ok hf h3, oS]
theorem mapO_snap_t {rd : Rd} {n : Nat} : ∀ (xs : List T), mapO (snap rd (n + 1)) (xs.map .t) = some xs
 | [] => rfl
 | x :: xs => by
  have : snap rd (n + 1) (.t x) = some x := rfl
  simp only [List.map_cons, mapO, this, oS, mapO_snap_t xs]
theorem snap_msl (rd : Rd) (n id gen off len : Nat) (sh : Option Nat) : snap rd (n + 1) (.msl id gen off len sh) = (match rd id with
 | some (.cells g _ _ cs) => if g = gen then (elemsFrom sh cs off len).bind fun es => (mapO (snap rd n) es).bind fun xs => if xs.all (·.fits sh) then some (.sl false (shSize sh) xs) else none else none
 | some (.nest g _ cs none) => if g = gen then (elemsFrom sh (cs.map C.toV) off len).bind fun es => (mapO (snap rd n) es).bind fun xs => if xs.all (·.fits sh) then some (.sl false (shSize sh) xs) else none else none
 | _ => none) := rfl
theorem snap_mmp (rd : Rd) (n id : Nat) : snap rd (n + 1) (.mmp id) = (match rd id with
 | some (.map ks vs) => (mapO (snap rd n) vs).map fun xs => .mp ks xs
 | _ => none) := rfl
theorem sSnap_ok : ∀ (n : Nat) (v : V) (x : T), (sSnap hb rows n v).den = some x -> snap hb n v = some x
 | 0, _, _, h => by cases h
 | n + 1, v, x, h => by
  have ih := sSnap_ok n
  unfold sSnap at h
  cases v with
  | t y => cases h; rfl
  | ref id gen off sh =>
   simp only at h
   split at h
   . rename_i g e fz cs ho
     cases hr : rows.contains id with
     | true => rw [hr] at h; cases h
     | false =>
      rw [hr] at h
      simp only [cond_false] at h
      obtain ⟨hg, h1⟩ := cond_den h
      simp only [snap, ho, if_pos (beq_eq hg)]
      cases sh with
      | none =>
       obtain ⟨u, hu, h2⟩ := Dt.lift_bind_some h1
       obtain ⟨y, hy, h3⟩ := Dt.bind_some h2
       obtain ⟨ho, h4⟩ := Dt.chk_some h3
       cases h4
       simp only [hu, oS, ih _ _ hy, ho, if_true]
      | some k =>
       obtain ⟨hk, h2⟩ := cond_den h1
       obtain ⟨ys, hy, h3⟩ := Dt.bind_some h2
       cases h3
       simp only [if_pos (Nat.le_of_ble_eq_true hk), mapD_ok ih hy]
       rfl
   . cases h
  | msl id gen off len sh =>
   simp only at h
   split at h
   . rename_i g e fz cs ho
     cases hr : rows.contains id with
     | true =>
      rw [hr] at h
      simp only [cond_true] at h
      cases n with
      | zero => cases h
      | succ n =>
      obtain ⟨hg, h1⟩ := Dt.chk_some (show (Dt.chk (natEq g gen) _).den = some x from h)
      obtain ⟨xs, hx, h2⟩ := Dt.opt_some h1
      cases h2
      simp only [rowT, oB] at hx
      obtain ⟨es, hes, zs, hzs, hx⟩ := hx
      split at hx
      . rename_i hall
        cases hx
        rw [snap_msl]
        simp only [ho, if_pos (natEq_eq hg), hes, oS]
        rw [allT_spec hzs]
        simp only [mapO_snap_t, oS, hall, if_true]
      . cases hx
     | false =>
      rw [hr] at h
      simp only [cond_false] at h
      obtain ⟨hg, h1⟩ := cond_den h
      obtain ⟨es, hes, h2⟩ := Dt.lift_bind_some h1
      obtain ⟨xs, hx, h3⟩ := Dt.bind_some h2
      obtain ⟨hall, h4⟩ := Dt.chk_some h3
      cases h4
      simp only [snap, ho, if_pos (beq_eq hg), hes, oS, mapD_ok ih hx, hall, if_true]
   . rename_i g e cs ho
     cases n with
     | zero => cases h
     | succ n =>
     obtain ⟨hg, h1⟩ := Dt.chk_some (show (Dt.chk (natEq g gen) _).den = some x from h)
     obtain ⟨xs, hx, h2⟩ := Dt.opt_some h1
     cases h2
     simp only [nestT, rowT, oB] at hx
     obtain ⟨es, hes, zs, hzs, hx⟩ := hx
     split at hx
     . rename_i hall
       cases hx
       rw [snap_msl]
       simp only [ho, if_pos (natEq_eq hg), hes, oS]
       rw [allT_spec hzs]
       simp only [mapO_snap_t, oS, hall, if_true]
     . cases hx
   . cases h
  | mmp id =>
   simp only at h
   split at h
   . rename_i ks vs ho
     cases hr : rows.contains id with
     | true =>
      rw [hr] at h
      simp only [cond_true] at h
      cases n with
      | zero => cases h
      | succ n =>
      obtain ⟨xs, hx, h2⟩ := Dt.opt_some (show (Dt.opt (List T) (allT vs) _).den = some x from h)
      cases h2
      rw [snap_mmp]
      simp only [ho]
      rw [allT_spec hx, mapO_snap_t]
      rfl
     | false =>
      rw [hr] at h
      obtain ⟨xs, hx, h2⟩ := Dt.bind_some h
      cases h2
      simp only [snap, ho, mapD_ok ih hx, Option.map_some]
   . cases h
  | agg cs =>
   obtain ⟨xs, hx, h2⟩ := Dt.bind_some h
   cases h2
   simp only [snap, mapD_ok ih hx, Option.map_some]
  | tup cs =>
   obtain ⟨xs, hx, h2⟩ := Dt.bind_some h
   cases h2
   simp only [snap, mapD_ok ih hx, Option.map_some]
  | fn f a b =>
   obtain ⟨xs, hx, h2⟩ := Dt.bind_some h
   obtain ⟨ys, hy, h3⟩ := Dt.bind_some h2
   cases h3
   simp only [snap, mapD_ok ih hx, mapD_ok ih hy, Option.map_some, oS]
  | iface t x =>
   obtain ⟨y, hy, h2⟩ := Dt.bind_some h
   cases h2
   simp only [snap, ih _ _ hy, Option.map_some]
  | it id => cases h
  | yld id => cases h
  | junk => cases h
end
end Go.Apex
