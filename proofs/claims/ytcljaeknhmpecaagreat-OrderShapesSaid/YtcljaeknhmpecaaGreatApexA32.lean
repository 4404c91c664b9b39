import Derived.Test.YtcljaeknhmpecaaGreatApexA31
set_option linter.all false
namespace Go.Apex
open Go Go.RowKit
variable [Globs]
section
variable {cfg : Cfg} {P : Program} {K : Code -> Prop} {E : Env} {B0 : Nat -> Prop} {im : Tmp -> Bool} {base : Nat}
def loudD (cfg : Cfg) (ops : List Oper) (o : Oper) : Bool := isLoud cfg o && !freshAppend ops o
noncomputable def qRes (cfg : Cfg) (E : Env) (im : Tmp -> Bool) (ops : List Oper) (base slot : Nat) (o : Oper) (ts : Ts) (h : Heap) : Res :=
 (wantedV ops ts o).bind fun b => cond b ((quiet cfg E (immOf im o.dst) o.op slot ts (rdOf true base h)).bind (frzQ (snapAt im o) slot)) (some (undefV, none))
noncomputable def lRes (cfg : Cfg) (E : Env) (im : Tmp -> Bool) (ops : List Oper) (slot : Nat) (o : Oper) (ts : Ts) (h : Heap) : LRes :=
 (wantedV ops ts o).bind fun b => cond b ((loud cfg E o.op slot ts h).bind (frzL (snapAt im o))) (some (undefV, h))
theorem step_q {ops : List Oper} {o : Oper} (hl : loudD cfg ops o = false) (slot : Nat) (ts : Ts) (h : Heap) :
  stepOp cfg E im true ops base slot o ts h = (qRes cfg E im ops base slot o ts h).map fun r => (setDst ts o.dst r.1, putObj h slot r.2) := by
 unfold stepOp qRes
 have e : (isLoud cfg o && !quietApp true im ops o) = false := hl
 rw [e]
 cases wantedV ops ts o with
 | none => rfl
 | some b => cases b <;> rfl
theorem step_l {ops : List Oper} {o : Oper} (hl : loudD cfg ops o = true) (slot : Nat) (ts : Ts) (h : Heap) :
  stepOp cfg E im true ops base slot o ts h = (lRes cfg E im ops slot o ts h).map fun r => (setDst ts o.dst r.1, r.2) := by
 unfold stepOp lRes
 have e : (isLoud cfg o && !quietApp true im ops o) = true := hl
 rw [e]
 cases wantedV ops ts o with
 | none => rfl
 | some b => cases b <;> rfl
theorem setDst_get (ts : Ts) (d : Option Tmp) (v : V) (t : Tmp) (h : d ≠ some t) : (setDst ts d v).get t = ts.get t := by
 cases d with
 | none => rfl
 | some d => simp only [setDst]; rw [Tm.get_upd, if_neg (fun e => h (by rw [e]))]
theorem setDst_comm (ts : Ts) {dx dy : Option Tmp} (v u : V) (h : ∀ d, dx = some d -> dy ≠ some d) : setDst (setDst ts dx v) dy u = setDst (setDst ts dy u) dx v := by
 cases dx with
 | none => rfl
 | some a =>
  cases dy with
  | none => rfl
  | some b => exact Tm.upd_comm v u ts a b fun e => h a rfl (by rw [e])
theorem ev_setDst {ops : Array Oper} {y : Oper} {ts : Ts} {d : Option Tmp} {v : V} (hd : ∀ t, d = some t -> t ∉ y.looksAt ops) : ∀ x ∈ y.op.operands, ev (setDst ts d v) x = ev ts x := by
 intro x hx
 cases x with
 | tmp t =>
  refine setDst_get ts d v t fun e => hd t e ?_
  simp only [Oper.looksAt, List.mem_append, List.mem_filterMap]
  exact .inl ⟨.tmp t, by simpa using hx, rfl⟩
 | _ => rfl
theorem wanted_setDst {ops : Array Oper} {y : Oper} {ts : Ts} {d : Option Tmp} {v : V} (hd : ∀ t, d = some t -> t ∉ y.looksAt ops) : wantedV ops.toList (setDst ts d v) y = wantedV ops.toList ts y := by
 unfold wantedV
 cases hg : y.guard with
 | none => rfl
 | some g =>
  obtain ⟨j, want⟩ := g
  simp only [Array.getElem?_toList]
  cases ht : (ops[j]?).bind (·.dst) with
  | none => simp
  | some t =>
   simp only [oS]
   rw [setDst_get ts d v t fun e => hd t e (by
    simp only [Oper.looksAt, List.mem_append]
    right
    rw [hg]
    simp [ht])]
theorem rdOf_put {h : Heap} {slot : Nat} (hs : base <= slot) (ob : Option Obj) : rdOf true base (putObj h slot ob) = rdOf true base h := by
 funext id
 cases ob with
 | none => rfl
 | some o =>
  unfold rdOf putObj
  simp only [cond_true]
  cases hb : Nat.ble (Nat.succ id) base with
  | false => rfl
  | true =>
   simp only [cond_true]
   have : id < base := Nat.le_of_ble_eq_true hb
   rw [Heap.obj_set, if_neg (by omega)]
theorem putObj_comm (h : Heap) {a b : Nat} (hne : a ≠ b) (x y : Option Obj) : putObj (putObj h a x) b y = putObj (putObj h b y) a x := by
 cases x with
 | none => rfl
 | some x =>
  cases y with
  | none => rfl
  | some y =>
   simp only [putObj, Heap.set]
   rw [Tm.put_comm h.tr a b (some x) (some y) hne]
theorem qRes_congr {ops : Array Oper} {y : Oper} {ts : Ts} {h : Heap} {d : Option Tmp} {v : V} {slot s : Nat} (hd : ∀ t, d = some t -> t ∉ y.looksAt ops) (hs : base <= s) (ob : Option Obj) :
  qRes cfg E im ops.toList base slot y (setDst ts d v) (putObj h s ob) = qRes cfg E im ops.toList base slot y ts h := by
 unfold qRes
 rw [wanted_setDst hd, rdOf_put hs, quiet_congr (ev_setDst hd)]
theorem qRes_still {ops : Array Oper} {y : Oper} {ts : Ts} {h h' : Heap} {d : Option Tmp} {v : V} {slot : Nat} (hst : still cfg y.op = true) (hd : ∀ t, d = some t -> t ∉ y.looksAt ops) :
  qRes cfg E im ops.toList base slot y (setDst ts d v) h' = qRes cfg E im ops.toList base slot y ts h := by
 unfold qRes
 rw [wanted_setDst hd, quiet_congr (ev_setDst hd), still_rd hst (rdOf true base h) slot]
theorem qRes_ob {ops : List Oper} {y : Oper} {ts : Ts} {h : Heap} {slot : Nat} (hst : still cfg y.op = true) {r : V × Option Obj} (hq : qRes cfg E im ops base slot y ts h = some r) : r.2 = none := by
 unfold qRes at hq
 simp only [oB] at hq
 obtain ⟨b, _, hq⟩ := hq
 cases b with
 | true =>
  obtain ⟨v, ob⟩ := r
  simp only [cond_true, oB] at hq
  obtain ⟨⟨v0, ob0⟩, hq, hs⟩ := hq
  have h0 := still_ob hst hq
  subst h0
  rcases frzQ_some hs with ⟨_, rfl⟩ | ⟨_, _, _, _, _, _, _, _, _, h, _⟩
  . rfl
  . cases h
 | false => cases hq; rfl
theorem lRes_congr {ops : Array Oper} {y : Oper} {ts : Ts} {h : Heap} {d : Option Tmp} {v : V} {slot : Nat} (hd : ∀ t, d = some t -> t ∉ y.looksAt ops) :
  lRes cfg E im ops.toList slot y (setDst ts d v) h = lRes cfg E im ops.toList slot y ts h := by
 unfold lRes
 rw [wanted_setDst hd, loud_congr (ev_setDst hd)]
noncomputable def stepD (cfg : Cfg) (E : Env) (im : Tmp -> Bool) (pm : Option (List Nat × List Tmp)) (ops : List Oper) (base slot : Nat) (o : Oper) (ts : Ts) (h : Heap) : Option (Ts × Heap) :=
 match pm with
 | none => stepOp cfg E im true ops base slot o ts h
 | some (l, lay) => stepP cfg E im l lay ops base slot o ts h
noncomputable def qResP (cfg : Cfg) (E : Env) (im : Tmp -> Bool) (l : List Nat) (lay : List Tmp) (ops : List Oper) (base slot : Nat) (o : Oper) (ts : Ts) (h : Heap) : Res :=
 (wantedV ops ts o).bind fun b => cond b (((quiet cfg E (immOf im o.dst) o.op slot ts (rdPr l (rdOf true base h))).bind (frzQ (snapAt im o) slot)).bind fun r => cond (r.2.isNone || layOK lay o) (some r) none) (some (undefV, none))
theorem step_qP {l : List Nat} {lay : List Tmp} {ops : List Oper} {o : Oper} (hl : loudD cfg ops o = false) (slot : Nat) (ts : Ts) (h : Heap) :
  stepP cfg E im l lay ops base slot o ts h = (qResP cfg E im l lay ops base slot o ts h).map fun r => (setDst ts o.dst r.1, putObj h slot r.2) := by
 unfold stepP qResP
 have e : (isLoud cfg o && !quietApp true im ops o) = false := hl
 rw [e]
 cases wantedV ops ts o with
 | none => rfl
 | some b =>
  cases b with
  | false => rfl
  | true =>
   simp only [oS, cond_true, cond_false]
   cases (quiet cfg E (immOf im o.dst) o.op slot ts (rdPr l (rdOf true base h))).bind (frzQ (snapAt im o) slot) with
   | none => rfl
   | some r =>
    obtain ⟨v, ob⟩ := r
    simp only [oS]
    cases (ob.isNone || layOK lay o) <;> rfl
theorem prOK_rd {l : List Nat} {h h' : Heap} (hp : prOK l h h' = true) : rdPr l (rdOf true base h') = rdPr l (rdOf true base h) := by
 funext id
 unfold rdPr
 cases hc : l.contains id with
 | false => rfl
 | true =>
  have := List.all_eq_true.1 hp id (by simpa using hc)
  have := optEq_eq Obj.eqb_eq _ _ this
  unfold rdOf
  simp only [cond_true, this]
theorem appBase_congr {ts ts' : Ts} {o : Op} (H : ∀ x ∈ o.operands, ev ts x = ev ts' x) : appBase ts o = appBase ts' o := by
 unfold appBase
 split
 . rename_i c
   split
   . split
     . rename_i s r hs
       exact H s (by simp only [Op.operands, Call.operands, Array.mem_append]; exact .inr (Array.mem_toList_iff.1 (by rw [hs]; simp)))
     . rfl
   . rfl
 . rfl
theorem appNew_id {slot : Nat} {e : TypeId} {j : TI} {hb : Rd} {s x v : V} {ob : Option Obj} (hq : appendNew slot e j hb s x = some (v, ob)) : (∃ y, v = .t y) \/ ∃ g o n sh, v = .msl slot g o n sh := by
 unfold appendNew at hq
 split at hq
 . simp only [oB] at hq
   obtain ⟨es, _, hq⟩ := hq
   split at hq
   . cases hq; exact .inl ⟨_, rfl⟩
   . split at hq
     . cases hq; exact .inr ⟨_, _, _, _, rfl⟩
     . cases hq
 . simp only [oB] at hq
   obtain ⟨es, _, hq⟩ := hq
   split at hq
   . cases hq; exact .inl ⟨_, rfl⟩
   . split at hq
     . cases hq; exact .inr ⟨_, _, _, _, rfl⟩
     . cases hq
 . cases hq
theorem appFree0_rd {l : List Nat} {o : Oper} {slot : Nat} {ts : Ts} {h : Heap} (hb : base <= slot) (hf : appFree0 l ts o = true) {v : V} {h1 : Heap} (hq : (loud cfg E o.op slot ts h).bind (frzL (snapAt im o)) = some (v, h1)) : rdPr l (rdOf true base h1) = rdPr l (rdOf true base h) := by
 have key : ∃ k : Nat, (l.contains k = false \/ base <= k) /\ ∀ id, id ≠ k -> h1.obj id = h.obj id := by
  simp only [oB] at hq
  obtain ⟨⟨v0, h0⟩, hq, hz⟩ := hq
  have first : ∃ k : Nat, (l.contains k = false \/ base <= k) /\ (∀ id, id ≠ k -> h0.obj id = h.obj id) /\ ((∃ y, v0 = .t y) \/ ∃ g o n sh, v0 = .msl k g o n sh) := by
   unfold appFree0 appBase at hf
   split at hf
   all_goals rename_i hab
   . rename_i id gen off len sh
     split at hab
     . rename_i c hc
       split at hab
       . rename_i hcal
         split at hab
         . rename_i s r hs
           rw [hc] at hq
           simp only [loud, lCall, hcal, lAppend, hs] at hq
           split at hq
           . rename_i s' x t xt tr he ht
             cases he
             simp only [oB] at hq
             obtain ⟨⟨e, j⟩, _, xi, _, sv, hsv, xv, _, hq⟩ := hq
             rw [hab] at hsv
             cases hsv
             split at hq
             . cases hq
             . unfold appendV at hq
               simp only at hq
               split at hq
               . cases hq
               . simp only [oB] at hq
                 obtain ⟨es, _, hq⟩ := hq
                 refine ⟨id, .inl (by simpa using hf), ?_⟩
                 split at hq
                 . cases hq
                   exact ⟨fun _ _ => rfl, .inr ⟨_, _, _, _, rfl⟩⟩
                 . split at hq
                   . split at hq
                     . cases hq
                     . split at hq
                       . cases hq
                         exact ⟨fun q hq2 => by rw [Heap.obj_set, if_neg hq2], .inr ⟨_, _, _, _, rfl⟩⟩
                       . split at hq
                         . cases hq
                           exact ⟨fun q hq2 => by rw [Heap.obj_set, if_neg hq2], .inr ⟨_, _, _, _, rfl⟩⟩
                         . cases hq
                   . cases hq
           . cases hq
         . cases hab
       . cases hab
     . cases hab
   . rename_i q
     split at hab
     . rename_i c hc
       split at hab
       . rename_i hcal
         split at hab
         . rename_i s r hs
           rw [hc] at hq
           simp only [loud, lCall, hcal, lAppend, hs] at hq
           split at hq
           . rename_i s' x t xt tr he ht
             cases he
             simp only [oB] at hq
             obtain ⟨⟨e, j⟩, _, xi, _, sv, hsv, xv, _, hq⟩ := hq
             rw [hab] at hsv
             cases hsv
             split at hq
             . cases hq
             . unfold appendV at hq
               simp only [oM] at hq
               obtain ⟨⟨v2, ob⟩, hn, hq⟩ := hq
               refine ⟨slot, .inr hb, ?_⟩
               have hid := appNew_id hn
               cases ob with
               | none => cases hq; exact ⟨fun _ _ => rfl, hid⟩
               | some ob => cases hq; exact ⟨fun q hq2 => by rw [Heap.obj_set, if_neg hq2], hid⟩
           . cases hq
         . cases hab
       . cases hab
     . cases hab
   . cases hf
  obtain ⟨k, hk, hsame, hv⟩ := first
  refine ⟨k, hk, fun id hid => ?_⟩
  cases hsn : snapAt im o with
  | false =>
   rw [hsn] at hz
   cases hz
   exact hsame id hid
  | true =>
   rw [hsn] at hz
   simp only [frzL, cond_true] at hz
   rcases hv with ⟨y, rfl⟩ | ⟨g, of, n, sh, rfl⟩
   . simp only at hz
     cases hz
     exact hsame id hid
   . simp only at hz
     split at hz
     . split at hz
       . simp only [oM] at hz
         obtain ⟨x, _, hz⟩ := hz
         cases hz
         rw [Heap.obj_set, if_neg hid]
         exact hsame id hid
       . cases hz
     . cases hz
 obtain ⟨k, hk, hsame⟩ := key
 funext id
 unfold rdPr rdOf
 simp only [cond_true]
 by_cases e : id = k
 . subst e
   rcases hk with hk | hk
   . rw [hk]; rfl
   . have : Nat.ble (Nat.succ id) base = false := by
      cases hb2 : Nat.ble (Nat.succ id) base with
      | false => rfl
      | true => have := Nat.le_of_ble_eq_true hb2; omega
     rw [this]
     rfl
 . rw [hsame id e]
theorem appFree_congr {l : List Nat} {ts ts' : Ts} {o : Oper} (H : ∀ x ∈ o.op.operands, ev ts x = ev ts' x) : appFree l ts o = appFree l ts' o := by
 unfold appFree appFree0 stFree
 rw [appBase_congr H]
 congr 1
 split
 . rename_i t a x ho
   rw [H a (by rw [ho]; simp [Op.operands])]
 . rfl
theorem stFree_rd {l : List Nat} {o : Oper} {slot : Nat} {ts : Ts} {h : Heap} (hf : stFree l ts o = true) {v : V} {h1 : Heap} (hq : (loud cfg E o.op slot ts h).bind (frzL (snapAt im o)) = some (v, h1)) : rdPr l (rdOf true base h1) = rdPr l (rdOf true base h) := by
 unfold stFree at hf
 split at hf
 . rename_i t a x ho
   split at hf
   . rename_i id gen off sh ha
     have hsn : snapAt im o = false := by unfold snapAt; rw [ho]; rfl
     rw [hsn] at hq
     simp only [oB] at hq
     obtain ⟨⟨v0, h0⟩, hq, hz⟩ := hq
     cases hz
     rw [ho] at hq
     simp only [loud, lStore, oB] at hq
     obtain ⟨i, _, p, hp, u, _, hq⟩ := hq
     rw [ha] at hp
     cases hp
     have same : ∀ i, i ≠ id -> h1.obj i = h.obj i := by
      simp only at hq
      split at hq
      . split at hq
        . cases hq; exact fun i hi => by rw [Heap.obj_set, if_neg hi]
        . cases hq
      . split at hq
        . simp only [oB] at hq
          obtain ⟨b, _, hq⟩ := hq
          cases hq; exact fun i hi => by rw [Heap.obj_set, if_neg hi]
        . cases hq
      . cases hq
     funext i
     unfold rdPr rdOf
     simp only [cond_true]
     by_cases e : i = id
     . subst e
       have : l.contains i = false := by simpa using hf
       rw [this]; rfl
     . rw [same i e]
   . cases hf
 . cases hf
theorem appFree_rd {l : List Nat} {o : Oper} {slot : Nat} {ts : Ts} {h : Heap} (hb : base <= slot) (hf : appFree l ts o = true) {v : V} {h1 : Heap} (hq : (loud cfg E o.op slot ts h).bind (frzL (snapAt im o)) = some (v, h1)) : rdPr l (rdOf true base h1) = rdPr l (rdOf true base h) := by
 unfold appFree at hf
 simp only [Bool.or_eq_true] at hf
 exact hf.elim (fun h => appFree0_rd hb h hq) fun h => stFree_rd h hq
theorem qResP_congr {ops : Array Oper} {y : Oper} {ts : Ts} {l : List Nat} {lay : List Tmp} {h h' : Heap} {d : Option Tmp} {v : V} {slot : Nat} (hd : ∀ t, d = some t -> t ∉ y.looksAt ops) (hr : rdPr l (rdOf true base h') = rdPr l (rdOf true base h)) :
  qResP cfg E im l lay ops.toList base slot y (setDst ts d v) h' = qResP cfg E im l lay ops.toList base slot y ts h := by
 unfold qResP
 rw [wanted_setDst hd, quiet_congr (ev_setDst hd), hr]
theorem qResP_ob {l : List Nat} {lay : List Tmp} {ops : List Oper} {y : Oper} {ts : Ts} {h : Heap} {slot : Nat} (hst : layOK lay y = false \/ still cfg y.op = true) {r : V × Option Obj} (hq : qResP cfg E im l lay ops base slot y ts h = some r) : r.2 = none := by
 unfold qResP at hq
 simp only [oB] at hq
 obtain ⟨b, _, hq⟩ := hq
 cases b with
 | true =>
  simp only [cond_true, oB] at hq
  obtain ⟨⟨v, ob⟩, ⟨⟨v0, ob0⟩, hq, hs⟩, hc⟩ := hq
  rcases hst with hst | hst
  . rw [hst] at hc
    cases ob with
    | none => cases hc; rfl
    | some o => cases hc
  . have h0 := still_ob hst hq
    subst h0
    have : ob = none := by
     rcases frzQ_some hs with ⟨_, rfl⟩ | ⟨_, _, _, _, _, _, _, _, _, h, _⟩
     . rfl
     . cases h
    subst this
    cases hc
    rfl
 | false => cases hq; rfl
def commKind (cfg : Cfg) (pm : Option (List Tmp)) (ops : List Oper) (x y : Oper) : Bool :=
 match loudD cfg ops x, loudD cfg ops y with
 | false, false => true
 | false, true => (match pm with | some lay => guardD lay y && !layOK lay x | none => false) || still cfg x.op
 | true, false => (match pm with | some lay => guardD lay x && !layOK lay y | none => false) || still cfg y.op
 | true, true => false
theorem comm_step {ops : Array Oper} {x y : Oper} (hap : x.apart ops y = true) (hk : commKind cfg none ops.toList x y = true) {sx sy : Nat} (hsx : base <= sx) (hsy : base <= sy) (hne : sx ≠ sy) {ts : Ts} {h : Heap} {r : Ts × Heap}
  (hq : ((stepOp cfg E im true ops.toList base sx x ts h).bind fun p => stepOp cfg E im true ops.toList base sy y p.1 p.2) = some r) :
  ((stepOp cfg E im true ops.toList base sy y ts h).bind fun p => stepOp cfg E im true ops.toList base sx x p.1 p.2) = some r := by
 obtain ⟨a1, a2, a3⟩ := Oper.apart_spec hap
 simp only [oB] at hq ⊢
 obtain ⟨⟨ts1, h1⟩, hx, hy⟩ := hq
 cases lx : loudD cfg ops.toList x <;> cases ly : loudD cfg ops.toList y
 . rw [step_q lx, oM] at hx
   obtain ⟨⟨vx, ox⟩, hx, e1⟩ := hx
   obtain ⟨rfl, rfl⟩ := Prod.mk.inj e1
   rw [step_q ly, oM] at hy
   obtain ⟨⟨vy, oy⟩, hy, rfl⟩ := hy
   rw [qRes_congr a1 hsx] at hy
   refine ⟨_, by rw [step_q ly, hy]; rfl, ?_⟩
   simp only
   rw [step_q lx, qRes_congr a3 hsy, hx]
   simp only [Option.map_some, oI, Prod.mk.injEq]
   exact ⟨(setDst_comm ts vx vy a2).symm, (putObj_comm h hne ox oy).symm⟩
 . have hst : still cfg x.op = true := by simpa [commKind, lx, ly] using hk
   rw [step_q lx, oM] at hx
   obtain ⟨⟨vx, ox⟩, hx, e1⟩ := hx
   have hox := qRes_ob hst hx
   simp only at hox
   subst hox
   obtain ⟨rfl, rfl⟩ := Prod.mk.inj e1
   rw [step_l ly, oM] at hy
   obtain ⟨⟨vy, h2⟩, hy, rfl⟩ := hy
   rw [lRes_congr a1] at hy
   refine ⟨_, by rw [step_l ly]; exact congrArg _ hy, ?_⟩
   simp only
   rw [step_q lx, qRes_still (h := h) hst a3, hx]
   simp only [Option.map_some, oI, Prod.mk.injEq]
   exact ⟨(setDst_comm ts vx vy a2).symm, by first | trivial | rfl⟩
 . have hst : still cfg y.op = true := by simpa [commKind, lx, ly] using hk
   rw [step_l lx, oM] at hx
   obtain ⟨⟨vx, h2⟩, hx, e1⟩ := hx
   obtain ⟨rfl, rfl⟩ := Prod.mk.inj e1
   rw [step_q ly, oM] at hy
   obtain ⟨⟨vy, oy⟩, hy, rfl⟩ := hy
   rw [qRes_still (h := h) hst a1] at hy
   have hoy := qRes_ob hst hy
   simp only at hoy
   subst hoy
   refine ⟨_, by rw [step_q ly, hy]; rfl, ?_⟩
   simp only [putObj]
   rw [step_l lx, lRes_congr a3, hx]
   simp only [Option.map_some, oI, Prod.mk.injEq]
   exact ⟨(setDst_comm ts vx vy a2).symm, by first | trivial | rfl⟩
 . simp [commKind, lx, ly] at hk
theorem comm_stepP {l : List Nat} {lay : List Tmp} {ops : Array Oper} {x y : Oper} (hap : x.apart ops y = true) (hk : commKind cfg (some lay) ops.toList x y = true) {sx sy : Nat} (hsx : base <= sx) (hsy : base <= sy) (hne : sx ≠ sy) {ts : Ts} {h : Heap} {r : Ts × Heap}
  (hq : ((stepP cfg E im l lay ops.toList base sx x ts h).bind fun p => stepP cfg E im l lay ops.toList base sy y p.1 p.2) = some r) :
  ((stepP cfg E im l lay ops.toList base sy y ts h).bind fun p => stepP cfg E im l lay ops.toList base sx x p.1 p.2) = some r := by
 obtain ⟨a1, a2, a3⟩ := Oper.apart_spec hap
 have lstep : ∀ {o : Oper} (_ : loudD cfg ops.toList o = true) {slot : Nat} (_ : base <= slot) {ts : Ts} {h : Heap} {p : Ts × Heap}, stepP cfg E im l lay ops.toList base slot o ts h = some p →
   ∃ v, lRes cfg E im ops.toList slot o ts h = some (v, p.2) /\ p.1 = setDst ts o.dst v /\ (guardD lay o = true -> rdPr l (rdOf true base p.2) = rdPr l (rdOf true base h)) /\ (wantedV ops.toList ts o = some true -> (!guardD lay o || appFree l ts o || prOK l h p.2) = true) := by
  intro o lo slot hslot ts h p hs
  unfold stepP at hs
  have e : (isLoud cfg o && !quietApp true im ops.toList o) = true := lo
  rw [e] at hs
  simp only [oB] at hs
  obtain ⟨b, hw, hs⟩ := hs
  unfold lRes
  rw [hw]
  cases b with
  | false =>
   cases hs
   exact ⟨undefV, rfl, rfl, fun _ => rfl, fun h => by cases h⟩
  | true =>
   simp only [cond_true, oB] at hs
   obtain ⟨⟨v, h1⟩, h2, hs⟩ := hs
   cases hp : (!guardD lay o || appFree l ts o || prOK l h h1) <;> simp only [hp, cond_true, cond_false] at hs
   . cases hs
   cases hs
   refine ⟨v, by simpa only [oS, cond_true] using oB.2 h2, rfl, fun hg => ?_, fun _ => hp⟩
   cases hf : appFree l ts o with
   | true => exact appFree_rd hslot hf (oB.2 h2)
   | false => exact prOK_rd (by simpa [hg, hf] using hp)
 have kx : ∀ {o y : Oper} (_ : guardD lay y = true \/ still cfg o.op = true) {d : Option Tmp} {v : V} {slot : Nat} {ts : Ts} {h h' : Heap} (_ : ∀ t, d = some t -> t ∉ o.looksAt ops) (_ : guardD lay y = true -> rdPr l (rdOf true base h') = rdPr l (rdOf true base h)),
   qResP cfg E im l lay ops.toList base slot o (setDst ts d v) h' = qResP cfg E im l lay ops.toList base slot o ts h := by
  intro o y hk d v slot ts h h' hd he
  rcases hk with hk | hk
  . exact qResP_congr hd (he hk)
  . unfold qResP
    rw [wanted_setDst hd, quiet_congr (ev_setDst hd), still_rd hk (rdPr l (rdOf true base h)) slot]
 have lback : ∀ {o : Oper} (_ : loudD cfg ops.toList o = true) {slot : Nat} {ts : Ts} {h h1 : Heap} {v : V}, lRes cfg E im ops.toList slot o ts h = some (v, h1) -> (wantedV ops.toList ts o = some true -> (!guardD lay o || appFree l ts o || prOK l h h1) = true) →
   stepP cfg E im l lay ops.toList base slot o ts h = some (setDst ts o.dst v, h1) := by
  intro o lo slot ts h h1 v hr hp
  unfold stepP
  have e : (isLoud cfg o && !quietApp true im ops.toList o) = true := lo
  rw [e]
  unfold lRes at hr
  simp only [oB] at hr ⊢
  obtain ⟨b, hw, hr⟩ := hr
  refine ⟨b, hw, ?_⟩
  cases b with
  | false => cases hr; rfl
  | true =>
   simp only [cond_true] at hr ⊢
   rw [hr]
   simp only [oS, hp hw, cond_true]
 simp only [oB] at hq ⊢
 obtain ⟨⟨ts1, h1⟩, hx, hy⟩ := hq
 simp only at hy
 have hput : ∀ (h : Heap) {s : Nat} (_ : base <= s) (ob : Option Obj), rdPr l (rdOf true base (putObj h s ob)) = rdPr l (rdOf true base h) := fun h s hs ob => by rw [rdOf_put hs]
 cases lx : loudD cfg ops.toList x <;> cases ly : loudD cfg ops.toList y
 . rw [step_qP lx, oM] at hx
   obtain ⟨⟨vx, ox⟩, hx, e1⟩ := hx
   obtain ⟨rfl, rfl⟩ := Prod.mk.inj e1
   rw [step_qP ly, oM] at hy
   obtain ⟨⟨vy, oy⟩, hy, rfl⟩ := hy
   rw [qResP_congr a1 (hput h hsx ox)] at hy
   refine ⟨_, by rw [step_qP ly, hy]; rfl, ?_⟩
   simp only
   rw [step_qP lx, qResP_congr a3 (hput h hsy oy), hx]
   simp only [Option.map_some, oI, Prod.mk.injEq]
   exact ⟨(setDst_comm ts vx vy a2).symm, (putObj_comm h hne ox oy).symm⟩
 . have hkk : (guardD lay y = true /\ layOK lay x = false) \/ still cfg x.op = true := by simpa [commKind, lx, ly] using hk
   rw [step_qP lx, oM] at hx
   obtain ⟨⟨vx, ox⟩, hx, e1⟩ := hx
   have hox := qResP_ob (hkk.imp And.right fun h => h) hx
   simp only at hox
   subst hox
   obtain ⟨rfl, rfl⟩ := Prod.mk.inj e1
   simp only [putObj] at hy
   obtain ⟨vy, hly, e2, e3, hp⟩ := lstep ly hsy hy
   clear hy
   rw [lRes_congr a1] at hly
   rw [wanted_setDst a1] at hp
   rw [show appFree l (setDst ts x.dst vx) y = appFree l ts y from appFree_congr (ev_setDst a1)] at hp
   refine ⟨_, lback ly hly hp, ?_⟩
   simp only
   rw [step_qP lx, (kx (hkk.imp And.left fun h => h) a3 e3), hx]
   obtain ⟨r1, r2⟩ := r
   simp only at e2
   subst e2
   simp only [Option.map_some, oI, Prod.mk.injEq, putObj]
   exact ⟨(setDst_comm ts vx vy a2).symm, by first | trivial | rfl⟩
 . have hkk : (guardD lay x = true /\ layOK lay y = false) \/ still cfg y.op = true := by simpa [commKind, lx, ly] using hk
   obtain ⟨vx, hlx, e2, e3, hp⟩ := lstep lx hsx hx
   clear hx
   simp only at e2 e3 hlx hp
   subst e2
   rw [step_qP ly, oM] at hy
   obtain ⟨⟨vy, oy⟩, hy, rfl⟩ := hy
   rw [kx (hkk.imp And.left fun h => h) a1 e3] at hy
   have hoy := qResP_ob (hkk.imp And.right fun h => h) hy
   simp only at hoy
   subst hoy
   refine ⟨_, by rw [step_qP ly, hy]; rfl, ?_⟩
   simp only [putObj]
   rw [<- lRes_congr a3 (v := vy)] at hlx
   rw [<- wanted_setDst a3 (v := vy)] at hp
   rw [show appFree l ts x = appFree l (setDst ts y.dst vy) x from (appFree_congr (ev_setDst a3)).symm] at hp
   rw [lback lx hlx hp]
   simp only [oI, Prod.mk.injEq]
   exact ⟨(setDst_comm ts vx vy a2).symm, by first | trivial | rfl⟩
 . simp [commKind, lx, ly] at hk
end
end Go.Apex
