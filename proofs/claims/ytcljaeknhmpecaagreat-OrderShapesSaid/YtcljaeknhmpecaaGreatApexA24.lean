import Derived.Test.YtcljaeknhmpecaaGreatApexA23
set_option linter.all false
namespace Go.Apex
open Go Go.RowKit
variable [Globs]
section
variable {cfg : Cfg} {P : Program} {B0 : Nat -> Prop} {n0 : Nat -> Prop} {w : World} {S : Nat -> Prop} {M : MM} {h : Heap} {ts : Ts} {slot : Nat}
theorem appendNew_ob {e : TypeId} {j : TI} {hb : Rd} {s x v : V} {ob : Obj} (hq : appendNew slot e j hb s x = some (v, some ob)) : ob.isLoop = false := by
 unfold appendNew at hq
 split at hq
 . simp only [oB] at hq
   obtain ⟨es, _, hq⟩ := hq
   split at hq
   . cases hq
   . split at hq
     . cases hq; rfl
     . cases hq
 . simp only [oB] at hq
   obtain ⟨es, _, hq⟩ := hq
   split at hq
   . cases hq
   . split at hq
     . cases hq; rfl
     . cases hq
 . cases hq
theorem one_ob {x : Option V} {v : V} {ob : Obj} (hq : one x = some (v, some ob)) : False := by
 have := (one_some hq).2
 cases this
theorem quiet_ob {E : Env} {imm : Bool} {o : Op} {rd : Rd} {v : V} {ob : Obj} (hq : quiet cfg E imm o slot ts rd = some (v, some ob)) : ob.isLoop = false := by
 cases o <;> simp only [quiet] at hq <;> try (cases hq; done)
 case move => exact (one_ob hq).elim
 case assign => exact (one_ob hq).elim
 case pick =>
  simp only [qPick, oB] at hq
  obtain ⟨_, _, hq⟩ := hq
  split at hq
  . exact (one_ob hq).elim
  . exact (one_ob hq).elim
  . cases hq
 case alloc =>
  simp only [qAlloc, oB] at hq
  obtain ⟨_, _, _, _, hq⟩ := hq
  split at hq
  . cases hq; rfl
  . cases hq
 case box =>
  simp only [qBox, oB] at hq
  obtain ⟨_, _, _, _, hq⟩ := hq
  split at hq
  . split at hq
    . cases hq
    . cases hq; rfl
  . cases hq
 case build =>
  simp only [qBuild, oB] at hq
  obtain ⟨_, _, _, _, hq⟩ := hq
  split at hq
  . split at hq
    . simp only [oB, oM] at hq
      obtain ⟨_, _, _, _, hq⟩ := hq
      cases hq
    . cases hq
  . cases hq
 case buildSlice =>
  simp only [qBuildSlice, oB] at hq
  obtain ⟨_, _, _, _, hq⟩ := hq
  split at hq
  . simp only [oB] at hq
    obtain ⟨_, _, _, _, hq⟩ := hq
    split at hq
    . cases hq
    . cases hq; rfl
  . cases hq
 case load => exact (one_ob hq).elim
 case nilCheck =>
  simp only [qNilCheck, oB] at hq
  obtain ⟨_, _, hq⟩ := hq
  split at hq <;> cases hq
 case binOp =>
  simp only [qBin, oB] at hq
  obtain ⟨_, _, _, _, hq⟩ := hq
  split at hq
  . exact (one_ob hq).elim
  . cases hq
 case unOp => exact (one_ob hq).elim
 case convert =>
  simp only [qConvert, oB] at hq
  obtain ⟨_, _, _, _, _, _, hq⟩ := hq
  exact (one_ob hq).elim
 case makeInterface =>
  simp only [qMakeInterface, oB] at hq
  obtain ⟨_, _, _, _, hq⟩ := hq
  split at hq <;> cases hq
 case makeFunc =>
  simp only [qMakeFunc, oB, oM] at hq
  obtain ⟨_, _, _, _, hq⟩ := hq
  cases hq
 case makeMap =>
  simp only [qMakeMap, oB] at hq
  obtain ⟨_, _, hq⟩ := hq
  split at hq
  . split at hq
    . cases hq; rfl
    . simp only [oM] at hq
      obtain ⟨_, _, hq⟩ := hq
      cases hq; rfl
  . cases hq
 case makeSlice =>
  simp only [qMakeSlice, oB] at hq
  obtain ⟨_, _, _, _, _, _, _, _, hq⟩ := hq
  split at hq
  . cases hq; rfl
  . cases hq
 case slice =>
  simp only [qSlice, oB] at hq
  obtain ⟨_, _, _, _, _, _, _, _, _, _, hq⟩ := hq
  split at hq
  . exact (one_ob hq).elim
  . cases hq
 case fieldAddr => exact (one_ob hq).elim
 case field => exact (one_ob hq).elim
 case indexAddr => exact (one_ob hq).elim
 case index => exact (one_ob hq).elim
 case lookup =>
  simp only [qLookup, oB] at hq
  obtain ⟨_, _, hq⟩ := hq
  split at hq
  . simp only [oB] at hq
    obtain ⟨_, _, _, _, _, _, _, _, hq⟩ := hq
    split at hq
    . simp only [oB] at hq
      obtain ⟨_, _, _, _, hq⟩ := hq
      split at hq
      . cases hq
      . simp only [oM] at hq
        obtain ⟨_, _, hq⟩ := hq
        cases hq
    . cases hq
  . cases hq
 case extract =>
  simp only [qExtract, oB] at hq
  obtain ⟨_, _, hq⟩ := hq
  split at hq
  . simp only [oM] at hq
    obtain ⟨_, _, hq⟩ := hq
    cases hq
  . simp only [oM] at hq
    obtain ⟨_, _, hq⟩ := hq
    cases hq
  . cases hq
 case range =>
  simp only [qRange, oB] at hq
  obtain ⟨_, _, hq⟩ := hq
  split at hq
  . simp only [oB] at hq
    obtain ⟨_, _, hq⟩ := hq
    split at hq
    . cases hq; rfl
    . cases hq
  . simp only [oB] at hq
    obtain ⟨_, _, hq⟩ := hq
    split at hq
    . cases hq; rfl
    . cases hq
  . cases hq
 case entry =>
  simp only [qEntry, oB] at hq
  obtain ⟨_, _, hq⟩ := hq
  split at hq <;> cases hq
 case call c =>
  unfold qCall at hq
  split at hq
  . unfold qBuiltin at hq
    split at hq
    . unfold arg1 at hq
      split at hq
      . exact (one_ob hq).elim
      . cases hq
    . unfold arg1 at hq
      split at hq
      . exact (one_ob hq).elim
      . cases hq
    . unfold arg1 at hq
      split at hq
      . exact (one_ob hq).elim
      . cases hq
    . exact (one_ob hq).elim
    . exact (one_ob hq).elim
    . unfold qAppend at hq
      split at hq
      . simp only [oB] at hq
        obtain ⟨_, _, _, _, _, _, _, _, hq⟩ := hq
        split at hq
        . cases hq
        . exact appendNew_ob hq
      . cases hq
    . cases hq
  . simp only [oB] at hq
    obtain ⟨_, _, hq⟩ := hq
    have fr : ∀ {f : FuncId} {vs : List V}, freshCall E slot f vs rd = some (v, some ob) -> ob.isLoop = false := by
     intro f vs hq
     have key : ∀ {flat : Bool} {v0 : V} {h0 : Heap}, adopt slot flat v0 h0 = some (v, some ob) -> ob.isLoop = false := by
      intro flat v0 h0 ha
      unfold adopt at ha
      split at ha
      . split at ha
        . cases ha
        . split at ha
          . cases ha
          . cases ha
      . split at ha
        . simp only [oB] at ha
          obtain ⟨_, _, ha⟩ := ha
          split at ha
          . cases ha; rfl
          . cases ha
        . cases ha
      . split at ha
        . simp only [oM] at ha
          obtain ⟨⟨p1, p2⟩, ha, hp⟩ := ha
          cases hp
          obtain ⟨_, _, _, _, _, _, _, _, _, _, _, _, hob, _⟩ := adoptAt_spec ha
          cases hob; rfl
        . cases ha
      . cases ha
     unfold freshCall at hq
     split at hq
     . simp only [oB] at hq
       obtain ⟨_, _, hq⟩ := hq
       exact key hq
     . simp only [oB] at hq
       obtain ⟨_, _, _, _, hq⟩ := hq
       exact key hq
    split at hq
    . exact fr hq
    . generalize twinAt cfg imm _ = tw at hq
      cases tw with
      | true => exact fr hq
      | false => exact (one_ob hq).elim
  . cases hq
theorem put_good {K : Code -> Prop} {ob : Option Obj} (hn : ∀ o, ob = some o -> o.isLoop = false) : Good K h (putObj h slot ob) := by
 cases ob with
 | none => exact .refl _ _
 | some o => exact .set (hn o rfl)
theorem appendV_good {K : Code -> Prop} {e : TypeId} {j : TI} {rd : Rd} {s x v : V} {h' : Heap} (hq : appendV slot e j h rd s x = some (v, h')) : Good K h h' := by
 unfold appendV at hq
 split at hq
 . split at hq
   . cases hq
   . simp only [oB] at hq
     obtain ⟨es, _, hq⟩ := hq
     split at hq
     . cases hq; exact .refl _ _
     . split at hq
       . split at hq
         . cases hq
         . split at hq
           . cases hq; exact .set rfl
           . split at hq
             . cases hq; exact .set rfl
             . cases hq
       . cases hq
 . simp only [oM] at hq
   obtain ⟨⟨v0, ob⟩, ha, hq⟩ := hq
   cases ob with
   | none => cases hq; exact .refl _ _
   | some ob => cases hq; exact .set (appendNew_ob ha)
theorem loud_good {K : Code -> Prop} {E : Env} (hE : EnvOK K P E) {o : Op} {v : V} {h' : Heap} (hq : loud cfg E o slot ts h = some (v, h')) : Good K h h' := by
 have upd : ∀ {t m k x}, lMapUpdate cfg ts h t m k x = some (v, h') -> Good K h h' := by
  intro t m k x hq
  simp only [lMapUpdate, oB] at hq
  obtain ⟨i, _, hq⟩ := hq
  split at hq
  case h_2 => cases hq
  simp only [oB] at hq
  obtain ⟨_, _, _, _, _, _, _, _, hq⟩ := hq
  split at hq
  case isFalse => cases hq
  split at hq
  case h_2 => cases hq
  split at hq
  case h_2 => cases hq
  simp only [oB] at hq
  obtain ⟨r, _, hq⟩ := hq
  cases r <;> cases hq <;> exact .set rfl
 cases o <;> simp only [loud] at hq <;> try (cases hq; done)
 case store t a x =>
  unfold lStore at hq
  simp only [oB] at hq
  obtain ⟨_, _, _, _, _, _, hq⟩ := hq
  split at hq
  case h_2 => cases hq
  split at hq
  case h_3 => cases hq
  . split at hq
    . cases hq; exact .set rfl
    . cases hq
  . split at hq
    . simp only [oB] at hq
      obtain ⟨_, _, hq⟩ := hq
      cases hq; exact .set rfl
    . cases hq
 case mapUpdate t m k x => exact upd hq
 case next x s =>
  cases s with
  | false => cases hq
  | true =>
   simp only [cond_true, lNext, oB] at hq
   obtain ⟨_, _, hq⟩ := hq
   split at hq
   case h_2 => cases hq
   split at hq
   case h_2 => cases hq
   cases hc : Nat.ble _ _ <;> rw [hc] at hq <;> simp only [cond_true, cond_false, oI, Prod.mk.injEq] at hq <;> obtain ⟨rfl, rfl⟩ := hq
   . exact .refl _ _
   . exact Good.set rfl
 case insert t m k x => exact upd hq
 case call c =>
  unfold lCall at hq
  split at hq
  . unfold lAppend at hq
    split at hq
    case h_2 => cases hq
    simp only [oB] at hq
    obtain ⟨_, _, _, _, _, _, _, _, hq⟩ := hq
    split at hq
    . cases hq
    . exact appendV_good hq
  . unfold lClear at hq
    split at hq
    case h_2 => cases hq
    simp only [oB] at hq
    obtain ⟨_, _, _, _, _, _, hq⟩ := hq
    split at hq
    . cases hq; exact .refl _ _
    . cases hq; exact .refl _ _
    . split at hq
      . cases hq
      . split at hq
        . split at hq
          . cases hq; exact .set rfl
          . cases hq
        . cases hq
    . cases hq
  . unfold lUString at hq
    split at hq
    case h_2 => cases hq
    simp only [oB] at hq
    obtain ⟨_, _, hq⟩ := hq
    split at hq
    case h_2 => cases hq
    simp only [oB] at hq
    obtain ⟨_, _, _, _, _, _, hq⟩ := hq
    split at hq
    case h_2 => cases hq
    split at hq
    case isFalse => cases hq
    unfold uString at hq
    split at hq
    . split at hq
      . cases hq; exact .refl _ _
      . cases hq
    . split at hq
      case h_2 => cases hq
      split at hq
      case isFalse => cases hq
      simp only [oM] at hq
      obtain ⟨_, _, hq⟩ := hq
      cases hq
      exact .set rfl
    . cases hq
  . cases hq
  . simp only [oB] at hq
    obtain ⟨_, _, _, _, _, _, hq⟩ := hq
    exact doCall_good hE hq
  . cases hq
theorem op_wp {K : Code -> Prop} {E : Env} (hE : EnvOK K P E) (c : CfgTI cfg P) {a : Act} (hk : HeapOK K h) (I : Inv B0 w S M h) (ht : RepTs w S M ts a.tmps) (hsl : M slot = none) (hs2 : slot < h.next) {o : Oper} {rd : Rd} (hrd : ∀ id o, rd id = some o -> h.obj id = some o) {imm : Bool}
  {ts' : Ts} {h' : Heap}
  (hq : (quiet cfg E imm o.op slot ts rd).map (fun (v, ob) => (setDst ts o.dst v, putObj h slot ob)) = some (ts', h') \/ (loud cfg E o.op slot ts h).map (fun (v, h) => (setDst ts o.dst v, h)) = some (ts', h'))
  {next : Act -> World -> Prop} {Q : Exit -> Act -> World -> Prop} {ro : Option Nat} {n : Nat} (hp : OpPost B0 (fun i => i < h.next /\ i ≠ slot) w S M ts' h' a next) : o.wpIn (FR ro) n P a w next Q := by
 have X : ∀ {rd : Rd} (_ : ∀ id o, rd id = some o -> h.obj id = some o), Ctx cfg P B0 (fun i => i < h.next /\ i ≠ slot) w S M h ts a.tmps rd slot := fun hrd => ⟨c, I, ht, hrd, hsl, fun hn => hn.2 rfl, hs2⟩
 rcases hq with hq | hq
 . simp only [oM, Prod.mk.injEq] at hq
   obtain ⟨⟨v, ob⟩, hq, rfl, rfl⟩ := hq
   cases hn : noCall o.op with
   | true =>
    obtain ⟨cv, w', S', M', hrun, hI, hE', hv⟩ := quiet_run (X hrd) hn hq
    refine ⟨fun _ _ => trivial, ?_⟩
    rw [semAt_quiet hq, evalA_eq, hrun, Oper.uponIn_value]
    exact hp.done ht hI hE' hv
   | false =>
    cases hop : o.op <;> rw [hop] at hn hq <;> simp only [noCall] at hn <;> try (cases hn; done)
    rename_i cc
    simp only [quiet, qCall] at hq
    split at hq
    . rename_i b hb
      rw [hb] at hn; cases hn
    . rename_i f hcal
      simp only [oB] at hq
      obtain ⟨vs, hvs, hq⟩ := hq
      split at hq
      . exact fcall_wp hE I ht hsl (fun hn => hn.2 rfl) hs2 hrd hop hcal hvs hq hp
      . cases htw : twinAt cfg imm f with
        | true =>
         rw [htw] at hq
         exact fcall_wp hE I ht hsl (fun hn => hn.2 rfl) hs2 hrd hop hcal hvs hq hp
        | false =>
         rw [htw] at hq
         obtain ⟨hq1, hob⟩ := one_some hq
         subst hob
         exact qcall_wp hE I ht hrd hop hcal hvs hq1 hp
    . cases hq
 . simp only [oM, Prod.mk.injEq] at hq
   obtain ⟨⟨v, h1⟩, hq, rfl, rfl⟩ := hq
   cases hn : noCall o.op with
   | true =>
    obtain ⟨nx, cv, w', S', M', hrun, hnx, hI, hE', hv⟩ := loud_run (X fun id o h => h) hn hq
    refine ⟨fun _ _ => trivial, ?_⟩
    rw [semAt_loud hq, evalA_eq, hrun]
    rcases hnx with rfl | ⟨rfl, rfl⟩
    . rw [Oper.uponIn_value]; exact hp.done ht hI hE' hv
    . rw [Oper.uponIn_skip]; exact hp.done ht hI hE' hv
   | false =>
    cases hop : o.op <;> rw [hop] at hn hq <;> simp only [noCall] at hn <;> try (cases hn; done)
    rename_i cc
    simp only [loud] at hq
    unfold lCall at hq
    split at hq
    . rename_i hb; rw [hb] at hn; cases hn
    . rename_i hb; rw [hb] at hn; cases hn
    . rename_i hb; rw [hb] at hn; cases hn
    . rename_i hb; rw [hb] at hn; cases hn
    . rename_i fo hcal
      simp only [oB] at hq
      obtain ⟨fv, hfv, ⟨tgt, x, y⟩, htg, vs, hvs, hq⟩ := hq
      exact lcall_wp hE hk I ht (fun i hi => hi.1) hop hcal hfv htg hvs hq hp
    . cases hq
theorem frzQ_some {b : Bool} {v v' : V} {ob ob' : Option Obj} (h : frzQ b slot (v, ob) = some (v', ob')) : (v' = v /\ ob' = ob) ∨
  ∃ g off len sh e fz cs x, v = .msl slot g off len sh /\ ob = some (.cells g e fz cs) /\ rowTree sh cs off len = some x /\ v' = .t x /\ ob' = none := by
 unfold frzQ at h
 cases b with
 | false => cases h; exact .inl ⟨rfl, rfl⟩
 | true =>
  simp only [cond_true] at h
  cases v with
  | t x => cases h; exact .inl ⟨rfl, rfl⟩
  | msl id gen off len sh =>
   cases ob with
   | none => cases h
   | some o =>
    cases o with
    | cells g e fz cs =>
     simp only at h
     split at h
     . rename_i hc
       simp only [oM, Prod.mk.injEq] at h
       obtain ⟨x, hx, rfl, rfl⟩ := h
       obtain ⟨rfl, rfl⟩ := hc
       exact .inr ⟨g, off, len, sh, e, fz, cs, x, rfl, rfl, hx, rfl, rfl⟩
     . cases h
    | _ => cases h
  | agg cs => cases h; exact .inl ⟨rfl, rfl⟩
  | _ => cases h
theorem frzL_some {b : Bool} {v v' : V} {h h' : Heap} (hq : frzL b (v, h) = some (v', h')) : (v' = v /\ h' = h) ∨
  (∃ id g off len sh e fz cs x, v = .msl id g off len sh /\ h.obj id = some (.cells g e fz cs) /\ rowTree sh cs off len = some x /\ v' = .t x /\ h' = h.set id none) ∨
  ∃ x, snap (fun id => cond ((scan true h.obj scanFuel [v] []).contains id) (noNest (h.obj id)) none) snapFuel v = some x /\ v' = .t x /\ h' = dropAll (scan true h.obj scanFuel [v] []) h := by
 unfold frzL at hq
 cases b with
 | false => cases hq; exact .inl ⟨rfl, rfl⟩
 | true =>
  simp only [cond_true] at hq
  cases v with
  | t x => cases hq; exact .inl ⟨rfl, rfl⟩
  | msl id gen off len sh =>
   simp only at hq
   split at hq
   . rename_i g e fz cs ho
     split at hq
     . rename_i hc
       simp only [oM, Prod.mk.injEq] at hq
       obtain ⟨x, hx, rfl, rfl⟩ := hq
       subst hc
       exact .inr (.inl ⟨id, g, off, len, sh, e, fz, cs, x, rfl, ho, hx, rfl, rfl⟩)
     . cases hq
   . cases hq
  | agg cs =>
   simp only [oM, Prod.mk.injEq] at hq
   obtain ⟨x, hx, rfl, rfl⟩ := hq
   exact .inr (.inr ⟨x, hx, rfl, rfl⟩)
  | _ => cases hq
theorem OpPost.frzL {b : Bool} {v v' : V} {h' h'' : Heap} {a : Act} {next : Act -> World -> Prop} {d : Option Tmp} (hs : frzL b (v, h') = some (v', h'')) (hp : OpPost B0 n0 w S M (setDst ts d v') h'' a next) : OpPost B0 n0 w S M (setDst ts d v) h' a next := by
 rcases frzL_some hs with ⟨rfl, rfl⟩ | ⟨id, g, off, len, sh, e, fz, cs, x, rfl, ho, hx, rfl, rfl⟩ | ⟨x, hx, rfl, rfl⟩
 . exact hp
 . intro a' w' S' M' I' E' t' hd
   obtain ⟨S2, I2, E2, t2⟩ := freeze_state I' E' t' ho hx
   exact hp a' w' S2 M' I2 E2 t2 hd
 . intro a' w' S' M' I' E' t' hd
   obtain ⟨S2, I2, E2, hk⟩ := deep_rep (n0 := n0) I' hx
   refine hp a' w' S2 M' I2 (E'.trans E2 fun i h => h) ?_ hd
   have t2 := t'.mono E2.keep E2.map
   cases d with
   | none => exact t2
   | some d =>
    intro i
    have h2 := t2 i
    have h1 := t' i
    simp only [setDst] at h1 h2 ⊢
    rw [Tm.get_upd] at h1 h2 ⊢
    by_cases hi : i = d
    . subst hi
      simp only [if_true] at h1 h2 ⊢
      cases hg : ts.get i with
      | none => rw [hg] at h2; exact h2
      | some u =>
       rw [hg] at h1
       obtain ⟨c, hc, hr⟩ := h1
       exact ⟨c, hc, .t _ _ (hk c hr)⟩
    . simp only [if_neg hi] at h2 ⊢
      exact h2
theorem OpPost.frzQ {b : Bool} {v v' : V} {ob ob' : Option Obj} {a : Act} {next : Act -> World -> Prop} {d : Option Tmp} (I : Inv B0 w S M h) (hsl : M slot = none) (hs : frzQ b slot (v, ob) = some (v', ob')) (hp : OpPost B0 n0 w S M (setDst ts d v') (putObj h slot ob') a next) : OpPost B0 n0 w S M (setDst ts d v) (putObj h slot ob) a next := by
 rcases frzQ_some hs with ⟨rfl, rfl⟩ | ⟨g, off, len, sh, e, fz, cs, x, rfl, rfl, hx, rfl, rfl⟩
 . exact hp
 . intro a' w' S' M' I' E' t' hd
   have ho : (putObj h slot (some (.cells g e fz cs))).obj slot = some (.cells g e fz cs) := by show (h.set slot _).obj slot = _; rw [Heap.obj_set, if_pos rfl]
   obtain ⟨S2, I2, E2, t2⟩ := freeze_state I' E' t' ho hx
   refine hp a' w' S2 M' (I2.sub rfl fun i o hi => ?_) E2 t2 hd
   show ((h.set slot _).set slot none).obj i = _
   rw [Heap.obj_set, Heap.obj_set]
   by_cases hi' : i = slot
   . subst hi'
     exfalso
     obtain ⟨m, hm, _⟩ := I.obj i o hi
     rw [hsl] at hm; cases hm
   . rw [if_neg hi', if_neg hi']; exact hi
theorem dropAll_good0 {K : Code -> Prop} : ∀ (ids : List Nat) (h : Heap), Good K h (dropAll ids h)
 | [], h => .refl _ _
 | id :: r, h => Good.trans .clear (dropAll_good0 r _)
theorem step_good {K : Code -> Prop} {E : Env} (hE : EnvOK K P E) {im : Tmp -> Bool} {draw : Bool} {ops : List Oper} {base : Nat} {o : Oper} {ts' : Ts} {h' : Heap} (hq : stepOp cfg E im draw ops base slot o ts h = some (ts', h')) : Good K h h' := by
 unfold stepOp at hq
 simp only [oB] at hq
 obtain ⟨b, _, hq⟩ := hq
 cases b with
 | true =>
  simp only [cond_true] at hq
  cases hl : (isLoud cfg o && !quietApp draw im ops o) <;> rw [hl] at hq
  . simp only [cond_false, oM, oB, Prod.mk.injEq] at hq
    obtain ⟨⟨v, ob⟩, ⟨⟨v0, ob0⟩, hq, hs⟩, rfl, rfl⟩ := hq
    refine put_good fun o ho => ?_
    subst ho
    rcases frzQ_some hs with ⟨rfl, rfl⟩ | ⟨_, _, _, _, _, _, _, _, _, _, _, _, h⟩
    . exact quiet_ob hq
    . cases h
  . simp only [cond_true, oM, oB, Prod.mk.injEq] at hq
    obtain ⟨⟨v, h1⟩, ⟨⟨v0, h0⟩, hq, hs⟩, rfl, rfl⟩ := hq
    rcases frzL_some hs with ⟨rfl, rfl⟩ | ⟨_, _, _, _, _, _, _, _, _, _, _, _, _, rfl⟩ | ⟨_, _, _, rfl⟩
    . exact loud_good hE hq
    . exact (loud_good hE hq).trans Good.clear
    . exact (loud_good hE hq).trans (dropAll_good0 _ _)
 | false => cases hq; exact .refl _ _
theorem rdOf_le (draw : Bool) (base : Nat) (h : Heap) : ∀ id o, rdOf draw base h id = some o -> h.obj id = some o := by
 intro id o hr
 unfold rdOf at hr
 cases draw
 . exact hr
 . simp only [cond_true] at hr
   cases hb : Nat.ble (Nat.succ id) base <;> rw [hb] at hr
   . cases hr
   . exact hr
theorem step_wp {K : Code -> Prop} {E : Env} (hE : EnvOK K P E) (c : CfgTI cfg P) {a : Act} (hk : HeapOK K h) (I : Inv B0 w S M h) (ht : RepTs w S M ts a.tmps) (hsl : M slot = none) (hs2 : slot < h.next) {im : Tmp -> Bool} {draw : Bool} {ops : Array Oper} {base : Nat} {o : Oper} {ts' : Ts} {h' : Heap}
  (hq : stepOp cfg E im draw ops.toList base slot o ts h = some (ts', h')) {next : Act -> World -> Prop} {Q : Exit -> Act -> World -> Prop} {ro : Option Nat} {n : Nat} (hp : OpPost B0 (fun i => i < h.next /\ i ≠ slot) w S M ts' h' a next) :
  if Region.wanted o (yielded ops a.tmps) then o.wpIn (FR ro) n P a w next Q else (∀ f, o.about P w a.eval = some f -> (FR ro).fn f) /\ next (a.put o.dst undef) w := by
 unfold stepOp at hq
 simp only [oB] at hq
 obtain ⟨b, hw, hq⟩ := hq
 rw [wanted_eq ht ops o hw]
 cases b with
 | true =>
  rw [if_pos rfl]
  simp only [cond_true] at hq
  cases hl : (isLoud cfg o && !quietApp draw im ops.toList o) <;> rw [hl] at hq
  . simp only [cond_false, oM, oB, Prod.mk.injEq] at hq
    obtain ⟨⟨v, ob⟩, ⟨⟨v0, ob0⟩, hq, hs⟩, rfl, rfl⟩ := hq
    exact op_wp hE c hk I ht hsl hs2 (rdOf_le draw base h) (.inl (by rw [hq]; rfl)) (hp.frzQ I hsl hs)
  . simp only [cond_true, oM, oB, Prod.mk.injEq] at hq
    obtain ⟨⟨v, h1⟩, ⟨⟨v0, h0⟩, hq, hs⟩, rfl, rfl⟩ := hq
    exact op_wp hE c hk I ht hsl hs2 (rd := h.obj) (fun id o h => h) (imm := true) (.inr (by rw [hq]; rfl)) (hp.frzL hs)
 | false =>
  rw [if_neg (by simp)]
  cases hq
  exact ⟨fun _ _ => trivial, hp.done ht I (Ext.refl ..) undef_rep⟩
theorem rdPr_le {l : List Nat} {rd : Rd} (hrd : ∀ id o, rd id = some o -> h.obj id = some o) : ∀ id o, rdPr l rd id = some o -> h.obj id = some o := fun id o hi => by
 unfold rdPr at hi
 cases hc : l.contains id <;> rw [hc] at hi
 . cases hi
 . exact hrd id o hi
theorem stepP_good {K : Code -> Prop} {E : Env} (hE : EnvOK K P E) {im : Tmp -> Bool} {l : List Nat} {lay : List Tmp} {ops : List Oper} {base : Nat} {o : Oper} {ts' : Ts} {h' : Heap} (hq : stepP cfg E im l lay ops base slot o ts h = some (ts', h')) : Good K h h' := by
 unfold stepP at hq
 simp only [oB] at hq
 obtain ⟨b, hw, hq⟩ := hq
 cases b with
 | false => cases hq; exact .refl _ _
 | true =>
  simp only [cond_true] at hq
  cases hl : (isLoud cfg o && !quietApp true im ops o) <;> rw [hl] at hq
  . simp only [cond_false, oB] at hq
    obtain ⟨⟨v, ob⟩, ⟨⟨v0, ob0⟩, hq0, hs⟩, hq⟩ := hq
    cases hlay : (ob.isNone || layOK lay o) <;> simp only [hlay, cond_true, cond_false] at hq
    . cases hq
    cases hq
    exact put_good fun ob' e => by
     subst e
     cases ob0 with
     | none => rcases frzQ_some hs with ⟨_, h⟩ | ⟨_, _, _, _, _, _, _, _, _, h, _⟩ <;> cases h
     | some o0 =>
      rcases frzQ_some hs with ⟨_, h⟩ | ⟨_, _, _, _, _, _, _, _, _, h, h'⟩
      . cases h; exact quiet_ob hq0
      . first | (cases h'; done) | (simp_all; done) | exact quiet_ob hq0
  . simp only [cond_true, oB] at hq
    obtain ⟨⟨v, h1⟩, ⟨⟨v0, h0⟩, hq0, hs⟩, hq⟩ := hq
    cases hp : (!guardD lay o || appFree l ts o || prOK l h h1) <;> simp only [hp, cond_true, cond_false] at hq
    . cases hq
    cases hq
    have hst : stepOp cfg E im true ops base slot o ts h = some (setDst ts o.dst v, h') := by
     unfold stepOp
     rw [hw]
     simp only [oS, cond_true, hl, hq0, hs, Option.map_some]
    exact step_good hE hst
theorem stepP_wp {K : Code -> Prop} {E : Env} (hE : EnvOK K P E) (c : CfgTI cfg P) {a : Act} (hk : HeapOK K h) (I : Inv B0 w S M h) (ht : RepTs w S M ts a.tmps) (hsl : M slot = none) (hs2 : slot < h.next) {im : Tmp -> Bool} {l : List Nat} {lay : List Tmp} {ops : Array Oper} {base : Nat} {o : Oper} {ts' : Ts} {h' : Heap}
  (hq : stepP cfg E im l lay ops.toList base slot o ts h = some (ts', h')) {next : Act -> World -> Prop} {Q : Exit -> Act -> World -> Prop} {ro : Option Nat} {n : Nat} (hp : OpPost B0 (fun i => i < h.next /\ i ≠ slot) w S M ts' h' a next) :
  if Region.wanted o (yielded ops a.tmps) then o.wpIn (FR ro) n P a w next Q else (∀ f, o.about P w a.eval = some f -> (FR ro).fn f) /\ next (a.put o.dst undef) w := by
 unfold stepP at hq
 simp only [oB] at hq
 obtain ⟨b, hw, hq⟩ := hq
 rw [wanted_eq ht ops o hw]
 cases b with
 | true =>
  rw [if_pos rfl]
  simp only [cond_true] at hq
  cases hl : (isLoud cfg o && !quietApp true im ops.toList o) <;> rw [hl] at hq
  . simp only [cond_false, oB] at hq
    obtain ⟨⟨v, ob⟩, ⟨⟨v0, ob0⟩, hq0, hs⟩, hq⟩ := hq
    cases hlay : (ob.isNone || layOK lay o) <;> simp only [hlay, cond_true, cond_false] at hq
    . cases hq
    cases hq
    exact op_wp hE c hk I ht hsl hs2 (rdPr_le (rdOf_le true base _)) (.inl (by rw [hq0]; rfl)) (hp.frzQ I hsl hs)
  . simp only [cond_true, oB] at hq
    obtain ⟨⟨v, h1⟩, ⟨⟨v0, h0⟩, hq0, hs⟩, hq⟩ := hq
    cases hpr : (!guardD lay o || appFree l ts o || prOK l h h1) <;> simp only [hpr, cond_true, cond_false] at hq
    . cases hq
    cases hq
    exact op_wp hE c hk I ht hsl hs2 (rd := h.obj) (fun id o h => h) (imm := true) (.inr (by rw [hq0]; rfl)) (hp.frzL hs)
 | false =>
  rw [if_neg (by simp)]
  cases hq
  exact ⟨fun _ _ => trivial, hp.done ht I (Ext.refl ..) undef_rep⟩
theorem runP_good {K : Code -> Prop} {E : Env} (hE : EnvOK K P E) {im : Tmp -> Bool} {l : List Nat} {lay : List Tmp} {ops : List Oper} {base : Nat} : ∀ (r : List Oper) (slot : Nat) (ts : Ts) (h : Heap) (ts' : Ts) (h' : Heap), runP cfg E im l lay ops base r slot ts h = some (ts', h') -> Good K h h'
 | [], slot, ts, h, ts', h', hq => by cases hq; exact .refl _ _
 | o :: r, slot, ts, h, ts', h', hq => by
  simp only [runP, oB] at hq
  obtain ⟨⟨ts1, h1⟩, hs, hq⟩ := hq
  exact (stepP_good hE hs).trans (runP_good hE r _ _ _ _ _ hq)
theorem runOps_good {K : Code -> Prop} {E : Env} (hE : EnvOK K P E) {im : Tmp -> Bool} {draw : Bool} {ops : List Oper} {base : Nat} : ∀ (r : List Oper) (slot : Nat) (ts : Ts) (h : Heap) (ts' : Ts) (h' : Heap), runOps cfg E im draw ops base r slot ts h = some (ts', h') -> Good K h h'
 | [], slot, ts, h, ts', h', hq => by cases hq; exact .refl _ _
 | o :: r, slot, ts, h, ts', h', hq => by
  simp only [runOps, oB] at hq
  obtain ⟨⟨ts1, h1⟩, hs, hq⟩ := hq
  exact (step_good hE hs).trans (runOps_good hE r _ _ _ _ _ hq)
theorem ops_wp {K : Code -> Prop} {E : Env} (hE : EnvOK K P E) (c : CfgTI cfg P) {im : Tmp -> Bool} {ops : Array Oper} {base : Nat} {Q : Exit -> Act -> World -> Prop} {ro : Option Nat} {n : Nat} {d : List Deferred} :
  ∀ (r : List Oper) (k : Nat) (w : World) (S : Nat -> Prop) (M : MM) (h : Heap) (ts : Ts) (a : Act) (ts' : Ts) (h' : Heap), ops.toList.drop k = r -> k + r.length = ops.size -> HeapOK K h -> Inv B0 w S M h -> RepTs w S M ts a.tmps -> a.defers = d →
   (∀ i, base + k <= i -> i < base + ops.size -> M i = none) -> base + ops.size <= h.next -> runOps cfg E im false ops.toList base r (base + k) ts h = some (ts', h') →
   (∀ a' w' S' M', Inv B0 w' S' M' h' -> Ext B0 (· < base) w S M w' S' M' -> RepTs w' S' M' ts' a'.tmps -> a'.defers = d -> Q .normal a' w') →
   wpOpsIn (FR ro) n P ops Q ((List.range ops.size).drop k) a w
 | [], k, w, S, M, h, ts, a, ts', h', hd, hl, hk, I, ht, hda, hfree, hnext, hq, hp => by
  simp only [runOps, oI, Prod.mk.injEq] at hq
  obtain ⟨rfl, rfl⟩ := hq
  have : (List.range ops.size).drop k = [] := by simp at hl; simp [hl]
  rw [this]
  exact hp a w S M I (Ext.refl ..) ht hda
 | o :: r, k, w, S, M, h, ts, a, ts', h', hd, hl, hk, I, ht, hda, hfree, hnext, hq, hp => by
  simp only [runOps, oB] at hq
  obtain ⟨⟨ts1, h1⟩, hs, hq⟩ := hq
  have hks : k < ops.size := by simp at hl; omega
  have hg1 := step_good hE hs
  have hn1 := (hg1 hk).1
  have hdrop : ops.toList.drop (k + 1) = r := by rw [<- List.drop_drop, hd]; rfl
  have ho : ops[k]? = some o := by
   have : (ops.toList.drop k)[0]? = some o := by rw [hd]; rfl
   rw [List.getElem?_drop] at this
   simpa using this
  have hrange : (List.range ops.size).drop k = k :: (List.range ops.size).drop (k + 1) := by
   rw [List.drop_eq_getElem_cons (by simpa using hks)]
   simp
  rw [hrange]
  simp only [wpOpsIn, ho]
  refine step_wp hE c hk I ht (hfree _ (by omega) (by omega)) (by omega) hs fun a1 w1 S1 M1 I1 E1 t1 d1 => ?_
  exact ops_wp hE c r (k + 1) w1 S1 M1 h1 ts1 a1 ts' h' hdrop (by simp at hl; omega) (hg1 hk).2 I1 t1 (d1.trans hda)
   (fun i hi1 hi2 => E1.low i ⟨by omega, by omega⟩ (hfree i (by omega) hi2)) (by omega) (by rw [<- Nat.add_assoc]; exact hq)
   fun a' w' S' M' I' E' t' d' => hp a' w' S' M' I' ((E1.weak fun i hi => ⟨by omega, by omega⟩).trans E' fun i hi => hi) t' d'
theorem Inv.more (I : Inv B0 w S M h) {k : Nat} (hk : h.next <= k) : Inv B0 w S M ⟨k, h.tr⟩ :=
 ⟨I.obj, fun id m hm => ⟨(I.at_ id m hm).1, (I.at_ id m hm).2.1, Nat.lt_of_lt_of_le (I.at_ id m hm).2.2 hk⟩, I.inj, I.stable, I.lt, I.base, I.own.imp fun O K => ⟨K.free, K.obj, K.rep, K.cel⟩⟩
theorem dropAll_good {K : Code -> Prop} : ∀ (ids : List Nat) (h : Heap), Good K h (dropAll ids h)
 | [], h => .refl _ _
 | id :: r, h => Good.trans .clear (dropAll_good r _)
theorem shutNest_spec {k : Nat} {s : Spot} {ts : Ts} {h h' : Heap} (hq : shutNest k s ts h = some h') : h.next <= h'.next /\ ∀ id o, h'.obj id = some o -> o.isLoop = false \/ h.obj id = some o := by
 have put : ∀ (h0 : Heap) (i : Nat) (o0 : Obj), o0.isLoop = false -> ∀ id o, (h0.set i (some o0)).obj id = some o -> o.isLoop = false \/ h0.obj id = some o := fun h0 i o0 hl id o hi => by
  rw [Heap.obj_set] at hi
  split at hi
  . cases hi; exact .inl hl
  . exact .inr hi
 have same : h.next <= h.next /\ ∀ id o, h.obj id = some o -> o.isLoop = false \/ h.obj id = some o := ⟨Nat.le_refl _, fun _ _ h => .inr h⟩
 have close : ∀ (id : Nat) (fs : List V) (h : Heap) (p : List C × Heap), closeCells id fs h = some p -> p.2.next = h.next /\ ∀ i o, p.2.obj i = some o -> h.obj i = some o := by
  intro id fs
  induction fs with
  | nil => intro h p hp; cases hp; exact ⟨rfl, fun _ _ h => h⟩
  | cons v fs ih =>
   intro h p hp
   cases v with
   | t x =>
    simp only [closeCells, oM] at hp
    obtain ⟨q, hq, rfl⟩ := hp
    exact ih h q hq
   | msl id2 g2 off len sh =>
    simp only [closeCells] at hp
    cases hne : Nat.beq id id2 with
    | true => rw [hne] at hp; cases hp
    | false =>
     rw [hne] at hp
     simp only [cond_false] at hp
     split at hp
     . rename_i g3 e3 cs3 ho3
       cases hg : Nat.beq g3 g2 with
       | false => rw [hg] at hp; cases hp
       | true =>
        rw [hg] at hp
        simp only [cond_true, oB, oM] at hp
        obtain ⟨xs, _, q, hq, rfl⟩ := hp
        obtain ⟨a, b⟩ := ih _ q hq
        refine ⟨a, fun i o hi => ?_⟩
        have := b i o hi
        rw [Heap.obj_set] at this
        split at this
        . cases this
        . exact this
     . cases hp
   | _ => cases hp
 have closed : ∀ (id g : Nat) (e : TypeId) (cs : List C) (p : Nat × List V), (closeCells id p.2 h).map (fun q => q.2.set id (some (Obj.nest g e (setRange cs p.1 q.1) none))) = some h' -> h.next <= h'.next /\ ∀ id o, h'.obj id = some o -> o.isLoop = false \/ h.obj id = some o := by
  intro id g e cs p hq
  simp only [oM] at hq
  obtain ⟨q, hc, rfl⟩ := hq
  obtain ⟨a, b⟩ := close _ _ _ _ hc
  refine ⟨Nat.le_of_eq a.symm, fun i o hi => ?_⟩
  rcases put _ _ _ rfl i o hi with h | h
  . exact .inl h
  . exact .inr (b i o h)
 unfold shutNest at hq
 cases h1 : Nat.beq k 1 with
 | true =>
  rw [h1] at hq
  simp only [cond_true, oB] at hq
  obtain ⟨v, _, hq⟩ := hq
  unfold nestRow at hq
  split at hq
  . split at hq
    . rename_i g e cs ho
      cases hg : Nat.beq g _ with
      | false => rw [hg] at hq; cases hq
      | true => rw [hg] at hq; cases hq; exact ⟨Nat.le_refl _, put _ _ _ rfl⟩
    . cases hq; exact same
    . cases hq
  . cases hq; exact same
  . cases hq
 | false =>
  rw [h1] at hq
  cases h3 : Nat.beq k 3 with
  | true =>
   rw [h3] at hq
   simp only [cond_true, cond_false, oB] at hq
   obtain ⟨v, _, hq⟩ := hq
   unfold closeRow at hq
   split at hq
   . split at hq
     . split at hq
       . exact closed _ _ _ _ _ hq
       . cases hq; exact same
     . cases hq
   . split at hq
     . split at hq
       . exact closed _ _ _ _ _ hq
       . cases hq; exact same
     . cases hq
   . cases hq; exact same
   . cases hq
  | false =>
   rw [h3] at hq
   simp only [cond_false, oB] at hq
   obtain ⟨p, _, hq⟩ := hq
   cases h2 : Nat.beq k 2 with
   | true =>
    rw [h2] at hq
    simp only [cond_true, openAt, oB] at hq
    obtain ⟨q, _, hq⟩ := hq
    split at hq
    . cases hq
      refine ⟨Nat.le_succ _, fun id o hi => ?_⟩
      rcases put _ _ _ rfl id o hi with h | h
      . exact .inl h
      . have h : (Tm.put _ _ _).get id = some o := h
        rw [Tm.get_put] at h
        split at h
        . cases h; exact .inl rfl
        . exact .inr h
    . cases hq; exact same
    . cases hq
   | false =>
    rw [h2] at hq
    simp only [cond_false, freezeAt, oB] at hq
    obtain ⟨q, _, hq⟩ := hq
    cases hb : Nat.ble (p.2.2 + Nat.div k 10) q.2.length with
    | false => rw [hb] at hq; cases hq
    | true => rw [hb] at hq; cases hq; exact ⟨Nat.le_refl _, put _ _ _ rfl⟩
theorem shutOld_good {K : Code -> Prop} {ts : Ts} {h : Heap} {d : Tmp} {ts' : Ts} {h' : Heap} (h2 : shutOld ts h d = some (ts', h')) : Good K h h' := by
 unfold shutOld at h2
 cases hc : Nat.ble 100000 d with
 | true =>
  rw [hc] at h2
  simp only [cond_true] at h2
  unfold unrow at h2
  split at h2
  . split at h2
    . split at h2
      . split at h2
        . split at h2
          . split at h2
            . cases h2; exact Good.trans .clear (.set rfl)
            . cases h2; exact .refl _ _
          . cases h2; exact .refl _ _
        . cases h2; exact .refl _ _
      . cases h2; exact .refl _ _
    . cases h2; exact .refl _ _
  . cases h2; exact .refl _ _
  . cases h2
 | false =>
  rw [hc] at h2
  simp only [cond_false] at h2
  cases hc2 : Nat.ble 50000 d with
  | true =>
   rw [hc2] at h2
   rcases shutDeep_cases h2 with rfl | ⟨ids, rfl⟩
   . exact .refl _ _
   . exact dropAll_good _ _
  | false =>
  rw [hc2] at h2
  simp only [cond_false] at h2
  unfold shutOne at h2
  split at h2
  . split at h2
    . split at h2
      . split at h2
        . cases h2; exact .clear
        . cases h2; exact .refl _ _
      . cases h2; exact .refl _ _
    . cases h2; exact .refl _ _
  . split at h2
    . split at h2
      . split at h2
        . cases h2; exact .clear
        . cases h2; exact .refl _ _
      . cases h2; exact .refl _ _
    . cases h2; exact .refl _ _
  . cases h2; exact .refl _ _
  . cases h2
theorem shutAny_good {K : Code -> Prop} {ts : Ts} {h : Heap} {d : Tmp} {ts' : Ts} {h' : Heap} (h2 : shutAny ts h d = some (ts', h')) : Good K h h' := by
 unfold shutAny at h2
 cases hc : Nat.ble nestNo d with
 | false => rw [hc] at h2; exact shutOld_good h2
 | true =>
  rw [hc] at h2
  simp only [cond_true, oM, Prod.mk.injEq] at h2
  obtain ⟨h1, h2, rfl, rfl⟩ := h2
  obtain ⟨a, b⟩ := shutNest_spec h2
  refine fun hk => ⟨a, fun id st pend f ts ps asg bd hi => ?_⟩
  rcases b id _ hi with h | h
  . cases h
  . exact hk id st pend f ts ps asg bd h
theorem shutAll_good {K : Code -> Prop} : ∀ (ds : List Tmp) (ts : Ts) (h : Heap) (ts' : Ts) (h' : Heap), shutAll ds ts h = some (ts', h') -> Good K h h'
 | [], ts, h, ts', h', hq => by cases hq; exact .refl _ _
 | d :: ds, ts, h, ts', h', hq => by
  simp only [shutAll, oB] at hq
  obtain ⟨⟨ts1, h1⟩, h2, h3⟩ := hq
  exact Good.trans (shutAny_good h2) (shutAll_good ds _ _ _ _ h3)
theorem region_split {E : Env} {f : FuncId} {id : Nat} {draw : Bool} {ops : List Oper} {s s' : St} (hq : region cfg E f id draw ops s = some s') :
  ∃ ts h, shutAll (cfg.shut f (preShut id)) s.ts s.h = some (ts, h) /\ regionB cfg E f id draw ops ⟨ts, h, s.marks⟩ = some s' := by
 obtain ⟨⟨ts, h⟩, h1, h2⟩ := oB.1 hq
 exact ⟨ts, h, h1, h2⟩
theorem region_marks {E : Env} {f : FuncId} {id : Nat} {draw : Bool} {ops : List Oper} {s s' : St} (hq : region cfg E f id draw ops s = some s') : s'.marks = s.marks := by
 obtain ⟨ts, h, _, hr⟩ := region_split hq
 simp only [regionB, oB, oM] at hr
 obtain ⟨_, _, _, _, rfl⟩ := hr
 rfl
theorem regionB_wp {K : Code -> Prop} {E : Env} (hE : EnvOK K P E) (c : CfgTI cfg P) {f : FuncId} {id : Nat} {ops : Array Oper} {s s' : St} {a : Act} (hk : HeapOK K s.h) (I : Inv B0 w S M s.h) (ht : RepTs w S M s.ts a.tmps) (hq : regionB cfg E f id false ops.toList s = some s')
  {Q : Exit -> Act -> World -> Prop} {ro : Option Nat} {n : Nat}
  (hp : ∀ a' w' S' M', Inv B0 w' S' M' s'.h -> Ext B0 (· < s.h.next) w S M w' S' M' -> RepTs w' S' M' s'.ts a'.tmps -> a'.defers = a.defers -> Q .normal a' w') : (Code.region id ops false).wpIn (FR ro) n P Q a w := by
 simp only [regionB, oB, oM] at hq
 obtain ⟨⟨ts1, h1⟩, hr, ⟨ts2, h2⟩, hs, rfl⟩ := hq
 refine wpIn_region ?_
 have := ops_wp (B0 := B0) (Q := Q) (ro := ro) (n := n) (d := a.defers) hE c ops.toList 0 w S M ⟨s.h.next + ops.toList.length, s.h.tr⟩ s.ts a ts1 h1 rfl (by simp) hk (I.more (by show _ <= _ + _; omega)) ht rfl (fun i hi _ => by
  cases hm : M i with
  | none => rfl
  | some m => have := (I.at_ i m hm).2.2; omega) (by simp) hr fun a' w' S' M' I' E' t' d' => by
   have hnx := ((runOps_good hE _ _ _ _ _ _ hr) (show HeapOK K ⟨s.h.next + ops.toList.length, s.h.tr⟩ from hk)).1
   obtain ⟨_, S2, M2, I2, E2, t2⟩ := shutAll_run (n0 := (· < s.h.next)) _ I' (fun i hi => Nat.lt_of_lt_of_le hi (Nat.le_trans (Nat.le_add_right _ _) hnx)) t' hs
   exact hp a' w' S2 M2 I2 (E'.trans E2 fun i hi => hi) t2 d'
 simpa using this
theorem region_wp {K : Code -> Prop} {E : Env} (hE : EnvOK K P E) (c : CfgTI cfg P) {f : FuncId} {id : Nat} {ops : Array Oper} {s s' : St} {a : Act} (hk : HeapOK K s.h) (I : Inv B0 w S M s.h) (ht : RepTs w S M s.ts a.tmps) (hq : region cfg E f id false ops.toList s = some s')
  {Q : Exit -> Act -> World -> Prop} {ro : Option Nat} {n : Nat}
  (hp : ∀ a' w' S' M', Inv B0 w' S' M' s'.h -> Ext B0 (· < s.h.next) w S M w' S' M' -> RepTs w' S' M' s'.ts a'.tmps -> a'.defers = a.defers -> Q .normal a' w') : (Code.region id ops false).wpIn (FR ro) n P Q a w := by
 obtain ⟨ts0, h0, hs0, hq⟩ := region_split hq
 obtain ⟨hn, S0, M0, I0, E0, t0⟩ := shutAll_run (n0 := (· < s.h.next)) _ I (fun i hi => hi) ht hs0
 refine regionB_wp hE c (s := ⟨ts0, h0, s.marks⟩) ((shutAll_good _ _ _ _ _ hs0) hk).2 I0 t0 hq fun a' w' S' M' I' E' t' d' => hp a' w' S' M' I' ?_ t' d'
 have E' : Ext B0 (· < h0.next) w S0 M0 w' S' M' := E'
 exact E0.trans E' fun i hi => Nat.lt_of_lt_of_le hi hn
theorem regionB_good {K : Code -> Prop} {E : Env} (hE : EnvOK K P E) {f : FuncId} {id : Nat} {draw : Bool} {ops : List Oper} {s s' : St} (hq : regionB cfg E f id draw ops s = some s') : Good K s.h s'.h := by
 simp only [regionB, oB, oM] at hq
 obtain ⟨⟨ts1, h1⟩, hr, ⟨ts2, h2⟩, hs, rfl⟩ := hq
 have h0 : Good K s.h ⟨s.h.next + ops.length, s.h.tr⟩ := fun x => ⟨Nat.le_add_right _ _, x⟩
 split at hr
 . exact h0.trans ((runOps_good hE _ _ _ _ _ _ hr).trans (shutAll_good _ _ _ _ _ hs))
 . exact h0.trans ((runP_good hE _ _ _ _ _ _ hr).trans (shutAll_good _ _ _ _ _ hs))
theorem region_good {K : Code -> Prop} {E : Env} (hE : EnvOK K P E) {f : FuncId} {id : Nat} {draw : Bool} {ops : List Oper} {s s' : St} (hq : region cfg E f id draw ops s = some s') : Good K s.h s'.h := by
 obtain ⟨ts0, h0, hs0, hq⟩ := region_split hq
 exact (shutAll_good _ _ _ _ _ hs0).trans (regionB_good hE (s := ⟨ts0, h0, s.marks⟩) hq)
end
end Go.Apex
