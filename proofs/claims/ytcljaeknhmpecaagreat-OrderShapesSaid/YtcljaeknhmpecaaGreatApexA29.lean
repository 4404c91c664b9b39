import Derived.Test.YtcljaeknhmpecaaGreatApexA28
set_option linter.all false
namespace Go.Apex
open Go Go.RowKit
variable [Globs]
section
variable {cfg : Cfg} {P : Program} {B0 : Nat -> Prop} {n0 : Nat -> Prop} {w : World} {S : Nat -> Prop} {M : MM} {h : Heap} {ts : Ts} {slot : Nat} {K : Code -> Prop}
theorem run_mapM_vals {α : Type} {g : α -> Sem Value} (w : World) : ∀ (l : List α) (vs : List Value), vs.length = l.length -> (∀ (i : Nat) (x : α) (v : Value), l[i]? = some x -> vs[i]? = some v -> (g x).run P w = .ok v w) -> (l.mapM g).run P w = .ok vs w
 | [], [], _, _ => by simp
 | [], _ :: _, h, _ => by simp at h
 | _ :: _, [], h, _ => by simp at h
 | x :: l, v :: vs, h, hr => by
  simp only [List.mapM_cons, Sem.run_bind, hr 0 x v rfl rfl, Result.andThen_ok, run_mapM_vals w l vs (by simpa using h) fun i y u h1 h2 => hr (i + 1) y u (by simpa using h1) (by simpa using h2), Sem.run_pure]
theorem run_mapM_arr {α : Type} {g : α -> Sem Value} (w : World) (l : Array α) (cvs : List Value) (h : (l.toList.mapM g).run P w = .ok cvs w) : (l.mapM g).run P w = .ok cvs.toArray w := by
 rw [Array.mapM_eq_mapM_toList, map_eq_pure_bind]
 have hb : (Sem.bind (List.mapM g l.toList) fun a => Sem.pure a.toArray).run P w = .ok cvs.toArray w := by
  rw [Sem.run_bind', h, Result.andThen_ok]
  rfl
 exact hb
theorem resultV_run (c : CfgTI cfg P) (I : Inv B0 w S M h) {tmps : Array Value} (ht : RepTs w S M ts tmps) {r : ResultVar} {v : V} (hq : resultV cfg ts h r = some v) :
  ∃ cv, (match r with
   | .tmp t => (Pure.pure (tmps.getD t undef) : Sem Value)
   | .cell a t => do loadVar t (<- asAddr (tmps.getD a undef))).run P w = .ok cv w /\ RepV w S M v cv := by
 cases r with
 | tmp t =>
  obtain ⟨cv, hc, hv⟩ := ht.get hq
  exact ⟨cv, by simp [Array.getD_eq_getD_getElem?, hc], hv⟩
 | cell a t =>
  simp only [resultV, oB] at hq
  obtain ⟨i, hi, p, hp, hl⟩ := hq
  obtain ⟨pv, hpv, hr⟩ := ht.get hp
  obtain ⟨cv, hrun, hv⟩ := loadV_run (P := P) c I (fun id o h => h) hi hr hl
  refine ⟨cv, ?_, hv⟩
  have hptr : isPtr p = true := by
   unfold loadV at hl
   split at hl <;> first | rfl | cases hl
  obtain ⟨b, o, rfl⟩ := rep_ptr hr hptr
  have hg : tmps.getD a undef = .pointer (some ⟨b, o, none⟩) := by simp [Array.getD_eq_getD_getElem?, hpv]
  simp only [hg]
  simpa [asAddr, Instr.loadAt, Instr.sureAddr] using hrun
theorem results_run (c : CfgTI cfg P) (I : Inv B0 w S M h) {tmps : Array Value} (ht : RepTs w S M ts tmps) {fn : Func} {v : V} (hq : resultsV cfg fn ts h = some v) : ∃ cv, (results fn tmps).run P w = .ok cv w /\ RepV w S M v cv := by
 simp only [resultsV, oM] at hq
 obtain ⟨vs, hvs, rfl⟩ := hq
 obtain ⟨l1, l2⟩ := mapO_spec hvs
 have hall : ∃ cvs : List Value, RepVL w S M vs cvs /\ ∀ (i : Nat) (r : ResultVar) (cv : Value), fn.results.toList[i]? = some r -> cvs[i]? = some cv -> (match r with
   | .tmp t => (Pure.pure (tmps.getD t undef) : Sem Value)
   | .cell a t => do loadVar t (<- asAddr (tmps.getD a undef))).run P w = .ok cv w := by
  clear l1 l2
  revert hvs
  generalize fn.results.toList = rs
  intro hvs
  induction rs generalizing vs with
  | nil => cases hvs; exact ⟨[], .nil, fun i r cv h => by simp at h⟩
  | cons r rs ih =>
   simp only [mapO, oB, oI] at hvs
   obtain ⟨v0, h0, vs0, hvs0, rfl⟩ := hvs
   obtain ⟨cv, hr, hv⟩ := resultV_run (P := P) c I ht h0
   obtain ⟨cvs, hrep, hrun⟩ := ih vs0 hvs0
   refine ⟨cv :: cvs, .cons hv hrep, fun i r' cv' h1 h2 => ?_⟩
   cases i with
   | zero => simp at h1 h2; subst h1 h2; exact hr
   | succ i => exact hrun i r' cv' (by simpa using h1) (by simpa using h2)
 obtain ⟨cvs, hrep, hrun⟩ := hall
 have hm := run_mapM_vals (P := P) w fn.results.toList cvs (by rw [<- hrep.1, l1]) hrun
 have hres : (results fn tmps).run P w = .ok (if h : cvs.toArray.size = 1 then cvs.toArray[0] else .tuple cvs.toArray) w := by
  have harr := run_mapM_arr w fn.results cvs hm
  unfold results
  rw [Sem.run_bind]
  exact (congrArg (fun r => Result.andThen r _) harr).trans rfl
 refine ⟨_, hres, ?_⟩
 match vs, cvs, hrep with
 | [v], [cv], hrep => exact hrep.tail.1
 | [], [], hrep => exact mkTup_rep hrep
 | v1 :: v2 :: r, c1 :: c2 :: rc, hrep => simpa using mkTup_rep hrep
 | [], _ :: _, hrep => simp [RepVL] at hrep
 | _ :: _, [], hrep => simp [RepVL] at hrep
 | [v], _ :: _ :: _, hrep => simp [RepVL] at hrep
 | _ :: _ :: _, [_], hrep => simp [RepVL] at hrep
theorem takeMarks_good : ∀ (l : List Nat) (h h' : Heap), takeMarks l h = some h' -> Good K h h'
 | [], h, h', hq => by cases hq; exact .refl _ _
 | m :: r, h, h', hq => by
  simp only [takeMarks] at hq
  split at hq
  . exact Good.trans (.set rfl) (takeMarks_good r _ _ hq)
  . cases hq
theorem leaves_run {fn : Func} {tmps : Array Value} {R : Ending -> World -> Prop} {n : Nat} : ∀ (l : List Nat) (ds : List Deferred) (h h' : Heap) (w : World), MarksOK M l ds -> takeMarks l h = some h' -> Inv B0 w S M h →
  (∀ w', Inv B0 w' S M h' -> Ext B0 n0 w S M w' S M -> ∃ v, (results fn tmps).run P w' = .ok v w' /\ R (.returned v) w') -> LeavesInM (FR none) n P fn tmps R ds .returning w
 | [], [], h, h', w, _, hq, I, hp => by
  cases hq
  exact hp w I (Ext.refl ..)
 | m :: r, d :: ds, h, h', w, ⟨⟨b, mi, hd, hm, hb⟩, hr⟩, hq, I, hp => by
  subst hd
  simp only [takeMarks] at hq
  split at hq
  case h_2 => cases hq
  rename_i ho
  obtain ⟨m', hm', hg, hw⟩ := I.obj m _ ho
  rw [hm] at hm'
  cases hm'
  have := hb hg
  subst this
  obtain ⟨I2, E2⟩ := I.rewrite (n0 := n0) ho hm (.deferred none) (.defer false) (fun w' hS hat => ⟨hg, hat⟩)
  refine ⟨by simp, .inl ⟨mi.b, _, rfl, run_takeDeferred hw, ?_⟩⟩
  exact leaves_run r ds _ h' _ hr hq I2 fun w' I' E' => hp w' I' (E2.trans E' fun i hi => hi)
 | [], _ :: _, h, h', w, hm, _, _, _ => hm.elim
 | _ :: _, [], h, h', w, hm, _, _, _ => hm.elim
structure CfgFn (cfg : Cfg) (P : Program) (K : Code -> Prop) : Prop where
 code : ∀ f fn, cfg.code f = some fn -> P.funcs[f]? = some fn /\ (fn.name == "runtime.NumGoroutine") = false /\ ∀ c, fn.body = some c -> K c
theorem body_ok {E : Env} (hE : EnvOK K P E) (c : CfgTI cfg P) (hK : KOK cfg P K) (hF : CfgFn cfg P K) {f : FuncId} {args : List V} {v : V} {h' : Heap} (hq : body cfg E f args h = some (v, h')) :
  Enters P f /\ Good K h h' /\ ∀ (B0 : Nat -> Prop) (w : World) (S : Nat -> Prop) (M : MM) (cargs : Array Value), HeapOK K h -> Inv B0 w S M h -> RepVL w S M args cargs.toList →
  Calls P f cargs w fun e w' => ∃ cv S' M', e = .returned cv /\ Inv B0 w' S' M' h' /\ Ext B0 (· < h.next) w S M w' S' M' /\ RepV w' S' M' v cv := by
 simp only [body, oB] at hq
 obtain ⟨fn, hfn, cd, hcd, hq⟩ := hq
 obtain ⟨hP, hname, hkc⟩ := hF.code f fn hfn
 have hk := hkc cd hcd
 split at hq
 case isFalse => cases hq
 rename_i hle
 simp only [oB] at hq
 obtain ⟨⟨o, s⟩, hx, hq⟩ := hq
 obtain ⟨g1, w1⟩ := exec_sound hE c hK f none cd hk _ _ _ hx
 have hq' : ((takeMarks s.marks s.h).bind fun h => (resultsV cfg fn s.ts h).map fun v => (v, h)) = some (v, h') /\ ∀ id, o ≠ .exit id := by
  cases o with
  | norm => exact ⟨hq, fun id e => by cases e⟩
  | ret => exact ⟨hq, fun id e => by cases e⟩
  | exit id => cases hq
 obtain ⟨hq', hne⟩ := hq'
 simp only [oB, oM, Prod.mk.injEq] at hq'
 obtain ⟨h2, htm, v', hrv, rfl, rfl⟩ := hq'
 refine ⟨⟨fn, hP, by rw [hcd]; rfl, hname⟩, g1.trans (takeMarks_good _ _ _ htm), fun B0 w S M cargs hhk I hr => ?_⟩
 have hcalls : CallsIn (FR none) 0 P f cargs w (fun e w' => ∃ cv S' M', e = .returned cv /\ Inv B0 w' S' M' h2 /\ Ext B0 (· < h.next) w S M w' S' M' /\ RepV w' S' M' v' cv) := by
  refine callsIn_of_wp_marks hP hcd trivial (wpIn_mono (w1 B0 none w S M { tmps := cargs ++ Array.replicate (fn.ntmps - cargs.size) undef, defers := [] } 0 ⟨hhk, I, args_rep hr hle, trivial, trivial⟩) ?_)
  rintro e a' w' ⟨rfl, S', M', X, E1⟩
  have hl := leaves_run (P := P) (n := 0) (n0 := (· < h.next)) (fn := fn) (tmps := a'.tmps) (R := fun e w' => ∃ cv S' M', e = .returned cv /\ Inv B0 w' S' M' h2 /\ Ext B0 (· < h.next) w S M w' S' M' /\ RepV w' S' M' v' cv)
   s.marks a'.defers s.h h2 w' X.m htm X.I fun w2 I2 E2 => by
    obtain ⟨cv, hrun, hv⟩ := results_run (P := P) c I2 (X.t.mono E2.keep E2.map) hrv
    exact ⟨cv, hrun, cv, S', M', rfl, I2, E1.trans E2 fun i hi => hi, hv⟩
  cases o with
  | norm => exact hl
  | ret => exact hl
  | exit id => exact absurd rfl (hne id)
 exact callsIn_wide.1 hcalls
end
end Go.Apex
