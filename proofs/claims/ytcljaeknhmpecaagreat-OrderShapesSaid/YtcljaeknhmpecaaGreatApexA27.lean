import Derived.Test.YtcljaeknhmpecaaGreatApexA26
set_option linter.all false
namespace Go.Apex
open Go Go.RowKit
variable [Globs]
section
variable {cfg : Cfg} {P : Program} {B0 : Nat -> Prop} {n0 : Nat -> Prop} {w : World} {S : Nat -> Prop} {M : MM} {h : Heap} {ts : Ts} {slot : Nat} {K : Code -> Prop}
noncomputable def rangeTail (E : Env) (f : FuncId) (rd : Option Nat) (s : St) (g : FuncId) (x y : List V) (ps : List Tmp) (asg body : Code) : Option (Out × St) :=
 let d := s.h.next
 let pre : Heap := if rd.isSome then s.h else s.h.push (.defer true)
 let l := pre.next
 let marks := if rd.isSome then s.marks else d :: s.marks
 (E.call (.fn g) (x ++ [.yld l] ++ y) (pre.push (.loop .ready none f s.ts ps asg body))).bind fun (_, h) =>
  match h.obj l with
  | some (.loop st pend f' ts' ps' asg' body') =>
   if st = .busy then none else
   let s' : St := ⟨s.ts, h.set l (some (.loop .exhausted pend f' ts' ps' asg' body')), marks⟩
   match pend with
   | none => some (.norm, s')
   | some .ret => some (.ret, s')
   | some (.exit id) => some (.exit id, s')
   | _ => none
  | _ => none
theorem range_good {E : Env} (hE : EnvOK K P E) {f : FuncId} {rd : Option Nat} {s : St} {g : FuncId} {x y : List V} {ps : List Tmp} {asg bd : Code} (hka : K asg) (hkb : K bd) {o : Out} {s' : St} (hq : rangeTail E f rd s g x y ps asg bd = some (o, s')) :
  Good K s.h s'.h := by
 simp only [rangeTail, oB] at hq
 obtain ⟨⟨v, h2⟩, hc, hq⟩ := hq
 have hg := (hE.call _ _ _ _ _ hc).2.1
 have g0 : Good K s.h ((if rd.isSome then s.h else s.h.push (.defer true)).push (.loop .ready none f s.ts ps asg bd)) := by
  split
  . exact fun hk => ⟨Nat.le_succ _, hk.push fun _ _ _ _ _ _ _ h => by cases h; exact ⟨hka, hkb⟩⟩
  . exact fun hk => ⟨Nat.le_succ_of_le (Nat.le_succ _), (hk.push fun _ _ _ _ _ _ _ h => by cases h).push fun _ _ _ _ _ _ _ h => by cases h; exact ⟨hka, hkb⟩⟩
 have g1 := g0.trans hg
 split at hq
 case h_2 => cases hq
 rename_i st pend f' ts' ps' asg' bd' ho
 have key : s'.h = h2.set (if rd.isSome then s.h else s.h.push (.defer true)).next (some (.loop .exhausted pend f' ts' ps' asg' bd')) := by
  split at hq
  . cases hq
  . split at hq <;> first | (cases hq; rfl) | cases hq
 rw [key]
 refine g1.trans fun hk => ⟨Nat.le_refl _, hk.set fun _ _ _ _ _ _ _ h => ?_⟩
 cases h
 exact hk _ _ _ _ _ _ _ _ ho
theorem range_wp {E : Env} (hE : EnvOK K P E) {f : FuncId} {rd ro : Option Nat} {s : St} {a : Act} (X : State K B0 rd ro w S M s a) {fo : Operand} {ps : Array Tmp} {asg bd : Code} (hka : K asg) (hkb : K bd) {fv : V} (hfv : ev s.ts fo = some fv)
  {g : FuncId} {x y : List V} (htg : tgtOf fv = some (.fn g, x, y)) (hin : inLoop rd s.h = true) {o : Out} {s' : St} (hq : rangeTail E f rd s g x y ps.toList asg bd = some (o, s')) (n : Nat) :
  (Code.rangeFunc fo ps asg bd).wpIn (FR ro) n P (Post K B0 rd ro s.h.next w S M o s') a w := by
 refine wpIn_rangeFunc fun fn _ => ?_
 obtain ⟨lb, mark, w1, M1, hen, hk1, I1, E1, hm1, hpn, hlm⟩ := enter_loop X f ps hka hkb hin fn
 simp only [rangeTail, oB] at hq
 obtain ⟨⟨v, h2⟩, hc, hq⟩ := hq
 obtain ⟨x', y', hev, hx, hy⟩ := tgt_fn (ev_rep X.t hfv) htg
 obtain ⟨henters, _, hcall⟩ := hE.call _ _ _ _ _ hc
 have hyl : RepV w1 S M1 (.yld (if rd.isSome then s.h else s.h.push (.defer true)).next) (.func (.yield lb) #[] #[]) := .yld _ lb _ hlm fun _ => rfl
 have hargs : RepVL w1 S M1 (x ++ [.yld (if rd.isSome then s.h else s.h.push (.defer true)).next] ++ y) (x' ++ #[Value.func (.yield lb) #[] #[]] ++ y').toList := by
  simpa using ((hx.mono E1.keep E1.map).append (.cons hyl .nil)).append (hy.mono E1.keep E1.map)
 have hcalls := hcall B0 w1 S M1 (x' ++ #[Value.func (.yield lb) #[] #[]] ++ y') hk1 I1 hargs
 have hg2 := (hE.call _ _ _ _ _ hc).2.1
 refine ⟨lb, mark, w1, { target := .fn (.func g) y', args := x' ++ #[Value.func (.yield lb) #[] #[]] }, w1, g, x' ++ #[Value.func (.yield lb) #[] #[]] ++ y', w1, hen, ?_, fun _ _ => trivial, ?_, fun hd => absurd hd (by simp [FR]), (callsIn_FR hcalls).mono ?_⟩
 . simp only [rangeCall, resolve, evalA_eq, hev, Deferred.ofValue, Sem.run_pure]
   simp [evalA]
 . simp only [invoke]
   exact run_callFunc henters _ w1
 . rintro e w3 ⟨cv, S3, M3, rfl, I3, E3, hv3⟩
   split at hq
   case h_2 => cases hq
   rename_i st pend f' ts' ps' asg' bd' ho
   split at hq
   case isTrue => cases hq
   rename_i hst
   obtain ⟨m3, hm3, _⟩ := I3.obj _ _ ho
   obtain ⟨hg3, L, hL, hLs, hLp, hLps, hLa, hLb, hLt⟩ := loop_obj I3 ho hm3
   have hm3b : m3.b = lb := by
    obtain ⟨m4, hm4, he⟩ := E3.map _ _ hlm
    rw [hm3] at hm4
    cases hm4
    rcases he with rfl | he
    . rfl
    . simp only at he; omega
   have hend := run_endLoop (P := P) (w := w3) (l := m3.b) (r := L) hL (by rw [hLs]; exact hst)
   obtain ⟨I4, E4⟩ := I3.rewrite (n0 := (· < s.h.next)) ho hm3 (.loop { L with state := .exhausted }) (.loop .exhausted pend f' ts' ps' asg' bd') (fun w' hS hat => ⟨hg3, _, hat, rfl, hLp, hLps, hLa, hLb, hLt.mono hS fun i m hm => ⟨m, hm, .inl rfl⟩⟩)
   have hk3 : HeapOK K h2 := (hg2 hk1).2
   have hk4 : HeapOK K (h2.set (if rd.isSome then s.h else s.h.push (.defer true)).next (some (.loop .exhausted pend f' ts' ps' asg' bd'))) := hk3.set fun _ _ _ _ _ _ _ h => by cases h; exact hk3 _ _ _ _ _ _ _ _ ho
   have Etot : Ext B0 (· < s.h.next) w S M (w3.putObj m3.b (.loop { L with state := .exhausted })) S3 M3 := (E1.trans E3 fun i hi => by
    show i < Nat.succ _
    have : i < s.h.next := hi
    omega).trans E4 fun i hi => hi
   have St' : State K B0 rd ro (w3.putObj m3.b (.loop { L with state := .exhausted })) S3 M3 ⟨s.ts, h2.set (if rd.isSome then s.h else s.h.push (.defer true)).next (some (.loop .exhausted pend f' ts' ps' asg' bd')), if rd.isSome then s.marks else s.h.next :: s.marks⟩ { a with defers := mark ++ a.defers } :=
    ⟨hk4, I4, X.t.mono Etot.keep Etot.map, (hm1.mono E3.map).mono E4.map, X.r.mono Etot.map⟩
   rw [hm3b] at hend St' Etot
   refine ⟨_, _, hend, ?_⟩
   have fin : ∀ (W : World) (j : Option Code), j = pend -> State K B0 rd ro W S3 M3 ⟨s.ts, h2.set (if rd.isSome then s.h else s.h.push (.defer true)).next (some (.loop .exhausted pend f' ts' ps' asg' bd')), if rd.isSome then s.marks else s.h.next :: s.marks⟩ { a with defers := mark ++ a.defers } →
     Ext B0 (· < s.h.next) w S M W S3 M3 -> (match j with
      | none => Post K B0 rd ro s.h.next w S M o s' .normal { a with defers := mark ++ a.defers } W
      | some c => c.wpIn (FR ro) n P (Post K B0 rd ro s.h.next w S M o s') { a with defers := mark ++ a.defers } W) := by
    intro W j hj st' et
    subst hj
    split at hq
    . cases hq
      exact ⟨rfl, S3, M3, st', et⟩
    . cases hq
      exact wpIn_ret ⟨rfl, S3, M3, st', et⟩
    . cases hq
      exact wpIn_exit ⟨rfl, S3, M3, st', et⟩
    . cases hq
   exact fin _ _ hLp St' Etot
theorem exec_loop {E : Env} {f : FuncId} {rd : Option Nat} (c : Code) (s : St) : exec cfg E f rd (.loop c) s = (resetAt cfg f c s.h.next s).bind fun s => match mrOf c with
  | none => E.iter (fun s => (exec cfg E f rd c s).bind fun (o, s') => match o with
   | .norm => (resetAt cfg f c s.h.next s').map fun s' => (.norm, s')
   | o => some (o, s')) s
  | some (it, d1, d2) => mrLoop cfg f c it d1 d2 (match c with | .seq _ b => fun s => exec cfg E f rd b s | _ => fun _ => none) s := by
 cases c <;> first | rfl | skip
 simp only [exec]
 rfl
theorem exec_sound {E : Env} (hE : EnvOK K P E) (c : CfgTI cfg P) (hK : KOK cfg P K) (f : FuncId) (rd : Option Nat) : ∀ (cd : Code), K cd -> ∀ (s : St) (o : Out) (s' : St), exec cfg E f rd cd s = some (o, s') →
  Good K s.h s'.h /\ ∀ (B0 : Nat -> Prop) (ro : Option Nat) (w : World) (S : Nat -> Prop) (M : MM) (a : Act) (n : Nat), State K B0 rd ro w S M s a -> cd.wpIn (FR ro) n P (Post K B0 rd ro s.h.next w S M o s') a w := by
 intro cd
 refine (?_ : ∀ cd, (K cd -> ∀ (s : St) (o : Out) (s' : St), exec cfg E f rd cd s = some (o, s') →
  Good K s.h s'.h /\ ∀ (B0 : Nat -> Prop) (ro : Option Nat) (w : World) (S : Nat -> Prop) (M : MM) (a : Act) (n : Nat), State K B0 rd ro w S M s a -> cd.wpIn (FR ro) n P (Post K B0 rd ro s.h.next w S M o s') a w) ∧
  ∀ x y, cd = .seq x y -> K y -> ∀ (s : St) (o : Out) (s' : St), exec cfg E f rd y s = some (o, s') →
  Good K s.h s'.h /\ ∀ (B0 : Nat -> Prop) (ro : Option Nat) (w : World) (S : Nat -> Prop) (M : MM) (a : Act) (n : Nat), State K B0 rd ro w S M s a -> y.wpIn (FR ro) n P (Post K B0 rd ro s.h.next w S M o s') a w) cd |>.1
 intro cd
 induction cd with
 | skip =>
  refine ⟨?_, fun _ _ h => by cases h⟩
  intro hk s o s' hq
  cases hq
  exact ⟨.refl _ _, fun B0 ro w S M a n X => wpIn_skip ⟨rfl, S, M, X, Ext.refl ..⟩⟩
 | region id ops draw =>
  refine ⟨?_, fun _ _ h => by cases h⟩
  intro hk s o s' hq
  simp only [exec, oM, Prod.mk.injEq] at hq
  obtain ⟨s1, hr, rfl, rfl⟩ := hq
  refine ⟨region_good hE hr, fun B0 ro w S M a n X => ?_⟩
  have hmk : s1.marks = s.marks := region_marks hr
  have fin : ∀ a' w' S' M', Inv B0 w' S' M' s1.h -> Ext B0 (· < s.h.next) w S M w' S' M' -> RepTs w' S' M' s1.ts a'.tmps -> a'.defers = a.defers -> Post K B0 rd ro s.h.next w S M .norm s1 .normal a' w' :=
   fun a' w' S' M' I' E' t' d' => ⟨rfl, S', M', ⟨(region_good hE hr X.k).2, I', t', by rw [hmk, d']; exact X.m.mono E'.map, X.r.mono E'.map⟩, E'⟩
  cases draw with
  | false => exact region_wp hE c X.k X.I X.t hr fin
  | true => exact hK.draw hk hE X.k X.I X.t hr fin
 | seq x y ihx ihy =>
  replace ihx := ihx.1
  refine ⟨?_, fun _ _ h => by cases h; exact ihy.1⟩
  replace ihy := ihy.1
  intro hk s o s' hq
  obtain ⟨kx, ky⟩ := hK.seq _ _ hk
  simp only [exec, oB] at hq
  obtain ⟨⟨o1, s1⟩, h1, hq⟩ := hq
  obtain ⟨g1, w1⟩ := ihx kx s o1 s1 h1
  cases o1 with
  | norm =>
   simp only at hq
   obtain ⟨g2, w2⟩ := ihy ky s1 o s' hq
   refine ⟨g1.trans g2, fun B0 ro w S M a n X => wpIn_seq (wpIn_mono (w1 B0 ro w S M a n X) ?_)⟩
   rintro e a1 w1' ⟨rfl, S1, M1, X1, E1⟩
   exact wpIn_mono (w2 B0 ro w1' S1 M1 a1 n X1) fun e a2 w2' hp => hp.trans E1 (g1 X.k).1
  | ret =>
   cases hq
   refine ⟨g1, fun B0 ro w S M a n X => wpIn_seq (wpIn_mono (w1 B0 ro w S M a n X) ?_)⟩
   rintro e a1 w1' hp
   have := hp.1; subst this
   exact hp
  | exit id =>
   cases hq
   refine ⟨g1, fun B0 ro w S M a n X => wpIn_seq (wpIn_mono (w1 B0 ro w S M a n X) ?_)⟩
   rintro e a1 w1' hp
   have := hp.1; subst this
   exact hp
 | cond cc x y ihx ihy =>
  replace ihx := ihx.1
  replace ihy := ihy.1
  refine ⟨?_, fun _ _ h => by cases h⟩
  intro hk s o s' hq
  obtain ⟨kx, ky⟩ := hK.cond _ _ _ hk
  simp only [exec, oB] at hq
  obtain ⟨v, hv, hq⟩ := hq
  split at hq
  case h_2 => cases hq
  rename_i t
  have hc : ∀ {B0 : Nat -> Prop} {ro : Option Nat} {w : World} {S : Nat -> Prop} {M : MM} {a : Act}, State K B0 rd ro w S M s a -> a.eval cc = .bool t := fun X => by
   rw [evalA_eq]; exact repT_bool (repV_t (ev_rep X.t hv))
  cases t with
  | true =>
   obtain ⟨g, wx⟩ := ihx kx s o s' hq
   exact ⟨g, fun B0 ro w S M a n X => wpIn_cond (hc X) (wx B0 ro w S M a n X)⟩
  | false =>
   obtain ⟨g, wx⟩ := ihy ky s o s' hq
   exact ⟨g, fun B0 ro w S M a n X => wpIn_cond (hc X) (wx B0 ro w S M a n X)⟩
 | block id x ih =>
  replace ih := ih.1
  refine ⟨?_, fun _ _ h => by cases h⟩
  intro hk s o s' hq
  simp only [exec, oM] at hq
  obtain ⟨⟨o1, s1⟩, h1, hq⟩ := hq
  obtain ⟨g, wx⟩ := ih (hK.block _ _ hk) s o1 s1 h1
  cases o1 with
  | norm =>
   cases hq
   exact ⟨g, fun B0 ro w S M a n X => wpIn_block (wpIn_mono (wx B0 ro w S M a n X) fun e a' w' hp => by have := hp.1; subst this; exact hp)⟩
  | ret =>
   cases hq
   exact ⟨g, fun B0 ro w S M a n X => wpIn_block (wpIn_mono (wx B0 ro w S M a n X) fun e a' w' hp => by have := hp.1; subst this; exact hp)⟩
  | exit j =>
   simp only [Prod.mk.injEq] at hq
   obtain ⟨rfl, rfl⟩ := hq
   refine ⟨g, fun B0 ro w S M a n X => wpIn_block (wpIn_mono (wx B0 ro w S M a n X) fun e a' w' hp => ?_)⟩
   obtain ⟨h1, hp⟩ := hp
   subst h1
   by_cases e : j = id
   . simp only [outOf, Exit.inBlock, if_pos e]
     exact ⟨rfl, hp⟩
   . simp only [outOf, Exit.inBlock, if_neg e]
     exact ⟨rfl, hp⟩
 | loop x ih =>
  obtain ⟨ih, iht⟩ := ih
  refine ⟨?_, fun _ _ h => by cases h⟩
  intro hk s o s' hq
  have kx := hK.loop _ hk
  rw [exec_loop] at hq
  simp only [oB] at hq
  obtain ⟨s0, hs0, hq⟩ := hq
  cases hmr : mrOf x with
  | some p =>
   obtain ⟨it, d1, d2⟩ := p
   obtain ⟨rid, o1, o2, rest, rfl, e1, e2, e3, e4, ne1, ne2, ne3, g1, g2⟩ := mrOf_spec hmr
   rw [hmr] at hq
   simp only at hq
   have hr := iht _ _ rfl (hK.seq _ _ kx).2
   have g0 := reset_good (Good.refl K s.h) hs0
   refine ⟨g0.trans (mr_good (fun s o s' h => (hr s o s' h).1) hq), fun B0 ro w S M a n X => ?_⟩
   obtain ⟨M0, X0, E0, _, hle0⟩ := reset_state X X (Ext.refl ..) (Good.refl K s.h) hs0
   exact wpIn_mono (mr_wp hr e1 e2 e3 e4 ne1 ne2 ne3 g1 g2 X0 hq n) fun e a' w' hp => hp.trans E0 hle0
  | none =>
  rw [hmr] at hq
  simp only at hq
  obtain ⟨i, hi⟩ := hE.iter _ _ _ (by simpa only [oB] using hq)
  have body : ∀ {s1 : St} {o1 : Out} {s3 : St}, ((exec cfg E f rd x s1).bind fun (p : Out × St) => match p.1 with
    | .norm => (resetAt cfg f x s1.h.next p.2).map fun s' => (Out.norm, s')
    | o => some (o, p.2)) = some (o1, s3) -> ∃ s2, exec cfg E f rd x s1 = some (o1, s2) /\ ((o1 = .norm /\ resetAt cfg f x s1.h.next s2 = some s3) \/ (o1 ≠ .norm /\ s3 = s2)) := by
   intro s1 o1 s3 h
   simp only [oB] at h
   obtain ⟨⟨o2, s2⟩, h1, h⟩ := h
   cases o2 with
   | norm =>
    simp only [oM, Prod.mk.injEq] at h
    obtain ⟨s', h, rfl, rfl⟩ := h
    exact ⟨s2, h1, .inl ⟨rfl, h⟩⟩
   | ret => cases h; exact ⟨_, h1, .inr ⟨by simp, rfl⟩⟩
   | exit id => cases h; exact ⟨_, h1, .inr ⟨by simp, rfl⟩⟩
  have good : ∀ (i : Nat) (s : St), iterN i (fun s => (exec cfg E f rd x s).bind fun (p : Out × St) => match p.1 with
    | .norm => (resetAt cfg f x s.h.next p.2).map fun s' => (Out.norm, s')
    | o => some (o, p.2)) s = some (o, s') -> Good K s.h s'.h := by
   intro i
   induction i with
   | zero => intro s h; cases h
   | succ i ihi =>
    intro s h
    simp only [iterN, oB] at h
    obtain ⟨⟨o1, s1⟩, h1, h⟩ := h
    obtain ⟨s2, h2, h3⟩ := body (by simpa only [oB] using h1)
    have g1 := (ih kx s o1 s2 h2).1
    rcases h3 with ⟨rfl, h3⟩ | ⟨hne, rfl⟩
    . exact (reset_good g1 h3).trans (ihi s1 h)
    . cases o1 with
      | norm => exact absurd rfl hne
      | ret => cases h; exact g1
      | exit id => cases h; exact g1
  have g0 := reset_good (Good.refl K s.h) hs0
  refine ⟨g0.trans (good i s0 hi), fun B0 ro w S M a n X => ?_⟩
  obtain ⟨M0, X0, E0, _, hle0⟩ := reset_state X X (Ext.refl ..) (Good.refl K s.h) hs0
  refine wpIn_loop_iter (fun i a1 w1 => ∃ s1 S1 M1, iterN i (fun s => (exec cfg E f rd x s).bind fun (p : Out × St) => match p.1 with
    | .norm => (resetAt cfg f x s.h.next p.2).map fun s' => (Out.norm, s')
    | o => some (o, p.2)) s1 = some (o, s') /\ State K B0 rd ro w1 S1 M1 s1 a1 /\ Ext B0 (· < s.h.next) w S M w1 S1 M1 /\ s.h.next <= s1.h.next) ?_ (i := i) ⟨s0, S, M0, hi, X0, E0, hle0⟩
  rintro i a1 w1 ⟨s1, S1, M1, h1, X1, E1, hn1⟩
  cases i with
  | zero => cases h1
  | succ i =>
   simp only [iterN, oB] at h1
   obtain ⟨⟨o2, s3⟩, h2, h1⟩ := h1
   obtain ⟨s2, h2, h3⟩ := body (by simpa only [oB] using h2)
   obtain ⟨g2, w2⟩ := ih kx s1 o2 s2 h2
   refine wpIn_mono (w2 B0 ro w1 S1 M1 a1 n X1) ?_
   rintro e a2 w2' hp
   have hp' := hp.trans E1 hn1
   rcases h3 with ⟨rfl, h3⟩ | ⟨hne, rfl⟩
   . obtain ⟨rfl, S2, M2, X2, E2⟩ := hp
     obtain ⟨M3, X3, E3, _, hle⟩ := reset_state X1 X2 E2 g2 h3
     exact ⟨i, Nat.lt_succ_self i, s3, S2, M3, h1, X3, E1.trans E3 (fun i hi => Nat.lt_of_lt_of_le hi hn1), Nat.le_trans hn1 hle⟩
   . cases o2 with
     | norm => exact absurd rfl hne
     | ret =>
      cases h1
      have := hp'.1; subst this
      exact hp'
     | exit id =>
      cases h1
      have := hp'.1; subst this
      exact hp'
 | rangeFunc fo ps asg bd _ _ =>
  refine ⟨?_, fun _ _ h => by cases h⟩
  intro hk s o s' hq
  obtain ⟨ka, kb⟩ := hK.range _ _ _ _ hk
  simp only [exec, oB] at hq
  obtain ⟨fv, hfv, ⟨tgt, x, y⟩, htg, hq⟩ := hq
  cases tgt with
  | yld l => cases hq
  | fn g =>
   simp only at hq
   split at hq
   case isFalse => cases hq
   rename_i hc
   simp only [Bool.and_eq_true, decide_eq_true_eq] at hc
   have hq' : rangeTail E f rd s g x y ps.toList asg bd = some (o, s') := hq
   exact ⟨range_good hE ka kb hq', fun B0 ro w S M a n X => range_wp hE X ka kb hfv htg hc.2 hq' n⟩
 | exit id =>
  refine ⟨?_, fun _ _ h => by cases h⟩
  intro hk s o s' hq
  cases hq
  exact ⟨.refl _ _, fun B0 ro w S M a n X => wpIn_exit ⟨rfl, S, M, X, Ext.refl ..⟩⟩
 | scope x ih =>
  replace ih := ih.1
  refine ⟨?_, fun _ _ h => by cases h⟩
  intro hk s o s' hq
  obtain ⟨g, wx⟩ := ih (hK.scope _ hk) s o s' hq
  refine ⟨g, fun B0 ro w S M a n X => wpIn_scope (wpIn_mono (wx B0 ro w S M a n X) fun e a' w' hp => ⟨?_, hp⟩)⟩
  have := hp.1; subst this
  cases o <;> trivial
 | label l =>
  refine ⟨?_, fun _ _ h => by cases h⟩
  intro hk s o s' hq
  cases hq
  exact ⟨.refl _ _, fun B0 ro w S M a n X => wpIn_label ⟨rfl, S, M, X, Ext.refl ..⟩⟩
 | goto l => exact ⟨fun hk s o s' hq => (by cases hq), fun _ _ h => by cases h⟩
 | ret =>
  refine ⟨?_, fun _ _ h => by cases h⟩
  intro hk s o s' hq
  cases hq
  exact ⟨.refl _ _, fun B0 ro w S M a n X => wpIn_ret ⟨rfl, S, M, X, Ext.refl ..⟩⟩
 | refuse why => exact ⟨fun hk s o s' hq => (by cases hq), fun _ _ h => by cases h⟩
end
end Go.Apex
