import Derived.Test.YtcljaeknhmpecaaGreatApexA27
set_option linter.all false
namespace Go.Apex
open Go Go.RowKit
variable [Globs]
section
variable {cfg : Cfg} {P : Program} {B0 : Nat -> Prop} {n0 : Nat -> Prop} {w : World} {S : Nat -> Prop} {M : MM} {h : Heap} {ts : Ts} {slot : Nat} {K : Code -> Prop}
theorem setParams_rep : ∀ (ps : List Tmp) (args : List V) (ts ts0 : Ts) (a : Array Value) (cs : List Value), setParams ts ps args = some ts0 -> RepTs w S M ts a -> RepVL w S M args cs →
  ps.length = args.length /\ RepTs w S M ts0 ((ps.zip cs).foldl (fun tmps (t, a) => tmps.setIfInBounds t a) a)
 | [], [], ts, ts0, a, cs, hq, ht, hr => by
  simp only [setParams, oI] at hq
  subst hq
  exact ⟨rfl, by simpa using ht⟩
 | p :: ps, v :: args, ts, ts0, a, [], hq, ht, hr => by simp [RepVL] at hr
 | p :: ps, v :: args, ts, ts0, a, c :: cs, hq, ht, hr => by
  obtain ⟨hv, hr⟩ := hr.tail
  obtain ⟨h1, h2⟩ := setParams_rep ps args (ts.upd v p) ts0 (a.setIfInBounds p c) cs hq (ht.upd p hv) hr
  exact ⟨by simp [h1], by simpa using h2⟩
 | [], _ :: _, ts, ts0, a, cs, hq, ht, hr => by cases hq
 | _ :: _, [], ts, ts0, a, cs, hq, ht, hr => by cases hq
theorem setArgs_get : ∀ (args : List V) (ts : Ts) (k i : Nat), (setArgs ts k args).get i = if k <= i /\ i < k + args.length /\ (ts.get i).isSome then args[i - k]? else ts.get i
 | [], ts, k, i => by
  simp only [setArgs, List.length_nil, Nat.add_zero]
  rw [if_neg (by omega)]
 | v :: args, ts, k, i => by
  simp only [setArgs]
  rw [setArgs_get args, Tm.get_upd]
  by_cases e : i = k
  . subst e
    rw [if_neg (by omega), if_pos rfl]
    cases hg : ts.get i with
    | none => simp
    | some u => simp
  . rw [if_neg e]
    by_cases c1 : k + 1 <= i /\ i < k + 1 + args.length /\ (ts.get i).isSome
    . rw [if_pos c1, if_pos ⟨by omega, by simp; omega, c1.2.2⟩]
      have : i - k = (i - (k + 1)) + 1 := by omega
      rw [this, List.getElem?_cons_succ]
    . rw [if_neg c1, if_neg (by simp only [List.length_cons]; rintro ⟨a1, a2, a3⟩; exact c1 ⟨by omega, by omega, a3⟩)]
theorem args_rep {args : List V} {cargs : Array Value} (hr : RepVL w S M args cargs.toList) {n : Nat} (hn : args.length <= n) :
  RepTs w S M (setArgs (Tm.blank undefV n) 0 args) (cargs ++ Array.replicate (n - cargs.size) undef) := by
 have hl : args.length = cargs.size := by simpa using hr.1
 intro i
 rw [setArgs_get, Tm.get_blank]
 by_cases c1 : i < args.length
 . rw [if_pos ⟨Nat.zero_le _, by omega, by rw [if_pos (by omega)]; rfl⟩, Nat.sub_zero]
   have hlt : i < cargs.size := by omega
   rw [gE c1]
   refine ⟨cargs[i], by rw [Array.getElem?_append_left hlt]; simp [hlt], hr.2 i _ _ (gE c1) (by simp [hlt])⟩
 . rw [if_neg (by omega)]
   by_cases c2 : i < n
   . rw [if_pos c2]
     refine ⟨undef, ?_, undef_rep⟩
     rw [Array.getElem?_append_right (by omega), Array.getElem?_replicate, if_pos (by omega)]
   . rw [if_neg c2]
     simp only
     rw [Array.getElem?_eq_none]
     simp; omega
theorem inLoop_obj {l : Nat} {st : LoopState} {pend : Option Code} {f : FuncId} {ts : Ts} {ps : List Tmp} {asg bd : Code} (hk : HeapOK K h) (ho : h.obj l = some (.loop st pend f ts ps asg bd)) (st' : LoopState) (pend' : Option Code) :
  HeapOK K (h.set l (some (.loop st' pend' f ts ps asg bd))) := hk.set fun _ _ _ _ _ _ _ e => by cases e; exact hk _ _ _ _ _ _ _ _ ho
theorem round_ok {E : Env} (hE : EnvOK K P E) (c : CfgTI cfg P) (hK : KOK cfg P K) {l : Nat} {args : List V} {v : V} {h' : Heap} (hq : round cfg E l args h = some (v, h')) :
  Good K h h' /\ ∀ (B0 : Nat -> Prop) (w : World) (S : Nat -> Prop) (M : MM) (cargs : Array Value) (m : MI), HeapOK K h -> Inv B0 w S M h -> RepVL w S M args cargs.toList -> M l = some m →
  m.gen = 0 /\ ∃ f tmps asg bd, (Instr.yield m.b cargs).run P w = .ok (.round m.b f tmps asg bd) w /\ ∀ ro n, RoundIn (FR ro) n P m.b f tmps asg bd w fun e w' => ∃ cv S' M', e = .returned cv /\ Inv B0 w' S' M' h' /\ Ext B0 (· < h.next) w S M w' S' M' /\ RepV w' S' M' v cv := by
 unfold round at hq
 split at hq
 case h_2 => cases hq
 rename_i st0 pend0 f ts ps asg bd ho
 simp only [oB] at hq
 obtain ⟨ts0, hsp, ⟨o1, s1⟩, hx1, hq⟩ := hq
 cases o1 with
 | ret => cases hq
 | exit id => cases hq
 | norm =>
  simp only at hq
  split at hq
  case h_2 => cases hq
  rename_i pend1 f1 ts1 ps1 asg1 bd1 ho1
  simp only [oB] at hq
  obtain ⟨⟨o2, s2⟩, hx2, hq⟩ := hq
  split at hq
  case h_2 => cases hq
  rename_i st2 pend2 f2 ts2 ps2 asg2 bd2 ho2
  have e1 : K asg -> Good K h s1.h /\ _ := fun ka => exec_sound hE c hK f (some l) asg ka _ _ _ hx1
  have e2 : K bd -> Good K (s1.h.set l (some (.loop .busy pend1 f1 ts1 ps1 asg1 bd1))) s2.h /\ _ := fun kb => exec_sound hE c hK f (some l) bd kb _ _ _ hx2
  simp only [oM, Prod.mk.injEq] at hq
  obtain ⟨h'', hq, hv, rfl⟩ := hq
  have hh' : ∃ st3 pend3, resetRound cfg f bd h.next ts2 (s2.h.set l (some (.loop st3 pend3 f2 ts2 ps2 asg2 bd2))) = some h'' := by
   cases o2 <;> exact ⟨_, _, hq⟩
  refine ⟨fun hk => ?_, fun B0 w S M cargs m hk I hr hm => ?_⟩
  . obtain ⟨ka, kb⟩ := hk _ _ _ _ _ _ _ _ ho
    obtain ⟨g1, _⟩ := e1 ka
    obtain ⟨g2, _⟩ := e2 kb
    obtain ⟨st3, pend3, hh⟩ := hh'
    have k1 := g1 hk
    have k2 := g2 (inLoop_obj k1.2 ho1 .busy pend1)
    have k3 := inLoop_obj k2.2 ho2 st3 pend3
    obtain ⟨r1, r2⟩ := resetRound_sub hh (Nat.le_trans k1.1 k2.1)
    exact ⟨r1, fun _ _ _ _ _ _ _ _ ho => k3 _ _ _ _ _ _ _ _ (r2 _ _ ho)⟩
  . obtain ⟨ka, kb⟩ := hk _ _ _ _ _ _ _ _ ho
    obtain ⟨g1, w1⟩ := e1 ka
    obtain ⟨g2, w2⟩ := e2 kb
    obtain ⟨hg, L, hL, hLs, hLp, hLps, hLa, hLb, hLt⟩ := loop_obj I ho hm
    obtain ⟨hpl, hts0⟩ := setParams_rep ps args ts ts0 L.tmps cargs.toList hsp hLt hr
    have hsize : cargs.size = L.params.size := by
     have h1 : args.length = cargs.size := by simpa using hr.1
     have h2 : L.params.size = ps.length := by rw [<- hLps]; simp
     omega
    refine ⟨hg, L.fn, _, L.assign, L.body, run_yield hL hsize, fun ro n => roundIn_of_wpIn trivial ?_⟩
    have hfold : ((L.params.zip cargs).foldl (fun tmps (t, a) => tmps.setIfInBounds t a) L.tmps) = ((ps.zip cargs.toList).foldl (fun tmps (t, a) => tmps.setIfInBounds t a) L.tmps) := by
     rw [<- Array.foldl_toList, Array.toList_zip, hLps]
    rw [hfold, hLa, hLb]
    have hroOK : RoOK M (some l) (some m.b) := ⟨m, hm, fun _ => rfl⟩
    refine wpIn_mono (w1 B0 (some m.b) w S M { tmps := (ps.zip cargs.toList).foldl (fun tmps (t, a) => tmps.setIfInBounds t a) L.tmps, defers := [] } n ⟨hk, I, hts0, trivial, hroOK⟩) ?_
    rintro e a1 W1 ⟨rfl, S1, M1, X1, E1⟩
    obtain ⟨m1, hm1, hmr⟩ := E1.map l m hm
    obtain ⟨hg1, L1, hL1, hLs1, hLp1, hLps1, hLa1, hLb1, hLt1⟩ := loop_obj X1.I ho1 hm1
    have hb1 : m1.b = m.b := by
     rcases hmr with rfl | hmr
     . rfl
     . omega
    have hbr := run_beginRound (P := P) (w := W1) (l := m1.b) hL1 hLs1
    obtain ⟨I2, E2⟩ := X1.I.rewrite (n0 := (· < h.next)) ho1 hm1 (.loop { L1 with state := .busy }) (.loop .busy pend1 f1 ts1 ps1 asg1 bd1) (fun w' hS hat => ⟨hg1, _, hat, rfl, hLp1, hLps1, hLa1, hLb1, hLt1.mono hS fun i m hm => ⟨m, hm, .inl rfl⟩⟩)
    rw [hb1] at hbr I2 E2
    refine ⟨_, hbr, ?_⟩
    have X2 : State K B0 (some l) (some m.b) (W1.putObj m.b (.loop { L1 with state := .busy })) S1 M1 { s1 with h := s1.h.set l (some (.loop .busy pend1 f1 ts1 ps1 asg1 bd1)) } a1 :=
     ⟨inLoop_obj X1.k ho1 .busy pend1, I2, X1.t.mono E2.keep E2.map, X1.m, X1.r⟩
    refine wpIn_mono (w2 B0 (some m.b) _ S1 M1 a1 n X2) ?_
    rintro e a2 W2 ⟨rfl, S2, M2, X3, E3⟩
    obtain ⟨m2, hm2, hmr2⟩ := E3.map l m1 hm1
    obtain ⟨hg2, L2, hL2, hLs2, hLp2, hLps2, hLa2, hLb2, hLt2⟩ := loop_obj X3.I ho2 hm2
    have hb2 : m2.b = m.b := by
     rcases hmr2 with rfl | hmr2
     . exact hb1
     . omega
    have Etot : Ext B0 (· < h.next) w S M W2 S2 M2 := (E1.trans E2 fun i hi => hi).trans E3 fun i hi => Nat.lt_of_lt_of_le hi (g1 hk).1
    have fin : ∀ (st3 : LoopState) (pend3 jump : Option Code) (W3 : World), W3 = W2.putObj m2.b (.loop { L2 with state := st3, pending := pend3 }) -> resetRound cfg f bd h.next ts2 (s2.h.set l (some (.loop st3 pend3 f2 ts2 ps2 asg2 bd2))) = some h'' -> v = .t (.bool jump.isNone) →
      ∃ cv S' M', Ending.returned (.bool jump.isNone) = .returned cv /\ Inv B0 W3 S' M' h'' /\ Ext B0 (· < h.next) w S M W3 S' M' /\ RepV W3 S' M' v cv := by
     intro st3 pend3 jump W3 hW hh hv
     obtain ⟨I3, E4⟩ := X3.I.rewrite (n0 := (· < h.next)) ho2 hm2 (.loop { L2 with state := st3, pending := pend3 }) (.loop st3 pend3 f2 ts2 ps2 asg2 bd2) (fun w' hS hat => ⟨hg2, _, hat, rfl, rfl, hLps2, hLa2, hLb2, hLt2.mono hS fun i m hm => ⟨m, hm, .inl rfl⟩⟩)
     subst hW hv
     have Ef := Etot.trans E4 fun i hi => hi
     obtain ⟨M3, I4, E5⟩ := resetRound_run I3 Ef (fun id m hm => (I.at_ id m hm).2.2) (Nat.le_trans (g1 hk).1 (g2 (inLoop_obj X1.k ho1 .busy pend1)).1) hh
     exact ⟨_, S2, M3, rfl, I4, E5, .t _ _ (.bool _)⟩
    subst hv
    cases o2 with
    | norm =>
     have he := run_endRound (P := P) (w := W2) (l := m2.b) none hL2
     rw [hb2] at he
     exact ⟨_, _, he, fin .ready none none _ (by rw [hb2]; rfl) hq rfl⟩
    | ret =>
     have he := run_endRound (P := P) (w := W2) (l := m2.b) (some .ret) hL2
     rw [hb2] at he
     exact ⟨_, _, he, fin .done (some .ret) (some .ret) _ (by rw [hb2]; rfl) hq rfl⟩
    | exit id =>
     have he := run_endRound (P := P) (w := W2) (l := m2.b) (some (.exit id)) hL2
     rw [hb2] at he
     exact ⟨_, _, he, fin .done (some (.exit id)) (some (.exit id)) _ (by rw [hb2]; rfl) hq rfl⟩
end
end Go.Apex
