import Derived.Test.YtcljaeknhmpecaaGreatApexA34
set_option linter.all false
namespace Go.Apex
open Go
instance noGlobs : Globs := ⟨fun _ => True, 0, fun _ _ _ h => h⟩
section
variable {cfg : Cfg}
structure Env.Le (E E' : Env) : Prop where
 pure : ∀ f xs r, E.pure f xs = some r -> E'.pure f xs = some r
 call : ∀ t vs h r, E.call t vs h = some r -> E'.call t vs h = some r
 iter : ∀ g g' s r, (∀ s r, g s = some r -> g' s = some r) -> E.iter g s = some r -> E'.iter g' s = some r
theorem bind_le {α β : Type} {a a' : Option α} {f f' : α -> Option β} {r : β} (ha : ∀ x, a = some x -> a' = some x) (hf : ∀ x r, f x = some r -> f' x = some r) (h : a.bind f = some r) : a'.bind f' = some r := by
 cases a with
 | none => cases h
 | some x => rw [ha x rfl]; exact hf x r h
theorem map_le {α β : Type} {a a' : Option α} {f : α -> β} {r : β} (ha : ∀ x, a = some x -> a' = some x) (h : a.map f = some r) : a'.map f = some r := by
 cases a with
 | none => cases h
 | some x => rw [ha x rfl]; exact h
variable {E E' : Env} (L : E.Le E')
include L
theorem quietCall_le {f : FuncId} {args : List V} {hb : Rd} {r : V} (h : quietCall cfg E f args hb = some r) : quietCall cfg E' f args hb = some r := by
 unfold quietCall at h ⊢
 split at h
 . exact bind_le (fun _ h => h) (fun xs r h => map_le (fun x h => L.pure _ _ _ h) h) h
 . exact bind_le (fun _ h => h) (fun xs r h => bind_le (fun x h => L.pure _ _ _ h) (fun _ _ h => h) h) h
 all_goals cases h
theorem framedCall_le {fl : TypeId -> Bool} {f : FuncId} {args : List V} {h : Heap} {r : V × Heap} (hq : framedCall fl E f args h = some r) : framedCall fl E' f args h = some r := by
 unfold framedCall at hq ⊢
 generalize (fetch fl h.obj scanFuel args []).reverse = ids at hq ⊢
 refine bind_le (fun _ h => h) (fun t r h => ?_) hq
 simp only at h ⊢
 cases hc : (V.bdL ids.length (V.renL (fun id => placeIn id ids) args) && nodupB ids) with
 | false => rw [hc] at h; cases h
 | true =>
  rw [hc] at h
  exact bind_le (fun x h => L.call _ _ _ _ h) (fun _ _ h => h) h
theorem doCall_le {t : Tgt} {args : List V} {h : Heap} {r : V × Heap} (hq : doCall cfg E t args h = some r) : doCall cfg E' t args h = some r := by
 unfold doCall at hq ⊢
 split at hq
 . split at hq
   . exact L.call _ _ _ _ hq
   . exact framedCall_le L hq
   . exact map_le (fun x h => quietCall_le L h) hq
 . exact L.call _ _ _ _ hq
theorem freshCall_le {slot : Nat} {f : FuncId} {args : List V} {hb : Rd} {r : V × Option Obj} (hq : freshCall E slot f args hb = some r) : freshCall E' slot f args hb = some r := by
 unfold freshCall at hq ⊢
 split at hq
 . exact bind_le (fun x h => L.call _ _ _ _ h) (fun _ _ h => h) hq
 . exact bind_le (fun _ h => h) (fun xs r h => bind_le (fun x h => L.call _ _ _ _ h) (fun _ _ h => h) h) hq
theorem quiet_le {imm : Bool} {o : Op} {slot : Nat} {ts : Ts} {hb : Rd} {r : V × Option Obj} (hq : quiet cfg E imm o slot ts hb = some r) : quiet cfg E' imm o slot ts hb = some r := by
 cases o <;> try exact hq
 rename_i c
 simp only [quiet] at hq ⊢
 unfold qCall at hq ⊢
 split at hq
 . exact hq
 . refine bind_le (fun _ h => h) (fun vs r h => ?_) hq
   split at h
   . exact freshCall_le L h
   . generalize twinAt cfg imm _ = tw at h ⊢
     cases tw with
     | true => exact freshCall_le L h
     | false => unfold one at h ⊢; exact map_le (fun x h => quietCall_le L h) h
 . cases hq
theorem loud_le {o : Op} {slot : Nat} {ts : Ts} {h : Heap} {r : V × Heap} (hq : loud cfg E o slot ts h = some r) : loud cfg E' o slot ts h = some r := by
 cases o <;> try exact hq
 rename_i c
 simp only [loud] at hq ⊢
 unfold lCall at hq ⊢
 split at hq
 . exact hq
 . exact hq
 . exact hq
 . cases hq
 . exact bind_le (fun _ h => h) (fun fv r h => bind_le (fun _ h => h) (fun (_, _, _) r h => bind_le (fun _ h => h) (fun vs r h => doCall_le L h) h) h) hq
 . cases hq
theorem stepOp_le {im : Tmp -> Bool} {draw : Bool} {ops : List Oper} {base slot : Nat} {o : Oper} {ts : Ts} {h : Heap} {r : Ts × Heap} (hq : stepOp cfg E im draw ops base slot o ts h = some r) : stepOp cfg E' im draw ops base slot o ts h = some r := by
 unfold stepOp at hq ⊢
 refine bind_le (fun _ h => h) (fun b r h => ?_) hq
 cases b with
 | false => exact h
 | true =>
  simp only [cond_true] at h ⊢
  cases hl : (isLoud cfg o && !quietApp draw im ops o) <;> rw [hl] at h
  . exact map_le (fun x h => bind_le (fun x h => quiet_le L h) (fun _ _ h => h) h) h
  . exact map_le (fun x h => bind_le (fun x h => loud_le L h) (fun _ _ h => h) h) h
theorem runOps_le {im : Tmp -> Bool} {draw : Bool} {ops : List Oper} {base : Nat} : ∀ {rest : List Oper} {slot : Nat} {ts : Ts} {h : Heap} {r : Ts × Heap}, runOps cfg E im draw ops base rest slot ts h = some r -> runOps cfg E' im draw ops base rest slot ts h = some r
 | [], _, _, _, _, hq => hq
 | o :: rest, _, _, _, _, hq => bind_le (fun _ h => stepOp_le L h) (fun (_, _) r h => runOps_le h) hq
theorem stepP_le {im : Tmp -> Bool} {l : List Nat} {lay : List Tmp} {ops : List Oper} {base slot : Nat} {o : Oper} {ts : Ts} {h : Heap} {r : Ts × Heap} (hq : stepP cfg E im l lay ops base slot o ts h = some r) : stepP cfg E' im l lay ops base slot o ts h = some r := by
 unfold stepP at hq ⊢
 refine bind_le (fun _ h => h) (fun b r h => ?_) hq
 cases b with
 | false => exact h
 | true =>
  simp only [cond_true] at h ⊢
  cases hl : (isLoud cfg o && !quietApp true im ops o) <;> rw [hl] at h
  . exact bind_le (fun x h => bind_le (fun x h => quiet_le L h) (fun _ _ h => h) h) (fun _ _ h => h) h
  . exact bind_le (fun x h => bind_le (fun x h => loud_le L h) (fun _ _ h => h) h) (fun _ _ h => h) h
theorem runP_le {im : Tmp -> Bool} {l : List Nat} {lay : List Tmp} {ops : List Oper} {base : Nat} : ∀ {rest : List Oper} {slot : Nat} {ts : Ts} {h : Heap} {r : Ts × Heap}, runP cfg E im l lay ops base rest slot ts h = some r -> runP cfg E' im l lay ops base rest slot ts h = some r
 | [], _, _, _, _, hq => hq
 | o :: rest, _, _, _, _, hq => bind_le (fun _ h => stepP_le L h) (fun (_, _) r h => runP_le h) hq
theorem region_le {f : FuncId} {id : Nat} {draw : Bool} {ops : List Oper} {s s' : St} (hq : region cfg E f id draw ops s = some s') : region cfg E' f id draw ops s = some s' :=
 bind_le (fun x h => h) (fun (_, _) r h => bind_le (fun x h => by
  split at h
  . exact runOps_le L h
  . exact runP_le L h) (fun (_, _) r h => h) h) hq
omit L in
theorem mrRound_le {f : FuncId} {c : Code} {it d1 d2 : Tmp} {id : Nat} {g g' : St -> Option (Out × St)} (hg : ∀ s r, g s = some r -> g' s = some r) {k v : T} {s s' : St} (h : mrRound cfg f c it d1 d2 id g k v s = some s') : mrRound cfg f c it d1 d2 id g' k v s = some s' := by
 unfold mrRound at h ⊢
 cases hr : mrReady it d1 id s <;> rw [hr] at h
 . cases h
 . exact bind_le (fun x h => hg _ _ h) (fun _ _ h => h) h
omit L in
theorem mrEnd_le {it d1 d2 : Tmp} {id : Nat} {g g' : St -> Option (Out × St)} (hg : ∀ s r, g s = some r -> g' s = some r) {s : St} {r : Out × St} (h : mrEnd it d1 d2 id g s = some r) : mrEnd it d1 d2 id g' s = some r := by
 unfold mrEnd at h ⊢
 cases hr : mrReady it d1 id s <;> rw [hr] at h
 . cases h
 . exact bind_le (fun x h => hg _ _ h) (fun _ _ h => h) h
omit L in
theorem mrFind_le {rnd rnd' : T -> T -> St -> Option St} (hg : ∀ k v s r, rnd k v s = some r -> rnd' k v s = some r) {s0 : St} : ∀ (kv : List (T × T)) (i : Nat) (q : Option (Nat × St)), mrFind rnd s0 i kv = some q -> mrFind rnd' s0 i kv = some q
 | [], _, _, h => h
 | (k, v) :: r, i, q, h => bind_le (fun x h => hg _ _ _ _ h) (fun s1 q h => bind_le (fun x h => mrFind_le hg r (i + 1) _ h) (fun _ _ h => h) h) h
omit L in
theorem mrStay_le {rnd rnd' : T -> T -> St -> Option St} (hg : ∀ k v s r, rnd k v s = some r -> rnd' k v s = some r) {sk : St} {j : Nat} : ∀ (kv : List (T × T)) (i : Nat), mrStay rnd sk j i kv = true -> mrStay rnd' sk j i kv = true
 | [], _, h => h
 | (k, v) :: r, i, h => by
  simp only [mrStay, Bool.and_eq_true] at h ⊢
  refine ⟨?_, mrStay_le hg r (i + 1) h.2⟩
  cases hb : Nat.beq i j with
  | true => rfl
  | false =>
   have h1 := h.1
   rw [hb] at h1
   simp only [cond_false] at h1 ⊢
   split at h1
   . rename_i s1 hs
     rw [hg _ _ _ _ hs]
     exact h1
   . cases h1
omit L in
theorem mrLoop_le {f : FuncId} {c : Code} {it d1 d2 : Tmp} {g g' : St -> Option (Out × St)} (hg : ∀ s r, g s = some r -> g' s = some r) {s : St} {r : Out × St} (h : mrLoop cfg f c it d1 d2 g s = some r) : mrLoop cfg f c it d1 d2 g' s = some r := by
 unfold mrLoop at h ⊢
 split at h
 case h_2 => cases h
 split at h
 case h_2 => cases h
 refine bind_le (fun _ h => h) (fun s0 r h => ?_) h
 unfold mapRun at h ⊢
 refine bind_le (fun q h => mrFind_le (fun k v s r h => mrRound_le hg h) _ _ _ h) (fun q r h => ?_) h
 cases q with
 | none => exact mrEnd_le hg h
 | some p =>
  obtain ⟨j, sk⟩ := p
  simp only at h ⊢
  cases hs : mrStay (mrRound cfg f c it d1 d2 _ g) sk j 0 _ with
  | false => rw [hs] at h; cases h
  | true =>
   rw [hs] at h
   rw [mrStay_le (fun k v s r h => mrRound_le hg h) _ _ hs]
   exact mrEnd_le hg h
theorem exec_le {f : FuncId} {rd : Option Nat} (c : Code) {s : St} {r : Out × St} : exec cfg E f rd c s = some r -> exec cfg E' f rd c s = some r := by
 refine (?_ : ∀ c, (∀ {s : St} {r : Out × St}, exec cfg E f rd c s = some r -> exec cfg E' f rd c s = some r) /\ ∀ x y, c = .seq x y -> ∀ {s : St} {r : Out × St}, exec cfg E f rd y s = some r -> exec cfg E' f rd y s = some r) c |>.1
 intro c
 induction c with
 | skip => exact ⟨fun {s r} h => h, fun _ _ e => by cases e⟩
 | region id ops draw => exact ⟨fun {s r} h => map_le (fun x h => region_le L h) h, fun _ _ e => by cases e⟩
 | seq a b iha ihb =>
  refine ⟨?_, fun _ _ e => by cases e; exact ihb.1⟩
  intro s r h
  exact bind_le (fun x h => iha.1 h) (fun (o, s) r h => by cases o <;> first | exact ihb.1 h | exact h) h
 | cond c a b iha ihb =>
  refine ⟨?_, fun _ _ e => by cases e⟩
  intro s r h
  refine bind_le (fun _ h => h) (fun v r h => ?_) h
  split at h
  . rename_i t
    cases t
    . exact ihb.1 h
    . exact iha.1 h
  . cases h
 | block id c ih => exact ⟨fun {s r} h => map_le (fun x h => ih.1 h) h, fun _ _ e => by cases e⟩
 | loop c ih =>
  obtain ⟨ih, iht⟩ := ih
  refine ⟨?_, fun _ _ e => by cases e⟩
  intro s r h
  rw [exec_loop] at h ⊢
  refine bind_le (fun _ h => h) (fun s r h => ?_) h
  cases hm : mrOf c with
  | none =>
   rw [hm] at h
   exact L.iter _ _ _ _ (fun s r h => bind_le (fun x h => ih h) (fun _ _ h => h) h) h
  | some p =>
   obtain ⟨it, d1, d2⟩ := p
   rw [hm] at h
   obtain ⟨rid, o1, o2, rest, rfl, _⟩ := mrOf_spec hm
   exact mrLoop_le (fun s r h => iht _ _ rfl h) h
 | rangeFunc fo ps asg bd _ _ =>
  refine ⟨?_, fun _ _ e => by cases e⟩
  intro s r h
  refine bind_le (fun _ h => h) (fun fv r h => bind_le (fun _ h => h) (fun (tgt, a, b) r h => ?_) h) h
  cases tgt with
  | yld l => cases h
  | fn g =>
   simp only at h ⊢
   split at h
   . rename_i hc
     rw [if_pos hc]
     exact bind_le (fun x h => L.call _ _ _ _ h) (fun _ _ h => h) h
   . cases h
 | exit id => exact ⟨fun {s r} h => h, fun _ _ e => by cases e⟩
 | scope c ih => exact ⟨fun {s r} h => ih.1 h, fun _ _ e => by cases e⟩
 | label l => exact ⟨fun {s r} h => h, fun _ _ e => by cases e⟩
 | goto l => exact ⟨fun {s r} h => h, fun _ _ e => by cases e⟩
 | ret => exact ⟨fun {s r} h => h, fun _ _ e => by cases e⟩
 | refuse w => exact ⟨fun {s r} h => h, fun _ _ e => by cases e⟩
theorem body_le {f : FuncId} {args : List V} {h : Heap} {r : V × Heap} (hq : body cfg E f args h = some r) : body cfg E' f args h = some r := by
 unfold body at hq ⊢
 refine bind_le (fun _ h => h) (fun fn r h => bind_le (fun _ h => h) (fun c r h => ?_) h) hq
 split at h
 . rename_i hc
   rw [if_pos hc]
   exact bind_le (fun x h => exec_le L c h) (fun _ _ h => h) h
 . cases h
theorem pureBody_le {f : FuncId} {xs : List T} {r : T} (hq : pureBody cfg E f xs = some r) : pureBody cfg E' f xs = some r := by
 unfold pureBody at hq ⊢
 split at hq
 . exact hq
 . exact bind_le (fun x h => body_le L h) (fun _ _ h => h) hq
theorem round_le {l : Nat} {args : List V} {h : Heap} {r : V × Heap} (hq : round cfg E l args h = some r) : round cfg E' l args h = some r := by
 unfold round at hq ⊢
 split at hq
 case h_2 => cases hq
 refine bind_le (fun _ h => h) (fun ts0 r h => bind_le (fun x h => exec_le L _ h) (fun (o, s) r h => ?_) h) hq
 cases o with
 | norm =>
  simp only at h ⊢
  split at h
  case h_2 => cases h
  exact bind_le (fun x h => exec_le L _ h) (fun _ _ h => h) h
 | ret => cases h
 | exit id => cases h
theorem callBody_le {t : Tgt} {args : List V} {h : Heap} {r : V × Heap} (hq : callBody cfg E t args h = some r) : callBody cfg E' t args h = some r := by
 cases t with
 | fn f =>
  simp only [callBody] at hq ⊢
  cases hc : cfg.code f with
  | none => simp only [hc] at hq ⊢; exact hq
  | some fn => simp only [hc] at hq ⊢; exact body_le L hq
 | yld l => exact round_le L hq
omit L
theorem iterN_le : ∀ (n : Nat) (g g' : St -> Option (Out × St)) (s : St) (r : Out × St), (∀ s r, g s = some r -> g' s = some r) -> iterN n g s = some r -> iterN (n + 1) g' s = some r
 | 0, _, _, _, _, _, h => by cases h
 | n + 1, g, g', s, r, hg, h => by
  simp only [iterN] at h ⊢
  refine bind_le (fun x h => hg _ _ h) (fun (o, s) r h => ?_) h
  cases o with
  | norm => exact iterN_le n g g' s r hg h
  | ret => exact h
  | exit id => exact h
theorem env_succ : ∀ n, (env cfg n).Le (env cfg (n + 1))
 | 0 => ⟨fun _ _ _ h => (by cases h), fun _ _ _ _ h => (by cases h), fun _ _ _ _ _ h => (by cases h)⟩
 | n + 1 =>
  have ih := env_succ n
  ⟨fun _ _ _ h => pureBody_le ih h, fun _ _ _ _ h => callBody_le ih h, fun g g' s r hg h => iterN_le n g g' s r hg h⟩
theorem Env.Le.trans {A B C : Env} (a : A.Le B) (b : B.Le C) : A.Le C :=
 ⟨fun f xs r h => b.pure f xs r (a.pure f xs r h), fun t vs h r hq => b.call t vs h r (a.call t vs h r hq), fun g g' s r hg h => b.iter g g' s r hg (a.iter g g s r (fun _ _ h => h) h)⟩
theorem Env.Le.refl (A : Env) (hi : ∀ g g' s r, (∀ s r, g s = some r -> g' s = some r) -> A.iter g s = some r -> A.iter g' s = some r) : A.Le A := ⟨fun _ _ _ h => h, fun _ _ _ _ h => h, hi⟩
theorem iterN_mono : ∀ (n : Nat) (g g' : St -> Option (Out × St)) (s : St) (r : Out × St), (∀ s r, g s = some r -> g' s = some r) -> iterN n g s = some r -> iterN n g' s = some r
 | 0, _, _, _, _, _, h => by cases h
 | n + 1, g, g', s, r, hg, h => by
  simp only [iterN] at h ⊢
  refine bind_le (fun x h => hg _ _ h) (fun (o, s) r h => ?_) h
  cases o with
  | norm => exact iterN_mono n g g' s r hg h
  | ret => exact h
  | exit id => exact h
theorem env_le {n : Nat} : ∀ {m : Nat}, n <= m -> (env cfg n).Le (env cfg m)
 | 0, h => by
  obtain rfl : n = 0 := by omega
  exact .refl _ fun g g' s r hg h => by cases h
 | m + 1, h => by
  by_cases e : n = m + 1
  . subst e
    exact .refl _ fun g g' s r hg h => iterN_mono m g g' s r hg h
  . exact (env_le (by omega)).trans (env_succ m)
end
end Go.Apex
