import Derived.Test.YtcljaeknhmpecaaGreatApexA21
import Derived.CallsIn
import Derived.RangeFuncCalls
import Derived.RangeFuncLeaves
set_option linter.all false
namespace Go.Apex
open Go Go.RowKit
variable [Globs]
section
variable {cfg : Cfg} {P : Program} {B0 : Nat -> Prop} {n0 : Nat -> Prop} {w : World} {S : Nat -> Prop} {M : MM} {h : Heap} {ts : Ts} {a : Array Value} {slot : Nat}
def Enters (P : Program) (f : FuncId) : Prop := ∃ fn, P.funcs[f]? = some fn /\ fn.body.isNone = false /\ (fn.name == "runtime.NumGoroutine") = false
theorem run_callFunc {f : FuncId} (hf : Enters P f) (args : Array Value) (w : World) : (callFunc f args).run P w = .ok (.enter f args) w := by
 obtain ⟨fn, h1, h2, h3⟩ := hf
 simp only [callFunc, Sem.run_bind, run_program, Result.andThen_ok, h1, h3, h2, Bool.false_eq_true, if_false, Sem.run_pure]
structure Pure (w : World) (S : Nat -> Prop) (w' : World) (S' : Nat -> Prop) : Prop where
 os : w'.os = w.os
 tape : w'.tape = w.tape
 output : w'.output = w.output
 size : w.heap.size <= w'.heap.size
 below : ∀ b, b < w.heap.size -> w'.heap[b]? = w.heap[b]?
 keep : ∀ b, S b -> S' b
 new : ∀ b, S' b -> S b \/ w.heap.size <= b
 lt : ∀ b, S' b -> b < w'.heap.size
def RepTL (w : World) (S : Nat -> Prop) (xs : List T) (a : List Value) : Prop :=
 xs.length = a.length /\ ∀ (i : Nat) (x : T) (v : Value), xs[i]? = some x -> a[i]? = some v -> RepT w S x v
def FR (ro : Option Nat) : Fence := { fn := fun _ => True, depth := none, alive := false, round := ro }
theorem callsIn_FR {ro : Option Nat} {n : Nat} {f : FuncId} {args : Array Value} {R : Ending -> World -> Prop} (h : Calls P f args w R) : CallsIn (FR ro) n P f args w R := by
 have h0 : CallsIn Fence.wide n P f args w R := callsIn_wide.2 h
 cases ro with
 | none => exact h0
 | some l => exact CallsIn.inRound l h0
def HeapOK (K : Code -> Prop) (h : Heap) : Prop := ∀ id st pend f ts ps asg bd, h.obj id = some (.loop st pend f ts ps asg bd) -> K asg /\ K bd
def Good (K : Code -> Prop) (h h' : Heap) : Prop := HeapOK K h -> h.next <= h'.next /\ HeapOK K h'
theorem Good.refl (K : Code -> Prop) (h : Heap) : Good K h h := fun x => ⟨Nat.le_refl _, x⟩
theorem Good.trans {K : Code -> Prop} {h h1 h2 : Heap} (a : Good K h h1) (b : Good K h1 h2) : Good K h h2 := fun x => ⟨Nat.le_trans (a x).1 (b (a x).2).1, (b (a x).2).2⟩
def Obj.isLoop : Obj -> Bool
 | .loop .. => true
 | _ => false
theorem Good.set {K : Code -> Prop} {h : Heap} {id : Nat} {o : Obj} (hn : o.isLoop = false) : Good K h (h.set id (some o)) := by
 refine fun hk => ⟨Nat.le_refl _, fun i st pend f ts ps asg bd hi => ?_⟩
 rw [Heap.obj_set] at hi
 split at hi
 . cases hi; cases hn
 . exact hk i st pend f ts ps asg bd hi
theorem Good.clear {K : Code -> Prop} {h : Heap} {id : Nat} : Good K h (h.set id none) := by
 refine fun hk => ⟨Nat.le_refl _, fun i st pend f ts ps asg bd hi => ?_⟩
 rw [Heap.obj_set] at hi
 split at hi
 . cases hi
 . exact hk i st pend f ts ps asg bd hi
structure EnvOK (K : Code -> Prop) (P : Program) (E : Env) : Prop where
 pure : ∀ (f : FuncId) (xs : List T) (r : T), E.pure f xs = some r -> Enters P f /\ ∀ (w : World) (S : Nat -> Prop) (cargs : Array Value), BaseOK w.heap.size w -> (∀ b, S b -> b < w.heap.size) -> RepTL w S xs cargs.toList →
  Calls P f cargs w fun e w' => ∃ cv S', e = .returned cv /\ Pure w S w' S' /\ RepT w' S' r cv
 call : ∀ (f : FuncId) (vs : List V) (h : Heap) (v : V) (h' : Heap), E.call (.fn f) vs h = some (v, h') -> Enters P f /\ Good K h h' /\ ∀ (B0 : Nat -> Prop) (w : World) (S : Nat -> Prop) (M : MM) (cargs : Array Value), HeapOK K h -> Inv B0 w S M h -> RepVL w S M vs cargs.toList →
  Calls P f cargs w fun e w' => ∃ cv S' M', e = .returned cv /\ Inv B0 w' S' M' h' /\ Ext B0 (· < h.next) w S M w' S' M' /\ RepV w' S' M' v cv
 yld : ∀ (l : Nat) (vs : List V) (h : Heap) (v : V) (h' : Heap), E.call (.yld l) vs h = some (v, h') -> Good K h h' /\ ∀ (B0 : Nat -> Prop) (w : World) (S : Nat -> Prop) (M : MM) (cargs : Array Value) (m : MI), HeapOK K h -> Inv B0 w S M h -> RepVL w S M vs cargs.toList -> M l = some m →
  m.gen = 0 /\ ∃ f tmps asg bd, (Instr.yield m.b cargs).run P w = .ok (.round m.b f tmps asg bd) w /\ ∀ ro n, RoundIn (FR ro) n P m.b f tmps asg bd w fun e w' => ∃ cv S' M', e = .returned cv /\ Inv B0 w' S' M' h' /\ Ext B0 (· < h.next) w S M w' S' M' /\ RepV w' S' M' v cv
 iter : ∀ g s r, E.iter g s = some r -> ∃ n, iterN n g s = some r
theorem Inv.pure (I : Inv B0 w S M h) {w' : World} {S' : Nat -> Prop} (hp : Pure w S w' S') : Inv B0 w' S' M h /\ Ext B0 n0 w S M w' S' M := by
 have hS : ∀ b, S b -> S' b /\ w'.heap[b]? = w.heap[b]? := fun b hb => ⟨hp.keep b hb, hp.below b (I.lt b hb)⟩
 have hM : ∀ i m, M i = some m -> ∃ m2, M i = some m2 /\ (m2 = m \/ (m.gen < m2.gen /\ m.ext <= m.tot)) := fun i m hm => ⟨m, hm, .inl rfl⟩
 refine ⟨⟨?_, ?_, I.inj, ?_, hp.lt, I.base.step hp.size fun b hb => hp.below b (I.base.le b hb), ?_⟩, ⟨hp.os, hp.tape, hp.output, hp.size, fun b hb => hp.below b (I.base.le b hb), hS, hM, fun _ _ h => h, fun b hb => (hp.new b hb).imp (fun h => h) fun h k => by have := I.base.le b k; omega⟩⟩
 . intro i o hi
   obtain ⟨m, hm, hr⟩ := I.obj i o hi
   exact ⟨m, hm, hr.mono hS hM (hp.below m.b (I.at_ i m hm).2.1)⟩
 . intro i m hm
   have := I.at_ i m hm
   exact ⟨this.1, Nat.lt_of_lt_of_le this.2.1 hp.size, this.2.2⟩
 . intro i o m hi hm hs
   rcases hp.new _ hs with hs | hs
   . exact I.stable i o m hi hm hs
   . have := (I.at_ i m hm).2.1
     omega
 . obtain ⟨O, K⟩ := I.own
   exact ⟨O, K.step hp.size hS (fun b hb => ⟨fun hs => (hp.new b hs).elim (K.free b hb).1 fun h => by have := (K.free b hb).2.2; omega, hp.below b (K.free b hb).2.2⟩) K.obj
    fun i g e cs fc m hi hm j e2 sh xs hj => ⟨i, g, e, cs, fc, m, j, hi, hm, hj, rfl, rfl, cell_keep (hp.below m.b (I.at_ i m hm).2.1) _⟩⟩
theorem scalar1_rep {w' : World} {S' : Nat -> Prop} {r : T} {cv : Value} (hs : r.scalar1 = true) (h : RepT w S r cv) : RepT w' S' r cv := by
 cases r <;> simp [T.scalar1] at hs <;> cases h
 . exact .bool _
 . exact .int _ _
 . exact .str _ _ (by assumption)
 . exact .nilp
 . exact .nils
 . exact .nilm
 . exact .nilf
 . exact .nili
theorem scalar2_rep {w' : World} {S' : Nat -> Prop} {r : T} {cv : Value} (hs : r.scalar2 = true) (h : RepT w S r cv) : RepT w' S' r cv := by
 cases r with
 | agg cs =>
  simp only [T.scalar2, List.all_eq_true] at hs
  cases h with
  | agg _ a hl hr => exact .agg _ _ hl fun i x v p q => scalar1_rep (hs x (List.mem_of_getElem? p)) (hr i x v p q)
 | _ => exact scalar1_rep hs h
theorem scalar_rep {w' : World} {S' : Nat -> Prop} {r : T} {cv : Value} (hs : r.scalar = true) (h : RepT w S r cv) : RepT w' S' r cv := by
 cases r with
 | tup cs =>
  simp only [T.scalar, List.all_eq_true] at hs
  cases h with
  | tup _ a hl hr => exact .tup _ _ hl fun i x v p q => scalar2_rep (hs x (List.mem_of_getElem? p)) (hr i x v p q)
 | _ => exact scalar2_rep hs h
theorem quietCall_run {K : Code -> Prop} {E : Env} (hE : EnvOK K P E) (I : Inv B0 w S M h) {rd : Rd} (hrd : ∀ id o, rd id = some o -> h.obj id = some o) {f : FuncId} {vs : List V} {cargs : Array Value} (rv : RepVL w S M vs cargs.toList) {v : V} (hq : quietCall cfg E f vs rd = some v) :
  Enters P f /\ Calls P f cargs w fun e w' => ∃ cv S', e = .returned cv /\ Inv B0 w' S' M h /\ Ext B0 n0 w S M w' S' M /\ RepV w' S' M v cv := by
 unfold quietCall at hq
 split at hq
 . simp only [oB, oM] at hq
   obtain ⟨xs, hxs, r, hr, rfl⟩ := hq
   have := allT_spec hxs
   subst this
   obtain ⟨hen, hc⟩ := hE.pure f xs r hr
   refine ⟨hen, (hc w S cargs I.base.top I.lt (repVL_t rv)).mono ?_⟩
   rintro e w' ⟨cv, S', rfl, hp, hrep⟩
   obtain ⟨h1, h2⟩ := I.pure (n0 := n0) hp
   exact ⟨cv, S', rfl, h1, h2, .t _ _ hrep⟩
 . simp only [oB] at hq
   obtain ⟨xs, hxs, r, hr, hq⟩ := hq
   split at hq
   case isFalse => cases hq
   rename_i hsc
   cases hq
   obtain ⟨hen, hc⟩ := hE.pure f xs r hr
   have hargs := snapL (Sx := fun b => b < w.heap.size) (fun v x cv hs hr => snap_rep I hrd I.lt (fun id o m _ hm => (I.at_ id m hm).2.1) (.inr fun O K b hb => (K.free b hb).2.2) snapFuel v x cv hs hr) hxs rv
   refine ⟨hen, (hc w (fun b => b < w.heap.size) cargs I.base.top (fun b hb => hb) hargs).mono ?_⟩
   rintro e w' ⟨cv, S', rfl, hp, hrep⟩
   have hp2 : Pure w S w' S := ⟨hp.os, hp.tape, hp.output, hp.size, hp.below, fun b hb => hb, fun b hb => .inl hb, fun b hb => Nat.lt_of_lt_of_le (I.lt b hb) hp.size⟩
   obtain ⟨h1, h2⟩ := I.pure (n0 := n0) hp2
   exact ⟨cv, S, rfl, h1, h2, .t _ _ (scalar_rep hsc hrep)⟩
 . cases hq
 . cases hq
 . cases hq
theorem Inv.adopt (I : Inv B0 w S M h) {w' : World} {S' : Nat -> Prop} (hp : Pure w S w' S') {id : Nat} (hs0 : M id = none) (hs1 : ¬ n0 id) (hs2 : id < h.next) {o : Obj} {m' : MI} (hb : w.heap.size <= m'.b) (hlt : m'.b < w'.heap.size) (hnS : ¬ S' m'.b)
  (hO : ∀ M' : MM, (∀ i m, M i = some m -> ∃ m2, M' i = some m2 /\ (m2 = m \/ (m.gen < m2.gen /\ m.ext <= m.tot))) -> M' id = some m' -> RepO w' S' M' m' o) (hnn : ∀ g e cs fc, o ≠ .nest g e cs fc := by intro _ _ _ _ h; cases h) :
  Inv B0 w' S' (M.set id m') (h.set id (some o)) /\ Ext B0 n0 w S M w' S' (M.set id m') := by
 have hS : ∀ b, S b -> S' b /\ w'.heap[b]? = w.heap[b]? := fun b hb => ⟨hp.keep b hb, hp.below b (I.lt b hb)⟩
 have hM : ∀ i m, M i = some m -> ∃ m2, (M.set id m') i = some m2 /\ (m2 = m \/ (m.gen < m2.gen /\ m.ext <= m.tot)) := fun i m hm => by
  have : i ≠ id := fun e => by rw [e, hs0] at hm; cases hm
  exact ⟨m, by simp [MM.set, this, hm], .inl rfl⟩
 have old : ∀ i o1, i ≠ id -> (h.set id (some o)).obj i = some o1 -> h.obj i = some o1 := fun i o1 hne hi => by rw [Heap.obj_set, if_neg hne] at hi; exact hi
 have oldM : ∀ i m, i ≠ id -> (M.set id m') i = some m -> M i = some m := fun i m hne hm => by simpa only [MM.set, if_neg hne] using hm
 have newM : ∀ m, (M.set id m') id = some m -> m = m' := fun m hm => by simp only [MM.set, if_true, oI] at hm; exact hm.symm
 refine ⟨⟨?_, ?_, ?_, ?_, hp.lt, I.base.step hp.size fun b hb => hp.below b (I.base.le b hb), ?_⟩, ⟨hp.os, hp.tape, hp.output, hp.size, fun b hb => hp.below b (I.base.le b hb), hS, hM, ?_, fun b hb => (hp.new b hb).imp (fun h => h) fun h k => by have := I.base.le b k; omega⟩⟩
 . intro i o1 hi
   by_cases e : i = id
   . subst e
     rw [Heap.obj_set, if_pos rfl] at hi
     cases hi
     exact ⟨m', by simp [MM.set], hO _ hM (by simp [MM.set])⟩
   . obtain ⟨m, hm, hr⟩ := I.obj i o1 (old i o1 e hi)
     exact ⟨m, by simp [MM.set, e, hm], hr.mono hS hM (hp.below m.b (I.at_ i m hm).2.1)⟩
 . intro i m hm
   by_cases e : i = id
   . subst e
     rw [newM m hm]
     exact ⟨fun k => by have := I.base.le _ k; omega, hlt, hs2⟩
   . have := I.at_ i m (oldM i m e hm)
     exact ⟨this.1, Nat.lt_of_lt_of_le this.2.1 hp.size, this.2.2⟩
 . intro i j o1 o2 m1 m2 hi hj hm1 hm2 he
   by_cases e1 : i = id <;> by_cases e2 : j = id
   . rw [e1, e2]
   . exfalso
     subst e1
     have h1 := newM m1 hm1
     have h2 := (I.at_ j m2 (oldM j m2 e2 hm2)).2.1
     rw [h1] at he; omega
   . exfalso
     subst e2
     have h1 := newM m2 hm2
     have h2 := (I.at_ i m1 (oldM i m1 e1 hm1)).2.1
     rw [h1] at he; omega
   . exact I.inj i j o1 o2 m1 m2 (old i o1 e1 hi) (old j o2 e2 hj) (oldM i m1 e1 hm1) (oldM j m2 e2 hm2) he
 . intro i o1 m hi hm
   by_cases e : i = id
   . subst e; rw [newM m hm]; exact hnS
   . have hm0 := oldM i m e hm
     intro hs
     rcases hp.new _ hs with hs | hs
     . exact I.stable i o1 m (old i o1 e hi) hm0 hs
     . have := (I.at_ i m hm0).2.1; omega
 . obtain ⟨O, K⟩ := I.own
   refine ⟨O, K.step hp.size hS (fun b hb => ⟨fun hs => (hp.new b hs).elim (K.free b hb).1 fun h => by have := (K.free b hb).2.2; omega, hp.below b (K.free b hb).2.2⟩) (fun i o1 m hi hm => ?_) fun i g e cs fc m hi hm j e2 sh xs hj => ?_⟩
   . by_cases e : i = id
     . subst e
       rw [newM m hm]
       rcases h0 : O m'.b with _ | p
       . rfl
       . have := (K.free m'.b (by rw [h0]; exact fun h => by cases h)).2.2
         omega
     . exact K.obj i o1 m (old i o1 e hi) (oldM i m e hm)
   . by_cases ei : i = id
     . subst ei
       rw [Heap.obj_set, if_pos rfl] at hi
       exact absurd (Option.some.inj hi) (hnn g e cs fc)
     . exact ⟨i, g, e, cs, fc, m, j, old i _ ei hi, oldM i m ei hm, hj, rfl, rfl, cell_keep (hp.below m.b (I.at_ i m (oldM i m ei hm)).2.1) _⟩
 . intro i hi hm
   by_cases e : i = id
   . subst e; exact absurd hi hs1
   . simpa only [MM.set, if_neg e] using hm
theorem inv_empty {w : World} {S : Nat -> Prop} (hB : BaseOK w.heap.size w) (hS : ∀ b, S b -> b < w.heap.size) : Inv (fun b => b < w.heap.size) w S (fun _ => none) Heap.empty := by
 refine ⟨?_, ?_, ?_, ?_, hS, hB.toP, fun _ => none, fun b h => absurd rfl h, (fun _ _ _ h => by cases h), (fun _ _ _ _ _ _ h => by cases h), fun b h => absurd rfl h⟩
 . intro id o h; cases h
 . intro id m h; cases h
 . intro id id' o o' m m' h; cases h
 . intro id o m h; cases h
theorem scalar1_any {w' : World} {S' : Nat -> Prop} {M' : MM} {xs : List T} {cs : List V} (hx : allT cs = some xs) (hall : xs.all (·.scalar1) = true) {i : Nat} {c : V} (hc : cs[i]? = some c) {cv : Value} (h : RepV w S M c cv) : RepV w' S' M' c cv := by
 have := allT_spec hx
 subst this
 rw [List.getElem?_map, oM] at hc
 obtain ⟨x, hx, rfl⟩ := hc
 simp only [List.all_eq_true] at hall
 exact .t _ _ (scalar1_rep (hall x (List.mem_of_getElem? hx)) (repV_t h))
theorem flat_any {w' : World} {S' : Nat -> Prop} {M' : MM} {xs : List T} {cs : List V} (hx : allT cs = some xs) (hS : ∀ b, S b -> S' b /\ w'.heap[b]? = w.heap[b]?) {i : Nat} {c : V} (hc : cs[i]? = some c) {cv : Value} (h : RepV w S M c cv) : RepV w' S' M' c cv := by
 have := allT_spec hx
 subst this
 rw [List.getElem?_map, oM] at hc
 obtain ⟨x, hx, rfl⟩ := hc
 exact .t _ _ ((repV_t h).mono hS)
theorem adoptAt_spec : ∀ {vs vs' : List V} {h0 : Heap} {ob : Option Obj}, adoptAt slot h0 vs = some (vs', ob) -> ∃ (pre post : List T) (id g off len : Nat) (sh : Option Nat) (e : TypeId) (cs : List V) (ys : List T),
  vs = pre.map .t ++ .msl id g off len sh :: post.map .t /\ vs' = pre.map .t ++ .msl slot 1 off len sh :: post.map .t /\ ob = some (.cells 1 e false cs) /\ h0.obj id = some (.cells g e false cs) /\ allT cs = some ys
 | [], vs', h0, ob, hq => by cases hq
 | v :: r, vs', h0, ob, hq => by
  unfold adoptAt at hq
  split at hq
  . rename_i x r' heq
    cases heq
    simp only [oM] at hq
    obtain ⟨⟨p1, p2⟩, h1, h2⟩ := hq
    cases h2
    obtain ⟨pre, post, id, g, off, len, sh, e, cs, ys, rfl, rfl, h3, h4, h5⟩ := adoptAt_spec h1
    exact ⟨x :: pre, post, id, g, off, len, sh, e, cs, ys, rfl, rfl, h3, h4, h5⟩
  . rename_i id gen off len sh r' heq
    cases heq
    split at hq
    . rename_i g e cs ho
      simp only [oB] at hq
      obtain ⟨ys, hys, zs, hzs, hq⟩ := hq
      split at hq
      . rename_i hg
        subst hg
        cases hq
        have := allT_spec hzs
        subst this
        exact ⟨[], zs, id, g, off, len, sh, e, cs, ys, rfl, rfl, rfl, ho, hys⟩
      . cases hq
    . cases hq
  . cases hq
theorem freshCall_run {K : Code -> Prop} {E : Env} (hE : EnvOK K P E) (I : Inv B0 w S M h) {rd : Rd} (hrd : ∀ id o, rd id = some o -> h.obj id = some o) (hs0 : M slot = none) (hs1 : ¬ n0 slot) (hs2 : slot < h.next) {f : FuncId} {vs : List V} {cargs : Array Value}
  (rv : RepVL w S M vs cargs.toList) {v : V} {ob : Option Obj} (hq : freshCall E slot f vs rd = some (v, ob)) :
  Enters P f /\ Calls P f cargs w fun e w' => ∃ cv S' M', e = .returned cv /\ Inv B0 w' S' M' (putObj h slot ob) /\ Ext B0 n0 w S M w' S' M' /\ RepV w' S' M' v cv := by
 have main : ∀ (flat : Bool) (Sx : Nat -> Prop) (xs : List T) (v0 : V) (h0 : Heap), (∀ b, Sx b -> b < w.heap.size) -> (flat = true -> ∀ b, Sx b ↔ S b) -> RepTL w Sx xs cargs.toList -> E.call (.fn f) (xs.map .t) .empty = some (v0, h0) -> Apex.adopt slot flat v0 h0 = some (v, ob) →
   Enters P f /\ Calls P f cargs w fun e w' => ∃ cv S' M', e = .returned cv /\ Inv B0 w' S' M' (putObj h slot ob) /\ Ext B0 n0 w S M w' S' M' /\ RepV w' S' M' v cv := by
  intro flat Sx xs v0 h0 hSx hflat hargs hc ha
  obtain ⟨hen, _, hcall⟩ := hE.call _ _ _ _ _ hc
  refine ⟨hen, (hcall (fun b => b < w.heap.size) w Sx (fun _ => none) cargs (by intro id st pend f ts ps asg bd h; cases h) (inv_empty I.base.top hSx) (repVL_of_t hargs.1 hargs.2)).mono ?_⟩
  rintro e w' ⟨cv, S1, M1, rfl, I1, E1, hv⟩
  let S' : Nat -> Prop := if flat then S1 else S
  have hp : Pure w S w' S' := by
   cases flat with
   | true =>
    have hf := hflat rfl
    exact ⟨E1.os, E1.tape, E1.output, E1.size, E1.below, fun b hb => (E1.keep b ((hf b).2 hb)).1, fun b hb => (E1.new b hb).imp (hf b).1 Nat.le_of_not_lt, I1.lt⟩
   | false => exact ⟨E1.os, E1.tape, E1.output, E1.size, E1.below, fun b hb => hb, fun b hb => .inl hb, fun b hb => Nat.lt_of_lt_of_le (I.lt b hb) E1.size⟩
  unfold Apex.adopt at ha
  split at ha
  . rename_i x
    cases flat with
    | true =>
     simp only [if_true, oI, Prod.mk.injEq] at ha
     obtain ⟨rfl, rfl⟩ := ha
     obtain ⟨a1, a2⟩ := I.pure (n0 := n0) hp
     exact ⟨cv, S', M, rfl, a1, a2, .t _ _ (repV_t hv)⟩
    | false =>
     simp only [Bool.false_eq_true, if_false] at ha
     split at ha
     case isFalse => cases ha
     rename_i hsc
     simp only [oI, Prod.mk.injEq] at ha
     obtain ⟨rfl, rfl⟩ := ha
     obtain ⟨a1, a2⟩ := I.pure (n0 := n0) hp
     exact ⟨cv, S', M, rfl, a1, a2, .t _ _ (scalar_rep hsc (repV_t hv))⟩
  . rename_i id gen off len sh
    split at ha
    case h_2 => cases ha
    rename_i g e cs ho
    simp only [oB] at ha
    obtain ⟨ys, hys, ha⟩ := ha
    split at ha
    case isFalse => cases ha
    rename_i hcond
    obtain ⟨rfl, hfl⟩ := hcond
    simp only [oI, Prod.mk.injEq] at ha
    obtain ⟨rfl, rfl⟩ := ha
    obtain ⟨m, hm, hg, hext, _, arr, fr, h1, h2, h3, h4, h5⟩ := I1.obj id _ ho
    have hat := I1.at_ id m hm
    have hns : ¬ S' m.b := by
     cases flat with
     | true => exact I1.stable id _ m ho hm
     | false => exact fun hs => by have := I.lt _ hs; exact hat.1 this
    have hcells : ∀ {M' : MM} (j : Nat) (c : V), cs[j]? = some c -> ∃ u, arr[m.s + j]? = some u /\ RepV w' S' M' c u := by
     intro M' j c hj
     obtain ⟨u, hu, hr⟩ := h5 j c hj
     refine ⟨u, hu, ?_⟩
     cases flat with
     | true => exact flat_any hys (fun b hb => ⟨hb, rfl⟩) hj hr
     | false => exact scalar1_any hys (hfl.resolve_left (by simp)) hj hr
    obtain ⟨a1, a2⟩ := I.adopt (n0 := n0) hp hs0 hs1 hs2 (o := .cells 1 e false cs) (m' := ⟨m.b, m.s, 1, cs.length, m.tot⟩) (Nat.le_of_not_lt hat.1) hat.2.1 hns
     (fun M' hM hm' => ⟨rfl, rfl, (fun h => by cases h), arr, fr, h1, h2, h3, h4, fun j c hj => hcells j c hj⟩)
    refine ⟨cv, S', _, rfl, a1, a2, ?_⟩
    cases hv with
    | msl _ _ _ _ _ b o cap hl m2 hm2 hgl hx =>
     rw [hm] at hm2
     cases hm2
     obtain ⟨b1, b2, b3, b4⟩ := hx hg
     exact .msl _ _ _ _ _ b o cap hl ⟨m.b, m.s, 1, cs.length, m.tot⟩ (by simp only [MM.set, if_true]) (Nat.le_refl _) fun _ => ⟨b1, b2, by show cs.length <= _; omega, b4⟩
  . rename_i vs0
    split at ha
    case isFalse => cases ha
    rename_i hfl
    subst hfl
    simp only [oM] at ha
    obtain ⟨⟨p1, p2⟩, ha, hp2⟩ := ha
    cases hp2
    obtain ⟨pre, post, id, g, off, len, sh, e, cs, ys, rfl, rfl, rfl, ho, hys⟩ := adoptAt_spec ha
    obtain ⟨m, hm, hg, hext, _, arr, fr, h1, h2, h3, h4, h5⟩ := I1.obj id _ ho
    have hat := I1.at_ id m hm
    have hns : ¬ S' m.b := I1.stable id _ m ho hm
    obtain ⟨a1, a2⟩ := I.adopt (n0 := n0) hp hs0 hs1 hs2 (o := .cells 1 e false cs) (m' := ⟨m.b, m.s, 1, cs.length, m.tot⟩) (Nat.le_of_not_lt hat.1) hat.2.1 hns
     (fun M' hM hm' => ⟨rfl, rfl, (fun h => by cases h), arr, fr, h1, h2, h3, h4, fun j c hj => by
      obtain ⟨u, hu, hr⟩ := h5 j c hj
      exact ⟨u, hu, flat_any hys (fun b hb => ⟨hb, rfl⟩) hj hr⟩⟩)
    refine ⟨cv, S', _, rfl, a1, a2, ?_⟩
    cases hv with
    | agg _ ar hl hr =>
     refine .agg _ ar (by simpa using hl) fun i x v hx hv' => ?_
     rcases Nat.lt_trichotomy i pre.length with hlt | heq | hgt
     . rw [List.getElem?_append_left (by simpa using hlt), List.getElem?_map, oM] at hx
       obtain ⟨y, hy, rfl⟩ := hx
       have := hr i (.t y) v (by rw [List.getElem?_append_left (by simpa using hlt), List.getElem?_map, hy]; rfl) hv'
       exact .t _ _ (repV_t this)
     . subst heq
       rw [List.getElem?_append_right (by simp)] at hx
       simp only [List.length_map, Nat.sub_self, List.getElem?_cons_zero, oI] at hx
       subst hx
       have := hr pre.length (.msl id g off len sh) v (by rw [List.getElem?_append_right (by simp)]; simp) hv'
       cases this with
       | msl _ _ _ _ _ b o cap hl m2 hm2 hgl hx =>
        rw [hm] at hm2
        cases hm2
        obtain ⟨b1, b2, b3, b4⟩ := hx hg
        exact .msl _ _ _ _ _ b o cap hl ⟨m.b, m.s, 1, cs.length, m.tot⟩ (by simp only [MM.set, if_true]) (Nat.le_refl _) fun _ => ⟨b1, b2, by show cs.length <= _; omega, b4⟩
     . obtain ⟨j, rfl⟩ : ∃ j, i = pre.length + (j + 1) := ⟨i - pre.length - 1, by omega⟩
       rw [List.getElem?_append_right (by simp)] at hx
       simp only [List.length_map, Nat.add_sub_cancel_left, List.getElem?_cons_succ, List.getElem?_map, oM] at hx
       obtain ⟨y, hy, rfl⟩ := hx
       have := hr (pre.length + (j + 1)) (.t y) v (by rw [List.getElem?_append_right (by simp)]; simp [hy]) hv'
       exact .t _ _ (repV_t this)
  . cases ha
 unfold freshCall at hq
 split at hq
 . rename_i xs hxs
   simp only [oB] at hq
   obtain ⟨⟨v0, h0⟩, hc, ha⟩ := hq
   have := allT_spec hxs
   subst this
   exact main true S xs v0 h0 I.lt (fun _ b => Iff.rfl) (repVL_t rv) hc ha
 . simp only [oB] at hq
   obtain ⟨xs, hxs, ⟨v0, h0⟩, hc, ha⟩ := hq
   have hargs := snapL (Sx := fun b => b < w.heap.size) (fun v x cv hs hr => snap_rep I hrd I.lt (fun id o m _ hm => (I.at_ id m hm).2.1) (.inr fun O K b hb => (K.free b hb).2.2) snapFuel v x cv hs hr) hxs rv
   exact main false (fun b => b < w.heap.size) xs v0 h0 (fun b hb => hb) (fun h => by cases h) hargs hc ha
theorem renL_map (r : Nat -> Nat) : ∀ cs : List V, V.renL r cs = cs.map (V.ren r)
 | [] => rfl
 | v :: q => by rw [V.renL, renL_map r q]; rfl
theorem bdL_all (n : Nat) : ∀ cs : List V, V.bdL n cs = true -> ∀ v ∈ cs, V.bd n v = true
 | [], _, v, h => by cases h
 | u :: q, hb, v, h => by
  rw [V.bdL, Bool.and_eq_true] at hb
  rcases List.mem_cons.1 h with rfl | h
  . exact hb.1
  . exact bdL_all n q hb.2 v h
theorem ble_lt {a n : Nat} (h : Nat.ble (a + 1) n = true) : a < n := Nat.le_of_ble_eq_true h
theorem RepV.ren {S' : Nat -> Prop} {w' : World} (hS : ∀ b, S b -> S' b /\ w'.heap[b]? = w.heap[b]?) {M2 : MM} {r : Nat -> Nat} {n : Nat} (hM : ∀ id m, r id < n -> M id = some m -> M2 (r id) = some m) {v : V} {x : Value} (h : RepV w S M v x) : V.bd n (V.ren r v) = true -> RepV w' S' M2 (V.ren r v) x := by
 have many : ∀ (cs : List V) (i : Nat) (y : V), V.bdL n (V.renL r cs) = true -> (cs.map (V.ren r))[i]? = some y -> ∃ z, cs[i]? = some z /\ y = V.ren r z /\ V.bd n (V.ren r z) = true := fun cs i y hb hi => by
  rw [List.getElem?_map, oM] at hi
  obtain ⟨z, hz, rfl⟩ := hi
  rw [renL_map] at hb
  exact ⟨z, hz, rfl, bdL_all n _ hb _ (List.mem_map.2 ⟨z, List.mem_of_getElem? hz, rfl⟩)⟩
 induction h with
 | t x v h => exact fun _ => .t x v (h.mono hS)
 | ref id gen off sh b o m hm hg h => exact fun hb => .ref _ gen off sh b o m (hM id m (ble_lt hb) hm) hg h
 | msl id gen off len sh b o cap hl m hm hg h => exact fun hb => .msl _ gen off len sh b o cap hl m (hM id m (ble_lt hb) hm) hg h
 | mmp id b m hm h => exact fun hb => .mmp _ b m (hM id m (ble_lt hb) hm) h
 | it id cur b m hm hp h hc =>
  intro hb
  simp only [V.ren, V.bd, Bool.and_eq_true] at hb
  refine .it _ cur b m (hM id m (ble_lt hb.2) hm) hp h fun k v e => ?_
  rw [e] at hb
  cases hb.1
 | yld id b m hm h => exact fun hb => .yld _ b m (hM id m (ble_lt hb) hm) h
 | agg cs a hl hr ih =>
  intro hb
  simp only [V.ren, V.bd] at hb ⊢
  rw [renL_map]
  refine .agg _ a (by simpa using hl) fun i y v h1 h2 => ?_
  obtain ⟨z, hz, rfl, hbz⟩ := many cs i y hb h1
  exact ih i z v hz h2 hbz
 | tup cs a hl hr ih =>
  intro hb
  simp only [V.ren, V.bd] at hb ⊢
  rw [renL_map]
  refine .tup _ a (by simpa using hl) fun i y v h1 h2 => ?_
  obtain ⟨z, hz, rfl, hbz⟩ := many cs i y hb h1
  exact ih i z v hz h2 hbz
 | fn f a b a' b' ha hb har hbr iha ihb =>
  intro hbd
  simp only [V.ren, V.bd, Bool.and_eq_true] at hbd ⊢
  rw [renL_map, renL_map]
  refine .fn f _ _ a' b' (by simpa using ha) (by simpa using hb) (fun i y v h1 h2 => ?_) (fun i y v h1 h2 => ?_)
  . obtain ⟨z, hz, rfl, hbz⟩ := many a i y hbd.1 h1
    exact iha i z v hz h2 hbz
  . obtain ⟨z, hz, rfl, hbz⟩ := many b i y hbd.2 h1
    exact ihb i z v hz h2 hbz
 | iface t x v h ih => exact fun hb => .iface t _ v (ih hb)
 | junk v => exact fun _ => .junk v
theorem tree_t {v : V} (h : v.tree = true) : ∃ x, v = .t x := by cases v <;> simp [V.tree] at h; exact ⟨_, rfl⟩
theorem RepV.tree {w' : World} {S' : Nat -> Prop} (hS : ∀ b, S b -> S' b /\ w'.heap[b]? = w.heap[b]?) {M2 : MM} {v : V} {x : Value} (h : RepV w S M v x) (ht : v.tree = true) : RepV w' S' M2 v x := by
 obtain ⟨y, rfl⟩ := tree_t ht
 exact .t _ _ ((repV_t h).mono hS)
theorem RepO.ren {w' : World} {S' : Nat -> Prop} (hS : ∀ b, S b -> S' b /\ w'.heap[b]? = w.heap[b]?) {M2 : MM} {r : Nat -> Nat} {n : Nat} (hM : ∀ id m, r id < n -> M id = some m -> M2 (r id) = some m) {fl : TypeId -> Bool} {m : MI} (hb : w'.heap[m.b]? = w.heap[m.b]?) {o o' : Obj} (ho : o.ren fl r n = some o')
  (h : RepO w S M m o) : RepO w' S' M2 m o' := by
 cases o with
 | cells g e fz cs =>
  obtain ⟨h1, h2, hw, arr, fr, h3, h4, h5, h6, h7⟩ := h
  simp only [Obj.ren] at ho
  cases hf : fl e with
  | true =>
   rw [hf] at ho
   cases ht : cs.all V.tree with
   | false => rw [ht] at ho; cases ho
   | true =>
    rw [ht] at ho
    cases ho
    simp only [List.all_eq_true] at ht
    exact ⟨h1, h2, hw, arr, fr, by rw [hb]; exact h3, h4, h5, h6, fun j c hj => by obtain ⟨v, hv, hr⟩ := h7 j c hj; exact ⟨v, hv, hr.tree hS (ht c (List.mem_of_getElem? hj))⟩⟩
  | false =>
   rw [hf] at ho
   cases ht : V.bdL n (V.renL r cs) with
   | false => rw [ht] at ho; cases ho
   | true =>
    rw [ht] at ho
    cases ho
    have hl : (V.renL r cs).length = cs.length := by rw [renL_map]; simp
    refine ⟨h1, by rw [hl]; exact h2, by rw [hl]; exact hw, arr, fr, by rw [hb]; exact h3, h4, h5, by rw [hl]; exact h6, fun j c hj => ?_⟩
    have hbc := bdL_all n _ ht c (List.mem_of_getElem? hj)
    rw [renL_map, List.getElem?_map, oM] at hj
    obtain ⟨z, hz, rfl⟩ := hj
    obtain ⟨v, hv, hr⟩ := h7 j z hz
    exact ⟨v, hv, hr.ren hS hM hbc⟩
 | map ks vs =>
  obtain ⟨h1, es, clock, hst, h3, h4, h5, h6, h7⟩ := h
  simp only [Obj.ren] at ho
  cases ht : vs.all V.tree with
  | false => rw [ht] at ho; cases ho
  | true =>
   rw [ht] at ho
   cases ho
   simp only [List.all_eq_true] at ht
   exact ⟨h1, es, clock, hst, by rw [hb]; exact h3, h4, h5, fun i k e a b => (h6 i k e a b).mono hS, fun i v e a b => (h7 i v e a b).tree hS (ht v (List.mem_of_getElem? a))⟩
 | nest g e cs fc =>
  obtain ⟨h1, h2, hw, arr, h3, h5, h6, h7, h8⟩ := h
  simp only [Obj.ren] at ho
  cases ht : (cs.all C.flat && fc.isNone) with
  | false => rw [ht] at ho; cases ho
  | true =>
   rw [ht] at ho
   cases ho
   simp only [Bool.and_eq_true, List.all_eq_true] at ht
   refine ⟨h1, h2, hw, arr, by rw [hb]; exact h3, h5, h6, fun j c hj => ?_, fun _ _ h => by cases h⟩
   obtain ⟨v, hv, hr⟩ := h7 j c hj
   have := ht.1 _ (List.mem_of_getElem? hj)
   exact ⟨v, hv, hr.tree hS (by cases c <;> simp [C.flat] at this; rfl)⟩
 | mit ks vs => cases ho
 | sit s p => cases ho
 | loop st pend f ts ps asg bd => cases ho
 | defer b => cases ho
theorem ren_kind {fl : TypeId -> Bool} {r : Nat -> Nat} {n : Nat} {o o' : Obj} (ho : o.ren fl r n = some o') : (∀ g e cs fc, o' = .nest g e cs fc -> o = .nest g e cs fc) /\ o'.isLoop = false := by
 cases o with
 | cells g e fz cs =>
  simp only [Obj.ren] at ho
  cases hf : fl e <;> rw [hf] at ho
  . cases ht : V.bdL n (V.renL r cs) <;> rw [ht] at ho <;> cases ho
    exact ⟨(fun _ _ _ _ h => by cases h), rfl⟩
  . cases ht : cs.all V.tree <;> rw [ht] at ho <;> cases ho
    exact ⟨(fun _ _ _ _ h => by cases h), rfl⟩
 | map ks vs =>
  simp only [Obj.ren] at ho
  cases ht : vs.all V.tree <;> rw [ht] at ho <;> cases ho
  exact ⟨(fun _ _ _ _ h => by cases h), rfl⟩
 | nest g e cs fc =>
  simp only [Obj.ren] at ho
  cases ht : (cs.all C.flat && fc.isNone) with
  | false => rw [ht] at ho; cases ho
  | true =>
   rw [ht] at ho
   cases ho
   simp only [Bool.and_eq_true, Option.isNone_iff_eq_none] at ht
   exact ⟨fun _ _ _ _ h => by rw [ht.2]; exact h, rfl⟩
 | _ => cases ho
theorem placeIn_lt : ∀ {ids : List Nat} {x : Nat}, placeIn x ids < ids.length -> ids[placeIn x ids]? = some x
 | [], x, h => by cases h
 | y :: r, x, h => by
  simp only [placeIn] at h ⊢
  cases hb : Nat.beq x y with
  | true => rw [Nat.eq_of_beq_eq_true hb]; simp
  | false =>
   rw [hb] at h
   simp only [cond_false, List.length_cons, Nat.succ_lt_succ_iff] at h ⊢
   simpa using placeIn_lt h
theorem placeIn_at : ∀ {ids : List Nat} (_ : nodupB ids = true) {k x : Nat}, ids[k]? = some x -> placeIn x ids = k
 | [], _, k, x, h => by simp at h
 | y :: r, hn, k, x, h => by
  simp only [nodupB, Bool.and_eq_true, Bool.not_eq_true'] at hn
  simp only [placeIn]
  cases k with
  | zero => simp at h; subst h; simp
  | succ k =>
   simp at h
   have hne : Nat.beq x y = false := by
    cases hb : Nat.beq x y with
    | false => rfl
    | true =>
     rw [Nat.eq_of_beq_eq_true hb] at h
     have := List.mem_of_getElem? h
     have h2 := hn.1
     rw [List.contains_eq_mem] at h2
     simp [this] at h2
   rw [hne]
   simp only [cond_false]
   rw [placeIn_at hn.2 h]
theorem nthId_lt {d : Nat} (ids : List Nat) : ∀ {k x : Nat}, ids[k]? = some x -> nthId d ids k = x := by
 induction ids with
 | nil => intro k x h; simp at h
 | cons y r ih =>
  intro k x h
  cases k with
  | zero => simp at h; subst h; rfl
  | succ k => simp at h; exact ih h
theorem nthId_ge : ∀ {d : Nat} {ids : List Nat} {k : Nat}, ids.length <= k -> nthId d ids k = d + (k - ids.length)
 | d, [], k, h => rfl
 | d, y :: r, 0, h => by simp at h
 | d, y :: r, k + 1, h => by
  have := nthId_ge (d := d) (ids := r) (k := k) (by simpa using h)
  show nthId d r k = _
  rw [this, List.length_cons]
  omega
theorem partOf_spec {fl : TypeId -> Bool} {r : Nat -> Nat} {n : Nat} : ∀ {ids : List Nat} {k : Nat} {acc t : Tm Obj}, partOf fl h r n ids k acc = some t →
  (∀ j, (j < k \/ k + ids.length <= j) -> t.get j = acc.get j) /\ ∀ j id, ids[j]? = some id -> ∃ o o', h.obj id = some o /\ o.ren fl r n = some o' /\ t.get (k + j) = some o'
 | [], k, acc, t, hq => by cases hq; exact ⟨fun _ _ => rfl, fun j id h => by simp at h⟩
 | x :: q, k, acc, t, hq => by
  simp only [partOf, oB] at hq
  obtain ⟨o, ho, o', ho', hq⟩ := hq
  obtain ⟨a, b⟩ := partOf_spec hq
  refine ⟨fun j hj => ?_, fun j id hj => ?_⟩
  . rw [a j (by simp only [List.length_cons] at hj; omega), Tm.get_put, if_neg (by simp only [List.length_cons] at hj; omega)]
  . cases j with
    | zero =>
     simp at hj
     subst hj
     refine ⟨o, o', ho, ho', ?_⟩
     rw [Nat.add_zero, a k (.inl (Nat.lt_succ_self _)), Tm.get_put, if_pos rfl]
    | succ j =>
     simp at hj
     obtain ⟨o1, o2, h1, h2, h3⟩ := b j id hj
     exact ⟨o1, o2, h1, h2, by rw [<- h3]; congr 1; omega⟩
theorem putBack_spec {fl : TypeId -> Bool} {s : Nat -> Nat} {n1 : Nat} {t : Tm Obj} (hs : ∀ i j, s i = s j -> i = j) : ∀ {n k : Nat} {h0 h' : Heap}, putBack fl s n1 t k n h0 = h' →
  h'.next = h0.next /\ (∀ j, k <= j -> j < k + n -> h'.obj (s j) = (t.get j).bind fun o => o.ren fl s n1) /\ ∀ id, (∀ j, k <= j -> j < k + n -> s j ≠ id) -> h'.obj id = h0.obj id
 | 0, k, h0, h', hq => by cases hq; exact ⟨rfl, fun j h1 h2 => by omega, fun _ _ => rfl⟩
 | n + 1, k, h0, h', hq => by
  obtain ⟨a, b, c⟩ := putBack_spec hs (n := n) (k := Nat.succ k) hq
  have hk : h'.obj (s k) = (t.get k).bind fun o => o.ren fl s n1 := by
   rw [c (s k) fun j h1 h2 e => by have := hs j k e; omega, Heap.obj_set, if_pos rfl]
  refine ⟨by rw [a]; rfl, fun j h2 h3 => ?_, fun id hid => ?_⟩
  . rcases Nat.eq_or_lt_of_le h2 with rfl | hlt
    . exact hk
    . exact b j hlt (by omega)
  . rw [c id fun j h2 h3 => hid j (by omega) (by omega), Heap.obj_set, if_neg fun e => hid k (Nat.le_refl _) (by omega) e.symm]
theorem framedCall_run {K : Code -> Prop} {E : Env} (hE : EnvOK K P E) {fl : TypeId -> Bool} (I : Inv B0 w S M h) (hn : ∀ i, n0 i -> i < h.next) {f : FuncId} {vs : List V} {cargs : Array Value} (rv : RepVL w S M vs cargs.toList) {v : V} {h' : Heap}
  (hq : framedCall fl E f vs h = some (v, h')) :
  Enters P f /\ Good K h h' /\ Calls P f cargs w fun e w' => ∃ cv S' M', e = .returned cv /\ Inv B0 w' S' M' h' /\ Ext B0 n0 w S M w' S' M' /\ RepV w' S' M' v cv := by
 classical
 unfold framedCall at hq
 generalize hids : (fetch fl h.obj scanFuel vs []).reverse = ids at hq
 simp only [oB] at hq
 obtain ⟨t, ht, hq⟩ := hq
 cases hc : (V.bdL ids.length (V.renL (fun id => placeIn id ids) vs) && nodupB ids) with
 | false => rw [hc] at hq; cases hq
 | true =>
 rw [hc] at hq
 simp only [cond_true, oB] at hq
 obtain ⟨⟨v1, h1⟩, hcall, hq⟩ := hq
 simp only at hq
 simp only [Bool.and_eq_true] at hc
 obtain ⟨hbda, hnd⟩ := hc
 cases hc2 : (Nat.ble ids.length h1.next && V.bd (h.next + (h1.next - ids.length)) (V.ren (nthId h.next ids) v1)) with
 | false => rw [hc2] at hq; cases hq
 | true =>
 rw [hc2] at hq
 simp only [cond_true, oI, Prod.mk.injEq] at hq
 obtain ⟨rfl, hpb⟩ := hq
 simp only [Bool.and_eq_true] at hc2
 obtain ⟨hle, hbdv⟩ := hc2
 have hle : ids.length <= h1.next := Nat.le_of_ble_eq_true hle
 obtain ⟨ht0, htk⟩ := partOf_spec ht
 simp only [Nat.zero_add] at htk
 have hlive : ∀ (k id : Nat), ids[k]? = some id -> ∃ o m, h.obj id = some o /\ M id = some m /\ RepO w S M m o := fun k id hk => by
  obtain ⟨o, o', ho, _⟩ := htk k id hk
  obtain ⟨m, hm, hr⟩ := I.obj id o ho
  exact ⟨o, m, ho, hm, hr⟩
 have hidlt : ∀ (k id : Nat), ids[k]? = some id -> id < h.next := fun k id hk => by
  obtain ⟨o, m, _, hm, _⟩ := hlive k id hk
  exact (I.at_ id m hm).2.2
 have hsmallobj : ∀ k o, (⟨ids.length, t⟩ : Heap).obj k = some o -> ∃ id o0, ids[k]? = some id /\ h.obj id = some o0 /\ o0.ren fl (fun id => placeIn id ids) ids.length = some o := fun k o hk => by
  have hk : t.get k = some o := hk
  rcases Nat.lt_or_ge k ids.length with hlt | hge
  . obtain ⟨o0, o', h3, h4, h5⟩ := htk k ids[k] (by simp [hlt])
    rw [hk] at h5
    cases h5
    exact ⟨ids[k], o0, by simp [hlt], h3, h4⟩
  . rw [ht0 k (.inr (by omega))] at hk
    cases hk
 obtain ⟨O, KO⟩ := I.own
 let N : MM := fun k => (ids[k]?).bind M
 let isIn : Nat -> Prop := fun b => ∃ (k id : Nat) (m : MI), ids[k]? = some id /\ M id = some m /\ m.b = b
 let B1 : Nat -> Prop := fun b => B0 b \/ (∃ (id : Nat) (o : Obj) (m : MI), (∀ k : Nat, ids[k]? ≠ some id) /\ h.obj id = some o /\ M id = some m /\ m.b = b) \/ (∃ p, O b = some p /\ ¬ isIn p.1)
 let O1 : Own := fun b => if ∃ p, O b = some p /\ isIn p.1 then O b else none
 have hB1lt : ∀ b, B1 b -> b < w.heap.size := fun b hb => by
  rcases hb with hb | ⟨id, o, m, _, _, hm, rfl⟩ | ⟨p, hp, _⟩
  . exact I.base.le b hb
  . exact (I.at_ id m hm).2.1
  . exact (KO.free b (by rw [hp]; exact fun h => by cases h)).2.2
 have hB1S : ∀ b, B1 b -> ¬ B0 b -> ¬ S b := fun b hb hnb => by
  rcases hb with hb | ⟨id, o, m, _, ho, hm, rfl⟩ | ⟨p, hp, _⟩
  . exact absurd hb hnb
  . exact I.stable id o m ho hm
  . exact (KO.free b (by rw [hp]; exact fun h => by cases h)).1
 have hNot : ∀ (k id : Nat) (m : MI), ids[k]? = some id -> M id = some m -> ¬ B1 m.b := fun k id m hk hm hb => by
  obtain ⟨o, m', ho, hm', _⟩ := hlive k id hk
  rw [hm] at hm'
  cases hm'
  rcases hb with hb | ⟨id2, o2, m2, hno, ho2, hm2, he⟩ | ⟨p, hp, _⟩
  . exact (I.at_ id m hm).1 hb
  . have := I.inj id2 id o2 o m2 m ho2 ho hm2 hm he
    exact hno k (this ▸ hk)
  . rw [KO.obj id o m ho hm] at hp; cases hp
 have hO1 : ∀ b p, O1 b = some p -> O b = some p /\ isIn p.1 := fun b p hb => by
  simp only [O1] at hb
  split at hb
  . rename_i hx
    obtain ⟨q, hq, hi⟩ := hx
    rw [hq] at hb
    cases hb
    exact ⟨hq, hi⟩
  . cases hb
 have hI1 : Inv B1 w S N ⟨ids.length, t⟩ := by
  refine ⟨fun k o hk => ?_, fun k m hm => ?_, fun k k' o o' m m' hk hk' hm hm' he => ?_, fun k o m hk hm => ?_, I.lt, ⟨hB1lt, fun b hb => .inl (I.base.nb b hb), I.base.gl⟩, O1, fun b hb => ?_, fun k o m hk hm => ?_, fun k g e cs fc m hk hm j e2 sh xs hj => ?_, fun b hb => ?_⟩
  . obtain ⟨id, o0, h3, h4, h5⟩ := hsmallobj k o hk
    obtain ⟨m, hm, hr⟩ := I.obj id o0 h4
    refine ⟨m, by simp only [N, h3]; exact hm, hr.ren (fun b hb => ⟨hb, rfl⟩) (fun id m hlt hm => ?_) rfl h5⟩
    simp only [N, placeIn_lt hlt]; exact hm
  . simp only [N, oB] at hm
    obtain ⟨id, hk, hm⟩ := hm
    exact ⟨hNot k id m hk hm, (I.at_ id m hm).2.1, (gS.1 hk).1⟩
  . obtain ⟨id, o0, h3, h4, _⟩ := hsmallobj k o hk
    obtain ⟨id', o0', h3', h4', _⟩ := hsmallobj k' o' hk'
    simp only [N, h3, h3', oS] at hm hm'
    have := I.inj id id' o0 o0' m m' h4 h4' hm hm' he
    subst this
    rw [<- placeIn_at hnd h3, <- placeIn_at hnd h3']
  . obtain ⟨id, o0, h3, h4, _⟩ := hsmallobj k o hk
    simp only [N, h3, oS] at hm
    exact I.stable id o0 m h4 hm
  . rcases hp : O1 b with _ | p
    . exact absurd hp hb
    . obtain ⟨h3, h4⟩ := hO1 b p hp
      obtain ⟨f1, f2, f3⟩ := KO.free b (by rw [h3]; exact fun h => by cases h)
      refine ⟨f1, fun hb1 => ?_, f3⟩
      rcases hb1 with hb1 | ⟨id, o, m, _, ho, hm, rfl⟩ | ⟨q, hq, hi⟩
      . exact f2 hb1
      . rw [KO.obj id o m ho hm] at h3; cases h3
      . rw [h3] at hq; cases hq; exact hi h4
  . obtain ⟨id, o0, h3, h4, _⟩ := hsmallobj k o hk
    simp only [N, h3, oS] at hm
    rcases hp : O1 m.b with _ | p
    . rfl
    . have := (hO1 _ p hp).1
      rw [KO.obj id o0 m h4 hm] at this
      cases this
  . obtain ⟨id, o0, h3, h4, h5⟩ := hsmallobj k _ hk
    simp only [N, h3, oS] at hm
    have := (ren_kind h5).1 g e cs fc rfl
    subst this
    obtain ⟨u, hu, hr⟩ := KO.rep id g e cs fc m h4 hm j e2 sh xs hj
    refine ⟨u, hu, hr.mono (fun b hb => ⟨hb, rfl⟩) fun b hb => ⟨?_, rfl⟩⟩
    have hx : ∃ p, O b = some p /\ isIn p.1 := ⟨_, hb, k, id, m, h3, hm, rfl⟩
    simp only [O1]
    rw [if_pos hx]; exact hb
  . rcases hp : O1 b with _ | p
    . exact absurd hp hb
    . exact KO.cel b (by rw [(hO1 b p hp).1]; exact fun h => by cases h)
 have hrv : RepVL w S N (V.renL (fun id => placeIn id ids) vs) cargs.toList := by
  refine ⟨by rw [renL_map]; simpa using rv.1, fun i x u hx hu => ?_⟩
  have hbd := bdL_all _ _ hbda x (List.mem_of_getElem? hx)
  rw [renL_map, List.getElem?_map, oM] at hx
  obtain ⟨z, hz, rfl⟩ := hx
  exact (rv.2 i z u hz hu).ren (fun b hb => ⟨hb, rfl⟩) (fun id m hlt hm => by simp only [N, placeIn_lt hlt]; exact hm) hbd
 obtain ⟨hen, hgood, hrun⟩ := hE.call f _ _ _ _ hcall
 have hsinj : ∀ i j, nthId h.next ids i = nthId h.next ids j -> i = j := fun i j e => by
  rcases Nat.lt_or_ge i ids.length with hi | hi <;> rcases Nat.lt_or_ge j ids.length with hj | hj
  . rw [nthId_lt ids (k := i) (x := ids[i]) (by simp [hi]), nthId_lt ids (k := j) (x := ids[j]) (by simp [hj])] at e
    rw [<- placeIn_at hnd (k := i) (x := ids[i]) (by simp [hi]), <- placeIn_at hnd (k := j) (x := ids[j]) (by simp [hj]), e]
  . rw [nthId_lt ids (k := i) (x := ids[i]) (by simp [hi]), nthId_ge hj] at e
    have := hidlt i ids[i] (by simp [hi]); omega
  . rw [nthId_lt ids (k := j) (x := ids[j]) (by simp [hj]), nthId_ge hi] at e
    have := hidlt j ids[j] (by simp [hj]); omega
  . rw [nthId_ge hi, nthId_ge hj] at e; omega
 obtain ⟨hnx, hpk, hpf⟩ := putBack_spec hsinj hpb
 simp only [Nat.zero_le, Nat.zero_add, true_implies] at hpk hpf
 have hnoLoop : ∀ id st pend f ts ps asg bd, h'.obj id = some (.loop st pend f ts ps asg bd) -> h.obj id = some (.loop st pend f ts ps asg bd) := fun id st pend f ts ps asg bd hi => by
  by_cases hex : ∃ j, j < h1.next /\ nthId h.next ids j = id
  . obtain ⟨j, hj, rfl⟩ := hex
    rw [hpk j hj] at hi
    obtain ⟨o1, _, ho'⟩ := oB.1 hi
    have := (ren_kind ho').2
    cases this
  . rw [hpf id fun j hj e => hex ⟨j, hj, e⟩] at hi; exact hi
 refine ⟨hen, fun hk => ⟨by rw [hnx]; show h.next <= h.next + _; omega, fun id st pend f ts ps asg bd hi => hk id st pend f ts ps asg bd (hnoLoop _ _ _ _ _ _ _ _ hi)⟩, ?_⟩
 have hk0 : HeapOK K ⟨ids.length, t⟩ := fun k st pend f ts ps asg bd hk => by
  obtain ⟨id, o0, _, _, h5⟩ := hsmallobj k _ hk
  have := (ren_kind h5).2
  cases this
 refine (hrun B1 w S N cargs hk0 hI1 hrv).mono ?_
 rintro e w' ⟨cv, S', N', rfl, I', E', hv⟩
 let Q : Nat -> Option Nat := fun id => if placeIn id ids < ids.length then some (placeIn id ids) else if h.next <= id then some (ids.length + (id - h.next)) else none
 let M' : MM := fun id => match Q id with | some k => N' k | none => M id
 have hQs : ∀ k, Q (nthId h.next ids k) = some k := fun k => by
  rcases Nat.lt_or_ge k ids.length with hlt | hge
  . rw [nthId_lt ids (k := k) (x := ids[k]) (by simp [hlt])]
    have := placeIn_at hnd (k := k) (x := ids[k]) (by simp [hlt])
    simp only [Q, this]
    rw [if_pos hlt]
  . rw [nthId_ge hge]
    have hno : ¬ placeIn (h.next + (k - ids.length)) ids < ids.length := fun hlt => by
     have := hidlt _ _ (placeIn_lt hlt); omega
    simp only [Q]
    rw [if_neg hno, if_pos (by omega)]
    congr 1; omega
 have hMs : ∀ k, M' (nthId h.next ids k) = N' k := fun k => by simp only [M', hQs]
 have hQ1 : ∀ id k, Q id = some k -> id = nthId h.next ids k := fun id k hk => by
  simp only [Q] at hk
  split at hk
  . rename_i hlt
    cases hk
    exact (nthId_lt ids (placeIn_lt hlt)).symm
  . split at hk
    . cases hk
      rw [nthId_ge (by omega)]; omega
    . cases hk
 have hQn : ∀ id, Q id = none -> (∀ k : Nat, ids[k]? ≠ some id) /\ id < h.next := fun id hq => by
  simp only [Q] at hq
  split at hq
  . cases hq
  . rename_i hno
    split at hq
    . cases hq
    . rename_i hlt
      refine ⟨fun k hk => hno ?_, by omega⟩
      rw [placeIn_at hnd hk]
      exact (gS.1 hk).1
 have hMext : ∀ id m, M id = some m -> ∃ m', M' id = some m' /\ (m' = m \/ (m.gen < m'.gen /\ m.ext <= m.tot)) := fun id m hm => by
  rcases hq : Q id with _ | k
  . exact ⟨m, by simp only [M', hq]; exact hm, .inl rfl⟩
  . have hid := hQ1 id k hq
    have hlt : k < ids.length := by
     rcases Nat.lt_or_ge k ids.length with hlt | hge
     . exact hlt
     . rw [hid, nthId_ge hge] at hm
       have := (I.at_ _ m hm).2.2; omega
    have he : N k = some m := by
     have h3 : ids[k]? = some id := by rw [hid, nthId_lt ids (k := k) (x := ids[k]) (by simp [hlt])]; simp [hlt]
     simp only [N, h3]; exact hm
    obtain ⟨m', h3, h4⟩ := E'.map k m he
    exact ⟨m', by simp only [M', hq]; exact h3, h4⟩
 have hS : ∀ b, S b -> S' b /\ w'.heap[b]? = w.heap[b]? := E'.keep
 have hobj : ∀ id o, h'.obj id = some o -> (∃ k o1, k < h1.next /\ Q id = some k /\ h1.obj k = some o1 /\ o1.ren fl (nthId h.next ids) (h.next + (h1.next - ids.length)) = some o) \/ (Q id = none /\ h.obj id = some o) := fun id o hi => by
  by_cases hex : ∃ j, j < h1.next /\ nthId h.next ids j = id
  . obtain ⟨j, hj, rfl⟩ := hex
    rw [hpk j hj] at hi
    obtain ⟨o1, ho1, ho'⟩ := oB.1 hi
    exact .inl ⟨j, o1, hj, hQs j, ho1, ho'⟩
  . rw [hpf id fun j hj e => hex ⟨j, hj, e⟩] at hi
    have hi : h.obj id = some o := hi
    right
    refine ⟨?_, hi⟩
    rcases hq : Q id with _ | k
    . rfl
    . exfalso
      have hid := hQ1 id k hq
      obtain ⟨m, hm, _⟩ := I.obj id o hi
      have hlt := (I.at_ id m hm).2.2
      rcases Nat.lt_or_ge k ids.length with hk | hge
      . exact hex ⟨k, by omega, hid.symm⟩
      . rw [hid, nthId_ge hge] at hlt; omega
 have hframe : ∀ id o m, Q id = none -> h.obj id = some o -> M id = some m -> B1 m.b := fun id o m hq ho hm => .inr (.inl ⟨id, o, m, (hQn id hq).1, ho, hm, rfl⟩)
 have hren : ∀ id m, nthId h.next ids id < h.next + (h1.next - ids.length) -> N' id = some m -> M' (nthId h.next ids id) = some m := fun id m _ hm => by rw [hMs]; exact hm
 obtain ⟨O', K'⟩ := I'.own
 refine ⟨cv, S', M', rfl, ⟨fun id o hi => ?_, fun id m hm => ?_, fun id id' o o' m m' hi hi' hm hm' he => ?_, fun id o m hi hm => ?_, I'.lt, I.base.step E'.size fun b hb => E'.below b (.inl hb), fun b => if B1 b then O b else O' b, fun b hb => ?_, fun id o m hi hm => ?_, fun id g e cs fc m hi hm j e2 sh xs hj => ?_, fun b hb => ?_⟩,
  ⟨E'.os, E'.tape, E'.output, E'.size, fun b hb => E'.below b (.inl hb), hS, hMext, fun id hi hm => ?_, fun b hb => (E'.new b hb).imp (fun h => h) fun h k => h (.inl k)⟩, hv.ren (fun b hb => ⟨hb, rfl⟩) hren hbdv⟩
 . rcases hobj id o hi with ⟨k, o1, hk, hq, ho1, hr⟩ | ⟨hq, ho⟩
   . obtain ⟨m, hm, hro⟩ := I'.obj k o1 ho1
     exact ⟨m, by simp only [M', hq]; exact hm, hro.ren (fun b hb => ⟨hb, rfl⟩) hren rfl hr⟩
   . obtain ⟨m, hm, hro⟩ := I.obj id o ho
     exact ⟨m, by simp only [M', hq]; exact hm, hro.mono hS hMext (E'.below _ (hframe id o m hq ho hm))⟩
 . rcases hq : Q id with _ | k
   . simp only [M', hq] at hm
     have := I.at_ id m hm
     exact ⟨this.1, Nat.lt_of_lt_of_le this.2.1 E'.size, by rw [hnx]; show id < h.next + _; omega⟩
   . simp only [M', hq] at hm
     have := I'.at_ k m hm
     refine ⟨fun hb => this.1 (.inl hb), this.2.1, ?_⟩
     rw [hQ1 id k hq, hnx]
     show _ < h.next + _
     rcases Nat.lt_or_ge k ids.length with hk | hge
     . rw [nthId_lt ids (k := k) (x := ids[k]) (by simp [hk])]
       have := hidlt k ids[k] (by simp [hk]); omega
     . rw [nthId_ge hge]; omega
 . rcases hobj id o hi with ⟨k, o1, hk, hq, ho1, _⟩ | ⟨hq, ho⟩ <;> rcases hobj id' o' hi' with ⟨k', o1', hk', hq', ho1', _⟩ | ⟨hq', ho'⟩
   . simp only [M', hq, hq'] at hm hm'
     have := I'.inj k k' o1 o1' m m' ho1 ho1' hm hm' he
     rw [hQ1 id k hq, hQ1 id' k' hq', this]
   . simp only [M', hq, hq'] at hm hm'
     exact absurd (he ▸ hframe id' o' m' hq' ho' hm') (I'.at_ k m hm).1
   . simp only [M', hq, hq'] at hm hm'
     exact absurd (he ▸ hframe id o m hq ho hm) (I'.at_ k' m' hm').1
   . simp only [M', hq, hq'] at hm hm'
     exact I.inj id id' o o' m m' ho ho' hm hm' he
 . rcases hobj id o hi with ⟨k, o1, hk, hq, ho1, _⟩ | ⟨hq, ho⟩
   . simp only [M', hq] at hm
     exact I'.stable k o1 m ho1 hm
   . simp only [M', hq] at hm
     exact fun hs => (E'.new _ hs).elim (I.stable id o m ho hm) fun h => h (hframe id o m hq ho hm)
 . by_cases hb1 : B1 b
   . rw [if_pos hb1] at hb
     obtain ⟨f1, f2, f3⟩ := KO.free b hb
     exact ⟨fun hs => (E'.new _ hs).elim f1 fun h => h hb1, f2, Nat.lt_of_lt_of_le f3 E'.size⟩
   . rw [if_neg hb1] at hb
     obtain ⟨f1, f2, f3⟩ := K'.free b hb
     exact ⟨f1, fun h => f2 (.inl h), f3⟩
 . rcases hobj id o hi with ⟨k, o1, hk, hq, ho1, _⟩ | ⟨hq, ho⟩
   . simp only [M', hq] at hm
     show (if B1 m.b then O m.b else O' m.b) = none
     rw [if_neg (I'.at_ k m hm).1]
     exact K'.obj k o1 m ho1 hm
   . simp only [M', hq] at hm
     show (if B1 m.b then O m.b else O' m.b) = none
     rw [if_pos (hframe id o m hq ho hm)]
     exact KO.obj id o m ho hm
 . rcases hobj id _ hi with ⟨k, o1, hk, hq, ho1, hr⟩ | ⟨hq, ho⟩
   . simp only [M', hq] at hm
     have := (ren_kind hr).1 g e cs fc rfl
     subst this
     obtain ⟨u, hu, hro⟩ := K'.rep k g e cs fc m ho1 hm j e2 sh xs hj
     refine ⟨u, hu, hro.mono (fun b hb => ⟨hb, rfl⟩) fun b hb => ⟨?_, rfl⟩⟩
     show (if B1 b then O b else O' b) = _
     rw [if_neg (K'.free b (by rw [hb]; exact fun h => by cases h)).2.1]; exact hb
   . simp only [M', hq] at hm
     obtain ⟨u, hu, hro⟩ := KO.rep id g e cs fc m ho hm j e2 sh xs hj
     refine ⟨u, by rw [cell_keep (E'.below _ (hframe id _ m hq ho hm))]; exact hu, hro.mono hS fun b hb => ?_⟩
     have hb1 : B1 b := by
      refine .inr (.inr ⟨_, hb, fun hx => ?_⟩)
      obtain ⟨k, id2, m2, h3, h4, h5⟩ := hx
      obtain ⟨o2, m2', ho2, hm2', _⟩ := hlive k id2 h3
      rw [h4] at hm2'
      cases hm2'
      have := I.inj id id2 _ o2 m m2 ho ho2 hm h4 h5.symm
      subst this
      exact (hQn id hq).1 k h3
     refine ⟨?_, E'.below b hb1⟩
     show (if B1 b then O b else O' b) = _
     rw [if_pos hb1]; exact hb
 . by_cases hb1 : B1 b
   . rw [if_pos hb1] at hb
     rw [E'.below b hb1]; exact KO.cel b hb
   . rw [if_neg hb1] at hb
     exact K'.cel b hb
 . have hlt := hn id hi
   rcases hq : Q id with _ | k
   . simp only [M', hq]; exact hm
   . exfalso
     have hid := hQ1 id k hq
     rcases Nat.lt_or_ge k ids.length with hk | hge
     . rw [hid, nthId_lt ids (k := k) (x := ids[k]) (by simp [hk])] at hm
       obtain ⟨o, m, _, hm', _⟩ := hlive k ids[k] (by simp [hk])
       rw [hm] at hm'; cases hm'
     . rw [hid, nthId_ge hge] at hlt; omega
theorem putBack_loop {fl : TypeId -> Bool} {s : Nat -> Nat} {n1 : Nat} {t : Tm Obj} : ∀ {n k : Nat} {h0 h' : Heap}, putBack fl s n1 t k n h0 = h' -> h'.next = h0.next /\ ∀ id o, h'.obj id = some o -> o.isLoop = false \/ h0.obj id = some o
 | 0, k, h0, h', hq => by cases hq; exact ⟨rfl, fun _ _ h => .inr h⟩
 | n + 1, k, h0, h', hq => by
  obtain ⟨a, b⟩ := putBack_loop (n := n) (k := Nat.succ k) hq
  refine ⟨a, fun id o hi => ?_⟩
  rcases b id o hi with h | h
  . exact .inl h
  . rw [Heap.obj_set] at h
    split at h
    . obtain ⟨o1, _, ho'⟩ := oB.1 h
      exact .inl (ren_kind ho').2
    . exact .inr h
theorem framedCall_good {K : Code -> Prop} {E : Env} {fl : TypeId -> Bool} {f : FuncId} {vs : List V} {v : V} {h' : Heap} (hq : framedCall fl E f vs h = some (v, h')) : Good K h h' := by
 unfold framedCall at hq
 generalize (fetch fl h.obj scanFuel vs []).reverse = ids at hq
 simp only [oB] at hq
 obtain ⟨t, ht, hq⟩ := hq
 cases hc : (V.bdL ids.length (V.renL (fun id => placeIn id ids) vs) && nodupB ids) with
 | false => rw [hc] at hq; cases hq
 | true =>
 rw [hc] at hq
 simp only [cond_true, oB] at hq
 obtain ⟨⟨v1, h1⟩, hcall, hq⟩ := hq
 simp only at hq
 cases hc2 : (Nat.ble ids.length h1.next && V.bd (h.next + (h1.next - ids.length)) (V.ren (nthId h.next ids) v1)) with
 | false => rw [hc2] at hq; cases hq
 | true =>
 rw [hc2] at hq
 simp only [cond_true, oI, Prod.mk.injEq] at hq
 obtain ⟨rfl, hpb⟩ := hq
 obtain ⟨a, b⟩ := putBack_loop hpb
 refine fun hk => ⟨by rw [a]; show h.next <= h.next + _; omega, fun id st pend f ts ps asg bd hi => ?_⟩
 rcases b id _ hi with h | h
 . cases h
 . exact hk id st pend f ts ps asg bd h
end
end Go.Apex
