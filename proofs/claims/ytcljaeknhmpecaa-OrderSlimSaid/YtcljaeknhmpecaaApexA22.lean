import Derived.Test.YtcljaeknhmpecaaApexA21
import Derived.CallsIn
import Derived.RangeFuncCalls
import Derived.RangeFuncLeaves
set_option linter.all false
set_option linter.unusedVariables false
set_option linter.unusedSimpArgs false
set_option linter.unusedSectionVars false
set_option linter.deprecated false
/- Calls: what is asked of the evaluator's environment; calls by the mode of their callee. -/
namespace Go.Apex
open Go Go.RowKit
variable [Globs]
section
variable {cfg : Cfg} {P : Program} {B0 : Nat} {n0 : Nat → Prop} {w : World} {S : Nat → Prop} {M : MM} {h : Heap} {ts : Ts} {a : Array Value} {slot : Nat}

/-- The machine's own function: it is entered. -/
def Enters (P : Program) (f : FuncId) : Prop := ∃ fn, P.funcs[f]? = some fn ∧ fn.body.isNone = false ∧ (fn.name == "runtime.NumGoroutine") = false
theorem run_callFunc {f : FuncId} (hf : Enters P f) (args : Array Value) (w : World) : (callFunc f args).run P w = .ok (.enter f args) w := by
  obtain ⟨fn, h1, h2, h3⟩ := hf
  simp only [callFunc, Sem.run_bind, run_program, Result.andThen_ok, h1, h3, h2, Bool.false_eq_true, if_false, Sem.run_pure]

/-- Memory has only new blocks. -/
structure Pure (w : World) (S : Nat → Prop) (w' : World) (S' : Nat → Prop) : Prop where
  os : w'.os = w.os
  tape : w'.tape = w.tape
  output : w'.output = w.output
  size : w.heap.size ≤ w'.heap.size
  below : ∀ b, b < w.heap.size → w'.heap[b]? = w.heap[b]?
  keep : ∀ b, S b → S' b
  new : ∀ b, S' b → S b ∨ w.heap.size ≤ b
  lt : ∀ b, S' b → b < w'.heap.size
def RepTL (w : World) (S : Nat → Prop) (xs : List T) (a : List Value) : Prop :=
  xs.length = a.length ∧ ∀ (i : Nat) (x : T) (v : Value), xs[i]? = some x → a[i]? = some v → RepT w S x v

def FR (ro : Option Nat) : Fence := { fn := fun _ => True, depth := none, alive := false, round := ro }
theorem callsIn_FR {ro : Option Nat} {n : Nat} {f : FuncId} {args : Array Value} {R : Ending → World → Prop} (h : Calls P f args w R) : CallsIn (FR ro) n P f args w R := by
  have h0 : CallsIn Fence.wide n P f args w R := callsIn_wide.2 h
  cases ro with
  | none => exact h0
  | some l => exact CallsIn.inRound l h0

/-- The loops that lie in the heap have code of a kind. -/
def HeapOK (K : Code → Prop) (h : Heap) : Prop := ∀ id st pend f ts ps asg bd, h.obj id = some (.loop st pend f ts ps asg bd) → K asg ∧ K bd
def Good (K : Code → Prop) (h h' : Heap) : Prop := HeapOK K h → h.next ≤ h'.next ∧ HeapOK K h'
theorem Good.refl (K : Code → Prop) (h : Heap) : Good K h h := fun x => ⟨Nat.le_refl _, x⟩
theorem Good.trans {K : Code → Prop} {h h1 h2 : Heap} (a : Good K h h1) (b : Good K h1 h2) : Good K h h2 := fun x => ⟨Nat.le_trans (a x).1 (b (a x).2).1, (b (a x).2).2⟩
def Obj.isLoop : Obj → Bool
  | .loop .. => true
  | _ => false
theorem Good.set {K : Code → Prop} {h : Heap} {id : Nat} {o : Obj} (hn : o.isLoop = false) : Good K h (h.set id (some o)) := by
  refine fun hk => ⟨Nat.le_refl _, fun i st pend f ts ps asg bd hi => ?_⟩
  rw [Heap.obj_set] at hi
  split at hi
  · cases hi; cases hn
  · exact hk i st pend f ts ps asg bd hi
theorem Good.clear {K : Code → Prop} {h : Heap} {id : Nat} : Good K h (h.set id none) := by
  refine fun hk => ⟨Nat.le_refl _, fun i st pend f ts ps asg bd hi => ?_⟩
  rw [Heap.obj_set] at hi
  split at hi
  · cases hi
  · exact hk i st pend f ts ps asg bd hi

structure EnvOK (K : Code → Prop) (P : Program) (E : Env) : Prop where
  pure : ∀ (f : FuncId) (xs : List T) (r : T), E.pure f xs = some r → Enters P f ∧ ∀ (w : World) (S : Nat → Prop) (cargs : Array Value), BaseOK w.heap.size w → (∀ b, S b → b < w.heap.size) → RepTL w S xs cargs.toList →
    Calls P f cargs w fun e w' => ∃ cv S', e = .returned cv ∧ Pure w S w' S' ∧ RepT w' S' r cv
  call : ∀ (f : FuncId) (vs : List V) (h : Heap) (v : V) (h' : Heap), E.call (.fn f) vs h = some (v, h') → Enters P f ∧ Good K h h' ∧ ∀ (B0 : Nat) (w : World) (S : Nat → Prop) (M : MM) (cargs : Array Value), HeapOK K h → Inv B0 w S M h → RepVL w S M vs cargs.toList →
    Calls P f cargs w fun e w' => ∃ cv S' M', e = .returned cv ∧ Inv B0 w' S' M' h' ∧ Ext B0 (· < h.next) w S M w' S' M' ∧ RepV w' S' M' v cv
  yld : ∀ (l : Nat) (vs : List V) (h : Heap) (v : V) (h' : Heap), E.call (.yld l) vs h = some (v, h') → Good K h h' ∧ ∀ (B0 : Nat) (w : World) (S : Nat → Prop) (M : MM) (cargs : Array Value) (m : MI), HeapOK K h → Inv B0 w S M h → RepVL w S M vs cargs.toList → M l = some m →
    m.gen = 0 ∧ ∃ f tmps asg bd, (Instr.yield m.b cargs).run P w = .ok (.round m.b f tmps asg bd) w ∧ ∀ ro n, RoundIn (FR ro) n P m.b f tmps asg bd w fun e w' => ∃ cv S' M', e = .returned cv ∧ Inv B0 w' S' M' h' ∧ Ext B0 (· < h.next) w S M w' S' M' ∧ RepV w' S' M' v cv
  iter : ∀ g s r, E.iter g s = some r → ∃ n, iterN n g s = some r

theorem Inv.pure (I : Inv B0 w S M h) {w' : World} {S' : Nat → Prop} (hp : Pure w S w' S') : Inv B0 w' S' M h ∧ Ext B0 n0 w S M w' S' M := by
  have hS : ∀ b, S b → S' b ∧ w'.heap[b]? = w.heap[b]? := fun b hb => ⟨hp.keep b hb, hp.below b (I.lt b hb)⟩
  have hM : ∀ i m, M i = some m → ∃ m2, M i = some m2 ∧ (m2 = m ∨ (m.gen < m2.gen ∧ m.ext ≤ m.tot)) := fun i m hm => ⟨m, hm, .inl rfl⟩
  refine ⟨⟨?_, ?_, I.inj, ?_, hp.lt, I.base.step hp.size fun b hb => hp.below b (Nat.lt_of_lt_of_le hb I.base.le)⟩, ⟨hp.os, hp.tape, hp.output, hp.size, fun b hb => hp.below b (Nat.lt_of_lt_of_le hb I.base.le), hS, hM, fun _ _ h => h, fun b hb => (hp.new b hb).imp (fun h => h) (Nat.le_trans I.base.le)⟩⟩
  · intro i o hi
    obtain ⟨m, hm, hr⟩ := I.obj i o hi
    exact ⟨m, hm, hr.mono hS hM (hp.below m.b (I.at_ i m hm).2.1)⟩
  · intro i m hm
    have := I.at_ i m hm
    exact ⟨this.1, Nat.lt_of_lt_of_le this.2.1 hp.size, this.2.2⟩
  · intro i o m hi hm hs
    rcases hp.new _ hs with hs | hs
    · exact I.stable i o m hi hm hs
    · have := (I.at_ i m hm).2.1
      omega

theorem scalar1_rep {w' : World} {S' : Nat → Prop} {r : T} {cv : Value} (hs : r.scalar1 = true) (h : RepT w S r cv) : RepT w' S' r cv := by
  cases r <;> simp [T.scalar1] at hs <;> cases h
  · exact .bool _
  · exact .int _ _
  · exact .str _ _ (by assumption)
  · exact .nilp
  · exact .nils
  · exact .nilm
  · exact .nilf
  · exact .nili
theorem scalar2_rep {w' : World} {S' : Nat → Prop} {r : T} {cv : Value} (hs : r.scalar2 = true) (h : RepT w S r cv) : RepT w' S' r cv := by
  cases r with
  | agg cs =>
    simp only [T.scalar2, List.all_eq_true] at hs
    cases h with
    | agg _ a hl hr => exact .agg _ _ hl fun i x v p q => scalar1_rep (hs x (List.mem_of_getElem? p)) (hr i x v p q)
  | _ => exact scalar1_rep hs h
theorem scalar_rep {w' : World} {S' : Nat → Prop} {r : T} {cv : Value} (hs : r.scalar = true) (h : RepT w S r cv) : RepT w' S' r cv := by
  cases r with
  | tup cs =>
    simp only [T.scalar, List.all_eq_true] at hs
    cases h with
    | tup _ a hl hr => exact .tup _ _ hl fun i x v p q => scalar2_rep (hs x (List.mem_of_getElem? p)) (hr i x v p q)
  | _ => exact scalar2_rep hs h

theorem quietCall_run {K : Code → Prop} {E : Env} (hE : EnvOK K P E) (I : Inv B0 w S M h) {rd : Rd} (hrd : ∀ id o, rd id = some o → h.obj id = some o) {f : FuncId} {vs : List V} {cargs : Array Value} (rv : RepVL w S M vs cargs.toList) {v : V} (hq : quietCall cfg E f vs rd = some v) :
    Enters P f ∧ Calls P f cargs w fun e w' => ∃ cv S', e = .returned cv ∧ Inv B0 w' S' M h ∧ Ext B0 n0 w S M w' S' M ∧ RepV w' S' M v cv := by
  unfold quietCall at hq
  split at hq
  · simp only [Option.bind_eq_some_iff, Option.map_eq_some_iff] at hq
    obtain ⟨xs, hxs, r, hr, rfl⟩ := hq
    have := allT_spec hxs
    subst this
    obtain ⟨hen, hc⟩ := hE.pure f xs r hr
    refine ⟨hen, (hc w S cargs I.base.top I.lt (repVL_t rv)).mono ?_⟩
    rintro e w' ⟨cv, S', rfl, hp, hrep⟩
    obtain ⟨h1, h2⟩ := I.pure (n0 := n0) hp
    exact ⟨cv, S', rfl, h1, h2, .t _ _ hrep⟩
  · simp only [Option.bind_eq_some_iff] at hq
    obtain ⟨xs, hxs, r, hr, hq⟩ := hq
    split at hq
    case isFalse => cases hq
    rename_i hsc
    cases hq
    obtain ⟨hen, hc⟩ := hE.pure f xs r hr
    have hargs := snapL (Sx := fun b => b < w.heap.size) (fun v x cv hs hr => snap_rep I hrd I.lt (fun id o m _ hm => (I.at_ id m hm).2.1) snapFuel v x cv hs hr) hxs rv
    refine ⟨hen, (hc w (fun b => b < w.heap.size) cargs I.base.top (fun b hb => hb) hargs).mono ?_⟩
    rintro e w' ⟨cv, S', rfl, hp, hrep⟩
    have hp2 : Pure w S w' S := ⟨hp.os, hp.tape, hp.output, hp.size, hp.below, fun b hb => hb, fun b hb => .inl hb, fun b hb => Nat.lt_of_lt_of_le (I.lt b hb) hp.size⟩
    obtain ⟨h1, h2⟩ := I.pure (n0 := n0) hp2
    exact ⟨cv, S, rfl, h1, h2, .t _ _ (scalar_rep hsc hrep)⟩
  · cases hq
  · cases hq

/-- A block that a callee has made becomes an object. -/
theorem Inv.adopt (I : Inv B0 w S M h) {w' : World} {S' : Nat → Prop} (hp : Pure w S w' S') {id : Nat} (hs0 : M id = none) (hs1 : ¬ n0 id) (hs2 : id < h.next) {o : Obj} {m' : MI} (hb : w.heap.size ≤ m'.b) (hlt : m'.b < w'.heap.size) (hnS : ¬ S' m'.b)
    (hO : ∀ M' : MM, (∀ i m, M i = some m → ∃ m2, M' i = some m2 ∧ (m2 = m ∨ (m.gen < m2.gen ∧ m.ext ≤ m.tot))) → M' id = some m' → RepO w' S' M' m' o) :
    Inv B0 w' S' (M.set id m') (h.set id (some o)) ∧ Ext B0 n0 w S M w' S' (M.set id m') := by
  have hS : ∀ b, S b → S' b ∧ w'.heap[b]? = w.heap[b]? := fun b hb => ⟨hp.keep b hb, hp.below b (I.lt b hb)⟩
  have hM : ∀ i m, M i = some m → ∃ m2, (M.set id m') i = some m2 ∧ (m2 = m ∨ (m.gen < m2.gen ∧ m.ext ≤ m.tot)) := fun i m hm => by
    have : i ≠ id := fun e => by rw [e, hs0] at hm; cases hm
    exact ⟨m, by simp [MM.set, this, hm], .inl rfl⟩
  have old : ∀ i o1, i ≠ id → (h.set id (some o)).obj i = some o1 → h.obj i = some o1 := fun i o1 hne hi => by rw [Heap.obj_set, if_neg hne] at hi; exact hi
  have oldM : ∀ i m, i ≠ id → (M.set id m') i = some m → M i = some m := fun i m hne hm => by simpa only [MM.set, if_neg hne] using hm
  have newM : ∀ m, (M.set id m') id = some m → m = m' := fun m hm => by simp only [MM.set, if_true, Option.some.injEq] at hm; exact hm.symm
  refine ⟨⟨?_, ?_, ?_, ?_, hp.lt, I.base.step hp.size fun b hb => hp.below b (Nat.lt_of_lt_of_le hb I.base.le)⟩, ⟨hp.os, hp.tape, hp.output, hp.size, fun b hb => hp.below b (Nat.lt_of_lt_of_le hb I.base.le), hS, hM, ?_, fun b hb => (hp.new b hb).imp (fun h => h) (Nat.le_trans I.base.le)⟩⟩
  · intro i o1 hi
    by_cases e : i = id
    · subst e
      rw [Heap.obj_set, if_pos rfl] at hi
      cases hi
      exact ⟨m', by simp [MM.set], hO _ hM (by simp [MM.set])⟩
    · obtain ⟨m, hm, hr⟩ := I.obj i o1 (old i o1 e hi)
      exact ⟨m, by simp [MM.set, e, hm], hr.mono hS hM (hp.below m.b (I.at_ i m hm).2.1)⟩
  · intro i m hm
    by_cases e : i = id
    · subst e
      rw [newM m hm]
      exact ⟨Nat.le_trans I.base.le hb, hlt, hs2⟩
    · have := I.at_ i m (oldM i m e hm)
      exact ⟨this.1, Nat.lt_of_lt_of_le this.2.1 hp.size, this.2.2⟩
  · intro i j o1 o2 m1 m2 hi hj hm1 hm2 he
    by_cases e1 : i = id <;> by_cases e2 : j = id
    · rw [e1, e2]
    · exfalso
      subst e1
      have h1 := newM m1 hm1
      have h2 := (I.at_ j m2 (oldM j m2 e2 hm2)).2.1
      rw [h1] at he; omega
    · exfalso
      subst e2
      have h1 := newM m2 hm2
      have h2 := (I.at_ i m1 (oldM i m1 e1 hm1)).2.1
      rw [h1] at he; omega
    · exact I.inj i j o1 o2 m1 m2 (old i o1 e1 hi) (old j o2 e2 hj) (oldM i m1 e1 hm1) (oldM j m2 e2 hm2) he
  · intro i o1 m hi hm
    by_cases e : i = id
    · subst e; rw [newM m hm]; exact hnS
    · have hm0 := oldM i m e hm
      intro hs
      rcases hp.new _ hs with hs | hs
      · exact I.stable i o1 m (old i o1 e hi) hm0 hs
      · have := (I.at_ i m hm0).2.1; omega
  · intro i hi hm
    by_cases e : i = id
    · subst e; exact absurd hi hs1
    · simpa only [MM.set, if_neg e] using hm

theorem inv_empty {w : World} {S : Nat → Prop} (hB : BaseOK w.heap.size w) (hS : ∀ b, S b → b < w.heap.size) : Inv w.heap.size w S (fun _ => none) Heap.empty := by
  refine ⟨?_, ?_, ?_, ?_, hS, hB⟩
  · intro id o h; cases h
  · intro id m h; cases h
  · intro id id' o o' m m' h; cases h
  · intro id o m h; cases h
theorem scalar1_any {w' : World} {S' : Nat → Prop} {M' : MM} {xs : List T} {cs : List V} (hx : allT cs = some xs) (hall : xs.all (·.scalar1) = true) {i : Nat} {c : V} (hc : cs[i]? = some c) {cv : Value} (h : RepV w S M c cv) : RepV w' S' M' c cv := by
  have := allT_spec hx
  subst this
  rw [List.getElem?_map, Option.map_eq_some_iff] at hc
  obtain ⟨x, hx, rfl⟩ := hc
  simp only [List.all_eq_true] at hall
  exact .t _ _ (scalar1_rep (hall x (List.mem_of_getElem? hx)) (repV_t h))
theorem flat_any {w' : World} {S' : Nat → Prop} {M' : MM} {xs : List T} {cs : List V} (hx : allT cs = some xs) (hS : ∀ b, S b → S' b ∧ w'.heap[b]? = w.heap[b]?) {i : Nat} {c : V} (hc : cs[i]? = some c) {cv : Value} (h : RepV w S M c cv) : RepV w' S' M' c cv := by
  have := allT_spec hx
  subst this
  rw [List.getElem?_map, Option.map_eq_some_iff] at hc
  obtain ⟨x, hx, rfl⟩ := hc
  exact .t _ _ ((repV_t h).mono hS)

theorem adoptAt_spec : ∀ {vs vs' : List V} {h0 : Heap} {ob : Option Obj}, adoptAt slot h0 vs = some (vs', ob) → ∃ (pre post : List T) (id g off len : Nat) (sh : Option Nat) (e : TypeId) (cs : List V) (ys : List T),
    vs = pre.map .t ++ .msl id g off len sh :: post.map .t ∧ vs' = pre.map .t ++ .msl slot 1 off len sh :: post.map .t ∧ ob = some (.cells 1 e false cs) ∧ h0.obj id = some (.cells g e false cs) ∧ allT cs = some ys
  | [], vs', h0, ob, hq => by cases hq
  | v :: r, vs', h0, ob, hq => by
    unfold adoptAt at hq
    split at hq
    · rename_i x r' heq
      cases heq
      simp only [Option.map_eq_some_iff] at hq
      obtain ⟨⟨p1, p2⟩, h1, h2⟩ := hq
      cases h2
      obtain ⟨pre, post, id, g, off, len, sh, e, cs, ys, rfl, rfl, h3, h4, h5⟩ := adoptAt_spec h1
      exact ⟨x :: pre, post, id, g, off, len, sh, e, cs, ys, rfl, rfl, h3, h4, h5⟩
    · rename_i id gen off len sh r' heq
      cases heq
      split at hq
      · rename_i g e cs ho
        simp only [Option.bind_eq_some_iff] at hq
        obtain ⟨ys, hys, zs, hzs, hq⟩ := hq
        split at hq
        · rename_i hg
          subst hg
          cases hq
          have := allT_spec hzs
          subst this
          exact ⟨[], zs, id, g, off, len, sh, e, cs, ys, rfl, rfl, rfl, ho, hys⟩
        · cases hq
      · cases hq
    · cases hq
theorem freshCall_run {K : Code → Prop} {E : Env} (hE : EnvOK K P E) (I : Inv B0 w S M h) {rd : Rd} (hrd : ∀ id o, rd id = some o → h.obj id = some o) (hs0 : M slot = none) (hs1 : ¬ n0 slot) (hs2 : slot < h.next) {f : FuncId} {vs : List V} {cargs : Array Value}
    (rv : RepVL w S M vs cargs.toList) {v : V} {ob : Option Obj} (hq : freshCall E slot f vs rd = some (v, ob)) :
    Enters P f ∧ Calls P f cargs w fun e w' => ∃ cv S' M', e = .returned cv ∧ Inv B0 w' S' M' (putObj h slot ob) ∧ Ext B0 n0 w S M w' S' M' ∧ RepV w' S' M' v cv := by
  have main : ∀ (flat : Bool) (Sx : Nat → Prop) (xs : List T) (v0 : V) (h0 : Heap), (∀ b, Sx b → b < w.heap.size) → (flat = true → ∀ b, Sx b ↔ S b) → RepTL w Sx xs cargs.toList → E.call (.fn f) (xs.map .t) .empty = some (v0, h0) → Apex.adopt slot flat v0 h0 = some (v, ob) →
      Enters P f ∧ Calls P f cargs w fun e w' => ∃ cv S' M', e = .returned cv ∧ Inv B0 w' S' M' (putObj h slot ob) ∧ Ext B0 n0 w S M w' S' M' ∧ RepV w' S' M' v cv := by
    intro flat Sx xs v0 h0 hSx hflat hargs hc ha
    obtain ⟨hen, _, hcall⟩ := hE.call _ _ _ _ _ hc
    refine ⟨hen, (hcall w.heap.size w Sx (fun _ => none) cargs (by intro id st pend f ts ps asg bd h; cases h) (inv_empty I.base.top hSx) (repVL_of_t hargs.1 hargs.2)).mono ?_⟩
    rintro e w' ⟨cv, S1, M1, rfl, I1, E1, hv⟩
    -- what is stable for the caller
    let S' : Nat → Prop := if flat then S1 else S
    have hp : Pure w S w' S' := by
      cases flat with
      | true =>
        have hf := hflat rfl
        exact ⟨E1.os, E1.tape, E1.output, E1.size, E1.below, fun b hb => (E1.keep b ((hf b).2 hb)).1, fun b hb => (E1.new b hb).imp (hf b).1 fun h => h, I1.lt⟩
      | false => exact ⟨E1.os, E1.tape, E1.output, E1.size, E1.below, fun b hb => hb, fun b hb => .inl hb, fun b hb => Nat.lt_of_lt_of_le (I.lt b hb) E1.size⟩
    unfold Apex.adopt at ha
    split at ha
    · rename_i x
      cases flat with
      | true =>
        simp only [if_true, Option.some.injEq, Prod.mk.injEq] at ha
        obtain ⟨rfl, rfl⟩ := ha
        obtain ⟨a1, a2⟩ := I.pure (n0 := n0) hp
        exact ⟨cv, S', M, rfl, a1, a2, .t _ _ (repV_t hv)⟩
      | false =>
        simp only [Bool.false_eq_true, if_false] at ha
        split at ha
        case isFalse => cases ha
        rename_i hsc
        simp only [Option.some.injEq, Prod.mk.injEq] at ha
        obtain ⟨rfl, rfl⟩ := ha
        obtain ⟨a1, a2⟩ := I.pure (n0 := n0) hp
        exact ⟨cv, S', M, rfl, a1, a2, .t _ _ (scalar_rep hsc (repV_t hv))⟩
    · rename_i id gen off len sh
      split at ha
      case h_2 => cases ha
      rename_i g e cs ho
      simp only [Option.bind_eq_some_iff] at ha
      obtain ⟨ys, hys, ha⟩ := ha
      split at ha
      case isFalse => cases ha
      rename_i hcond
      obtain ⟨rfl, hfl⟩ := hcond
      simp only [Option.some.injEq, Prod.mk.injEq] at ha
      obtain ⟨rfl, rfl⟩ := ha
      obtain ⟨m, hm, hg, hext, _, arr, fr, h1, h2, h3, h4, h5⟩ := I1.obj id _ ho
      have hat := I1.at_ id m hm
      have hns : ¬ S' m.b := by
        cases flat with
        | true => exact I1.stable id _ m ho hm
        | false => exact fun hs => by have := I.lt _ hs; omega
      have hcells : ∀ {M' : MM} (j : Nat) (c : V), cs[j]? = some c → ∃ u, arr[m.s + j]? = some u ∧ RepV w' S' M' c u := by
        intro M' j c hj
        obtain ⟨u, hu, hr⟩ := h5 j c hj
        refine ⟨u, hu, ?_⟩
        cases flat with
        | true => exact flat_any hys (fun b hb => ⟨hb, rfl⟩) hj hr
        | false => exact scalar1_any hys (hfl.resolve_left (by simp)) hj hr
      obtain ⟨a1, a2⟩ := I.adopt (n0 := n0) hp hs0 hs1 hs2 (o := .cells 1 e false cs) (m' := ⟨m.b, m.s, 1, cs.length, m.tot⟩) hat.1 hat.2.1 hns
        (fun M' hM hm' => ⟨rfl, rfl, (fun h => by cases h), arr, fr, h1, h2, h3, h4, fun j c hj => hcells j c hj⟩)
      refine ⟨cv, S', _, rfl, a1, a2, ?_⟩
      cases hv with
      | msl _ _ _ _ _ b o cap hl m2 hm2 hgl hx =>
        rw [hm] at hm2
        cases hm2
        obtain ⟨b1, b2, b3, b4⟩ := hx hg
        exact .msl _ _ _ _ _ b o cap hl ⟨m.b, m.s, 1, cs.length, m.tot⟩ (by simp only [MM.set, if_true]) (Nat.le_refl _) fun _ => ⟨b1, b2, by show cs.length ≤ _; omega, b4⟩
    · rename_i vs0
      split at ha
      case isFalse => cases ha
      rename_i hfl
      subst hfl
      simp only [Option.map_eq_some_iff] at ha
      obtain ⟨⟨p1, p2⟩, ha, hp2⟩ := ha
      cases hp2
      obtain ⟨pre, post, id, g, off, len, sh, e, cs, ys, rfl, rfl, rfl, ho, hys⟩ := adoptAt_spec ha
      obtain ⟨m, hm, hg, hext, _, arr, fr, h1, h2, h3, h4, h5⟩ := I1.obj id _ ho
      have hat := I1.at_ id m hm
      have hns : ¬ S' m.b := I1.stable id _ m ho hm
      obtain ⟨a1, a2⟩ := I.adopt (n0 := n0) hp hs0 hs1 hs2 (o := .cells 1 e false cs) (m' := ⟨m.b, m.s, 1, cs.length, m.tot⟩) hat.1 hat.2.1 hns
        (fun M' hM hm' => ⟨rfl, rfl, (fun h => by cases h), arr, fr, h1, h2, h3, h4, fun j c hj => by
          obtain ⟨u, hu, hr⟩ := h5 j c hj
          exact ⟨u, hu, flat_any hys (fun b hb => ⟨hb, rfl⟩) hj hr⟩⟩)
      refine ⟨cv, S', _, rfl, a1, a2, ?_⟩
      cases hv with
      | agg _ ar hl hr =>
        refine .agg _ ar (by simpa using hl) fun i x v hx hv' => ?_
        rcases Nat.lt_trichotomy i pre.length with hlt | heq | hgt
        · rw [List.getElem?_append_left (by simpa using hlt), List.getElem?_map, Option.map_eq_some_iff] at hx
          obtain ⟨y, hy, rfl⟩ := hx
          have := hr i (.t y) v (by rw [List.getElem?_append_left (by simpa using hlt), List.getElem?_map, hy]; rfl) hv'
          exact .t _ _ (repV_t this)
        · subst heq
          rw [List.getElem?_append_right (by simp)] at hx
          simp only [List.length_map, Nat.sub_self, List.getElem?_cons_zero, Option.some.injEq] at hx
          subst hx
          have := hr pre.length (.msl id g off len sh) v (by rw [List.getElem?_append_right (by simp)]; simp) hv'
          cases this with
          | msl _ _ _ _ _ b o cap hl m2 hm2 hgl hx =>
            rw [hm] at hm2
            cases hm2
            obtain ⟨b1, b2, b3, b4⟩ := hx hg
            exact .msl _ _ _ _ _ b o cap hl ⟨m.b, m.s, 1, cs.length, m.tot⟩ (by simp only [MM.set, if_true]) (Nat.le_refl _) fun _ => ⟨b1, b2, by show cs.length ≤ _; omega, b4⟩
        · obtain ⟨j, rfl⟩ : ∃ j, i = pre.length + (j + 1) := ⟨i - pre.length - 1, by omega⟩
          rw [List.getElem?_append_right (by simp)] at hx
          simp only [List.length_map, Nat.add_sub_cancel_left, List.getElem?_cons_succ, List.getElem?_map, Option.map_eq_some_iff] at hx
          obtain ⟨y, hy, rfl⟩ := hx
          have := hr (pre.length + (j + 1)) (.t y) v (by rw [List.getElem?_append_right (by simp)]; simp [hy]) hv'
          exact .t _ _ (repV_t this)
    · cases ha
  unfold freshCall at hq
  split at hq
  · rename_i xs hxs
    simp only [Option.bind_eq_some_iff] at hq
    obtain ⟨⟨v0, h0⟩, hc, ha⟩ := hq
    have := allT_spec hxs
    subst this
    exact main true S xs v0 h0 I.lt (fun _ b => Iff.rfl) (repVL_t rv) hc ha
  · simp only [Option.bind_eq_some_iff] at hq
    obtain ⟨xs, hxs, ⟨v0, h0⟩, hc, ha⟩ := hq
    have hargs := snapL (Sx := fun b => b < w.heap.size) (fun v x cv hs hr => snap_rep I hrd I.lt (fun id o m _ hm => (I.at_ id m hm).2.1) snapFuel v x cv hs hr) hxs rv
    exact main false (fun b => b < w.heap.size) xs v0 h0 (fun b hb => hb) (fun h => by cases h) hargs hc ha
end
end Go.Apex

