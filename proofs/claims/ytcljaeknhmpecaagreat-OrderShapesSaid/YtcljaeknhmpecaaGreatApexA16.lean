import Derived.Test.YtcljaeknhmpecaaGreatApexA15
import Derived.Maps.RangeRun
set_option linter.all false
namespace Go.Apex
open Go Go.RowKit
variable [Globs]
section
variable {cfg : Cfg} {P : Program} {B0 : Nat -> Prop} {n0 : Nat -> Prop} {w : World} {S : Nat -> Prop} {M : MM} {h : Heap} {ts : Ts} {a : Array Value} {rd : Rd} {slot : Nat}
def QNext (P : Program) (B0 : Nat -> Prop) (n0 : Nat -> Prop) (w : World) (S : Nat -> Prop) (M : MM) (h : Heap) (slot : Nat) (s : Sem Next) (v : V) (ob : Option Obj) : Prop :=
 ∃ cv w' S' M', s.run P w = .ok (.value cv) w' /\ Inv B0 w' S' M' (putObj h slot ob) /\ Ext B0 n0 w S M w' S' M' /\ RepV w' S' M' v cv
theorem QDone.next {s : Sem Value} {v : V} {ob : Option Obj} (hd : QDone P B0 n0 w S M h slot s v ob) : QNext P B0 n0 w S M h slot (do pure (.value (<- s))) v ob := by
 obtain ⟨cv, w', S', M', h1, h2, h3, h4⟩ := hd
 exact ⟨cv, w', S', M', by simp only [Sem.run_bind, h1, Result.andThen_ok, Sem.run_pure], h2, h3, h4⟩
theorem next_same (X : Ctx cfg P B0 n0 w S M h ts a rd slot) {s : Sem Next} {cv : Value} {v : V} (hr : s.run P w = .ok (.value cv) w) (hv : RepV w S M v cv) : QNext P B0 n0 w S M h slot s v none :=
 ⟨cv, w, S, M, hr, X.I, Ext.refl .., hv⟩
def noCall (o : Op) : Bool :=
 match o with
 | .call c => match c.callee with | .builtin _ => true | _ => false
 | _ => true
theorem builtin_run (X : Ctx cfg P B0 n0 w S M h ts a rd slot) {args : Array Operand} {tys : Array TypeId} {ty : TypeId} {cs : Array Bool} {b : Builtin} {v : V} {ob : Option Obj} (hq : qBuiltin cfg slot ts rd args.toList tys.toList b = some (v, ob)) :
  QNext P B0 n0 w S M h slot (Go.builtin b tys ty cs (args.map (evalA a))) v ob := by
 unfold qBuiltin at hq
 split at hq
 . exact (len_run X hq).next
 . exact (cap_run X hq).next
 . exact (sdata_run X hq).next
 . exact (max_run X hq).next
 . exact (min_run X hq).next
 . unfold qAppend at hq
   split at hq
   case h_2 => cases hq
   rename_i s x t xt r hx ht
   simp only [oB] at hq
   obtain ⟨⟨e, j⟩, hse, xi, hxi, sv, hsv, xv, hxv, hq⟩ := hq
   split at hq
   case isTrue => cases hq
   rename_i hc
   simp only [Bool.or_eq_true, not_or, Bool.not_eq_true, beq_eq_false_iff_ne, Bool.not_eq_false', Bool.not_eq_eq_eq_not] at hc
   have ea : args.map (evalA a) = #[evalA a s, evalA a x] := by
    have := toList_pair hx
    subst this; simp
   have et : tys[0]? = some t /\ tys[1]? = some xt := by
    constructor <;> rw [<- Array.getElem?_toList, ht] <;> rfl
   have := appendNew_run (ty := ty) X.c X.I X.sl X.s1 X.s2 X.rd et.1 et.2 hse hxi (by simpa using hc.1.1) (Nat.pos_of_ne_zero (by simpa using hc.1.2)) (by simpa using hc.2) (ev_rep X.t hsv) (ev_rep X.t hxv) hq
   rw [<- ea] at this
   exact this.next
 . cases hq
theorem range_run (X : Ctx cfg P B0 n0 w S M h ts a rd slot) {xt : TypeId} {x : Operand} {v : V} {ob : Option Obj} (hq : qRange cfg slot ts xt x = some (v, ob)) :
  QDone P B0 n0 w S M h slot (Instr.range xt (evalA a x)) v ob := by
 simp only [qRange, oB] at hq
 obtain ⟨i, hi, hq⟩ := hq
 obtain ⟨info, u, _, h2, _, _, _, _, h7, _⟩ := ti_spec X hi
 split at hq
 case h_3 => cases hq
 case h_2 hd =>
  rw [h7] at hd
  have := dOf_str hd; subst this
  simp only [oB] at hq
  obtain ⟨xv, hx, hq⟩ := hq
  split at hq
  case h_2 => cases hq
  rename_i s
  cases hq
  have rx := ev_rep X.t hx
  generalize evalA a x = cx at rx
  cases rx with
  | t _ _ rx =>
  cases rx with
  | str _ bs hbs =>
  have hrun : (Instr.range xt (.string bs)).run P w = .ok (.pointer (some ⟨w.heap.size, 0, none⟩)) (w.alloc (.stringIter bs 0)) := by
   simp [Instr.range, run_underlying h2]
  have hold : ∀ b', b' < w.heap.size -> (w.alloc (.stringIter bs 0)).heap[b']? = w.heap[b']? := fun b' hb => Below.heap_alloc _ _ _ hb
  have hS : ∀ b', S b' -> S b' /\ (w.alloc (.stringIter bs 0)).heap[b']? = w.heap[b']? := fun b' hb => ⟨hb, hold b' (X.I.lt b' hb)⟩
  have hsize : (w.alloc (.stringIter bs 0)).heap.size = w.heap.size + 1 := by show (w.heap.push _).size = _; simp
  obtain ⟨h1, h2⟩ := X.I.put (n0 := n0) (w' := w.alloc (.stringIter bs 0)) slot (.sit s 0) ⟨w.heap.size, 0, 0, 1, 0⟩ (fun m hm => by rw [X.sl] at hm; cases hm) (fun _ => ⟨X.s1, X.s2⟩)
   rfl rfl rfl (by omega) (fun b' hb _ => hold b' hb) (.inl (Nat.le_refl _)) (by show w.heap.size < _; omega)
   ⟨by show 0 < 1; omega, bs, hbs, by show (w.heap.push _)[w.heap.size]? = _; simp⟩
  exact ⟨_, _, S, _, hrun, h1, h2, .it _ none _ ⟨w.heap.size, 0, 0, 1, 0⟩ (by simp [MM.set]) (by show 0 < 1; omega) rfl fun _ _ h => by cases h⟩
 rename_i k e hd
 rw [h7] at hd
 have := dOf_map hd; subst this
 simp only [oB] at hq
 obtain ⟨xv, hx, hq⟩ := hq
 split at hq
 case h_2 => cases hq
 rename_i ks vs
 cases hq
 have rx := ev_rep X.t hx
 generalize evalA a x = cx at rx
 cases rx with
 | t _ _ rx =>
 cases rx with
 | mp _ _ b es clock hs hh hst hk hv hkr hvr =>
 have hrun := run_range_map (P := P) w xt k e b es clock h2 hh
 have hold : ∀ b', b' < w.heap.size -> (w.alloc (.mapIter (some b) clock #[] clock)).heap[b']? = w.heap[b']? := fun b' hb => Below.heap_alloc _ _ _ hb
 have hS : ∀ b', S b' -> S b' /\ (w.alloc (.mapIter (some b) clock #[] clock)).heap[b']? = w.heap[b']? := fun b' hb => ⟨hb, hold b' (X.I.lt b' hb)⟩
 have hsize : (w.alloc (.mapIter (some b) clock #[] clock)).heap.size = w.heap.size + 1 := by show (w.heap.push _).size = _; simp
 obtain ⟨h1, h2⟩ := X.I.put (n0 := n0) (w' := w.alloc (.mapIter (some b) clock #[] clock)) slot (.mit ks vs) ⟨w.heap.size, 0, 0, 1, 0⟩ (fun m hm => by rw [X.sl] at hm; cases hm) (fun _ => ⟨X.s1, X.s2⟩)
  rfl rfl rfl (by omega) (fun b' hb _ => hold b' hb) (.inl (Nat.le_refl _)) (by show w.heap.size < _; omega)
  ⟨by show 0 < 1; omega, b, es, clock, by show (w.heap.push _)[w.heap.size]? = _; simp, hs, by rw [(hS b hs).2]; exact hh, hst, hk, hv, fun i k e a1 a2 => (hkr i k e a1 a2).mono hS, fun i k e a1 a2 => (hvr i k e a1 a2).mono hS⟩
 exact ⟨_, _, S, _, hrun, h1, h2, .it _ none _ ⟨w.heap.size, 0, 0, 1, 0⟩ (by simp [MM.set]) (by show 0 < 1; omega) rfl fun _ _ h => by cases h⟩
theorem entry_run (X : Ctx cfg P B0 n0 w S M h ts a rd slot) {x : Operand} {v : V} {ob : Option Obj} (hq : qEntry ts x = some (v, ob)) :
  QDone P B0 n0 w S M h slot (Instr.entry (evalA a x)) v ob := by
 simp only [qEntry, oB] at hq
 obtain ⟨xv, hx, hq⟩ := hq
 split at hq
 case h_2 => cases hq
 rename_i id k v
 cases hq
 have rx := ev_rep X.t hx
 generalize evalA a x = cx at rx
 cases rx with
 | it _ _ b m hm hp h hc =>
 obtain ⟨a1, mb, since, seen, clock, es, en, a2, a3, a4, a5, a6, a7, a8⟩ := hc k v rfl
 refine done_same X (run_entry_at w b mb since seen es clock en a2 a4 a5 a6.2) (.t _ _ (.tup _ _ rfl fun i y u h1 h2 => ?_))
 match i with
 | 0 => cases h1; cases h2; exact a7
 | 1 => cases h1; cases h2; exact a8
 | i + 2 => simp at h1
theorem quiet_run (X : Ctx cfg P B0 n0 w S M h ts a rd slot) {E : Env} {imm : Bool} {o : Oper} (hn : noCall o.op = true) {v : V} {ob : Option Obj} (hq : quiet cfg E imm o.op slot ts rd = some (v, ob)) :
  QNext P B0 n0 w S M h slot (execOp (evalA a) o) v ob := by
 obtain ⟨dst, op, ty, guard⟩ := o
 cases op <;> simp only [quiet] at hq <;> try (cases hq; done)
 case move x =>
  obtain ⟨h1, h2⟩ := one_some hq; subst h2
  exact next_same X (by simp only [execOp, Sem.run_pure]) (ev_rep X.t h1)
 case assign x =>
  obtain ⟨h1, h2⟩ := one_some hq; subst h2
  exact next_same X (by simp only [execOp, Sem.run_pure]) (ev_rep X.t h1)
 case pick c x y =>
  unfold qPick at hq
  simp only [oB] at hq
  obtain ⟨cv, hc, hq⟩ := hq
  have rc := ev_rep X.t hc
  split at hq
  . obtain ⟨h1, h2⟩ := one_some hq; subst h2
    have := repT_bool (repV_t rc)
    exact next_same X (by simp only [execOp, this, asBool, Sem.run_bind, Sem.run_pure, Result.andThen_ok, if_true]) (ev_rep X.t h1)
  . obtain ⟨h1, h2⟩ := one_some hq; subst h2
    have := repT_bool (repV_t rc)
    exact next_same X (by simp only [execOp, this, asBool, Sem.run_bind, Sem.run_pure, Result.andThen_ok, Bool.false_eq_true, if_false]) (ev_rep X.t h1)
  . cases hq
 case alloc e => exact (alloc_run X hq).next
 case box e x => exact (box_run X hq).next
 case build t parts => exact (build_run X hq).next
 case buildSlice t len parts => exact (buildSlice_run X hq).next
 case load t x =>
  obtain ⟨h1, h2⟩ := one_some hq; subst h2
  simp only [oB] at h1
  obtain ⟨i, hi, p, hp, hl⟩ := h1
  obtain ⟨cv, hr, hv⟩ : ∃ cv, (Instr.loadAt t (evalA a x)).run P w = .ok cv w /\ RepV w S M v cv := by
   cases imm with
   | true => exact focLoad_run X.c X.I X.rd hi (ev_rep X.t hp) hl
   | false => exact loadV_run X.c X.I X.rd hi (ev_rep X.t hp) hl
  exact (done_same X hr hv).next
 case nilCheck x =>
  simp only [qNilCheck, oB] at hq
  obtain ⟨xv, hx, hq⟩ := hq
  have rx := ev_rep X.t hx
  have : ∃ b o, evalA a x = .pointer (some ⟨b, o, none⟩) /\ v = xv /\ ob = none := by
   split at hq
   . cases hq
     obtain ⟨b, o, hp⟩ := rep_ptr rx rfl
     exact ⟨b, o, hp, rfl, rfl⟩
   . cases hq
     obtain ⟨b, o, hp⟩ := rep_ptr rx rfl
     exact ⟨b, o, hp, rfl, rfl⟩
   . cases hq
  obtain ⟨b, o, hp, rfl, rfl⟩ := this
  rw [hp] at rx
  exact next_same X (cv := .pointer (some ⟨b, o, none⟩)) (by simp only [execOp, hp, Sem.run_pure]) rx
 case binOp op xt x y z => exact (bin_run X hq).next
 case unOp op z x => exact (un_run X hq).next
 case convert src dst x => exact (convert_run X hq).next
 case makeInterface xt x => exact (makeInterface_run X hq).next
 case makeFunc fn first captured => exact (makeFunc_run X hq).next
 case makeMap t r => exact (makeMap_run X hq).next
 case makeSlice t l c => exact (makeSlice_run X hq).next
 case slice xt x lo hi mx => exact (slice_run X hq).next
 case fieldAddr s x f => exact (fieldAddr_run X hq).next
 case field s x f => exact (field_run X hq).next
 case indexAddr t x ix => exact (indexAddr_run X hq).next
 case index t x ix => exact (index_run X hq).next
 case lookup t x k ok => exact (lookup_run X hq).next
 case extract t ix => exact (extract_run X hq).next
 case range xt x => exact (range_run X hq).next
 case entry x => exact (entry_run X hq).next
 case call c =>
  obtain ⟨callee, args, argTypes⟩ := c
  cases callee <;> simp only [noCall] at hn <;> try (cases hn; done)
  rename_i b
  simp only [qCall] at hq
  obtain ⟨cv, w', S', M', h1, h2⟩ := builtin_run (ty := ty) (cs := args.map fun | .const _ => true | _ => false) X hq
  exact ⟨cv, w', S', M', by simp only [execOp, resolve, Sem.run_bind, Sem.run_pure, Result.andThen_ok, Go.invoke]; exact h1, h2⟩
end
end Go.Apex
