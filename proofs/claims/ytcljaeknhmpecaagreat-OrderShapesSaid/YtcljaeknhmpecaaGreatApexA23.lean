import Derived.Test.YtcljaeknhmpecaaGreatApexA22
set_option linter.all false
namespace Go.Apex
open Go Go.RowKit
variable [Globs]
section
variable {cfg : Cfg} {P : Program} {B0 : Nat -> Prop} {n0 : Nat -> Prop} {w : World} {S : Nat -> Prop} {M : MM} {h : Heap} {ts : Ts} {slot : Nat}
theorem evalA_eq (a : Act) : a.eval = evalA a.tmps := by funext x; cases x <;> rfl
theorem wanted_eq {a : Array Value} (ht : RepTs w S M ts a) (ops : Array Oper) (o : Oper) {b : Bool} (hq : wantedV ops.toList ts o = some b) : Region.wanted o (yielded ops a) = b := by
 unfold wantedV at hq
 unfold Region.wanted
 cases hg : o.guard with
 | none => rw [hg] at hq; cases hq; rfl
 | some g =>
  obtain ⟨j, want⟩ := g
  rw [hg] at hq
  simp only [yielded, Array.getElem?_toList] at hq ⊢
  cases hd : (ops[j]?).bind (·.dst) with
  | none => rw [hd] at hq; simp at hq; subst hq; simp
  | some t =>
   rw [hd] at hq
   simp only [oS] at hq ⊢
   have := ht t
   cases hg : ts.get t with
   | none => rw [hg] at hq this; simp at hq; subst hq; simp [this]
   | some v =>
    rw [hg] at this hq
    obtain ⟨c, hc, hr⟩ := this
    rw [hc]
    cases hr with
    | t x _ hx => cases hx <;> (simp at hq; subst hq; simp)
    | junk => simp at hq
    | _ => simp at hq; subst hq; simp
def OpPost (B0 : Nat -> Prop) (n0 : Nat -> Prop) (w : World) (S : Nat -> Prop) (M : MM) (ts' : Ts) (h' : Heap) (a : Act) (next : Act -> World -> Prop) : Prop :=
 ∀ a' w' S' M', Inv B0 w' S' M' h' -> Ext B0 n0 w S M w' S' M' -> RepTs w' S' M' ts' a'.tmps -> a'.defers = a.defers -> next a' w'
theorem put_rep {a : Act} {w' : World} {S' : Nat -> Prop} {M' : MM} (ht : RepTs w' S' M' ts a.tmps) (d : Option Tmp) {v : V} {c : Value} (hv : RepV w' S' M' v c) : RepTs w' S' M' (setDst ts d v) (a.put d c).tmps := by
 cases d with
 | none => exact ht
 | some d => exact ht.upd d hv
theorem put_defers (a : Act) (d : Option Tmp) (c : Value) : (a.put d c).defers = a.defers := by cases d <;> rfl
theorem OpPost.done {a : Act} {h' : Heap} {next : Act -> World -> Prop} {d : Option Tmp} {v : V} (hp : OpPost B0 n0 w S M (setDst ts d v) h' a next) (ht : RepTs w S M ts a.tmps) {w' : World} {S' : Nat -> Prop} {M' : MM} {c : Value}
  (hI : Inv B0 w' S' M' h') (hE : Ext B0 n0 w S M w' S' M') (hv : RepV w' S' M' v c) : next (a.put d c) w' :=
 hp _ w' S' M' hI hE (put_rep (ht.mono hE.keep hE.map) d hv) (put_defers a d c)
theorem semAt_quiet {E : Env} {imm : Bool} {o : Oper} {rd : Rd} {r : V × Option Obj} (hq : quiet cfg E imm o.op slot ts rd = some r) (ro : Option Nat) (ρ : Operand -> Value) : o.semAt ro ρ = execOp ρ o :=
 Oper.semAt_eq ro ρ o fun c hc => by rw [hc] at hq; cases hq
theorem semAt_loud {E : Env} {o : Oper} {r : V × Heap} (hq : loud cfg E o.op slot ts h = some r) (ro : Option Nat) (ρ : Operand -> Value) : o.semAt ro ρ = execOp ρ o :=
 Oper.semAt_eq ro ρ o fun c hc => by rw [hc] at hq; cases hq
theorem call_args {a : Array Value} (ht : RepTs w S M ts a) {args : Array Operand} {vs : List V} (hv : mapO (ev ts) args.toList = some vs) : RepVL w S M vs (args.map (evalA a)).toList := by
 have := evL_rep ht hv
 simpa using this
theorem qcall_wp {K : Code -> Prop} {E : Env} (hE : EnvOK K P E) {a : Act} (I : Inv B0 w S M h) (ht : RepTs w S M ts a.tmps) {rd : Rd} (hrd : ∀ id o, rd id = some o -> h.obj id = some o) {o : Oper} {c : Call} (ho : o.op = .call c) {f : FuncId} (hc : c.callee = .value (.func f))
  {vs : List V} (hvs : mapO (ev ts) c.args.toList = some vs) {v : V} (hq : quietCall cfg E f vs rd = some v) {next : Act -> World -> Prop} {Q : Exit -> Act -> World -> Prop} {ro : Option Nat} {n : Nat}
  (hp : OpPost B0 n0 w S M (setDst ts o.dst v) h a next) : o.wpIn (FR ro) n P a w next Q := by
 have hrv := call_args ht hvs
 obtain ⟨hen, hcalls⟩ := quietCall_run (n0 := n0) hE I hrd hrv hq
 refine ⟨fun _ _ => trivial, ?_⟩
 have hsem : (o.semAt (FR ro).round a.eval).run P w = .ok (.enter f (c.args.map (evalA a.tmps))) w := by
  rw [Oper.semAt_eq _ _ o (fun c' hc' => by rw [ho] at hc'; cases hc'), evalA_eq]
  simp only [execOp, ho, resolve, hc, evalA, Deferred.ofValue, Sem.run_bind, Sem.run_pure, Result.andThen_ok, invoke, Array.append_empty, Array.empty_append]
  exact run_callFunc hen _ w
 rw [hsem, Oper.uponIn_enter]
 refine ⟨fun hd => absurd hd (by simp [FR]), (callsIn_FR hcalls).mono ?_⟩
 rintro e w' ⟨cv, S', rfl, hI', hE', hv'⟩
 exact hp.done ht hI' hE' hv'
theorem fcall_wp {K : Code -> Prop} {E : Env} (hE : EnvOK K P E) {a : Act} (I : Inv B0 w S M h) (ht : RepTs w S M ts a.tmps) (hs0 : M slot = none) (hs1 : ¬ n0 slot) (hs2 : slot < h.next) {rd : Rd} (hrd : ∀ id o, rd id = some o -> h.obj id = some o) {o : Oper} {c : Call} (ho : o.op = .call c) {f : FuncId} (hc : c.callee = .value (.func f))
  {vs : List V} (hvs : mapO (ev ts) c.args.toList = some vs) {v : V} {ob : Option Obj} (hq : freshCall E slot f vs rd = some (v, ob)) {next : Act -> World -> Prop} {Q : Exit -> Act -> World -> Prop} {ro : Option Nat} {n : Nat}
  (hp : OpPost B0 n0 w S M (setDst ts o.dst v) (putObj h slot ob) a next) : o.wpIn (FR ro) n P a w next Q := by
 have hrv := call_args ht hvs
 obtain ⟨hen, hcalls⟩ := freshCall_run (n0 := n0) hE I hrd hs0 hs1 hs2 hrv hq
 refine ⟨fun _ _ => trivial, ?_⟩
 have hsem : (o.semAt (FR ro).round a.eval).run P w = .ok (.enter f (c.args.map (evalA a.tmps))) w := by
  rw [Oper.semAt_eq _ _ o (fun c' hc' => by rw [ho] at hc'; cases hc'), evalA_eq]
  simp only [execOp, ho, resolve, hc, evalA, Deferred.ofValue, Sem.run_bind, Sem.run_pure, Result.andThen_ok, invoke, Array.append_empty, Array.empty_append]
  exact run_callFunc hen _ w
 rw [hsem, Oper.uponIn_enter]
 refine ⟨fun hd => absurd hd (by simp [FR]), (callsIn_FR hcalls).mono ?_⟩
 rintro e w' ⟨cv, S', M', rfl, hI', hE', hv'⟩
 exact hp.done ht hI' hE' hv'
theorem tgt_fn {fv : V} {c : Value} (hr : RepV w S M fv c) {f : FuncId} {x y : List V} (ht : tgtOf fv = some (.fn f, x, y)) : ∃ x' y' : Array Value, c = .func (.func f) x' y' /\ RepVL w S M x x'.toList /\ RepVL w S M y y'.toList := by
 unfold tgtOf at ht
 split at ht
 . rename_i f' xs ys
   simp only [oI, Prod.mk.injEq, Tgt.fn.injEq] at ht
   obtain ⟨rfl, rfl, rfl⟩ := ht
   have := repV_t hr
   cases this with
   | fn _ _ _ a' b' ha hb har hbr => exact ⟨a', b', rfl, repVL_of_t (by simpa using ha) fun i x v p q => har i x v p (by simpa using q), repVL_of_t (by simpa using hb) fun i x v p q => hbr i x v p (by simpa using q)⟩
 . rename_i f' xs ys
   simp only [oI, Prod.mk.injEq, Tgt.fn.injEq] at ht
   obtain ⟨rfl, rfl, rfl⟩ := ht
   cases hr with
   | fn _ _ _ a' b' ha hb har hbr => exact ⟨a', b', rfl, ⟨by simpa using ha, fun i x v p q => har i x v p (by simpa using q)⟩, ⟨by simpa using hb, fun i x v p q => hbr i x v p (by simpa using q)⟩⟩
 . simp at ht
 . cases ht
theorem tgt_yld {fv : V} {c : Value} (hr : RepV w S M fv c) {l : Nat} {x y : List V} (ht : tgtOf fv = some (.yld l, x, y)) : x = [] /\ y = [] /\ ∃ b m, c = .func (.yield b) #[] #[] /\ M l = some m /\ (m.gen = 0 -> b = m.b) := by
 unfold tgtOf at ht
 split at ht
 . simp at ht
 . simp at ht
 . simp only [oI, Prod.mk.injEq, Tgt.yld.injEq] at ht
   obtain ⟨rfl, rfl, rfl⟩ := ht
   cases hr with
   | yld _ b m hm hb => exact ⟨rfl, rfl, b, m, rfl, hm, hb⟩
 . cases ht
theorem doCall_good {K : Code -> Prop} {E : Env} (hE : EnvOK K P E) {tgt : Tgt} {vs : List V} {v : V} {h' : Heap} (hq : doCall cfg E tgt vs h = some (v, h')) : Good K h h' := by
 unfold doCall at hq
 split at hq
 . split at hq
   . exact (hE.call _ _ _ _ _ hq).2.1
   . exact framedCall_good hq
   . simp only [oM, Prod.mk.injEq] at hq
     obtain ⟨_, _, _, rfl⟩ := hq
     exact .refl _ _
 . exact (hE.yld _ _ _ _ _ hq).1
theorem lcall_wp {K : Code -> Prop} {E : Env} (hE : EnvOK K P E) {a : Act} (hk : HeapOK K h) (I : Inv B0 w S M h) (ht : RepTs w S M ts a.tmps) (hn : ∀ i, n0 i -> i < h.next) {o : Oper} {c : Call} (ho : o.op = .call c) {fo : Operand} (hc : c.callee = .value fo)
  {fv : V} (hfv : ev ts fo = some fv) {tgt : Tgt} {x y : List V} (htg : tgtOf fv = some (tgt, x, y))
  {vs : List V} (hvs : mapO (ev ts) c.args.toList = some vs) {v : V} {h' : Heap} (hq : doCall cfg E tgt (x ++ vs ++ y) h = some (v, h')) {next : Act -> World -> Prop} {Q : Exit -> Act -> World -> Prop} {ro : Option Nat} {n : Nat}
  (hp : OpPost B0 n0 w S M (setDst ts o.dst v) h' a next) : o.wpIn (FR ro) n P a w next Q := by
 have hrv := call_args ht hvs
 have rf := ev_rep ht hfv
 refine ⟨fun _ _ => trivial, ?_⟩
 rw [Oper.semAt_eq _ _ o (fun c' hc' => by rw [ho] at hc'; cases hc'), evalA_eq]
 cases tgt with
 | fn f =>
  obtain ⟨x', y', hev, hx, hy⟩ := tgt_fn rf htg
  have hargs : RepVL w S M (x ++ vs ++ y) (x' ++ c.args.map (evalA a.tmps) ++ y').toList := by
   simpa using (hx.append hrv).append hy
  have main : Enters P f /\ Calls P f (x' ++ c.args.map (evalA a.tmps) ++ y') w fun e w' => ∃ cv S' M', e = .returned cv /\ Inv B0 w' S' M' h' /\ Ext B0 n0 w S M w' S' M' /\ RepV w' S' M' v cv := by
   unfold doCall at hq
   simp only at hq
   split at hq
   . obtain ⟨hen, _, hcall⟩ := hE.call _ _ _ _ _ hq
     refine ⟨hen, (hcall B0 w S M _ hk I hargs).mono ?_⟩
     rintro e w' ⟨cv, S', M', rfl, hI', hE', hv'⟩
     exact ⟨cv, S', M', rfl, hI', hE'.weak hn, hv'⟩
   . obtain ⟨hen, _, hcall⟩ := framedCall_run (K := K) hE I hn hargs hq
     exact ⟨hen, hcall⟩
   . simp only [oM, Prod.mk.injEq] at hq
     obtain ⟨v0, hq, rfl, rfl⟩ := hq
     obtain ⟨hen, hcall⟩ := quietCall_run (n0 := n0) hE I (fun id o h => h) hargs hq
     refine ⟨hen, hcall.mono ?_⟩
     rintro e w' ⟨cv, S', rfl, hI', hE', hv'⟩
     exact ⟨cv, S', M, rfl, hI', hE', hv'⟩
  obtain ⟨hen, hcalls⟩ := main
  have hsem : (execOp (evalA a.tmps) o).run P w = .ok (.enter f (x' ++ c.args.map (evalA a.tmps) ++ y')) w := by
   simp only [execOp, ho, resolve, hc, hev, Deferred.ofValue, Sem.run_bind, Sem.run_pure, Result.andThen_ok, invoke]
   exact run_callFunc hen _ w
  rw [hsem, Oper.uponIn_enter]
  refine ⟨fun hd => absurd hd (by simp [FR]), (callsIn_FR hcalls).mono ?_⟩
  rintro e w' ⟨cv, S', M', rfl, hI', hE', hv'⟩
  exact hp.done ht hI' hE' hv'
 | yld l =>
  obtain ⟨rfl, rfl, b, m, hev, hm, hb⟩ := tgt_yld rf htg
  simp only [List.nil_append, List.append_nil] at hq
  obtain ⟨_, hy⟩ := hE.yld _ _ _ _ _ hq
  obtain ⟨hg, f, tmps, asg, bd, hyr, hround⟩ := hy B0 w S M _ m hk I hrv hm
  have := hb hg
  subst this
  have hsem : (execOp (evalA a.tmps) o).run P w = .ok (.round m.b f tmps asg bd) w := by
   simp only [execOp, ho, resolve, hc, hev, Deferred.ofValue, Sem.run_bind, Sem.run_pure, Result.andThen_ok, invoke, Array.empty_append]
   exact hyr
  rw [hsem, Oper.uponIn_round]
  refine ⟨fun hd => absurd hd (by simp [FR]), (hround ro (n - 1)).mono ?_⟩
  rintro e w' ⟨cv, S', M', rfl, hI', hE', hv'⟩
  exact hp.done ht hI' (hE'.weak hn) hv'
end
end Go.Apex
