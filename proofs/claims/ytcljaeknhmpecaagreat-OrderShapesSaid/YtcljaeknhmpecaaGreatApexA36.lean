import Derived.Test.YtcljaeknhmpecaaGreatApexA35
set_option linter.all false
namespace Go.Apex
open Go
inductive Kt where
 | code (f : FuncId) (rd : Option Nat) (c : Code)
 | loop (f : FuncId) (rd : Option Nat) (c : Code)
 | round (f : FuncId) (rd : Option Nat) (c : Code) (n0 : Nat)
 | block (id : Nat)
 | ops (f : FuncId) (id : Nat) (draw : Bool) (ops : List Oper) (base : Nat) (rest : List Oper) (slot : Nat)
 | opsP (f : FuncId) (id : Nat) (l : List Nat) (lay : List Tmp) (ops : List Oper) (base : Nat) (rest : List Oper) (slot : Nat)
 | ret (g : FuncId) (d : Option Tmp) (ts : Ts) (marks : List Nat)
 | over (g : FuncId) (l : Nat) (ts : Ts) (marks : List Nat)
 | busy (l : Nat)
 | yend (f : FuncId) (l : Nat) (bd : Code) (n0 : Nat) (d : Option Tmp) (ts : Ts) (marks : List Nat)
noncomputable section
def inBlock (id : Nat) : Out -> Out
 | .exit j => cond (Nat.beq j id) .norm (.exit j)
 | o => o
def endCall (cfg : Cfg) (g : FuncId) (o : Out) (s : St) : Option (V × Heap) :=
 (cfg.code g).bind fun fn => match o with
  | .exit _ => none
  | _ => (takeMarks s.marks s.h).bind fun h => (resultsV cfg fn s.ts h).map fun v => (v, h)
def endRange (l : Nat) (ts : Ts) (marks : List Nat) (h : Heap) : Option (Out × St) :=
 match h.obj l with
 | some (.loop st pend f' ts' ps' asg' body') =>
  if st = .busy then none else
  let s' : St := ⟨ts, h.set l (some (.loop .exhausted pend f' ts' ps' asg' body')), marks⟩
  match pend with
  | none => some (.norm, s')
  | some .ret => some (.ret, s')
  | some (.exit id) => some (.exit id, s')
  | _ => none
 | _ => none
def beginRound (l : Nat) (s : St) : Option St :=
 match s.h.obj l with
 | some (.loop .ready pend f' ts' ps' asg' bd') => some { s with h := s.h.set l (some (.loop .busy pend f' ts' ps' asg' bd')) }
 | _ => none
def endRound (cfg : Cfg) (f : FuncId) (l : Nat) (bd : Code) (n0 : Nat) (o : Out) (s : St) : Option (V × Heap) :=
 match s.h.obj l with
 | some (.loop _ _ f' ts' ps' asg' bd') =>
  (resetRound cfg f bd n0 ts' (s.h.set l (some (match o with
  | .norm => .loop .ready none f' ts' ps' asg' bd'
  | .ret => .loop .done (some .ret) f' ts' ps' asg' bd'
  | .exit id => .loop .done (some (.exit id)) f' ts' ps' asg' bd')))).map fun h' =>
  (.t (.bool (match o with | .norm => true | _ => false)), h')
 | _ => none
def shT : Option Nat -> T
 | none => .nils
 | some n => .int .i64 n
def rowPlace : List V -> Nat -> Option Nat
 | [], _ => none
 | .msl .. :: _, n => some n
 | _ :: r, n => rowPlace r (n + 1)
def encRow (p : V × Heap) : Option T :=
 match p.1 with
 | .t x => some (.tup [.nilp, x])
 | .msl id gen off len sh => match p.2.obj id with
  | some (.cells g e false cs) => cond (Nat.beq g gen) ((allT cs).map fun xs => .tup [.nili, .int .i64 e, .int .i64 off, .int .i64 len, shT sh, .tup xs]) none
  | _ => none
 | .agg vs => (rowPlace vs 0).bind fun k => match vs[k]? with
  | some (.msl id gen off len sh) => (allT (vs.set k (.t .nils))).bind fun xs => match p.2.obj id with
   | some (.cells g e false cs) => cond (Nat.beq g gen) ((allT cs).map fun ys => .tup [.bool true, .int .i64 k, .int .i64 e, .int .i64 off, .int .i64 len, shT sh, .tup xs, .tup ys]) none
   | _ => none
  | _ => none
 | _ => none
def rowMode (f : FuncId) : Option FuncId := cond (Nat.ble 1000 f) (some (Nat.sub f 1000)) none
def pureFin (cfg : Cfg) (f : FuncId) (o : Out) (s : St) : Option T :=
 match rowMode f with
 | none => (endCall cfg f o s).bind fun (v, h) => snap h.obj snapFuel v
 | some g => (endCall cfg g o s).bind encRow
def oneRound (cfg : Cfg) (E : Env) (f : FuncId) (rd : Option Nat) (c : Code) (s : St) : Option (Out × St) :=
 (exec cfg E f rd c s).bind fun (o, s') => match o with
  | .norm => (resetAt cfg f c s.h.next s').map fun s' => (.norm, s')
  | o => some (o, s')
def kont {α : Type} (cfg : Cfg) (E : Env) (fin : Out -> St -> Option α) : List Kt -> Out -> St -> Option α
 | [], o, s => fin o s
 | .code f rd c :: k, o, s => match o with
  | .norm => (exec cfg E f rd c s).bind fun (o, s) => kont cfg E fin k o s
  | o => kont cfg E fin k o s
 | .loop f rd c :: k, o, s => match o with
  | .norm => (E.iter (oneRound cfg E f rd c) s).bind fun (o, s) => kont cfg E fin k o s
  | o => kont cfg E fin k o s
 | .round f rd c n0 :: k, o, s => match o with
  | .norm => (resetAt cfg f c n0 s).bind fun s => (E.iter (oneRound cfg E f rd c) s).bind fun (o, s) => kont cfg E fin k o s
  | o => kont cfg E fin k o s
 | .block id :: k, o, s => kont cfg E fin k (inBlock id o) s
 | .ops f id draw ops base rest slot :: k, o, s => match o with
  | .norm => (runOps cfg E (cfg.imm f) draw ops base rest slot s.ts s.h).bind fun (ts, h) => (shutAll (cfg.shut f id) ts h).bind fun (ts, h) => kont cfg E fin k .norm { s with ts, h }
  | _ => none
 | .opsP f id l lay ops base rest slot :: k, o, s => match o with
  | .norm => (runP cfg E (cfg.imm f) l lay ops base rest slot s.ts s.h).bind fun (ts, h) => (shutAll (cfg.shut f id) ts h).bind fun (ts, h) => kont cfg E fin k .norm { s with ts, h }
  | _ => none
 | .ret g d ts marks :: k, o, s => (endCall cfg g o s).bind fun (v, h) => kont cfg E fin k .norm ⟨setDst ts d v, h, marks⟩
 | .over g l ts marks :: k, o, s => (endCall cfg g o s).bind fun (_, h) => (endRange l ts marks h).bind fun (o, s) => kont cfg E fin k o s
 | .busy l :: k, o, s => match o with
  | .norm => (beginRound l s).bind fun s => kont cfg E fin k .norm s
  | _ => none
 | .yend f l bd n0 d ts marks :: k, o, s => (endRound cfg f l bd n0 o s).bind fun (v, h) => kont cfg E fin k .norm ⟨setDst ts d v, h, marks⟩
def Run {α : Type} (cfg : Cfg) (fin : Out -> St -> Option α) (k : List Kt) (o : Out) (s : St) (r : α) : Prop := ∃ n, kont cfg (env cfg n) fin k o s = some r
end
section
variable {α : Type} {cfg : Cfg} {fin : Out -> St -> Option α} {k : List Kt} {s : St} {r : α} {f : FuncId} {rd : Option Nat}
theorem oneRound_le {E E' : Env} (L : E.Le E') {c : Code} : ∀ (s : St) (r : Out × St), oneRound cfg E f rd c s = some r -> oneRound cfg E' f rd c s = some r :=
 fun _ _ h => bind_le (fun x h => exec_le L c h) (fun _ _ h => h) h
theorem kont_le {E E' : Env} (L : E.Le E') : ∀ (k : List Kt) {o : Out} {s : St} {r : α}, kont cfg E fin k o s = some r -> kont cfg E' fin k o s = some r
 | [], _, _, _, h => h
 | .code f rd c :: k, o, s, r, h => by
  cases o with
  | norm => exact bind_le (fun x h => exec_le L c h) (fun (_, _) r h => kont_le L k h) h
  | ret => exact kont_le L k (o := .ret) h
  | exit id => exact kont_le L k (o := .exit id) h
 | .loop f rd c :: k, o, s, r, h => by
  cases o with
  | norm => exact bind_le (fun x h => L.iter _ _ _ _ (oneRound_le L) h) (fun (_, _) r h => kont_le L k h) h
  | ret => exact kont_le L k (o := .ret) h
  | exit id => exact kont_le L k (o := .exit id) h
 | .round f rd c n0 :: k, o, s, r, h => by
  cases o with
  | norm => exact bind_le (fun x h => h) (fun _ r h => bind_le (fun x h => L.iter _ _ _ _ (oneRound_le L) h) (fun (_, _) r h => kont_le L k h) h) h
  | ret => exact kont_le L k (o := .ret) h
  | exit id => exact kont_le L k (o := .exit id) h
 | .block id :: k, o, s, r, h => kont_le L k (o := inBlock id o) h
 | .ops f id draw ops base rest slot :: k, o, s, r, h => by
  cases o with
  | norm => exact bind_le (fun x h => runOps_le L h) (fun (_, _) r h => bind_le (fun x h => h) (fun (_, _) r h => kont_le L k h) h) h
  | ret => cases h
  | exit id => cases h
 | .opsP f id l lay ops base rest slot :: k, o, s, r, h => by
  cases o with
  | norm => exact bind_le (fun x h => runP_le L h) (fun (_, _) r h => bind_le (fun x h => h) (fun (_, _) r h => kont_le L k h) h) h
  | ret => cases h
  | exit id => cases h
 | .ret g d ts marks :: k, o, s, r, h => bind_le (fun x h => h) (fun (_, _) r h => kont_le L k h) h
 | .over g l ts marks :: k, o, s, r, h => bind_le (fun x h => h) (fun (_, _) r h => bind_le (fun x h => h) (fun (_, _) r h => kont_le L k h) h) h
 | .busy l :: k, o, s, r, h => by
  cases o with
  | norm => exact bind_le (fun x h => h) (fun _ r h => kont_le L k h) h
  | ret => cases h
  | exit id => cases h
 | .yend f l bd n0 d ts marks :: k, o, s, r, h => bind_le (fun x h => h) (fun (_, _) r h => kont_le L k h) h
theorem Run.at {o : Out} (h : Run cfg fin k o s r) (m : Nat) : ∃ n, m <= n /\ kont cfg (env cfg n) fin k o s = some r := by
 obtain ⟨n, h⟩ := h
 exact ⟨max m n, Nat.le_max_left _ _, kont_le (env_le (Nat.le_max_right m n)) k h⟩
theorem Run.uniq {o : Out} {r' : α} (h : Run cfg fin k o s r) (h' : Run cfg fin k o s r') : r = r' := by
 obtain ⟨n, h⟩ := h
 obtain ⟨m, hm, h'⟩ := h'.at n
 have := kont_le (env_le hm) k h
 rw [h'] at this
 exact (Option.some.inj this).symm
theorem run_nil {o : Out} (h : fin o s = some r) : Run cfg fin [] o s r := ⟨0, h⟩
theorem run_skip (h : Run cfg fin k .norm s r) : Run cfg fin (.code f rd .skip :: k) .norm s r := h
theorem run_label {l : Nat} (h : Run cfg fin k .norm s r) : Run cfg fin (.code f rd (.label l) :: k) .norm s r := h
theorem run_exit {id : Nat} (h : Run cfg fin k (.exit id) s r) : Run cfg fin (.code f rd (.exit id) :: k) .norm s r := h
theorem run_ret (h : Run cfg fin k .ret s r) : Run cfg fin (.code f rd .ret :: k) .norm s r := h
theorem run_scope {c : Code} (h : Run cfg fin (.code f rd c :: k) .norm s r) : Run cfg fin (.code f rd (.scope c) :: k) .norm s r := h
theorem run_loop {c : Code} {s' : St} (hm : mrOf c = none) (hr : resetAt cfg f c s.h.next s = some s') (h : Run cfg fin (.loop f rd c :: k) .norm s' r) : Run cfg fin (.code f rd (.loop c) :: k) .norm s r := by
 obtain ⟨n, h⟩ := h
 refine ⟨n, ?_⟩
 show (exec cfg (env cfg n) f rd (.loop c) s).bind _ = _
 rw [exec_loop]
 simp only [hm, hr, oS]
 exact h
theorem run_seq {a b : Code} (h : Run cfg fin (.code f rd a :: .code f rd b :: k) .norm s r) : Run cfg fin (.code f rd (.seq a b) :: k) .norm s r := by
 obtain ⟨n, h⟩ := h
 refine ⟨n, ?_⟩
 simp only [kont, exec, oB] at h ⊢
 obtain ⟨⟨o1, s1⟩, h1, h⟩ := h
 cases o1 with
 | norm =>
  simp only [oB] at h
  obtain ⟨⟨o2, s2⟩, h2, h⟩ := h
  exact ⟨(o2, s2), ⟨(.norm, s1), h1, h2⟩, h⟩
 | ret => exact ⟨(.ret, s1), ⟨(.ret, s1), h1, rfl⟩, h⟩
 | exit id => exact ⟨(.exit id, s1), ⟨(.exit id, s1), h1, rfl⟩, h⟩
theorem run_cond {x : Operand} {a b : Code} {t : Bool} (hx : ev s.ts x = some (.t (.bool t))) (h : Run cfg fin (.code f rd (cond t a b) :: k) .norm s r) : Run cfg fin (.code f rd (.cond x a b) :: k) .norm s r := by
 obtain ⟨n, h⟩ := h
 refine ⟨n, ?_⟩
 cases t <;> simpa only [kont, exec, hx, oS, cond_true, cond_false] using h
theorem run_block {id : Nat} {c : Code} (h : Run cfg fin (.code f rd c :: .block id :: k) .norm s r) : Run cfg fin (.code f rd (.block id c) :: k) .norm s r := by
 obtain ⟨n, h⟩ := h
 refine ⟨n, ?_⟩
 simp only [kont, exec, oB, oM] at h ⊢
 obtain ⟨⟨o1, s1⟩, h1, h⟩ := h
 refine ⟨_, ⟨(o1, s1), h1, rfl⟩, ?_⟩
 cases o1 with
 | norm => exact h
 | ret => exact h
 | exit j =>
  simp only [inBlock] at h
  by_cases e : j = id
  . subst e; simpa [Nat.beq_refl] using h
  . have hb : Nat.beq j id = false := by
     cases hb : Nat.beq j id with
     | false => rfl
     | true => exact absurd (Nat.eq_of_beq_eq_true hb) e
    simpa [e, hb] using h
theorem run_region {id : Nat} {ops : Array Oper} {draw : Bool} {p : Ts × Heap} (hpr : protOf cfg draw id (keyOf ops.toList) = none) (hs : shutAll (cfg.shut f (preShut id)) s.ts s.h = some p)
  (h : Run cfg fin (.ops f id draw ops.toList p.2.next ops.toList p.2.next :: k) .norm ⟨p.1, ⟨p.2.next + ops.toList.length, p.2.tr⟩, s.marks⟩ r) :
  Run cfg fin (.code f rd (.region id ops draw) :: k) .norm s r := by
 obtain ⟨n, h⟩ := h
 refine ⟨n, ?_⟩
 simp only [kont, exec, region, regionB, hs, hpr, oS, oB, oM] at h ⊢
 obtain ⟨⟨ts, h1⟩, e1, ⟨ts2, h2⟩, e2, e3⟩ := h
 exact ⟨_, ⟨_, ⟨_, e1, _, e2, rfl⟩, rfl⟩, e3⟩
theorem run_regionP {id : Nat} {ops : Array Oper} {draw : Bool} {p : Ts × Heap} {tl lay : List Tmp} (hpr : protOf cfg draw id (keyOf ops.toList) = some (tl, lay)) (hs : shutAll (cfg.shut f (preShut id)) s.ts s.h = some p)
  (h : Run cfg fin (.opsP f id (idsOfH p.1 p.2 tl) lay ops.toList p.2.next ops.toList p.2.next :: k) .norm ⟨p.1, ⟨p.2.next + ops.toList.length, p.2.tr⟩, s.marks⟩ r) :
  Run cfg fin (.code f rd (.region id ops draw) :: k) .norm s r := by
 obtain ⟨n, h⟩ := h
 refine ⟨n, ?_⟩
 simp only [kont, exec, region, regionB, hs, hpr, oS, oB, oM] at h ⊢
 obtain ⟨⟨ts, h1⟩, e1, ⟨ts2, h2⟩, e2, e3⟩ := h
 exact ⟨_, ⟨_, ⟨_, e1, _, e2, rfl⟩, rfl⟩, e3⟩
theorem run_opsP_nil {id : Nat} {l : List Nat} {lay : List Tmp} {ops : List Oper} {base slot : Nat} {ts : Ts} {h' : Heap} (hs : shutAll (cfg.shut f id) s.ts s.h = some (ts, h')) (h : Run cfg fin k .norm ⟨ts, h', s.marks⟩ r) :
  Run cfg fin (.opsP f id l lay ops base [] slot :: k) .norm s r := by
 obtain ⟨n, h⟩ := h
 exact ⟨n, by simp only [kont, runP, oS, hs]; exact h⟩
theorem run_opsP_step {id : Nat} {l : List Nat} {lay : List Tmp} {ops : List Oper} {base slot : Nat} {o : Oper} {rest : List Oper} {ts : Ts} {h' : Heap} (hs : ∃ n, stepP cfg (env cfg n) (cfg.imm f) l lay ops base slot o s.ts s.h = some (ts, h'))
  (h : Run cfg fin (.opsP f id l lay ops base rest (slot + 1) :: k) .norm ⟨ts, h', s.marks⟩ r) : Run cfg fin (.opsP f id l lay ops base (o :: rest) slot :: k) .norm s r := by
 obtain ⟨m, hs⟩ := hs
 obtain ⟨n, hn, h⟩ := h.at m
 have hs' := stepP_le (env_le hn) hs
 exact ⟨n, by simp only [kont, runP, hs', oS] at h ⊢; exact h⟩
theorem run_iter {c : Code} (h : Run cfg fin (.code f rd c :: .round f rd c s.h.next :: k) .norm s r) : Run cfg fin (.loop f rd c :: k) .norm s r := by
 obtain ⟨n, hn, h⟩ := h.at 1
 obtain ⟨n, rfl⟩ : ∃ m, n = m + 1 := ⟨n - 1, by omega⟩
 refine ⟨n + 2, ?_⟩
 obtain ⟨⟨o1, s1⟩, h1, h⟩ := oB.1 h
 have h1' := exec_le (env_succ (n + 1)) c h1
 show (iterN (n + 1) (oneRound cfg (env cfg (n + 2)) f rd c) s).bind _ = _
 cases o1 with
 | norm =>
  obtain ⟨s2, h2, h⟩ := oB.1 h
  obtain ⟨⟨o3, s3⟩, h3, h⟩ := oB.1 h
  have h4 : iterN n (oneRound cfg (env cfg (n + 2)) f rd c) s2 = some (o3, s3) := iterN_mono n _ _ _ _ (oneRound_le (env_succ (n + 1))) h3
  refine oB.2 ⟨(o3, s3), ?_, kont_le (env_succ (n + 1)) k h⟩
  have h5 : oneRound cfg (env cfg (n + 2)) f rd c s = some (.norm, s2) := by
   unfold oneRound
   rw [h1']
   simp only [oS, h2, Option.map_some]
  simp only [iterN, h5, oS]
  exact h4
 | ret =>
  refine oB.2 ⟨(.ret, s1), ?_, kont_le (env_succ (n + 1)) k h⟩
  have h5 : oneRound cfg (env cfg (n + 2)) f rd c s = some (.ret, s1) := by unfold oneRound; rw [h1']; rfl
  simp only [iterN, h5, oS]
 | exit id =>
  refine oB.2 ⟨(.exit id, s1), ?_, kont_le (env_succ (n + 1)) k h⟩
  have h5 : oneRound cfg (env cfg (n + 2)) f rd c s = some (.exit id, s1) := by unfold oneRound; rw [h1']; rfl
  simp only [iterN, h5, oS]
theorem run_round {c : Code} {n0 : Nat} {s' : St} (hr : resetAt cfg f c n0 s = some s') (h : Run cfg fin (.loop f rd c :: k) .norm s' r) : Run cfg fin (.round f rd c n0 :: k) .norm s r := by
 obtain ⟨n, h⟩ := h
 exact ⟨n, by simp only [kont, hr, oS] at h ⊢; exact h⟩
theorem run_pass_code {c : Code} {o : Out} (ho : o ≠ .norm) (h : Run cfg fin k o s r) : Run cfg fin (.code f rd c :: k) o s r := by cases o <;> first | exact absurd rfl ho | exact h
theorem run_pass_loop {c : Code} {o : Out} (ho : o ≠ .norm) (h : Run cfg fin k o s r) : Run cfg fin (.loop f rd c :: k) o s r := by cases o <;> first | exact absurd rfl ho | exact h
theorem run_pass_round {c : Code} {n0 : Nat} {o : Out} (ho : o ≠ .norm) (h : Run cfg fin k o s r) : Run cfg fin (.round f rd c n0 :: k) o s r := by cases o <;> first | exact absurd rfl ho | exact h
theorem run_in_block {id : Nat} {o : Out} (h : Run cfg fin k (inBlock id o) s r) : Run cfg fin (.block id :: k) o s r := h
theorem run_ops_nil {id : Nat} {draw : Bool} {ops : List Oper} {base slot : Nat} {ts : Ts} {h' : Heap} (hs : shutAll (cfg.shut f id) s.ts s.h = some (ts, h')) (h : Run cfg fin k .norm ⟨ts, h', s.marks⟩ r) :
  Run cfg fin (.ops f id draw ops base [] slot :: k) .norm s r := by
 obtain ⟨n, h⟩ := h
 exact ⟨n, by simp only [kont, runOps, oS, hs]; exact h⟩
theorem run_ops_step {id : Nat} {draw : Bool} {ops : List Oper} {base slot : Nat} {o : Oper} {rest : List Oper} {ts : Ts} {h' : Heap} (hs : ∃ n, stepOp cfg (env cfg n) (cfg.imm f) draw ops base slot o s.ts s.h = some (ts, h'))
  (h : Run cfg fin (.ops f id draw ops base rest (slot + 1) :: k) .norm ⟨ts, h', s.marks⟩ r) : Run cfg fin (.ops f id draw ops base (o :: rest) slot :: k) .norm s r := by
 obtain ⟨m, hs⟩ := hs
 obtain ⟨n, hn, h⟩ := h.at m
 have hs' := stepOp_le (env_le hn) hs
 exact ⟨n, by simp only [kont, runOps, hs', oS] at h ⊢; exact h⟩
theorem run_ops_call {id : Nat} {draw : Bool} {ops : List Oper} {base slot : Nat} {o : Oper} {c : Call} {fo : Operand} {fv : V} {a b vs : List V} {g : FuncId} {fn : Func} {cd : Code} {rest : List Oper} (hw : wantedV ops s.ts o = some true) (ho : o.op = .call c) (hc : c.callee = .value fo)
  (hf : ev s.ts fo = some fv) (ht : tgtOf fv = some (.fn g, a, b)) (hvs : mapO (ev s.ts) c.args.toList = some vs) (hm : cfg.mode g = .shared) (hl : (isLoud cfg o && !quietApp draw (cfg.imm f) ops o) = true) (hfz : snapAt (cfg.imm f) o = false)
  (hg : cfg.code g = some fn) (hb : fn.body = some cd) (hn : (a ++ vs ++ b).length <= fn.ntmps)
  (h : Run cfg fin (.code g none cd :: .ret g o.dst s.ts s.marks :: .ops f id draw ops base rest (slot + 1) :: k) .norm ⟨setArgs (Tm.blank undefV fn.ntmps) 0 (a ++ vs ++ b), s.h, []⟩ r) :
  Run cfg fin (.ops f id draw ops base (o :: rest) slot :: k) .norm s r := by
 obtain ⟨n, h⟩ := h
 refine ⟨n + 1, ?_⟩
 simp only [kont, oB] at h
 obtain ⟨⟨o1, s1⟩, h1, ⟨v, h2⟩, h3, ⟨ts4, h4⟩, h5, h6⟩ := h
 have hcall : (env cfg (n + 1)).call (.fn g) (a ++ vs ++ b) s.h = some (v, h2) := by
  show callBody cfg (env cfg n) (.fn g) (a ++ vs ++ b) s.h = _
  simp only [callBody, body, hg, oS, hb, if_pos hn, h1]
  simp only [endCall, hg, oS] at h3
  cases o1 <;> exact h3
 have hstep : stepOp cfg (env cfg (n + 1)) (cfg.imm f) draw ops base slot o s.ts s.h = some (setDst s.ts o.dst v, h2) := by
  simp only [stepOp, hw, oS, cond_true, hl, loud, ho, lCall, hc, hf, ht, hvs, doCall, hm, hcall, Option.map_some, frzL, hfz, cond_false]
 simp only [kont, runOps, hstep, oS]
 refine oB.2 ⟨(ts4, h4), runOps_le (env_succ n) h5, ?_⟩
 simp only [oB] at h6 ⊢
 obtain ⟨p, hp, h6⟩ := h6
 exact ⟨p, hp, kont_le (env_succ n) k h6⟩
theorem run_ops_chk {id : Nat} {draw : Bool} {ops : List Oper} {base slot : Nat} {o : Oper} {c : Call} {fo : Operand} {fv : V} {a b vs : List V} {g : FuncId} {p : V × Heap} {rest : List Oper} (hw : wantedV ops s.ts o = some true) (ho : o.op = .call c) (hc : c.callee = .value fo)
  (hf : ev s.ts fo = some fv) (ht : tgtOf fv = some (.fn g, a, b)) (hvs : mapO (ev s.ts) c.args.toList = some vs) (hm : cfg.mode g = .shared) (hl : (isLoud cfg o && !quietApp draw (cfg.imm f) ops o) = true) (hfz : snapAt (cfg.imm f) o = false)
  (hg : cfg.code g = none) (he : ((cfg.chk g).bind fun e => checkCall e (a ++ vs ++ b) s.h) = some p)
  (h : Run cfg fin (.ops f id draw ops base rest (slot + 1) :: k) .norm ⟨setDst s.ts o.dst p.1, p.2, s.marks⟩ r) :
  Run cfg fin (.ops f id draw ops base (o :: rest) slot :: k) .norm s r := by
 refine run_ops_step ⟨1, ?_⟩ h
 have hcall : (env cfg 1).call (.fn g) (a ++ vs ++ b) s.h = some p := by
  show callBody cfg (env cfg 0) (.fn g) (a ++ vs ++ b) s.h = _
  simp only [callBody, hg]
  exact he
 simp only [stepOp, hw, oS, cond_true, hl, loud, ho, lCall, hc, hf, ht, hvs, doCall, hm, hcall, Option.map_some, frzL, hfz, cond_false]
theorem run_ops_yield {id : Nat} {draw : Bool} {ops : List Oper} {base slot : Nat} {o : Oper} {c : Call} {fo : Operand} {fv : V} {a b vs : List V} {l : Nat} {st0 : LoopState} {pend0 : Option Code} {f0 : FuncId} {ts00 ts0 : Ts} {ps : List Tmp} {asg bd : Code} {rest : List Oper}
  (hw : wantedV ops s.ts o = some true) (ho : o.op = .call c) (hc : c.callee = .value fo)
  (hf : ev s.ts fo = some fv) (ht : tgtOf fv = some (.yld l, a, b)) (hvs : mapO (ev s.ts) c.args.toList = some vs) (hl : (isLoud cfg o && !quietApp draw (cfg.imm f) ops o) = true) (hfz : snapAt (cfg.imm f) o = false)
  (hob : s.h.obj l = some (.loop st0 pend0 f0 ts00 ps asg bd)) (hps : setParams ts00 ps (a ++ vs ++ b) = some ts0)
  (h : Run cfg fin (.code f0 (some l) asg :: .busy l :: .code f0 (some l) bd :: .yend f0 l bd s.h.next o.dst s.ts s.marks :: .ops f id draw ops base rest (slot + 1) :: k) .norm ⟨ts0, s.h, []⟩ r) :
  Run cfg fin (.ops f id draw ops base (o :: rest) slot :: k) .norm s r := by
 obtain ⟨n, h⟩ := h
 refine ⟨n + 1, ?_⟩
 obtain ⟨⟨o1, s1⟩, h1, h⟩ := oB.1 h
 cases o1 with
 | ret => cases h
 | exit j => cases h
 | norm =>
  obtain ⟨s2, h2, h⟩ := oB.1 h
  obtain ⟨⟨o3, s3⟩, h3, h⟩ := oB.1 h
  obtain ⟨⟨v, h4⟩, h5, h6⟩ := oB.1 (show (endRound cfg f0 l bd s.h.next o3 s3).bind (fun p => kont cfg (env cfg n) fin (.ops f id draw ops base rest (slot + 1) :: k) .norm ⟨setDst s.ts o.dst p.1, p.2, s.marks⟩) = some r by cases o3 <;> exact h)
  have hcall : (env cfg (n + 1)).call (.yld l) (a ++ vs ++ b) s.h = some (v, h4) := by
   show callBody cfg (env cfg n) (.yld l) (a ++ vs ++ b) s.h = _
   simp only [callBody, round, hob, hps, oS, h1]
   unfold beginRound at h2
   split at h2
   case h_2 => cases h2
   rename_i ho2
   cases h2
   simp only [ho2, h3, oS]
   unfold endRound at h5
   split at h5
   case h_2 => cases h5
   rename_i ho3
   simp only [ho3]
   exact h5
  have hstep : stepOp cfg (env cfg (n + 1)) (cfg.imm f) draw ops base slot o s.ts s.h = some (setDst s.ts o.dst v, h4) := by
   simp only [stepOp, hw, oS, cond_true, hl, loud, ho, lCall, hc, hf, ht, hvs, doCall, hcall, Option.map_some, frzL, hfz, cond_false]
  have h7 := kont_le (env_succ n) _ h6
  simp only [kont, runOps, hstep, oS] at h7 ⊢
  exact h7
theorem run_range {fo : Operand} {ps : Array Tmp} {asg bd : Code} {fv : V} {g : FuncId} {a b : List V} {fn : Func} {cd : Code} (hf : ev s.ts fo = some fv) (ht : tgtOf fv = some (.fn g, a, b)) (hm : cfg.mode g = .shared) (hin : inLoop rd s.h = true)
  (hg : cfg.code g = some fn) (hb : fn.body = some cd) {pre : Heap} {marks : List Nat} (hpre : pre = if rd.isSome then s.h else s.h.push (.defer true)) (hmk : marks = if rd.isSome then s.marks else s.h.next :: s.marks)
  (hn : (a ++ [V.yld pre.next] ++ b).length <= fn.ntmps)
  (h : Run cfg fin (.code g none cd :: .over g pre.next s.ts marks :: k) .norm ⟨setArgs (Tm.blank undefV fn.ntmps) 0 (a ++ [V.yld pre.next] ++ b), pre.push (.loop .ready none f s.ts ps.toList asg bd), []⟩ r) :
  Run cfg fin (.code f rd (.rangeFunc fo ps asg bd) :: k) .norm s r := by
 subst hpre hmk
 obtain ⟨n, h⟩ := h
 refine ⟨n + 1, ?_⟩
 simp only [kont, oB] at h
 obtain ⟨⟨o1, s1⟩, h1, ⟨v, h2⟩, h3, ⟨o4, s4⟩, h4, h5⟩ := h
 have hcall : (env cfg (n + 1)).call (.fn g) (a ++ [V.yld (if rd.isSome then s.h else s.h.push (.defer true)).next] ++ b) ((if rd.isSome then s.h else s.h.push (.defer true)).push (.loop .ready none f s.ts ps.toList asg bd)) = some (v, h2) := by
  show callBody cfg (env cfg n) (.fn g) _ _ = _
  simp only [callBody, body, hg, oS, hb, if_pos hn, h1]
  simp only [endCall, hg, oS] at h3
  cases o1 <;> exact h3
 simp only [kont, exec, hf, ht, oS, hm, hin, decide_true, Bool.and_self, if_true, hcall]
 refine oB.2 ⟨(o4, s4), ?_, kont_le (env_succ n) k h5⟩
 exact h4
theorem run_over {g : FuncId} {l : Nat} {ts : Ts} {marks : List Nat} {o : Out} {v : V} {h1 : Heap} {o2 : Out} {s2 : St} (he : endCall cfg g o s = some (v, h1)) (hr : endRange l ts marks h1 = some (o2, s2)) (h : Run cfg fin k o2 s2 r) : Run cfg fin (.over g l ts marks :: k) o s r := by
 obtain ⟨n, h⟩ := h
 exact ⟨n, by simp only [kont, he, hr, oS]; exact h⟩
theorem run_retn {g : FuncId} {d : Option Tmp} {ts : Ts} {marks : List Nat} {o : Out} {v : V} {h1 : Heap} (he : endCall cfg g o s = some (v, h1)) (h : Run cfg fin k .norm ⟨setDst ts d v, h1, marks⟩ r) : Run cfg fin (.ret g d ts marks :: k) o s r := by
 obtain ⟨n, h⟩ := h
 exact ⟨n, by simp only [kont, he, oS]; exact h⟩
theorem run_busy {l : Nat} {s' : St} (hb : beginRound l s = some s') (h : Run cfg fin k .norm s' r) : Run cfg fin (.busy l :: k) .norm s r := by
 obtain ⟨n, h⟩ := h
 exact ⟨n, by simp only [kont, hb, oS]; exact h⟩
theorem run_yend {f0 : FuncId} {l : Nat} {bd : Code} {n0 : Nat} {d : Option Tmp} {ts : Ts} {marks : List Nat} {o : Out} {v : V} {h1 : Heap} (he : endRound cfg f0 l bd n0 o s = some (v, h1)) (h : Run cfg fin k .norm ⟨setDst ts d v, h1, marks⟩ r) : Run cfg fin (.yend f0 l bd n0 d ts marks :: k) o s r := by
 obtain ⟨n, h⟩ := h
 exact ⟨n, by simp only [kont, he, oS]; exact h⟩
open Classical in
noncomputable def fnO (cfg : Cfg) (f : FuncId) (xs : List T) : Option T := if h : ∃ r n, (env cfg n).pure f xs = some r then some (Classical.choose h) else none
theorem fnO_some {cfg : Cfg} {f : FuncId} {xs : List T} {r : T} : fnO cfg f xs = some r ↔ ∃ n, (env cfg n).pure f xs = some r := by
 constructor
 . intro h
   unfold fnO at h
   split at h
   . rename_i he
     obtain ⟨n, hn⟩ := Classical.choose_spec he
     cases h
     exact ⟨n, hn⟩
   . cases h
 . rintro ⟨n, hn⟩
   have he : ∃ r n, (env cfg n).pure f xs = some r := ⟨r, n, hn⟩
   unfold fnO
   rw [dif_pos he]
   obtain ⟨m, hm⟩ := Classical.choose_spec he
   have h1 := (env_le (Nat.le_max_left n m)).pure f xs r hn
   have h2 := (env_le (Nat.le_max_right n m)).pure f xs _ hm
   rw [h1] at h2
   exact h2.symm
open Classical in
noncomputable def runO {α : Type} (cfg : Cfg) (fin : Out -> St -> Option α) (k : List Kt) (s : St) : Option α := if h : ∃ r, Run cfg fin k .norm s r then some (Classical.choose h) else none
theorem runO_some {α : Type} {cfg : Cfg} {fin : Out -> St -> Option α} {k : List Kt} {s : St} {r : α} : runO cfg fin k s = some r ↔ Run cfg fin k .norm s r := by
 constructor
 . intro h
   unfold runO at h
   split at h
   . rename_i he
     cases h
     exact Classical.choose_spec he
   . cases h
 . intro h
   have he : ∃ r, Run cfg fin k .norm s r := ⟨r, h⟩
   unfold runO
   rw [dif_pos he]
   exact congrArg some ((Classical.choose_spec he).uniq h)
theorem fn_run {f : FuncId} {fn : Func} {cd : Code} {xs : List T} {r : T} (hr : rowMode f = none) (hp : cfg.prim f = none) (hg : cfg.code f = some fn) (hb : fn.body = some cd) (hn : xs.length <= fn.ntmps)
  (h : Run cfg (pureFin cfg f) [.code f none cd] .norm ⟨setArgs (Tm.blank undefV fn.ntmps) 0 (xs.map .t), .empty, []⟩ r) : fnO cfg f xs = some r := by
 obtain ⟨n, h⟩ := h
 refine fnO_some.2 ⟨n + 1, ?_⟩
 show pureBody cfg (env cfg n) f xs = some r
 obtain ⟨⟨o1, s1⟩, h1, h⟩ := oB.1 h
 have h2 : (endCall cfg f o1 s1).bind (fun p => snap p.2.obj snapFuel p.1) = some r := by
  have h0 : pureFin cfg f o1 s1 = some r := by cases o1 <;> exact h
  unfold pureFin at h0
  rw [hr] at h0
  exact h0
 simp only [endCall, hg, oS] at h2
 simp only [pureBody, hp, body, hg, oS, hb, List.length_map, if_pos hn, h1]
 cases o1 <;> exact h2
end
end Go.Apex
