import Derived.Test.YtcljaeknhmpecaaGreatApexA42
import Derived.KernelRfl
set_option linter.all false
namespace Go.Apex
open Go
noncomputable section
inductive Leaf where
 | val (x : T)
 | tail (rows : List Nat) (k : List Kt) (s : St)
def oneT (x : T) : Bool := x.one
def objBd (n : Nat) (o : Obj) : Bool := o.bd n
def sShutOne (rows : List Nat) (ts : Ts) (h : Heap) (d : Tmp) : Dt (Ts × Heap) :=
 match ts.get d with
 | some (.ref id g off sh) => match h.obj id with
  | some (.cells g' _ _ cs) => cond (rows.contains id) .fail (cond (Nat.beq g g') (match sh with
   | none => match cs[off]? with
    | some (.t x) => .chk (oneT x) (.ret (ts.upd (.t (.ptr x)) d, h.set id none))
    | _ => .ret (ts, h)
   | some k => cond (Nat.ble (off + k) cs.length) (match allT ((cs.drop off).take k) with
    | some xs => .ret (ts.upd (.t (.ptr (.agg xs))) d, h.set id none)
    | none => .ret (ts, h)) .fail) (.ret (ts, h)))
  | _ => .ret (ts, h)
 | some (.msl id g off len sh) => match h.obj id with
  | some (.cells g' _ _ cs) => .chk (natEq g g') (.opt T (treeOf sh cs off len) fun x => .ret (ts.upd (.t x) d, h.set id none))
  | _ => .ret (ts, h)
 | some _ => .ret (ts, h)
 | none => .fail
def sUnrow (rows : List Nat) (k : Nat) (ts : Ts) (h : Heap) (d : Tmp) : Dt (Ts × Heap) :=
 match ts.get d with
 | some (.ref id _ _ _) => match h.obj id with
  | some (.cells g' e fz cs) => cond (rows.contains id) .fail (match cs[k]? with
   | some (.msl id2 g off len sh) => match h.obj id2 with
    | some (.cells g2 _ _ cs2) => cond (Nat.beq id id2) .fail (.chk (natEq g g2) (.opt T (treeOf sh cs2 off len) fun x => .ret (ts, (h.set id2 none).set id (some (.cells g' e fz (cs.set k (.t x)))))))
    | _ => .fail
   | some (.t _) => .ret (ts, h)
   | _ => .fail)
  | _ => .fail
 | some (.t _) => .ret (ts, h)
 | _ => .fail
def sShutOld (rows : List Nat) (ts : Ts) (h : Heap) (d : Tmp) : Dt (Ts × Heap) :=
 cond (Nat.ble 100000 d) (sUnrow rows (Nat.pred (Nat.div d 100000)) ts h (Nat.mod d 100000)) (cond (Nat.ble 50000 d) .fail (sShutOne rows ts h d))
def sSpotAt (ts : Ts) (h : Heap) (s : Spot) : Dt (Nat × Nat × Nat) := cond (Nat.beq s.k 9998)
 ((Dt.lift (ts.get s.d)).bind fun v => match v with
   | .ref id gen off _ => .ret (id, gen, off + s.k2)
   | _ => .fail)
 ((Dt.lift (spotRow ts h s)).bind fun v => match v with
   | .msl id gen off len sh => (Dt.lift (ts.get s.i)).bind fun w => (sInd w).bind fun i => .chk (rowIn i len) (.ret (id, gen, rowOff off i (shSize sh) + s.k2))
   | _ => .fail)
def sNestRow (h : Heap) (v : V) : Dt Heap :=
 match v with
 | .msl id gen _ _ _ => match h.obj id with
  | some (.cells g e false cs) => .chk (natEq g gen) (.ret (h.set id (some (.nest g e (nestOf cs) none))))
  | some (.nest _ _ _ _) => .ret h
  | _ => .fail
 | .t _ => .ret h
 | _ => .fail
def sOpenAt (cfg : Cfg) (e2 id gen c : Nat) (h : Heap) : Dt Heap :=
 match h.obj id with
 | some (.nest g e cs none) => .chk (natEq g gen) (.ite (isOwn cs c)
   ((Dt.lift (cfg.ti e2)).bind fun j => .opt (List T) (ownX e2 j.sh cs c) fun xs => .ret ((h.push (.cells 1 e2 false (ownV xs))).set id (some (.nest gen e (junk1 cs c) (some (c, [.msl h.next 1 0 (lenX xs) j.sh]))))))
   (.chk (isVal cs c) (.ret h)))
 | _ => .fail
def sFreezeAt (id gen c n : Nat) (h : Heap) : Dt Heap :=
 match h.obj id with
 | some (.nest g e cs none) => .chk (natEq g gen) (.chk (fitC cs c n) (.ret (h.set id (some (.nest gen e (frzC cs c n) none)))))
 | _ => .fail
def sCloseCells (id : Nat) : List V -> Heap -> Dt (List C × Heap)
 | [], h => .ret ([], h)
 | v :: r, h => match v with
  | .t x => (sCloseCells id r h).bind fun p => .ret (.v (.t x) :: p.1, p.2)
  | .msl id2 g2 off len sh => cond (Nat.beq id id2) .fail (match h.obj id2 with
   | some (.cells g e false cs) => .chk (natEq g g2) (.opt (List T) (rowT sh cs off len) fun xs => (sCloseCells id r (h.set id2 none)).bind fun p => .ret (.own e sh xs :: p.1, p.2))
   | _ => .fail)
  | _ => .fail
def sCloseRow (h : Heap) (v : V) : Dt Heap :=
 match v with
 | .msl id _ _ _ _ => match h.obj id with
  | some (.nest g e cs fc) => match fc with
   | some p => (sCloseCells id p.2 h).bind fun q => .ret (q.2.set id (some (.nest g e (putC cs p.1 q.1) none)))
   | none => .ret h
  | _ => .fail
 | .ref id _ _ _ => match h.obj id with
  | some (.nest g e cs fc) => match fc with
   | some p => (sCloseCells id p.2 h).bind fun q => .ret (q.2.set id (some (.nest g e (putC cs p.1 q.1) none)))
   | none => .ret h
  | _ => .fail
 | .t _ => .ret h
 | _ => .fail
def sShutNest (cfg : Cfg) (k : Nat) (s : Spot) (ts : Ts) (h : Heap) : Dt Heap :=
 cond (Nat.beq k 1) ((Dt.lift (spotRow ts h s)).bind (sNestRow h)) (cond (Nat.beq k 3) ((Dt.lift (spotRow ts h s)).bind (sCloseRow h))
  ((sSpotAt ts h s).bind fun p => cond (Nat.beq k 2) (sOpenAt cfg s.e2 p.1 p.2.1 p.2.2 h) (sFreezeAt p.1 p.2.1 p.2.2 (Nat.div k 10) h)))
def sShutAny (cfg : Cfg) (rows : List Nat) (ts : Ts) (h : Heap) (d : Tmp) : Dt (Ts × Heap) :=
 cond (Nat.ble nestNo d) ((sShutNest cfg (Nat.div d nestNo) (spotOf (Nat.mod d nestNo)) ts h).bind fun h => .ret (ts, h)) (sShutOld rows ts h d)
def rowsUp (h h' : Heap) (rows : List Nat) : List Nat := List.range' h.next (Nat.sub h'.next h.next) ++ rows
def sShut (cfg : Cfg) (rows : List Nat) : List Tmp -> Ts -> Heap -> Dt (Ts × Heap)
 | [], ts, h => .ret (ts, h)
 | d :: r, ts, h => (sShutAny cfg rows ts h d).bind fun p => sShut cfg (rowsUp h p.2 rows) r p.1 p.2
def sAllBd (rows : List Nat) (n1 : Nat) (t : Tm Obj) : Nat -> Nat -> Dt Unit
 | _, 0 => .ret ()
 | n, k + 1 => match t.get n with
  | some (.nest g e cs fc) => .chk (objBd n1 (.nest g e cs fc)) (sAllBd rows n1 t (n + 1) k)
  | some o => cond (rows.contains n) (.chk (objBd n1 o) (sAllBd rows n1 t (n + 1) k)) (cond (o.bd n1) (sAllBd rows n1 t (n + 1) k) .fail)
  | none => sAllBd rows n1 t (n + 1) k
def sResetH (rows : List Nat) (n0 : Nat) (ids : List Nat) (h : Heap) : Dt Heap :=
 let n1 := topOf n0 ids
 let t := gather h.tr (fun i => Nat.ble (i + 1) n0 || ids.contains i) 0 h.next .nil
 cond (Nat.ble n1 h.next) ((sAllBd rows n1 t 0 n1).bind fun _ => .ret ⟨n1, t⟩) .fail
def sReset (rows : List Nat) (n0 : Nat) (ks : List Tmp) (s : St) : Dt St :=
 let ts := s.ts.keepOnly .junk (fun t => ks.contains t)
 let ids := scan (deepOf ks) s.h.obj scanFuel (ks.filterMap (fun t => s.ts.get t)) s.marks
 (sResetH rows n0 ids s.h).bind fun h => cond (ts.all (V.bd h.next) && s.marks.all (fun i => Nat.ble (i + 1) h.next)) (.ret ⟨ts, h, s.marks⟩) .fail
def sResetAt (cfg : Cfg) (rows : List Nat) (f : FuncId) (c : Code) (n0 : Nat) (s : St) : Dt St :=
 match cfg.keep f (loopKey c) with
 | none => .ret s
 | some ks => sReset rows n0 ks s
def sResetRound (cfg : Cfg) (rows : List Nat) (f : FuncId) (c : Code) (n0 : Nat) (ts : Ts) (h : Heap) : Dt Heap :=
 match cfg.keep f (loopKey c) with
 | none => .ret h
 | some ks => sResetH rows n0 (scan (deepOf ks) h.obj scanFuel (ks.filterMap (fun t => ts.get t)) []) h
def sEndRound (cfg : Cfg) (rows : List Nat) (f : FuncId) (l : Nat) (bd : Code) (n0 : Nat) (o : Out) (s : St) : Dt (V × Heap) :=
 match s.h.obj l with
 | some (.loop _ _ f' ts' ps' asg' bd') =>
  (sResetRound cfg rows f bd n0 ts' (s.h.set l (some (match o with
  | .norm => .loop .ready none f' ts' ps' asg' bd'
  | .ret => .loop .done (some .ret) f' ts' ps' asg' bd'
  | .exit id => .loop .done (some (.exit id)) f' ts' ps' asg' bd')))).map fun h' =>
  (.t (.bool (match o with | .norm => true | _ => false)), h')
 | _ => .fail
def canonRows (rows : List Nat) (h : Heap) : List Nat := (List.range h.next).filter fun i => rows.contains i && (match h.obj i with | some _ => true | none => false)
def isAppend (o : Op) : Bool := match o with | .call c => (match c.callee with | .builtin .append => true | _ => false) | _ => false
def rowsAfter (cfg : Cfg) (o : Op) (v : V) (rows : List Nat) : List Nat :=
 match v with
 | .msl id _ _ _ _ => cond (rows.contains id) rows (match o with
  | .makeSlice .. => id :: rows
  | .call c => match c.callee with
   | .builtin .append => id :: rows
   | .value (.func f) => (match cfg.mode f with | .fresh => id :: rows | _ => rows)
   | _ => rows
  | _ => rows)
 | .agg vs => (match o with
  | .call c => (match (rowPlace vs 0).bind fun k => vs[k]? with
   | some (.msl id _ _ _ _) => cond (rows.contains id) rows (match c.callee with
    | .value (.func f) => (match cfg.twin f with | some _ => id :: rows | none => rows)
    | _ => rows)
   | _ => rows)
  | _ => rows)
 | _ => rows
inductive Tk where
 | plain
 | inline (g : FuncId) (a b : List V)
 | yield (l : Nat)
def opKind (cfg : Cfg) (ts : Ts) (o : Op) : Tk :=
 match o with
 | .call c => match c.callee with
  | .value (.func g) => (match cfg.mode g with | .shared => .inline g [] [] | _ => .plain)
  | .value fo => match ev ts fo with
   | some (.fn (.func g) a b) => (match cfg.mode g with | .shared => .inline g a b | _ => .plain)
   | some (.yld l) => .yield l
   | _ => .plain
  | _ => .plain
 | _ => .plain
def callArgs (o : Op) : List Operand := match o with | .call c => c.args.toList | _ => []
def litX (res : List Tmp) : Operand -> Bool
 | .const (.bool _) => true
 | .tmp t => res.contains t
 | _ => false
def resAfter (o : Oper) (ts : Ts) (res : List Tmp) : List Tmp :=
 match o.dst with
 | none => res
 | some d => cond (match o.op with
  | .move x => litX res x
  | .assign x => litX res x
  | .unOp .not _ x => litX res x
  | .pick c a b => litX res c && (match ev ts c with
   | some (.t p) => (match p with | .bool t => cond t (litX res a) (litX res b) | _ => false)
   | _ => false)
  | _ => false) (d :: res) (cond (res.contains d) (res.filter fun t => !Nat.beq t d) res)
abbrev Nx := List Nat -> List Tmp -> List Kt -> Out -> St -> Dt Leaf
def symGo (cfg : Cfg) (nx : Nx) (rows : List Nat) (res : List Tmp) (f : FuncId) (id : Nat) (draw : Bool) (ops : List Oper) (base : Nat) (o1 : Oper) (rest : List Oper) (slot : Nat) (k : List Kt) (s : St) (kd : Tk) : Dt Leaf :=
 match kd with
 | .plain => cond (isLoud cfg o1 && !quietApp draw (cfg.imm f) ops o1)
   (((sLoud cfg o1 slot s.ts s.h rows).bind fun r => sFrzL (snapAt (cfg.imm f) o1) r).bind fun p => nx (rowsAfter cfg o1.op p.1 rows) (resAfter o1 s.ts res) (.ops f id draw ops base rest (slot + 1) :: k) .norm ⟨setDst s.ts o1.dst p.1, p.2, s.marks⟩)
   ((sQuietF cfg (cfg.imm f) o1 slot s.ts (rdOf draw base s.h) rows res).bind fun p => nx (rowsAfter cfg o1.op p.1 rows) (resAfter o1 s.ts res) (.ops f id draw ops base rest (slot + 1) :: k) .norm ⟨setDst s.ts o1.dst p.1, putObj s.h slot p.2, s.marks⟩)
 | .inline g a b => (Dt.lift (mapO (ev s.ts) (callArgs o1.op))).bind fun vs => match cfg.code g with
  | none => (Dt.lift ((cfg.chk g).bind fun e => checkCall e (a ++ vs ++ b) s.h)).bind fun p => cond ((isLoud cfg o1 && !quietApp draw (cfg.imm f) ops o1) && !snapAt (cfg.imm f) o1)
    (nx rows (resAfter o1 s.ts res) (.ops f id draw ops base rest (slot + 1) :: k) .norm ⟨setDst s.ts o1.dst p.1, p.2, s.marks⟩) .fail
  | some fn => (Dt.lift fn.body).bind fun cd =>
   cond ((isLoud cfg o1 && !quietApp draw (cfg.imm f) ops o1) && !snapAt (cfg.imm f) o1 && Nat.ble (a ++ vs ++ b).length fn.ntmps)
    (nx rows [] (.code g none cd :: .ret g o1.dst s.ts s.marks :: .ops f id draw ops base rest (slot + 1) :: k) .norm ⟨setArgs (Tm.blank undefV fn.ntmps) 0 (a ++ vs ++ b), s.h, []⟩) .fail
 | .yield l => (Dt.lift (mapO (ev s.ts) (callArgs o1.op))).bind fun vs => match s.h.obj l with
   | some (.loop _ _ f1 ts1 ps asg bd) => (Dt.lift (setParams ts1 ps vs)).bind fun ts0 =>
    cond ((isLoud cfg o1 && !quietApp draw (cfg.imm f) ops o1) && !snapAt (cfg.imm f) o1)
     (nx rows [] (.code f1 (some l) asg :: .busy l :: .code f1 (some l) bd :: .yend f1 l bd s.h.next o1.dst s.ts s.marks :: .ops f id draw ops base rest (slot + 1) :: k) .norm ⟨ts0, s.h, []⟩) .fail
   | _ => .fail
def symSkip (nx : Nx) (rows : List Nat) (res : List Tmp) (f : FuncId) (id : Nat) (draw : Bool) (ops : List Oper) (base : Nat) (o1 : Oper) (rest : List Oper) (slot : Nat) (k : List Kt) (s : St) : Dt Leaf :=
 nx rows res (.ops f id draw ops base rest (slot + 1) :: k) .norm ⟨setDst s.ts o1.dst undefV, s.h, s.marks⟩
def symGuard (cfg : Cfg) (nx : Nx) (rows : List Nat) (res : List Tmp) (f : FuncId) (id : Nat) (draw : Bool) (ops : List Oper) (base : Nat) (o1 : Oper) (rest : List Oper) (slot : Nat) (k : List Kt) (s : St) : Dt Leaf :=
 match o1.guard with
 | none => symGo cfg nx rows res f id draw ops base o1 rest slot k s (opKind cfg s.ts o1.op)
 | some (j, want) => match (ops[j]?).bind (·.dst) with
  | some t => match s.ts.get t with
   | some (.t p) => match p with
    | .bool b => cond (res.contains t)
      (cond (b == want) (symGo cfg nx rows res f id draw ops base o1 rest slot k s (opKind cfg s.ts o1.op)) (symSkip nx rows res f id draw ops base o1 rest slot k s))
      (.ite b (nx rows (t :: res) (.ops f id draw ops base (o1 :: rest) slot :: k) .norm ⟨s.ts.upd (.t (.bool true)) t, s.h, s.marks⟩)
       (nx rows (t :: res) (.ops f id draw ops base (o1 :: rest) slot :: k) .norm ⟨s.ts.upd (.t (.bool false)) t, s.h, s.marks⟩))
    | .tup [] => symSkip nx rows res f id draw ops base o1 rest slot k s
    | _ => .fail
   | _ => .fail
  | none => .fail
def symGoP (cfg : Cfg) (nx : Nx) (rows : List Nat) (res : List Tmp) (f : FuncId) (id : Nat) (l : List Nat) (lay : List Tmp) (ops : List Oper) (base : Nat) (o1 : Oper) (rest : List Oper) (slot : Nat) (k : List Kt) (s : St) : Dt Leaf :=
 cond (isLoud cfg o1 && !quietApp true (cfg.imm f) ops o1)
   (((sLoud cfg o1 slot s.ts s.h rows).bind fun r => sFrzL (snapAt (cfg.imm f) o1) r).bind fun p => cond (!guardD lay o1 || appFree l s.ts o1) (nx (rowsAfter cfg o1.op p.1 rows) (resAfter o1 s.ts res) (.opsP f id l lay ops base rest (slot + 1) :: k) .norm ⟨setDst s.ts o1.dst p.1, p.2, s.marks⟩) .fail)
   ((sQuietF cfg (cfg.imm f) o1 slot s.ts (rdPr l (rdOf true base s.h)) rows res).bind fun p => cond (p.2.isNone || layOK lay o1) (nx (rowsAfter cfg o1.op p.1 rows) (resAfter o1 s.ts res) (.opsP f id l lay ops base rest (slot + 1) :: k) .norm ⟨setDst s.ts o1.dst p.1, putObj s.h slot p.2, s.marks⟩) .fail)
def symSkipP (nx : Nx) (rows : List Nat) (res : List Tmp) (f : FuncId) (id : Nat) (l : List Nat) (lay : List Tmp) (ops : List Oper) (base : Nat) (o1 : Oper) (rest : List Oper) (slot : Nat) (k : List Kt) (s : St) : Dt Leaf :=
 nx rows res (.opsP f id l lay ops base rest (slot + 1) :: k) .norm ⟨setDst s.ts o1.dst undefV, s.h, s.marks⟩
def symGuardP (cfg : Cfg) (nx : Nx) (rows : List Nat) (res : List Tmp) (f : FuncId) (id : Nat) (l : List Nat) (lay : List Tmp) (ops : List Oper) (base : Nat) (o1 : Oper) (rest : List Oper) (slot : Nat) (k : List Kt) (s : St) : Dt Leaf :=
 match o1.guard with
 | none => symGoP cfg nx rows res f id l lay ops base o1 rest slot k s
 | some (j, want) => match (ops[j]?).bind (·.dst) with
  | some t => match s.ts.get t with
   | some (.t p) => match p with
    | .bool b => cond (res.contains t)
      (cond (b == want) (symGoP cfg nx rows res f id l lay ops base o1 rest slot k s) (symSkipP nx rows res f id l lay ops base o1 rest slot k s))
      (.ite b (nx rows (t :: res) (.opsP f id l lay ops base (o1 :: rest) slot :: k) .norm ⟨s.ts.upd (.t (.bool true)) t, s.h, s.marks⟩)
       (nx rows (t :: res) (.opsP f id l lay ops base (o1 :: rest) slot :: k) .norm ⟨s.ts.upd (.t (.bool false)) t, s.h, s.marks⟩))
    | .tup [] => symSkipP nx rows res f id l lay ops base o1 rest slot k s
    | _ => .fail
   | _ => .fail
  | none => .fail
def sEncRow (p : V × Heap) : Dt T :=
 match p.1 with
 | .t x => .ret (.tup [.nilp, x])
 | .msl id gen off len sh => match p.2.obj id with
  | some (.cells g e false cs) => .chk (Nat.beq g gen) (.opt (List T) (allT cs) fun xs => .ret (.tup [.nili, .int .i64 e, .int .i64 off, .int .i64 len, shT sh, .tup xs]))
  | _ => .fail
 | .agg vs => (Dt.lift (rowPlace vs 0)).bind fun k => match vs[k]? with
  | some (.msl id gen off len sh) => (Dt.lift (allT (vs.set k (.t .nils)))).bind fun xs => match p.2.obj id with
   | some (.cells g e false cs) => .chk (Nat.beq g gen) (.opt (List T) (allT cs) fun ys => .ret (.tup [.bool true, .int .i64 k, .int .i64 e, .int .i64 off, .int .i64 len, shT sh, .tup xs, .tup ys]))
   | _ => .fail
  | _ => .fail
 | _ => .fail
def sym (cfg : Cfg) (f0 : FuncId) : Nat -> List Nat -> List Tmp -> List Kt -> Out -> St -> Dt Leaf
 | 0, _, _, _, _, _ => .fail
 | n + 1, rows, res, k, o, s => match k with
  | [] => match rowMode f0 with
   | none => (Dt.lift (endCall cfg f0 o s)).bind fun p => (sSnap p.2.obj rows snapFuel p.1).bind fun x => .ret (.val x)
   | some g => (Dt.lift (endCall cfg g o s)).bind fun p => (sEncRow p).bind fun x => .ret (.val x)
  | .code f rd c :: k => match o with
   | .norm => match c with
    | .skip => sym cfg f0 n rows res k .norm s
    | .region id ops draw => match protOf cfg draw id (keyOf ops.toList) with
     | some (tl, lay) => (sShut cfg rows (cfg.shut f (preShut id)) s.ts s.h).bind fun p => sym cfg f0 n (rowsUp s.h p.2 rows) res (.opsP f id (idsOfH p.1 p.2 tl) lay ops.toList p.2.next ops.toList p.2.next :: k) .norm ⟨p.1, ⟨p.2.next + ops.toList.length, p.2.tr⟩, s.marks⟩
     | none => (sShut cfg rows (cfg.shut f (preShut id)) s.ts s.h).bind fun p => sym cfg f0 n (rowsUp s.h p.2 rows) res (.ops f id draw ops.toList p.2.next ops.toList p.2.next :: k) .norm ⟨p.1, ⟨p.2.next + ops.toList.length, p.2.tr⟩, s.marks⟩
    | .seq a b => sym cfg f0 n rows res (.code f rd a :: .code f rd b :: k) .norm s
    | .cond x a b => (Dt.lift (ev s.ts x)).bind fun v => match v with
     | .t p => match p with
      | .bool t => match x with
       | .tmp d => cond (res.contains d) (cond t (sym cfg f0 n rows res (.code f rd a :: k) .norm s) (sym cfg f0 n rows res (.code f rd b :: k) .norm s))
         (.ite t (sym cfg f0 n rows res (.code f rd a :: k) .norm s) (sym cfg f0 n rows res (.code f rd b :: k) .norm s))
       | _ => cond t (sym cfg f0 n rows res (.code f rd a :: k) .norm s) (sym cfg f0 n rows res (.code f rd b :: k) .norm s)
      | _ => .fail
     | _ => .fail
    | .block id c => sym cfg f0 n rows res (.code f rd c :: .block id :: k) .norm s
    | .loop c => match mrOf c with
     | none => (sResetAt cfg rows f c s.h.next s).bind fun s' => .ret (.tail (canonRows rows s'.h) (.loop f rd c :: k) s')
     | some _ => .ret (.tail (canonRows rows s.h) (.code f rd (.loop c) :: k) s)
    | .rangeFunc fo ps asg bd => (Dt.lift (ev s.ts fo)).bind fun fv => (Dt.lift (tgtOf fv)).bind fun p => match p with
     | (.fn g, a, b) => match cfg.mode g with
      | .shared => (Dt.lift (cfg.code g)).bind fun fn => (Dt.lift fn.body).bind fun cd =>
       let pre : Heap := if rd.isSome then s.h else s.h.push (.defer true)
       let marks := if rd.isSome then s.marks else s.h.next :: s.marks
       cond (inLoop rd s.h && Nat.ble (a ++ [V.yld pre.next] ++ b).length fn.ntmps)
        (sym cfg f0 n rows [] (.code g none cd :: .over g pre.next s.ts marks :: k) .norm ⟨setArgs (Tm.blank undefV fn.ntmps) 0 (a ++ [V.yld pre.next] ++ b), pre.push (.loop .ready none f s.ts ps.toList asg bd), []⟩) .fail
      | _ => .fail
     | _ => .fail
    | .exit id => sym cfg f0 n rows res k (.exit id) s
    | .scope c => sym cfg f0 n rows res (.code f rd c :: k) .norm s
    | .label _ => sym cfg f0 n rows res k .norm s
    | .ret => sym cfg f0 n rows res k .ret s
    | _ => .fail
   | .ret => sym cfg f0 n rows res k .ret s
   | .exit j => sym cfg f0 n rows res k (.exit j) s
  | .loop f rd c :: k => match o with
   | .norm => .ret (.tail (canonRows rows s.h) (.loop f rd c :: k) s)
   | .ret => sym cfg f0 n rows res k .ret s
   | .exit j => sym cfg f0 n rows res k (.exit j) s
  | .round f rd c n0 :: k => match o with
   | .norm => (sResetAt cfg rows f c n0 s).bind fun s' => .ret (.tail (canonRows rows s'.h) (.loop f rd c :: k) s')
   | .ret => sym cfg f0 n rows res k .ret s
   | .exit j => sym cfg f0 n rows res k (.exit j) s
  | .block id :: k => sym cfg f0 n rows res k (inBlock id o) s
  | .ret g d ts marks :: k => (Dt.lift (endCall cfg g o s)).bind fun p => sym cfg f0 n rows res k .norm ⟨setDst ts d p.1, p.2, marks⟩
  | .over g l ts marks :: k => (Dt.lift (endCall cfg g o s)).bind fun p => (Dt.lift (endRange l ts marks p.2)).bind fun q => sym cfg f0 n rows res k q.1 q.2
  | .busy l :: k => match o with
   | .norm => (Dt.lift (beginRound l s)).bind fun s' => sym cfg f0 n rows res k .norm s'
   | _ => .fail
  | .yend f l bd n0 d ts marks :: k => (sEndRound cfg rows f l bd n0 o s).bind fun p => sym cfg f0 n rows (match d with | some t => [t] | none => []) k .norm ⟨setDst ts d p.1, p.2, marks⟩
  | .ops f id draw ops base rest slot :: k => match o with
   | .norm => match rest with
    | [] => (sShut cfg rows (cfg.shut f id) s.ts s.h).bind fun p => sym cfg f0 n (rowsUp s.h p.2 rows) res k .norm ⟨p.1, p.2, s.marks⟩
    | o1 :: rest =>
     symGuard cfg (sym cfg f0 n) rows res f id draw ops base o1 rest slot k s
   | _ => .fail
  | .opsP f id l lay ops base rest slot :: k => match o with
   | .norm => match rest with
    | [] => (sShut cfg rows (cfg.shut f id) s.ts s.h).bind fun p => sym cfg f0 n (rowsUp s.h p.2 rows) res k .norm ⟨p.1, p.2, s.marks⟩
    | o1 :: rest => symGuardP cfg (sym cfg f0 n) rows res f id l lay ops base o1 rest slot k s
   | _ => .fail
def symRound (cfg : Cfg) (f0 : FuncId) (n : Nat) (rows : List Nat) (k : List Kt) (s : St) : Dt Leaf :=
 match k with
 | .loop f rd c :: k => sym cfg f0 n rows [] (.code f rd c :: .round f rd c s.h.next :: k) .norm s
 | _ => .fail
def symFn (cfg : Cfg) (f0 : FuncId) (n : Nat) (xs : List T) : Dt Leaf :=
 (Dt.lift (cfg.code f0)).bind fun fn => (Dt.lift fn.body).bind fun cd => cond (Nat.ble xs.length fn.ntmps && (match cfg.prim f0 with | none => true | some _ => false) && (rowMode f0).isNone)
  (sym cfg f0 n [] [] [.code f0 none cd] .norm ⟨setArgs (Tm.blank undefV fn.ntmps) 0 (xs.map .t), .empty, []⟩) .fail
def symRow (cfg : Cfg) (f0 : FuncId) (n : Nat) (xs : List T) : Dt Leaf :=
 (Dt.lift (cfg.code f0)).bind fun fn => (Dt.lift fn.body).bind fun cd => cond (Nat.ble xs.length fn.ntmps)
  (sym cfg (Nat.add f0 1000) n [] [] [.code f0 none cd] .norm ⟨setArgs (Tm.blank undefV fn.ntmps) 0 (xs.map .t), .empty, []⟩) .fail
def leafO (cfg : Cfg) (f0 : FuncId) : Leaf -> Option T
 | .val x => some x
 | .tail _ k s => runO cfg (pureFin cfg f0) k s
def outR (cfg : Cfg) (f0 : FuncId) : Dt Leaf -> Option T
 | .ret l => leafO cfg f0 l
 | .fail => none
 | .ite c a b => cond c (outR cfg f0 a) (outR cfg f0 b)
 | .chk c k => cond c (outR cfg f0 k) none
 | .opt _ o k => o.bind fun x => outR cfg f0 (k x)
def outO (cfg : Cfg) (f0 : FuncId) (d : Dt Leaf) : Option T := d.den.bind (leafO cfg f0)
end
end Go.Apex

namespace Go.Apex
open Go
section
variable {cfg : Cfg} {f0 : FuncId} {rows : List Nat} {h : Heap} {ts : Ts}
theorem sShutOne_ok {d : Tmp} {p : Ts × Heap} (hq : (sShutOne rows ts h d).den = some p) : shutOne ts h d = some p := by
 unfold sShutOne at hq
 unfold shutOne
 split at hq
 . rename_i id g off sh hd
   rw [hd]
   simp only
   split at hq
   . rename_i g' e fz cs ho
     rw [ho]
     simp only
     cases hr : rows.contains id with
     | true => rw [hr] at hq; cases hq
     | false =>
      rw [hr] at hq
      simp only [cond_false] at hq
      cases hg : Nat.beq g g' with
      | false =>
       rw [hg] at hq
       cases hq
       rw [if_neg (fun e => by subst e; rw [Nat.beq_refl] at hg; cases hg)]
      | true =>
       rw [hg] at hq
       rw [if_pos (beq_eq hg)]
       simp only [cond_true] at hq
       cases sh with
       | none =>
        simp only at hq
        split at hq
        . rename_i x hx
          obtain ⟨h1, h2⟩ := Dt.chk_some hq
          cases h2
          have h1 : x.one = true := h1
          simp only [flatAt, hx, oS, toT, h1, if_true]
        . rename_i hx
          cases hq
          have : flatAt cs off none = none := by
           unfold flatAt
           cases hc : cs[off]? with
           | none => rfl
           | some v =>
            cases v <;> first | rfl | exact absurd hc (hx _)
          rw [this]
       | some k =>
        obtain ⟨hk, h2⟩ := cond_den hq
        simp only [flatAt, if_pos (Nat.le_of_ble_eq_true hk)]
        split at h2
        . rename_i xs hx
          cases h2
          rw [hx]; rfl
        . rename_i hx
          cases h2
          rw [hx]; rfl
   . rename_i ho
     cases hq
     split
     . rename_i h1; exact absurd h1 (ho _ _ _ _)
     . rfl
 . rename_i id g off len sh hd
   rw [hd]
   simp only
   split at hq
   . rename_i g' e fz cs ho
     rw [ho]
     simp only
     obtain ⟨h1, h2⟩ := Dt.chk_some hq
     rw [if_pos (beq_eq h1)]
     obtain ⟨x, hx, h3⟩ := Dt.opt_some h2
     cases h3
     have hx : rowTree sh cs off len = some x := hx
     rw [hx]
   . rename_i ho
     cases hq
     split
     . rename_i h1; exact absurd h1 (ho _ _ _ _)
     . rfl
 . rename_i v hne hne2 hv
   cases v <;> first
    | (cases hq; simp only [hv]; done)
    | (exact absurd hv (hne _ _ _ _))
    | (exact absurd rfl (hne _ _ _ _))
    | (exact absurd hv (hne2 _ _ _ _ _))
    | (exact absurd rfl (hne2 _ _ _ _ _))
 . cases hq
theorem sShutOld_ok {d : Tmp} {p : Ts × Heap} (hq : (sShutOld rows ts h d).den = some p) : shutOld ts h d = some p := by
 unfold sShutOld at hq
 unfold shutOld
 cases hc : Nat.ble 100000 d with
 | false =>
  rw [hc] at hq
  cases hc2 : Nat.ble 50000 d with
  | true => rw [hc2] at hq; cases hq
  | false => rw [hc2] at hq; exact sShutOne_ok hq
 | true =>
  rw [hc] at hq
  simp only [cond_true] at hq ⊢
  unfold sUnrow at hq
  unfold unrow
  split at hq
  . rename_i id _ _ _ hd
    rw [hd]
    simp only
    split at hq
    . rename_i g' e fz cs ho
      rw [ho]
      simp only
      obtain ⟨hr, hq⟩ : rows.contains id = false /\ _ := by
       cases hr : rows.contains id with
       | true => rw [hr] at hq; cases hq
       | false => rw [hr] at hq; exact ⟨rfl, hq⟩
      simp only [cond_false] at hq
      split at hq
      . rename_i id2 g off len sh hk
        rw [hk]
        simp only
        split at hq
        . rename_i g2 e2 fz2 cs2 ho2
          rw [ho2]
          simp only
          cases hb : Nat.beq id id2 with
          | true => rw [hb] at hq; cases hq
          | false =>
           rw [hb] at hq
           obtain ⟨h1, h2⟩ := Dt.chk_some hq
           obtain ⟨x, hx, h3⟩ := Dt.opt_some h2
           cases h3
           have hx : rowTree sh cs2 off len = some x := hx
           rw [if_pos ⟨beq_eq h1, fun e => by subst e; rw [Nat.beq_refl] at hb; cases hb⟩, hx]
        . cases hq
      . rename_i y hk
        cases hq
        rw [hk]
      . cases hq
    . cases hq
  . rename_i x hd
    cases hq
    rw [hd]
  . cases hq
theorem sSpotAt_ok {sp : Spot} {p : Nat × Nat × Nat} (hq : (sSpotAt ts h sp).den = some p) : spotAt ts h sp = some p := by
 unfold sSpotAt at hq
 unfold spotAt
 cases hb : Nat.beq sp.k 9998 with
 | true =>
  rw [hb] at hq
  obtain ⟨v, hv, h1⟩ := Dt.lift_bind_some hq
  simp only [cond_true, hv, oS]
  split at h1
  . cases h1; rfl
  . cases h1
 | false =>
  rw [hb] at hq
  obtain ⟨v, hv, h1⟩ := Dt.lift_bind_some hq
  simp only [cond_false, hv, oS]
  split at h1
  . obtain ⟨u, hu, h2⟩ := Dt.lift_bind_some h1
    obtain ⟨i, hi, h3⟩ := Dt.bind_some h2
    obtain ⟨h4, h5⟩ := Dt.chk_some h3
    cases h5
    rw [hu]
    unfold sInd at hi
    split at hi
    . split at hi
      . cases hi
        simp only [oS, asI, h4, cond_true]
      . cases hi
    . cases hi
  . cases h1
theorem sNestRow_ok {v : V} {h' : Heap} (hq : (sNestRow h v).den = some h') : nestRow h v = some h' := by
 unfold sNestRow at hq
 unfold nestRow
 split at hq
 . split at hq
   . rename_i ho
     obtain ⟨h1, h2⟩ := Dt.chk_some hq
     cases h2
     have h1 : Nat.beq _ _ = true := h1
     simp only [ho, h1, cond_true]; rfl
   . rename_i ho
     cases hq
     simp only [ho]
   . cases hq
 . cases hq; rfl
 . cases hq
theorem sOpenAt_ok {e2 id gen c : Nat} {h' : Heap} (hq : (sOpenAt cfg e2 id gen c h).den = some h') : openAt id gen c h = some h' := by
 unfold sOpenAt at hq
 unfold openAt nestCells
 split at hq
 . rename_i g e cs ho
   obtain ⟨h1, h2⟩ := Dt.chk_some hq
   have h1 : Nat.beq g gen = true := h1
   simp only [ho, h1, cond_true, oS]
   simp only [Dt.den] at h2
   cases hi : isOwn cs c with
   | true =>
    rw [hi] at h2
    obtain ⟨j, hj, h3⟩ := Dt.lift_bind_some h2
    obtain ⟨xs, hx, h4⟩ := Dt.opt_some h3
    cases h4
    unfold ownX at hx
    split at hx
    . rename_i e' sh' xs' hc
      split at hx
      . rename_i he
        obtain ⟨rfl, rfl⟩ := he
        cases hx
        rw [hc]; rfl
      . cases hx
    . cases hx
   | false =>
    rw [hi] at h2
    obtain ⟨h3, h4⟩ := Dt.chk_some (show (Dt.chk (isVal cs c) (.ret h)).den = some h' from h2)
    cases h4
    unfold isVal at h3
    split at h3
    . rename_i x hc; rw [hc]
    . cases h3
 . cases hq
theorem sFreezeAt_ok {id gen c n : Nat} {h' : Heap} (hq : (sFreezeAt id gen c n h).den = some h') : freezeAt id gen c n h = some h' := by
 unfold sFreezeAt at hq
 unfold freezeAt nestCells
 split at hq
 . rename_i g e cs ho
   obtain ⟨h1, h2⟩ := Dt.chk_some hq
   obtain ⟨h3, h4⟩ := Dt.chk_some h2
   cases h4
   have h1 : Nat.beq g gen = true := h1
   have h3 : Nat.ble (c + n) cs.length = true := Nat.ble_eq_true_of_le (of_decide_eq_true h3)
   simp only [ho, h1, cond_true, oS, h3]; rfl
 . cases hq
theorem sCloseCells_ok {id : Nat} : ∀ {fs : List V} {h : Heap} {p : List C × Heap}, (sCloseCells id fs h).den = some p -> closeCells id fs h = some p
 | [], h, p, hq => by cases hq; rfl
 | v :: fs, h, p, hq => by
  unfold sCloseCells at hq
  cases v with
  | t x =>
   obtain ⟨q, h1, h2⟩ := Dt.bind_some hq
   cases h2
   simp only [closeCells, sCloseCells_ok h1, Option.map_some]
  | msl id2 g2 off len sh =>
   simp only at hq
   cases hb : Nat.beq id id2 with
   | true => rw [hb] at hq; cases hq
   | false =>
    rw [hb] at hq
    simp only [cond_false] at hq
    split at hq
    . rename_i g e cs ho
      obtain ⟨h1, h2⟩ := Dt.chk_some hq
      obtain ⟨xs, hx, h3⟩ := Dt.opt_some h2
      obtain ⟨q, h4, h5⟩ := Dt.bind_some h3
      cases h5
      have h1 : Nat.beq g g2 = true := h1
      have hx : rowOf sh cs off len = some xs := hx
      simp only [closeCells, hb, cond_false, ho, h1, cond_true, hx, oS, sCloseCells_ok h4, Option.map_some]
    . cases hq
  | _ => cases hq
theorem sCloseRow_ok {v : V} {h' : Heap} (hq : (sCloseRow h v).den = some h') : closeRow h v = some h' := by
 unfold sCloseRow at hq
 unfold closeRow
 split at hq
 . split at hq
   . rename_i ho
     simp only [ho]
     split at hq
     . obtain ⟨q, h1, h2⟩ := Dt.bind_some hq
       cases h2
       simp only [sCloseCells_ok h1, Option.map_some]; rfl
     . cases hq; rfl
   . cases hq
 . split at hq
   . rename_i ho
     simp only [ho]
     split at hq
     . obtain ⟨q, h1, h2⟩ := Dt.bind_some hq
       cases h2
       simp only [sCloseCells_ok h1, Option.map_some]; rfl
     . cases hq; rfl
   . cases hq
 . cases hq; rfl
 . cases hq
theorem sShutNest_ok {k : Nat} {sp : Spot} {h' : Heap} (hq : (sShutNest cfg k sp ts h).den = some h') : shutNest k sp ts h = some h' := by
 unfold sShutNest at hq
 unfold shutNest
 cases h1 : Nat.beq k 1 with
 | true =>
  rw [h1] at hq
  obtain ⟨v, hv, h2⟩ := Dt.lift_bind_some hq
  simp only [cond_true, hv, oS, sNestRow_ok h2]
 | false =>
  rw [h1] at hq
  cases h3 : Nat.beq k 3 with
  | true =>
   rw [h3] at hq
   obtain ⟨v, hv, h2⟩ := Dt.lift_bind_some hq
   simp only [cond_true, cond_false, hv, oS, sCloseRow_ok h2]
  | false =>
   rw [h3] at hq
   simp only [cond_false] at hq ⊢
   obtain ⟨p, hp, h4⟩ := Dt.bind_some hq
   simp only [sSpotAt_ok hp, oS]
   cases h2 : Nat.beq k 2 with
   | true => rw [h2] at h4; exact sOpenAt_ok h4
   | false => rw [h2] at h4; exact sFreezeAt_ok h4
theorem sShutAny_ok {d : Tmp} {p : Ts × Heap} (hq : (sShutAny cfg rows ts h d).den = some p) : shutAny ts h d = some p := by
 unfold sShutAny at hq
 unfold shutAny
 cases hb : Nat.ble nestNo d with
 | true =>
  rw [hb] at hq
  obtain ⟨h1, h2, h3⟩ := Dt.bind_some hq
  cases h3
  simp only [cond_true, sShutNest_ok h2, Option.map_some]
 | false => rw [hb] at hq; exact sShutOld_ok hq
theorem sShut_ok : ∀ {ds : List Tmp} {rows : List Nat} {ts : Ts} {h : Heap} {p : Ts × Heap}, (sShut cfg rows ds ts h).den = some p -> shutAll ds ts h = some p
 | [], rows, ts, h, p, hq => by cases hq; rfl
 | d :: ds, rows, ts, h, p, hq => by
  unfold sShut at hq
  obtain ⟨q, h1, h2⟩ := Dt.bind_some hq
  simp only [shutAll, sShutAny_ok h1, oS]
  exact sShut_ok h2
theorem sAllBd_ok {n1 : Nat} {t : Tm Obj} : ∀ {k n : Nat} {u : Unit}, (sAllBd rows n1 t n k).den = some u -> allObjs (Obj.bd n1) t n k = true
 | 0, _, _, _ => rfl
 | k + 1, n, u, hq => by
  unfold sAllBd at hq
  unfold allObjs
  split at hq
  . rename_i g e cs fc ho
    rw [ho]
    obtain ⟨h1, h2⟩ := Dt.chk_some hq
    have h1 : Obj.bd n1 (.nest g e cs fc) = true := h1
    simp only [h1, sAllBd_ok h2, Bool.and_self]
  . rename_i o _ ho
    rw [ho]
    cases hr : rows.contains n with
    | true =>
     rw [hr] at hq
     obtain ⟨h1, h2⟩ := Dt.chk_some hq
     have h1 : Obj.bd n1 o = true := h1
     simp only [h1, sAllBd_ok h2, Bool.and_self]
    | false =>
     rw [hr] at hq
     simp only [cond_false] at hq
     obtain ⟨h1, h2⟩ := cond_den hq
     simp only [h1, sAllBd_ok h2, Bool.and_self]
  . rename_i ho
    rw [ho]
    simp only [sAllBd_ok hq, Bool.and_self]
theorem sResetH_ok {n0 : Nat} {ids : List Nat} {h' : Heap} (hq : (sResetH rows n0 ids h).den = some h') : resetH n0 ids h = some h' := by
 unfold sResetH at hq
 obtain ⟨h1, h2⟩ := cond_den hq
 obtain ⟨u, h3, h4⟩ := Dt.bind_some h2
 cases h4
 unfold resetH
 exact if_pos ⟨Nat.le_of_ble_eq_true h1, sAllBd_ok h3⟩
theorem sResetAt_ok {f : FuncId} {c : Code} {n0 : Nat} {s s' : St} (hq : (sResetAt cfg rows f c n0 s).den = some s') : resetAt cfg f c n0 s = some s' := by
 unfold sResetAt at hq
 unfold resetAt
 split at hq
 . rename_i hk; cases hq; rw [hk]
 . rename_i ks hk
   rw [hk]
   unfold sReset at hq
   obtain ⟨h1, h2, h3⟩ := Dt.bind_some hq
   obtain ⟨h4, h5⟩ := cond_den h3
   cases h5
   simp only [reset, sResetH_ok h2, oS, h4, if_true]
theorem sResetRound_ok {f : FuncId} {c : Code} {n0 : Nat} {h' : Heap} (hq : (sResetRound cfg rows f c n0 ts h).den = some h') : resetRound cfg f c n0 ts h = some h' := by
 unfold sResetRound at hq
 unfold resetRound
 split at hq
 . rename_i hk; rw [hk]; cases hq; rfl
 . rename_i ks hk; rw [hk]; exact sResetH_ok hq
theorem sEndRound_ok {f : FuncId} {l : Nat} {bd : Code} {n0 : Nat} {o : Out} {s : St} {p : V × Heap} (hq : (sEndRound cfg rows f l bd n0 o s).den = some p) : endRound cfg f l bd n0 o s = some p := by
 unfold sEndRound at hq
 unfold endRound
 split at hq
 . rename_i ho
   rw [ho]
   obtain ⟨h', h1, h2⟩ := Dt.map_some hq
   cases o <;>
   . simp only at h1 h2 ⊢
     rw [sResetRound_ok h1]
     exact congrArg some h2
 . cases hq
theorem out_bind {α : Type} {d : Dt α} {g : α -> Dt Leaf} {r : T} (hq : outO cfg f0 (d.bind g) = some r) : ∃ a, d.den = some a /\ outO cfg f0 (g a) = some r := by
 unfold outO at hq ⊢
 rw [Dt.den_bind] at hq
 cases hd : d.den with
 | none => rw [hd] at hq; cases hq
 | some a => rw [hd] at hq; exact ⟨a, rfl, hq⟩
theorem out_lift {α : Type} {o : Option α} {g : α -> Dt Leaf} {r : T} (hq : outO cfg f0 ((Dt.lift o).bind g) = some r) : ∃ a, o = some a /\ outO cfg f0 (g a) = some r := by
 obtain ⟨a, h1, h2⟩ := out_bind hq
 rw [Dt.den_lift] at h1
 exact ⟨a, h1, h2⟩
theorem out_ite {c : Bool} {a b : Dt Leaf} {r : T} (hq : outO cfg f0 (.ite c a b) = some r) : outO cfg f0 (cond c a b) = some r := by
 cases c <;> exact hq
theorem out_fail {r : T} (hq : outO cfg f0 (.fail : Dt Leaf) = some r) : False := by cases hq
theorem out_cond {c : Bool} {a : Dt Leaf} {r : T} (hq : outO cfg f0 (bif c then a else .fail) = some r) : c = true /\ outO cfg f0 a = some r := by
 cases c with
 | true => exact ⟨rfl, hq⟩
 | false => cases hq
section
variable {nx : Nx} (ih : ∀ (rows : List Nat) (res : List Tmp) (k : List Kt) (o : Out) (s : St) (r : T), outO cfg f0 (nx rows res k o s) = some r -> Run cfg (pureFin cfg f0) k o s r)
 {rows : List Nat} {res : List Tmp} {f : FuncId} {id : Nat} {draw : Bool} {ops : List Oper} {base : Nat} {o1 : Oper} {rest : List Oper} {slot : Nat} {k : List Kt} {s : St} {r : T}
include ih
theorem symSkip_ok (hw : wantedV ops s.ts o1 = some false) (hq : outO cfg f0 (symSkip nx rows res f id draw ops base o1 rest slot k s) = some r) : Run cfg (pureFin cfg f0) (.ops f id draw ops base (o1 :: rest) slot :: k) .norm s r := by
 refine run_ops_step ⟨0, ?_⟩ (ih _ _ _ _ _ _ hq)
 simp only [stepOp, hw, oS, cond_false]
theorem symGo_ok (hw : wantedV ops s.ts o1 = some true) {kd : Tk} (hk : opKind cfg s.ts o1.op = kd) (hq : outO cfg f0 (symGo cfg nx rows res f id draw ops base o1 rest slot k s kd) = some r) : Run cfg (pureFin cfg f0) (.ops f id draw ops base (o1 :: rest) slot :: k) .norm s r := by
 cases kd with
 | plain =>
  simp only [symGo] at hq
  cases hl : (isLoud cfg o1 && !quietApp draw (cfg.imm f) ops o1) <;> rw [hl] at hq
  . simp only [cond_false] at hq
    obtain ⟨⟨v, ob⟩, h1, h2⟩ := out_bind hq
    obtain ⟨m, hm⟩ := sQuietF_ok h1
    refine run_ops_step ⟨m, ?_⟩ (ih _ _ _ _ _ _ h2)
    simp only [stepOp, hw, oS, cond_true, hl, cond_false, hm, Option.map_some]
  . simp only [cond_true] at hq
    obtain ⟨⟨v, h'⟩, h1, h2⟩ := out_bind hq
    obtain ⟨r0, h0, h1⟩ := Dt.bind_some h1
    obtain ⟨m, hm⟩ := sLoud_ok h0
    refine run_ops_step ⟨m, ?_⟩ (ih _ _ _ _ _ _ h2)
    simp only [stepOp, hw, oS, cond_true, hl, hm, sFrzL_ok h1, Option.map_some]
 | inline g a b =>
  simp only [symGo] at hq
  obtain ⟨vs, hvs, h1⟩ := out_lift hq
  split at h1
  . rename_i hg
    obtain ⟨p, hp, h3⟩ := out_lift h1
    obtain ⟨hc, h4⟩ := out_cond h3
    have hc' := hc
    simp only [Bool.and_eq_true] at hc
    have hc1 : (isLoud cfg o1 && !quietApp draw (cfg.imm f) ops o1) = true := by simp only [Bool.and_eq_true]; exact hc.1
    have hfz : snapAt (cfg.imm f) o1 = false := by simpa using hc.2
    unfold opKind at hk
    split at hk
    . rename_i c ho
      have hvs' : mapO (ev s.ts) c.args.toList = some vs := by rw [ho] at hvs; exact hvs
      split at hk
      . rename_i g' hcal
        split at hk
        . rename_i hm
          cases hk
          exact run_ops_chk (fv := .t (.fn (.func g) [] [])) hw ho hcal rfl rfl hvs' hm hc1 hfz hg hp (ih _ _ _ _ _ _ h4)
        . cases hk
      . rename_i fo _ hcal
        split at hk
        . rename_i g' a' b' hev
          split at hk
          . rename_i hm
            cases hk
            exact run_ops_chk hw ho hcal hev rfl hvs' hm hc1 hfz hg hp (ih _ _ _ _ _ _ h4)
          . cases hk
        . cases hk
        . cases hk
      . cases hk
    . cases hk
  . rename_i fn hg
    obtain ⟨cd, hb, h3⟩ := out_lift h1
    obtain ⟨hc, h4⟩ := out_cond h3
    have hc' := hc
    simp only [Bool.and_eq_true] at hc
    have hc1 : (isLoud cfg o1 && !quietApp draw (cfg.imm f) ops o1) = true := by simp only [Bool.and_eq_true]; exact hc.1.1
    have hfz : snapAt (cfg.imm f) o1 = false := by simpa using hc.1.2
    unfold opKind at hk
    split at hk
    . rename_i c ho
      have hvs' : mapO (ev s.ts) c.args.toList = some vs := by rw [ho] at hvs; exact hvs
      split at hk
      . rename_i g' hcal
        split at hk
        . rename_i hm
          cases hk
          exact run_ops_call (fv := .t (.fn (.func g) [] [])) hw ho hcal rfl rfl hvs' hm hc1 hfz hg hb (Nat.le_of_ble_eq_true hc.2) (ih _ _ _ _ _ _ h4)
        . cases hk
      . rename_i fo _ hcal
        split at hk
        . rename_i g' a' b' hev
          split at hk
          . rename_i hm
            cases hk
            exact run_ops_call hw ho hcal hev rfl hvs' hm hc1 hfz hg hb (Nat.le_of_ble_eq_true hc.2) (ih _ _ _ _ _ _ h4)
          . cases hk
        . cases hk
        . cases hk
      . cases hk
    . cases hk
 | yield l =>
  simp only [symGo] at hq
  obtain ⟨vs, hvs, h1⟩ := out_lift hq
  split at h1
  . rename_i st0 pend0 f1 ts1 ps asg bd hob
    obtain ⟨ts0, hps, h2⟩ := out_lift h1
    obtain ⟨hc0, h4⟩ := out_cond h2
    have hc0' := hc0
    simp only [Bool.and_eq_true] at hc0'
    have hc1 : (isLoud cfg o1 && !quietApp draw (cfg.imm f) ops o1) = true := by simp only [Bool.and_eq_true]; exact hc0'.1
    have hfz : snapAt (cfg.imm f) o1 = false := by simpa using hc0'.2
    unfold opKind at hk
    split at hk
    . rename_i c ho
      have hvs' : mapO (ev s.ts) c.args.toList = some vs := by rw [ho] at hvs; exact hvs
      split at hk
      . split at hk <;> cases hk
      . rename_i fo _ hcal
        split at hk
        . split at hk <;> cases hk
        . rename_i l' hev
          cases hk
          exact run_ops_yield (a := []) (b := []) hw ho hcal hev rfl hvs' hc1 hfz hob (by simpa using hps) (ih _ _ _ _ _ _ h4)
        . cases hk
      . cases hk
    . cases hk
  . exact (out_fail h1).elim
theorem symGuard_ok (hq : outO cfg f0 (symGuard cfg nx rows res f id draw ops base o1 rest slot k s) = some r) : Run cfg (pureFin cfg f0) (.ops f id draw ops base (o1 :: rest) slot :: k) .norm s r := by
 unfold symGuard at hq
 split at hq
 . rename_i hg
   exact symGo_ok ih (by unfold wantedV; rw [hg]) rfl hq
 . rename_i j want hg
   split at hq
   . rename_i t hd
     split at hq
     . rename_i p ht
       split at hq
       . rename_i b
         have hw : wantedV ops s.ts o1 = some (b == want) := by
          unfold wantedV
          rw [hg]
          simp only [hd, oS, ht]
         cases hr : res.contains t with
         | true =>
          rw [hr] at hq
          simp only [cond_true] at hq
          cases hb : (b == want) with
          | true => rw [hb] at hq hw; exact symGo_ok ih hw rfl hq
          | false => rw [hb] at hq hw; exact symSkip_ok ih hw hq
         | false =>
          rw [hr] at hq
          simp only [cond_false] at hq
          have h1 := out_ite hq
          have hs : ∀ b', b = b' -> (⟨s.ts.upd (.t (.bool b')) t, s.h, s.marks⟩ : St) = s := by
           rintro _ rfl
           rw [Tm.upd_self ht]
          cases hb : b with
          | true =>
           rw [hb] at h1
           have := ih _ _ _ _ _ _ h1
           rwa [hs true hb] at this
          | false =>
           rw [hb] at h1
           have := ih _ _ _ _ _ _ h1
           rwa [hs false hb] at this
       . refine symSkip_ok ih ?_ hq
         unfold wantedV
         rw [hg]
         simp only [hd, oS, ht]
       . exact (out_fail hq).elim
     . exact (out_fail hq).elim
   . exact (out_fail hq).elim
theorem symSkipP_ok {l : List Nat} {lay : List Tmp} (hw : wantedV ops s.ts o1 = some false) (hq : outO cfg f0 (symSkipP nx rows res f id l lay ops base o1 rest slot k s) = some r) : Run cfg (pureFin cfg f0) (.opsP f id l lay ops base (o1 :: rest) slot :: k) .norm s r := by
 refine run_opsP_step ⟨0, ?_⟩ (ih _ _ _ _ _ _ hq)
 simp only [stepP, hw, oS, cond_false]
theorem symGoP_ok {l : List Nat} {lay : List Tmp} (hw : wantedV ops s.ts o1 = some true) (hq : outO cfg f0 (symGoP cfg nx rows res f id l lay ops base o1 rest slot k s) = some r) : Run cfg (pureFin cfg f0) (.opsP f id l lay ops base (o1 :: rest) slot :: k) .norm s r := by
 unfold symGoP at hq
 cases hl : (isLoud cfg o1 && !quietApp true (cfg.imm f) ops o1) <;> rw [hl] at hq
 . simp only [cond_false] at hq
   obtain ⟨⟨v, ob⟩, h1, h2⟩ := out_bind hq
   obtain ⟨hc, h2⟩ := out_cond h2
   obtain ⟨m, hm⟩ := sQuietF_ok h1
   refine run_opsP_step ⟨m, ?_⟩ (ih _ _ _ _ _ _ h2)
   simp only [stepP, hw, oS, cond_true, hl, cond_false, hm, hc]
 . simp only [cond_true] at hq
   obtain ⟨⟨v, h'⟩, h1, h2⟩ := out_bind hq
   obtain ⟨hc, h2⟩ := out_cond h2
   obtain ⟨r0, h0, h1⟩ := Dt.bind_some h1
   obtain ⟨m, hm⟩ := sLoud_ok h0
   refine run_opsP_step ⟨m, ?_⟩ (ih _ _ _ _ _ _ h2)
   have hc' : (!guardD lay o1 || appFree l s.ts o1 || prOK l s.h h') = true := by rw [hc]; rfl
   simp only [stepP, hw, oS, cond_true, hl, hm, sFrzL_ok h1, hc']
theorem symGuardP_ok {l : List Nat} {lay : List Tmp} (hq : outO cfg f0 (symGuardP cfg nx rows res f id l lay ops base o1 rest slot k s) = some r) : Run cfg (pureFin cfg f0) (.opsP f id l lay ops base (o1 :: rest) slot :: k) .norm s r := by
 unfold symGuardP at hq
 split at hq
 . rename_i hg
   exact symGoP_ok ih (by unfold wantedV; rw [hg]) hq
 . rename_i j want hg
   split at hq
   . rename_i t hd
     split at hq
     . rename_i p ht
       split at hq
       . rename_i b
         have hw : wantedV ops s.ts o1 = some (b == want) := by
          unfold wantedV
          rw [hg]
          simp only [hd, oS, ht]
         cases hr : res.contains t with
         | true =>
          rw [hr] at hq
          simp only [cond_true] at hq
          cases hb : (b == want) with
          | true => rw [hb] at hq hw; exact symGoP_ok ih hw hq
          | false => rw [hb] at hq hw; exact symSkipP_ok ih hw hq
         | false =>
          rw [hr] at hq
          simp only [cond_false] at hq
          have h1 := out_ite hq
          have hs : ∀ b', b = b' -> (⟨s.ts.upd (.t (.bool b')) t, s.h, s.marks⟩ : St) = s := by
           rintro _ rfl
           rw [Tm.upd_self ht]
          cases hb : b with
          | true =>
           rw [hb] at h1
           have := ih _ _ _ _ _ _ h1
           rwa [hs true hb] at this
          | false =>
           rw [hb] at h1
           have := ih _ _ _ _ _ _ h1
           rwa [hs false hb] at this
       . refine symSkipP_ok ih ?_ hq
         unfold wantedV
         rw [hg]
         simp only [hd, oS, ht]
       . exact (out_fail hq).elim
     . exact (out_fail hq).elim
   . exact (out_fail hq).elim
end
theorem sEncRow_ok {p : V × Heap} {x : T} (hq : (sEncRow p).den = some x) : encRow p = some x := by
 unfold sEncRow at hq
 unfold encRow
 split at hq
 . rename_i y hy; rw [hy]; exact hq
 . rename_i id gen off len sh hv
   rw [hv]
   simp only
   split at hq
   . rename_i g e cs ho
     rw [ho]
     simp only
     cases hg : Nat.beq g gen <;> rw [hg] at hq
     . cases hq
     . simp only [Dt.den, cond_true] at hq ⊢
       cases ha : allT cs with
       | none => rw [ha] at hq; cases hq
       | some xs => rw [ha] at hq; exact hq
   . cases hq
 . rename_i vs hv
   rw [hv]
   simp only
   obtain ⟨k, hk, hq⟩ := Dt.lift_bind_some hq
   rw [hk]
   simp only [oS]
   split at hq
   . rename_i id gen off len sh hvk
     rw [hvk]
     simp only
     obtain ⟨xs, hx, hq⟩ := Dt.lift_bind_some hq
     rw [hx]
     simp only [oS]
     split at hq
     . rename_i g e cs ho
       rw [ho]
       simp only
       obtain ⟨hg, hq⟩ := Dt.chk_some hq
       obtain ⟨ys, hy, hq⟩ := Dt.opt_some hq
       cases hq
       rw [hg, hy]
       rfl
     . cases hq
   . cases hq
 . cases hq
theorem sym_ok : ∀ (n : Nat) (rows : List Nat) (res : List Tmp) (k : List Kt) (o : Out) (s : St) (r : T), outO cfg f0 (sym cfg f0 n rows res k o s) = some r -> Run cfg (pureFin cfg f0) k o s r
 | 0, _, _, _, _, _, _, hq => (out_fail hq).elim
 | n + 1, rows, res, k, o, s, r, hq => by
  have ih := sym_ok n
  unfold sym at hq
  split at hq
  . 
    split at hq
    . rename_i hrm
      obtain ⟨p, h1, h2⟩ := out_lift hq
      obtain ⟨x, h3, h4⟩ := out_bind h2
      cases h4
      refine run_nil ?_
      obtain ⟨v, h⟩ := p
      simp only [pureFin, hrm, h1, oS]
      exact sSnap_ok _ _ _ h3
    . rename_i g hrm
      obtain ⟨p, h1, h2⟩ := out_lift hq
      obtain ⟨x, h3, h4⟩ := out_bind h2
      cases h4
      refine run_nil ?_
      simp only [pureFin, hrm, h1, oS]
      exact sEncRow_ok h3
  . 
    rename_i f rd c k
    split at hq
    . split at hq
      . exact run_skip (ih _ _ _ _ _ _ hq)
      . split at hq
        . rename_i tl lay hpr
          obtain ⟨p, h1, h2⟩ := out_bind hq
          exact run_regionP hpr (sShut_ok h1) (ih _ _ _ _ _ _ h2)
        . rename_i hpr
          obtain ⟨p, h1, h2⟩ := out_bind hq
          exact run_region hpr (sShut_ok h1) (ih _ _ _ _ _ _ h2)
      . exact run_seq (ih _ _ _ _ _ _ hq)
      . rename_i x a b
        obtain ⟨v, hv, h1⟩ := out_lift hq
        split at h1
        . split at h1
          . rename_i t
            have key : outO cfg f0 (cond t (sym cfg f0 n rows res (.code f rd a :: k) .norm s) (sym cfg f0 n rows res (.code f rd b :: k) .norm s)) = some r -> Run cfg (pureFin cfg f0) (.code f rd (.cond x a b) :: k) .norm s r := by
             intro h2
             refine run_cond hv ?_
             cases t
             . exact ih _ _ _ _ _ _ h2
             . exact ih _ _ _ _ _ _ h2
            split at h1
            . rename_i d
              cases hd : res.contains d <;> rw [hd] at h1
              . exact key (out_ite h1)
              . exact key h1
            . exact key h1
          . exact (out_fail h1).elim
        . exact (out_fail h1).elim
      . exact run_block (ih _ _ _ _ _ _ hq)
      . split at hq
        . rename_i hm
          obtain ⟨s', h1, h2⟩ := out_bind hq
          exact run_loop hm (sResetAt_ok h1) (runO_some.1 h2)
        . exact runO_some.1 hq
      . rename_i fo ps asg bd
        obtain ⟨fv, hf, h1⟩ := out_lift hq
        obtain ⟨p, ht, h2⟩ := out_lift h1
        split at h2
        . rename_i g a b
          split at h2
          . rename_i hm
            obtain ⟨fn, hg, h3⟩ := out_lift h2
            obtain ⟨cd, hb, h4⟩ := out_lift h3
            obtain ⟨hc, h5⟩ := out_cond h4
            simp only [Bool.and_eq_true] at hc
            exact run_range hf ht hm hc.1 hg hb rfl rfl (Nat.le_of_ble_eq_true hc.2) (ih _ _ _ _ _ _ h5)
          . exact (out_fail h2).elim
        . exact (out_fail h2).elim
      . exact run_exit (ih _ _ _ _ _ _ hq)
      . exact run_scope (ih _ _ _ _ _ _ hq)
      . exact run_label (ih _ _ _ _ _ _ hq)
      . exact run_ret (ih _ _ _ _ _ _ hq)
      . exact (out_fail hq).elim
    . exact run_pass_code (by simp) (ih _ _ _ _ _ _ hq)
    . exact run_pass_code (by simp) (ih _ _ _ _ _ _ hq)
  . 
    split at hq
    . exact runO_some.1 hq
    . exact run_pass_loop (by simp) (ih _ _ _ _ _ _ hq)
    . exact run_pass_loop (by simp) (ih _ _ _ _ _ _ hq)
  . 
    split at hq
    . obtain ⟨s', h1, h2⟩ := out_bind hq
      exact run_round (sResetAt_ok h1) (runO_some.1 h2)
    . exact run_pass_round (by simp) (ih _ _ _ _ _ _ hq)
    . exact run_pass_round (by simp) (ih _ _ _ _ _ _ hq)
  . exact run_in_block (ih _ _ _ _ _ _ hq)
  . obtain ⟨p, h1, h2⟩ := out_lift hq
    exact run_retn h1 (ih _ _ _ _ _ _ h2)
  . obtain ⟨p, h1, h2⟩ := out_lift hq
    obtain ⟨q, h3, h4⟩ := out_lift h2
    exact run_over h1 h3 (ih _ _ _ _ _ _ h4)
  . split at hq
    . obtain ⟨s', h1, h2⟩ := out_lift hq
      exact run_busy h1 (ih _ _ _ _ _ _ h2)
    . exact (out_fail hq).elim
  . obtain ⟨p, h1, h2⟩ := out_bind hq
    exact run_yend (sEndRound_ok h1) (ih _ _ _ _ _ _ h2)
  . 
    rename_i f id draw ops base rest slot k
    split at hq
    . split at hq
      . obtain ⟨p, h1, h2⟩ := out_bind hq
        exact run_ops_nil (sShut_ok h1) (ih _ _ _ _ _ _ h2)
      . rename_i o1 rest
        exact symGuard_ok ih hq
    . exact (out_fail hq).elim
  . rename_i f id l lay ops base rest slot k
    split at hq
    . split at hq
      . obtain ⟨p, h1, h2⟩ := out_bind hq
        exact run_opsP_nil (sShut_ok h1) (ih _ _ _ _ _ _ h2)
      . exact symGuardP_ok ih hq
    . exact (out_fail hq).elim
theorem outR_eq : ∀ d : Dt Leaf, outR cfg f0 d = outO cfg f0 d
 | .ret l => rfl
 | .fail => rfl
 | .ite c a b => by cases c <;> simp only [outR, outO, Dt.den, cond_true, cond_false] <;> first | exact outR_eq a | exact outR_eq b
 | .chk c k => by cases c <;> simp only [outR, outO, Dt.den, cond_true, cond_false] <;> first | exact outR_eq k | rfl
 | .opt _ o k => by
  cases o with
  | none => rfl
  | some x => simp only [outR, outO, Dt.den, oS]; exact outR_eq (k x)
theorem symRound_ok {n : Nat} {rows : List Nat} {k : List Kt} {s : St} {r : T} (hq : outO cfg f0 (symRound cfg f0 n rows k s) = some r) : runO cfg (pureFin cfg f0) k s = some r := by
 unfold symRound at hq
 split at hq
 . exact runO_some.2 (run_iter (sym_ok _ _ _ _ _ _ _ hq))
 . exact (out_fail hq).elim
theorem round_of {n : Nat} {rows : List Nat} {k : List Kt} {s : St} {o : Option T} {r : T} (he : outR cfg f0 (symRound cfg f0 n rows k s) = o) (hq : o = some r) : runO cfg (pureFin cfg f0) k s = some r :=
 symRound_ok (by rw [<- outR_eq, he]; exact hq)
theorem rdr (rows : List Nat) {k : List Kt} {s : St} {o : Option T} {r : T} (hq : o = some r) (he : outR cfg f0 (symRound cfg f0 3000 rows k s) = o := by kernel_rfl) : runO cfg (pureFin cfg f0) k s = some r := round_of he hq
theorem rd {k : List Kt} {s : St} {o : Option T} {r : T} (hq : o = some r) (he : outR cfg f0 (symRound cfg f0 3000 [] k s) = o := by kernel_rfl) : runO cfg (pureFin cfg f0) k s = some r := round_of he hq
theorem symFn_ok {n : Nat} {xs : List T} {r : T} (hq : outO cfg f0 (symFn cfg f0 n xs) = some r) : fnO cfg f0 xs = some r := by
 unfold symFn at hq
 obtain ⟨fn, hg, h1⟩ := out_lift hq
 obtain ⟨cd, hb, h2⟩ := out_lift h1
 obtain ⟨hc, h3⟩ := out_cond h2
 simp only [Bool.and_eq_true] at hc
 have hp : cfg.prim f0 = none := by
  cases hp : cfg.prim f0 with
  | none => rfl
  | some g => rw [hp] at hc; simp at hc
 exact fn_run (by simpa using hc.2) hp hg hb (Nat.le_of_ble_eq_true hc.1.1) (sym_ok _ _ _ _ _ _ _ h3)
noncomputable def rowO (cfg : Cfg) (f : FuncId) (xs : List T) : Option T := (callO cfg f xs).bind encRow
theorem rowMode_add (f : FuncId) : rowMode (Nat.add f 1000) = some f := by
 unfold rowMode
 have h1 : Nat.ble 1000 (Nat.add f 1000) = true := Nat.ble_eq_true_of_le (Nat.le_add_left _ _)
 rw [h1]
 exact congrArg some (Nat.add_sub_cancel (n := f) (m := 1000))
theorem symRow_ok {n : Nat} {xs : List T} {r : T} (hq : outO cfg (Nat.add f0 1000) (symRow cfg f0 n xs) = some r) : rowO cfg f0 xs = some r := by
 unfold symRow at hq
 obtain ⟨fn, hg, h1⟩ := out_lift hq
 obtain ⟨cd, hb, h2⟩ := out_lift h1
 obtain ⟨hc, h3⟩ := out_cond h2
 obtain ⟨m, h⟩ := sym_ok _ _ _ _ _ _ _ h3
 obtain ⟨⟨o1, s1⟩, h4, h⟩ := oB.1 h
 have h5 : pureFin cfg (Nat.add f0 1000) o1 s1 = some r := by cases o1 <;> exact h
 unfold pureFin at h5
 rw [rowMode_add] at h5
 simp only [oB] at h5
 obtain ⟨p, h6, h7⟩ := h5
 have hcall : (env cfg (m + 1)).call (.fn f0) (xs.map .t) .empty = some p := by
  show callBody cfg (env cfg m) (.fn f0) (xs.map .t) .empty = _
  simp only [callBody, body, hg, oS, hb, List.length_map, if_pos (Nat.le_of_ble_eq_true hc), h4]
  simp only [endCall, hg, oS] at h6
  cases o1 <;> exact h6
 unfold rowO
 rw [callO_of hcall]
 exact h7
theorem row_of {n : Nat} {xs : List T} {o : Option T} {r : T} (he : outR cfg (Nat.add f0 1000) (symRow cfg f0 n xs) = o) (hq : o = some r) : rowO cfg f0 xs = some r :=
 symRow_ok (by rw [<- outR_eq, he]; exact hq)
theorem row_fresh {f : FuncId} {xs : List T} {e off len : Nat} {sh : Option Nat} {ys : List T} (hq : rowO cfg f xs = some (.tup [.nili, .int .i64 e, .int .i64 off, .int .i64 len, shT sh, .tup ys])) :
  ∃ p, callO cfg f xs = some p /\ treeV p.1 = false /\ ∀ flat, (flat = true \/ ys.all (·.scalar1) = true) -> freshRow flat e sh p = some (off, len, ys.map .t) := by
 unfold rowO at hq
 obtain ⟨p, h1, h2⟩ := oB.1 hq
 refine ⟨p, h1, ?_⟩
 unfold encRow at h2
 split at h2
 . cases h2
 . rename_i id gen o l sh' hv
   split at h2
   . rename_i g e' cs ho
     cases hg : Nat.beq g gen <;> rw [hg] at h2
     . cases h2
     . simp only [cond_true, oM, T.tup.injEq, List.cons.injEq, T.int.injEq, true_and, and_true] at h2
       obtain ⟨zs, hz, he, ho', hl, hs, rfl⟩ := h2
       have he : e' = e := Int.ofNat.inj he
       have ho' : o = off := Int.ofNat.inj ho'
       have hl : l = len := Int.ofNat.inj hl
       have hs : sh' = sh := by
        cases sh' with
        | none => cases sh with
         | none => rfl
         | some _ => cases hs
        | some x => cases sh with
         | none => cases hs
         | some y =>
          simp only [shT, T.int.injEq, true_and] at hs
          rw [Int.ofNat.inj hs]
       subst he ho' hl hs
       refine ⟨by rw [hv]; rfl, fun flat hf => ?_⟩
       unfold freshRow
       rw [hv]
       simp only [ho, hz, oS]
       rw [if_pos ⟨Nat.eq_of_beq_eq_true hg, hf, trivial, trivial⟩, allT_spec hz]
   . cases h2
 . simp only [oB] at h2
   obtain ⟨k, _, h2⟩ := h2
   split at h2
   . simp only [oB] at h2
     obtain ⟨zs, _, h2⟩ := h2
     split at h2
     . rename_i g e' cs ho
       cases hg : Nat.beq g _ <;> rw [hg] at h2
       . cases h2
       . simp only [cond_true, oM] at h2
         obtain ⟨_, _, h2⟩ := h2
         cases h2
     . cases h2
   . cases h2
 . cases h2
theorem row_tree {f : FuncId} {xs : List T} {x : T} (hq : rowO cfg f xs = some (.tup [.nilp, x])) : ∃ h, callO cfg f xs = some (.t x, h) := by
 unfold rowO at hq
 obtain ⟨⟨v, h⟩, h1, h2⟩ := oB.1 hq
 unfold encRow at h2
 split at h2
 . rename_i y hv
   simp only at hv
   subst hv
   cases h2
   exact ⟨h, h1⟩
 . split at h2
   . rename_i g e' cs ho
     cases hg : Nat.beq g _ <;> rw [hg] at h2
     . cases h2
     . simp only [cond_true, oM] at h2
       obtain ⟨_, _, h2⟩ := h2
       cases h2
   . cases h2
 . simp only [oB] at h2
   obtain ⟨k, _, h2⟩ := h2
   split at h2
   . simp only [oB] at h2
     obtain ⟨zs, _, h2⟩ := h2
     split at h2
     . rename_i g e' cs ho
       cases hg : Nat.beq g _ <;> rw [hg] at h2
       . cases h2
       . simp only [cond_true, oM] at h2
         obtain ⟨_, _, h2⟩ := h2
         cases h2
     . cases h2
   . cases h2
 . cases h2
theorem fn_of {n : Nat} {xs : List T} {o : Option T} {r : T} (he : outR cfg f0 (symFn cfg f0 n xs) = o) (hq : o = some r) : fnO cfg f0 xs = some r :=
 symFn_ok (by rw [<- outR_eq, he]; exact hq)
theorem fo {xs : List T} {o : Option T} {r : T} (hq : o = some r) (he : outR cfg f0 (symFn cfg f0 3000 xs) = o := by kernel_rfl) : fnO cfg f0 xs = some r := fn_of he hq
end
noncomputable section
def mkTs (n : Nat) (l : List (Nat × V)) : Ts := l.foldl (fun t p => t.upd p.2 p.1) (Tm.blank .junk n)
def mkTr (l : List (Nat × Obj)) : Tm Obj := l.foldl (fun t p => t.put p.1 (some p.2)) .nil
def codeAt : List Nat -> Code -> Code
 | [], c => c
 | 0 :: p, .seq a _ => codeAt p a
 | 1 :: p, .seq _ b => codeAt p b
 | 0 :: p, .cond _ a _ => codeAt p a
 | 1 :: p, .cond _ _ b => codeAt p b
 | 0 :: p, .block _ c => codeAt p c
 | 0 :: p, .loop c => codeAt p c
 | 0 :: p, .scope c => codeAt p c
 | 0 :: p, .rangeFunc _ _ a _ => codeAt p a
 | 1 :: p, .rangeFunc _ _ _ b => codeAt p b
 | _, c => c
def codeOf (cfg : Cfg) (f : FuncId) (p : List Nat) : Code := match cfg.code f with | some fn => (match fn.body with | some c => codeAt p c | none => .skip) | none => .skip
end
end Go.Apex

namespace Go.Apex
open Go
theorem iLt_iff {a b : Int} : iLt a b = true ↔ a < b := by simp [iLt]
theorem iLe_iff {a b : Int} : iLe a b = true ↔ a <= b := by simp [iLe]
theorem iEq_iff {a b : Int} : iEq a b = true ↔ a = b := by simp [iEq]
theorem sEq_iff {a b : List UInt8} : sEq a b = true ↔ a = b := by simp [sEq]
theorem iAdd_i64 {a b : Int} (h1 : -9223372036854775808 <= a + b) (h2 : a + b < 9223372036854775808) : iAdd .i64 a b = a + b := by
 show IntKind.wrap .i64 (a + b) = a + b
 unfold IntKind.wrap
 have e1 : ((2 : Int) ^ IntKind.i64.bits) = 18446744073709551616 := rfl
 have e2 : ((2 : Int) ^ (IntKind.i64.bits - 1)) = 9223372036854775808 := rfl
 have e3 : IntKind.i64.signed = true := rfl
 simp only [e1, e2, e3, Bool.true_and, decide_eq_true_eq]
 split <;> omega
theorem byteAt_eq {s : List UInt8} {i : Nat} (h : i < s.length) : byteAt s i = some ((s[i]'h).toNat : Int) := by simp [byteAt, h]
end Go.Apex
