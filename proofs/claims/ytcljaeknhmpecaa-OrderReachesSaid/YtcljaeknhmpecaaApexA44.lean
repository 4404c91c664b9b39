import Derived.Test.YtcljaeknhmpecaaApexA43
set_option linter.all false
set_option linter.unusedVariables false
set_option linter.unusedSimpArgs false
set_option linter.unusedSectionVars false
/- Runs over data that are not told. -/
namespace Go.Apex
open Go
noncomputable section
inductive Leaf where
  | val (x : T)
  | tail (rows : List Nat) (k : List Kt) (s : St)
def oneT (x : T) : Bool := x.one
def objBd (n : Nat) (o : Obj) : Bool := o.bd n
def sShutOne (rows : List Nat) (ts : Ts) (h : Heap) (d : Tmp) : Dt (Ts × Heap) :=
  match ts.get d with
  | some (.ref id g off sh) => match h.obj id with
    | some (.cells g' _ _ cs) => cond (rows.contains id) .fail (cond (Nat.beq g g') (match sh with
      | none => match cs[off]? with
        | some (.t x) => .chk (oneT x) (.ret (ts.upd (.t (.ptr x)) d, h.set id none))
        | _ => .ret (ts, h)
      | some k => cond (Nat.ble (off + k) cs.length) (match allT ((cs.drop off).take k) with
        | some xs => .ret (ts.upd (.t (.ptr (.agg xs))) d, h.set id none)
        | none => .ret (ts, h)) .fail) (.ret (ts, h)))
    | _ => .ret (ts, h)
  | some (.msl id g off len sh) => match h.obj id with
    | some (.cells g' _ _ cs) => .chk (natEq g g') (.opt T (treeOf sh cs off len) fun x => .ret (ts.upd (.t x) d, h.set id none))
    | _ => .ret (ts, h)
  | some _ => .ret (ts, h)
  | none => .fail
def sShut (rows : List Nat) : List Tmp → Ts → Heap → Dt (Ts × Heap)
  | [], ts, h => .ret (ts, h)
  | d :: r, ts, h => (sShutOne rows ts h d).bind fun p => sShut rows r p.1 p.2
def sAllBd (rows : List Nat) (n1 : Nat) (t : Tm Obj) : Nat → Nat → Dt Unit
  | _, 0 => .ret ()
  | n, k + 1 => match t.get n with
    | some o => cond (rows.contains n) (.chk (objBd n1 o) (sAllBd rows n1 t (n + 1) k)) (cond (o.bd n1) (sAllBd rows n1 t (n + 1) k) .fail)
    | none => sAllBd rows n1 t (n + 1) k
def sResetH (rows : List Nat) (n0 : Nat) (ids : List Nat) (h : Heap) : Dt Heap :=
  let n1 := topOf n0 ids
  let t := gather h.tr (fun i => Nat.ble (i + 1) n0 || ids.contains i) 0 h.next .nil
  cond (Nat.ble n1 h.next) ((sAllBd rows n1 t 0 n1).bind fun _ => .ret ⟨n1, t⟩) .fail
def sReset (rows : List Nat) (n0 : Nat) (ks : List Tmp) (s : St) : Dt St :=
  let ts := s.ts.keepOnly .junk (fun t => ks.contains t)
  let ids := scan (deepOf ks) s.h.obj scanFuel (ks.filterMap (fun t => s.ts.get t)) s.marks
  (sResetH rows n0 ids s.h).bind fun h => cond (ts.all (V.bd h.next) && s.marks.all (fun i => Nat.ble (i + 1) h.next)) (.ret ⟨ts, h, s.marks⟩) .fail
def sResetAt (cfg : Cfg) (rows : List Nat) (f : FuncId) (c : Code) (n0 : Nat) (s : St) : Dt St :=
  match cfg.keep f (loopKey c) with
  | none => .ret s
  | some ks => sReset rows n0 ks s
def sResetRound (cfg : Cfg) (rows : List Nat) (f : FuncId) (c : Code) (n0 : Nat) (ts : Ts) (h : Heap) : Dt Heap :=
  match cfg.keep f (loopKey c) with
  | none => .ret h
  | some ks => sResetH rows n0 (scan (deepOf ks) h.obj scanFuel (ks.filterMap (fun t => ts.get t)) []) h
def sEndRound (cfg : Cfg) (rows : List Nat) (f : FuncId) (l : Nat) (bd : Code) (n0 : Nat) (o : Out) (s : St) : Dt (V × Heap) :=
  match s.h.obj l with
  | some (.loop _ _ f' ts' ps' asg' bd') =>
    (sResetRound cfg rows f bd n0 ts' (s.h.set l (some (match o with
    | .norm => .loop .ready none f' ts' ps' asg' bd'
    | .ret => .loop .done (some .ret) f' ts' ps' asg' bd'
    | .exit id => .loop .done (some (.exit id)) f' ts' ps' asg' bd')))).map fun h' =>
    (.t (.bool (match o with | .norm => true | _ => false)), h')
  | _ => .fail
/-- The rows among the objects. -/
def canonRows (rows : List Nat) (h : Heap) : List Nat := (List.range h.next).filter fun i => rows.contains i && (match h.obj i with | some _ => true | none => false)
def isAppend (o : Op) : Bool := match o with | .call c => (match c.callee with | .builtin .append => true | _ => false) | _ => false
def rowsAfter (cfg : Cfg) (o : Op) (v : V) (rows : List Nat) : List Nat :=
  match v with
  | .msl id _ _ _ _ => cond (rows.contains id) rows (match o with
    | .makeSlice .. => id :: rows
    | .call c => match c.callee with
      | .builtin .append => id :: rows
      | .value (.func f) => (match cfg.mode f with | .fresh => id :: rows | _ => rows)
      | _ => rows
    | _ => rows)
  | _ => rows
inductive Tk where
  | plain
  | inline (g : FuncId) (a b : List V)
  | yield (l : Nat)
/-- What kind of operation it is. -/
def opKind (cfg : Cfg) (ts : Ts) (o : Op) : Tk :=
  match o with
  | .call c => match c.callee with
    | .value (.func g) => (match cfg.mode g with | .shared => .inline g [] [] | _ => .plain)
    | .value fo => match ev ts fo with
      | some (.fn (.func g) a b) => (match cfg.mode g with | .shared => .inline g a b | _ => .plain)
      | some (.yld l) => .yield l
      | _ => .plain
    | _ => .plain
  | _ => .plain
def callArgs (o : Op) : List Operand := match o with | .call c => c.args.toList | _ => []
def litX (res : List Tmp) : Operand → Bool
  | .const (.bool _) => true
  | .tmp t => res.contains t
  | _ => false
/-- The temporaries that hold a truth value that is told. -/
def resAfter (o : Oper) (ts : Ts) (res : List Tmp) : List Tmp :=
  match o.dst with
  | none => res
  | some d => cond (match o.op with
    | .move x => litX res x
    | .assign x => litX res x
    | .unOp .not _ x => litX res x
    | .pick c a b => litX res c && (match ev ts c with
      | some (.t p) => (match p with | .bool t => cond t (litX res a) (litX res b) | _ => false)
      | _ => false)
    | _ => false) (d :: res) (cond (res.contains d) (res.filter fun t => !Nat.beq t d) res)
/-- What is to be done next. -/
abbrev Nx := List Nat → List Tmp → List Kt → Out → St → Dt Leaf
def symGo (cfg : Cfg) (nx : Nx) (rows : List Nat) (res : List Tmp) (f : FuncId) (id : Nat) (draw : Bool) (ops : List Oper) (base : Nat) (o1 : Oper) (rest : List Oper) (slot : Nat) (k : List Kt) (s : St) (kd : Tk) : Dt Leaf :=
  match kd with
  | .plain => cond (isLoud cfg o1 && !quietApp draw (cfg.imm f) ops o1)
      (((sLoud cfg o1 slot s.ts s.h rows).bind fun r => sFrzL (snapAt (cfg.imm f) o1) r).bind fun p => nx (rowsAfter cfg o1.op p.1 rows) (resAfter o1 s.ts res) (.ops f id draw ops base rest (slot + 1) :: k) .norm ⟨setDst s.ts o1.dst p.1, p.2, s.marks⟩)
      ((sQuietF cfg (cfg.imm f) o1 slot s.ts (rdOf draw base s.h) rows res).bind fun p => nx (rowsAfter cfg o1.op p.1 rows) (resAfter o1 s.ts res) (.ops f id draw ops base rest (slot + 1) :: k) .norm ⟨setDst s.ts o1.dst p.1, putObj s.h slot p.2, s.marks⟩)
  | .inline g a b => (Dt.lift (mapO (ev s.ts) (callArgs o1.op))).bind fun vs => match cfg.code g with
    | none => (Dt.lift ((cfg.chk g).bind fun e => checkCall e (a ++ vs ++ b) s.h)).bind fun p => cond ((isLoud cfg o1 && !quietApp draw (cfg.imm f) ops o1) && !snapAt (cfg.imm f) o1)
        (nx rows (resAfter o1 s.ts res) (.ops f id draw ops base rest (slot + 1) :: k) .norm ⟨setDst s.ts o1.dst p.1, p.2, s.marks⟩) .fail
    | some fn => (Dt.lift fn.body).bind fun cd =>
      cond ((isLoud cfg o1 && !quietApp draw (cfg.imm f) ops o1) && !snapAt (cfg.imm f) o1 && Nat.ble (a ++ vs ++ b).length fn.ntmps)
        (nx rows [] (.code g none cd :: .ret g o1.dst s.ts s.marks :: .ops f id draw ops base rest (slot + 1) :: k) .norm ⟨setArgs (Tm.blank undefV fn.ntmps) 0 (a ++ vs ++ b), s.h, []⟩) .fail
  | .yield l => (Dt.lift (mapO (ev s.ts) (callArgs o1.op))).bind fun vs => match s.h.obj l with
      | some (.loop _ _ f1 ts1 ps asg bd) => (Dt.lift (setParams ts1 ps vs)).bind fun ts0 =>
        cond ((isLoud cfg o1 && !quietApp draw (cfg.imm f) ops o1) && !snapAt (cfg.imm f) o1)
          (nx rows [] (.code f1 (some l) asg :: .busy l :: .code f1 (some l) bd :: .yend f1 l bd s.h.next o1.dst s.ts s.marks :: .ops f id draw ops base rest (slot + 1) :: k) .norm ⟨ts0, s.h, []⟩) .fail
      | _ => .fail
def symSkip (nx : Nx) (rows : List Nat) (res : List Tmp) (f : FuncId) (id : Nat) (draw : Bool) (ops : List Oper) (base : Nat) (o1 : Oper) (rest : List Oper) (slot : Nat) (k : List Kt) (s : St) : Dt Leaf :=
  nx rows res (.ops f id draw ops base rest (slot + 1) :: k) .norm ⟨setDst s.ts o1.dst undefV, s.h, s.marks⟩
def symGuard (cfg : Cfg) (nx : Nx) (rows : List Nat) (res : List Tmp) (f : FuncId) (id : Nat) (draw : Bool) (ops : List Oper) (base : Nat) (o1 : Oper) (rest : List Oper) (slot : Nat) (k : List Kt) (s : St) : Dt Leaf :=
  match o1.guard with
  | none => symGo cfg nx rows res f id draw ops base o1 rest slot k s (opKind cfg s.ts o1.op)
  | some (j, want) => match (ops[j]?).bind (·.dst) with
    | some t => match s.ts.get t with
      | some (.t p) => match p with
        | .bool b => cond (res.contains t)
            (cond (b == want) (symGo cfg nx rows res f id draw ops base o1 rest slot k s (opKind cfg s.ts o1.op)) (symSkip nx rows res f id draw ops base o1 rest slot k s))
            (.ite b (nx rows (t :: res) (.ops f id draw ops base (o1 :: rest) slot :: k) .norm ⟨s.ts.upd (.t (.bool true)) t, s.h, s.marks⟩)
              (nx rows (t :: res) (.ops f id draw ops base (o1 :: rest) slot :: k) .norm ⟨s.ts.upd (.t (.bool false)) t, s.h, s.marks⟩))
        | .tup [] => symSkip nx rows res f id draw ops base o1 rest slot k s
        | _ => .fail
      | _ => .fail
    | none => .fail
def sEncRow (p : V × Heap) : Dt T :=
  match p.1 with
  | .t x => .ret (.tup [.nilp, x])
  | .msl id gen off len sh => match p.2.obj id with
    | some (.cells g e false cs) => .chk (Nat.beq g gen) (.opt (List T) (allT cs) fun xs => .ret (.tup [.nili, .int .i64 e, .int .i64 off, .int .i64 len, shT sh, .tup xs]))
    | _ => .fail
  | _ => .fail
def sym (cfg : Cfg) (f0 : FuncId) : Nat → List Nat → List Tmp → List Kt → Out → St → Dt Leaf
  | 0, _, _, _, _, _ => .fail
  | n + 1, rows, res, k, o, s => match k with
    | [] => match rowMode f0 with
      | none => (Dt.lift (endCall cfg f0 o s)).bind fun p => (sSnap p.2.obj rows snapFuel p.1).bind fun x => .ret (.val x)
      | some g => (Dt.lift (endCall cfg g o s)).bind fun p => (sEncRow p).bind fun x => .ret (.val x)
    | .code f rd c :: k => match o with
      | .norm => match c with
        | .skip => sym cfg f0 n rows res k .norm s
        | .region id ops draw => match protOf cfg draw id ops.toList.length with
          | some _ => .fail
          | none => (sShut rows (cfg.shut f (preShut id)) s.ts s.h).bind fun p => sym cfg f0 n rows res (.ops f id draw ops.toList p.2.next ops.toList p.2.next :: k) .norm ⟨p.1, ⟨p.2.next + ops.toList.length, p.2.tr⟩, s.marks⟩
        | .seq a b => sym cfg f0 n rows res (.code f rd a :: .code f rd b :: k) .norm s
        | .cond x a b => (Dt.lift (ev s.ts x)).bind fun v => match v with
          | .t p => match p with
            | .bool t => match x with
              | .tmp d => cond (res.contains d) (cond t (sym cfg f0 n rows res (.code f rd a :: k) .norm s) (sym cfg f0 n rows res (.code f rd b :: k) .norm s))
                  (.ite t (sym cfg f0 n rows res (.code f rd a :: k) .norm s) (sym cfg f0 n rows res (.code f rd b :: k) .norm s))
              | _ => cond t (sym cfg f0 n rows res (.code f rd a :: k) .norm s) (sym cfg f0 n rows res (.code f rd b :: k) .norm s)
            | _ => .fail
          | _ => .fail
        | .block id c => sym cfg f0 n rows res (.code f rd c :: .block id :: k) .norm s
        | .loop c => match mrOf c with
          | none => (sResetAt cfg rows f c s.h.next s).bind fun s' => .ret (.tail (canonRows rows s'.h) (.loop f rd c :: k) s')
          | some _ => .fail
        | .rangeFunc fo ps asg bd => (Dt.lift (ev s.ts fo)).bind fun fv => (Dt.lift (tgtOf fv)).bind fun p => match p with
          | (.fn g, a, b) => match cfg.mode g with
            | .shared => (Dt.lift (cfg.code g)).bind fun fn => (Dt.lift fn.body).bind fun cd =>
              let pre : Heap := if rd.isSome then s.h else s.h.push (.defer true)
              let marks := if rd.isSome then s.marks else s.h.next :: s.marks
              cond (inLoop rd s.h && Nat.ble (a ++ [V.yld pre.next] ++ b).length fn.ntmps)
                (sym cfg f0 n rows [] (.code g none cd :: .over g pre.next s.ts marks :: k) .norm ⟨setArgs (Tm.blank undefV fn.ntmps) 0 (a ++ [V.yld pre.next] ++ b), pre.push (.loop .ready none f s.ts ps.toList asg bd), []⟩) .fail
            | _ => .fail
          | _ => .fail
        | .exit id => sym cfg f0 n rows res k (.exit id) s
        | .scope c => sym cfg f0 n rows res (.code f rd c :: k) .norm s
        | .label _ => sym cfg f0 n rows res k .norm s
        | .ret => sym cfg f0 n rows res k .ret s
        | _ => .fail
      | .ret => sym cfg f0 n rows res k .ret s
      | .exit j => sym cfg f0 n rows res k (.exit j) s
    | .loop f rd c :: k => match o with
      | .norm => .ret (.tail (canonRows rows s.h) (.loop f rd c :: k) s)
      | .ret => sym cfg f0 n rows res k .ret s
      | .exit j => sym cfg f0 n rows res k (.exit j) s
    | .round f rd c n0 :: k => match o with
      | .norm => (sResetAt cfg rows f c n0 s).bind fun s' => .ret (.tail (canonRows rows s'.h) (.loop f rd c :: k) s')
      | .ret => sym cfg f0 n rows res k .ret s
      | .exit j => sym cfg f0 n rows res k (.exit j) s
    | .block id :: k => sym cfg f0 n rows res k (inBlock id o) s
    | .ret g d ts marks :: k => (Dt.lift (endCall cfg g o s)).bind fun p => sym cfg f0 n rows res k .norm ⟨setDst ts d p.1, p.2, marks⟩
    | .over g l ts marks :: k => (Dt.lift (endCall cfg g o s)).bind fun p => (Dt.lift (endRange l ts marks p.2)).bind fun q => sym cfg f0 n rows res k q.1 q.2
    | .busy l :: k => match o with
      | .norm => (Dt.lift (beginRound l s)).bind fun s' => sym cfg f0 n rows res k .norm s'
      | _ => .fail
    | .yend f l bd n0 d ts marks :: k => (sEndRound cfg rows f l bd n0 o s).bind fun p => sym cfg f0 n rows (match d with | some t => [t] | none => []) k .norm ⟨setDst ts d p.1, p.2, marks⟩
    | .ops f id draw ops base rest slot :: k => match o with
      | .norm => match rest with
        | [] => (sShut rows (cfg.shut f id) s.ts s.h).bind fun p => sym cfg f0 n rows res k .norm ⟨p.1, p.2, s.marks⟩
        | o1 :: rest =>
          symGuard cfg (sym cfg f0 n) rows res f id draw ops base o1 rest slot k s
      | _ => .fail
/-- A round of a loop. -/
def symRound (cfg : Cfg) (f0 : FuncId) (n : Nat) (rows : List Nat) (k : List Kt) (s : St) : Dt Leaf :=
  match k with
  | .loop f rd c :: k => sym cfg f0 n rows [] (.code f rd c :: .round f rd c s.h.next :: k) .norm s
  | _ => .fail
/-- A function's body. -/
def symFn (cfg : Cfg) (f0 : FuncId) (n : Nat) (xs : List T) : Dt Leaf :=
  (Dt.lift (cfg.code f0)).bind fun fn => (Dt.lift fn.body).bind fun cd => cond (Nat.ble xs.length fn.ntmps && (match cfg.prim f0 with | none => true | some _ => false) && (rowMode f0).isNone)
    (sym cfg f0 n [] [] [.code f0 none cd] .norm ⟨setArgs (Tm.blank undefV fn.ntmps) 0 (xs.map .t), .empty, []⟩) .fail
/-- A function's body, its row told. -/
def symRow (cfg : Cfg) (f0 : FuncId) (n : Nat) (xs : List T) : Dt Leaf :=
  (Dt.lift (cfg.code f0)).bind fun fn => (Dt.lift fn.body).bind fun cd => cond (Nat.ble xs.length fn.ntmps)
    (sym cfg (Nat.add f0 1000) n [] [] [.code f0 none cd] .norm ⟨setArgs (Tm.blank undefV fn.ntmps) 0 (xs.map .t), .empty, []⟩) .fail
def leafO (cfg : Cfg) (f0 : FuncId) : Leaf → Option T
  | .val x => some x
  | .tail _ k s => runO cfg (pureFin cfg f0) k s
/-- A tree of decisions, as it unfolds. -/
def outR (cfg : Cfg) (f0 : FuncId) : Dt Leaf → Option T
  | .ret l => leafO cfg f0 l
  | .fail => none
  | .ite c a b => cond c (outR cfg f0 a) (outR cfg f0 b)
  | .chk c k => cond c (outR cfg f0 k) none
  | .opt _ o k => o.bind fun x => outR cfg f0 (k x)
/-- What a tree of decisions comes to. -/
def outO (cfg : Cfg) (f0 : FuncId) (d : Dt Leaf) : Option T := d.den.bind (leafO cfg f0)
end
end Go.Apex
