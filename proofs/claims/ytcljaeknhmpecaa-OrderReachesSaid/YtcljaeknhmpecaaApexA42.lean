import Derived.Test.YtcljaeknhmpecaaApexA41
set_option linter.all false
set_option linter.unusedVariables false
set_option linter.unusedSimpArgs false
set_option linter.unusedSectionVars false
/- Operations on data that are not told: appends, calls, stores. -/
namespace Go.Apex
open Go
noncomputable section
def sElems (hb : Rd) (rows : List Nat) (j : TI) (xd : D) (x : V) : Dt (List V × Bool) :=
  match x with
  | .t q => match xd with
    | .str => match q with | .str s => cond j.sh.isNone (.ret (elemsS s, false)) .fail | _ => .fail
    | _ => .opt (List V) (elemsT j.sh q) fun es => .ret (es, false)
  | .msl id gen off len sh => match hb id with
    | some (.cells g _ _ cs) => cond (decide (sh = j.sh)) (cond (rows.contains id)
        (.chk (natEq g gen) (.opt (List V) (elemsR sh cs off len) fun es => .ret (es, false)))
        (cond (Nat.beq g gen) ((Dt.lift (elemsFrom sh cs off len)).bind fun es => (fitNodes j es).bind fun _ => .ret (es, true)) .fail)) .fail
    | _ => .fail
  | _ => .fail
def sAppNew (slot : Nat) (hb : Rd) (rows : List Nat) (e : TypeId) (j : TI) (xd : D) (s x : V) : Dt (V × Option Obj) :=
  match s with
  | .t q => (sElems hb rows j xd x).bind fun el => .opt (List T) (baseT j.sh j.size q) fun xs =>
      cond el.2
        (match el.1 with
          | [] => .ret (.t q, none)
          | _ :: _ => .chk (newOK xs.length el.1.length j.bytes) (.ret (.msl slot 1 0 (lenNew xs el.1) j.sh, some (.cells 1 e false (rowNew xs el.1)))))
        (.ite (isNilL el.1) (.ret (.t q, none)) (.chk (newOK xs.length el.1.length j.bytes) (.ret (.msl slot 1 0 (lenNew xs el.1) j.sh, some (.cells 1 e false (rowNew xs el.1))))))
  | _ => .fail
def sAppV (slot : Nat) (h : Heap) (rows : List Nat) (e : TypeId) (j : TI) (xd : D) (s x : V) : Dt (V × Heap) :=
  match s with
  | .msl id _ off len sh => cond (decide (sh = j.sh)) ((sElems h.obj rows j xd x).bind fun el => match h.obj id with
    | some (.cells g t fz cs) => cond (!fz && Nat.beq t e)
        (.chk (match s with | .msl _ gen _ _ _ => natEq g gen | _ => false) (.chk (appOK cs off len (shSize sh) el.1 j.bytes)
          (.ret (.msl id (appGen g el.1) (appOff off el.1) (appLen len el.1) sh, h.set id (some (.cells (appGen g el.1) t false (appCs cs off el.1))))))) .fail
    | _ => .fail) .fail
  | s => (sAppNew slot h.obj rows e j xd s x).map fun p => (p.1, putObj h slot p.2)
/-- The static part of an append. -/
def appStat (cfg : Cfg) (ts : Ts) (args : List Operand) (tys : List TypeId) : Option (TypeId × TI × D × V × V) :=
  match args, tys with
  | [s, x], t :: xt :: _ => (sliceElem cfg t).bind fun ej => (cfg.ti xt).bind fun xi => (ev ts s).bind fun sv => (ev ts x).bind fun xv =>
    if xi.d.isInt || ej.2.size == 0 || !(ej.2.zero.any fun z => z.fits ej.2.sh) then none else some (ej.1, ej.2, xi.d, sv, xv)
  | _, _ => none
def retTypes (cfg : Cfg) (f : FuncId) : List TypeId := match cfg.code f with | some fn => fn.resultTypes.toList | none => []
def sCallP (cfg : Cfg) (hb : Rd) (rows : List Nat) (f : FuncId) (args : List V) : Dt V :=
  match cfg.mode f with
  | .pure => (Dt.lift (allT args)).bind fun xs => .opt T (fnO cfg f xs) fun r => (viewR cfg.ti (retTypes cfg f) r).map .t
  | .scalar => (mapD (sSnap hb rows snapFuel) args).bind fun xs => .opt T (fnO cfg f xs) fun r => .chk r.scalar ((viewR cfg.ti (retTypes cfg f) r).map .t)
  | _ => .fail
/-- A call of a function's value that is a tree. -/
def callT (cfg : Cfg) (q : T) (xs : List T) : Option T :=
  match q with
  | .fn (.func f) a b => match cfg.mode f with
    | .pure => fnO cfg f (a ++ xs ++ b)
    | .scalar => (fnO cfg f (a ++ xs ++ b)).bind fun r => if r.scalar then some r else none
    | _ => none
  | _ => none
def sCallV (cfg : Cfg) (hb : Rd) (rows : List Nat) (ty : TypeId) (fv : V) (args : List V) : Dt V :=
  match fv with
  | .t q => (Dt.lift (allT args)).bind fun xs => .opt T (callT cfg q xs) fun r => (viewT cfg.ti ty r).map .t
  | .fn (.func f) a b => sCallP cfg hb rows f (a ++ args ++ b)
  | _ => .fail
/-- What a call that works on a heap of its own leaves. -/
def callO (cfg : Cfg) (f : FuncId) (xs : List T) : Option (V × Heap) := by
  classical
  exact if h : ∃ r n, (env cfg n).call (.fn f) (xs.map .t) .empty = some r then some (Classical.choose h) else none
def treeV : V → Bool
  | .t _ => true
  | _ => false
def freshRow (flat : Bool) (e : TypeId) (sh : Option Nat) (p : V × Heap) : Option (Nat × Nat × List V) :=
  match p.1 with
  | .msl id gen off len sh' => match p.2.obj id with
    | some (.cells g e' false cs) => (allT cs).bind fun xs => if g = gen ∧ (flat = true ∨ xs.all (·.scalar1) = true) ∧ e' = e ∧ sh' = sh then some (off, len, cs) else none
    | _ => none
  | _ => none
def freshTree (flat : Bool) (p : V × Heap) : Option T :=
  match p.1 with
  | .t x => if flat || x.scalar then some x else none
  | _ => none
def sFresh (cfg : Cfg) (hb : Rd) (rows : List Nat) (slot : Nat) (f : FuncId) (args : List V) : Dt (V × Option Obj) :=
  match retTypes cfg f with
  | [t] => (Dt.lift (sliceElem cfg t)).bind fun ej =>
    match allT args with
    | some xs => .opt (V × Heap) (callO cfg f xs) fun p => .ite (treeV p.1) (.opt T (freshTree true p) fun x => .ret (.t x, none))
        (.opt (Nat × Nat × List V) (freshRow true ej.1 ej.2.sh p) fun q => .ret (.msl slot 1 q.1 q.2.1 ej.2.sh, some (.cells 1 ej.1 false q.2.2)))
    | none => (mapD (sSnap hb rows snapFuel) args).bind fun xs => .opt (V × Heap) (callO cfg f xs) fun p => .ite (treeV p.1) (.opt T (freshTree false p) fun x => .ret (.t x, none))
        (.opt (Nat × Nat × List V) (freshRow false ej.1 ej.2.sh p) fun q => .ret (.msl slot 1 q.1 q.2.1 ej.2.sh, some (.cells 1 ej.1 false q.2.2)))
  | _ => .fail
def sStore (cfg : Cfg) (ts : Ts) (h : Heap) (rows : List Nat) (t : TypeId) (a x : Operand) : Dt (V × Heap) :=
  (Dt.lift (cfg.ti t)).bind fun i => (Dt.lift (ev ts a)).bind fun p => (Dt.lift (ev ts x)).bind fun v => (fitNode i v).bind fun _ =>
    match p with
    | .ref id gen off _ => match h.obj id with
      | some (.cells g e fz cs) => cond fz .fail (cond (rows.contains id)
          (.chk (natEq g gen) (.chk (rowSetOK cs off (cellsI i v).length) (.ret (undefV, h.set id (some (.cells g e false (rowSet cs off (cellsI i v))))))))
          (cond (Nat.beq g gen && Nat.ble (off + (cellsI i v).length) cs.length) (.ret (undefV, h.set id (some (.cells g e false (setRange cs off (cellsI i v)))))) .fail))
      | _ => .fail
    | _ => .fail
def sMapUpdate (cfg : Cfg) (ts : Ts) (h : Heap) (t : TypeId) (m k x : Operand) : Dt (V × Heap) :=
  (Dt.lift (cfg.ti t)).bind fun i => match i.d with
  | .map kt _ => (Dt.lift (cfg.ti kt)).bind fun ki => (Dt.lift (ev ts m)).bind fun m => (Dt.lift (ev ts k)).bind fun kv => (Dt.lift (toT kv)).bind fun key => (Dt.lift (ev ts x)).bind fun v =>
    cond (keyFits ki.d key) (match m with
      | .mmp id => match h.obj id with
        | some (.map ks vs) => .opt (List T × List V) (putM ks vs key v) fun p => .ret (undefV, h.set id (some (.map p.1 p.2)))
        | _ => .fail
      | _ => .fail) .fail
  | _ => .fail
def sPick (ts : Ts) (res : List Tmp) (c a b : Operand) : Dt V :=
  (Dt.lift (ev ts c)).bind fun cv => match cv with
    | .t p => match p with
      | .bool t => match c with
        | .tmp d => cond (res.contains d) ((cond t (Dt.lift (ev ts a)) (Dt.lift (ev ts b)))) (.ite t (Dt.lift (ev ts a)) (Dt.lift (ev ts b)))
        | _ => cond t (Dt.lift (ev ts a)) (Dt.lift (ev ts b))
      | _ => .fail
    | _ => .fail
def sSData (v : V) : Dt V :=
  match v with
  | .t q => match q with | .nils => .ret (.t .nilp) | _ => .fail
  | .msl id gen off len sh => .chk (Nat.ble 1 len) (.ret (.ref id gen off sh))
  | _ => .fail
def sUStr (e : TypeId) (h : Heap) (z : Int) (p : V) : Dt (V × Heap) :=
  match p with
  | .t q => match q with | .nilp => .chk (decide (z = 0)) (.ret (.t (.str []), h)) | _ => .fail
  | .ref id gen off _ => match h.obj id with
    | some (.cells g e' _ cs) => cond (Nat.beq e' e) (.chk (natEq gen g) (.opt (List UInt8) (bytesV cs off z) fun s => .ret (.t (.str s), h.set id (some (.cells g e' true cs))))) .fail
    | _ => .fail
  | _ => .fail
def uStat (cfg : Cfg) (ts : Ts) (args : List Operand) (tys : List TypeId) : Option (TypeId × V × V) :=
  match args, tys with
  | [p, n], t :: _ => (cfg.ti t).bind fun i => match i.d with
    | .ptr e => (cfg.ti e).bind fun j => (ev ts p).bind fun pv => (ev ts n).bind fun nv => if j.size = 1 then some (e, pv, nv) else none
    | _ => none
  | _, _ => none
def one0 (d : Dt V) : Dt (V × Option Obj) := d.map fun v => (v, none)
def sBuiltin (cfg : Cfg) (slot : Nat) (ts : Ts) (hb : Rd) (rows : List Nat) (args : List Operand) (tys : List TypeId) (b : Builtin) : Dt (V × Option Obj) :=
  match b with
  | .len => match args, tys with
    | [x], [t] => one0 ((Dt.lift (cfg.ti t)).bind fun i => (Dt.lift (ev ts x)).bind fun v => sLenOp hb i.d v)
    | _, _ => .fail
  | .cap => match args, tys with
    | [x], [t] => one0 ((Dt.lift (cfg.ti t)).bind fun i => (Dt.lift (ev ts x)).bind fun v => sCap i.d v)
    | _, _ => .fail
  | .unsafeSliceData => match args, tys with
    | [x], [t] => one0 ((Dt.lift (cfg.ti t)).bind fun _ => (Dt.lift (ev ts x)).bind fun v => sSData v)
    | _, _ => .fail
  | .max => one0 ((Dt.lift (mapO (ev ts) args)).bind fun vs => match vs with
    | .t p :: r => match p with | .int k a => sExt iMax k a r | _ => .fail
    | _ => .fail)
  | .min => one0 ((Dt.lift (mapO (ev ts) args)).bind fun vs => match vs with
    | .t p :: r => match p with | .int k a => sExt iMin k a r | _ => .fail
    | _ => .fail)
  | .append => (Dt.lift (appStat cfg ts args tys)).bind fun st => sAppNew slot hb rows st.1 st.2.1 st.2.2.1 st.2.2.2.1 st.2.2.2.2
  | _ => .fail
def sQuiet (cfg : Cfg) (imm : Bool) (o : Op) (slot : Nat) (ts : Ts) (hb : Rd) (rows : List Nat) (res : List Tmp) : Dt (V × Option Obj) :=
  match o with
  | .move x => one0 (Dt.lift (ev ts x))
  | .assign x => one0 (Dt.lift (ev ts x))
  | .pick c a b => one0 (sPick ts res c a b)
  | .alloc e => Dt.lift (qAlloc cfg slot e)
  | .box e x => sBox cfg imm slot ts e x
  | .build t parts => one0 (sBuild cfg ts t parts.toList)
  | .buildSlice t len parts => sBuildSlice cfg imm slot ts t len parts.toList
  | .load t a => one0 (sLoad cfg ts hb rows t a)
  | .nilCheck x => one0 (sNilCheck ts x)
  | .binOp op xt x y _ => one0 (sBin cfg ts op xt x y)
  | .unOp op _ x => one0 ((Dt.lift (ev ts x)).bind fun a => sUn op a)
  | .convert src dst x => one0 ((Dt.lift (cfg.ti src)).bind fun i => (Dt.lift (cfg.ti dst)).bind fun j => (Dt.lift (ev ts x)).bind fun v => sConv cfg i.d j.d v)
  | .makeInterface xt x => Dt.lift (qMakeInterface cfg ts xt x)
  | .makeFunc fn first captured => Dt.lift (qMakeFunc ts fn first.toList captured.toList)
  | .makeMap t r => Dt.lift (qMakeMap cfg slot ts t r)
  | .makeSlice t l c => sMakeSlice cfg slot ts t l c
  | .slice xt x lo hi mx => one0 (sSlice cfg ts xt x lo hi mx)
  | .fieldAddr s x f => one0 (sFieldAddr cfg ts s x f)
  | .field s x f => Dt.lift (qField cfg ts s x f)
  | .indexAddr t x ix => one0 (sIndexAddr cfg ts t x ix)
  | .index t x ix => one0 (sIndex cfg ts t x ix)
  | .lookup t x k ok => one0 (sLookup cfg ts hb t x k ok)
  | .extract t ix => Dt.lift (qExtract ts t ix)
  | .call c => match c.callee with
    | .builtin b => sBuiltin cfg slot ts hb rows c.args.toList c.argTypes.toList b
    | .value (.func f) => (Dt.lift (mapO (ev ts) c.args.toList)).bind fun vs => match cfg.mode f with
      | .fresh => sFresh cfg hb rows slot f vs
      | _ => one0 (sCallP cfg hb rows f vs)
    | _ => .fail
  | _ => .fail
def sLoud (cfg : Cfg) (o : Oper) (slot : Nat) (ts : Ts) (h : Heap) (rows : List Nat) : Dt (V × Heap) :=
  match o.op with
  | .store t a x => sStore cfg ts h rows t a x
  | .mapUpdate t m k x => sMapUpdate cfg ts h t m k x
  | .insert t m k x => sMapUpdate cfg ts h t m k x
  | .call c => match c.callee with
    | .builtin .append => (Dt.lift (appStat cfg ts c.args.toList c.argTypes.toList)).bind fun st => sAppV slot h rows st.1 st.2.1 st.2.2.1 st.2.2.2.1 st.2.2.2.2
    | .builtin .unsafeString => (Dt.lift (uStat cfg ts c.args.toList c.argTypes.toList)).bind fun st => match st.2.2 with
      | .t q => match q with
        | .int k z => match k with | .i64 => sUStr st.1 h z st.2.1 | _ => .fail
        | _ => .fail
      | _ => .fail
    | .builtin _ => .fail
    | .value f => (Dt.lift (ev ts f)).bind fun fv => (Dt.lift (mapO (ev ts) c.args.toList)).bind fun vs => (sCallV cfg h.obj rows o.type fv vs).map fun v => (v, h)
    | .invoke _ _ => .fail
  | _ => .fail
/-- An append whose answer is a tree. -/
def appT (sh : Option Nat) (sz bytes : Nat) (q : T) (es : List V) : Option T :=
  (baseT sh sz q).bind fun xs => cond es.isEmpty (some q) (cond (newOK xs.length es.length bytes) (rowTree sh (rowNew xs es) 0 (lenNew xs es)) none)
def sAppF (hb : Rd) (rows : List Nat) (j : TI) (xd : D) (s x : V) : Dt V :=
  match s with
  | .t q => (sElems hb rows j xd x).bind fun el => .opt T (appT j.sh j.size j.bytes q el.1) fun y => .ret (.t y)
  | _ => .fail
def treeOf (sh : Option Nat) (cs : List V) (off len : Nat) : Option T := rowTree sh cs off len
def sFrzQ (b : Bool) (slot : Nat) (r : V × Option Obj) : Dt (V × Option Obj) :=
  cond b (match r.1 with
    | .t x => .ret (.t x, r.2)
    | .msl id gen off len sh => match r.2 with
      | some (.cells g _ _ cs) => cond (Nat.beq id slot && Nat.beq g gen) (.opt T (treeOf sh cs off len) fun x => .ret (.t x, none)) .fail
      | _ => .fail
    | _ => .fail) (.ret r)
def sFrzL (b : Bool) (r : V × Heap) : Dt (V × Heap) :=
  cond b (match r.1 with
    | .t x => .ret (.t x, r.2)
    | .msl id gen off len sh => match r.2.obj id with
      | some (.cells g _ _ cs) => .chk (natEq g gen) (.opt T (treeOf sh cs off len) fun x => .ret (.t x, r.2.set id none))
      | _ => .fail
    | _ => .fail) (.ret r)
/-- A quiet operation, with its slices told as trees where this is asked. -/
def sQuietF (cfg : Cfg) (im : Tmp → Bool) (o : Oper) (slot : Nat) (ts : Ts) (hb : Rd) (rows : List Nat) (res : List Tmp) : Dt (V × Option Obj) :=
  match cond (snapAt im o) (match o.op with | .call c => (match c.callee with | .builtin .append => some (c.args.toList, c.argTypes.toList) | _ => none) | _ => none) none with
  | some (args, tys) => one0 ((Dt.lift (appStat cfg ts args tys)).bind fun st => sAppF hb rows st.2.1 st.2.2.1 st.2.2.2.1 st.2.2.2.2)
  | none => (sQuiet cfg (immOf im o.dst) o.op slot ts hb rows res).bind fun r => sFrzQ (snapAt im o) slot r
end
end Go.Apex
