import Derived.Test.YtcljaeknhmpecaaGreatApexA40
set_option linter.all false
namespace Go.Apex
open Go
noncomputable section
def sElems (hb : Rd) (rows : List Nat) (j : TI) (xd : D) (x : V) : Dt (List V × Bool) :=
 match x with
 | .t q => match xd with
  | .str => match q with | .str s => cond j.sh.isNone (.ret (elemsS s, false)) .fail | _ => .fail
  | _ => .opt (List V) (elemsT j.sh q) fun es => .ret (es, false)
 | .msl id gen off len sh => match hb id with
  | some (.cells g _ _ cs) => cond (decide (sh = j.sh)) (cond (rows.contains id)
    (.chk (natEq g gen) (.opt (List V) (elemsR sh cs off len) fun es => .ret (es, false)))
    (cond (Nat.beq g gen) ((Dt.lift (elemsFrom sh cs off len)).bind fun es => (fitNodes j es).bind fun _ => .ret (es, true)) .fail)) .fail
  | _ => .fail
 | _ => .fail
def sAppNew (slot : Nat) (hb : Rd) (rows : List Nat) (e : TypeId) (j : TI) (xd : D) (s x : V) : Dt (V × Option Obj) :=
 match s with
 | .t q => (sElems hb rows j xd x).bind fun el => .opt (List T) (baseT j.sh j.size q) fun xs =>
   cond el.2
    (match el.1 with
     | [] => .ret (.t q, none)
     | _ :: _ => .chk (newOK xs.length el.1.length j.bytes) (.ret (.msl slot 1 0 (lenNew xs el.1) j.sh, some (.cells 1 e false (rowNew xs el.1)))))
    (.ite (isNilL el.1) (.ret (.t q, none)) (.chk (newOK xs.length el.1.length j.bytes) (.ret (.msl slot 1 0 (lenNew xs el.1) j.sh, some (.cells 1 e false (rowNew xs el.1))))))
 | _ => .fail
def sAppV (slot : Nat) (h : Heap) (rows : List Nat) (e : TypeId) (j : TI) (xd : D) (s x : V) : Dt (V × Heap) :=
 match s with
 | .msl id _ off len sh => cond (decide (sh = j.sh)) ((sElems h.obj rows j xd x).bind fun el => match h.obj id with
  | some (.cells g t fz cs) => cond (!fz && Nat.beq t e)
    (.chk (match s with | .msl _ gen _ _ _ => natEq g gen | _ => false) (.chk (appOK cs off len (shSize sh) el.1 j.bytes)
     (.ret (.msl id (appGen g el.1) (appOff off el.1) (appLen len el.1) sh, h.set id (some (.cells (appGen g el.1) t false (appCs cs off el.1))))))) .fail
  | _ => .fail) .fail
 | s => (sAppNew slot h.obj rows e j xd s x).map fun p => (p.1, putObj h slot p.2)
def appStat (cfg : Cfg) (ts : Ts) (args : List Operand) (tys : List TypeId) : Option (TypeId × TI × D × V × V) :=
 match args, tys with
 | [s, x], t :: xt :: _ => (sliceElem cfg t).bind fun ej => (cfg.ti xt).bind fun xi => (ev ts s).bind fun sv => (ev ts x).bind fun xv =>
  if xi.d.isInt || ej.2.size == 0 || !(ej.2.zero.any fun z => z.fits ej.2.sh) then none else some (ej.1, ej.2, xi.d, sv, xv)
 | _, _ => none
def retTypes (cfg : Cfg) (f : FuncId) : List TypeId := match cfg.code f with | some fn => fn.resultTypes.toList | none => []
def sCallP (cfg : Cfg) (hb : Rd) (rows : List Nat) (f : FuncId) (args : List V) : Dt V :=
 match cfg.mode f with
 | .pure => (Dt.lift (allT args)).bind fun xs => .opt T (fnO cfg f xs) fun r => (viewR cfg.ti (retTypes cfg f) r).map .t
 | .scalar => (mapD (sSnap hb rows snapFuel) args).bind fun xs => .opt T (fnO cfg f xs) fun r => .chk r.scalar ((viewR cfg.ti (retTypes cfg f) r).map .t)
 | _ => .fail
def callT (cfg : Cfg) (q : T) (xs : List T) : Option T :=
 match q with
 | .fn (.func f) a b => match cfg.mode f with
  | .pure => fnO cfg f (a ++ xs ++ b)
  | .scalar => (fnO cfg f (a ++ xs ++ b)).bind fun r => if r.scalar then some r else none
  | _ => none
 | _ => none
def sCallV (cfg : Cfg) (hb : Rd) (rows : List Nat) (ty : TypeId) (fv : V) (args : List V) : Dt V :=
 match fv with
 | .t q => (Dt.lift (allT args)).bind fun xs => .opt T (callT cfg q xs) fun r => (viewT cfg.ti ty r).map .t
 | .fn (.func f) a b => sCallP cfg hb rows f (a ++ args ++ b)
 | _ => .fail
def callO (cfg : Cfg) (f : FuncId) (xs : List T) : Option (V × Heap) := by
 classical
 exact if h : ∃ r n, (env cfg n).call (.fn f) (xs.map .t) .empty = some r then some (Classical.choose h) else none
def treeV : V -> Bool
 | .t _ => true
 | _ => false
def freshRow (flat : Bool) (e : TypeId) (sh : Option Nat) (p : V × Heap) : Option (Nat × Nat × List V) :=
 match p.1 with
 | .msl id gen off len sh' => match p.2.obj id with
  | some (.cells g e' false cs) => (allT cs).bind fun xs => if g = gen /\ (flat = true \/ xs.all (·.scalar1) = true) /\ e' = e /\ sh' = sh then some (off, len, cs) else none
  | _ => none
 | _ => none
def freshTree (flat : Bool) (p : V × Heap) : Option T :=
 match p.1 with
 | .t x => if flat || x.scalar then some x else none
 | _ => none
def sFresh (cfg : Cfg) (hb : Rd) (rows : List Nat) (slot : Nat) (f : FuncId) (args : List V) : Dt (V × Option Obj) :=
 match retTypes cfg f with
 | [t] => (Dt.lift (sliceElem cfg t)).bind fun ej =>
  match allT args with
  | some xs => .opt (V × Heap) (callO cfg f xs) fun p => .ite (treeV p.1) (.opt T (freshTree true p) fun x => .ret (.t x, none))
    (.opt (Nat × Nat × List V) (freshRow true ej.1 ej.2.sh p) fun q => .ret (.msl slot 1 q.1 q.2.1 ej.2.sh, some (.cells 1 ej.1 false q.2.2)))
  | none => (mapD (sSnap hb rows snapFuel) args).bind fun xs => .opt (V × Heap) (callO cfg f xs) fun p => .ite (treeV p.1) (.opt T (freshTree false p) fun x => .ret (.t x, none))
    (.opt (Nat × Nat × List V) (freshRow false ej.1 ej.2.sh p) fun q => .ret (.msl slot 1 q.1 q.2.1 ej.2.sh, some (.cells 1 ej.1 false q.2.2)))
 | _ => .fail
def aggRow (k n : Nat) (e : TypeId) (sh : Option Nat) (p : V × Heap) : Option (List T × Nat × Nat × List V) :=
 match p.1 with
 | .agg vs => match vs[k]? with
  | some (.msl id gen off len sh') => match p.2.obj id with
   | some (.cells g e' false cs) => (allT cs).bind fun _ => (allT (vs.set k (.t .nils))).bind fun xs => if g = gen /\ e' = e /\ sh' = sh /\ vs.length = n then some (xs, off, len, cs) else none
   | _ => none
  | _ => none
 | _ => none
def twinFields (ti : TypeId -> Option TI) (xs : List T) (k : Nat) (m : V) : List (TypeId × Nat × Bool) -> Nat -> Dt (List V)
 | [], _ => .ret []
 | f :: r, i => cond (Nat.beq i k) ((twinFields ti xs k m r (i + 1)).bind fun ys => .ret (m :: ys)) ((viewT ti f.1 (nthT xs i)).bind fun y => (twinFields ti xs k m r (i + 1)).bind fun ys => .ret (.t y :: ys))
def fieldT (fs : List (TypeId × Nat × Bool)) (k : Nat) : Option TypeId := (fs[k]?).map (·.1)
def sTwin (cfg : Cfg) (slot : Nat) (f : FuncId) (args : List V) : Dt (V × Option Obj) :=
 match retTypes cfg f with
 | [t] => (Dt.lift (cfg.ti t)).bind fun i => match i.d with
  | .struct fs => (Dt.lift (cfg.twin f)).bind fun k => (Dt.lift (fieldT fs k)).bind fun kt => (Dt.lift (sliceElem cfg kt)).bind fun ej => (Dt.lift (allT args)).bind fun xs =>
   .opt (V × Heap) (callO cfg f xs) fun p => .ite (treeV p.1) (.opt T (freshTree true p) fun x => (viewT cfg.ti t x).bind fun y => .ret (.t y, none))
    (.opt (List T × Nat × Nat × List V) (aggRow k fs.length ej.1 ej.2.sh p) fun q => (twinFields cfg.ti q.1 k (.msl slot 1 q.2.1 q.2.2.1 ej.2.sh) fs 0).bind fun vs => .ret (.agg vs, some (.cells 1 ej.1 false q.2.2.2)))
  | _ => .fail
 | _ => .fail
def sStore (cfg : Cfg) (ts : Ts) (h : Heap) (rows : List Nat) (t : TypeId) (a x : Operand) : Dt (V × Heap) :=
 (Dt.lift (cfg.ti t)).bind fun i => (Dt.lift (ev ts a)).bind fun p => (Dt.lift (ev ts x)).bind fun v => (fitNode i v).bind fun _ =>
  match p with
  | .ref id gen off _ => match h.obj id with
   | some (.cells g e fz cs) => cond fz .fail (cond (rows.contains id)
     (.chk (natEq g gen) (.chk (rowSetOK cs off (cellsI i v).length) (.ret (undefV, h.set id (some (.cells g e false (rowSet cs off (cellsI i v))))))))
     (cond (Nat.beq g gen && Nat.ble (off + (cellsI i v).length) cs.length) (.ret (undefV, h.set id (some (.cells g e false (setRange cs off (cellsI i v)))))) .fail))
   | some (.nest g e cs fc) => .chk (natEq g gen) (.chk (fitC cs off (cellsI i v).length) (match fc with
     | none => .ret (undefV, h.set id (some (.nest g e (junkC cs off (cellsI i v).length) (some (off, cellsI i v)))))
     | some p => cond (Nat.beq p.2.length (cellsI i v).length) (.chk (natEq p.1 off) (.ret (undefV, h.set id (some (.nest g e cs (some (off, cellsI i v))))))) .fail))
   | _ => .fail
  | _ => .fail
def sMapUpdate (cfg : Cfg) (ts : Ts) (h : Heap) (t : TypeId) (m k x : Operand) : Dt (V × Heap) :=
 (Dt.lift (cfg.ti t)).bind fun i => match i.d with
 | .map kt _ => (Dt.lift (cfg.ti kt)).bind fun ki => (Dt.lift (ev ts m)).bind fun m => (Dt.lift (ev ts k)).bind fun kv => (Dt.lift (toT kv)).bind fun key => (Dt.lift (ev ts x)).bind fun v =>
  cond (keyFits ki.d key) (match m with
   | .mmp id => match h.obj id with
    | some (.map ks vs) => .opt (List T × List V) (putM ks vs key v) fun p => .ret (undefV, h.set id (some (.map p.1 p.2)))
    | _ => .fail
   | _ => .fail) .fail
 | _ => .fail
def sPick (ts : Ts) (res : List Tmp) (c a b : Operand) : Dt V :=
 (Dt.lift (ev ts c)).bind fun cv => match cv with
  | .t p => match p with
   | .bool t => match c with
    | .tmp d => cond (res.contains d) ((cond t (Dt.lift (ev ts a)) (Dt.lift (ev ts b)))) (.ite t (Dt.lift (ev ts a)) (Dt.lift (ev ts b)))
    | _ => cond t (Dt.lift (ev ts a)) (Dt.lift (ev ts b))
   | _ => .fail
  | _ => .fail
def sSData (v : V) : Dt V :=
 match v with
 | .t q => match q with | .nils => .ret (.t .nilp) | _ => .fail
 | .msl id gen off len sh => .chk (Nat.ble 1 len) (.ret (.ref id gen off sh))
 | _ => .fail
def sUStr (e : TypeId) (h : Heap) (z : Int) (p : V) : Dt (V × Heap) :=
 match p with
 | .t q => match q with | .nilp => .chk (decide (z = 0)) (.ret (.t (.str []), h)) | _ => .fail
 | .ref id gen off _ => match h.obj id with
  | some (.cells g e' _ cs) => cond (Nat.beq e' e) (.chk (natEq gen g) (.opt (List UInt8) (bytesV cs off z) fun s => .ret (.t (.str s), h.set id (some (.cells g e' true cs))))) .fail
  | _ => .fail
 | _ => .fail
def uStat (cfg : Cfg) (ts : Ts) (args : List Operand) (tys : List TypeId) : Option (TypeId × V × V) :=
 match args, tys with
 | [p, n], t :: _ => (cfg.ti t).bind fun i => match i.d with
  | .ptr e => (cfg.ti e).bind fun j => (ev ts p).bind fun pv => (ev ts n).bind fun nv => if j.size = 1 then some (e, pv, nv) else none
  | _ => none
 | _, _ => none
def clrStat (cfg : Cfg) (ts : Ts) (args : List Operand) (tys : List TypeId) : Option (TI × T × V) :=
 match args, tys with
 | [x], [t] => (sliceElem cfg t).bind fun ej => ej.2.zero.bind fun z => (ev ts x).bind fun v => if !z.fits ej.2.sh || Nat.beq ej.2.size 0 then none else some (ej.2, z, v)
 | _, _ => none
def clrOK (cs : List V) (off len : Nat) (z : T) : Bool := decide (off + (zeros len z).length <= cs.length)
def clrCs (cs : List V) (off len : Nat) (z : T) : List V := setRange cs off (zeros len z)
def isEmptyT (q : T) : Bool := match q with | .nils => true | .sl _ _ [] => true | _ => false
def sClear (h : Heap) (j : TI) (z : T) (v : V) : Dt (V × Heap) :=
 match v with
 | .t q => .chk (isEmptyT q) (.ret (undefV, h))
 | .msl id gen off len sh => cond (decide (sh = j.sh)) (match h.obj id with
  | some (.cells g e fz cs) => cond fz .fail (.chk (natEq g gen) (.chk (clrOK cs off len z) (.ret (undefV, h.set id (some (.cells g e false (clrCs cs off len z)))))))
  | _ => .fail) .fail
 | _ => .fail
def one0 (d : Dt V) : Dt (V × Option Obj) := d.map fun v => (v, none)
def sBuiltin (cfg : Cfg) (slot : Nat) (ts : Ts) (hb : Rd) (rows : List Nat) (args : List Operand) (tys : List TypeId) (b : Builtin) : Dt (V × Option Obj) :=
 match b with
 | .len => match args, tys with
  | [x], [t] => one0 ((Dt.lift (cfg.ti t)).bind fun i => (Dt.lift (ev ts x)).bind fun v => sLenOp hb i.d v)
  | _, _ => .fail
 | .cap => match args, tys with
  | [x], [t] => one0 ((Dt.lift (cfg.ti t)).bind fun i => (Dt.lift (ev ts x)).bind fun v => sCap i.d v)
  | _, _ => .fail
 | .unsafeSliceData => match args, tys with
  | [x], [t] => one0 ((Dt.lift (cfg.ti t)).bind fun _ => (Dt.lift (ev ts x)).bind fun v => sSData v)
  | _, _ => .fail
 | .max => one0 ((Dt.lift (mapO (ev ts) args)).bind fun vs => match vs with
  | .t p :: r => match p with | .int k a => sExt iMax k a r | _ => .fail
  | _ => .fail)
 | .min => one0 ((Dt.lift (mapO (ev ts) args)).bind fun vs => match vs with
  | .t p :: r => match p with | .int k a => sExt iMin k a r | _ => .fail
  | _ => .fail)
 | .append => (Dt.lift (appStat cfg ts args tys)).bind fun st => sAppNew slot hb rows st.1 st.2.1 st.2.2.1 st.2.2.2.1 st.2.2.2.2
 | _ => .fail
def sRange (cfg : Cfg) (slot : Nat) (ts : Ts) (xt : TypeId) (x : Operand) : Dt (V × Option Obj) :=
 (Dt.lift (cfg.ti xt)).bind fun i => match i.d with
  | .map _ _ => (Dt.lift (ev ts x)).bind fun v => match v with
   | .t q => .opt (List T × List T) (mpT q) fun p => .ret (.it slot none, some (.mit p.1 p.2))
   | _ => .fail
  | _ => Dt.lift (qRange cfg slot ts xt x)
def sQuiet (cfg : Cfg) (imm : Bool) (o : Op) (slot : Nat) (ts : Ts) (hb : Rd) (rows : List Nat) (res : List Tmp) : Dt (V × Option Obj) :=
 match o with
 | .move x => one0 (Dt.lift (ev ts x))
 | .assign x => one0 (Dt.lift (ev ts x))
 | .pick c a b => one0 (sPick ts res c a b)
 | .alloc e => Dt.lift (qAlloc cfg slot e)
 | .box e x => sBox cfg imm slot ts e x
 | .build t parts => one0 (sBuild cfg ts t parts.toList)
 | .buildSlice t len parts => sBuildSlice cfg imm slot ts t len parts.toList
 | .load t a => one0 (sLoad cfg imm ts hb rows t a)
 | .nilCheck x => one0 (sNilCheck ts x)
 | .binOp op xt x y _ => one0 (sBin cfg ts op xt x y)
 | .unOp op _ x => one0 ((Dt.lift (ev ts x)).bind fun a => sUn op a)
 | .convert src dst x => one0 ((Dt.lift (cfg.ti src)).bind fun i => (Dt.lift (cfg.ti dst)).bind fun j => (Dt.lift (ev ts x)).bind fun v => sConv cfg i.d j.d v)
 | .makeInterface xt x => Dt.lift (qMakeInterface cfg ts xt x)
 | .makeFunc fn first captured => Dt.lift (qMakeFunc ts fn first.toList captured.toList)
 | .makeMap t r => Dt.lift (qMakeMap cfg slot ts t r)
 | .makeSlice t l c => sMakeSlice cfg slot ts t l c
 | .slice xt x lo hi mx => one0 (sSlice cfg ts xt x lo hi mx)
 | .fieldAddr s x f => one0 (sFieldAddr cfg ts s x f)
 | .field s x f => Dt.lift (qField cfg ts s x f)
 | .indexAddr t x ix => one0 (sIndexAddr cfg ts t x ix)
 | .index t x ix => one0 (sIndex cfg ts t x ix)
 | .lookup t x k ok => one0 (sLookup cfg ts hb t x k ok)
 | .extract t ix => Dt.lift (qExtract ts t ix)
 | .range xt x => sRange cfg slot ts xt x
 | .call c => match c.callee with
  | .builtin b => sBuiltin cfg slot ts hb rows c.args.toList c.argTypes.toList b
  | .value (.func f) => (Dt.lift (mapO (ev ts) c.args.toList)).bind fun vs => match cfg.mode f with
   | .fresh => sFresh cfg hb rows slot f vs
   | _ => cond (twinAt cfg imm f) (sTwin cfg slot f vs) (one0 (sCallP cfg hb rows f vs))
  | _ => .fail
 | _ => .fail
def sLoud (cfg : Cfg) (o : Oper) (slot : Nat) (ts : Ts) (h : Heap) (rows : List Nat) : Dt (V × Heap) :=
 match o.op with
 | .store t a x => sStore cfg ts h rows t a x
 | .mapUpdate t m k x => sMapUpdate cfg ts h t m k x
 | .insert t m k x => sMapUpdate cfg ts h t m k x
 | .call c => match c.callee with
  | .builtin .append => (Dt.lift (appStat cfg ts c.args.toList c.argTypes.toList)).bind fun st => sAppV slot h rows st.1 st.2.1 st.2.2.1 st.2.2.2.1 st.2.2.2.2
  | .builtin .clear => (Dt.lift (clrStat cfg ts c.args.toList c.argTypes.toList)).bind fun st => sClear h st.1 st.2.1 st.2.2
  | .builtin .unsafeString => (Dt.lift (uStat cfg ts c.args.toList c.argTypes.toList)).bind fun st => match st.2.2 with
   | .t q => match q with
    | .int k z => match k with | .i64 => sUStr st.1 h z st.2.1 | _ => .fail
    | _ => .fail
   | _ => .fail
  | .builtin _ => .fail
  | .value f => (Dt.lift (ev ts f)).bind fun fv => (Dt.lift (mapO (ev ts) c.args.toList)).bind fun vs => (sCallV cfg h.obj rows o.type fv vs).map fun v => (v, h)
  | .invoke _ _ => .fail
 | _ => .fail
def appT (sh : Option Nat) (sz bytes : Nat) (q : T) (es : List V) : Option T :=
 (baseT sh sz q).bind fun xs => cond es.isEmpty (some q) (cond (newOK xs.length es.length bytes) (rowTree sh (rowNew xs es) 0 (lenNew xs es)) none)
def sAppF (hb : Rd) (rows : List Nat) (j : TI) (xd : D) (s x : V) : Dt V :=
 match s with
 | .t q => (sElems hb rows j xd x).bind fun el => .opt T (appT j.sh j.size j.bytes q el.1) fun y => .ret (.t y)
 | _ => .fail
def treeOf (sh : Option Nat) (cs : List V) (off len : Nat) : Option T := rowTree sh cs off len
def sFrzQ (b : Bool) (slot : Nat) (r : V × Option Obj) : Dt (V × Option Obj) :=
 cond b (match r.1 with
  | .t x => .ret (.t x, r.2)
  | .msl id gen off len sh => match r.2 with
   | some (.cells g _ _ cs) => cond (Nat.beq id slot && Nat.beq g gen) (.opt T (treeOf sh cs off len) fun x => .ret (.t x, none)) .fail
   | _ => .fail
  | .agg _ => .ret r
  | _ => .fail) (.ret r)
def sFrzL (b : Bool) (r : V × Heap) : Dt (V × Heap) :=
 cond b (match r.1 with
  | .t x => .ret (.t x, r.2)
  | .msl id gen off len sh => match r.2.obj id with
   | some (.cells g _ _ cs) => .chk (natEq g gen) (.opt T (treeOf sh cs off len) fun x => .ret (.t x, r.2.set id none))
   | _ => .fail
  | _ => .fail) (.ret r)
def sQuietF (cfg : Cfg) (im : Tmp -> Bool) (o : Oper) (slot : Nat) (ts : Ts) (hb : Rd) (rows : List Nat) (res : List Tmp) : Dt (V × Option Obj) :=
 match cond (snapAt im o) (match o.op with | .call c => (match c.callee with | .builtin .append => some (c.args.toList, c.argTypes.toList) | _ => none) | _ => none) none with
 | some (args, tys) => one0 ((Dt.lift (appStat cfg ts args tys)).bind fun st => sAppF hb rows st.2.1 st.2.2.1 st.2.2.2.1 st.2.2.2.2)
 | none => (sQuiet cfg (immOf im o.dst) o.op slot ts hb rows res).bind fun r => sFrzQ (snapAt im o) slot r
end
end Go.Apex

namespace Go.Apex
open Go
theorem Tm.put_self {α : Type} {x : α} : ∀ {f : Nat} {t : Tm α} {n : Nat}, n < f -> t.get n = some x -> Tm.putF (some x) f t n = t
 | 0, _, _, h, _ => absurd h (by omega)
 | f + 1, .nil, n, _, h => by cases h
 | f + 1, .node v l r, n, hn, h => by
  rcases index_cases n with rfl | ⟨k, rfl⟩ | ⟨k, rfl⟩
  . rw [get_zero] at h; subst h; rfl
  . rw [get_odd] at h; rw [putF_odd]; simp only [Tm.left, Tm.right, Tm.val]; rw [put_self (by omega) h]
  . rw [get_even] at h; rw [putF_even]; simp only [Tm.left, Tm.right, Tm.val]; rw [put_self (by omega) h]
theorem Heap.set_self {h : Heap} {id : Nat} {o : Obj} (ho : h.obj id = some o) : h.set id (some o) = h := by
 show (⟨h.next, h.tr.put id (some o)⟩ : Heap) = h
 rw [show h.tr.put id (some o) = h.tr from Tm.put_self (Nat.lt_succ_self id) ho]
theorem Tm.upd_self {α : Type} {x : α} : ∀ {t : Tm α} {n : Nat}, t.get n = some x -> t.upd x n = t
 | .nil, n, h => by cases h
 | .node v l r, n, h => by
  rcases index_cases n with rfl | ⟨k, rfl⟩ | ⟨k, rfl⟩
  . rw [get_zero] at h; subst h; rfl
  . rw [get_odd] at h; rw [upd_odd, upd_self h]
  . rw [get_even] at h; rw [upd_even, upd_self h]
section
variable {cfg : Cfg} {ts : Ts} {hb : Rd} {rows : List Nat} {slot : Nat} {h : Heap}
theorem sElems_ok {j : TI} {xd : D} {x : V} {r : List V × Bool} (hq : (sElems hb rows j xd x).den = some r) : elems j.sh hb x = some r.1 := by
 unfold sElems at hq
 split at hq
 . split at hq
   . split at hq
     . obtain ⟨h1, h2⟩ := cond_den hq
       cases h2
       simp only [elems, if_pos (Option.isNone_iff_eq_none.1 h1)]
       rfl
     . cases hq
   . obtain ⟨es, h1, h2⟩ := Dt.opt_some hq
     cases h2
     unfold elemsT at h1
     split at h1
     . cases h1; rfl
     . split at h1
       . rename_i hc; cases h1; simp only [elems, if_pos hc]
       . cases h1
     . cases h1
 . split at hq
   . rename_i id gen off len sh _ g t fz cs ho
     obtain ⟨hs, h1⟩ := cond_den hq
     have hs := of_decide_eq_true hs
     simp only [elems, ho]
     cases hr : rows.contains id with
     | true =>
      rw [hr] at h1
      obtain ⟨hg, h2⟩ := Dt.chk_some h1
      obtain ⟨es, h3, h4⟩ := Dt.opt_some h2
      cases h4
      rw [if_pos ⟨natEq_eq hg, hs⟩, <- hs]
      exact h3
     | false =>
      rw [hr] at h1
      obtain ⟨hg, h2⟩ := cond_den h1
      obtain ⟨es, h3, h4⟩ := Dt.lift_bind_some h2
      obtain ⟨u, h5, h6⟩ := Dt.bind_some h4
      cases h6
      rw [if_pos ⟨beq_eq hg, hs⟩, <- hs, h3]
      simp only [oS]
      rw [if_pos]
      simp only [List.all_eq_true]
      rw [hs]
      exact fitNodes_ok h5
   . cases hq
 . cases hq
theorem baseT_ok {slot : Nat} {e : TypeId} {j : TI} {q : T} {x : V} {xs : List T} {es : List V} (hb' : baseT j.sh j.size q = some xs) (he : elems j.sh hb x = some es) :
  (es.isEmpty = true -> appendNew slot e j hb (.t q) x = some (.t q, none)) ∧
  (es.isEmpty = false -> newOK xs.length es.length j.bytes = true -> appendNew slot e j hb (.t q) x = some (.msl slot 1 0 (lenNew xs es) j.sh, some (.cells 1 e false (rowNew xs es)))) := by
 unfold baseT at hb'
 split at hb'
 . cases hb'
   simp only [appendNew, he, oS]
   refine ⟨fun h => by rw [if_pos h], fun h hn => ?_⟩
   have hn := of_decide_eq_true hn
   simp only [List.length_nil, Nat.zero_add] at hn
   rw [if_neg (by simp [h]), if_pos hn]
   simp [newRow, lenNew, rowNew]
 . split at hb'
   . rename_i hc
     cases hb'
     simp only [appendNew, he, oS]
     refine ⟨fun h => by rw [if_pos h], fun h hn => ?_⟩
     have hn := of_decide_eq_true hn
     rw [if_neg (by simp [h]), if_pos ⟨hc.1, hc.2.1, hc.2.2, hn⟩]
     simp [newRow, lenNew, rowNew]
   . cases hb'
 . cases hb'
theorem sAppNew_ok {e : TypeId} {j : TI} {xd : D} {s x : V} {r : V × Option Obj} (hq : (sAppNew slot hb rows e j xd s x).den = some r) : appendNew slot e j hb s x = some r := by
 unfold sAppNew at hq
 split at hq
 . obtain ⟨⟨es, lit⟩, h1, h2⟩ := Dt.bind_some hq
   obtain ⟨xs, h3, h4⟩ := Dt.opt_some h2
   have he := sElems_ok h1
   obtain ⟨k1, k2⟩ := baseT_ok (slot := slot) (e := e) h3 he
   cases lit with
   | true =>
    simp only [cond_true] at h4
    split at h4
    . cases h4; exact k1 rfl
    . skip
      obtain ⟨h5, h6⟩ := Dt.chk_some h4
      cases h6
      exact k2 rfl h5
   | false =>
    simp only [cond_false, Dt.den] at h4
    cases hn : isNilL es with
    | true => rw [hn] at h4; cases h4; exact k1 hn
    | false =>
     rw [hn] at h4
     simp only [cond_false] at h4
     cases hk : newOK xs.length es.length j.bytes with
     | true => rw [hk] at h4; cases h4; exact k2 hn hk
     | false => rw [hk] at h4; cases h4
 . cases hq
theorem sAppV_ok {e : TypeId} {j : TI} {xd : D} {s x : V} {r : V × Heap} (hq : (sAppV slot h rows e j xd s x).den = some r) : appendV slot e j h h.obj s x = some r := by
 unfold sAppV at hq
 split at hq
 . rename_i id gen off len sh
   obtain ⟨hs, h1⟩ := cond_den hq
   have hs := of_decide_eq_true hs
   obtain ⟨⟨es, lit⟩, h2, h3⟩ := Dt.bind_some h1
   have he := sElems_ok h2
   simp only at h3
   split at h3
   . rename_i g t fz cs ho
     obtain ⟨hc, h4⟩ := cond_den h3
     obtain ⟨hg, h5⟩ := Dt.chk_some h4
     obtain ⟨hk, h6⟩ := Dt.chk_some h5
     cases h6
     simp only [Bool.and_eq_true, Bool.not_eq_true'] at hc
     have hfz := hc.1
     subst hfz
     have hte := beq_eq hc.2
     have hge := natEq_eq hg
     simp only [appendV, hs, ne_eq, not_true_eq_false, if_false, he, oS]
     cases hn : es.isEmpty with
     | true =>
      have : es = [] := List.isEmpty_iff.1 hn
      subst this
      simp only [if_true, appGen, appOff, appLen, appCs, List.isEmpty_nil, cond_true, List.length_nil, Nat.add_zero]
      rw [Heap.set_self ho, hge]
     | false =>
      simp only [appOK, hn, Bool.false_or, decide_eq_true_eq] at hk
      simp only [Bool.false_eq_true, if_false, ho]
      rw [if_neg (by simp [hge]), if_neg (by rw [<- hs]; exact hk.1), if_pos ⟨hte, by rw [<- hs]; exact hk.2.1, hk.2.2⟩]
      simp only [appGen, appOff, appLen, appCs, hn, cond_false]
   . cases h3
 . rename_i hs
   obtain ⟨⟨v, ob⟩, h1, rfl⟩ := Dt.map_some hq
   have := sAppNew_ok h1
   unfold appendV
   split
   . exact absurd rfl (hs _ _ _ _ _)
   . rw [this]
     cases ob <;> rfl
theorem qAppend_stat {args : List Operand} {tys : List TypeId} {st : TypeId × TI × D × V × V} (hs : appStat cfg ts args tys = some st) {r : V × Option Obj} (hq : appendNew slot st.1 st.2.1 hb st.2.2.2.1 st.2.2.2.2 = some r) : qAppend cfg slot ts hb args tys = some r := by
 unfold appStat at hs
 split at hs
 . simp only [oB] at hs
   obtain ⟨⟨e, j⟩, h1, xi, h2, sv, h3, xv, h4, hs⟩ := hs
   split at hs
   . cases hs
   . rename_i hc
     cases hs
     simp only [qAppend, h1, h2, h3, h4, oS, hc, if_false]
     exact hq
 . cases hs
theorem lAppend_stat {args : List Operand} {tys : List TypeId} {st : TypeId × TI × D × V × V} (hs : appStat cfg ts args tys = some st) {r : V × Heap} (hq : appendV slot st.1 st.2.1 h h.obj st.2.2.2.1 st.2.2.2.2 = some r) : lAppend cfg slot ts h args tys = some r := by
 unfold appStat at hs
 split at hs
 . simp only [oB] at hs
   obtain ⟨⟨e, j⟩, h1, xi, h2, sv, h3, xv, h4, hs⟩ := hs
   split at hs
   . cases hs
   . rename_i hc
     cases hs
     simp only [lAppend, h1, h2, h3, h4, oS, hc, if_false]
     exact hq
 . cases hs
theorem sCallP_ok {f : FuncId} {args : List V} {v : V} (hq : (sCallP cfg hb rows f args).den = some v) : ∃ n, quietCall cfg (env cfg n) f args hb = some v := by
 unfold sCallP at hq
 split at hq
 . rename_i hm
   obtain ⟨xs, h1, h2⟩ := Dt.lift_bind_some hq
   obtain ⟨r, h3, h4⟩ := Dt.opt_some h2
   obtain ⟨y, h5, rfl⟩ := Dt.map_some h4
   obtain ⟨n, hn⟩ := fnO_some.1 h3
   exact ⟨n, by simp only [quietCall, hm, h1, oS, hn, Option.map_some, viewR_ok h5]⟩
 . rename_i hm
   obtain ⟨xs, h1, h2⟩ := Dt.bind_some hq
   obtain ⟨r, h3, h4⟩ := Dt.opt_some h2
   obtain ⟨hsc, h4⟩ := Dt.chk_some h4
   obtain ⟨y, h5, rfl⟩ := Dt.map_some h4
   obtain ⟨n, hn⟩ := fnO_some.1 h3
   exact ⟨n, by simp only [quietCall, hm, mapD_ok (sSnap_ok snapFuel) h1, oS, hn, hsc, if_true, viewR_ok h5]⟩
 . cases hq
theorem allT_map (xs : List T) : allT (xs.map .t) = some xs := by
 induction xs with
 | nil => rfl
 | cons x xs ih =>
  show mapO toT (.t x :: xs.map .t) = _
  simp only [mapO, toT, oS]
  rw [show mapO toT (xs.map .t) = some xs from ih]
  rfl
theorem sCallV_ok {ty : TypeId} {fv : V} {args : List V} {v : V} (hq : (sCallV cfg h.obj rows ty fv args).den = some v) :
  ∃ n tgt a b, tgtOf fv = some (tgt, a, b) /\ doCall cfg (env cfg n) tgt (a ++ args ++ b) h = some (v, h) := by
 unfold sCallV at hq
 split at hq
 . obtain ⟨xs, h1, h2⟩ := Dt.lift_bind_some hq
   obtain ⟨r, h3, h4⟩ := Dt.opt_some h2
   obtain ⟨y, h5, rfl⟩ := Dt.map_some h4
   have hx := allT_spec h1
   unfold callT at h3
   split at h3
   . rename_i f a b
     have hall : allT (a.map V.t ++ args ++ b.map V.t) = some (a ++ xs ++ b) := by
      rw [hx, <- List.map_append, <- List.map_append]
      exact allT_map _
     split at h3
     . rename_i hm
       obtain ⟨n, hn⟩ := fnO_some.1 h3
       refine ⟨n, _, _, _, rfl, ?_⟩
       simp only [doCall, hm, quietCall, hall, oS, hn, Option.map_some, viewT_ok h5]
     . rename_i hm
       simp only [oB] at h3
       obtain ⟨r', h3, h6⟩ := h3
       split at h6
       . rename_i hsc
         cases h6
         obtain ⟨n, hn⟩ := fnO_some.1 h3
         refine ⟨n, _, _, _, rfl, ?_⟩
         have hsn : mapO (snap h.obj snapFuel) (a.map V.t ++ args ++ b.map V.t) = some (a ++ xs ++ b) := by
          rw [hx, <- List.map_append, <- List.map_append]
          exact mapO_snap_t (n := 59) _
         simp only [doCall, hm, quietCall, hsn, oS, hn, hsc, if_true, Option.map_some, viewT_ok h5]
       . cases h6
     . cases h3
   . cases h3
 . rename_i f a b
   obtain ⟨n, hn⟩ := sCallP_ok hq
   refine ⟨n, _, _, _, rfl, ?_⟩
   have hm : cfg.mode f ≠ .shared := by
    intro hm
    unfold quietCall at hn
    rw [hm] at hn
    cases hn
   have hm2 : cfg.mode f ≠ .framed := by
    intro hm
    unfold quietCall at hn
    rw [hm] at hn
    cases hn
   unfold doCall
   split
   . rename_i g heq
     cases heq
     split
     . rename_i hms; exact absurd hms hm
     . rename_i hms; exact absurd hms hm2
     . rw [hn]; rfl
   . rename_i heq; cases heq
 . cases hq
theorem callO_some {f : FuncId} {xs : List T} {r : V × Heap} (hq : callO cfg f xs = some r) : ∃ n, (env cfg n).call (.fn f) (xs.map .t) .empty = some r := by
 unfold callO at hq
 split at hq
 . rename_i he
   obtain ⟨n, hn⟩ := Classical.choose_spec he
   cases hq
   exact ⟨n, hn⟩
 . cases hq
theorem callO_of {f : FuncId} {xs : List T} {r : V × Heap} {n : Nat} (hn : (env cfg n).call (.fn f) (xs.map .t) .empty = some r) : callO cfg f xs = some r := by
 have he : ∃ r n, (env cfg n).call (.fn f) (xs.map .t) .empty = some r := ⟨r, n, hn⟩
 unfold callO
 rw [dif_pos he]
 obtain ⟨m, hm⟩ := Classical.choose_spec he
 have h1 := (env_le (Nat.le_max_left n m)).call _ _ _ r hn
 have h2 := (env_le (Nat.le_max_right n m)).call _ _ _ _ hm
 rw [h1] at h2
 exact h2.symm
theorem adopt_ok {flat : Bool} {e : TypeId} {sh : Option Nat} {p : V × Heap} {r : V × Option Obj} (hq : (Dt.ite (treeV p.1) (.opt T (freshTree flat p) fun x => .ret (.t x, none)) (.opt (Nat × Nat × List V) (freshRow flat e sh p) fun q => .ret (.msl slot 1 q.1 q.2.1 sh, some (.cells 1 e false q.2.2)))).den = some r) :
  adopt slot flat p.1 p.2 = some r := by
 obtain ⟨v, h⟩ := p
 cases ht : treeV v with
 | true =>
  simp only [Dt.den, ht, cond_true, oB] at hq
  obtain ⟨x, h1, h2⟩ := hq
  cases h2
  unfold freshTree at h1
  split at h1
  . rename_i y hy
    simp only at hy
    subst hy
    split at h1
    . rename_i hc
      cases h1
      simp only [adopt]
      cases flat with
      | true => rfl
      | false => simp only [Bool.false_or] at hc; simp [hc]
    . cases h1
  . cases h1
 | false =>
  simp only [Dt.den, ht, cond_false, oB] at hq
  obtain ⟨q, h1, h2⟩ := hq
  cases h2
  unfold freshRow at h1
  split at h1
  . rename_i id gen off len sh' hv
    simp only at hv
    subst hv
    split at h1
    . rename_i g e' cs ho
      simp only [oB] at h1
      obtain ⟨xs, hx, h1⟩ := h1
      split at h1
      . rename_i hc
        cases h1
        obtain ⟨c1, c2, rfl, rfl⟩ := hc
        simp only at ho
        simp only [adopt, ho, hx, oS, if_pos (show _ /\ _ from ⟨c1, c2⟩)]
      . cases h1
    . cases h1
  . cases h1
theorem sFresh_ok {f : FuncId} {args : List V} {r : V × Option Obj} (hq : (sFresh cfg hb rows slot f args).den = some r) : ∃ n, freshCall (env cfg n) slot f args hb = some r := by
 unfold sFresh at hq
 split at hq
 . obtain ⟨ej, h1, h2⟩ := Dt.lift_bind_some hq
   split at h2
   . rename_i xs hx
     obtain ⟨p, h3, h4⟩ := Dt.opt_some h2
     obtain ⟨n, hn⟩ := callO_some h3
     exact ⟨n, by simp only [freshCall, hx, hn, oS]; exact adopt_ok h4⟩
   . rename_i hx
     obtain ⟨xs, h3, h4⟩ := Dt.bind_some h2
     obtain ⟨p, h5, h6⟩ := Dt.opt_some h4
     obtain ⟨n, hn⟩ := callO_some h5
     exact ⟨n, by simp only [freshCall, hx, mapD_ok (sSnap_ok snapFuel) h3, hn, oS]; exact adopt_ok h6⟩
 . cases hq
theorem adoptAt_set {h : Heap} {id g off len : Nat} {sh : Option Nat} {e : TypeId} {cs : List V} {ys : List T} (ho : h.obj id = some (.cells g e false cs)) (hy : allT cs = some ys) : ∀ {xs : List T} {k : Nat}, k < xs.length →
  adoptAt slot h ((xs.map V.t).set k (.msl id g off len sh)) = some ((xs.map V.t).set k (.msl slot 1 off len sh), some (.cells 1 e false cs))
 | [], k, hk => by simp at hk
 | x :: xs, 0, _ => by
  have : ∀ zs : List T, allT (zs.map V.t) = some zs := by
   intro zs
   induction zs with
   | nil => rfl
   | cons z zs ih => simp only [allT, mapO, List.map_cons, toT, oS] at ih ⊢; rw [ih]; rfl
  simp only [List.map_cons, List.set_cons_zero, adoptAt, ho, hy, this, oS, if_true]
 | x :: xs, k + 1, hk => by
  simp only [List.map_cons, List.set_cons_succ, adoptAt, adoptAt_set ho hy (Nat.lt_of_succ_lt_succ hk), Option.map_some]
theorem twinFields_ok {ti : TypeId -> Option TI} {xs : List T} {k : Nat} {m : V} : ∀ {fs : List (TypeId × Nat × Bool)} {i : Nat} {ws : List V}, (twinFields ti xs k m fs i).den = some ws -> ws.length = fs.length /\ ∀ j, j < fs.length -> ws[j]? = some (if i + j = k then m else .t (nthT xs (i + j)))
 | [], i, ws, h => by cases h; exact ⟨rfl, fun j hj => by simp at hj⟩
 | f :: r, i, ws, h => by
  unfold twinFields at h
  cases hk : Nat.beq i k with
  | true =>
   rw [hk] at h
   obtain ⟨ys, h1, h2⟩ := Dt.bind_some h
   cases h2
   obtain ⟨a1, a2⟩ := twinFields_ok h1
   refine ⟨by simp [a1], fun j hj => ?_⟩
   cases j with
   | zero => rw [if_pos (by simpa using beq_eq hk)]; rfl
   | succ j =>
    have := a2 j (by simpa using hj)
    rw [List.getElem?_cons_succ, this, show i + 1 + j = i + (j + 1) by omega]
  | false =>
   rw [hk] at h
   obtain ⟨y, h0, h3⟩ := Dt.bind_some h
   obtain ⟨ys, h1, h2⟩ := Dt.bind_some h3
   cases h2
   obtain ⟨a1, a2⟩ := twinFields_ok h1
   rw [viewT_ok h0]
   refine ⟨by simp [a1], fun j hj => ?_⟩
   cases j with
   | zero => rw [if_neg (fun e => by simp only [Nat.add_zero] at e; subst e; rw [Nat.beq_refl] at hk; cases hk)]; rfl
   | succ j =>
    have := a2 j (by simpa using hj)
    rw [List.getElem?_cons_succ, this, show i + 1 + j = i + (j + 1) by omega]
theorem sTwin_ok {f : FuncId} {args : List V} {r : V × Option Obj} (hq : (sTwin cfg slot f args).den = some r) : ∃ n, freshCall (env cfg n) slot f args hb = some r := by
 unfold sTwin at hq
 split at hq
 . obtain ⟨i, h1, h2⟩ := Dt.lift_bind_some hq
   split at h2
   . rename_i fs hd
     obtain ⟨k, hk, h2⟩ := Dt.lift_bind_some h2
     obtain ⟨kt, hkt, h2⟩ := Dt.lift_bind_some h2
     obtain ⟨ej, hej, h2⟩ := Dt.lift_bind_some h2
     obtain ⟨xs, hx, h2⟩ := Dt.lift_bind_some h2
     obtain ⟨p, h3, h4⟩ := Dt.opt_some h2
     obtain ⟨n, hn⟩ := callO_some h3
     refine ⟨n, ?_⟩
     simp only [freshCall, hx, hn, oS]
     cases ht : treeV p.1 with
     | true =>
      simp only [Dt.den, ht, cond_true, oB] at h4
      obtain ⟨x, h5, h6⟩ := h4
      obtain ⟨y, h7, h8⟩ := Dt.bind_some h6
      cases h8
      rw [viewT_ok h7]
      unfold freshTree at h5
      split at h5
      . rename_i x' hv
        simp only [Bool.true_or, if_true, oI] at h5
        subst h5
        simp only [hv, adopt, if_true]
      . cases h5
     | false =>
      simp only [Dt.den, ht, cond_false, oB] at h4
      obtain ⟨q, h5, h6⟩ := h4
      obtain ⟨ws, h7, h8⟩ := Dt.bind_some h6
      cases h8
      unfold aggRow at h5
      split at h5
      . rename_i vs hv
        split at h5
        . rename_i id gen off len sh' hvk
          split at h5
          . rename_i g e' cs ho
            simp only [oB] at h5
            obtain ⟨ys, hy, zs, hz, h5⟩ := h5
            split at h5
            . rename_i hc
              obtain ⟨rfl, rfl, rfl, hlen⟩ := hc
              cases h5
              have hkl : k < vs.length := by rw [gS] at hvk; exact hvk.1
              have hzs := allT_spec hz
              have hzl : zs.length = vs.length := by have := congrArg List.length hzs; simpa using this.symm
              have hvs : vs = (zs.map V.t).set k (.msl id g off len ej.2.sh) := by
               rw [<- hzs, List.set_set]
               apply List.ext_getElem?
               intro j
               by_cases e : k = j
               . subst e; rw [List.getElem?_set_self hkl]; exact hvk
               . rw [List.getElem?_set_ne e]
              obtain ⟨a1, a2⟩ := twinFields_ok h7
              have hws : ws = (zs.map V.t).set k (.msl slot 1 off len ej.2.sh) := by
               apply List.ext_getElem?
               intro j
               by_cases hj : j < fs.length
               . rw [a2 j hj, Nat.zero_add]
                 by_cases e : k = j
                 . subst e; rw [List.getElem?_set_self (by simpa [hzl] using hkl), if_pos rfl]
                 . rw [List.getElem?_set_ne e, if_neg (fun h => e h.symm), List.getElem?_map]
                   have hjz : j < zs.length := by omega
                   rw [nthT, gD, gE hjz, Option.map_some, Option.getD_some]
               . rw [List.getElem?_eq_none (by omega), List.getElem?_eq_none (by simp; omega)]
              rw [hv]
              simp only [adopt, if_true]
              rw [hws, hvs, adoptAt_set ho hy (by omega)]
              rfl
            . cases h5
          . cases h5
        . cases h5
      . cases h5
   . cases h2
 . cases hq
theorem sStore_ok {t : TypeId} {a x : Operand} {r : V × Heap} (hq : (sStore cfg ts h rows t a x).den = some r) : lStore cfg ts h t a x = some r := by
 unfold sStore at hq
 obtain ⟨i, hi, h1⟩ := Dt.lift_bind_some hq
 obtain ⟨p, hp, h2⟩ := Dt.lift_bind_some h1
 obtain ⟨v, hv, h3⟩ := Dt.lift_bind_some h2
 obtain ⟨u, hu, h4⟩ := Dt.bind_some h3
 have hf := fitNode_ok hu
 simp only [cellsI_eq hf] at h4
 simp only [lStore, hi, hp, hv, oS]
 split at h4
 . split at h4
   . rename_i id gen off sh _ g e fz cs ho
     cases fz with
     | true => cases h4
     | false =>
      simp only [cond_false] at h4
      simp only [ho]
      cases hr : rows.contains id with
      | true =>
       rw [hr] at h4
       obtain ⟨hg, h5⟩ := Dt.chk_some h4
       obtain ⟨hk, h6⟩ := Dt.chk_some h5
       cases h6
       rw [if_pos ⟨natEq_eq hg, trivial, hf, of_decide_eq_true hk⟩]
       rfl
      | false =>
       rw [hr] at h4
       simp only [cond_false] at h4
       obtain ⟨hg, h5⟩ := cond_den h4
       cases h5
       simp only [Bool.and_eq_true] at hg
       rw [if_pos ⟨beq_eq hg.1, trivial, hf, Nat.le_of_ble_eq_true hg.2⟩]
   . rename_i id gen off sh _ g e cs fc ho
     obtain ⟨hg, h5⟩ := Dt.chk_some h4
     obtain ⟨hk, h6⟩ := Dt.chk_some h5
     simp only [ho]
     rw [if_pos ⟨natEq_eq hg, hf, of_decide_eq_true hk⟩]
     cases fc with
     | none => cases h6; rfl
     | some p =>
      obtain ⟨h7, h8⟩ := cond_den h6
      obtain ⟨h9, h10⟩ := Dt.chk_some h8
      cases h10
      simp only [focOf, if_pos (And.intro (natEq_eq h9) (beq_eq h7)), oS, cond_true]
   . cases h4
 . cases h4
theorem sMapUpdate_ok {t : TypeId} {m k x : Operand} {r : V × Heap} (hq : (sMapUpdate cfg ts h t m k x).den = some r) : lMapUpdate cfg ts h t m k x = some r := by
 unfold sMapUpdate at hq
 obtain ⟨i, hi, h1⟩ := Dt.lift_bind_some hq
 simp only [lMapUpdate, hi, oS]
 split at h1
 case h_2 => cases h1
 rename_i kt et hd
 obtain ⟨ki, hki, h2⟩ := Dt.lift_bind_some h1
 obtain ⟨mv, hm, h3⟩ := Dt.lift_bind_some h2
 obtain ⟨kv, hkv, h4⟩ := Dt.lift_bind_some h3
 obtain ⟨key, hkey, h5⟩ := Dt.lift_bind_some h4
 obtain ⟨v, hv, h6⟩ := Dt.lift_bind_some h5
 obtain ⟨hf, h7⟩ := cond_den h6
 simp only [hd, hki, hm, hkv, hkey, hv, oS, hf, if_true]
 split at h7
 . split at h7
   . rename_i ks vs ho
     obtain ⟨p, hp, h8⟩ := Dt.opt_some h7
     cases h8
     simp only [putM, oM] at hp
     obtain ⟨r, hr, rfl⟩ := hp
     simp only [ho, hr, oS]
     cases r <;> rfl
   . cases h7
 . cases h7
theorem sPick_ok {res : List Tmp} {c a b : Operand} {v : V} (hq : (sPick ts res c a b).den = some v) : qPick ts c a b = some (v, none) := by
 unfold sPick at hq
 obtain ⟨cv, hc, h1⟩ := Dt.lift_bind_some hq
 simp only [qPick, hc, oS]
 have k : ∀ t : Bool, ((cond t (Dt.lift (ev ts a)) (Dt.lift (ev ts b))).den = some v \/ (Dt.ite t (Dt.lift (ev ts a)) (Dt.lift (ev ts b))).den = some v) -> (match V.t (.bool t) with
  | .t (.bool true) => one (ev ts a)
  | .t (.bool false) => one (ev ts b)
  | _ => none) = some (v, none) := by
  intro t ht
  cases t <;> simp only [cond_true, cond_false, Dt.den, Dt.den_lift, or_self] at ht <;> simp [one, ht]
 split at h1
 . split at h1
   . rename_i t
     split at h1
     . rename_i d
       cases hd : res.contains d <;> rw [hd] at h1
       . exact k t (.inr h1)
       . exact k t (.inl h1)
     . exact k t (.inl h1)
   . cases h1
 . cases h1
theorem one0_some {d : Dt V} {r : V × Option Obj} (hq : (one0 d).den = some r) : ∃ v, d.den = some v /\ r = (v, none) := by
 obtain ⟨v, h1, h2⟩ := Dt.map_some hq
 exact ⟨v, h1, h2.symm⟩
theorem sSData_ok {d : D} {v r : V} (hq : (sSData v).den = some r) : sdataV d v = some r := by
 unfold sSData at hq
 split at hq
 . split at hq
   . cases hq; rfl
   . cases hq
 . obtain ⟨h1, h2⟩ := Dt.chk_some hq
   cases h2
   simp only [sdataV, if_pos (Nat.le_of_ble_eq_true h1)]
 . cases hq
theorem sUStr_ok {e : TypeId} {h : Heap} {z : Int} {p : V} {r : V × Heap} (hq : (sUStr e h z p).den = some r) : uString e h z p = some r := by
 unfold sUStr at hq
 split at hq
 . split at hq
   . obtain ⟨h1, h2⟩ := Dt.chk_some hq
     cases h2
     simp only [uString, if_pos (of_decide_eq_true h1)]
   . cases hq
 . split at hq
   . rename_i ho
     obtain ⟨h0, hq⟩ := cond_den hq
     obtain ⟨h1, h2⟩ := Dt.chk_some hq
     obtain ⟨s, h3, h4⟩ := Dt.opt_some h2
     cases h4
     simp only [uString, ho, h3, natEq_eq h1, Nat.eq_of_beq_eq_true h0, and_self, if_true, Option.map_some]
   . cases hq
 . cases hq
theorem sBuiltin_ok {args : List Operand} {tys : List TypeId} {b : Builtin} {r : V × Option Obj} (hq : (sBuiltin cfg slot ts hb rows args tys b).den = some r) : qBuiltin cfg slot ts hb args tys b = some r := by
 unfold sBuiltin at hq
 split at hq
 . split at hq
   . obtain ⟨v, h1, rfl⟩ := one0_some hq
     obtain ⟨i, hi, h2⟩ := Dt.lift_bind_some h1
     obtain ⟨x, hx, h3⟩ := Dt.lift_bind_some h2
     simp only [qBuiltin, arg1, hi, hx, oS, sLenOp_ok h3, one, Option.map_some]
   . cases hq
 . split at hq
   . obtain ⟨v, h1, rfl⟩ := one0_some hq
     obtain ⟨i, hi, h2⟩ := Dt.lift_bind_some h1
     obtain ⟨x, hx, h3⟩ := Dt.lift_bind_some h2
     simp only [qBuiltin, arg1, hi, hx, oS, sCap_ok h3, one, Option.map_some]
   . cases hq
 . split at hq
   . obtain ⟨v, h1, rfl⟩ := one0_some hq
     obtain ⟨i, hi, h2⟩ := Dt.lift_bind_some h1
     obtain ⟨x, hx, h3⟩ := Dt.lift_bind_some h2
     simp only [qBuiltin, arg1, hi, hx, oS, sSData_ok h3, one, Option.map_some]
   . cases hq
 . obtain ⟨v, h1, rfl⟩ := one0_some hq
   obtain ⟨vs, hvs, h2⟩ := Dt.lift_bind_some h1
   split at h2
   . split at h2
     . have := sExt_ok h2
       simp only [qBuiltin, extV, hvs, oS, one]
       rw [show foldMax (fun x y => if y > x then y else x) = foldMax iMax from rfl, this]
       rfl
     . cases h2
   . cases h2
 . obtain ⟨v, h1, rfl⟩ := one0_some hq
   obtain ⟨vs, hvs, h2⟩ := Dt.lift_bind_some h1
   split at h2
   . split at h2
     . have := sExt_ok h2
       simp only [qBuiltin, extV, hvs, oS, one]
       rw [show foldMax (fun x y => if y < x then y else x) = foldMax iMin from rfl, this]
       rfl
     . cases h2
   . cases h2
 . obtain ⟨st, hs, h1⟩ := Dt.lift_bind_some hq
   exact qAppend_stat hs (sAppNew_ok h1)
 . cases hq
theorem sRange_ok {slot : Nat} {xt : TypeId} {x : Operand} {r : V × Option Obj} (hq : (sRange cfg slot ts xt x).den = some r) : qRange cfg slot ts xt x = some r := by
 unfold sRange at hq
 obtain ⟨i, hi, h1⟩ := Dt.lift_bind_some hq
 split at h1
 . rename_i k v hd
   obtain ⟨v, hv, h2⟩ := Dt.lift_bind_some h1
   split at h2
   . obtain ⟨p, hp, h3⟩ := Dt.opt_some h2
     unfold mpT at hp
     split at hp
     . cases hp
       cases h3
       simp only [qRange, hi, oS, hd, hv]
     . cases hp
   . cases h2
 . rwa [Dt.den_lift] at h1
theorem sQuiet_ok {imm : Bool} {o : Op} {res : List Tmp} {r : V × Option Obj} (hq : (sQuiet cfg imm o slot ts hb rows res).den = some r) : ∃ n, quiet cfg (env cfg n) imm o slot ts hb = some r := by
 have lift : ∀ {x : Option V}, (one0 (Dt.lift x)).den = some r -> one x = some r := by
  intro x h
  obtain ⟨v, h1, rfl⟩ := one0_some h
  rw [Dt.den_lift] at h1
  rw [h1]; rfl
 cases o with
 | call c =>
  simp only [sQuiet] at hq
  split at hq
  . rename_i b hc
    exact ⟨0, by simp only [quiet, qCall, hc]; exact sBuiltin_ok hq⟩
  . rename_i f hc
    obtain ⟨vs, hvs, h1⟩ := Dt.lift_bind_some hq
    split at h1
    . rename_i hm
      obtain ⟨n, hn⟩ := sFresh_ok h1
      exact ⟨n, by simp only [quiet, qCall, hc, hvs, oS, hm]; exact hn⟩
    . rename_i hm
      cases htw : twinAt cfg imm f with
      | true =>
       rw [htw] at h1
       obtain ⟨n, hn⟩ := sTwin_ok (hb := hb) h1
       refine ⟨n, ?_⟩
       simp only [quiet, qCall, hc, hvs, oS, htw]
       exact hn
      | false =>
       rw [htw] at h1
       obtain ⟨v, h2, rfl⟩ := one0_some h1
       obtain ⟨n, hn⟩ := sCallP_ok h2
       refine ⟨n, ?_⟩
       simp only [quiet, qCall, hc, hvs, oS, htw, cond_false]
       rw [hn]; rfl
  . cases hq
 | move x => exact ⟨0, lift hq⟩
 | assign x => exact ⟨0, lift hq⟩
 | pick c a b => obtain ⟨v, h1, rfl⟩ := one0_some hq; exact ⟨0, sPick_ok h1⟩
 | alloc e => exact ⟨0, by simp only [sQuiet, Dt.den_lift] at hq; exact hq⟩
 | box e x => exact ⟨0, sBox_ok hq⟩
 | build t parts => obtain ⟨v, h1, rfl⟩ := one0_some hq; exact ⟨0, sBuild_ok h1⟩
 | buildSlice t len parts => exact ⟨0, sBuildSlice_ok hq⟩
 | load t a => obtain ⟨v, h1, rfl⟩ := one0_some hq; exact ⟨0, sLoad_ok h1⟩
 | nilCheck x => obtain ⟨v, h1, rfl⟩ := one0_some hq; exact ⟨0, sNilCheck_ok h1⟩
 | binOp op xt x y rt => obtain ⟨v, h1, rfl⟩ := one0_some hq; exact ⟨0, sBin_ok h1⟩
 | unOp op xt x =>
  obtain ⟨v, h1, rfl⟩ := one0_some hq
  obtain ⟨a, ha, h2⟩ := Dt.lift_bind_some h1
  exact ⟨0, by simp only [quiet, ha, oS, sUn_ok h2]; rfl⟩
 | convert src dst x =>
  obtain ⟨v, h1, rfl⟩ := one0_some hq
  obtain ⟨i, hi, h2⟩ := Dt.lift_bind_some h1
  obtain ⟨j, hj, h3⟩ := Dt.lift_bind_some h2
  obtain ⟨a, ha, h4⟩ := Dt.lift_bind_some h3
  exact ⟨0, by simp only [quiet, qConvert, hi, hj, ha, oS, sConv_ok h4]; rfl⟩
 | makeInterface xt x => exact ⟨0, by simp only [sQuiet, Dt.den_lift] at hq; exact hq⟩
 | makeFunc fn first captured => exact ⟨0, by simp only [sQuiet, Dt.den_lift] at hq; exact hq⟩
 | makeMap t r => exact ⟨0, by simp only [sQuiet, Dt.den_lift] at hq; exact hq⟩
 | makeSlice t l c => exact ⟨0, sMakeSlice_ok hq⟩
 | slice xt x lo hi mx => obtain ⟨v, h1, rfl⟩ := one0_some hq; exact ⟨0, sSlice_ok h1⟩
 | fieldAddr s x f => obtain ⟨v, h1, rfl⟩ := one0_some hq; exact ⟨0, sFieldAddr_ok h1⟩
 | field s x f => exact ⟨0, by simp only [sQuiet, Dt.den_lift] at hq; exact hq⟩
 | indexAddr t x ix => obtain ⟨v, h1, rfl⟩ := one0_some hq; exact ⟨0, sIndexAddr_ok h1⟩
 | index t x ix => obtain ⟨v, h1, rfl⟩ := one0_some hq; exact ⟨0, sIndex_ok h1⟩
 | lookup t x k ok => obtain ⟨v, h1, rfl⟩ := one0_some hq; exact ⟨0, sLookup_ok h1⟩
 | extract t ix => exact ⟨0, by simp only [sQuiet, Dt.den_lift] at hq; exact hq⟩
 | range xt x => exact ⟨0, sRange_ok hq⟩
 | _ => cases hq
theorem sClear_ok {args : List Operand} {tys : List TypeId} {st : TI × T × V} {r : V × Heap} (hs : clrStat cfg ts args tys = some st) (hq : (sClear h st.1 st.2.1 st.2.2).den = some r) : lClear cfg ts h args tys = some r := by
 unfold clrStat at hs
 split at hs
 case h_2 => cases hs
 rename_i x t
 simp only [oB] at hs
 obtain ⟨⟨e, j⟩, hse, z, hz, v, hv, hs⟩ := hs
 split at hs
 case isTrue => cases hs
 rename_i hc
 cases hs
 simp only [Bool.or_eq_true, Bool.not_eq_eq_eq_not, Bool.not_true, not_or, Bool.not_eq_false] at hc
 obtain ⟨hzf, hj0⟩ := hc
 have hj0' : j.size ≠ 0 := fun e => by rw [e] at hj0; exact hj0 rfl
 simp only at hz hzf
 simp only [lClear, hse, hz, hv, oS]
 replace hq : (sClear h j z v).den = some r := hq
 unfold sClear at hq
 split at hq
 . rename_i q
   obtain ⟨h1, h2⟩ := Dt.chk_some hq
   cases h2
   unfold isEmptyT at h1
   split at h1 <;> first | rfl | cases h1
 . rename_i id gen off len sh
   cases hsh : decide (sh = j.sh) with
   | false => rw [hsh] at hq; cases hq
   | true =>
    rw [hsh] at hq
    simp only [cond_true] at hq
    have hsh' := of_decide_eq_true hsh
    split at hq
    . rename_i g e' fz cs ho
      cases fz with
      | true => cases hq
      | false =>
       simp only [cond_false] at hq
       obtain ⟨hg, h2⟩ := Dt.chk_some hq
       obtain ⟨hk, h3⟩ := Dt.chk_some h2
       cases h3
       have hg' : g = gen := Nat.eq_of_beq_eq_true hg
       have hk' := of_decide_eq_true hk
       simp only [ho]
       rw [if_neg (by simp only [ne_eq, hsh', not_true_eq_false, false_or, not_or, Decidable.not_not]; exact ⟨by simpa using hzf, hj0'⟩), if_pos ⟨hg', trivial, hk'⟩]
       rfl
    . cases hq
 . cases hq
theorem sLoud_ok {o : Oper} {r : V × Heap} (hq : (sLoud cfg o slot ts h rows).den = some r) : ∃ n, loud cfg (env cfg n) o.op slot ts h = some r := by
 unfold sLoud at hq
 split at hq
 . rename_i t a x ho; exact ⟨0, by rw [ho]; exact sStore_ok hq⟩
 . rename_i t a k x ho; exact ⟨0, by rw [ho]; exact sMapUpdate_ok hq⟩
 . rename_i t a k x ho; exact ⟨0, by rw [ho]; exact sMapUpdate_ok hq⟩
 . rename_i c ho
   split at hq
   . rename_i hc
     obtain ⟨st, hs, h1⟩ := Dt.lift_bind_some hq
     exact ⟨0, by simp only [ho, loud, lCall, hc]; exact lAppend_stat hs (sAppV_ok h1)⟩
   . rename_i hc
     obtain ⟨st, hs, h1⟩ := Dt.lift_bind_some hq
     exact ⟨0, by simp only [ho, loud, lCall, hc]; exact sClear_ok hs h1⟩
   . rename_i hc
     obtain ⟨⟨e, pv, nv⟩, hs, h1⟩ := Dt.lift_bind_some hq
     refine ⟨0, ?_⟩
     simp only [ho, loud, lCall, hc]
     unfold uStat at hs
     split at hs
     case h_2 => cases hs
     rename_i p n t tr hx ht
     simp only [oB] at hs
     obtain ⟨i, hi, hs⟩ := hs
     split at hs
     case h_2 => cases hs
     rename_i e1 hd
     simp only [oB] at hs
     obtain ⟨j, hj, pv1, hpv, nv1, hnv, hs⟩ := hs
     split at hs
     case isFalse => cases hs
     rename_i hj1
     cases hs
     simp only at h1
     split at h1
     . split at h1
       . split at h1
         . simp only [lUString, hx, ht, hi, hd, hj, hpv, hnv, oS, if_pos hj1]
           exact sUStr_ok h1
         . cases h1
       . cases h1
     . cases h1
   . cases hq
   . rename_i f hc
     obtain ⟨fv, hf, h1⟩ := Dt.lift_bind_some hq
     obtain ⟨vs, hvs, h2⟩ := Dt.lift_bind_some h1
     obtain ⟨v, h3, rfl⟩ := Dt.map_some h2
     obtain ⟨n, tgt, a, b, ht, hd⟩ := sCallV_ok h3
     refine ⟨n, ?_⟩
     simp only [ho, loud, lCall, hc, hf, ht, hvs, oS]
     exact hd
   . cases hq
 . cases hq
theorem sAppF_ok {e : TypeId} {j : TI} {xd : D} {s x : V} {v : V} (hq : (sAppF hb rows j xd s x).den = some v) : ∃ r, appendNew slot e j hb s x = some r /\ frzQ true slot r = some (v, none) := by
 unfold sAppF at hq
 split at hq
 . obtain ⟨⟨es, lit⟩, h1, h2⟩ := Dt.bind_some hq
   obtain ⟨y, h3, h4⟩ := Dt.opt_some h2
   cases h4
   have he := sElems_ok h1
   simp only [appT, oB] at h3
   obtain ⟨xs, hb1, h3⟩ := h3
   obtain ⟨k1, k2⟩ := baseT_ok (slot := slot) (e := e) hb1 he
   cases hn : es.isEmpty with
   | true =>
    rw [hn] at h3
    cases h3
    exact ⟨_, k1 hn, rfl⟩
   | false =>
    rw [hn] at h3
    simp only [cond_false] at h3
    cases hk : newOK xs.length es.length j.bytes with
    | false => rw [hk] at h3; cases h3
    | true =>
     rw [hk] at h3
     simp only [cond_true] at h3
     refine ⟨_, k2 hn hk, ?_⟩
     simp only [frzQ, cond_true, and_self, if_true, h3, Option.map_some]
 . cases hq
theorem sFrzQ_ok {b : Bool} {r r' : V × Option Obj} (hq : (sFrzQ b slot r).den = some r') : frzQ b slot r = some r' := by
 unfold sFrzQ at hq
 unfold frzQ
 cases b with
 | false => cases hq; rfl
 | true =>
  simp only [cond_true] at hq ⊢
  obtain ⟨v, ob⟩ := r
  cases v with
  | t x => cases hq; rfl
  | msl id gen off len sh =>
   cases ob with
   | none => cases hq
   | some o =>
    cases o with
    | cells g e fz cs =>
     simp only at hq ⊢
     obtain ⟨h1, h2⟩ := cond_den hq
     obtain ⟨x, h3, h4⟩ := Dt.opt_some h2
     cases h4
     simp only [Bool.and_eq_true] at h1
     rw [if_pos ⟨beq_eq h1.1, beq_eq h1.2⟩, show rowTree sh cs off len = some x from h3]
     rfl
    | _ => cases hq
  | agg cs => exact hq
  | _ => cases hq
theorem sFrzL_ok {b : Bool} {r r' : V × Heap} (hq : (sFrzL b r).den = some r') : frzL b r = some r' := by
 unfold sFrzL at hq
 unfold frzL
 cases b with
 | false => cases hq; rfl
 | true =>
  simp only [cond_true] at hq ⊢
  obtain ⟨v, h1⟩ := r
  cases v with
  | t x => cases hq; rfl
  | msl id gen off len sh =>
   simp only at hq ⊢
   split at hq
   . rename_i g e fz cs ho
     obtain ⟨h2, h3⟩ := Dt.chk_some hq
     obtain ⟨x, h4, h5⟩ := Dt.opt_some h3
     cases h5
     simp only [ho]
     rw [if_pos (natEq_eq h2), show rowTree sh cs off len = some x from h4]
     rfl
   . cases hq
  | _ => cases hq
theorem sQuietF_ok {im : Tmp -> Bool} {o : Oper} {res : List Tmp} {r : V × Option Obj} (hq : (sQuietF cfg im o slot ts hb rows res).den = some r) : ∃ n, (quiet cfg (env cfg n) (immOf im o.dst) o.op slot ts hb).bind (frzQ (snapAt im o) slot) = some r := by
 unfold sQuietF at hq
 split at hq
 . rename_i args tys hc
   obtain ⟨v, h1, rfl⟩ := one0_some hq
   obtain ⟨st, hs, h2⟩ := Dt.lift_bind_some h1
   cases hsn : snapAt im o with
   | false => rw [hsn] at hc; cases hc
   | true =>
    rw [hsn] at hc
    simp only [cond_true] at hc
    split at hc
    . rename_i c ho
      split at hc
      . rename_i hcal
        cases hc
        obtain ⟨r, h3, h4⟩ := sAppF_ok (slot := slot) (e := st.1) h2
        refine ⟨0, ?_⟩
        have : quiet cfg (env cfg 0) (immOf im o.dst) o.op slot ts hb = some r := by
         rw [ho]
         simp only [quiet, qCall, hcal, qBuiltin]
         exact qAppend_stat hs h3
        rw [this]
        exact h4
      . cases hc
    . cases hc
 . obtain ⟨r0, h1, h2⟩ := Dt.bind_some hq
   obtain ⟨n, hn⟩ := sQuiet_ok h1
   exact ⟨n, by rw [hn]; exact sFrzQ_ok h2⟩
end
end Go.Apex
