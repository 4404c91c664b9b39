import Derived.Test.YtcljaeknhmpecaaGreatApexA37
set_option linter.all false
namespace Go.Apex
open Go
noncomputable section
def sInt (op : BinOp) (k : IntKind) (n : Int) (k' : IntKind) (m : Int) : Dt V :=
 match op with
 | .add => cond (decide (k = k')) (.ret (.t (.int k (iAdd k n m)))) .fail
 | .sub => cond (decide (k = k')) (.ret (.t (.int k (iSub k n m)))) .fail
 | .mul => cond (decide (k = k')) (.ret (.t (.int k (iMul k n m)))) .fail
 | .eql => cond (decide (k = k')) (.ret (.t (.bool (iEq n m)))) .fail
 | .neq => cond (decide (k = k')) (.ret (.t (.bool (bNot (iEq n m))))) .fail
 | .lss => cond (decide (k = k')) (.ret (.t (.bool (iLt n m)))) .fail
 | .leq => cond (decide (k = k')) (.ret (.t (.bool (iLe n m)))) .fail
 | .gtr => cond (decide (k = k')) (.ret (.t (.bool (iLt m n)))) .fail
 | .geq => cond (decide (k = k')) (.ret (.t (.bool (iLe m n)))) .fail
 | op => .opt Int (iOp op k n k' m) fun r => .ret (.t (.int k r))
def sStr (op : BinOp) (a b : List UInt8) : Dt V :=
 match op with
 | .add => .chk (sCatOK a b) (.ret (.t (.str (sCat a b))))
 | .eql => .ret (.t (.bool (sEq a b)))
 | .neq => .ret (.t (.bool (bNot (sEq a b))))
 | .lss => .ret (.t (.bool (sLt a b)))
 | .geq => .ret (.t (.bool (bNot (sLt a b))))
 | _ => .fail
def sEqCell (d : D) (x y : V) : Dt Bool :=
 match x, y with
 | .t p, .t q => match d with
  | .int _ => match p, q with | .int k a, .int k' b => cond (decide (k = k')) (.ret (iEq a b)) .fail | _, _ => .fail
  | .bool => match p, q with | .bool a, .bool b => .ret (bEq a b) | _, _ => .fail
  | .str => match p, q with | .str a, .str b => .ret (sEq a b) | _, _ => .fail
  | _ => .fail
 | _, _ => .fail
def sEqFields (ti : TypeId -> Option TI) (a b : List V) : List (TypeId × Nat × Bool) -> Dt Bool
 | [] => .ret true
 | (t, off, blank) :: rest => cond blank .fail ((Dt.lift (ti t)).bind fun i => cond (i.agg || i.d.isIface) .fail
   ((Dt.lift a[off]?).bind fun x => (Dt.lift b[off]?).bind fun y => (sEqCell i.d x y).bind fun e => (sEqFields ti a b rest).bind fun r => .ret (bAnd e r)))
def nilConstOf (d : D) (x : Operand) : Bool :=
 match d, x with
 | .ptr _, .const (.pointer none) => true
 | .slice _, .const (.slice none 0 0) => true
 | .map _ _, .const (.map none) => true
 | .func, .const .nilFunc => true
 | .iface, .const .nilIface => true
 | _, _ => false
def sNil (d : D) (v : V) : Dt Bool :=
 match v with
 | .t q => .opt Bool (nilT d q) fun b => .ret b
 | .ref .. => match d with | .ptr _ => .ret false | _ => .fail
 | .msl .. => match d with | .slice _ => .ret false | _ => .fail
 | .mmp _ => match d with | .map _ _ => .ret false | _ => .fail
 | .fn .. => match d with | .func => .ret false | _ => .fail
 | .iface .. => match d with | .iface => .ret false | _ => .fail
 | _ => .fail
def sBool2 (op : BinOp) (b : Bool) : Dt V :=
 match op with
 | .eql => .ret (.t (.bool b))
 | .neq => .ret (.t (.bool (bNot b)))
 | _ => .fail
def sBin (cfg : Cfg) (ts : Ts) (op : BinOp) (xt : TypeId) (x y : Operand) : Dt V :=
 (Dt.lift (ev ts x)).bind fun a => (Dt.lift (ev ts y)).bind fun b => (Dt.lift (cfg.ti xt)).bind fun i =>
  match i.d with
  | .int _ => match a, b with
   | .t p, .t q => match p, q with | .int k n, .int k' m => sInt op k n k' m | _, _ => .fail
   | _, _ => .fail
  | .str => match a, b with
   | .t p, .t q => match p, q with | .str n, .str m => sStr op n m | _, _ => .fail
   | _, _ => .fail
  | .bool => match a, b with
   | .t p, .t q => match p, q with | .bool n, .bool m => sBool2 op (bEq n m) | _, _ => .fail
   | _, _ => .fail
  | .struct fs => cond (a.isAgg && b.isAgg && i.eqok) ((sEqFields cfg.ti a.cells b.cells fs).bind fun e => sBool2 op e) .fail
  | d => cond (nilConstOf d y) ((sNil d a).bind fun e => sBool2 op e) (cond (nilConstOf d x) ((sNil d b).bind fun e => sBool2 op e) .fail)
def sUn (op : UnOp) (v : V) : Dt V :=
 match v with
 | .t p => match op with
  | .not => match p with | .bool b => .ret (.t (.bool (bNot b))) | _ => .fail
  | _ => match p with | .int k a => .opt Int (iNeg op k a) fun r => .ret (.t (.int k r)) | _ => .fail
 | _ => .fail
def sLoad (cfg : Cfg) (imm : Bool) (ts : Ts) (hb : Rd) (rows : List Nat) (t : TypeId) (a : Operand) : Dt V :=
 (Dt.lift (cfg.ti t)).bind fun i => (Dt.lift (ev ts a)).bind fun p => match p with
  | .t q => .opt T (derefT i.sh q) fun x => (viewT cfg.ti t x).map .t
  | .ref id gen off _ => match hb id with
   | some (.cells g _ _ cs) => cond (rows.contains id)
     (.chk (natEq g gen) (.opt T (rowS i.sh cs off) fun x => (viewT cfg.ti t x).map .t))
     (cond (Nat.beq g gen) (Dt.lift (shPart i.sh cs off)) .fail)
   | some (.nest g _ cs fc) => cond imm (match fc with
     | some p => cond (Nat.beq i.size p.2.length) (.chk (natEq g gen) (.chk (natEq p.1 off) (Dt.lift (shPart i.sh p.2 0)))) .fail
     | none => .chk (natEq g gen) (.opt T (rowC i.sh cs off) fun x => (viewT cfg.ti t x).map .t))
    (.chk (natEq g gen) (.opt T (rowC i.sh cs off) fun x => (viewT cfg.ti t x).map .t))
   | _ => .fail
  | _ => .fail
def sNilCheck (ts : Ts) (x : Operand) : Dt V := (Dt.lift (ev ts x)).bind fun v => match v with
 | .t q => .chk (isPtrT q) (.ret (.t q))
 | .ref a b c d => .ret (.ref a b c d)
 | _ => .fail
def sFieldAddr (cfg : Cfg) (ts : Ts) (s : TypeId) (x : Operand) (f : Nat) : Dt V :=
 (Dt.lift (ev ts x)).bind fun v => (Dt.lift (cfg.ti s)).bind fun i => match i.d with
  | .struct fs => (Dt.lift (fieldOf fs f)).bind fun to => (Dt.lift (cfg.ti to.1)).bind fun j => cond (Nat.beq j.size 0) .fail
   (match v with
    | .t q => .opt T (fldT to.2 j.sh q) fun y => .ret (.t y)
    | .ref id gen o _ => .ret (.ref id gen (o + to.2) j.sh)
    | _ => .fail)
  | _ => .fail
def sInd (v : V) : Dt Int :=
 match v with
 | .t p => match p with | .int _ n => .ret n | _ => .fail
 | _ => .fail
def sIndexAddr (cfg : Cfg) (ts : Ts) (t : TypeId) (x ix : Operand) : Dt V :=
 (Dt.lift (ev ts x)).bind fun v => (Dt.lift (ev ts ix)).bind fun w => (sInd w).bind fun i => (Dt.lift (cfg.ti t)).bind fun u => match u.d with
  | .slice e => (Dt.lift (cfg.ti e)).bind fun j => match v with
   | .t q => .opt T (idxT j.size q i) fun y => .ret (.t y)
   | .msl id gen off len sh => cond (decide (sh = j.sh)) (.chk (rowIn i len) (.ret (.ref id gen (rowOff off i (shSize sh)) sh))) .fail
   | _ => .fail
  | _ => .fail
def sIndex (cfg : Cfg) (ts : Ts) (t : TypeId) (x ix : Operand) : Dt V :=
 (Dt.lift (ev ts x)).bind fun v => (Dt.lift (ev ts ix)).bind fun w => (sInd w).bind fun i => (Dt.lift (cfg.ti t)).bind fun u => match u.d with
  | .str => match v with
   | .t p => match p with | .str s => .opt Int (byteAt s i) fun b => .ret (.t (.int .u8 b)) | _ => .fail
   | _ => .fail
  | _ => .fail
def sOptInt (ts : Ts) : Option Operand -> Dt (Option Int)
 | none => .ret none
 | some o => (Dt.lift (ev ts o)).bind fun w => (sInd w).bind fun i => .ret (some i)
def sSlice (cfg : Cfg) (ts : Ts) (xt : TypeId) (x : Operand) (lo hi mx : Option Operand) : Dt V :=
 (Dt.lift (cfg.ti xt)).bind fun i => (Dt.lift (ev ts x)).bind fun v => (sOptInt ts lo).bind fun lo => (sOptInt ts hi).bind fun hi => (sOptInt ts mx).bind fun mx =>
  match i.d with
  | .str => match v, mx with
   | .t p, none => match p with | .str s => .opt (List UInt8) (strSub s lo hi) fun r => .ret (.t (.str r)) | _ => .fail
   | _, _ => .fail
  | .slice e => (Dt.lift (cfg.ti e)).bind fun j => match v with
   | .t q => .opt T (subT j.size q lo hi mx) fun r => .ret (.t r)
   | .msl id gen off len sh => cond (decide (sh = j.sh)) (match mx with
    | none => .chk (subOK (lo.getD 0) (hi.getD (nInt len)) len) (.ret (.msl id gen (rowOff off (lo.getD 0) (shSize sh)) (rowLen (lo.getD 0) (hi.getD (nInt len))) sh))
    | _ => .fail) .fail
   | _ => .fail
  | _ => .fail
def sLenOp (hb : Rd) (d : D) (v : V) : Dt V :=
 match d with
 | .str => match v with
  | .t p => match p with | .str s => .ret (.t (.int .i64 (sLen s))) | _ => .fail
  | _ => .fail
 | .slice _ => match v with
  | .t q => .opt Int (lenT q) fun n => .ret (.t (.int .i64 n))
  | .msl _ _ _ len _ => .ret (.t (.int .i64 (nInt len)))
  | _ => .fail
 | .map _ _ => match v with
  | .t q => .opt Int (mlenT q) fun n => .ret (.t (.int .i64 n))
  | .mmp id => match hb id with | some (.map ks _) => .ret (.t (.int .i64 (nInt ks.length))) | _ => .fail
  | _ => .fail
 | _ => .fail
def sCap (d : D) (v : V) : Dt V :=
 match d with
 | .slice _ => match v with
  | .t q => .opt Int (capT q) fun n => .ret (.t (.int .i64 n))
  | _ => .fail
 | _ => .fail
def sExt (g : Int -> Int -> Int) (k : IntKind) : Int -> List V -> Dt V
 | a, [] => .ret (.t (.int k a))
 | a, .t p :: r => match p with
  | .int k' b => cond (decide (k = k')) (sExt g k (g a b) r) .fail
  | _ => .fail
 | _, _ => .fail
def known1 (v : V) : Bool :=
 match v with
 | .t p => match p with | .int _ _ | .bool _ | .str _ => true | _ => false
 | _ => false
def fitNode (i : TI) (v : V) : Dt Unit :=
 match i.d with
 | .int _ => cond (known1 v && !i.agg) (.ret ()) .fail
 | .bool => cond (known1 v && !i.agg) (.ret ()) .fail
 | .str => cond (known1 v && !i.agg) (.ret ()) .fail
 | _ => .chk (vfits v i.sh) (.ret ())
def fitNodes (i : TI) : List V -> Dt Unit
 | [] => .ret ()
 | v :: r => (fitNode i v).bind fun _ => fitNodes i r
def cellsI (i : TI) (v : V) : List V := cond i.agg v.cells [v]
def sBox (cfg : Cfg) (imm : Bool) (slot : Nat) (ts : Ts) (e : TypeId) (x : Operand) : Dt (V × Option Obj) :=
 (Dt.lift (cfg.ti e)).bind fun i => (Dt.lift (ev ts x)).bind fun v => (fitNode i v).bind fun _ =>
  match (if imm then toT v else none) with
  | some y => .ret (.t (.ptr y), none)
  | none => .ret (.ref slot 0 0 i.sh, some (.cells 0 e false (cellsI i v)))
def sFill (place : Nat -> Option (Nat × TI)) (cells : List V) : List (Nat × V) -> Dt (List V)
 | [] => .ret cells
 | (i, v) :: rest => (Dt.lift (place i)).bind fun oi => (fitNode oi.2 v).bind fun _ =>
   cond (Nat.ble (oi.1 + (cellsI oi.2 v).length) cells.length) (sFill place (setRange cells oi.1 (cellsI oi.2 v)) rest) .fail
def fieldPlaceI (cfg : Cfg) (fs : List (TypeId × Nat × Bool)) (f : Nat) : Option (Nat × TI) := (fieldOf fs f).bind fun to => (cfg.ti to.1).map fun j => (to.2, j)
def elemPlaceI (j : TI) (len k : Nat) : Option (Nat × TI) := cond (Nat.ble (k + 1) len) (some (k * j.size, j)) none
def sBuild (cfg : Cfg) (ts : Ts) (t : TypeId) (parts : List (Nat × Operand)) : Dt V :=
 (Dt.lift (cfg.ti t)).bind fun i => (Dt.lift i.zero).bind fun z => match i.d with
  | .struct fs => cond (z.fits i.sh && i.agg && fs.all (fun f => (cfg.ti f.1).isSome)) ((Dt.lift (evParts ts parts)).bind fun ps => (sFill (fieldPlaceI cfg fs) (z.cells.map .t) ps).bind fun cs => .ret (mkAgg cs)) .fail
  | _ => .fail
def sBuildSlice (cfg : Cfg) (imm : Bool) (slot : Nat) (ts : Ts) (t : TypeId) (len : Nat) (parts : List (Nat × Operand)) : Dt (V × Option Obj) :=
 (Dt.lift (sliceElem cfg t)).bind fun ej => (Dt.lift ej.2.zero).bind fun z =>
  cond (z.fits ej.2.sh && decide (0 < ej.2.size /\ len * ej.2.size <= 16777216)) ((Dt.lift (evParts ts parts)).bind fun ps => (sFill (elemPlaceI ej.2 len) (zeros len z) ps).bind fun cs =>
   cond imm ((Dt.lift (elemsFrom ej.2.sh cs 0 len)).bind fun es => (Dt.lift (allT es)).bind fun xs => (fitNodes ej.2 es).bind fun _ => .ret (.t (.sl true ej.2.size xs), none))
    (.ret (.msl slot 0 0 len ej.2.sh, some (.cells 0 ej.1 false cs)))) .fail
def sMakeSlice (cfg : Cfg) (slot : Nat) (ts : Ts) (t : TypeId) (l c : Operand) : Dt (V × Option Obj) :=
 (Dt.lift (sliceElem cfg t)).bind fun ej => (Dt.lift ej.2.zero).bind fun z => (Dt.lift (ev ts l)).bind fun lv => (sInd lv).bind fun l => (Dt.lift (ev ts c)).bind fun cv => (sInd cv).bind fun c =>
  cond (z.fits ej.2.sh && decide (0 < ej.2.size)) (.chk (makeOK l c ej.2.bytes) (.ret (.msl slot 0 0 (natOf l) ej.2.sh, some (.cells 0 ej.1 false (zerosV c z))))) .fail
def sConv (cfg : Cfg) (d d' : D) (v : V) : Dt V :=
 match d, d', v with
 | .int _, .int k, .t p => match p with | .int _ n => .ret (.t (.int k (iWrap k n))) | _ => .fail
 | .str, .str, .t p => match p with | .str s => .ret (.t (.str s)) | _ => .fail
 | .str, .slice e, .t p => match p with
  | .str s => (Dt.lift (cfg.ti e)).bind fun u => match u.d with
   | .int .u8 => .ret (.t (bytesT s))
   | _ => .fail
  | _ => .fail
 | _, _, _ => .fail
def sLookup (cfg : Cfg) (ts : Ts) (hb : Rd) (t : TypeId) (x k : Operand) (ok : Bool) : Dt V :=
 (Dt.lift (cfg.ti t)).bind fun i => match i.d with
 | .map kt et => (Dt.lift (cfg.ti kt)).bind fun ki => (Dt.lift (cfg.ti et)).bind fun ei => (Dt.lift (ev ts x)).bind fun m => (Dt.lift (ev ts k)).bind fun kv => (Dt.lift (toT kv)).bind fun key =>
  cond (keyFits ki.d key) (match m with
   | .t q => .opt (T × Bool) (lookT ei.zero q key) fun p => (viewT cfg.ti et p.1).bind fun v => .ret (cond ok (.t (.tup [v, .bool p.2])) (.t v))
   | .mmp id => match hb id with
    | some (.map ks vs) => .opt (T × Bool) (lookM ei.zero ks vs key) fun p => (viewT cfg.ti et p.1).bind fun v => .ret (cond ok (.t (.tup [v, .bool p.2])) (.t v))
    | _ => .fail
   | _ => .fail) .fail
 | _ => .fail
def mapD {α β : Type} (f : α -> Dt β) : List α -> Dt (List β)
 | [] => .ret []
 | v :: r => (f v).bind fun x => (mapD f r).bind fun xs => .ret (x :: xs)
def sSnap (h : Rd) (rows : List Nat) : Nat -> V -> Dt T
 | 0, _ => .fail
 | n + 1, v =>
  match v with
  | .t x => .ret x
  | .ref id gen off sh => match h id with
   | some (.cells g _ _ cs) => cond (rows.contains id) .fail (cond (Nat.beq g gen) (match sh with
     | none => (Dt.lift cs[off]?).bind fun u => (sSnap h rows n u).bind fun x => .chk x.one (.ret (.ptr x))
     | some k => cond (Nat.ble (off + k) cs.length) ((mapD (sSnap h rows n) ((cs.drop off).take k)).bind fun xs => .ret (.ptr (.agg xs))) .fail) .fail)
   | _ => .fail
  | .msl id gen off len sh => match h id with
   | some (.cells g _ _ cs) => cond (rows.contains id)
     (cond (Nat.beq n 0) .fail (.chk (natEq g gen) (.opt (List T) (rowT sh cs off len) fun xs => .ret (.sl false (shSize sh) xs))))
     (cond (Nat.beq g gen) ((Dt.lift (elemsFrom sh cs off len)).bind fun es => (mapD (sSnap h rows n) es).bind fun xs => .chk (xs.all (·.fits sh)) (.ret (.sl false (shSize sh) xs))) .fail)
   | some (.nest g _ cs none) => cond (Nat.beq n 0) .fail (.chk (natEq g gen) (.opt (List T) (nestT sh cs off len) fun xs => .ret (.sl false (shSize sh) xs)))
   | _ => .fail
  | .mmp id => match h id with
   | some (.map ks vs) => cond (rows.contains id) (cond (Nat.beq n 0) .fail (.opt (List T) (allT vs) fun xs => .ret (.mp ks xs))) ((mapD (sSnap h rows n) vs).bind fun xs => .ret (.mp ks xs))
   | _ => .fail
  | .agg cs => (mapD (sSnap h rows n) cs).bind fun xs => .ret (.agg xs)
  | .tup cs => (mapD (sSnap h rows n) cs).bind fun xs => .ret (.tup xs)
  | .fn f a b => (mapD (sSnap h rows n) a).bind fun xs => (mapD (sSnap h rows n) b).bind fun ys => .ret (.fn f xs ys)
  | .iface t x => (sSnap h rows n x).bind fun y => .ret (.iface t y)
  | _ => .fail
end
end Go.Apex

namespace Go.Apex
open Go
section
variable {cfg : Cfg} {ts : Ts} {hb : Rd} {rows : List Nat} {slot : Nat}
theorem cond_den {α : Type} {b : Bool} {x : Dt α} {r : α} (h : Dt.den (bif b then x else Dt.fail) = some r) : b = true /\ x.den = some r := by
 cases b with
 | true => exact ⟨rfl, h⟩
 | false => cases h
theorem sInt_ok {op : BinOp} {k k' : IntKind} {n m : Int} {v : V} (xt : TypeId) (h : (sInt op k n k' m).den = some v) : ((semPure (Go.binOp op xt (.int k n) (.int k' m))).bind ofCell).map V.t = some v := by
 have gen : ∀ {op : BinOp}, (∀ xt, Go.binOp op xt (.int k n) (.int k' m) = Go.binOp op 0 (.int k n) (.int k' m)) -> (Dt.opt Int (iOp op k n k' m) fun r => .ret (.t (.int k r))).den = some v -> ((semPure (Go.binOp op xt (.int k n) (.int k' m))).bind ofCell).map V.t = some v := by
  intro op hop h
  obtain ⟨r, h1, h2⟩ := Dt.opt_some h
  cases h2
  unfold iOp at h1
  rw [hop]
  split at h1
  . rename_i k2 n2 hs
    split at h1
    . rename_i e
      cases h1
      rw [hs, e]; rfl
    . cases h1
  . cases h1
 cases op <;> first
  | exact gen (fun _ => rfl) h
  | (simp only [sInt] at h
     by_cases hk : k = k'
     case neg => simp only [hk, decide_false, cond_false] at h; cases h
     subst hk
     simp only [decide_true, cond_true] at h
     cases h
     simp [Go.binOp, Op.intArith, Op.intCmp, semPure, pure, ofCell, iAdd, iSub, iMul, iEq, iLt, iLe, bNot]
     try rfl)
theorem sStr_ok {op : BinOp} {a b : List UInt8} {v : V} (h : (sStr op a b).den = some v) : (strOp op a b).map V.t = some v := by
 cases op <;> simp only [sStr] at h <;> first
  | (cases h; simp [strOp, sEq, sLt, bNot])
  | (cases h; done)
  | (obtain ⟨h1, h2⟩ := Dt.chk_some h; cases h2; simp only [strOp, if_pos (of_decide_eq_true h1)]; rfl)
theorem sEqCell_ok {d : D} {x y : V} {e : Bool} (h : (sEqCell d x y).den = some e) : eqCell d x y = some e := by
 unfold sEqCell at h
 split at h
 . split at h
   . split at h
     . replace h := cond_den h; obtain ⟨h1, h⟩ := h
       cases h
       simp only [eqCell, if_pos (of_decide_eq_true h1), iEq]
     . cases h
   . split at h
     . cases h; rfl
     . cases h
   . split at h
     . cases h; rfl
     . cases h
   . cases h
 . cases h
theorem sEqFields_ok {ti : TypeId -> Option TI} {a b : List V} : ∀ {fs : List (TypeId × Nat × Bool)} {e : Bool}, (sEqFields ti a b fs).den = some e -> eqFields ti a b fs = some e
 | [], e, h => by cases h; rfl
 | (t, off, blank) :: rest, e, h => by
  unfold sEqFields at h
  unfold eqFields
  cases blank with
  | true => cases h
  | false =>
   simp only [cond_false] at h
   replace h := Dt.lift_bind_some h; obtain ⟨i, h1, h⟩ := h
   rw [h1]
   simp only [oS, Bool.false_eq_true, if_false]
   cases hi : (i.agg || i.d.isIface) with
   | true => rw [hi] at h; cases h
   | false =>
    rw [hi] at h
    simp only [cond_false] at h
    replace h := Dt.lift_bind_some h; obtain ⟨x, h2, h⟩ := h
    replace h := Dt.lift_bind_some h; obtain ⟨y, h3, h⟩ := h
    replace h := Dt.bind_some h; obtain ⟨e1, h4, h⟩ := h
    replace h := Dt.bind_some h; obtain ⟨r, h5, h⟩ := h
    cases h
    simp only [Bool.false_eq_true, if_false, h2, h3, oS, sEqCell_ok h4, sEqFields_ok h5, bAnd]
    cases e1 <;> rfl
def nilVal : D -> T
 | .ptr _ => .nilp
 | .slice _ => .nils
 | .map _ _ => .nilm
 | .func => .nilf
 | _ => .nili
theorem nilConstOf_ok {d : D} {x : Operand} (h : nilConstOf d x = true) : ev ts x = some (.t (nilVal d)) /\ ((∃ e, d = .ptr e) \/ (∃ e, d = .slice e) \/ (∃ a b, d = .map a b) \/ d = .func \/ (d = .iface /\ nilConst x = true)) := by
 unfold nilConstOf at h
 split at h
 . exact ⟨rfl, .inl ⟨_, rfl⟩⟩
 . exact ⟨rfl, .inr (.inl ⟨_, rfl⟩)⟩
 . exact ⟨rfl, .inr (.inr (.inl ⟨_, _, rfl⟩))⟩
 . exact ⟨rfl, .inr (.inr (.inr (.inl rfl)))⟩
 . exact ⟨rfl, .inr (.inr (.inr (.inr ⟨rfl, rfl⟩)))⟩
 . cases h
theorem sNil_ok {d : D} {v : V} {e : Bool} (hd : (∃ e, d = .ptr e) \/ (∃ e, d = .slice e) \/ (∃ a b, d = .map a b) \/ d = .func \/ d = .iface) (h : (sNil d v).den = some e) : eqCell d v (.t (nilVal d)) = some e /\ eqCell d (.t (nilVal d)) v = some e := by
 rcases hd with ⟨_, rfl⟩ | ⟨_, rfl⟩ | ⟨_, _, rfl⟩ | rfl | rfl <;> unfold sNil at h <;> split at h <;> first
  | (replace h := Dt.opt_some h; obtain ⟨b, h1, h⟩ := h
     cases h
     unfold nilT at h1
     split at h1 <;> first
      | (rename_i q _ _; cases h1; constructor <;> rfl)
      | (cases h1)
      | skip)
  | (cases h; constructor <;> rfl)
  | (cases h)
  | skip
 all_goals (first | (simp_all; done) | skip)
 all_goals
  rename_i he1 he2
  simp only [reduceCtorEq] at he1
theorem sBool2_ok {op : BinOp} {b : Bool} {v : V} (h : (sBool2 op b).den = some v) : (op = .eql /\ v = .t (.bool b)) \/ (op = .neq /\ v = .t (.bool (!b))) := by
 cases op <;> simp only [sBool2] at h <;> first | (cases h; exact .inl ⟨rfl, rfl⟩) | (cases h; exact .inr ⟨rfl, rfl⟩) | cases h
end
end Go.Apex
