import Derived.Test.YtcljaeknhmpecaaGreatApexA36
set_option linter.all false
namespace Go.Apex
open Go
inductive Dt (α : Type) : Type 1 where
 | ret (a : α)
 | fail
 | ite (c : Bool) (a b : Dt α)
 | chk (c : Bool) (k : Dt α)
 | opt (β : Type) (o : Option β) (k : β -> Dt α)
def Dt.bind {α β : Type} : Dt α -> (α -> Dt β) -> Dt β
 | .ret a, f => f a
 | .fail, _ => .fail
 | .ite c a b, f => .ite c (a.bind f) (b.bind f)
 | .chk c k, f => .chk c (k.bind f)
 | .opt γ o k, f => .opt γ o fun x => (k x).bind f
def Dt.map {α β : Type} (f : α -> β) (d : Dt α) : Dt β := d.bind fun a => .ret (f a)
def Dt.lift {α : Type} : Option α -> Dt α
 | some a => .ret a
 | none => .fail
def Dt.den {α : Type} : Dt α -> Option α
 | .ret a => some a
 | .fail => none
 | .ite c a b => cond c a.den b.den
 | .chk c k => cond c k.den none
 | .opt _ o k => o.bind fun x => (k x).den
section
variable {α β γ : Type}
theorem Dt.den_bind : ∀ (d : Dt α) (f : α -> Dt β), (d.bind f).den = d.den.bind fun a => (f a).den
 | .ret a, f => rfl
 | .fail, f => rfl
 | .ite c a b, f => by cases c <;> simp [Dt.bind, Dt.den, den_bind a, den_bind b]
 | .chk c k, f => by cases c <;> simp [Dt.bind, Dt.den, den_bind k]
 | .opt γ o k, f => by
  cases o with
  | none => rfl
  | some x => simp [Dt.bind, Dt.den, den_bind (k x)]
theorem Dt.den_lift (o : Option α) : (Dt.lift o).den = o := by cases o <;> rfl
theorem Dt.den_map (f : α -> β) (d : Dt α) : (d.map f).den = d.den.map f := by rw [Dt.map, den_bind]; cases d.den <;> rfl
theorem Dt.bind_some {d : Dt α} {f : α -> Dt β} {r : β} (h : (d.bind f).den = some r) : ∃ a, d.den = some a /\ (f a).den = some r := by
 rw [den_bind] at h; exact oB.1 h
theorem Dt.opt_some {o : Option β} {k : β -> Dt α} {r : α} (h : (Dt.opt β o k).den = some r) : ∃ x, o = some x /\ (k x).den = some r := oB.1 h
theorem Dt.chk_some {c : Bool} {k : Dt α} {r : α} (h : (Dt.chk c k).den = some r) : c = true /\ k.den = some r := by
 cases c with
 | true => exact ⟨rfl, h⟩
 | false => cases h
theorem Dt.lift_bind_some {o : Option α} {f : α -> Dt β} {r : β} (h : ((Dt.lift o).bind f).den = some r) : ∃ a, o = some a /\ (f a).den = some r := by
 obtain ⟨a, h1, h2⟩ := bind_some h
 rw [den_lift] at h1
 exact ⟨a, h1, h2⟩
theorem Dt.map_some {d : Dt α} {f : α -> β} {r : β} (h : (d.map f).den = some r) : ∃ a, d.den = some a /\ f a = r := by
 rw [den_map] at h; exact oM.1 h
end
def iAdd (k : IntKind) (a b : Int) : Int := k.wrap (a + b)
def iSub (k : IntKind) (a b : Int) : Int := k.wrap (a - b)
def iMul (k : IntKind) (a b : Int) : Int := k.wrap (a * b)
def iWrap (k : IntKind) (a : Int) : Int := k.wrap a
def iMax (a b : Int) : Int := if b > a then b else a
def iMin (a b : Int) : Int := if b < a then b else a
def iEq (a b : Int) : Bool := a == b
def iLt (a b : Int) : Bool := decide (a < b)
def iLe (a b : Int) : Bool := decide (a <= b)
def iOp (op : BinOp) (k : IntKind) (a : Int) (k' : IntKind) (b : Int) : Option Int :=
 match semPure (Go.binOp op 0 (.int k a) (.int k' b)) with
 | some (.int k2 n) => if k2 = k then some n else none
 | _ => none
def iNeg (op : UnOp) (k : IntKind) (a : Int) : Option Int :=
 match semPure (Op.unary op (.int k a)) with
 | some (.int k2 n) => if k2 = k then some n else none
 | _ => none
def bNot (a : Bool) : Bool := !a
def bEq (a b : Bool) : Bool := a == b
def bAnd (a b : Bool) : Bool := a && b
def sCat (a b : List UInt8) : List UInt8 := a ++ b
def sCatOK (a b : List UInt8) : Bool := decide (a.length + b.length <= 9223372036854775807)
def sEq (a b : List UInt8) : Bool := a == b
def sLt (a b : List UInt8) : Bool := Op.bytesLess a b
def sLen (a : List UInt8) : Int := a.length
def nInt (n : Nat) : Int := n
def byteAt (s : List UInt8) (i : Int) : Option Int := if 0 <= i then (s[i.toNat]?).map fun b => (b.toNat : Int) else none
def strSub (s : List UInt8) (lo hi : Option Int) : Option (List UInt8) :=
 let h := hi.getD s.length; let l := lo.getD 0
 if 0 <= l /\ l <= h /\ h <= s.length then some ((s.take h.toNat).drop l.toNat) else none
def bytesT (s : List UInt8) : T := .sl false 1 (s.map fun b => .int .u8 b.toNat)
def T.int? (k : IntKind) : T -> Option Int
 | .int k' n => if k' = k then some n else none
 | _ => none
def T.bool? : T -> Option Bool
 | .bool b => some b
 | _ => none
def T.agg? (n : Nat) : T -> Option (List T)
 | .agg cs => if cs.length = n then some cs else none
 | _ => none
def T.tup? (n : Nat) : T -> Option (List T)
 | .tup cs => if cs.length = n then some cs else none
 | _ => none
def nthT (cs : List T) (i : Nat) : T := cs.getD i .nilp
def vfits (v : V) (sh : Option Nat) : Bool := v.fits sh
def derefT (sh : Option Nat) : T -> Option T
 | .ptr x => if x.fits sh then some x else none
 | _ => none
def isPtrT : T -> Bool
 | .ptr _ => true
 | _ => false
def partS (sh : Option Nat) (cs : List T) (off : Nat) : Option T :=
 match sh with
 | some n => if off + n <= cs.length then some (.agg ((cs.drop off).take n)) else none
 | none => cs[off]?
def fldT (off : Nat) (sh : Option Nat) : T -> Option T
 | .ptr (.agg cs) => (partS sh cs off).bind fun y => if y.fits sh then some (.ptr y) else none
 | _ => none
def idxT (sz : Nat) (q : T) (i : Int) : Option T :=
 match q with
 | .sl _ s xs => if 0 <= i /\ s = sz then (xs[i.toNat]?).map .ptr else none
 | _ => none
def lenT : T -> Option Int
 | .nils => some 0
 | .sl _ _ xs => some xs.length
 | _ => none
def mlenT : T -> Option Int
 | .nilm => some 0
 | .mp ks _ => some ks.length
 | _ => none
def capT : T -> Option Int
 | .nils => some 0
 | .sl true _ xs => some xs.length
 | _ => none
def subT (sz : Nat) (q : T) (lo hi mx : Option Int) : Option T :=
 match q with
 | .nils => if lo.getD 0 = 0 /\ hi.getD 0 = 0 /\ mx.getD 0 = 0 /\ (mx.isNone \/ hi.isSome) then some .nils else none
 | .sl ex s xs =>
  let h := hi.getD xs.length; let l := lo.getD 0
  if s = sz /\ 0 <= l /\ l <= h /\ h <= xs.length then
   match mx with
   | none => some (.sl (ex && h == xs.length) s ((xs.take h.toNat).drop l.toNat))
   | some m => if m = h /\ hi.isSome then some (.sl true s ((xs.take h.toNat).drop l.toNat)) else none
  else none
 | _ => none
def nilT (d : D) (q : T) : Option Bool :=
 match d, q with
 | .ptr _, .nilp | .slice _, .nils | .map _ _, .nilm | .func, .nilf | .iface, .nili => some true
 | .ptr _, .ptr _ | .slice _, .sl .. | .map _ _, .mp .. | .func, .fn .. | .iface, .iface .. => some false
 | _, _ => none
def lookT (zero : Option T) (q k : T) : Option (T × Bool) :=
 match q with
 | .nilm => zero.map fun z => (z, false)
 | .mp ks vs => (findKey k ks 0).bind fun r => match r with
  | none => zero.map fun z => (z, false)
  | some i => (vs[i]?).map fun v => (v, true)
 | _ => none
def lookM (zero : Option T) (ks : List T) (vs : List V) (k : T) : Option (T × Bool) :=
 (findKey k ks 0).bind fun r => match r with
  | none => zero.map fun z => (z, false)
  | some i => ((vs[i]?).bind toT).map fun v => (v, true)
def putM (ks : List T) (vs : List V) (k : T) (v : V) : Option (List T × List V) :=
 (findKey k ks 0).map fun r => match r with
  | some j => (ks, vs.set j v)
  | none => (ks ++ [k], vs ++ [v])
def rowS (sh : Option Nat) (cs : List V) (off : Nat) : Option T := (shPart sh cs off).bind toT
def C.t? : C -> Option T
 | .v x => toT x
 | _ => none
def mpT : T -> Option (List T × List T)
 | .mp ks vs => some (ks, vs)
 | _ => none
def rowC (sh : Option Nat) (cs : List C) (off : Nat) : Option T :=
 match sh with
 | some n => if off + n <= cs.length then (mapO C.t? ((cs.drop off).take n)).map .agg else none
 | none => (cs[off]?).bind C.t?
def junkC (cs : List C) (off n : Nat) : List C := setRange cs off (List.replicate n (.v .junk))
def putC (cs : List C) (off : Nat) (new : List C) : List C := setRange cs off new
def junk1 (cs : List C) (off : Nat) : List C := cs.set off (.v .junk)
def fitC (cs : List C) (off n : Nat) : Bool := decide (off + n <= cs.length)
def nestOf (cs : List V) : List C := cs.map .v
def isOwn (cs : List C) (off : Nat) : Bool := match cs[off]? with | some (.own ..) => true | _ => false
def isVal (cs : List C) (off : Nat) : Bool := match cs[off]? with | some (.v _) => true | _ => false
def ownX (e : TypeId) (sh : Option Nat) (cs : List C) (off : Nat) : Option (List T) :=
 match cs[off]? with
 | some (.own e' sh' xs) => if e' = e /\ sh' = sh then some xs else none
 | _ => none
def frzC (cs : List C) (off n : Nat) : List C := setRange cs off (((cs.drop off).take n).map freezeC)
def ownV (xs : List T) : List V := ownCells xs
def lenX (xs : List T) : Nat := xs.length
def rowLen (l h : Int) : Nat := h.toNat - l.toNat
def rowSetOK (cs : List V) (off n : Nat) : Bool := decide (off + n <= cs.length)
def rowSet (cs : List V) (off : Nat) (new : List V) : List V := setRange cs off new
def subOK (lo hi : Int) (len : Nat) : Bool := decide (0 <= lo /\ lo <= hi /\ hi <= len)
def natEq (a b : Nat) : Bool := Nat.beq a b
def rowT (sh : Option Nat) (cs : List V) (off len : Nat) : Option (List T) :=
 (elemsFrom sh cs off len).bind fun es => (allT es).bind fun xs => if xs.all (·.fits sh) then some xs else none
def nestT (sh : Option Nat) (cs : List C) (off len : Nat) : Option (List T) := rowT sh (cs.map C.toV) off len
def makeOK (l c : Int) (bytes : Nat) : Bool := decide (0 <= l /\ l <= c /\ c <= 9223372036854775807 /\ c * bytes <= maxBytes)
def zerosV (n : Int) (z : T) : List V := zeros n.toNat z
def natOf (n : Int) : Nat := n.toNat
def baseT (sh : Option Nat) (sz : Nat) : T -> Option (List T)
 | .nils => some []
 | .sl ex s xs => if ex /\ s = sz /\ xs.all (·.fits sh) then some xs else none
 | _ => none
def elemsT (sh : Option Nat) : T -> Option (List V)
 | .nils => some []
 | .sl _ sz xs => if sz = shSize sh /\ xs.all (·.fits sh) then some (xs.map .t) else none
 | _ => none
def elemsS (s : List UInt8) : List V := s.map fun b => .t (.int .u8 b.toNat)
def elemsR (sh : Option Nat) (cs : List V) (off len : Nat) : Option (List V) := (elemsFrom sh cs off len).bind fun es => if es.all (·.fits sh) then some es else none
def newOK (n m bytes : Nat) : Bool := decide (n + m <= maxBytes /\ (n + m) * bytes <= maxBytes)
def isNilL (es : List V) : Bool := es.isEmpty
def rowNew (xs : List T) (es : List V) : List V := (xs.map V.t ++ es).flatMap V.cells
def lenNew (xs : List T) (es : List V) : Nat := xs.length + es.length
def appOK (cs : List V) (off len n : Nat) (es : List V) (bytes : Nat) : Bool :=
 es.isEmpty || decide (¬ off + (len + es.length) * n <= cs.length /\ off + len * n = cs.length /\ len + es.length <= maxBytes /\ (len + es.length) * bytes <= maxBytes)
def appGen (g : Nat) (es : List V) : Nat := cond es.isEmpty g (g + 1)
def appOff (off : Nat) (es : List V) : Nat := cond es.isEmpty off 0
def appLen (len : Nat) (es : List V) : Nat := len + es.length
def appCs (cs : List V) (off : Nat) (es : List V) : List V := cond es.isEmpty cs (cs.drop off ++ es.flatMap V.cells)
def cellKinds (ti : TypeId -> Option TI) : Nat -> TypeId -> Option (List D)
 | 0, _ => none
 | n + 1, t => (ti t).bind fun i => match i.d with
  | .struct fs => (mapO (fun f => cellKinds ti n f.1) fs).map List.flatten
  | d => if i.agg then none else some [d]
def viewCell (d : D) (y : T) : Dt T :=
 match d with
 | .int k => .opt Int (y.int? k) fun n => .ret (.int k n)
 | .bool => .opt Bool y.bool? fun n => .ret (.bool n)
 | .str => .opt (List UInt8) y.str? fun n => .ret (.str n)
 | _ => .ret y
def viewCells (cs : List T) : List D -> Nat -> Dt (List T)
 | [], _ => .ret []
 | d :: ds, i => (viewCell d (nthT cs i)).bind fun y => (viewCells cs ds (i + 1)).bind fun ys => .ret (y :: ys)
def viewFuel : Nat := 12
def viewT (ti : TypeId -> Option TI) (t : TypeId) (y : T) : Dt T :=
 (Dt.lift (ti t)).bind fun i => cond i.agg
  ((Dt.lift (cellKinds ti viewFuel t)).bind fun ds => .opt (List T) (y.agg? ds.length) fun cs => (viewCells cs ds 0).bind fun ys => .ret (.agg ys))
  (viewCell i.d y)
def viewTs (ti : TypeId -> Option TI) (cs : List T) : List TypeId -> Nat -> Dt (List T)
 | [], _ => .ret []
 | t :: ts, i => (viewT ti t (nthT cs i)).bind fun y => (viewTs ti cs ts (i + 1)).bind fun ys => .ret (y :: ys)
def viewR (ti : TypeId -> Option TI) (res : List TypeId) (y : T) : Dt T :=
 match res with
 | [t] => viewT ti t y
 | ts => .opt (List T) (y.tup? ts.length) fun cs => (viewTs ti cs ts 0).bind fun ys => .ret (.tup ys)
theorem int?_some {k : IntKind} {y : T} {n : Int} (h : y.int? k = some n) : y = .int k n := by
 unfold T.int? at h
 split at h
 . split at h
   . rename_i e; cases h; rw [e]
   . cases h
 . cases h
theorem bool?_some {y : T} {n : Bool} (h : y.bool? = some n) : y = .bool n := by
 unfold T.bool? at h
 split at h
 . cases h; rfl
 . cases h
theorem agg?_some {y : T} {n : Nat} {cs : List T} (h : y.agg? n = some cs) : y = .agg cs /\ cs.length = n := by
 unfold T.agg? at h
 split at h
 . split at h
   . cases h; exact ⟨rfl, by assumption⟩
   . cases h
 . cases h
theorem tup?_some {y : T} {n : Nat} {cs : List T} (h : y.tup? n = some cs) : y = .tup cs /\ cs.length = n := by
 unfold T.tup? at h
 split at h
 . split at h
   . cases h; exact ⟨rfl, by assumption⟩
   . cases h
 . cases h
theorem viewCell_ok {d : D} {y v : T} (h : (viewCell d y).den = some v) : v = y := by
 unfold viewCell at h
 split at h
 . obtain ⟨n, h1, h2⟩ := Dt.opt_some h; cases h2; exact (int?_some h1).symm
 . obtain ⟨n, h1, h2⟩ := Dt.opt_some h; cases h2; exact (bool?_some h1).symm
 . obtain ⟨n, h1, h2⟩ := Dt.opt_some h; cases h2; exact (str?_some h1).symm
 . cases h; rfl
theorem viewCells_ok {cs : List T} : ∀ {ds : List D} {i : Nat} {ys : List T}, (viewCells cs ds i).den = some ys -> i + ds.length = cs.length -> ys = cs.drop i
 | [], i, ys, h, hl => by
  cases h
  simp at hl
  rw [List.drop_eq_nil_of_le (by omega)]
 | d :: ds, i, ys, h, hl => by
  unfold viewCells at h
  replace h := Dt.bind_some h; obtain ⟨y, h1, h⟩ := h
  replace h := Dt.bind_some h; obtain ⟨zs, h2, h⟩ := h
  cases h
  simp only [List.length_cons] at hl
  have := viewCells_ok h2 (by omega)
  rw [viewCell_ok h1, this]
  have hi : i < cs.length := by omega
  rw [List.drop_eq_getElem_cons hi]
  unfold nthT
  rw [gD, gE hi]
  rfl
theorem viewT_ok {ti : TypeId -> Option TI} {t : TypeId} {y v : T} (h : (viewT ti t y).den = some v) : v = y := by
 unfold viewT at h
 replace h := Dt.lift_bind_some h; obtain ⟨i, h1, h⟩ := h
 cases hag : i.agg with
 | false => rw [hag] at h; exact viewCell_ok h
 | true =>
  rw [hag] at h
  replace h := Dt.lift_bind_some h; obtain ⟨ds, h2, h⟩ := h
  replace h := Dt.opt_some h; obtain ⟨cs, h3, h⟩ := h
  replace h := Dt.bind_some h; obtain ⟨ys, h4, h⟩ := h
  cases h
  obtain ⟨rfl, hl⟩ := agg?_some h3
  rw [viewCells_ok h4 (by omega)]
  rfl
theorem viewTs_ok {ti : TypeId -> Option TI} {cs : List T} : ∀ {ds : List TypeId} {i : Nat} {ys : List T}, (viewTs ti cs ds i).den = some ys -> i + ds.length = cs.length -> ys = cs.drop i
 | [], i, ys, h, hl => by
  cases h
  simp at hl
  rw [List.drop_eq_nil_of_le (by omega)]
 | d :: ds, i, ys, h, hl => by
  unfold viewTs at h
  replace h := Dt.bind_some h; obtain ⟨y, h1, h⟩ := h
  replace h := Dt.bind_some h; obtain ⟨zs, h2, h⟩ := h
  cases h
  simp only [List.length_cons] at hl
  have := viewTs_ok h2 (by omega)
  rw [viewT_ok h1, this]
  have hi : i < cs.length := by omega
  rw [List.drop_eq_getElem_cons hi]
  unfold nthT
  rw [gD, gE hi]
  rfl
theorem viewR_ok {ti : TypeId -> Option TI} {res : List TypeId} {y v : T} (h : (viewR ti res y).den = some v) : v = y := by
 unfold viewR at h
 split at h
 . exact viewT_ok h
 . replace h := Dt.opt_some h; obtain ⟨cs, h3, h⟩ := h
   replace h := Dt.bind_some h; obtain ⟨ys, h4, h⟩ := h
   cases h
   obtain ⟨rfl, hl⟩ := tup?_some h3
   rw [viewTs_ok h4 (by omega)]
   rfl
end Go.Apex
