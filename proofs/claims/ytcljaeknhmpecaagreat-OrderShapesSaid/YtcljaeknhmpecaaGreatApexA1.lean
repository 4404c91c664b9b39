import Derived.Calls
import Derived.Below
set_option linter.all false
namespace Go.Apex
theorem oB {α β : Type _} {b : β} {x : Option α} {f : α → Option β} : x.bind f = some b ↔ ∃ a, x = some a ∧ f a = some b := Option.bind_eq_some_iff
theorem oS {α β : Type _} (a : α) (f : α → Option β) : (some a).bind f = f a := rfl
theorem oM {α β : Type _} {b : β} {x : Option α} {f : α → β} : x.map f = some b ↔ ∃ a, x = some a ∧ f a = b := Option.map_eq_some_iff
theorem oI {α : Type _} (a b : α) : (some a = some b) = (a = b) := Option.some.injEq a b
theorem gS {α : Type _} {l : List α} {i : Nat} {a : α} : l[i]? = some a ↔ ∃ h : i < l.length, l[i] = a := List.getElem?_eq_some_iff
theorem gE {α : Type _} {l : List α} {i : Nat} (h : i < l.length) : l[i]? = some l[i] := List.getElem?_eq_getElem h
theorem gD {α : Type _} {l : List α} {i : Nat} {a : α} : l.getD i a = l[i]?.getD a := List.getD_eq_getElem?_getD
open Go
noncomputable section
inductive T where
 | bool (b : Bool)
 | int (k : IntKind) (n : Int)
 | str (s : List UInt8)
 | nilp
 | ptr (x : T)
 | nils
 | sl (ex : Bool) (sz : Nat) (xs : List T)
 | nilm
 | mp (ks vs : List T)
 | nilf
 | fn (f : Fn) (first cap : List T)
 | nili
 | iface (t : TypeId) (x : T)
 | agg (cs : List T)
 | tup (xs : List T)
 deriving Inhabited
inductive V where
 | t (x : T)
 | ref (id gen off : Nat) (sh : Option Nat)
 | msl (id gen off len : Nat) (sh : Option Nat)
 | mmp (id : Nat)
 | it (id : Nat) (cur : Option (T × T))
 | yld (id : Nat)
 | agg (cs : List V)
 | tup (xs : List V)
 | fn (f : Fn) (first cap : List V)
 | iface (t : TypeId) (x : V)
 | junk
 deriving Inhabited
inductive D where
 | bool | int (k : IntKind) | str | ptr (e : TypeId) | slice (e : TypeId) | map (k e : TypeId)
 | struct (fs : List (TypeId × Nat × Bool)) | func | iface | unsafe_ | other
def D.isIface : D -> Bool
 | .iface => true
 | _ => false
inductive C where
 | v (x : V)
 | own (e : TypeId) (sh : Option Nat) (xs : List T)
 deriving Inhabited
def C.val? : C -> Option V
 | .v x => some x
 | _ => none
structure TI where
 size : Nat
 bytes : Nat
 agg : Bool
 zero : Option T
 d : D
 eqok : Bool
def TI.sh (i : TI) : Option Nat := if i.agg then some i.size else none
def shSize (sh : Option Nat) : Nat := sh.getD 1
def T.str? : T -> Option (List UInt8)
 | .str s => some s
 | _ => none
def T.cells : T -> List T
 | .agg cs => cs
 | x => [x]
def T.isAgg : T -> Bool
 | .agg _ => true
 | _ => false
def T.one : T -> Bool
 | .agg _ | .tup _ => false
 | _ => true
def T.scalar1 : T -> Bool
 | .bool _ | .int _ _ | .str _ | .nilp | .nils | .nilm | .nilf | .nili => true
 | _ => false
def T.scalar2 : T -> Bool
 | .agg cs => cs.all T.scalar1
 | x => x.scalar1
def T.scalar : T -> Bool
 | .tup cs => cs.all T.scalar2
 | x => x.scalar2
def V.cells : V -> List V
 | .t (.agg cs) => cs.map .t
 | .agg cs => cs
 | v => [v]
def V.isAgg : V -> Bool
 | .t (.agg _) | .agg _ => true
 | _ => false
def V.isJunk : V -> Bool
 | .junk => true
 | _ => false
def V.one : V -> Bool
 | .t x => x.one
 | .agg _ | .tup _ | .junk => false
 | _ => true
def V.fits (v : V) (sh : Option Nat) : Bool :=
 match sh with
 | none => v.one
 | some n => v.isAgg && v.cells.length == n && v.cells.all V.one
def T.fits (x : T) (sh : Option Nat) : Bool :=
 match sh with
 | none => x.one
 | some n => x.isAgg && x.cells.length == n && x.cells.all T.one
def mapO {α β : Type} (g : α -> Option β) : List α -> Option (List β)
 | [] => some []
 | a :: r => (g a).bind fun b => (mapO g r).bind fun bs => some (b :: bs)
def C.toV : C -> V
 | .v x => x
 | .own _ sh xs => .t (.sl false (shSize sh) xs)
def C.flat : C -> Bool
 | .v x => (match x with | .t _ => true | _ => false)
 | .own .. => true
def toT : V -> Option T
 | .t x => some x
 | _ => none
def allT (vs : List V) : Option (List T) := mapO toT vs
def mkAgg (vs : List V) : V := match allT vs with | some xs => .t (.agg xs) | none => .agg vs
def mkTup (vs : List V) : V := match allT vs with | some xs => .t (.tup xs) | none => .tup vs
def mkFn (f : Fn) (a b : List V) : V :=
 match allT a, allT b with | some xs, some ys => .t (.fn f xs ys) | _, _ => .fn f a b
def mkIface (t : TypeId) : V -> V
 | .t x => .t (.iface t x)
 | v => .iface t v
def ofCell : Value -> Option T
 | .bool b => some (.bool b)
 | .int k n => some (.int k n)
 | .string s => some (.str s.data.toList)
 | .pointer none => some .nilp
 | .slice none 0 0 => some .nils
 | .map none => some .nilm
 | .nilFunc => some .nilf
 | .nilIface => some .nili
 | _ => none
def ofValue : Value -> Option T
 | .agg cs => (mapO ofCell cs.toList).map .agg
 | .tuple vs => if vs.size = 0 then some (.tup []) else none
 | v => ofCell v
def dOf : TypeDesc -> D
 | .bool => .bool
 | .int k => .int k
 | .string => .str
 | .pointer e => .ptr e
 | .slice e => .slice e
 | .map k e => .map k e
 | .struct fs => .struct (fs.toList.map fun f => (f.type, f.offset, f.name == "_"))
 | .func _ _ _ => .func
 | .interface _ => .iface
 | .unsafePointer => .unsafe_
 | _ => .other
def aggOf : TypeDesc -> Bool
 | .struct _ | .array _ _ => true
 | _ => false
def tiOf (P : Program) (t : TypeId) : Option TI :=
 (P.info? t).bind fun i => (P.underlying t).bind fun u =>
  if aggOf u || i.size == 1 then
   some { size := i.size, bytes := i.bytes, agg := aggOf u, zero := i.zero.bind ofValue, d := dOf u, eqok := !P.eqGuardType P.depth t && !P.stoodInHeld t }
  else none
inductive Tr (α : Type) where
 | leaf
 | node (l : Tr α) (k : Nat) (v : α) (r : Tr α)
def Tr.find {α : Type} : Tr α -> Nat -> Option α
 | .leaf, _ => none
 | .node l k v r, x => bif Nat.ble (x + 1) k then l.find x else bif Nat.ble (k + 1) x then r.find x else some v
def Tr.All {α : Type} (p : Nat -> α -> Prop) : Tr α -> Prop
 | .leaf => True
 | .node l k v r => l.All p /\ p k v /\ r.All p
theorem Tr.all_find {α : Type} {p : Nat -> α -> Prop} : ∀ (t : Tr α), t.All p -> ∀ (k : Nat) (v : α), t.find k = some v -> p k v
 | .leaf, _, _, _, h => by simp [Tr.find] at h
 | .node l k0 v0 r, ha, k, v, h => by
  obtain ⟨hl, hv, hr⟩ := ha
  simp only [Tr.find] at h
  cases h1 : Nat.ble (k + 1) k0 with
  | true => rw [h1] at h; exact Tr.all_find l hl k v h
  | false =>
   cases h2 : Nat.ble (k0 + 1) k with
   | true => rw [h1, h2] at h; exact Tr.all_find r hr k v h
   | false =>
    rw [h1, h2] at h
    have e1 : ¬ k + 1 <= k0 := fun h => by rw [Nat.ble_eq_true_of_le h] at h1; cases h1
    have e2 : ¬ k0 + 1 <= k := fun h => by rw [Nat.ble_eq_true_of_le h] at h2; cases h2
    have : k = k0 := by omega
    subst this
    simp only [cond_false, oI] at h
    exact h ▸ hv
inductive Tm (α : Type) where
 | nil
 | node (v : Option α) (l r : Tm α)
def Tm.get {α : Type} (t : Tm α) : Nat -> Option α :=
 Tm.rec (motive := fun _ => Nat -> Option α) (fun _ => none)
  (fun v _ _ gl gr n => cond (Nat.beq n 0) v (cond (Nat.beq (Nat.mod n 2) 1) (gl (Nat.div n 2)) (gr (Nat.sub (Nat.div n 2) 1)))) t
def Tm.upd {α : Type} (x : α) (t : Tm α) : Nat -> Tm α :=
 Tm.rec (motive := fun _ => Nat -> Tm α) (fun _ => .nil)
  (fun v l r ul ur n => cond (Nat.beq n 0) (.node (v.map fun _ => x) l r) (cond (Nat.beq (Nat.mod n 2) 1) (.node v (ul (Nat.div n 2)) r) (.node v l (ur (Nat.sub (Nat.div n 2) 1))))) t
def Tm.isNil {α : Type} : Tm α -> Bool
 | .nil => true
 | _ => false
def Tm.val {α : Type} : Tm α -> Option α
 | .nil => none
 | .node v _ _ => v
def Tm.left {α : Type} : Tm α -> Tm α
 | .nil => .nil
 | .node _ l _ => l
def Tm.right {α : Type} : Tm α -> Tm α
 | .nil => .nil
 | .node _ _ r => r
def Tm.putF {α : Type} (x : Option α) (fuel : Nat) : Tm α -> Nat -> Tm α :=
 Nat.rec (motive := fun _ => Tm α -> Nat -> Tm α) (fun t _ => t)
  (fun _ ih t n => cond (Nat.beq n 0) (.node x t.left t.right)
   ((fun b => (fun r => Tm.node t.val (cond b r t.left) (cond b t.right r)) (ih (cond b t.left t.right) (cond b (Nat.div n 2) (Nat.sub (Nat.div n 2) 1)))) (Nat.beq (Nat.mod n 2) 1))) fuel
def Tm.put {α : Type} (t : Tm α) (n : Nat) (x : Option α) : Tm α := Tm.putF x (Nat.succ n) t n
def Tm.blankF {α : Type} (x : α) (fuel : Nat) : Nat -> Tm α :=
 Nat.rec (motive := fun _ => Nat -> Tm α) (fun _ => .nil)
  (fun _ ih n => cond (Nat.beq n 0) .nil (.node (some x) (ih (Nat.div n 2)) (ih (Nat.div (Nat.sub n 1) 2)))) fuel
def Tm.blank {α : Type} (x : α) (n : Nat) : Tm α := Tm.blankF x (Nat.succ n) n
def Tm.keepOnly {α : Type} (j : α) (t : Tm α) : (Nat -> Bool) -> Tm α :=
 Tm.rec (motive := fun _ => (Nat -> Bool) -> Tm α) (fun _ => .nil)
  (fun v _ _ kl kr p => .node (v.map fun x => cond (p 0) x j) (kl fun k => p (Nat.succ (Nat.mul 2 k))) (kr fun k => p (Nat.succ (Nat.succ (Nat.mul 2 k))))) t
def Tm.all {α : Type} (p : α -> Bool) (t : Tm α) : Bool :=
 Tm.rec (motive := fun _ => Bool) true (fun v _ _ l r => (match v with | some x => p x | none => true) && (l && r)) t
inductive CMode where | pure | scalar | fresh | shared | framed
 deriving DecidableEq
structure Cfg where
 ti : TypeId -> Option TI
 code : FuncId -> Option Func
 mode : FuncId -> CMode
 imm : FuncId -> Tmp -> Bool
 shut : FuncId -> Nat -> List Tmp
 prim : FuncId -> Option (List T -> Option T)
 keep : FuncId -> Nat -> Option (List Tmp)
 chk : FuncId -> Option TypeId := fun _ => none
 prot : Nat -> Nat -> Option (List Tmp × List Tmp) := fun _ _ => none
 twin : FuncId -> Option Nat := fun _ => none
 flat : TypeId -> Bool := fun _ => false
inductive Obj where
 | cells (gen : Nat) (e : TypeId) (fz : Bool) (cs : List V)
 | map (ks : List T) (vs : List V)
 | mit (ks vs : List T)
 | sit (s : List UInt8) (pos : Nat)
 | loop (st : LoopState) (pend : Option Code) (f : FuncId) (ts : Tm V) (ps : List Tmp) (asg body : Code)
 | defer (open_ : Bool)
 | nest (gen : Nat) (e : TypeId) (cs : List C) (foc : Option (Nat × List V))
structure Heap where
 next : Nat
 tr : Tm Obj
def Heap.obj (h : Heap) (id : Nat) : Option Obj := h.tr.get id
def Heap.set (h : Heap) (id : Nat) (o : Option Obj) : Heap := ⟨h.next, h.tr.put id o⟩
def Heap.push (h : Heap) (o : Obj) : Heap := ⟨Nat.succ h.next, h.tr.put h.next (some o)⟩
def Heap.empty : Heap := ⟨0, .nil⟩
mutual
def V.bd (n : Nat) : V -> Bool
 | .t _ => true
 | .junk => true
 | .ref id _ _ _ => Nat.ble (id + 1) n
 | .msl id _ _ _ _ => Nat.ble (id + 1) n
 | .mmp id => Nat.ble (id + 1) n
 | .it id c => c.isNone && Nat.ble (id + 1) n
 | .yld id => Nat.ble (id + 1) n
 | .agg cs => V.bdL n cs
 | .tup cs => V.bdL n cs
 | .fn _ a b => V.bdL n a && V.bdL n b
 | .iface _ x => V.bd n x
def V.bdL (n : Nat) : List V -> Bool
 | [] => true
 | v :: r => V.bd n v && V.bdL n r
end
def Obj.bd (n : Nat) : Obj -> Bool
 | .cells _ _ _ cs => V.bdL n cs
 | .map _ vs => V.bdL n vs
 | .mit _ _ => true
 | .sit _ _ => true
 | .loop _ _ _ ts _ _ _ => ts.all (V.bd n)
 | .defer _ => true
 | .nest _ _ cs fc => (cs.all fun c => match c with | .v x => V.bd n x | .own .. => true) && (match fc with | none => true | some p => V.bdL n p.2)
def V.isT : V -> Bool
 | .t _ => true
 | .junk => true
 | _ => false
def scan (deep : Bool) (obj : Nat -> Option Obj) : Nat -> List V -> List Nat -> List Nat
 | 0, _, acc => acc
 | _, [], acc => acc
 | n + 1, v :: r, acc => match v with
  | .ref id _ _ _ => if acc.contains id then scan deep obj n r acc else match obj id with
   | some (.cells _ _ _ cs) => scan deep obj n (cs.filter (fun v => !v.isT) ++ r) (id :: acc)
   | _ => scan deep obj n r (id :: acc)
  | .msl id _ _ _ _ => cond deep (if acc.contains id then scan deep obj n r acc else match obj id with
   | some (.cells _ _ _ cs) => scan deep obj n (cs.filter (fun v => !v.isT) ++ r) (id :: acc)
   | _ => scan deep obj n r (id :: acc)) (scan deep obj n r (id :: acc))
  | .mmp id => cond deep (if acc.contains id then scan deep obj n r acc else match obj id with
   | some (.map _ vs) => scan deep obj n (vs.filter (fun v => !v.isT) ++ r) (id :: acc)
   | _ => scan deep obj n r (id :: acc)) (scan deep obj n r (id :: acc))
  | .it id _ => scan deep obj n r (id :: acc)
  | .yld id => scan deep obj n r (id :: acc)
  | .agg cs => scan deep obj n (cs ++ r) acc
  | .tup cs => scan deep obj n (cs ++ r) acc
  | .fn _ a b => scan deep obj n (a ++ (b ++ r)) acc
  | .iface _ x => scan deep obj n (x :: r) acc
  | .t _ => scan deep obj n r acc
  | .junk => scan deep obj n r acc
def deepOf (ks : List Tmp) : Bool := ks.any fun t => Nat.beq t 990
def topOf : Nat -> List Nat -> Nat
 | n, [] => n
 | n, i :: r => topOf (cond (Nat.ble n i) (i + 1) n) r
def gather (t : Tm Obj) (ok : Nat -> Bool) : Nat -> Nat -> Tm Obj -> Tm Obj
 | _, 0, acc => acc
 | n, k + 1, acc => gather t ok (n + 1) k (match t.get n with | some o => cond (ok n) (acc.put n (some o)) acc | none => acc)
def allObjs (p : Obj -> Bool) (t : Tm Obj) : Nat -> Nat -> Bool
 | _, 0 => true
 | n, k + 1 => (match t.get n with | some o => p o | none => true) && allObjs p t (n + 1) k
def resetH (n0 : Nat) (ids : List Nat) (h : Heap) : Option Heap :=
 let n1 := topOf n0 ids
 let t := gather h.tr (fun i => Nat.ble (i + 1) n0 || ids.contains i) 0 h.next .nil
 if n1 <= h.next /\ allObjs (Obj.bd n1) t 0 n1 then some ⟨n1, t⟩ else none
def loopKey : Code -> Nat
 | .region id _ _ => id
 | .seq a _ => loopKey a
 | .block _ c => loopKey c
 | .scope c => loopKey c
 | .loop c => loopKey c
 | _ => 0
def scanFuel : Nat := 400
mutual
def T.eqb : T -> T -> Bool
 | .bool a, .bool b => decide (a = b)
 | .int k n, .int k' n' => decide (k = k') && decide (n = n')
 | .str a, .str b => decide (a = b)
 | .nilp, .nilp => true
 | .ptr x, .ptr y => T.eqb x y
 | .nils, .nils => true
 | .sl e s xs, .sl e' s' ys => decide (e = e') && decide (s = s') && T.eqbL xs ys
 | .nilm, .nilm => true
 | .mp a b, .mp c d => T.eqbL a c && T.eqbL b d
 | .nilf, .nilf => true
 | .nili, .nili => true
 | .iface ty x, .iface uy y => decide (ty = uy) && T.eqb x y
 | .agg a, .agg b => T.eqbL a b
 | .tup a, .tup b => T.eqbL a b
 | _, _ => false
def T.eqbL : List T -> List T -> Bool
 | [], [] => true
 | x :: r, y :: q => T.eqb x y && T.eqbL r q
 | _, _ => false
end
mutual
def V.eqb : V -> V -> Bool
 | .t x, .t y => T.eqb x y
 | .ref a b c d, .ref a' b' c' d' => decide (a = a') && decide (b = b') && decide (c = c') && decide (d = d')
 | .msl a b c e d, .msl a' b' c' e' d' => decide (a = a') && decide (b = b') && decide (c = c') && decide (e = e') && decide (d = d')
 | .mmp a, .mmp b => decide (a = b)
 | .it a none, .it b none => decide (a = b)
 | .yld a, .yld b => decide (a = b)
 | .agg a, .agg b => V.eqbL a b
 | .tup a, .tup b => V.eqbL a b
 | .iface ty x, .iface uy y => decide (ty = uy) && V.eqb x y
 | .junk, .junk => true
 | _, _ => false
def V.eqbL : List V -> List V -> Bool
 | [], [] => true
 | x :: r, y :: q => V.eqb x y && V.eqbL r q
 | _, _ => false
end
def optEq {α : Type} (e : α -> α -> Bool) : Option α -> Option α -> Bool
 | none, none => true
 | some a, some b => e a b
 | _, _ => false
def Tm.eqb {α : Type} (e : α -> α -> Bool) : Tm α -> Tm α -> Bool
 | .nil, .nil => true
 | .node v l r, .node v' l' r' => optEq e v v' && Tm.eqb e l l' && Tm.eqb e r r'
 | _, _ => false
def Obj.eqb : Obj -> Obj -> Bool
 | .cells g e f cs, .cells g' e' f' cs' => decide (g = g') && decide (e = e') && decide (f = f') && V.eqbL cs cs'
 | .map ks vs, .map ks' vs' => T.eqbL ks ks' && V.eqbL vs vs'
 | .mit ks vs, .mit ks' vs' => T.eqbL ks ks' && T.eqbL vs vs'
 | .sit s p, .sit s' p' => decide (s = s') && decide (p = p')
 | .defer a, .defer b => decide (a = b)
 | _, _ => false
abbrev Rd := Nat -> Option Obj
abbrev Ts := Tm V
structure St where
 ts : Ts
 h : Heap
 marks : List Nat
inductive Out where | norm | ret | exit (id : Nat)
inductive Tgt where | fn (f : FuncId) | yld (l : Nat)
def reset (n0 : Nat) (ks : List Tmp) (s : St) : Option St :=
 let ts := s.ts.keepOnly .junk (fun t => ks.contains t)
 let ids := scan (deepOf ks) s.h.obj scanFuel (ks.filterMap (fun t => s.ts.get t)) s.marks
 (resetH n0 ids s.h).bind fun h => if ts.all (V.bd h.next) && s.marks.all (fun i => Nat.ble (i + 1) h.next) then some ⟨ts, h, s.marks⟩ else none
def resetAt (cfg : Cfg) (f : FuncId) (c : Code) (n0 : Nat) (s : St) : Option St :=
 match cfg.keep f (loopKey c) with
 | none => some s
 | some ks => reset n0 ks s
def resetRound (cfg : Cfg) (f : FuncId) (c : Code) (n0 : Nat) (ts : Ts) (h : Heap) : Option Heap :=
 match cfg.keep f (loopKey c) with
 | none => some h
 | some ks => resetH n0 (scan (deepOf ks) h.obj scanFuel (ks.filterMap (fun t => ts.get t)) []) h
structure Env where
 pure : FuncId -> List T -> Option T
 call : Tgt -> List V -> Heap -> Option (V × Heap)
 iter : (St -> Option (Out × St)) -> St -> Option (Out × St)
def undefV : V := .t (.tup [])
def ev (ts : Ts) : Operand -> Option V
 | .tmp t => ts.get t
 | .const v => (ofValue v).map .t
 | .global _ => none
 | .func f => some (.t (.fn (.func f) [] []))
def setRange {α : Type} (cs : List α) (off : Nat) (new : List α) : List α := cs.take off ++ new ++ cs.drop (off + new.length)
def partV (i : TI) (cs : List V) (off : Nat) : Option V :=
 if i.agg then (if off + i.size <= cs.length then some (mkAgg ((cs.drop off).take i.size)) else none) else cs[off]?
def partT (i : TI) (cs : List T) (off : Nat) : Option T :=
 if i.agg then (if off + i.size <= cs.length then some (.agg ((cs.drop off).take i.size)) else none) else cs[off]?
def shPart (sh : Option Nat) (cs : List V) (off : Nat) : Option V :=
 match sh with
 | some n => if off + n <= cs.length then some (mkAgg ((cs.drop off).take n)) else none
 | none => cs[off]?
def partN (i : TI) (cs : List C) (off : Nat) : Option V :=
 if i.agg then (if off + i.size <= cs.length then (mapO C.val? ((cs.drop off).take i.size)).map mkAgg else none) else (cs[off]?).bind C.val?
def loadV (i : TI) (hb : Rd) : V -> Option V
 | .t (.ptr x) => if x.fits i.sh then some (.t x) else none
 | .ref id gen off _ =>
  match hb id with
  | some (.cells g _ _ cs) => if g = gen then partV i cs off else none
  | some (.nest g _ cs _) => if g = gen then partN i cs off else none
  | _ => none
 | _ => none
def fill (place : Nat -> Option (Nat × Option Nat)) (cells : List V) : List (Nat × V) -> Option (List V)
 | [] => some cells
 | (i, v) :: rest =>
  (place i).bind fun (off, sh) =>
   if v.fits sh && decide (off + v.cells.length <= cells.length) then fill place (setRange cells off v.cells) rest else none
def elemsFrom (sh : Option Nat) (cs : List V) (off : Nat) : Nat -> Option (List V)
 | 0 => some []
 | n + 1 => (shPart sh cs off).bind fun v => (elemsFrom sh cs (off + shSize sh) n).bind fun r => some (v :: r)
def elems (sh : Option Nat) (hb : Rd) : V -> Option (List V)
 | .t .nils => some []
 | .t (.sl _ sz xs) => if sz = shSize sh /\ xs.all (·.fits sh) then some (xs.map .t) else none
 | .t (.str s) => if sh = none then some (s.map fun b => .t (.int .u8 b.toNat)) else none
 | .msl id gen off len sh' =>
  match hb id with
  | some (.cells g _ _ cs) => if g = gen /\ sh' = sh then (elemsFrom sh cs off len).bind fun es => if es.all (·.fits sh) then some es else none else none
  | _ => none
 | _ => none
def asI : V -> Option Int
 | .t (.int _ n) => some n
 | _ => none
def semPure : Sem Value -> Option Value
 | .pure v => some v
 | _ => none
def strOp (op : BinOp) (x y : List UInt8) : Option T :=
 match op with
 | .add => if x.length + y.length <= 9223372036854775807 then some (.str (x ++ y)) else none
 | .eql => some (.bool (x == y))
 | .neq => some (.bool (!(x == y)))
 | .lss => some (.bool (Op.bytesLess x y))
 | .leq => some (.bool (Op.bytesLess x y || x == y))
 | .gtr => some (.bool (!(Op.bytesLess x y || x == y)))
 | .geq => some (.bool (!Op.bytesLess x y))
 | _ => none
def eqNil (isNil isSome : V -> Bool) (x y : V) : Option Bool :=
 if isNil x then (if isNil y then some true else if isSome y then some false else none)
 else if isSome x && isNil y then some false else none
def isNilp : V -> Bool
 | .t .nilp => true
 | _ => false
def isPtr : V -> Bool
 | .t (.ptr _) | .ref .. => true
 | _ => false
def isNils : V -> Bool
 | .t .nils => true
 | _ => false
def isSl : V -> Bool
 | .t (.sl ..) | .msl .. => true
 | _ => false
def isNilm : V -> Bool
 | .t .nilm => true
 | _ => false
def isMp : V -> Bool
 | .t (.mp ..) | .mmp .. => true
 | _ => false
def isNilf : V -> Bool
 | .t .nilf => true
 | _ => false
def isFn : V -> Bool
 | .t (.fn ..) | .fn .. | .yld _ => true
 | _ => false
def isNili : V -> Bool
 | .t .nili => true
 | _ => false
def isIf : V -> Bool
 | .t (.iface ..) | .iface .. => true
 | _ => false
def eqCell (d : D) (x y : V) : Option Bool :=
 match d with
 | .bool => match x, y with | .t (.bool a), .t (.bool b) => some (a == b) | _, _ => none
 | .int _ => match x, y with | .t (.int k a), .t (.int k' b) => if k = k' then some (a == b) else none | _, _ => none
 | .str => match x, y with | .t (.str a), .t (.str b) => some (a == b) | _, _ => none
 | .ptr _ => eqNil isNilp isPtr x y
 | .slice _ => eqNil isNils isSl x y
 | .map _ _ => eqNil isNilm isMp x y
 | .func => eqNil isNilf isFn x y
 | .iface => eqNil isNili isIf x y
 | _ => none
def eqFields (ti : TypeId -> Option TI) (a b : List V) : List (TypeId × Nat × Bool) -> Option Bool
 | [] => some true
 | (t, off, blank) :: rest =>
  if blank then none else
  (ti t).bind fun i => if i.agg || i.d.isIface then none else
   (a[off]?).bind fun x => (b[off]?).bind fun y => (eqCell i.d x y).bind fun e =>
    if e then eqFields ti a b rest else some false
def eqV (ti : TypeId -> Option TI) (t : TypeId) (x y : V) : Option Bool :=
 (ti t).bind fun i =>
  match i.d with
  | .struct fs => if x.isAgg && y.isAgg && i.eqok then eqFields ti x.cells y.cells fs else none
  | d => eqCell d x y
def binV (ti : TypeId -> Option TI) (op : BinOp) (xt : TypeId) (x y : V) : Option V :=
 match x, y with
 | .t (.int k a), .t (.int k' b) => ((semPure (Go.binOp op xt (.int k a) (.int k' b))).bind ofCell).map .t
 | .t (.str a), .t (.str b) => (strOp op a b).map .t
 | x, y =>
  match op with
  | .eql => (eqV ti xt x y).map fun b => .t (.bool b)
  | .neq => (eqV ti xt x y).map fun b => .t (.bool (!b))
  | _ => none
def unV (op : UnOp) : V -> Option V
 | .t (.int k a) => ((semPure (Op.unary op (.int k a))).bind ofCell).map .t
 | .t (.bool b) => match op with | .not => some (.t (.bool (!b))) | _ => none
 | _ => none
def nilConst : Operand -> Bool
 | .const .nilIface => true
 | _ => false
def keyEq : T -> T -> Option Bool
 | .int k a, .int k' b => if k = k' then some (a == b) else none
 | .str a, .str b => some (a == b)
 | .bool a, .bool b => some (a == b)
 | _, _ => none
def keyFits : D -> T -> Bool
 | .int _, .int _ _ | .str, .str _ | .bool, .bool _ => true
 | _, _ => false
def findKey (k : T) : List T -> Nat -> Option (Option Nat)
 | [], _ => some none
 | e :: r, i => (keyEq k e).bind fun b => if b then some (some i) else findKey k r (i + 1)
def optInt (ts : Ts) : Option Operand -> Option (Option Int)
 | none => some none
 | some o => ((ev ts o).bind asI).map some
def sliceV (x : V) (lo hi mx : Option Int) : Option V :=
 match x with
 | .t (.str s) =>
  let h := hi.getD s.length; let l := lo.getD 0
  if mx.isNone /\ 0 <= l /\ l <= h /\ h <= s.length then some (.t (.str ((s.take h.toNat).drop l.toNat))) else none
 | .t .nils => if lo.getD 0 = 0 /\ hi.getD 0 = 0 /\ mx.getD 0 = 0 /\ (mx.isNone \/ hi.isSome) then some (.t .nils) else none
 | .t (.sl ex sz xs) =>
  let h := hi.getD xs.length; let l := lo.getD 0
  if 0 <= l /\ l <= h /\ h <= xs.length then
   match mx with
   | none => some (.t (.sl (ex && h == xs.length) sz ((xs.take h.toNat).drop l.toNat)))
   | some m => if m = h /\ hi.isSome then some (.t (.sl true sz ((xs.take h.toNat).drop l.toNat))) else none
  else none
 | .msl id gen off len sh =>
  let h := hi.getD len; let l := lo.getD 0
  if 0 <= l /\ l <= h /\ h <= len then
   match mx with
   | none => some (.msl id gen (off + l.toNat * shSize sh) (h.toNat - l.toNat) sh)
   | some m => if m = 0 /\ h = 0 /\ hi.isSome then some (.t (.sl true (shSize sh) [])) else none
  else none
 | _ => none
def fieldOf (fs : List (TypeId × Nat × Bool)) (f : Nat) : Option (TypeId × Nat) := (fs[f]?).map fun x => (x.1, x.2.1)
def fieldAddrV (cfg : Cfg) (s : TypeId) (x : V) (f : Nat) : Option V :=
 (cfg.ti s).bind fun i =>
  match i.d with
  | .struct fs => (fieldOf fs f).bind fun (t, off) => (cfg.ti t).bind fun j =>
   if j.size = 0 then none else
   match x with
   | .t (.ptr (.agg cs)) => (partT j cs off).bind fun y => if y.fits j.sh then some (.t (.ptr y)) else none
   | .ref id gen o _ => some (.ref id gen (o + off) j.sh)
   | _ => none
  | _ => none
def fieldV (cfg : Cfg) (s : TypeId) (x : V) (f : Nat) : Option V :=
 (cfg.ti s).bind fun i =>
  match i.d with
  | .struct fs => (fieldOf fs f).bind fun (t, off) => (cfg.ti t).bind fun j => if x.isAgg then partV j x.cells off else none
  | _ => none
def indexAddrV (cfg : Cfg) (t : TypeId) (x : V) (i : Int) : Option V :=
 (cfg.ti t).bind fun u =>
  match u.d with
  | .slice e => (cfg.ti e).bind fun j =>
   match x with
   | .t (.sl _ sz xs) => if 0 <= i /\ sz = j.size then (xs[i.toNat]?).map fun y => .t (.ptr y) else none
   | .msl id gen off len sh => if 0 <= i /\ i < len /\ sh = j.sh then some (.ref id gen (off + i.toNat * shSize sh) sh) else none
   | _ => none
  | _ => none
def indexV (cfg : Cfg) (t : TypeId) (x : V) (i : Int) : Option V :=
 (cfg.ti t).bind fun u =>
  match u.d, x with
  | .str, .t (.str s) => if 0 <= i then (s[i.toNat]?).map fun b => .t (.int .u8 b.toNat) else none
  | _, _ => none
def foldMax (op : Int -> Int -> Int) (k : IntKind) : Int -> List V -> Option V
 | a, [] => some (.t (.int k a))
 | a, .t (.int k' b) :: r => if k = k' then foldMax op k (op a b) r else none
 | _, _ => none
def lookupIn (ks : List T) (vs : List V) (k : T) : Option (Option V) :=
 (findKey k ks 0).bind fun r => match r with | none => some none | some i => (vs[i]?).map some
def mapParts (hb : Rd) : V -> Option (List T × List V)
 | .t .nilm => some ([], [])
 | .t (.mp ks vs) => some (ks, vs.map .t)
 | .mmp id => match hb id with | some (.map ks vs) => some (ks, vs) | _ => none
 | _ => none
def snap (h : Rd) : Nat -> V -> Option T
 | 0, _ => none
 | n + 1, v =>
  match v with
  | .t x => some x
  | .ref id gen off sh =>
   match h id with
   | some (.cells g _ _ cs) =>
    if g = gen then
     match sh with
     | none => ((cs[off]?).bind (snap h n)).bind fun x => if x.one then some (.ptr x) else none
     | some k => if off + k <= cs.length then (mapO (snap h n) ((cs.drop off).take k)).map fun xs => .ptr (.agg xs) else none
    else none
   | some (.nest g _ cs0 none) =>
    if g = gen then
     let cs := cs0.map C.toV
     match sh with
     | none => ((cs[off]?).bind (snap h n)).bind fun x => if x.one then some (.ptr x) else none
     | some k => if off + k <= cs.length then (mapO (snap h n) ((cs.drop off).take k)).map fun xs => .ptr (.agg xs) else none
    else none
   | _ => none
  | .msl id gen off len sh =>
   match h id with
   | some (.cells g _ _ cs) =>
    if g = gen then (elemsFrom sh cs off len).bind fun es => (mapO (snap h n) es).bind fun xs => if xs.all (·.fits sh) then some (.sl false (shSize sh) xs) else none else none
   | some (.nest g _ cs none) =>
    if g = gen then (elemsFrom sh (cs.map C.toV) off len).bind fun es => (mapO (snap h n) es).bind fun xs => if xs.all (·.fits sh) then some (.sl false (shSize sh) xs) else none else none
   | _ => none
  | .mmp id =>
   match h id with
   | some (.map ks vs) => (mapO (snap h n) vs).map fun xs => .mp ks xs
   | _ => none
  | .agg cs => (mapO (snap h n) cs).map .agg
  | .tup xs => (mapO (snap h n) xs).map .tup
  | .fn f a b => (mapO (snap h n) a).bind fun xs => (mapO (snap h n) b).map fun ys => .fn f xs ys
  | .iface t x => (snap h n x).map fun y => .iface t y
  | .it _ _ | .yld _ | .junk => none
def snapFuel : Nat := 60
def tgtOf : V -> Option (Tgt × List V × List V)
 | .t (.fn (.func f) a b) => some (.fn f, a.map .t, b.map .t)
 | .fn (.func f) a b => some (.fn f, a, b)
 | .yld l => some (.yld l, [], [])
 | _ => none
def quietCall (cfg : Cfg) (E : Env) (f : FuncId) (args : List V) (hb : Rd) : Option V :=
 match cfg.mode f with
 | .pure => (allT args).bind fun xs => (E.pure f xs).map .t
 | .scalar => (mapO (snap hb snapFuel) args).bind fun xs => (E.pure f xs).bind fun r => if r.scalar then some (.t r) else none
 | .fresh | .shared | .framed => none
mutual
def V.ren (r : Nat -> Nat) : V -> V
 | .t x => .t x
 | .ref id gen off sh => .ref (r id) gen off sh
 | .msl id gen off len sh => .msl (r id) gen off len sh
 | .mmp id => .mmp (r id)
 | .it id c => .it (r id) c
 | .yld id => .yld (r id)
 | .agg cs => .agg (V.renL r cs)
 | .tup cs => .tup (V.renL r cs)
 | .fn f a b => .fn f (V.renL r a) (V.renL r b)
 | .iface ty x => .iface ty (V.ren r x)
 | .junk => .junk
def V.renL (r : Nat -> Nat) : List V -> List V
 | [] => []
 | v :: q => V.ren r v :: V.renL r q
end
def V.tree : V -> Bool
 | .t _ => true
 | _ => false
def Obj.ren (fl : TypeId -> Bool) (r : Nat -> Nat) (n : Nat) : Obj -> Option Obj
 | .cells g e fz cs => cond (fl e) (cond (cs.all V.tree) (some (.cells g e fz cs)) none) (cond (V.bdL n (V.renL r cs)) (some (.cells g e fz (V.renL r cs))) none)
 | .map ks vs => cond (vs.all V.tree) (some (.map ks vs)) none
 | .nest g e cs fc => cond (cs.all C.flat && fc.isNone) (some (.nest g e cs none)) none
 | _ => none
def fetch (fl : TypeId -> Bool) (obj : Nat -> Option Obj) : Nat -> List V -> List Nat -> List Nat
 | 0, _, acc => acc
 | _, [], acc => acc
 | n + 1, v :: r, acc => match v with
  | .ref id _ _ _ => if acc.contains id then fetch fl obj n r acc else match obj id with
   | some (.cells _ e _ cs) => fetch fl obj n (cond (fl e) r (cs.filter (fun v => !v.isT) ++ r)) (id :: acc)
   | _ => fetch fl obj n r (id :: acc)
  | .msl id _ _ _ _ => if acc.contains id then fetch fl obj n r acc else match obj id with
   | some (.cells _ e _ cs) => fetch fl obj n (cond (fl e) r (cs.filter (fun v => !v.isT) ++ r)) (id :: acc)
   | _ => fetch fl obj n r (id :: acc)
  | .mmp id => if acc.contains id then fetch fl obj n r acc else fetch fl obj n r (id :: acc)
  | .it id _ => fetch fl obj n r (id :: acc)
  | .yld id => fetch fl obj n r (id :: acc)
  | .agg cs => fetch fl obj n (cs ++ r) acc
  | .tup cs => fetch fl obj n (cs ++ r) acc
  | .fn _ a b => fetch fl obj n (a ++ (b ++ r)) acc
  | .iface _ x => fetch fl obj n (x :: r) acc
  | .t _ => fetch fl obj n r acc
  | .junk => fetch fl obj n r acc
def placeIn (x : Nat) : List Nat -> Nat
 | [] => 0
 | y :: r => cond (Nat.beq x y) 0 (Nat.succ (placeIn x r))
def nthId (d : Nat) : List Nat -> Nat -> Nat
 | [], k => d + k
 | y :: r, k => cond (Nat.beq k 0) y (nthId d r (Nat.pred k))
def partOf (fl : TypeId -> Bool) (h : Heap) (r : Nat -> Nat) (n : Nat) : List Nat -> Nat -> Tm Obj -> Option (Tm Obj)
 | [], _, acc => some acc
 | id :: q, k, acc => (h.obj id).bind fun o => (o.ren fl r n).bind fun o => partOf fl h r n q (Nat.succ k) (acc.put k (some o))
def putBack (fl : TypeId -> Bool) (s : Nat -> Nat) (n1 : Nat) (t : Tm Obj) : Nat -> Nat -> Heap -> Heap
 | _, 0, h => h
 | k, n + 1, h => putBack fl s n1 t (Nat.succ k) n (h.set (s k) ((t.get k).bind fun o => o.ren fl s n1))
def nodupB : List Nat -> Bool
 | [] => true
 | x :: r => !r.contains x && nodupB r
def framedCall (fl : TypeId -> Bool) (E : Env) (f : FuncId) (args : List V) (h : Heap) : Option (V × Heap) :=
 let ids := (fetch fl h.obj scanFuel args []).reverse
 let n := ids.length
 let r := fun id => placeIn id ids
 (partOf fl h r n ids 0 .nil).bind fun t =>
  let a := V.renL r args
  cond (V.bdL n a && nodupB ids)
   ((E.call (.fn f) a ⟨n, t⟩).bind fun p =>
     let s := nthId h.next ids
     let n1 := h.next + (p.2.next - n)
     cond (Nat.ble n p.2.next && V.bd n1 (V.ren s p.1))
      (some (V.ren s p.1, putBack fl s n1 p.2.tr 0 p.2.next ⟨n1, h.tr⟩))
      none)
   none
def doCall (cfg : Cfg) (E : Env) (tgt : Tgt) (args : List V) (h : Heap) : Option (V × Heap) :=
 match tgt with
 | .fn f => match cfg.mode f with
  | .shared => E.call (.fn f) args h
  | .framed => framedCall cfg.flat E f args h
  | _ => (quietCall cfg E f args h.obj).map fun v => (v, h)
 | .yld l => E.call (.yld l) args h
def adoptAt (slot : Nat) (h : Heap) : List V -> Option (List V × Option Obj)
 | .t x :: r => (adoptAt slot h r).map fun p => (.t x :: p.1, p.2)
 | .msl id gen off len sh :: r => match h.obj id with
  | some (.cells g e false cs) => (allT cs).bind fun _ => (allT r).bind fun _ => if g = gen then some (.msl slot 1 off len sh :: r, some (.cells 1 e false cs)) else none
  | _ => none
 | _ => none
def adopt (slot : Nat) (flat : Bool) (v : V) (h : Heap) : Option (V × Option Obj) :=
 match v with
 | .t x => if flat then some (.t x, none) else if x.scalar then some (.t x, none) else none
 | .msl id gen off len sh =>
  match h.obj id with
  | some (.cells g e false cs) => (allT cs).bind fun xs => if g = gen /\ (flat = true \/ xs.all (·.scalar1) = true) then some (.msl slot 1 off len sh, some (.cells 1 e false cs)) else none
  | _ => none
 | .agg vs => if flat then (adoptAt slot h vs).map fun p => (.agg p.1, p.2) else none
 | _ => none
def freshCall (E : Env) (slot : Nat) (f : FuncId) (args : List V) (hb : Rd) : Option (V × Option Obj) :=
 match allT args with
 | some xs => (E.call (.fn f) (xs.map .t) .empty).bind fun (v, h) => adopt slot true v h
 | none => (mapO (snap hb snapFuel) args).bind fun xs => (E.call (.fn f) (xs.map .t) .empty).bind fun (v, h) => adopt slot false v h
def maxBytes : Nat := 140737488355328
def newRow (e : TypeId) (slot : Nat) (sh : Option Nat) (es : List V) : V × Option Obj :=
 (.msl slot 1 0 es.length sh, some (.cells 1 e false (es.flatMap V.cells)))
def appendNew (slot : Nat) (e : TypeId) (j : TI) (hb : Rd) (s x : V) : Option (V × Option Obj) :=
 match s with
 | .t .nils => (elems j.sh hb x).bind fun es =>
  if es.isEmpty then some (s, none) else
  if es.length <= maxBytes /\ es.length * j.bytes <= maxBytes then some (newRow e slot j.sh es) else none
 | .t (.sl ex sz xs) => (elems j.sh hb x).bind fun es =>
  if es.isEmpty then some (s, none) else
  if ex /\ sz = j.size /\ xs.all (·.fits j.sh) /\ xs.length + es.length <= maxBytes /\ (xs.length + es.length) * j.bytes <= maxBytes then some (newRow e slot j.sh (xs.map .t ++ es)) else none
 | _ => none
def appendV (slot : Nat) (e : TypeId) (j : TI) (h : Heap) (rd : Rd) (s x : V) : Option (V × Heap) :=
 match s with
 | .msl id gen off len sh =>
  if sh ≠ j.sh then none else
  (elems j.sh rd x).bind fun es =>
  if es.isEmpty then some (s, h) else
  match h.obj id with
  | some (.cells g t fz cs) =>
   if g ≠ gen \/ fz then none else
   if off + (len + es.length) * shSize sh <= cs.length then
    some (.msl id gen off (len + es.length) sh, h.set id (some (.cells g t false (setRange cs (off + len * shSize sh) (es.flatMap V.cells)))))
   else if t = e /\ off + len * shSize sh = cs.length /\ len + es.length <= maxBytes /\ (len + es.length) * j.bytes <= maxBytes then
    some (.msl id (g + 1) 0 (len + es.length) sh, h.set id (some (.cells (g + 1) t false (cs.drop off ++ es.flatMap V.cells))))
   else none
  | _ => none
 | _ => (appendNew slot e j rd s x).map fun (v, o) => match o with | some o => (v, h.set slot (some o)) | none => (v, h)
def sliceElem (cfg : Cfg) (t : TypeId) : Option (TypeId × TI) :=
 (cfg.ti t).bind fun u => match u.d with | .slice e => (cfg.ti e).map fun j => (e, j) | _ => none
abbrev Res := Option (V × Option Obj)
def one (v : Option V) : Res := v.map fun v => (v, none)
def qPick (ts : Ts) (c a b : Operand) : Res := (ev ts c).bind fun c => match c with
 | .t (.bool true) => one (ev ts a)
 | .t (.bool false) => one (ev ts b)
 | _ => none
def qAlloc (cfg : Cfg) (slot : Nat) (e : TypeId) : Res := (cfg.ti e).bind fun i => i.zero.bind fun z =>
 if z.fits i.sh then some (.ref slot 0 0 i.sh, some (.cells 0 e false (z.cells.map .t))) else none
def qBox (cfg : Cfg) (imm : Bool) (slot : Nat) (ts : Ts) (e : TypeId) (x : Operand) : Res :=
 (cfg.ti e).bind fun i => (ev ts x).bind fun v =>
  if v.fits i.sh then
   match (if imm then toT v else none) with
   | some y => some (.t (.ptr y), none)
   | none => some (.ref slot 0 0 i.sh, some (.cells 0 e false v.cells))
  else none
def evParts (ts : Ts) (parts : List (Nat × Operand)) : Option (List (Nat × V)) := mapO (fun p : Nat × Operand => (ev ts p.2).map fun v => (p.1, v)) parts
def fieldPlace (cfg : Cfg) (fs : List (TypeId × Nat × Bool)) (f : Nat) : Option (Nat × Option Nat) :=
 (fieldOf fs f).bind fun (t, off) => (cfg.ti t).map fun j => (off, j.sh)
def qBuild (cfg : Cfg) (ts : Ts) (t : TypeId) (parts : List (Nat × Operand)) : Res := (cfg.ti t).bind fun i => i.zero.bind fun z =>
 match i.d with
 | .struct fs =>
  if z.fits i.sh && i.agg && fs.all (fun f => (cfg.ti f.1).isSome) then
   (evParts ts parts).bind fun ps => (fill (fieldPlace cfg fs) (z.cells.map .t) ps).map fun cs => (mkAgg cs, none)
  else none
 | _ => none
def elemPlace (j : TI) (len k : Nat) : Option (Nat × Option Nat) := if k < len then some (k * j.size, j.sh) else none
def zeros (n : Nat) (z : T) : List V := (List.replicate n (z.cells.map V.t)).flatten
def immRow (j : TI) (cs : List V) (len : Nat) : Option (List T) :=
 (elemsFrom j.sh cs 0 len).bind fun es => (allT es).bind fun xs => if xs.all (·.fits j.sh) then some xs else none
def qBuildSlice (cfg : Cfg) (imm : Bool) (slot : Nat) (ts : Ts) (t : TypeId) (len : Nat) (parts : List (Nat × Operand)) : Res :=
 (sliceElem cfg t).bind fun (e, j) => j.zero.bind fun z =>
  if z.fits j.sh /\ 0 < j.size /\ len * j.size <= 16777216 then
   (evParts ts parts).bind fun ps => (fill (elemPlace j len) (zeros len z) ps).bind fun cs =>
    match (if imm then immRow j cs len else none) with
    | some xs => some (.t (.sl true j.size xs), none)
    | none => some (.msl slot 0 0 len j.sh, some (.cells 0 e false cs))
  else none
def focLoad (i : TI) (hb : Rd) (v : V) : Option V :=
 match v with
 | .ref id gen off _ => match hb id with
  | some (.nest g _ _ (some p)) => if g = gen /\ p.1 = off /\ i.size = p.2.length then partV i p.2 0 else none
  | _ => loadV i hb v
 | _ => loadV i hb v
def qLoad (cfg : Cfg) (imm : Bool) (ts : Ts) (hb : Rd) (t : TypeId) (a : Operand) : Res := one ((cfg.ti t).bind fun i => (ev ts a).bind fun v => cond imm (focLoad i hb v) (loadV i hb v))
def qNilCheck (ts : Ts) (x : Operand) : Res := (ev ts x).bind fun v => match v with
 | .t (.ptr _) | .ref .. => some (v, none)
 | _ => none
def qBin (cfg : Cfg) (ts : Ts) (op : BinOp) (xt : TypeId) (x y : Operand) : Res := (ev ts x).bind fun a => (ev ts y).bind fun b =>
 if nilConst x || nilConst y || !((cfg.ti xt).any fun i => i.d.isIface) then one (binV cfg.ti op xt a b) else none
def convV (cfg : Cfg) (d d' : D) (v : V) : Option V :=
 match d, d', v with
 | .int _, .int k, .t (.int _ n) => some (.t (.int k (k.wrap n)))
 | .str, .str, .t (.str _) => some v
 | .str, .slice e, .t (.str s) => (cfg.ti e).bind fun u => match u.d with
  | .int .u8 => some (.t (.sl false 1 (s.map fun b => .int .u8 b.toNat)))
  | _ => none
 | _, _, _ => none
def qConvert (cfg : Cfg) (ts : Ts) (src dst : TypeId) (x : Operand) : Res :=
 (cfg.ti src).bind fun i => (cfg.ti dst).bind fun j => (ev ts x).bind fun v => one (convV cfg i.d j.d v)
def qMakeInterface (cfg : Cfg) (ts : Ts) (xt : TypeId) (x : Operand) : Res := (cfg.ti xt).bind fun i => (ev ts x).bind fun v => match i.d with
 | .iface | .other => none
 | _ => some (mkIface xt v, none)
def qMakeFunc (ts : Ts) (fn : Fn) (first captured : List Operand) : Res :=
 (mapO (ev ts) first).bind fun a => (mapO (ev ts) captured).map fun b => (mkFn fn a b, none)
def qMakeMap (cfg : Cfg) (slot : Nat) (ts : Ts) (t : TypeId) (r : Option Operand) : Res := (cfg.ti t).bind fun i => match i.d with
 | .map _ _ => match r with
  | none => some (.mmp slot, some (.map [] []))
  | some r => ((ev ts r).bind asI).map fun _ => (.mmp slot, some (.map [] []))
 | _ => none
def qRange (cfg : Cfg) (slot : Nat) (ts : Ts) (xt : TypeId) (x : Operand) : Res := (cfg.ti xt).bind fun i => match i.d with
 | .map _ _ => (ev ts x).bind fun v => match v with
  | .t (.mp ks vs) => some (.it slot none, some (.mit ks vs))
  | _ => none
 | .str => (ev ts x).bind fun v => match v with
  | .t (.str s) => some (.it slot none, some (.sit s 0))
  | _ => none
 | _ => none
def qEntry (ts : Ts) (x : Operand) : Res := (ev ts x).bind fun v => match v with
 | .it _ (some (k, v)) => some (.t (.tup [k, v]), none)
 | _ => none
def qMakeSlice (cfg : Cfg) (slot : Nat) (ts : Ts) (t : TypeId) (l c : Operand) : Res :=
 (sliceElem cfg t).bind fun (e, j) => j.zero.bind fun z => ((ev ts l).bind asI).bind fun l => ((ev ts c).bind asI).bind fun c =>
  if z.fits j.sh /\ 0 < j.size /\ 0 <= l /\ l <= c /\ c <= 9223372036854775807 /\ c * j.bytes <= maxBytes then
   some (.msl slot 0 0 l.toNat j.sh, some (.cells 0 e false (zeros c.toNat z)))
  else none
def sliceFits (cfg : Cfg) (d : D) (v : V) : Bool :=
 match d, v with
 | .str, .t (.str _) => true
 | .slice e, .t (.sl _ sz _) => (cfg.ti e).any fun j => sz == j.size
 | .slice e, .msl _ _ _ _ sh => (cfg.ti e).any fun j => sh == j.sh
 | .slice e, .t .nils => (cfg.ti e).isSome
 | _, _ => false
def qSlice (cfg : Cfg) (ts : Ts) (xt : TypeId) (x : Operand) (lo hi mx : Option Operand) : Res :=
 (cfg.ti xt).bind fun i => (ev ts x).bind fun v => (optInt ts lo).bind fun lo => (optInt ts hi).bind fun hi => (optInt ts mx).bind fun mx =>
  if sliceFits cfg i.d v then one (sliceV v lo hi mx) else none
def qFieldAddr (cfg : Cfg) (ts : Ts) (s : TypeId) (x : Operand) (f : Nat) : Res := one ((ev ts x).bind fun v => fieldAddrV cfg s v f)
def qField (cfg : Cfg) (ts : Ts) (s : TypeId) (x : Operand) (f : Nat) : Res := one ((ev ts x).bind fun v => fieldV cfg s v f)
def qIndexAddr (cfg : Cfg) (ts : Ts) (t : TypeId) (x ix : Operand) : Res := one ((ev ts x).bind fun v => ((ev ts ix).bind asI).bind fun i => indexAddrV cfg t v i)
def qIndex (cfg : Cfg) (ts : Ts) (t : TypeId) (x ix : Operand) : Res := one ((ev ts x).bind fun v => ((ev ts ix).bind asI).bind fun i => indexV cfg t v i)
def qLookup (cfg : Cfg) (ts : Ts) (hb : Rd) (t : TypeId) (x k : Operand) (ok : Bool) : Res := (cfg.ti t).bind fun i => match i.d with
 | .map kt et => (cfg.ti kt).bind fun ki => (cfg.ti et).bind fun ei => (ev ts x).bind fun m => ((ev ts k).bind toT).bind fun k =>
  if keyFits ki.d k then
   (mapParts hb m).bind fun (ks, vs) => (lookupIn ks vs k).bind fun r =>
    match r with
    | some v => some (if ok then mkTup [v, .t (.bool true)] else v, none)
    | none => ei.zero.map fun z => (if ok then .t (.tup [z, .bool false]) else .t z, none)
  else none
 | _ => none
def qExtract (ts : Ts) (t : Operand) (ix : Nat) : Res := (ev ts t).bind fun v => match v with
 | .t (.tup xs) => (xs[ix]?).map fun x => (.t x, none)
 | .tup xs => (xs[ix]?).map fun x => (x, none)
 | _ => none
def lenV (hb : Rd) (d : D) (v : V) : Option V :=
 match d, v with
 | .str, .t (.str s) => some (.t (.int .i64 s.length))
 | .slice _, .t .nils => some (.t (.int .i64 0))
 | .slice _, .t (.sl _ _ xs) => some (.t (.int .i64 xs.length))
 | .slice _, .msl _ _ _ len _ => some (.t (.int .i64 len))
 | .map _ _, m => (mapParts hb m).map fun (ks, _) => .t (.int .i64 ks.length)
 | _, _ => none
def capV (d : D) (v : V) : Option V :=
 match d, v with
 | .slice _, .t .nils => some (.t (.int .i64 0))
 | .slice _, .t (.sl true _ xs) => some (.t (.int .i64 xs.length))
 | _, _ => none
def sdataV (_ : D) (v : V) : Option V :=
 match v with
 | .t .nils => some (.t .nilp)
 | .msl id gen off len sh => if 1 <= len then some (.ref id gen off sh) else none
 | _ => none
def arg1 (cfg : Cfg) (ts : Ts) (args : List Operand) (tys : List TypeId) (g : D -> V -> Option V) : Res :=
 match args, tys with
 | [x], [t] => one ((cfg.ti t).bind fun i => (ev ts x).bind fun v => g i.d v)
 | _, _ => none
def extV (g : Int -> Int -> Int) (ts : Ts) (args : List Operand) : Res := one ((mapO (ev ts) args).bind fun vs => match vs with
 | .t (.int k a) :: r => foldMax g k a r
 | _ => none)
def D.isInt : D -> Bool
 | .int _ => true
 | _ => false
def qAppend (cfg : Cfg) (slot : Nat) (ts : Ts) (hb : Rd) (args : List Operand) (tys : List TypeId) : Res :=
 match args, tys with
 | [s, x], t :: xt :: _ => (sliceElem cfg t).bind fun (e, j) => (cfg.ti xt).bind fun xi => (ev ts s).bind fun sv => (ev ts x).bind fun xv =>
  if xi.d.isInt || j.size == 0 || !(j.zero.any fun z => z.fits j.sh) then none else appendNew slot e j hb sv xv
 | _, _ => none
def qBuiltin (cfg : Cfg) (slot : Nat) (ts : Ts) (hb : Rd) (args : List Operand) (tys : List TypeId) (b : Builtin) : Res :=
 match b with
 | .len => arg1 cfg ts args tys (lenV hb)
 | .cap => arg1 cfg ts args tys capV
 | .unsafeSliceData => arg1 cfg ts args tys sdataV
 | .max => extV (fun x y => if y > x then y else x) ts args
 | .min => extV (fun x y => if y < x then y else x) ts args
 | .append => qAppend cfg slot ts hb args tys
 | _ => none
def twinAt (cfg : Cfg) (imm : Bool) (f : FuncId) : Bool := imm && (cfg.twin f).isSome
def qCall (cfg : Cfg) (E : Env) (imm : Bool) (slot : Nat) (ts : Ts) (hb : Rd) (c : Call) : Res :=
 match c.callee with
 | .builtin b => qBuiltin cfg slot ts hb c.args.toList c.argTypes.toList b
 | .value (.func f) => (mapO (ev ts) c.args.toList).bind fun vs => match cfg.mode f with
  | .fresh => freshCall E slot f vs hb
  | _ => cond (twinAt cfg imm f) (freshCall E slot f vs hb) (one (quietCall cfg E f vs hb))
 | _ => none
def quiet (cfg : Cfg) (E : Env) (imm : Bool) (o : Op) (slot : Nat) (ts : Ts) (hb : Rd) : Res :=
 match o with
 | .move x => one (ev ts x)
 | .assign x => one (ev ts x)
 | .pick c a b => qPick ts c a b
 | .alloc e => qAlloc cfg slot e
 | .box e x => qBox cfg imm slot ts e x
 | .build t parts => qBuild cfg ts t parts.toList
 | .buildSlice t len parts => qBuildSlice cfg imm slot ts t len parts.toList
 | .load t a => qLoad cfg imm ts hb t a
 | .nilCheck x => qNilCheck ts x
 | .binOp op xt x y _ => qBin cfg ts op xt x y
 | .unOp op _ x => one ((ev ts x).bind fun a => unV op a)
 | .convert src dst x => qConvert cfg ts src dst x
 | .makeInterface xt x => qMakeInterface cfg ts xt x
 | .makeFunc fn first captured => qMakeFunc ts fn first.toList captured.toList
 | .makeMap t r => qMakeMap cfg slot ts t r
 | .makeSlice t l c => qMakeSlice cfg slot ts t l c
 | .slice xt x lo hi mx => qSlice cfg ts xt x lo hi mx
 | .fieldAddr s x f => qFieldAddr cfg ts s x f
 | .field s x f => qField cfg ts s x f
 | .indexAddr t x ix => qIndexAddr cfg ts t x ix
 | .index t x ix => qIndex cfg ts t x ix
 | .lookup t x k ok => qLookup cfg ts hb t x k ok
 | .extract t ix => qExtract ts t ix
 | .range xt x => qRange cfg slot ts xt x
 | .entry x => qEntry ts x
 | .call c => qCall cfg E imm slot ts hb c
 | _ => none
abbrev LRes := Option (V × Heap)
def focOf (fc : Option (Nat × List V)) (off n : Nat) : Option Bool :=
 match fc with
 | none => some false
 | some p => if p.1 = off /\ p.2.length = n then some true else none
def lStore (cfg : Cfg) (ts : Ts) (h : Heap) (t : TypeId) (a x : Operand) : LRes :=
 (cfg.ti t).bind fun i => (ev ts a).bind fun p => (ev ts x).bind fun v =>
  match p with
  | .ref id gen off _ => match h.obj id with
   | some (.cells g e fz cs) =>
    if g = gen /\ fz = false /\ v.fits i.sh /\ off + v.cells.length <= cs.length then some (undefV, h.set id (some (.cells g e false (setRange cs off v.cells)))) else none
   | some (.nest g e cs fc) =>
    if g = gen /\ v.fits i.sh /\ off + v.cells.length <= cs.length then (focOf fc off v.cells.length).bind fun b => some (undefV, h.set id (some (.nest g e (cond b cs (setRange cs off (List.replicate v.cells.length (.v .junk)))) (some (off, v.cells))))) else none
   | _ => none
  | _ => none
def lMapUpdate (cfg : Cfg) (ts : Ts) (h : Heap) (t : TypeId) (m k x : Operand) : LRes := (cfg.ti t).bind fun i => match i.d with
 | .map kt _ => (cfg.ti kt).bind fun ki => (ev ts m).bind fun m => ((ev ts k).bind toT).bind fun k => (ev ts x).bind fun v =>
  if keyFits ki.d k then
   match m with
   | .mmp id => match h.obj id with
    | some (.map ks vs) => (findKey k ks 0).bind fun r => match r with
     | some j => some (undefV, h.set id (some (.map ks (vs.set j v))))
     | none => some (undefV, h.set id (some (.map (ks ++ [k]) (vs ++ [v]))))
    | _ => none
   | _ => none
  else none
 | _ => none
def lAppend (cfg : Cfg) (slot : Nat) (ts : Ts) (h : Heap) (args : List Operand) (tys : List TypeId) : LRes :=
 match args, tys with
 | [s, x], t :: xt :: _ => (sliceElem cfg t).bind fun (e, j) => (cfg.ti xt).bind fun xi => (ev ts s).bind fun sv => (ev ts x).bind fun xv =>
  if xi.d.isInt || j.size == 0 || !(j.zero.any fun z => z.fits j.sh) then none else appendV slot e j h h.obj sv xv
 | _, _ => none
def lClear (cfg : Cfg) (ts : Ts) (h : Heap) (args : List Operand) (tys : List TypeId) : LRes :=
 match args, tys with
 | [x], [t] => (sliceElem cfg t).bind fun (_, j) => j.zero.bind fun z => (ev ts x).bind fun v =>
  match v with
  | .t .nils => some (undefV, h)
  | .t (.sl _ _ []) => some (undefV, h)
  | .msl id gen off len sh =>
   if sh ≠ j.sh \/ !z.fits j.sh \/ j.size = 0 then none else
   match h.obj id with
   | some (.cells g e fz cs) =>
    if g = gen /\ fz = false /\ off + (zeros len z).length <= cs.length then some (undefV, h.set id (some (.cells g e false (setRange cs off (zeros len z))))) else none
   | _ => none
  | _ => none
 | _, _ => none
def byteV : V -> Option UInt8
 | .t (.int .u8 x) => if x = ((UInt8.ofNat x.toNat).toNat : Int) then some (UInt8.ofNat x.toNat) else none
 | _ => none
def bytesV (cs : List V) (off : Nat) (z : Int) : Option (List UInt8) :=
 if 0 < z /\ z <= 9223372036854775807 /\ off + z.toNat <= cs.length then mapO byteV ((cs.drop off).take z.toNat) else none
def uString (e : TypeId) (h : Heap) (z : Int) (p : V) : LRes :=
 match p with
 | .t .nilp => if z = 0 then some (.t (.str []), h) else none
 | .ref id gen off _ => match h.obj id with
  | some (.cells g e' _ cs) => if gen = g /\ e' = e then (bytesV cs off z).map fun s => (.t (.str s), h.set id (some (.cells g e' true cs))) else none
  | _ => none
 | _ => none
def lUString (cfg : Cfg) (ts : Ts) (h : Heap) (args : List Operand) (tys : List TypeId) : LRes :=
 match args, tys with
 | [p, n], t :: _ => (cfg.ti t).bind fun i => match i.d with
  | .ptr e => (cfg.ti e).bind fun j => (ev ts p).bind fun pv => (ev ts n).bind fun nv => match nv with
   | .t (.int .i64 z) => if j.size = 1 then uString e h z pv else none
   | _ => none
  | _ => none
 | _, _ => none
def decodeL (s : List UInt8) (pos : Nat) : Nat × Nat :=
 match s[pos]? with
 | some b => bif Nat.ble (b.toNat + 1) 128 then (b.toNat, 1) else Utf8.decode ⟨s.toArray⟩ pos
 | none => (0, 1)
def lNext (ts : Ts) (h : Heap) (x : Operand) : LRes := (ev ts x).bind fun v => match v with
 | .it id none => match h.obj id with
  | some (.sit s pos) => cond (Nat.ble (pos + 1) s.length)
   (let r := decodeL s pos; some (.t (.tup [.bool true, .int .i64 pos, .int .i32 r.1]), h.set id (some (.sit s (pos + r.2)))))
   (some (.t (.tup [.bool false]), h))
  | _ => none
 | _ => none
def lCall (cfg : Cfg) (E : Env) (slot : Nat) (ts : Ts) (h : Heap) (c : Call) : LRes :=
 match c.callee with
 | .builtin .append => lAppend cfg slot ts h c.args.toList c.argTypes.toList
 | .builtin .clear => lClear cfg ts h c.args.toList c.argTypes.toList
 | .builtin .unsafeString => lUString cfg ts h c.args.toList c.argTypes.toList
 | .builtin _ => none
 | .value f => (ev ts f).bind fun fv => (tgtOf fv).bind fun (tgt, a, b) => (mapO (ev ts) c.args.toList).bind fun vs => doCall cfg E tgt (a ++ vs ++ b) h
 | .invoke _ _ => none
def loud (cfg : Cfg) (E : Env) (o : Op) (slot : Nat) (ts : Ts) (h : Heap) : LRes :=
 match o with
 | .store t a x => lStore cfg ts h t a x
 | .mapUpdate t m k x => lMapUpdate cfg ts h t m k x
 | .insert t m k x => lMapUpdate cfg ts h t m k x
 | .next x s => cond s (lNext ts h x) none
 | .call c => lCall cfg E slot ts h c
 | _ => none
def isLoud (cfg : Cfg) (o : Oper) : Bool :=
 match o.op with
 | .store .. | .mapUpdate .. | .insert .. => true
 | .next _ s => s
 | .call c => match c.callee with
  | .builtin .append | .builtin .clear | .builtin .unsafeString => true
  | .builtin _ => false
  | .value (.func f) => cfg.mode f == .shared || cfg.mode f == .framed
  | .value _ => true
  | .invoke .. => true
 | _ => false
def freshAppend (ops : List Oper) (o : Oper) : Bool :=
 match o.op with
 | .call c => match c.callee, c.args.toList with
  | .builtin .append, .tmp t :: _ => ops.any fun p => p.dst == some t && (match p.op with | .buildSlice _ 0 _ => true | _ => false)
  | .builtin .append, .const _ :: _ => true
  | _, _ => false
 | _ => false
def setDst (ts : Ts) (d : Option Tmp) (v : V) : Ts := match d with | some d => ts.upd v d | none => ts
def wantedV (ops : List Oper) (ts : Ts) (o : Oper) : Option Bool :=
 match o.guard with
 | none => some true
 | some (j, want) => match ((ops[j]?).bind (·.dst)).bind (fun t => ts.get t) with
  | some (.t (.bool b)) => some (b == want)
  | some .junk => none
  | _ => some false
def rdOf (draw : Bool) (base : Nat) (h : Heap) : Rd := cond draw (fun id => cond (Nat.ble (Nat.succ id) base) (h.obj id) none) h.obj
def immOf (im : Tmp -> Bool) (d : Option Tmp) : Bool := match d with | some d => im d | none => false
def putObj (h : Heap) (slot : Nat) (ob : Option Obj) : Heap := match ob with | some ob => h.set slot (some ob) | none => h
def snapOp (o : Op) : Bool :=
 match o with
 | .call c => match c.callee with
  | .builtin .append => true
  | .value (.func _) => true
  | _ => false
 | _ => false
def rowTree (sh : Option Nat) (cs : List V) (off len : Nat) : Option T :=
 (elemsFrom sh cs off len).bind fun es => (allT es).bind fun xs => if xs.all (·.fits sh) then some (.sl false (shSize sh) xs) else none
def frzQ (b : Bool) (slot : Nat) (r : V × Option Obj) : Option (V × Option Obj) :=
 cond b (match r.1 with
  | .t x => some (.t x, r.2)
  | .msl id gen off len sh => match r.2 with
   | some (.cells g _ _ cs) => if id = slot /\ g = gen then (rowTree sh cs off len).map fun x => (.t x, none) else none
   | _ => none
  | .agg _ => some r
  | _ => none) (some r)
def dropAll : List Nat -> Heap -> Heap
 | [], h => h
 | id :: r, h => dropAll r (h.set id none)
def noNest : Option Obj -> Option Obj
 | some (.nest _ _ _ _) => none
 | o => o
def frzL (b : Bool) (r : V × Heap) : Option (V × Heap) :=
 cond b (match r.1 with
  | .t x => some (.t x, r.2)
  | .msl id gen off len sh => match r.2.obj id with
   | some (.cells g _ _ cs) => if g = gen then (rowTree sh cs off len).map fun x => (.t x, r.2.set id none) else none
   | _ => none
  | .agg cs =>
   let ids := scan true r.2.obj scanFuel [.agg cs] []
   (snap (fun id => cond (ids.contains id) (noNest (r.2.obj id)) none) snapFuel (.agg cs)).map fun x => (.t x, dropAll ids r.2)
  | _ => none) (some r)
def snapAt (im : Tmp -> Bool) (o : Oper) : Bool := snapOp o.op && immOf im o.dst
def quietApp (draw : Bool) (im : Tmp -> Bool) (ops : List Oper) (o : Oper) : Bool :=
 cond draw (freshAppend ops o) (match o.op with
  | .call c => (match c.callee with | .builtin .append => snapAt im o | _ => false)
  | _ => false)
def stepOp (cfg : Cfg) (E : Env) (im : Tmp -> Bool) (draw : Bool) (ops : List Oper) (base slot : Nat) (o : Oper) (ts : Ts) (h : Heap) : Option (Ts × Heap) :=
 (wantedV ops ts o).bind fun b => cond b
  (cond (isLoud cfg o && !quietApp draw im ops o) (((loud cfg E o.op slot ts h).bind (frzL (snapAt im o))).map fun (v, h) => (setDst ts o.dst v, h))
   (((quiet cfg E (immOf im o.dst) o.op slot ts (rdOf draw base h)).bind (frzQ (snapAt im o) slot)).map fun (v, ob) => (setDst ts o.dst v, putObj h slot ob)))
  (some (setDst ts o.dst undefV, h))
def runOps (cfg : Cfg) (E : Env) (im : Tmp -> Bool) (draw : Bool) (ops : List Oper) (base : Nat) : List Oper -> Nat -> Ts -> Heap -> Option (Ts × Heap)
 | [], _, ts, h => some (ts, h)
 | o :: r, slot, ts, h => (stepOp cfg E im draw ops base slot o ts h).bind fun (ts, h) =>
  runOps cfg E im draw ops base r (slot + 1) ts h
def flatAt (cs : List V) (off : Nat) (sh : Option Nat) : Option T :=
 match sh with
 | none => ((cs[off]?).bind toT).bind fun x => if x.one then some x else none
 | some k => if off + k <= cs.length then (allT ((cs.drop off).take k)).map .agg else none
def shutOne (ts : Ts) (h : Heap) (d : Tmp) : Option (Ts × Heap) :=
 match ts.get d with
 | some (.ref id g off sh) =>
  match h.obj id with
  | some (.cells g' _ _ cs) => if g = g' then (match flatAt cs off sh with
   | some x => some (ts.upd (.t (.ptr x)) d, h.set id none)
   | none => some (ts, h)) else some (ts, h)
  | _ => some (ts, h)
 | some (.msl id g off len sh) =>
  match h.obj id with
  | some (.cells g' _ _ cs) => if g = g' then (match rowTree sh cs off len with
   | some x => some (ts.upd (.t x) d, h.set id none)
   | none => some (ts, h)) else some (ts, h)
  | _ => some (ts, h)
 | some _ => some (ts, h)
 | none => none
def unrow (k : Nat) (ts : Ts) (h : Heap) (d : Tmp) : Option (Ts × Heap) :=
 match ts.get d with
 | some (.ref id _ _ _) =>
  match h.obj id with
  | some (.cells g' e fz cs) => match cs[k]? with
   | some (.msl id2 g off len sh) => match h.obj id2 with
    | some (.cells g2 _ _ cs2) => if g = g2 /\ id ≠ id2 then (match rowTree sh cs2 off len with
     | some x => some (ts, (h.set id2 none).set id (some (.cells g' e fz (cs.set k (.t x)))))
     | none => some (ts, h)) else some (ts, h)
    | _ => some (ts, h)
   | _ => some (ts, h)
  | _ => some (ts, h)
 | some _ => some (ts, h)
 | none => none
def shutDeep (ts : Ts) (h : Heap) (d : Tmp) : Option (Ts × Heap) :=
 match ts.get d with
 | some v =>
  let ids := scan true h.obj scanFuel [v] []
  match snap (fun id => cond (ids.contains id) (noNest (h.obj id)) none) snapFuel v with
  | some x => some (ts.upd (.t x) d, dropAll ids h)
  | none => some (ts, h)
 | none => none
def rowOff (off : Nat) (i : Int) (n : Nat) : Nat := off + i.toNat * n
def rowIn (i : Int) (len : Nat) : Bool := decide (0 <= i /\ i < len)
structure Spot where
 d : Tmp
 k : Nat
 i : Nat
 k2 : Nat
 e2 : Nat
def spotOf (c : Nat) : Spot := ⟨Nat.mod c 10000, Nat.mod (Nat.div c 10000) 10000, Nat.mod (Nat.div c 100000000) 10000, Nat.mod (Nat.div c 1000000000000) 10000, Nat.div c 10000000000000000⟩
def spotRow (ts : Ts) (h : Heap) (s : Spot) : Option V := (ts.get s.d).bind fun v => cond (Nat.beq s.k 9999) (some v) (match v with
 | .ref id gen off _ => match h.obj id with
  | some (.cells g _ _ cs) => cond (Nat.beq g gen) (cs[off + s.k]?) none
  | _ => none
 | _ => none)
def spotAt (ts : Ts) (h : Heap) (s : Spot) : Option (Nat × Nat × Nat) := cond (Nat.beq s.k 9998)
 ((ts.get s.d).bind fun v => match v with
   | .ref id gen off _ => some (id, gen, off + s.k2)
   | _ => none)
 ((spotRow ts h s).bind fun v => match v with
   | .msl id gen off len sh => ((ts.get s.i).bind asI).bind fun i => cond (rowIn i len) (some (id, gen, rowOff off i (shSize sh) + s.k2)) none
   | _ => none)
def ownCells (xs : List T) : List V := (xs.flatMap T.cells).map .t
def nestCells (h : Heap) (id gen : Nat) : Option (TypeId × List C) := match h.obj id with
 | some (.nest g e cs none) => cond (Nat.beq g gen) (some (e, cs)) none
 | _ => none
def openAt (id gen c : Nat) (h : Heap) : Option Heap := (nestCells h id gen).bind fun p => match p.2[c]? with
 | some (.own e sh xs) => some ((h.push (.cells 1 e false (ownCells xs))).set id (some (.nest gen p.1 (p.2.set c (.v .junk)) (some (c, [.msl h.next 1 0 xs.length sh])))))
 | some (.v _) => some h
 | none => none
def freezeC : C -> C
 | .v x => .v x
 | .own _ sh xs => .v (.t (.sl false (shSize sh) xs))
def freezeAt (id gen c n : Nat) (h : Heap) : Option Heap := (nestCells h id gen).bind fun p =>
 cond (Nat.ble (c + n) p.2.length) (some (h.set id (some (.nest gen p.1 (setRange p.2 c (((p.2.drop c).take n).map freezeC)) none)))) none
def rowOf (sh : Option Nat) (cs : List V) (off len : Nat) : Option (List T) :=
 (elemsFrom sh cs off len).bind fun es => (allT es).bind fun xs => if xs.all (·.fits sh) then some xs else none
def closeCells (id : Nat) : List V -> Heap -> Option (List C × Heap)
 | [], h => some ([], h)
 | v :: r, h => match v with
  | .t x => (closeCells id r h).map fun p => (.v (.t x) :: p.1, p.2)
  | .msl id2 g2 off len sh => cond (Nat.beq id id2) none (match h.obj id2 with
   | some (.cells g e false cs) => cond (Nat.beq g g2) ((rowOf sh cs off len).bind fun xs => (closeCells id r (h.set id2 none)).map fun p => (.own e sh xs :: p.1, p.2)) none
   | _ => none)
  | _ => none
def closeRow (h : Heap) : V -> Option Heap
 | .msl id _ _ _ _ => match h.obj id with
  | some (.nest g e cs fc) => match fc with
   | some p => (closeCells id p.2 h).map fun q => q.2.set id (some (.nest g e (setRange cs p.1 q.1) none))
   | none => some h
  | _ => none
 | .ref id _ _ _ => match h.obj id with
  | some (.nest g e cs fc) => match fc with
   | some p => (closeCells id p.2 h).map fun q => q.2.set id (some (.nest g e (setRange cs p.1 q.1) none))
   | none => some h
  | _ => none
 | .t _ => some h
 | _ => none
def nestRow (h : Heap) : V -> Option Heap
 | .msl id gen _ _ _ => match h.obj id with
  | some (.cells g e false cs) => cond (Nat.beq g gen) (some (h.set id (some (.nest g e (cs.map .v) none)))) none
  | some (.nest _ _ _ _) => some h
  | _ => none
 | .t _ => some h
 | _ => none
def shutNest (k : Nat) (s : Spot) (ts : Ts) (h : Heap) : Option Heap :=
 cond (Nat.beq k 1) ((spotRow ts h s).bind (nestRow h)) (cond (Nat.beq k 3) ((spotRow ts h s).bind (closeRow h))
  ((spotAt ts h s).bind fun p => cond (Nat.beq k 2) (openAt p.1 p.2.1 p.2.2 h) (freezeAt p.1 p.2.1 p.2.2 (Nat.div k 10) h)))
def nestNo : Nat := 100000000000000000000
def shutOld (ts : Ts) (h : Heap) (d : Tmp) : Option (Ts × Heap) :=
 cond (Nat.ble 100000 d) (unrow (Nat.pred (Nat.div d 100000)) ts h (Nat.mod d 100000)) (cond (Nat.ble 50000 d) (shutDeep ts h (Nat.sub d 50000)) (shutOne ts h d))
def shutAny (ts : Ts) (h : Heap) (d : Tmp) : Option (Ts × Heap) :=
 cond (Nat.ble nestNo d) ((shutNest (Nat.div d nestNo) (spotOf (Nat.mod d nestNo)) ts h).map fun h => (ts, h)) (shutOld ts h d)
def shutAll : List Tmp -> Ts -> Heap -> Option (Ts × Heap)
 | [], ts, h => some (ts, h)
 | d :: r, ts, h => (shutAny ts h d).bind fun (ts, h) => shutAll r ts h
def rdPr (l : List Nat) (rd : Rd) : Rd := fun id => cond (l.contains id) (rd id) none
def prOK (l : List Nat) (h h' : Heap) : Bool := l.all fun id => optEq Obj.eqb (h.obj id) (h'.obj id)
def guardD (lay : List Tmp) (o : Oper) : Bool := match o.op with | .call _ => true | .store .. => lay.contains 991 | _ => false
def appBase (ts : Ts) (o : Op) : Option V :=
 match o with
 | .call c => match c.callee with
  | .builtin .append => match c.args.toList with
   | s :: _ => ev ts s
   | [] => none
  | _ => none
 | _ => none
def appFree0 (l : List Nat) (ts : Ts) (o : Oper) : Bool :=
 match appBase ts o.op with
 | some (.msl id _ _ _ _) => !l.contains id
 | some (.t _) => true
 | _ => false
def stFree (l : List Nat) (ts : Ts) (o : Oper) : Bool :=
 match o.op with
 | .store _ a _ => (match ev ts a with | some (.ref id _ _ _) => !l.contains id | _ => false)
 | _ => false
def appFree (l : List Nat) (ts : Ts) (o : Oper) : Bool := appFree0 l ts o || stFree l ts o
def layOK (lay : List Tmp) (o : Oper) : Bool := match o.dst with | some d => lay.contains d | none => false
def stepP (cfg : Cfg) (E : Env) (im : Tmp -> Bool) (l : List Nat) (lay : List Tmp) (ops : List Oper) (base slot : Nat) (o : Oper) (ts : Ts) (h : Heap) : Option (Ts × Heap) :=
 (wantedV ops ts o).bind fun b => cond b
  (cond (isLoud cfg o && !quietApp true im ops o) (((loud cfg E o.op slot ts h).bind (frzL (snapAt im o))).bind fun (v, h') => cond (!guardD lay o || appFree l ts o || prOK l h h') (some (setDst ts o.dst v, h')) none)
   (((quiet cfg E (immOf im o.dst) o.op slot ts (rdPr l (rdOf true base h))).bind (frzQ (snapAt im o) slot)).bind fun (v, ob) => cond (ob.isNone || layOK lay o) (some (setDst ts o.dst v, putObj h slot ob)) none))
  (some (setDst ts o.dst undefV, h))
def runP (cfg : Cfg) (E : Env) (im : Tmp -> Bool) (l : List Nat) (lay : List Tmp) (ops : List Oper) (base : Nat) : List Oper -> Nat -> Ts -> Heap -> Option (Ts × Heap)
 | [], _, ts, h => some (ts, h)
 | o :: r, slot, ts, h => (stepP cfg E im l lay ops base slot o ts h).bind fun (ts, h) =>
  runP cfg E im l lay ops base r (slot + 1) ts h
def keyOf (ops : List Oper) : Nat := Nat.add ops.length (Nat.mul 1000 (match ops.findSome? (fun o => o.dst) with | some d => d | none => 0))
def protOf (cfg : Cfg) (draw : Bool) (id n : Nat) : Option (List Tmp × List Tmp) := cond draw (cfg.prot id n) none
def idsOf (ts : Ts) : List Tmp -> List Nat
 | [] => []
 | t :: r => match ts.get t with
  | some (.ref id _ _ _) => id :: idsOf ts r
  | some (.msl id _ _ _ _) => id :: idsOf ts r
  | some (.mmp id) => id :: idsOf ts r
  | _ => idsOf ts r
def idsOfH (ts : Ts) (h : Heap) (tl : List Tmp) : List Nat :=
 cond (deepOf tl) (scan true h.obj scanFuel (tl.filterMap fun t => ts.get t) []) (idsOf ts tl)
def regionB (cfg : Cfg) (E : Env) (f : FuncId) (id : Nat) (draw : Bool) (ops : List Oper) (s : St) : Option St :=
 let n := ops.length
 (match protOf cfg draw id (keyOf ops) with
  | none => runOps cfg E (cfg.imm f) draw ops s.h.next ops s.h.next s.ts ⟨s.h.next + n, s.h.tr⟩
  | some (tl, lay) => runP cfg E (cfg.imm f) (idsOfH s.ts s.h tl) lay ops s.h.next ops s.h.next s.ts ⟨s.h.next + n, s.h.tr⟩).bind fun (ts, h) =>
  (shutAll (cfg.shut f id) ts h).map fun (ts, h) => { s with ts, h }
def preShut (id : Nat) : Nat := Nat.add id 100000
def region (cfg : Cfg) (E : Env) (f : FuncId) (id : Nat) (draw : Bool) (ops : List Oper) (s : St) : Option St :=
 (shutAll (cfg.shut f (preShut id)) s.ts s.h).bind fun p => regionB cfg E f id draw ops ⟨p.1, p.2, s.marks⟩
def setParams : Ts -> List Tmp -> List V -> Option Ts
 | ts, [], [] => some ts
 | ts, p :: ps, a :: as => setParams (ts.upd a p) ps as
 | _, _, _ => none
def inLoop (rd : Option Nat) (h : Heap) : Bool :=
 match rd with
 | none => true
 | some l => match h.obj l with
  | some (.loop ..) => true
  | _ => false
def St.eqb (a b : St) : Bool := Tm.eqb V.eqb a.ts b.ts && decide (a.h.next = b.h.next) && Tm.eqb Obj.eqb a.h.tr b.h.tr && decide (a.marks = b.marks)
def mrOf : Code -> Option (Tmp × Tmp × Tmp)
 | .seq (.region _ ops false) _ => match ops.toList with
  | [o1, o2] => match o1.op, o1.dst, o2.op, o2.dst with
   | .next (.tmp it) false, some d1, .extract (.tmp t) 0, some d2 =>
    cond (Nat.beq t d1 && !Nat.beq it d1 && !Nat.beq it d2 && !Nat.beq d1 d2 && o1.guard.isNone && o2.guard.isNone) (some (it, d1, d2)) none
   | _, _, _, _ => none
  | _ => none
 | _ => none
def mrHead (it d1 d2 : Tmp) (id : Nat) (k v : T) (s : St) : St :=
 { s with ts := ((s.ts.upd (.it id (some (k, v))) it).upd (.t (.tup [.bool true, k, v])) d1).upd (.t (.bool true)) d2 }
def mrLast (d1 d2 : Tmp) (s : St) : St := { s with ts := (s.ts.upd (.t (.tup [.bool false])) d1).upd (.t (.bool false)) d2 }
def St.clean (s : St) : Bool := s.ts.all (V.bd s.h.next) && allObjs (Obj.bd s.h.next) s.h.tr 0 s.h.next
def mrBack (cfg : Cfg) (f : FuncId) (c : Code) (it : Tmp) (id n0 : Nat) (s : St) : Option St :=
 match s.ts.get it with
 | some (.it id' _) => cond (Nat.beq id' id) ((resetAt cfg f c n0 { s with ts := s.ts.upd (.it id none) it }).bind fun s => cond s.clean (some s) none) none
 | _ => none
def mrFind (rnd : T -> T -> St -> Option St) (s0 : St) : Nat -> List (T × T) -> Option (Option (Nat × St))
 | _, [] => some none
 | i, (k, v) :: r => (rnd k v s0).bind fun s1 => (mrFind rnd s0 (i + 1) r).bind fun q =>
  cond (St.eqb s1 s0) (some q) (match q with | none => some (some (i, s1)) | some _ => none)
def mrStay (rnd : T -> T -> St -> Option St) (sk : St) (j : Nat) : Nat -> List (T × T) -> Bool
 | _, [] => true
 | i, (k, v) :: r => cond (Nat.beq i j) true (match rnd k v sk with | some s1 => St.eqb s1 sk | none => false) && mrStay rnd sk j (i + 1) r
def mapRun (rnd : T -> T -> St -> Option St) (last : St -> Option (Out × St)) (kv : List (T × T)) (s0 : St) : Option (Out × St) :=
 (mrFind rnd s0 0 kv).bind fun q => match q with
  | none => last s0
  | some (j, sk) => cond (mrStay rnd sk j 0 kv) (last sk) none
def mrReady (it d1 : Tmp) (id : Nat) (s : St) : Bool :=
 (match s.ts.get it with | some (.it id' none) => Nat.beq id' id | _ => false) && (s.ts.get d1).isSome
def mrRound (cfg : Cfg) (f : FuncId) (c : Code) (it d1 d2 : Tmp) (id : Nat) (g : St -> Option (Out × St)) (k v : T) (s : St) : Option St :=
 cond (mrReady it d1 id s) ((g (mrHead it d1 d2 id k v s)).bind fun p => match p.1 with
  | .norm => mrBack cfg f c it id s.h.next p.2
  | _ => none) none
def mrEnd (it d1 d2 : Tmp) (id : Nat) (g : St -> Option (Out × St)) (s : St) : Option (Out × St) :=
 cond (mrReady it d1 id s) ((g (mrLast d1 d2 s)).bind fun p => match p.1 with
  | .norm => none
  | _ => some p) none
def mrLoop (cfg : Cfg) (f : FuncId) (c : Code) (it d1 d2 : Tmp) (g : St -> Option (Out × St)) (s : St) : Option (Out × St) :=
 match s.ts.get it with
 | some (.it id none) => match s.h.obj id with
  | some (.mit ks vs) => (resetAt cfg f c s.h.next { s with h := s.h.set id none }).bind fun s0 =>
   mapRun (mrRound cfg f c it d1 d2 id g) (mrEnd it d1 d2 id g) (ks.zip vs) s0
  | _ => none
 | _ => none
def exec (cfg : Cfg) (E : Env) (f : FuncId) (rd : Option Nat) : Code -> St -> Option (Out × St)
 | .skip, s => some (.norm, s)
 | .region id ops draw, s => (region cfg E f id draw ops.toList s).map fun s => (.norm, s)
 | .seq a b, s => (exec cfg E f rd a s).bind fun (o, s) => match o with
  | .norm => exec cfg E f rd b s
  | o => some (o, s)
 | .cond c a b, s => (ev s.ts c).bind fun v => match v with
  | .t (.bool t) => cond t (exec cfg E f rd a s) (exec cfg E f rd b s)
  | _ => none
 | .block id c, s => (exec cfg E f rd c s).map fun (o, s) => match o with
  | .exit j => (if j = id then .norm else .exit j, s)
  | o => (o, s)
 | .loop c, s => (resetAt cfg f c s.h.next s).bind fun s => match mrOf c with
  | none => E.iter (fun s => (exec cfg E f rd c s).bind fun (o, s') => match o with
   | .norm => (resetAt cfg f c s.h.next s').map fun s' => (.norm, s')
   | o => some (o, s')) s
  | some (it, d1, d2) => mrLoop cfg f c it d1 d2 (match c with | .seq _ b => fun s => exec cfg E f rd b s | _ => fun _ => none) s
 | .rangeFunc fo ps asg body, s =>
  (ev s.ts fo).bind fun fv => (tgtOf fv).bind fun (tgt, a, b) =>
   match tgt with
   | .yld _ => none
   | .fn g =>
    if cfg.mode g = .shared && inLoop rd s.h then
     let d := s.h.next
     let pre : Heap := if rd.isSome then s.h else s.h.push (.defer true)
     let l := pre.next
     let marks := if rd.isSome then s.marks else d :: s.marks
     (E.call (.fn g) (a ++ [.yld l] ++ b) (pre.push (.loop .ready none f s.ts ps.toList asg body))).bind fun (_, h) =>
      match h.obj l with
      | some (.loop st pend f' ts' ps' asg' body') =>
       if st = .busy then none else
       let s' : St := ⟨s.ts, h.set l (some (.loop .exhausted pend f' ts' ps' asg' body')), marks⟩
       match pend with
       | none => some (.norm, s')
       | some .ret => some (.ret, s')
       | some (.exit id) => some (.exit id, s')
       | _ => none
      | _ => none
    else none
 | .exit id, s => some (.exit id, s)
 | .scope c, s => exec cfg E f rd c s
 | .label _, s => some (.norm, s)
 | .goto _, _ => none
 | .ret, s => some (.ret, s)
 | .refuse _, _ => none
def resultV (cfg : Cfg) (ts : Ts) (h : Heap) : ResultVar -> Option V
 | .tmp t => ts.get t
 | .cell a t => (cfg.ti t).bind fun i => (ts.get a).bind fun p => loadV i h.obj p
def resultsV (cfg : Cfg) (fn : Func) (ts : Ts) (h : Heap) : Option V :=
 (mapO (resultV cfg ts h) fn.results.toList).map fun vs => match vs with | [v] => v | vs => mkTup vs
def takeMarks : List Nat -> Heap -> Option Heap
 | [], h => some h
 | m :: r, h => match h.obj m with
  | some (.defer true) => takeMarks r (h.set m (some (.defer false)))
  | _ => none
def setArgs : Ts -> Nat -> List V -> Ts
 | ts, _, [] => ts
 | ts, n, a :: r => setArgs (ts.upd a n) (n + 1) r
def body (cfg : Cfg) (E : Env) (f : FuncId) (args : List V) (h : Heap) : Option (V × Heap) :=
 (cfg.code f).bind fun fn => fn.body.bind fun c =>
  if args.length <= fn.ntmps then
   (exec cfg E f none c ⟨setArgs (Tm.blank undefV fn.ntmps) 0 args, h, []⟩).bind fun (o, s) => match o with
    | .exit _ => none
    | _ => (takeMarks s.marks s.h).bind fun h => (resultsV cfg fn s.ts h).map fun v => (v, h)
  else none
def pureBody (cfg : Cfg) (E : Env) (f : FuncId) (xs : List T) : Option T :=
 match cfg.prim f with
 | some g => g xs
 | none => (body cfg E f (xs.map .t) .empty).bind fun (v, h) => snap h.obj snapFuel v
def round (cfg : Cfg) (E : Env) (l : Nat) (args : List V) (h : Heap) : Option (V × Heap) :=
 match h.obj l with
 | some (.loop _ _ f ts ps asg bd) =>
  (setParams ts ps args).bind fun ts0 =>
  (exec cfg E f (some l) asg ⟨ts0, h, []⟩).bind fun (o, s) => match o with
   | .norm => match s.h.obj l with
    | some (.loop .ready pend f' ts' ps' asg' bd') =>
     (exec cfg E f (some l) bd { s with h := s.h.set l (some (.loop .busy pend f' ts' ps' asg' bd')) }).bind fun (o, s) =>
      match s.h.obj l with
      | some (.loop _ _ f' ts' ps' asg' bd') =>
       (resetRound cfg f bd h.next ts' (s.h.set l (some (match o with
       | .norm => .loop .ready none f' ts' ps' asg' bd'
       | .ret => .loop .done (some .ret) f' ts' ps' asg' bd'
       | .exit id => .loop .done (some (.exit id)) f' ts' ps' asg' bd')))).map fun h' =>
       (.t (.bool (match o with | .norm => true | _ => false)), h')
      | _ => none
    | _ => none
   | _ => none
 | _ => none
def checkCall (e : TypeId) (args : List V) (h : Heap) : Option (V × Heap) :=
 match args with
 | [.ref id gen off sh] => cond (Nat.beq gen 0 && Nat.beq off 0) (match h.obj id with
  | some (.cells g e' fz cs) => cond (Nat.beq g 0 && !fz && Nat.beq e' e) (match cs with
   | [c, x] => match c with
    | .t .nilp => some (undefV, h.set id (some (.cells 0 e' false [.ref id 0 0 sh, x])))
    | .ref i2 g2 o2 _ => cond (Nat.beq i2 id && Nat.beq g2 0 && Nat.beq o2 0) (some (undefV, h)) none
    | _ => none
   | _ => none) none
  | _ => none) none
 | _ => none
def callBody (cfg : Cfg) (E : Env) (tgt : Tgt) (args : List V) (h : Heap) : Option (V × Heap) :=
 match tgt with
 | .fn f => match cfg.code f with
  | none => (cfg.chk f).bind fun e => checkCall e args h
  | some _ => body cfg E f args h
 | .yld l => round cfg E l args h
def iterN : Nat -> (St -> Option (Out × St)) -> St -> Option (Out × St)
 | 0, _, _ => none
 | n + 1, g, s => (g s).bind fun (o, s) => match o with
  | .norm => iterN n g s
  | o => some (o, s)
def env (cfg : Cfg) : Nat -> Env
 | 0 => ⟨fun _ _ => none, fun _ _ _ => none, fun _ _ => none⟩
 | n + 1 => ⟨pureBody cfg (env cfg n), callBody cfg (env cfg n), iterN n⟩
end
end Go.Apex
