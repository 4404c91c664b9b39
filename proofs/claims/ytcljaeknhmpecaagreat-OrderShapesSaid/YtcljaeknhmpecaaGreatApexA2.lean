import Derived.Test.YtcljaeknhmpecaaGreatApexA1
import Derived.Laws.Cells
import Derived.Laws.CopyRow
import Derived.Laws.Entries
set_option linter.all false
namespace Go.Apex
open Go Go.RowKit
class Globs where
 gl : World -> Prop
 nb : Nat
 loc : ∀ w w' : World, (∀ b, b < nb -> w'.heap[b]? = w.heap[b]?) -> gl w -> gl w'
variable [Globs]
structure BaseOK (B0 : Nat) (w : World) : Prop where
 le : B0 <= w.heap.size
 nb : Globs.nb <= B0
 gl : Globs.gl w
structure BaseP (B0 : Nat -> Prop) (w : World) : Prop where
 le : ∀ b, B0 b -> b < w.heap.size
 nb : ∀ b, b < Globs.nb -> B0 b
 gl : Globs.gl w
theorem BaseOK.toP {B0 : Nat} {w : World} (h : BaseOK B0 w) : BaseP (fun b => b < B0) w := ⟨fun _ hb => Nat.lt_of_lt_of_le hb h.le, fun _ hb => Nat.lt_of_lt_of_le hb h.nb, h.gl⟩
theorem BaseP.step {B0 : Nat -> Prop} {w w' : World} (h : BaseP B0 w) (hsz : w.heap.size <= w'.heap.size) (hb : ∀ b, B0 b -> w'.heap[b]? = w.heap[b]?) : BaseP B0 w' :=
 ⟨fun b k => Nat.lt_of_lt_of_le (h.le b k) hsz, h.nb, Globs.loc w w' (fun b hlt => hb b (h.nb b hlt)) h.gl⟩
theorem BaseP.top {B0 : Nat -> Prop} {w : World} (h : BaseP B0 w) : BaseOK w.heap.size w :=
 ⟨Nat.le_refl _, Nat.le_of_not_lt fun hlt => Nat.lt_irrefl _ (h.le _ (h.nb _ hlt)), h.gl⟩
theorem Tm.get_nil {α : Type} (n : Nat) : (Tm.nil : Tm α).get n = none := rfl
theorem Tm.get_node {α : Type} (v : Option α) (l r : Tm α) (n : Nat) :
  (Tm.node v l r).get n = cond (Nat.beq n 0) v (cond (Nat.beq (Nat.mod n 2) 1) (l.get (Nat.div n 2)) (r.get (Nat.sub (Nat.div n 2) 1))) := rfl
theorem Tm.upd_node {α : Type} (x : α) (v : Option α) (l r : Tm α) (n : Nat) :
  (Tm.node v l r).upd x n = cond (Nat.beq n 0) (.node (v.map fun _ => x) l r) (cond (Nat.beq (Nat.mod n 2) 1) (.node v (l.upd x (Nat.div n 2)) r) (.node v l (r.upd x (Nat.sub (Nat.div n 2) 1)))) := rfl
theorem Tm.index_cases (n : Nat) : n = 0 \/ (∃ k, n = 2 * k + 1) \/ ∃ k, n = 2 * k + 2 := by
 rcases Nat.eq_zero_or_pos n with h | h
 . exact .inl h
 . rcases Nat.mod_two_eq_zero_or_one n with h2 | h2
   . exact .inr (.inr ⟨n / 2 - 1, by omega⟩)
   . exact .inr (.inl ⟨n / 2, by omega⟩)
theorem Tm.odd_beq (k : Nat) : Nat.beq (2 * k + 1) 0 = false /\ Nat.beq (Nat.mod (2 * k + 1) 2) 1 = true /\ Nat.div (2 * k + 1) 2 = k := by
 refine ⟨rfl, ?_, ?_⟩
 . have : Nat.mod (2 * k + 1) 2 = 1 := by show (2 * k + 1) % 2 = 1; omega
   rw [this]; rfl
 . show (2 * k + 1) / 2 = k; omega
theorem Tm.even_beq (k : Nat) : Nat.beq (2 * k + 2) 0 = false /\ Nat.beq (Nat.mod (2 * k + 2) 2) 1 = false /\ Nat.sub (Nat.div (2 * k + 2) 2) 1 = k := by
 refine ⟨rfl, ?_, ?_⟩
 . have : Nat.mod (2 * k + 2) 2 = 0 := by show (2 * k + 2) % 2 = 0; omega
   rw [this]; rfl
 . have : Nat.div (2 * k + 2) 2 = k + 1 := by show (2 * k + 2) / 2 = k + 1; omega
   rw [this]; rfl
theorem Tm.get_zero {α : Type} (v : Option α) (l r : Tm α) : (Tm.node v l r).get 0 = v := rfl
theorem Tm.get_odd {α : Type} (v : Option α) (l r : Tm α) (k : Nat) : (Tm.node v l r).get (2 * k + 1) = l.get k := by
 rw [get_node, (odd_beq k).1, (odd_beq k).2.1, (odd_beq k).2.2]; rfl
theorem Tm.get_even {α : Type} (v : Option α) (l r : Tm α) (k : Nat) : (Tm.node v l r).get (2 * k + 2) = r.get k := by
 rw [get_node, (even_beq k).1, (even_beq k).2.1, (even_beq k).2.2]; rfl
theorem Tm.upd_zero {α : Type} (x : α) (v : Option α) (l r : Tm α) : (Tm.node v l r).upd x 0 = .node (v.map fun _ => x) l r := rfl
theorem Tm.upd_odd {α : Type} (x : α) (v : Option α) (l r : Tm α) (k : Nat) : (Tm.node v l r).upd x (2 * k + 1) = .node v (l.upd x k) r := by
 rw [upd_node, (odd_beq k).1, (odd_beq k).2.1, (odd_beq k).2.2]; rfl
theorem Tm.upd_even {α : Type} (x : α) (v : Option α) (l r : Tm α) (k : Nat) : (Tm.node v l r).upd x (2 * k + 2) = .node v l (r.upd x k) := by
 rw [upd_node, (even_beq k).1, (even_beq k).2.1, (even_beq k).2.2]; rfl
theorem Tm.get_upd {α : Type} (x : α) : ∀ (t : Tm α) (n m : Nat), (t.upd x n).get m = if m = n then (t.get n).map (fun _ => x) else t.get m
 | .nil, n, m => by simp [Tm.upd, Tm.get]
 | .node v l r, n, m => by
  rcases index_cases n with rfl | ⟨k, rfl⟩ | ⟨k, rfl⟩ <;> rcases index_cases m with rfl | ⟨j, rfl⟩ | ⟨j, rfl⟩ <;>
   simp only [upd_zero, upd_odd, upd_even, get_zero, get_odd, get_even, get_upd x l, get_upd x r]
  all_goals first
   | rfl
   | (by_cases e : j = k
      . subst e; simp
      . rw [if_neg e, if_neg (by omega)])
   | (by_cases e : j = k
      . subst e; simp
      . rw [if_neg e, if_neg (by omega)])
   | (rw [if_neg (by omega)])
theorem Tm.upd_comm {α : Type} (x y : α) : ∀ (t : Tm α) (n m : Nat), n ≠ m -> (t.upd x n).upd y m = (t.upd y m).upd x n
 | .nil, _, _, _ => rfl
 | .node v l r, n, m, h => by
  rcases index_cases n with rfl | ⟨k, rfl⟩ | ⟨k, rfl⟩ <;> rcases index_cases m with rfl | ⟨j, rfl⟩ | ⟨j, rfl⟩ <;>
   simp only [upd_zero, upd_odd, upd_even]
  . exact absurd rfl h
  . rw [upd_comm x y l k j (by omega)]
  . rw [upd_comm x y r k j (by omega)]
theorem Tm.putF_succ {α : Type} (x : Option α) (f : Nat) (t : Tm α) (n : Nat) : Tm.putF x (f + 1) t n =
  cond (Nat.beq n 0) (.node x t.left t.right) (.node t.val
   (cond (Nat.beq (Nat.mod n 2) 1) (Tm.putF x f (cond (Nat.beq (Nat.mod n 2) 1) t.left t.right) (cond (Nat.beq (Nat.mod n 2) 1) (Nat.div n 2) (Nat.sub (Nat.div n 2) 1))) t.left)
   (cond (Nat.beq (Nat.mod n 2) 1) t.right (Tm.putF x f (cond (Nat.beq (Nat.mod n 2) 1) t.left t.right) (cond (Nat.beq (Nat.mod n 2) 1) (Nat.div n 2) (Nat.sub (Nat.div n 2) 1))))) := rfl
theorem Tm.putF_zero {α : Type} (x : Option α) (f : Nat) (t : Tm α) : Tm.putF x (f + 1) t 0 = .node x t.left t.right := rfl
theorem Tm.putF_odd {α : Type} (x : Option α) (f : Nat) (t : Tm α) (k : Nat) : Tm.putF x (f + 1) t (2 * k + 1) = .node t.val (Tm.putF x f t.left k) t.right := by
 rw [putF_succ, (odd_beq k).1, (odd_beq k).2.1]; simp only [cond_false, cond_true, (odd_beq k).2.2]
theorem Tm.putF_even {α : Type} (x : Option α) (f : Nat) (t : Tm α) (k : Nat) : Tm.putF x (f + 1) t (2 * k + 2) = .node t.val t.left (Tm.putF x f t.right k) := by
 rw [putF_succ, (even_beq k).1, (even_beq k).2.1]; simp only [cond_false, (even_beq k).2.2]
theorem Tm.get_parts {α : Type} (t : Tm α) : (∀ k, t.left.get k = t.get (2 * k + 1)) /\ (∀ k, t.right.get k = t.get (2 * k + 2)) /\ t.val = t.get 0 := by
 cases t with
 | nil => exact ⟨fun _ => rfl, fun _ => rfl, rfl⟩
 | node v l r => exact ⟨fun k => (get_odd v l r k).symm, fun k => (get_even v l r k).symm, rfl⟩
theorem Tm.get_putF {α : Type} (x : Option α) : ∀ (f : Nat) (t : Tm α) (n m : Nat), n < f -> (Tm.putF x f t n).get m = if m = n then x else t.get m
 | 0, _, _, _, h => absurd h (by omega)
 | f + 1, t, n, m, h => by
  obtain ⟨pl, pr, pv⟩ := get_parts t
  rcases index_cases n with rfl | ⟨k, rfl⟩ | ⟨k, rfl⟩ <;> rcases index_cases m with rfl | ⟨j, rfl⟩ | ⟨j, rfl⟩ <;>
   simp only [putF_zero, putF_odd, putF_even, get_zero, get_odd, get_even, pl, pr, pv]
  all_goals first
   | rfl
   | (rw [get_putF x f _ k j (by omega)]
      by_cases e : j = k
      . subst e; simp
      . rw [if_neg e, if_neg (by omega)]; first | exact pl j | exact pr j)
   | (rw [if_neg (by omega)])
theorem Tm.get_put {α : Type} (t : Tm α) (n m : Nat) (x : Option α) : (t.put n x).get m = if m = n then x else t.get m := get_putF x (n + 1) t n m (by omega)
theorem Tm.putF_fuel {α : Type} (x : Option α) : ∀ (f g : Nat) (t : Tm α) (n : Nat), n < f -> n < g -> Tm.putF x f t n = Tm.putF x g t n
 | 0, _, _, _, h, _ => absurd h (by omega)
 | _ + 1, 0, _, _, _, h => absurd h (by omega)
 | f + 1, g + 1, t, n, h1, h2 => by
  rcases index_cases n with rfl | ⟨k, rfl⟩ | ⟨k, rfl⟩
  . rfl
  . rw [putF_odd, putF_odd, putF_fuel x f g _ k (by omega) (by omega)]
  . rw [putF_even, putF_even, putF_fuel x f g _ k (by omega) (by omega)]
theorem Tm.putF_comm {α : Type} (x y : Option α) : ∀ (f : Nat) (t : Tm α) (n m : Nat), n ≠ m -> n < f -> m < f -> Tm.putF y f (Tm.putF x f t n) m = Tm.putF x f (Tm.putF y f t m) n
 | 0, _, _, _, _, h, _ => absurd h (by omega)
 | f + 1, t, n, m, h, h1, h2 => by
  rcases index_cases n with rfl | ⟨k, rfl⟩ | ⟨k, rfl⟩ <;> rcases index_cases m with rfl | ⟨j, rfl⟩ | ⟨j, rfl⟩ <;>
   simp only [putF_zero, putF_odd, putF_even, Tm.left, Tm.right, Tm.val]
  . exact absurd rfl h
  . rw [putF_comm x y f _ k j (by omega) (by omega) (by omega)]
  . rw [putF_comm x y f _ k j (by omega) (by omega) (by omega)]
theorem Tm.put_comm {α : Type} (t : Tm α) (n m : Nat) (x y : Option α) (h : n ≠ m) : (t.put n x).put m y = (t.put m y).put n x := by
 show Tm.putF y (m + 1) (Tm.putF x (n + 1) t n) m = Tm.putF x (n + 1) (Tm.putF y (m + 1) t m) n
 rw [putF_fuel x (n + 1) (n + m + 1) t n (by omega) (by omega), putF_fuel y (m + 1) (n + m + 1) _ m (by omega) (by omega),
  putF_fuel x (n + 1) (n + m + 1) _ n (by omega) (by omega), putF_fuel y (m + 1) (n + m + 1) _ m (by omega) (by omega)]
 exact putF_comm x y _ t n m h (by omega) (by omega)
theorem Tm.get_blankF {α : Type} (x : α) : ∀ (f n m : Nat), n < f -> (Tm.blankF x f n).get m = if m < n then some x else none
 | 0, _, _, h => absurd h (by omega)
 | f + 1, n, m, h => by
  show (cond (Nat.beq n 0) (Tm.nil : Tm α) (Tm.node (some x) (Tm.blankF x f (Nat.div n 2)) (Tm.blankF x f (Nat.div (Nat.sub n 1) 2)))).get m = _
  rcases Nat.eq_zero_or_pos n with rfl | h0
  . simp [Tm.get_nil]
  . have e : Nat.beq n 0 = false := by
     cases n with
     | zero => omega
     | succ n => rfl
    rw [e]
    simp only [cond_false]
    have d1 : Nat.div n 2 = n / 2 := rfl
    have d2 : Nat.div (Nat.sub n 1) 2 = (n - 1) / 2 := rfl
    rcases index_cases m with rfl | ⟨j, rfl⟩ | ⟨j, rfl⟩
    . rw [get_zero, if_pos h0]
    . rw [get_odd, get_blankF x f _ j (by rw [d1]; omega), d1]
      by_cases e : 2 * j + 1 < n
      . rw [if_pos e, if_pos (by omega)]
      . rw [if_neg e, if_neg (by omega)]
    . rw [get_even, get_blankF x f _ j (by rw [d2]; omega), d2]
      by_cases e : 2 * j + 2 < n
      . rw [if_pos e, if_pos (by omega)]
      . rw [if_neg e, if_neg (by omega)]
theorem Tm.get_blank {α : Type} (x : α) (n m : Nat) : (Tm.blank x n).get m = if m < n then some x else none := get_blankF x (n + 1) n m (by omega)
theorem Heap.obj_set (h : Heap) (id id' : Nat) (o : Option Obj) : (h.set id o).obj id' = if id' = id then o else h.obj id' := Tm.get_put h.tr id id' o
theorem Heap.next_set (h : Heap) (id : Nat) (o : Option Obj) : (h.set id o).next = h.next := rfl
def Born (es : Array MapEntry) (clock : Nat) : Prop := (∀ x ∈ es.toList, x.born < clock) /\ (es.toList.map (·.born)).Nodup
inductive RepT (w : World) (S : Nat -> Prop) : T -> Value -> Prop
 | bool (b : Bool) : RepT w S (.bool b) (.bool b)
 | int (k : IntKind) (n : Int) : RepT w S (.int k n) (.int k n)
 | str (s : List UInt8) (v : ByteArray) (h : v.data.toList = s) : RepT w S (.str s) (.string v)
 | nilp : RepT w S .nilp (.pointer none)
 | ptr (x : T) (b o : Nat) (g : Nat -> Value)
   (hc : ∀ (j : Nat) (c : T), x.cells[j]? = some c -> S b /\ w.cell? ⟨b, o + j, none⟩ = some (g j))
   (hr : ∀ (j : Nat) (c : T), x.cells[j]? = some c -> RepT w S c (g j)) : RepT w S (.ptr x) (.pointer (some ⟨b, o, none⟩))
 | nils : RepT w S .nils (.slice none 0 0)
 | sl (ex : Bool) (sz : Nat) (xs : List T) (b o cap : Nat) (g : Nat -> Nat -> Value) (hl : xs.length <= cap) (hx : ex = true -> cap = xs.length)
   (hz : ∀ (i : Nat) (x : T), xs[i]? = some x -> x.cells.length = sz)
   (hc : ∀ (i : Nat) (x : T) (j : Nat) (c : T), xs[i]? = some x -> x.cells[j]? = some c -> S b /\ w.cell? ⟨b, o + i * sz + j, none⟩ = some (g i j))
   (hr : ∀ (i : Nat) (x : T) (j : Nat) (c : T), xs[i]? = some x -> x.cells[j]? = some c -> RepT w S c (g i j)) (sp : Option Nat) (hsp : sp = none \/ xs = []) :
   RepT w S (.sl ex sz xs) (.slice (some ⟨b, o, sp⟩) xs.length cap)
 | nilm : RepT w S .nilm (.map none)
 | mp (ks vs : List T) (b : Nat) (es : Array MapEntry) (clock : Nat) (hs : S b) (hh : w.heap[b]? = some (.map es clock)) (hst : Born es clock)
   (hk : ks.length = es.size) (hv : vs.length = es.size)
   (hkr : ∀ (i : Nat) (k : T) (e : MapEntry), ks[i]? = some k -> es[i]? = some e -> RepT w S k e.key)
   (hvr : ∀ (i : Nat) (v : T) (e : MapEntry), vs[i]? = some v -> es[i]? = some e -> RepT w S v e.val) : RepT w S (.mp ks vs) (.map (some b))
 | nilf : RepT w S .nilf .nilFunc
 | fn (f : Fn) (a b : List T) (a' b' : Array Value) (ha : a.length = a'.size) (hb : b.length = b'.size)
   (har : ∀ (i : Nat) (x : T) (v : Value), a[i]? = some x -> a'[i]? = some v -> RepT w S x v)
   (hbr : ∀ (i : Nat) (x : T) (v : Value), b[i]? = some x -> b'[i]? = some v -> RepT w S x v) : RepT w S (.fn f a b) (.func f a' b')
 | nili : RepT w S .nili .nilIface
 | iface (t : TypeId) (x : T) (v : Value) (h : RepT w S x v) : RepT w S (.iface t x) (.iface t v)
 | agg (cs : List T) (a : Array Value) (hl : cs.length = a.size) (hr : ∀ (i : Nat) (x : T) (v : Value), cs[i]? = some x -> a[i]? = some v -> RepT w S x v) : RepT w S (.agg cs) (.agg a)
 | tup (cs : List T) (a : Array Value) (hl : cs.length = a.size) (hr : ∀ (i : Nat) (x : T) (v : Value), cs[i]? = some x -> a[i]? = some v -> RepT w S x v) : RepT w S (.tup cs) (.tuple a)
theorem cell_keep {w w' : World} {b : Nat} (h : w'.heap[b]? = w.heap[b]?) (o : Nat) : w'.cell? ⟨b, o, none⟩ = w.cell? ⟨b, o, none⟩ := World.cell?_of_block (w := w) h
theorem RepT.mono {w w' : World} {S S' : Nat -> Prop} (hS : ∀ b, S b -> S' b /\ w'.heap[b]? = w.heap[b]?) {x : T} {v : Value} (h : RepT w S x v) : RepT w' S' x v := by
 induction h with
 | bool b => exact .bool b
 | int k n => exact .int k n
 | str s v h => exact .str s v h
 | nilp => exact .nilp
 | ptr x b o g hc hr ih => exact .ptr x b o g (fun j c hj => ⟨(hS b (hc j c hj).1).1, by rw [cell_keep (hS b (hc j c hj).1).2]; exact (hc j c hj).2⟩) (fun j c hj => ih j c hj)
 | nils => exact .nils
 | sl ex sz xs b o cap g hl hx hz hc hr sp hsp ih =>
  exact .sl ex sz xs b o cap g hl hx hz (fun i x j c hi hj => ⟨(hS b (hc i x j c hi hj).1).1, by rw [cell_keep (hS b (hc i x j c hi hj).1).2]; exact (hc i x j c hi hj).2⟩) (fun i x j c hi hj => ih i x j c hi hj) sp hsp
 | nilm => exact .nilm
 | mp ks vs b es clock hs hh hst hk hv hkr hvr ihk ihv => exact .mp ks vs b es clock (hS b hs).1 (by rw [(hS b hs).2]; exact hh) hst hk hv (fun i k e h1 h2 => ihk i k e h1 h2) (fun i v e h1 h2 => ihv i v e h1 h2)
 | nilf => exact .nilf
 | fn f a b a' b' ha hb har hbr iha ihb => exact .fn f a b a' b' ha hb (fun i x v h1 h2 => iha i x v h1 h2) (fun i x v h1 h2 => ihb i x v h1 h2)
 | nili => exact .nili
 | iface t x v h ih => exact .iface t x v ih
 | agg cs a hl hr ih => exact .agg cs a hl (fun i x v h1 h2 => ih i x v h1 h2)
 | tup cs a hl hr ih => exact .tup cs a hl (fun i x v h1 h2 => ih i x v h1 h2)
structure MI where
 b : Nat
 s : Nat
 gen : Nat
 ext : Nat
 tot : Nat
abbrev MM := Nat -> Option MI
inductive RepV (w : World) (S : Nat -> Prop) (M : MM) : V -> Value -> Prop
 | t (x : T) (v : Value) (h : RepT w S x v) : RepV w S M (.t x) v
 | ref (id gen off : Nat) (sh : Option Nat) (b o : Nat) (m : MI) (hm : M id = some m) (hg : gen <= m.gen) (h : m.gen = gen -> b = m.b /\ o = m.s + off) :
   RepV w S M (.ref id gen off sh) (.pointer (some ⟨b, o, none⟩))
 | msl (id gen off len : Nat) (sh : Option Nat) (b o cap : Nat) (hl : len <= cap) (m : MI) (hm : M id = some m) (hg : gen <= m.gen)
   (h : m.gen = gen -> b = m.b /\ (cap = 0 \/ o = m.s + off) /\ m.ext <= off + cap * shSize sh /\ m.s + off + cap * shSize sh <= m.tot) :
   RepV w S M (.msl id gen off len sh) (.slice (some ⟨b, o, none⟩) len cap)
 | mmp (id b : Nat) (m : MI) (hm : M id = some m) (h : m.gen = 0 -> b = m.b) : RepV w S M (.mmp id) (.map (some b))
 | it (id : Nat) (cur : Option (T × T)) (b : Nat) (m : MI) (hm : M id = some m) (hp : m.tot < m.ext) (h : b = m.b)
   (hc : ∀ k v, cur = some (k, v) -> S b /\ ∃ mb since seen clock es e, w.heap[b]? = some (.mapIter (some mb) since (Array.push seen (MapEntry.born e)) clock) /\ S mb /\ w.heap[mb]? = some (.map es clock) /\ e ∈ es.toList /\ Born es clock /\ RepT w S k e.key /\ RepT w S v e.val) :
   RepV w S M (.it id cur) (.pointer (some ⟨b, 0, none⟩))
 | yld (id b : Nat) (m : MI) (hm : M id = some m) (h : m.gen = 0 -> b = m.b) : RepV w S M (.yld id) (.func (.yield b) #[] #[])
 | agg (cs : List V) (a : Array Value) (hl : cs.length = a.size) (hr : ∀ (i : Nat) (x : V) (v : Value), cs[i]? = some x -> a[i]? = some v -> RepV w S M x v) : RepV w S M (.agg cs) (.agg a)
 | tup (cs : List V) (a : Array Value) (hl : cs.length = a.size) (hr : ∀ (i : Nat) (x : V) (v : Value), cs[i]? = some x -> a[i]? = some v -> RepV w S M x v) : RepV w S M (.tup cs) (.tuple a)
 | fn (f : Fn) (a b : List V) (a' b' : Array Value) (ha : a.length = a'.size) (hb : b.length = b'.size)
   (har : ∀ (i : Nat) (x : V) (v : Value), a[i]? = some x -> a'[i]? = some v -> RepV w S M x v)
   (hbr : ∀ (i : Nat) (x : V) (v : Value), b[i]? = some x -> b'[i]? = some v -> RepV w S M x v) : RepV w S M (.fn f a b) (.func f a' b')
 | iface (t : TypeId) (x : V) (v : Value) (h : RepV w S M x v) : RepV w S M (.iface t x) (.iface t v)
 | junk (v : Value) : RepV w S M .junk v
structure Ext (B0 : Nat -> Prop) (n0 : Nat -> Prop) (w : World) (S : Nat -> Prop) (M : MM) (w' : World) (S' : Nat -> Prop) (M' : MM) : Prop where
 os : w'.os = w.os
 tape : w'.tape = w.tape
 output : w'.output = w.output
 size : w.heap.size <= w'.heap.size
 below : ∀ b, B0 b -> w'.heap[b]? = w.heap[b]?
 keep : ∀ b, S b -> S' b /\ w'.heap[b]? = w.heap[b]?
 map : ∀ id m, M id = some m -> ∃ m', M' id = some m' /\ (m' = m \/ (m.gen < m'.gen /\ m.ext <= m.tot))
 low : ∀ id, n0 id -> M id = none -> M' id = none
 new : ∀ b, S' b -> S b \/ ¬ B0 b
theorem Ext.refl (B0 : Nat -> Prop) (n0 : Nat -> Prop) (w : World) (S : Nat -> Prop) (M : MM) : Ext B0 n0 w S M w S M :=
 ⟨rfl, rfl, rfl, Nat.le_refl _, fun _ _ => rfl, fun _ h => ⟨h, rfl⟩, fun _ m h => ⟨m, h, .inl rfl⟩, fun _ _ h => h, fun _ h => .inl h⟩
theorem RepV.mono {w w' : World} {S S' : Nat -> Prop} {M M' : MM} (hS : ∀ b, S b -> S' b /\ w'.heap[b]? = w.heap[b]?)
  (hM : ∀ id m, M id = some m -> ∃ m', M' id = some m' /\ (m' = m \/ (m.gen < m'.gen /\ m.ext <= m.tot))) {x : V} {v : Value} (h : RepV w S M x v) : RepV w' S' M' x v := by
 induction h with
 | t x v h => exact .t x v (h.mono hS)
 | ref id gen off sh b o m hm hg h =>
  obtain ⟨m', h1, h2⟩ := hM id m hm
  rcases h2 with rfl | h2
  . exact .ref id gen off sh b o m' h1 hg h
  . exact .ref id gen off sh b o m' h1 (by omega) (fun e => by omega)
 | msl id gen off len sh b o cap hl m hm hg h =>
  obtain ⟨m', h1, h2⟩ := hM id m hm
  rcases h2 with rfl | h2
  . exact .msl id gen off len sh b o cap hl m' h1 hg h
  . exact .msl id gen off len sh b o cap hl m' h1 (by omega) (fun e => by omega)
 | mmp id b m hm h =>
  obtain ⟨m', h1, h2⟩ := hM id m hm
  rcases h2 with rfl | h2
  . exact .mmp id b m' h1 h
  . exact .mmp id b m' h1 (fun e => by omega)
 | it id cur b m hm hp h hc =>
  obtain ⟨m', h1, h2⟩ := hM id m hm
  rcases h2 with rfl | h2
  . refine .it id cur b m' h1 hp h fun k v e => ?_
    obtain ⟨a1, mb, since, seen, clock, es, en, a2, a3, a4, a5, a6, a7, a8⟩ := hc k v e
    exact ⟨(hS b a1).1, mb, since, seen, clock, es, en, by rw [(hS b a1).2]; exact a2, (hS mb a3).1, by rw [(hS mb a3).2]; exact a4, a5, a6, a7.mono hS, a8.mono hS⟩
  . omega
 | yld id b m hm h =>
  obtain ⟨m', h1, h2⟩ := hM id m hm
  rcases h2 with rfl | h2
  . exact .yld id b m' h1 h
  . exact .yld id b m' h1 (fun e => by omega)
 | agg cs a hl hr ih => exact .agg cs a hl (fun i x v h1 h2 => ih i x v h1 h2)
 | tup cs a hl hr ih => exact .tup cs a hl (fun i x v h1 h2 => ih i x v h1 h2)
 | fn f a b a' b' ha hb har hbr iha ihb => exact .fn f a b a' b' ha hb (fun i x v h1 h2 => iha i x v h1 h2) (fun i x v h1 h2 => ihb i x v h1 h2)
 | iface t x v h ih => exact .iface t x v ih
 | junk v => exact .junk v
theorem Ext.trans {B0 : Nat -> Prop} {n0 n1 : Nat -> Prop} {w w1 w2 : World} {S S1 S2 : Nat -> Prop} {M M1 M2 : MM} (a : Ext B0 n0 w S M w1 S1 M1) (b : Ext B0 n1 w1 S1 M1 w2 S2 M2) (hn : ∀ i, n0 i -> n1 i) :
  Ext B0 n0 w S M w2 S2 M2 := by
 refine ⟨b.os.trans a.os, b.tape.trans a.tape, b.output.trans a.output, Nat.le_trans a.size b.size, fun k hk => (b.below k hk).trans (a.below k hk),
  fun k hk => ⟨(b.keep k (a.keep k hk).1).1, (b.keep k (a.keep k hk).1).2.trans (a.keep k hk).2⟩, fun id m hm => ?_, fun id hi hm => b.low id (hn id hi) (a.low id hi hm), fun k hk => (b.new k hk).elim (a.new k) .inr⟩
 obtain ⟨m1, h1, e1⟩ := a.map id m hm
 obtain ⟨m2, h2, e2⟩ := b.map id m1 h1
 refine ⟨m2, h2, ?_⟩
 rcases e1 with rfl | e1 <;> rcases e2 with rfl | e2
 . exact .inl rfl
 . exact .inr e2
 . exact .inr e1
 . exact .inr (by omega)
theorem Ext.weak {B0 : Nat -> Prop} {n0 n1 : Nat -> Prop} {w w1 : World} {S S1 : Nat -> Prop} {M M1 : MM} (a : Ext B0 n0 w S M w1 S1 M1) (hn : ∀ i, n1 i -> n0 i) : Ext B0 n1 w S M w1 S1 M1 :=
 ⟨a.os, a.tape, a.output, a.size, a.below, a.keep, a.map, fun id hi hm => a.low id (hn id hi) hm, a.new⟩
def RepTs (w : World) (S : Nat -> Prop) (M : MM) (ts : Ts) (a : Array Value) : Prop :=
 ∀ i, match ts.get i with
  | some v => ∃ c, a[i]? = some c /\ RepV w S M v c
  | none => a[i]? = none
theorem RepTs.get {w : World} {S : Nat -> Prop} {M : MM} {ts : Ts} {a : Array Value} (h : RepTs w S M ts a) {i : Nat} {v : V} (hi : ts.get i = some v) : ∃ c, a[i]? = some c /\ RepV w S M v c := by
 have := h i
 rw [hi] at this
 exact this
theorem RepTs.upd {w : World} {S : Nat -> Prop} {M : MM} {ts : Ts} {a : Array Value} (h : RepTs w S M ts a) (d : Nat) {v : V} {c : Value} (hv : RepV w S M v c) :
  RepTs w S M (ts.upd v d) (a.setIfInBounds d c) := by
 intro i
 rw [Tm.get_upd]
 by_cases e : i = d
 . subst e
   rw [if_pos rfl]
   have := h i
   cases hg : ts.get i with
   | none => rw [hg] at this; simp only [Option.map_none]; rw [Array.getElem?_setIfInBounds]; simp_all
   | some u =>
    rw [hg] at this
    obtain ⟨c0, hc, _⟩ := this
    have hlt : i < a.size := by
     rcases Nat.lt_or_ge i a.size with h | h
     . exact h
     . rw [Array.getElem?_eq_none h] at hc; cases hc
    exact ⟨c, by rw [Array.getElem?_setIfInBounds]; simp [hlt], hv⟩
 . rw [if_neg e]
   have := h i
   have hs : (a.setIfInBounds d c)[i]? = a[i]? := by rw [Array.getElem?_setIfInBounds, if_neg (fun x => e x.symm)]
   rw [hs]
   exact this
theorem RepTs.mono {w w' : World} {S S' : Nat -> Prop} {M M' : MM} {ts : Ts} {a : Array Value} (hS : ∀ b, S b -> S' b /\ w'.heap[b]? = w.heap[b]?)
  (hM : ∀ id m, M id = some m -> ∃ m', M' id = some m' /\ (m' = m \/ (m.gen < m'.gen /\ m.ext <= m.tot))) (h : RepTs w S M ts a) : RepTs w' S' M' ts a := by
 intro i
 have := h i
 split at this
 . obtain ⟨c, hc, hv⟩ := this
   exact ⟨c, hc, hv.mono hS hM⟩
 . exact this
def RepO (w : World) (S : Nat -> Prop) (M : MM) (m : MI) : Obj -> Prop
 | .cells gen e fz cs => m.gen = gen /\ m.ext = cs.length /\ (gen = 0 -> m.s = 0 /\ m.tot = cs.length) /\ ∃ arr fr, w.heap[m.b]? = some (.cells arr e fr) /\ (fz = false -> fr = (0, 0)) /\ arr.size = m.tot /\ m.s + cs.length <= m.tot ∧
   ∀ (j : Nat) (c : V), cs[j]? = some c -> ∃ v, arr[m.s + j]? = some v /\ RepV w S M c v
 | .map ks vs => m.gen = 0 /\ ∃ es clock, Born es clock /\ w.heap[m.b]? = some (.map es clock) /\ ks.length = es.size /\ vs.length = es.size ∧
   (∀ (i : Nat) (k : T) (e : MapEntry), ks[i]? = some k -> es[i]? = some e -> RepT w S k e.key) /\ (∀ (i : Nat) (v : V) (e : MapEntry), vs[i]? = some v -> es[i]? = some e -> RepV w S M v e.val)
 | .mit ks vs => m.tot < m.ext /\ ∃ mb es clock, w.heap[m.b]? = some (.mapIter (some mb) clock #[] clock) /\ S mb /\ w.heap[mb]? = some (.map es clock) /\ Born es clock /\ ks.length = es.size /\ vs.length = es.size ∧
   (∀ (i : Nat) (k : T) (e : MapEntry), ks[i]? = some k -> es[i]? = some e -> RepT w S k e.key) /\ (∀ (i : Nat) (v : T) (e : MapEntry), vs[i]? = some v -> es[i]? = some e -> RepT w S v e.val)
 | .sit s pos => m.tot < m.ext /\ ∃ bs : ByteArray, bs.data.toList = s /\ w.heap[m.b]? = some (.stringIter bs pos)
 | .loop st pend f ts ps asg body => m.gen = 0 /\ ∃ L : Loop, w.heap[m.b]? = some (.loop L) /\ L.state = st /\ L.pending = pend /\ L.params.toList = ps /\ L.assign = asg /\ L.body = body /\ RepTs w S M ts L.tmps
 | .defer o => m.gen = 0 /\ w.heap[m.b]? = some (.deferred (if o then some [] else none))
 | .nest gen e cs fc => m.gen = gen /\ m.ext = cs.length /\ (gen = 0 -> m.s = 0 /\ m.tot = cs.length) /\ ∃ arr, w.heap[m.b]? = some (.cells arr e (0, 0)) /\ arr.size = m.tot /\ m.s + cs.length <= m.tot ∧
   (∀ (j : Nat) (x : V), cs[j]? = some (.v x) -> ∃ v, arr[m.s + j]? = some v /\ RepV w S M x v) ∧
   ∀ (p : Nat) (fs : List V), fc = some (p, fs) -> p + fs.length <= cs.length /\ (∀ j, j < fs.length -> cs[p + j]? = some (.v .junk)) /\ ∀ (j : Nat) (x : V), fs[j]? = some x -> ∃ v, arr[m.s + p + j]? = some v /\ RepV w S M x v
theorem RepO.mono {w w' : World} {S S' : Nat -> Prop} {M M' : MM} {m : MI} (hS : ∀ b, S b -> S' b /\ w'.heap[b]? = w.heap[b]?)
  (hM : ∀ id m, M id = some m -> ∃ m', M' id = some m' /\ (m' = m \/ (m.gen < m'.gen /\ m.ext <= m.tot))) (hb : w'.heap[m.b]? = w.heap[m.b]?) {o : Obj} (h : RepO w S M m o) : RepO w' S' M' m o := by
 cases o with
 | cells gen e fz cs =>
  obtain ⟨h1, h2, hw, arr, fr, h3, h4, h5, h6, h7⟩ := h
  exact ⟨h1, h2, hw, arr, fr, by rw [hb]; exact h3, h4, h5, h6, fun j c hj => by obtain ⟨v, hv, hr⟩ := h7 j c hj; exact ⟨v, hv, hr.mono hS hM⟩⟩
 | map ks vs =>
  obtain ⟨h1, es, clock, hst, h3, h4, h5, h6, h7⟩ := h
  exact ⟨h1, es, clock, hst, by rw [hb]; exact h3, h4, h5, fun i k e a b => (h6 i k e a b).mono hS, fun i k e a b => (h7 i k e a b).mono hS hM⟩
 | mit ks vs =>
  obtain ⟨h1, mb, es, clock, h3, h4, h5, h6, h7, h8, h9, h10⟩ := h
  exact ⟨h1, mb, es, clock, by rw [hb]; exact h3, (hS mb h4).1, by rw [(hS mb h4).2]; exact h5, h6, h7, h8, fun i k e a b => (h9 i k e a b).mono hS, fun i k e a b => (h10 i k e a b).mono hS⟩
 | sit s pos =>
  obtain ⟨h1, bs, h2, h3⟩ := h
  exact ⟨h1, bs, h2, by rw [hb]; exact h3⟩
 | loop st pend f ts ps asg body =>
  obtain ⟨h1, L, h3, h4, h5, h7, h8, h9, h10⟩ := h
  exact ⟨h1, L, by rw [hb]; exact h3, h4, h5, h7, h8, h9, h10.mono hS hM⟩
 | defer o =>
  obtain ⟨h1, h3⟩ := h
  exact ⟨h1, by rw [hb]; exact h3⟩
 | nest gen e cs fc =>
  obtain ⟨h1, h2, hw, arr, h3, h5, h6, h7, h8⟩ := h
  exact ⟨h1, h2, hw, arr, by rw [hb]; exact h3, h5, h6, fun j c hj => (by obtain ⟨v, hv, hr⟩ := h7 j c hj; exact ⟨v, hv, hr.mono hS hM⟩),
   fun p fs hf => ⟨(h8 p fs hf).1, (h8 p fs hf).2.1, fun j x hj => by obtain ⟨v, hv, hr⟩ := (h8 p fs hf).2.2 j x hj; exact ⟨v, hv, hr.mono hS hM⟩⟩⟩
def RepOwn (w : World) (S : Nat -> Prop) (F : Nat -> Prop) (e : TypeId) (sh : Option Nat) (xs : List T) (v : Value) : Prop :=
 ∃ m : MI, m.gen = 1 /\ F m.b /\ (∀ x ∈ xs, x.fits sh = true) /\ RepV w S (fun _ => some m) (.msl 0 1 0 xs.length sh) v /\ RepO w S (fun _ => none) m (.cells 1 e false (ownCells xs))
theorem RepOwn.mono {w w' : World} {S S' F F' : Nat -> Prop} (hS : ∀ b, S b -> S' b /\ w'.heap[b]? = w.heap[b]?) (hF : ∀ b, F b -> F' b /\ w'.heap[b]? = w.heap[b]?) {e : TypeId} {sh : Option Nat} {xs : List T} {v : Value} (h : RepOwn w S F e sh xs v) : RepOwn w' S' F' e sh xs v := by
 obtain ⟨m, h1, h2, h3, h4, h5⟩ := h
 exact ⟨m, h1, (hF _ h2).1, h3, h4.mono hS (fun id m h => ⟨m, h, .inl rfl⟩), h5.mono hS (fun id m h => ⟨m, h, .inl rfl⟩) (hF _ h2).2⟩
abbrev Own := Nat -> Option (Nat × Nat)
structure OwnOK (B0 : Nat -> Prop) (w : World) (S : Nat -> Prop) (M : MM) (h : Heap) (O : Own) : Prop where
 free : ∀ b, O b ≠ none -> ¬ S b /\ ¬ B0 b /\ b < w.heap.size
 obj : ∀ id o m, h.obj id = some o -> M id = some m -> O m.b = none
 rep : ∀ id g e cs fc m, h.obj id = some (.nest g e cs fc) -> M id = some m -> ∀ j e2 sh xs, cs[j]? = some (.own e2 sh xs) →
  ∃ v, w.cell? ⟨m.b, m.s + j, none⟩ = some v /\ RepOwn w S (fun b => O b = some (m.b, m.s + j)) e2 sh xs v
 cel : ∀ b, O b ≠ none -> ∃ arr e fr, w.heap[b]? = some (.cells arr e fr)
theorem OwnOK.step {B0 : Nat -> Prop} {w w' : World} {S S' : Nat -> Prop} {M M' : MM} {h h' : Heap} {O : Own} (K : OwnOK B0 w S M h O) (hsz : w.heap.size <= w'.heap.size)
  (hS : ∀ b, S b -> S' b /\ w'.heap[b]? = w.heap[b]?) (hO : ∀ b, O b ≠ none -> ¬ S' b /\ w'.heap[b]? = w.heap[b]?) (hobj : ∀ id o m, h'.obj id = some o -> M' id = some m -> O m.b = none)
  (hn : ∀ id g e cs fc m, h'.obj id = some (.nest g e cs fc) -> M' id = some m -> ∀ j e2 sh xs, cs[j]? = some (.own e2 sh xs) →
   ∃ id0 g0 e0 cs0 fc0 m0 j0, h.obj id0 = some (.nest g0 e0 cs0 fc0) /\ M id0 = some m0 /\ cs0[j0]? = some (.own e2 sh xs) /\ m.b = m0.b /\ m.s + j = m0.s + j0 /\ w'.cell? ⟨m.b, m.s + j, none⟩ = w.cell? ⟨m.b, m.s + j, none⟩) : OwnOK B0 w' S' M' h' O := by
 refine ⟨fun b hb => ⟨(hO b hb).1, (K.free b hb).2.1, Nat.lt_of_lt_of_le (K.free b hb).2.2 hsz⟩, hobj, fun id g e cs fc m hi hm j e2 sh xs hj => ?_, fun b hb => by rw [(hO b hb).2]; exact K.cel b hb⟩
 obtain ⟨id0, g0, e0, cs0, fc0, m0, j0, k1, k2, k3, k4, k5, k6⟩ := hn id g e cs fc m hi hm j e2 sh xs hj
 obtain ⟨v, hv, hr⟩ := K.rep id0 g0 e0 cs0 fc0 m0 k1 k2 j0 e2 sh xs k3
 rw [k6, k4, k5]
 exact ⟨v, hv, hr.mono hS fun b hb => ⟨hb, (hO b (by rw [hb]; exact fun h => by cases h)).2⟩⟩
structure Inv (B0 : Nat -> Prop) (w : World) (S : Nat -> Prop) (M : MM) (h : Heap) : Prop where
 obj : ∀ id o, h.obj id = some o -> ∃ m, M id = some m /\ RepO w S M m o
 at_ : ∀ id m, M id = some m -> ¬ B0 m.b /\ m.b < w.heap.size /\ id < h.next
 inj : ∀ id id' o o' m m', h.obj id = some o -> h.obj id' = some o' -> M id = some m -> M id' = some m' -> m.b = m'.b -> id = id'
 stable : ∀ id o m, h.obj id = some o -> M id = some m -> ¬ S m.b
 lt : ∀ b, S b -> b < w.heap.size
 base : BaseP B0 w
 own : ∃ O, OwnOK B0 w S M h O
def MM.set (M : MM) (id : Nat) (m : MI) : MM := fun i => if i = id then some m else M i
theorem Inv.put {B0 : Nat -> Prop} {n0 : Nat -> Prop} {w w' : World} {S : Nat -> Prop} {M : MM} {h : Heap} (hI : Inv B0 w S M h) (id : Nat) (o : Obj) (m' : MI)
  (hold : ∀ m, M id = some m -> h.obj id ≠ none /\ (m' = m \/ (m.gen < m'.gen /\ m.ext <= m.tot))) (hnew : M id = none -> ¬ n0 id /\ id < h.next)
  (hos : w'.os = w.os) (htape : w'.tape = w.tape) (hout : w'.output = w.output) (hsz : w.heap.size <= w'.heap.size)
  (hblk : ∀ b, b < w.heap.size -> (∀ m, M id = some m -> b ≠ m.b) -> w'.heap[b]? = w.heap[b]?)
  (hb : w.heap.size <= m'.b \/ ∃ m, M id = some m /\ m'.b = m.b) (hlt : m'.b < w'.heap.size)
  (hO : RepO w' S (M.set id m') m' o) (hflat : ∀ g e cs fc, o = .nest g e cs fc -> ∀ j e2 sh xs, cs[j]? = some (.own e2 sh xs) →
   ∃ g0 e0 cs0 fc0 m0 j0, h.obj id = some (.nest g0 e0 cs0 fc0) /\ M id = some m0 /\ cs0[j0]? = some (.own e2 sh xs) /\ m'.b = m0.b /\ m'.s + j = m0.s + j0 /\ w'.cell? ⟨m'.b, m'.s + j, none⟩ = w.cell? ⟨m'.b, m'.s + j, none⟩ := by intro _ _ _ _ h; cases h) :
  Inv B0 w' S (M.set id m') (h.set id (some o)) /\ Ext B0 n0 w S M w' S (M.set id m') := by
 have hM : ∀ i m, M i = some m -> ∃ m2, (M.set id m') i = some m2 /\ (m2 = m \/ (m.gen < m2.gen /\ m.ext <= m.tot)) := by
  intro i m hm
  by_cases e : i = id
  . subst e
    exact ⟨m', by simp [MM.set], (hold m hm).2⟩
  . exact ⟨m, by simp [MM.set, e, hm], .inl rfl⟩
 have hS : ∀ b, S b -> S b /\ w'.heap[b]? = w.heap[b]? := by
  intro b hb
  refine ⟨hb, hblk b (hI.lt b hb) fun m hm e => ?_⟩
  obtain ⟨o0, ho⟩ := Option.ne_none_iff_exists'.1 (hold m hm).1
  exact hI.stable id o0 m ho hm (e ▸ hb)
 have hbel : ∀ b, B0 b -> w'.heap[b]? = w.heap[b]? := fun b hb => hblk b (hI.base.le b hb) fun m hm e => (hI.at_ id m hm).1 (e ▸ hb)
 have hmb : ¬ B0 m'.b := by
  rcases hb with hb | ⟨m, hm, e⟩
  . exact fun k => by have := hI.base.le _ k; omega
  . rw [e]; exact (hI.at_ id m hm).1
 refine ⟨⟨?_, ?_, ?_, ?_, fun b hb => Nat.lt_of_lt_of_le (hI.lt b hb) hsz, hI.base.step hsz hbel, ?_⟩, ⟨hos, htape, hout, hsz, hbel, hS, hM, ?_, fun _ h => .inl h⟩⟩
 . intro i o1 hi
   rw [Heap.obj_set] at hi
   by_cases e : i = id
   . subst e
     rw [if_pos rfl] at hi
     cases hi
     exact ⟨m', by simp [MM.set], hO⟩
   . rw [if_neg e] at hi
     obtain ⟨m, hm, hr⟩ := hI.obj i o1 hi
     refine ⟨m, by simp [MM.set, e, hm], hr.mono hS hM (hblk m.b (hI.at_ i m hm).2.1 fun m2 hm2 e2 => ?_)⟩
     obtain ⟨o2, ho2⟩ := Option.ne_none_iff_exists'.1 (hold m2 hm2).1
     exact e (hI.inj i id o1 o2 m m2 hi ho2 hm hm2 e2)
 . intro i m hm
   by_cases e : i = id
   . subst e
     simp only [MM.set, if_true, oI] at hm
     subst hm
     refine ⟨hmb, hlt, ?_⟩
     cases h0 : M i with
     | none => exact (hnew h0).2
     | some m0 => exact (hI.at_ i m0 h0).2.2
   . simp only [MM.set, if_neg e] at hm
     have := hI.at_ i m hm
     exact ⟨this.1, Nat.lt_of_lt_of_le this.2.1 hsz, this.2.2⟩
 . intro i j o1 o2 m1 m2 hi hj hm1 hm2 e
   rw [Heap.obj_set] at hi hj
   have key : ∀ k o3 m3, k ≠ id -> h.obj k = some o3 -> M k = some m3 -> m3.b ≠ m'.b := by
    intro k o3 m3 hk ho3 hm3 e3
    rcases hb with hb | ⟨m, hm, e4⟩
    . have := (hI.at_ k m3 hm3).2.1
      omega
    . obtain ⟨o4, ho4⟩ := Option.ne_none_iff_exists'.1 (hold m hm).1
      exact hk (hI.inj k id o3 o4 m3 m ho3 ho4 hm3 hm (e3.trans e4))
   by_cases e1 : i = id <;> by_cases e2 : j = id
   . rw [e1, e2]
   . exfalso
     rw [if_neg e2] at hj
     simp only [MM.set, e1, if_true, oI] at hm1
     simp only [MM.set, if_neg e2] at hm2
     exact key j o2 m2 e2 hj hm2 (by rw [<- e, hm1])
   . exfalso
     rw [if_neg e1] at hi
     simp only [MM.set, e2, if_true, oI] at hm2
     simp only [MM.set, if_neg e1] at hm1
     exact key i o1 m1 e1 hi hm1 (by rw [e, hm2])
   . rw [if_neg e1] at hi
     rw [if_neg e2] at hj
     simp only [MM.set, if_neg e1] at hm1
     simp only [MM.set, if_neg e2] at hm2
     exact hI.inj i j o1 o2 m1 m2 hi hj hm1 hm2 e
 . intro i o1 m hi hm
   rw [Heap.obj_set] at hi
   by_cases e : i = id
   . subst e
     simp only [MM.set, if_true, oI] at hm
     subst hm
     rcases hb with hb | ⟨m, hm, e4⟩
     . exact fun hs => by have := hI.lt _ hs; omega
     . obtain ⟨o4, ho4⟩ := Option.ne_none_iff_exists'.1 (hold m hm).1
       rw [e4]
       exact hI.stable i o4 m ho4 hm
   . rw [if_neg e] at hi
     simp only [MM.set, if_neg e] at hm
     exact hI.stable i o1 m hi hm
 . obtain ⟨O, K⟩ := hI.own
   have hOn : O m'.b = none := by
    rcases hb with hb | ⟨m, hm, e4⟩
    . rcases h0 : O m'.b with _ | p
      . rfl
      . have := (K.free m'.b (by rw [h0]; exact fun h => by cases h)).2.2
        omega
    . obtain ⟨o4, ho4⟩ := Option.ne_none_iff_exists'.1 (hold m hm).1
      rw [e4]; exact K.obj id o4 m ho4 hm
   refine ⟨O, K.step hsz hS (fun b hb => ⟨(K.free b hb).1, hblk b (K.free b hb).2.2 fun m hm e => ?_⟩) (fun i o1 m hi hm => ?_) fun i g e cs fc m hi hm j e2 sh xs hj => ?_⟩
   . obtain ⟨o4, ho4⟩ := Option.ne_none_iff_exists'.1 (hold m hm).1
     exact hb (by rw [e]; exact K.obj id o4 m ho4 hm)
   . rw [Heap.obj_set] at hi
     by_cases e : i = id
     . subst e
       simp only [MM.set, if_true, oI] at hm
       subst hm
       exact hOn
     . rw [if_neg e] at hi
       simp only [MM.set, if_neg e] at hm
       exact K.obj i o1 m hi hm
   . rw [Heap.obj_set] at hi
     by_cases ei : i = id
     . subst ei
       rw [if_pos rfl] at hi
       simp only [MM.set, if_true, oI] at hm
       subst hm
       obtain ⟨g0, e0, cs0, fc0, m0, j0, k1, k2, k3, k4, k5, k6⟩ := hflat g e cs fc (Option.some.inj hi) j e2 sh xs hj
       exact ⟨i, g0, e0, cs0, fc0, m0, j0, k1, k2, k3, k4, k5, k6⟩
     . rw [if_neg ei] at hi
       simp only [MM.set, if_neg ei] at hm
       refine ⟨i, g, e, cs, fc, m, j, hi, hm, hj, rfl, rfl, cell_keep (hblk m.b (hI.at_ i m hm).2.1 fun m2 hm2 e2 => ?_) _⟩
       obtain ⟨o2, ho2⟩ := Option.ne_none_iff_exists'.1 (hold m2 hm2).1
       exact ei (hI.inj i id _ o2 m m2 hi ho2 hm hm2 e2)
 . intro i hi hm
   by_cases e : i = id
   . subst e
     exact absurd hi (hnew hm).1
   . simp [MM.set, e, hm]
theorem Inv.grow {B0 : Nat -> Prop} {n0 : Nat -> Prop} {w w' : World} {S : Nat -> Prop} {M : MM} {h : Heap} (hI : Inv B0 w S M h)
  (hos : w'.os = w.os) (htape : w'.tape = w.tape) (hout : w'.output = w.output) (hsz : w.heap.size <= w'.heap.size)
  (hblk : ∀ b, b < w.heap.size -> w'.heap[b]? = w.heap[b]?) :
  let S' : Nat -> Prop := fun b => S b \/ (w.heap.size <= b /\ b < w'.heap.size)
  Inv B0 w' S' M h /\ Ext B0 n0 w S M w' S' M := by
 intro S'
 have hS : ∀ b, S b -> S' b /\ w'.heap[b]? = w.heap[b]? := fun b hb => ⟨.inl hb, hblk b (hI.lt b hb)⟩
 have hM : ∀ i m, M i = some m -> ∃ m2, M i = some m2 /\ (m2 = m \/ (m.gen < m2.gen /\ m.ext <= m.tot)) := fun i m hm => ⟨m, hm, .inl rfl⟩
 refine ⟨⟨?_, ?_, hI.inj, ?_, ?_, hI.base.step hsz fun b hb => hblk b (hI.base.le b hb), ?_⟩, ⟨hos, htape, hout, hsz, fun b hb => hblk b (hI.base.le b hb), hS, hM, fun _ _ h => h, fun b hb => hb.imp id fun h k => by have := hI.base.le b k; omega⟩⟩
 . intro i o hi
   obtain ⟨m, hm, hr⟩ := hI.obj i o hi
   exact ⟨m, hm, hr.mono hS hM (hblk m.b (hI.at_ i m hm).2.1)⟩
 . intro i m hm
   have := hI.at_ i m hm
   exact ⟨this.1, Nat.lt_of_lt_of_le this.2.1 hsz, this.2.2⟩
 . intro i o m hi hm hs
   rcases hs with hs | ⟨hs, _⟩
   . exact hI.stable i o m hi hm hs
   . have := (hI.at_ i m hm).2.1
     omega
 . intro b hb
   rcases hb with hb | hb
   . exact Nat.lt_of_lt_of_le (hI.lt b hb) hsz
   . exact hb.2
 . obtain ⟨O, K⟩ := hI.own
   refine ⟨O, K.step hsz hS (fun b hb => ⟨fun hs => ?_, hblk b (K.free b hb).2.2⟩) K.obj fun i g e cs fc m hi hm j e2 sh xs hj => ⟨i, g, e, cs, fc, m, j, hi, hm, hj, rfl, rfl, cell_keep (hblk m.b (hI.at_ i m hm).2.1) _⟩⟩
   rcases hs with hs | ⟨hs, _⟩
   . exact (K.free b hb).1 hs
   . have := (K.free b hb).2.2; omega
mutual
theorem T.eqb_eq : ∀ (x y : T), T.eqb x y = true -> x = y
 | .bool a, y, h => by cases y <;> simp [T.eqb] at h; rw [h]
 | .int k n, y, h => by cases y <;> simp [T.eqb] at h; rw [h.1, h.2]
 | .str s, y, h => by cases y <;> simp [T.eqb] at h; rw [h]
 | .nilp, y, h => by cases y <;> simp [T.eqb] at h; rfl
 | .ptr x, y, h => by
  cases y <;> simp only [T.eqb, Bool.false_eq_true] at h
  rw [T.eqb_eq x _ h]
 | .nils, y, h => by cases y <;> simp [T.eqb] at h; rfl
 | .sl e s xs, y, h => by
  cases y <;> simp only [T.eqb, Bool.false_eq_true, Bool.and_eq_true, decide_eq_true_eq] at h
  rw [h.1.1, h.1.2, T.eqbL_eq xs _ h.2]
 | .nilm, y, h => by cases y <;> simp [T.eqb] at h; rfl
 | .mp a b, y, h => by
  cases y <;> simp only [T.eqb, Bool.false_eq_true, Bool.and_eq_true] at h
  rw [T.eqbL_eq a _ h.1, T.eqbL_eq b _ h.2]
 | .nilf, y, h => by cases y <;> simp [T.eqb] at h; rfl
 | .fn f a b, y, h => by cases y <;> simp [T.eqb] at h
 | .nili, y, h => by cases y <;> simp [T.eqb] at h; rfl
 | .iface ty x, y, h => by
  cases y <;> simp only [T.eqb, Bool.false_eq_true, Bool.and_eq_true, decide_eq_true_eq] at h
  rw [h.1, T.eqb_eq x _ h.2]
 | .agg a, y, h => by
  cases y <;> simp only [T.eqb, Bool.false_eq_true] at h
  rw [T.eqbL_eq a _ h]
 | .tup a, y, h => by
  cases y <;> simp only [T.eqb, Bool.false_eq_true] at h
  rw [T.eqbL_eq a _ h]
theorem T.eqbL_eq : ∀ (x y : List T), T.eqbL x y = true -> x = y
 | [], y, h => by cases y <;> simp [T.eqbL] at h; rfl
 | x :: r, y, h => by
  cases y <;> simp only [T.eqbL, Bool.false_eq_true, Bool.and_eq_true] at h
  rw [T.eqb_eq x _ h.1, T.eqbL_eq r _ h.2]
end
mutual
theorem V.eqb_eq : ∀ (x y : V), V.eqb x y = true -> x = y
 | .t x, y, h => by
  cases y <;> simp only [V.eqb, Bool.false_eq_true] at h
  rw [T.eqb_eq x _ h]
 | .ref a b c d, y, h => by
  cases y <;> simp only [V.eqb, Bool.false_eq_true, Bool.and_eq_true, decide_eq_true_eq] at h
  rw [h.1.1.1, h.1.1.2, h.1.2, h.2]
 | .msl a b c e d, y, h => by
  cases y <;> simp only [V.eqb, Bool.false_eq_true, Bool.and_eq_true, decide_eq_true_eq] at h
  rw [h.1.1.1.1, h.1.1.1.2, h.1.1.2, h.1.2, h.2]
 | .mmp a, y, h => by cases y <;> simp [V.eqb] at h; rw [h]
 | .it a none, y, h => by
  cases y <;> try (simp [V.eqb] at h; done)
  rename_i b c
  cases c with
  | none => simp [V.eqb] at h; rw [h]
  | some p => simp [V.eqb] at h
 | .it a (some p), y, h => by cases y <;> simp [V.eqb] at h
 | .yld a, y, h => by cases y <;> simp [V.eqb] at h; rw [h]
 | .agg a, y, h => by
  cases y <;> simp only [V.eqb, Bool.false_eq_true] at h
  rw [V.eqbL_eq a _ h]
 | .tup a, y, h => by
  cases y <;> simp only [V.eqb, Bool.false_eq_true] at h
  rw [V.eqbL_eq a _ h]
 | .fn f a b, y, h => by cases y <;> simp [V.eqb] at h
 | .iface ty x, y, h => by
  cases y <;> simp only [V.eqb, Bool.false_eq_true, Bool.and_eq_true, decide_eq_true_eq] at h
  rw [h.1, V.eqb_eq x _ h.2]
 | .junk, y, h => by cases y <;> simp [V.eqb] at h; rfl
theorem V.eqbL_eq : ∀ (x y : List V), V.eqbL x y = true -> x = y
 | [], y, h => by cases y <;> simp [V.eqbL] at h; rfl
 | x :: r, y, h => by
  cases y <;> simp only [V.eqbL, Bool.false_eq_true, Bool.and_eq_true] at h
  rw [V.eqb_eq x _ h.1, V.eqbL_eq r _ h.2]
end
theorem optEq_eq {α : Type} {e : α -> α -> Bool} (he : ∀ a b, e a b = true -> a = b) : ∀ (x y : Option α), optEq e x y = true -> x = y
 | none, none, _ => rfl
 | some a, some b, h => by rw [he a b h]
 | none, some _, h => by cases h
 | some _, none, h => by cases h
theorem Tm.eqb_eq {α : Type} {e : α -> α -> Bool} (he : ∀ a b, e a b = true -> a = b) : ∀ (x y : Tm α), Tm.eqb e x y = true -> x = y
 | .nil, .nil, _ => rfl
 | .node v l r, .node v' l' r', h => by
  simp only [Tm.eqb, Bool.and_eq_true] at h
  rw [optEq_eq he _ _ h.1.1, Tm.eqb_eq he _ _ h.1.2, Tm.eqb_eq he _ _ h.2]
 | .nil, .node _ _ _, h => by cases h
 | .node _ _ _, .nil, h => by cases h
theorem Obj.eqb_eq (x y : Obj) (h : Obj.eqb x y = true) : x = y := by
 cases x <;> cases y <;> simp only [Obj.eqb, Bool.false_eq_true, Bool.and_eq_true, decide_eq_true_eq] at h
 . rw [h.1.1.1, h.1.1.2, h.1.2, V.eqbL_eq _ _ h.2]
 . rw [T.eqbL_eq _ _ h.1, V.eqbL_eq _ _ h.2]
 . rw [T.eqbL_eq _ _ h.1, T.eqbL_eq _ _ h.2]
 . rw [h.1, h.2]
 . rw [h]
theorem St.eqb_eq (a b : St) (h : St.eqb a b = true) : a = b := by
 obtain ⟨ts, ⟨n, tr⟩, m⟩ := a
 obtain ⟨ts', ⟨n', tr'⟩, m'⟩ := b
 simp only [St.eqb, Bool.and_eq_true, decide_eq_true_eq] at h
 obtain ⟨⟨⟨h1, h2⟩, h3⟩, h4⟩ := h
 rw [Tm.eqb_eq V.eqb_eq _ _ h1, h2, Tm.eqb_eq Obj.eqb_eq _ _ h3, h4]
end Go.Apex
