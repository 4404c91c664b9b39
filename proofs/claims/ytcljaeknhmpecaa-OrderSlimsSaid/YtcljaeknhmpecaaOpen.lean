import Derived.Test.YtcljaeknhmpecaaSpec
import Derived.Deep.Slices
import Derived.Deep.Strs
import Derived.Test.YtcljaeknhmpecaaCfgOK
import Derived.Test.YtcljaeknhmpecaaRows
import Derived.WalkKit
import Derived.ProofKit
import Derived.OpenShut
import Derived.ShutString
import Derived.ChangeOld
import Derived.Below
set_option linter.all false
open Go Go.Apex Go.ChangeShapes Go.WideShapes Go.Deep
namespace Go.Apex
section
variable {H : Type} {enc : TypeId × Value -> H} {P : Program} {w : World} {base : Nat} {spare : Nat -> Bool} {held : Bool}
theorem cell_blk {w : World} {b o : Nat} {v : Value} (h : w.cell? ⟨b, o, none⟩ = some v) : b < w.heap.size := by
 rcases Nat.lt_or_ge b w.heap.size with h1 | h1
 . exact h1
 . simp only [World.cell?] at h
   rw [Array.getElem?_eq_none h1] at h
   cases h
theorem open_sl {t e : TypeId} {fuel : Nat} {v : Value} {x : DataW H × List MemPlace} (ht : P.underlying t = some (.slice e)) (hc : P.cellsOf e = 1) (h : DataW.trod enc P w base spare held fuel t [v] = some x) {Q : T -> Prop}
  (hel : ∀ (n : Nat) (u : Value) (d : DataW H × List MemPlace), DataW.trod enc P w base spare held n e [u] = some d -> ∃ y : T, y.one = true /\ RepT w (fun b => b < w.heap.size) y u /\ Q y) :
  ∃ (ys : List T) (y : T), IsSl ys y /\ RepT w (fun b => b < w.heap.size) y v /\ ∀ z ∈ ys, Q z := by
 rcases open_slice1 ht hc h with ⟨h0, _⟩ | ⟨a, len, cap, m, n, V, D, Pl, h0, _, hl, _, hm, _, hx⟩
 . obtain rfl : v = .slice none 0 0 := by simpa using h0
   exact ⟨[], .nils, .nil rfl, .nils, fun z hz => by cases hz⟩
 . obtain rfl : v = .slice (some a) len cap := by simpa using h0
   have hlm : len <= m := by rw [hm]; split <;> omega
   have hch : ∀ i : Nat, ∃ y : T, i < len -> y.one = true /\ RepT w (fun b => b < w.heap.size) y (V i) /\ Q y := fun i => by
    by_cases hi : i < len
    . obtain ⟨y, hy⟩ := hel n (V i) _ (hx i (by omega)).2
      exact ⟨y, fun _ => hy⟩
    . exact ⟨.nils, fun h => absurd h hi⟩
   let Y : Nat -> T := fun i => Classical.choose (hch i)
   have hY : ∀ i, i < len -> (Y i).one = true /\ RepT w (fun b => b < w.heap.size) (Y i) (V i) /\ Q (Y i) := fun i hi => Classical.choose_spec (hch i) hi
   let ys : List T := (List.range len).map Y
   have hlen : ys.length = len := by simp [ys]
   have hget : ∀ (i : Nat) (z : T), ys[i]? = some z -> i < len /\ z = Y i := fun i z hz => by
    have hi : i < len := by rw [<- hlen]; exact (gS.1 hz).1
    refine ⟨hi, ?_⟩
    simp only [ys, List.getElem?_map, List.getElem?_range hi, Option.map_some, oI] at hz
    exact hz.symm
   obtain ⟨b, o, sp⟩ := a
   have hsp : sp = none \/ ys = [] := by
    rcases Nat.eq_zero_or_pos len with h1 | h1
    . exact .inr (List.eq_nil_of_length_eq_zero (by rw [hlen]; exact h1))
    . have := (hx 0 (by omega)).1
      exact .inl (World.cell?_spot (by simpa [Addr.add] using this))
   have hcell : ∀ i, i < len -> w.cell? ⟨b, o + i, none⟩ = some (V i) := fun i hi => by
    have h1 := (hx i (by omega)).1
    have h2 : sp = none := hsp.resolve_right (fun e => by rw [e] at hlen; simp at hlen; omega)
    subst h2
    rwa [addr_add] at h1
   refine ⟨ys, .sl false 1 ys, .sl _, ?_, fun z hz => ?_⟩
   . rw [<- hlen]
     refine .sl false 1 ys b o cap (fun i _ => V i) (by omega) (fun h => by cases h) (fun i z hz => ?_) (fun i z j c hz hj => ?_) (fun i z j c hz hj => ?_) sp hsp
     . obtain ⟨hi, rfl⟩ := hget i z hz
       rw [one_cells (hY i hi).1]
       rfl
     . obtain ⟨hi, rfl⟩ := hget i z hz
       rw [one_cells (hY i hi).1] at hj
       cases j with
       | zero =>
        rw [Nat.mul_one, Nat.add_zero]
        exact ⟨cell_blk (hcell i hi), hcell i hi⟩
       | succ j => simp at hj
     . obtain ⟨hi, rfl⟩ := hget i z hz
       rw [one_cells (hY i hi).1] at hj
       cases j with
       | zero =>
        have : Y i = c := by simpa using hj
        rw [<- this]
        exact (hY i hi).2.1
       | succ j => simp at hj
   . obtain ⟨i, hi, he⟩ := List.getElem_of_mem hz
     obtain ⟨hi2, rfl⟩ := hget i z (by rw [gE hi, he])
     exact (hY i hi2).2.2
theorem list_of {α : Type} {g : α -> T} : ∀ {ys : List T}, (∀ z ∈ ys, ∃ a, z = g a) -> ∃ l : List α, ys = l.map g
 | [], _ => ⟨[], rfl⟩
 | y :: ys, h => by
  obtain ⟨a, rfl⟩ := h y (by simp)
  obtain ⟨l, rfl⟩ := list_of (ys := ys) fun z hz => h z (by simp [hz])
  exact ⟨a :: l, rfl⟩
theorem open_strsT {t e : TypeId} {fuel : Nat} {v : Value} {x : DataW H × List MemPlace} (ht : P.underlying t = some (.slice e)) (he : P.underlying e = some .string) (hc : P.cellsOf e = 1) (h : DataW.trod enc P w base spare held fuel t [v] = some x) :
  ∃ (l : List (List UInt8)) (y : T), IsSl (l.map .str) y /\ RepT w (fun b => b < w.heap.size) y v := by
 obtain ⟨ys, y, h1, h2, h3⟩ := open_sl ht hc h (Q := fun z => ∃ s : List UInt8, z = .str s) fun n u d hd => by
  obtain ⟨s, h1, _, _⟩ := DataW.trod_string he hd
  obtain rfl : u = .string s := by simpa using h1
  exact ⟨.str s.data.toList, rfl, .str _ _ rfl, _, rfl⟩
 obtain ⟨l, rfl⟩ := list_of h3
 exact ⟨l, y, h1, h2⟩
theorem open_intsT {t e : TypeId} {fuel : Nat} {v : Value} {x : DataW H × List MemPlace} (ht : P.underlying t = some (.slice e)) (he : P.underlying e = some (.int .i64)) (hc : P.cellsOf e = 1) (h : DataW.trod enc P w base spare held fuel t [v] = some x) :
  ∃ (l : List Int) (y : T), IsSl (l.map (.int .i64)) y /\ RepT w (fun b => b < w.heap.size) y v := by
 obtain ⟨ys, y, h1, h2, h3⟩ := open_sl ht hc h (Q := fun z => ∃ k : Int, z = .int .i64 k) fun n u d hd => by
  obtain ⟨k, h1, _, _⟩ := DataW.trod_int he hd
  obtain rfl : u = .int .i64 k := by simpa using h1
  exact ⟨.int .i64 k, rfl, .int _ _, _, rfl⟩
 obtain ⟨l, rfl⟩ := list_of h3
 exact ⟨l, y, h1, h2⟩
theorem open_boolsT {t e : TypeId} {fuel : Nat} {v : Value} {x : DataW H × List MemPlace} (ht : P.underlying t = some (.slice e)) (he : P.underlying e = some .bool) (hc : P.cellsOf e = 1) (h : DataW.trod enc P w base spare held fuel t [v] = some x) :
  ∃ (l : List Bool) (y : T), IsSl (l.map .bool) y /\ RepT w (fun b => b < w.heap.size) y v := by
 obtain ⟨ys, y, h1, h2, h3⟩ := open_sl ht hc h (Q := fun z => ∃ k : Bool, z = .bool k) fun n u d hd => by
  obtain ⟨k, h1, _⟩ := DataW.trod_bool he hd
  obtain rfl : u = .bool k := by simpa using h1
  exact ⟨.bool k, rfl, .bool _, _, rfl⟩
 obtain ⟨l, rfl⟩ := list_of h3
 exact ⟨l, y, h1, h2⟩
theorem open_rowsT {t u e : TypeId} {fuel : Nat} {v : Value} {x : DataW H × List MemPlace} (ht : P.underlying t = some (.slice u)) (hu : P.underlying u = some (.slice e)) (he : P.underlying e = some (.int .i64)) (hcu : P.cellsOf u = 1) (hc : P.cellsOf e = 1)
  (h : DataW.trod enc P w base spare held fuel t [v] = some x) :
  ∃ (rows : List T) (y : T), IsSl rows y /\ RepT w (fun b => b < w.heap.size) y v /\ ∀ z ∈ rows, ∃ l : List Int, IsSl (l.map (.int .i64)) z :=
 open_sl ht hcu h fun n c d hd => by
  obtain ⟨l, y, h1, h2⟩ := open_intsT hu he hc hd
  exact ⟨y, h1.one, h2, l, h1⟩
end
end Go.Apex

open Go Go.Apex Go.ChangeShapes Go.WideShapes Go.ChangeAt Go.RowKit
namespace Go.Proofs.Try
set_option maxRecDepth 100000 in
theorem open_table {H : Type} {enc : TypeId × Value -> H} {W : World} {base : Nat} {spare : Nat -> Bool} {held : Bool} {fuel : Nat} {cs : Array Value} {x : DataW H × List MemPlace} (hsz : cs.size = 4) (h : DataW.trod enc Try.prog W base spare held fuel 26 cs.toList = some x) :
  ∃ (t : Tbl) (n : List UInt8) (e a w : T), IsTbl t n e a w /\ RepT W (fun b => b < W.heap.size) (tblT n e a w) (.agg cs) := by
 obtain ⟨xs, m, _, _, _, hlen, hf⟩ := DataW.trod_struct Try.underlying26 h
 obtain ⟨v0, v1, v2, v3, rfl⟩ : ∃ v0 v1 v2 v3, cs = #[v0, v1, v2, v3] := by
  obtain ⟨l⟩ := cs
  match l, hsz with
  | [a, b, c, d], _ => exact ⟨a, b, c, d, rfl⟩
 match xs, hlen with
 | [y0, y1, y2, y3], _ =>
  have c9 : Try.prog.cellsOf 9 = 1 := by kernel_rfl
  have c22 : Try.prog.cellsOf 22 = 1 := by kernel_rfl
  have c23 : Try.prog.cellsOf 23 = 1 := by kernel_rfl
  have c24 : Try.prog.cellsOf 24 = 1 := by kernel_rfl
  have c38 : Try.prog.cellsOf 38 = 1 := by kernel_rfl
  have c3 : Try.prog.cellsOf 3 = 1 := by kernel_rfl
  have c4 : Try.prog.cellsOf 4 = 1 := by kernel_rfl
  have h0 := hf 0 _ rfl
  have h1 := hf 1 _ rfl
  have h2 := hf 2 _ rfl
  have h3 := hf 3 _ rfl
  simp only [c9, c22, c23, c24] at h0 h1 h2 h3
  have h0 : DataW.trod enc Try.prog W base spare held m 9 [v0] = some y0 := h0
  have h1 : DataW.trod enc Try.prog W base spare held m 22 [v1] = some y1 := h1
  have h2 : DataW.trod enc Try.prog W base spare held m 23 [v2] = some y2 := h2
  have h3 : DataW.trod enc Try.prog W base spare held m 24 [v3] = some y3 := h3
  obtain ⟨s, e0, _, _⟩ := DataW.trod_string Try.underlying9 h0
  obtain rfl : v0 = .string s := by simpa using e0
  obtain ⟨l1, e1, i1, r1⟩ := open_strsT Try.underlying22 Try.underlying9 c9 h1
  obtain ⟨rows, a1, i2, r2, hr⟩ := open_rowsT Try.underlying23 Try.underlying38 Try.underlying3 c38 c3 h2
  obtain ⟨l3, w1, i3, r3⟩ := open_boolsT Try.underlying24 Try.underlying4 c4 h3
  have hch : ∀ i : Nat, ∃ l : List Int, i < rows.length -> IsSl (ints l) (rows.getD i .nils) := fun i => by
   by_cases hi : i < rows.length
   . obtain ⟨l, hl⟩ := hr _ (getD_mem .nils hi)
     exact ⟨l, fun _ => hl⟩
   . exact ⟨[], fun h => absurd h hi⟩
  let L : Nat -> List Int := fun i => Classical.choose (hch i)
  have hL : ∀ i, i < rows.length -> IsSl (ints (L i)) (rows.getD i .nils) := fun i hi => Classical.choose_spec (hch i) hi
  refine ⟨⟨s.data.toList, l1, (List.range rows.length).map L, l3⟩, s.data.toList, e1, a1, w1, ⟨rfl, i1, ⟨rows, i2, by simp, fun i hi => ?_⟩, i3⟩, ?_⟩
  . have hi2 : i < rows.length := by simpa using hi
    have e : ((List.range rows.length).map L).getD i [] = L i := by
     rw [gD, List.getElem?_map, List.getElem?_range hi2]
     rfl
    show IsSl (ints (((List.range rows.length).map L).getD i [])) _
    rw [e]
    exact hL i hi2
  . refine .agg _ _ rfl fun i x v hx hv => ?_
    match i with
    | 0 => simp at hx hv; subst hx hv; exact .str _ _ rfl
    | 1 => simp at hx hv; subst hx hv; exact r1
    | 2 => simp at hx hv; subst hx hv; exact r2
    | 3 => simp at hx hv; subst hx hv; exact r3
    | i + 4 => simp at hx
theorem own : ownKnob Try.prog.godebug = none := by kernel_rfl
theorem laidOut : laidOutB Try.prog = true := by kernel_rfl
end Go.Proofs.Try
namespace Go.Proofs.Try
end Go.Proofs.Try
