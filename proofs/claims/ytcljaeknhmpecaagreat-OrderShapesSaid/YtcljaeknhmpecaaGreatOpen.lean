import Derived.Test.YtcljaeknhmpecaaGreatSpec
import Derived.Deep.Slices
import Derived.Deep.Strs
import Derived.Test.YtcljaeknhmpecaaGreatRows
import Derived.WalkKit
import Derived.ProofKit
import Derived.OpenShut
import Derived.ShutString
import Derived.ChangeOld
import Derived.Below
set_option linter.all false
open Go Go.Apex Go.ChangeShapes Go.WideShapes Go.Deep
namespace Go.Apex
section
variable {H : Type} {enc : TypeId × Value -> H} {P : Program} {w : World} {base : Nat} {spare : Nat -> Bool} {held : Bool}
theorem cell_blk {w : World} {b o : Nat} {v : Value} (h : w.cell? ⟨b, o, none⟩ = some v) : b < w.heap.size := by
 rcases Nat.lt_or_ge b w.heap.size with h1 | h1
 . exact h1
 . simp only [World.cell?] at h
   rw [Array.getElem?_eq_none h1] at h
   cases h
theorem open_sl {t e : TypeId} {fuel : Nat} {v : Value} {x : DataW H × List MemPlace} (ht : P.underlying t = some (.slice e)) (hc : P.cellsOf e = 1) (h : DataW.trod enc P w base spare held fuel t [v] = some x) {Q : T -> Prop}
  (hel : ∀ (n : Nat) (u : Value) (d : DataW H × List MemPlace), DataW.trod enc P w base spare held n e [u] = some d -> ∃ y : T, y.one = true /\ RepT w (fun b => b < w.heap.size) y u /\ Q y) :
  ∃ (ys : List T) (y : T), IsSl ys y /\ RepT w (fun b => b < w.heap.size) y v /\ ∀ z ∈ ys, Q z := by
 rcases open_slice1 ht hc h with ⟨h0, _⟩ | ⟨a, len, cap, m, n, V, D, Pl, h0, _, hl, _, hm, _, hx⟩
 . obtain rfl : v = .slice none 0 0 := by simpa using h0
   exact ⟨[], .nils, .nil rfl, .nils, fun z hz => by cases hz⟩
 . obtain rfl : v = .slice (some a) len cap := by simpa using h0
   have hlm : len <= m := by rw [hm]; split <;> omega
   have hch : ∀ i : Nat, ∃ y : T, i < len -> y.one = true /\ RepT w (fun b => b < w.heap.size) y (V i) /\ Q y := fun i => by
    by_cases hi : i < len
    . obtain ⟨y, hy⟩ := hel n (V i) _ (hx i (by omega)).2
      exact ⟨y, fun _ => hy⟩
    . exact ⟨.nils, fun h => absurd h hi⟩
   let Y : Nat -> T := fun i => Classical.choose (hch i)
   have hY : ∀ i, i < len -> (Y i).one = true /\ RepT w (fun b => b < w.heap.size) (Y i) (V i) /\ Q (Y i) := fun i hi => Classical.choose_spec (hch i) hi
   let ys : List T := (List.range len).map Y
   have hlen : ys.length = len := by simp [ys]
   have hget : ∀ (i : Nat) (z : T), ys[i]? = some z -> i < len /\ z = Y i := fun i z hz => by
    have hi : i < len := by rw [<- hlen]; exact (gS.1 hz).1
    refine ⟨hi, ?_⟩
    simp only [ys, List.getElem?_map, List.getElem?_range hi, Option.map_some, oI] at hz
    exact hz.symm
   obtain ⟨b, o, sp⟩ := a
   have hsp : sp = none \/ ys = [] := by
    rcases Nat.eq_zero_or_pos len with h1 | h1
    . exact .inr (List.eq_nil_of_length_eq_zero (by rw [hlen]; exact h1))
    . have := (hx 0 (by omega)).1
      exact .inl (World.cell?_spot (by simpa [Addr.add] using this))
   have hcell : ∀ i, i < len -> w.cell? ⟨b, o + i, none⟩ = some (V i) := fun i hi => by
    have h1 := (hx i (by omega)).1
    have h2 : sp = none := hsp.resolve_right (fun e => by rw [e] at hlen; simp at hlen; omega)
    subst h2
    rwa [addr_add] at h1
   refine ⟨ys, .sl false 1 ys, .sl _, ?_, fun z hz => ?_⟩
   . rw [<- hlen]
     refine .sl false 1 ys b o cap (fun i _ => V i) (by omega) (fun h => by cases h) (fun i z hz => ?_) (fun i z j c hz hj => ?_) (fun i z j c hz hj => ?_) sp hsp
     . obtain ⟨hi, rfl⟩ := hget i z hz
       rw [one_cells (hY i hi).1]
       rfl
     . obtain ⟨hi, rfl⟩ := hget i z hz
       rw [one_cells (hY i hi).1] at hj
       cases j with
       | zero =>
        rw [Nat.mul_one, Nat.add_zero]
        exact ⟨cell_blk (hcell i hi), hcell i hi⟩
       | succ j => simp at hj
     . obtain ⟨hi, rfl⟩ := hget i z hz
       rw [one_cells (hY i hi).1] at hj
       cases j with
       | zero =>
        have : Y i = c := by simpa using hj
        rw [<- this]
        exact (hY i hi).2.1
       | succ j => simp at hj
   . obtain ⟨i, hi, he⟩ := List.getElem_of_mem hz
     obtain ⟨hi2, rfl⟩ := hget i z (by rw [gE hi, he])
     exact (hY i hi2).2.2
theorem list_of {α : Type} {g : α -> T} : ∀ {ys : List T}, (∀ z ∈ ys, ∃ a, z = g a) -> ∃ l : List α, ys = l.map g
 | [], _ => ⟨[], rfl⟩
 | y :: ys, h => by
  obtain ⟨a, rfl⟩ := h y (by simp)
  obtain ⟨l, rfl⟩ := list_of (ys := ys) fun z hz => h z (by simp [hz])
  exact ⟨a :: l, rfl⟩
theorem open_strsT {t e : TypeId} {fuel : Nat} {v : Value} {x : DataW H × List MemPlace} (ht : P.underlying t = some (.slice e)) (he : P.underlying e = some .string) (hc : P.cellsOf e = 1) (h : DataW.trod enc P w base spare held fuel t [v] = some x) :
  ∃ (l : List (List UInt8)) (y : T), IsSl (l.map .str) y /\ RepT w (fun b => b < w.heap.size) y v := by
 obtain ⟨ys, y, h1, h2, h3⟩ := open_sl ht hc h (Q := fun z => ∃ s : List UInt8, z = .str s) fun n u d hd => by
  obtain ⟨s, h1, _, _⟩ := DataW.trod_string he hd
  obtain rfl : u = .string s := by simpa using h1
  exact ⟨.str s.data.toList, rfl, .str _ _ rfl, _, rfl⟩
 obtain ⟨l, rfl⟩ := list_of h3
 exact ⟨l, y, h1, h2⟩
theorem open_intsT {t e : TypeId} {fuel : Nat} {v : Value} {x : DataW H × List MemPlace} (ht : P.underlying t = some (.slice e)) (he : P.underlying e = some (.int .i64)) (hc : P.cellsOf e = 1) (h : DataW.trod enc P w base spare held fuel t [v] = some x) :
  ∃ (l : List Int) (y : T), IsSl (l.map (.int .i64)) y /\ RepT w (fun b => b < w.heap.size) y v := by
 obtain ⟨ys, y, h1, h2, h3⟩ := open_sl ht hc h (Q := fun z => ∃ k : Int, z = .int .i64 k) fun n u d hd => by
  obtain ⟨k, h1, _, _⟩ := DataW.trod_int he hd
  obtain rfl : u = .int .i64 k := by simpa using h1
  exact ⟨.int .i64 k, rfl, .int _ _, _, rfl⟩
 obtain ⟨l, rfl⟩ := list_of h3
 exact ⟨l, y, h1, h2⟩
theorem open_boolsT {t e : TypeId} {fuel : Nat} {v : Value} {x : DataW H × List MemPlace} (ht : P.underlying t = some (.slice e)) (he : P.underlying e = some .bool) (hc : P.cellsOf e = 1) (h : DataW.trod enc P w base spare held fuel t [v] = some x) :
  ∃ (l : List Bool) (y : T), IsSl (l.map .bool) y /\ RepT w (fun b => b < w.heap.size) y v := by
 obtain ⟨ys, y, h1, h2, h3⟩ := open_sl ht hc h (Q := fun z => ∃ k : Bool, z = .bool k) fun n u d hd => by
  obtain ⟨k, h1, _⟩ := DataW.trod_bool he hd
  obtain rfl : u = .bool k := by simpa using h1
  exact ⟨.bool k, rfl, .bool _, _, rfl⟩
 obtain ⟨l, rfl⟩ := list_of h3
 exact ⟨l, y, h1, h2⟩
theorem open_rowsT {t u e : TypeId} {fuel : Nat} {v : Value} {x : DataW H × List MemPlace} (ht : P.underlying t = some (.slice u)) (hu : P.underlying u = some (.slice e)) (he : P.underlying e = some (.int .i64)) (hcu : P.cellsOf u = 1) (hc : P.cellsOf e = 1)
  (h : DataW.trod enc P w base spare held fuel t [v] = some x) :
  ∃ (rows : List T) (y : T), IsSl rows y /\ RepT w (fun b => b < w.heap.size) y v /\ ∀ z ∈ rows, ∃ l : List Int, IsSl (l.map (.int .i64)) z :=
 open_sl ht hcu h fun n c d hd => by
  obtain ⟨l, y, h1, h2⟩ := open_intsT hu he hc hd
  exact ⟨y, h1.one, h2, l, h1⟩
end
end Go.Apex

open Go Go.Apex Go.ChangeShapes Go.WideShapes Go.Deep
namespace Go.Apex
section
variable {H : Type} {enc : TypeId × Value -> H} {P : Program} {w : World} {base : Nat} {spare : Nat -> Bool} {held : Bool}
theorem cells_blk {a : Addr} {k : Nat} {cs : List Value} (h : w.cells? base a k = some cs) (hk : 0 < k) : a.spot = none /\ cs.length = k /\ ∀ j (v : Value), cs[j]? = some v -> a.block < w.heap.size /\ w.cell? ⟨a.block, a.off + j, none⟩ = some v := by
 obtain ⟨_, hl, hc⟩ := World.cells?_some h
 have hs : a.spot = none := by
  have h0 := hc 0 hk
  have : cs[0]? = some (cs[0]'(by omega)) := gE _
  rw [this] at h0
  exact World.cell?_spot (by simpa [Addr.add] using h0)
 obtain ⟨b, o, sp⟩ := a
 obtain rfl : sp = none := hs
 refine ⟨rfl, hl, fun j v hv => ?_⟩
 have hj : j < k := by rw [<- hl]; exact (gS.1 hv).1
 have h1 := hc j hj
 rw [addr_add, hv] at h1
 exact ⟨cell_blk h1, h1⟩
theorem open_slN {t e : TypeId} {k fuel : Nat} {v : Value} {x : DataW H × List MemPlace} (hk : 0 < k) (ht : P.underlying t = some (.slice e)) (hc : P.cellsOf e = k) (h : DataW.trod enc P w base spare held fuel t [v] = some x) {Q : T -> Prop}
  (hel : ∀ (n : Nat) (cs : List Value) (d : DataW H × List MemPlace), fuel = n + 1 -> cs.length = k -> DataW.trod enc P w base spare held n e cs = some d -> ∃ ys : List T, ys.length = k /\ (∀ (j : Nat) (y : T) (u : Value), ys[j]? = some y -> cs[j]? = some u -> RepT w (fun b => b < w.heap.size) y u) /\ Q (.agg ys)) :
  (v = .slice none 0 0) \/ ∃ (zs : List T), RepT w (fun b => b < w.heap.size) (.sl false k zs) v /\ ∀ z ∈ zs, Q z := by
 rcases DataW.trod_slice ht h with ⟨h0, _⟩ | ⟨a, len, cap, elems, rest, n, hfu, h0, _, _, hl, _, hlen, hx, _⟩
 . exact .inl (by simpa using h0)
 . right
   obtain rfl : v = .slice (some a) len cap := by simpa using h0
   have hch : ∀ i : Nat, ∃ p : List Value × List T, i < len -> (w.cells? base (a.add (i * k)) k = some p.1 /\ p.2.length = k /\ (∀ (j : Nat) (y : T) (u : Value), p.2[j]? = some y -> p.1[j]? = some u -> RepT w (fun b => b < w.heap.size) y u) /\ Q (.agg p.2)) := fun i => by
    by_cases hi : i < len
    . have h1 := hx i hi
      rw [hc, gE (by omega)] at h1
      obtain ⟨cs, h2, h3⟩ := oB.1 h1
      obtain ⟨ys, hy⟩ := hel n cs _ hfu (World.cells?_some h2).2.1 h3
      exact ⟨⟨cs, ys⟩, fun _ => ⟨h2, hy⟩⟩
    . exact ⟨⟨[], []⟩, fun h => absurd h hi⟩
   let P' : Nat -> List Value × List T := fun i => Classical.choose (hch i)
   have hY : ∀ i, i < len -> (w.cells? base (a.add (i * k)) k = some (P' i).1 /\ (P' i).2.length = k /\ (∀ (j : Nat) (y : T) (u : Value), (P' i).2[j]? = some y -> (P' i).1[j]? = some u -> RepT w (fun b => b < w.heap.size) y u) /\ Q (.agg (P' i).2)) := fun i hi => Classical.choose_spec (hch i) hi
   let zs : List T := (List.range len).map fun i => .agg (P' i).2
   have hzl : zs.length = len := by simp [zs]
   have hget : ∀ (i : Nat) (z : T), zs[i]? = some z -> i < len /\ z = .agg (P' i).2 := fun i z hz => by
    have hi : i < len := by rw [<- hzl]; exact (gS.1 hz).1
    refine ⟨hi, ?_⟩
    simp only [zs, List.getElem?_map, List.getElem?_range hi, Option.map_some, oI] at hz
    exact hz.symm
   obtain ⟨b, o, sp⟩ := a
   have hsp : sp = none \/ zs = [] := by
    rcases Nat.eq_zero_or_pos len with h1 | h1
    . exact .inr (List.eq_nil_of_length_eq_zero (by rw [hzl]; exact h1))
    . have := (cells_blk (hY 0 h1).1 hk).1
      exact .inl (by simpa [Addr.add] using this)
   have hcell : ∀ i, i < len -> ∀ j (u : Value), (P' i).1[j]? = some u -> b < w.heap.size /\ w.cell? ⟨b, o + i * k + j, none⟩ = some u := fun i hi j u hu => by
    have h2 : sp = none := hsp.resolve_right (fun e => by rw [e] at hzl; simp at hzl; omega)
    subst h2
    have h1 := (cells_blk (hY i hi).1 hk).2.2 j u hu
    rwa [addr_add] at h1
   refine ⟨zs, ?_, fun z hz => ?_⟩
   . have hlen2 := hzl
     have hg : ∀ i, i < len -> ∀ (j : Nat) (c : T), (P' i).2[j]? = some c -> (P' i).1[j]? = some ((P' i).1.getD j (.bool false)) := fun i hi j c hj => by
      have hl1 := (World.cells?_some (hY i hi).1).2.1
      have hl2 := (hY i hi).2.1
      have : j < (P' i).2.length := (gS.1 hj).1
      rw [gD, gE (by omega)]
      rfl
     have key := RepT.sl (w := w) (S := fun b => b < w.heap.size) false k zs b o cap (fun i j => (P' i).1.getD j (.bool false)) (by omega) (fun h => by cases h) (fun i z hz => by
       obtain ⟨hi, rfl⟩ := hget i z hz
       exact (hY i hi).2.1) (fun i z j c hz hj => by
       obtain ⟨hi, rfl⟩ := hget i z hz
       exact hcell i hi j _ (hg i hi j c hj)) (fun i z j c hz hj => by
       obtain ⟨hi, rfl⟩ := hget i z hz
       exact (hY i hi).2.2.1 j c _ hj (hg i hi j c hj)) sp hsp
     rwa [hzl] at key
   . obtain ⟨i, hi, he⟩ := List.getElem_of_mem hz
     obtain ⟨hi2, rfl⟩ := hget i z (by rw [gE hi, he])
     exact (hY i hi2).2.2.2
end
end Go.Apex

open Go Go.Apex Go.ChangeShapes Go.WideShapes Go.ChangeAt Go.RowKit
namespace Go.Proofs.Tryz
set_option maxRecDepth 100000 in
theorem open_table {H : Type} {enc : TypeId × Value -> H} {W : World} {base : Nat} {spare : Nat -> Bool} {held : Bool} {fuel : Nat} {cs : List Value} {x : DataW H × List MemPlace} (hsz : cs.length = 4) (h : DataW.trod enc Tryz.prog W base spare held fuel 33 cs = some x) :
  ∃ (t : Tbl) (n : List UInt8) (e a w : T), IsTbl t n e a w /\ ∀ (j : Nat) (y : T) (u : Value), [T.str n, e, a, w][j]? = some y -> cs[j]? = some u -> RepT W (fun b => b < W.heap.size) y u := by
 obtain ⟨xs, m, _, _, _, hlen, hf⟩ := DataW.trod_struct Tryz.underlying33 h
 obtain ⟨v0, v1, v2, v3, rfl⟩ : ∃ v0 v1 v2 v3, cs = [v0, v1, v2, v3] := by
  match cs, hsz with
  | [a, b, c, d], _ => exact ⟨a, b, c, d, rfl⟩
 match xs, hlen with
 | [y0, y1, y2, y3], _ =>
  have c9 : Tryz.prog.cellsOf 9 = 1 := by kernel_rfl
  have c29 : Tryz.prog.cellsOf 29 = 1 := by kernel_rfl
  have c30 : Tryz.prog.cellsOf 30 = 1 := by kernel_rfl
  have c31 : Tryz.prog.cellsOf 31 = 1 := by kernel_rfl
  have c52 : Tryz.prog.cellsOf 52 = 1 := by kernel_rfl
  have c3 : Tryz.prog.cellsOf 3 = 1 := by kernel_rfl
  have c4 : Tryz.prog.cellsOf 4 = 1 := by kernel_rfl
  have h0 : DataW.trod enc Tryz.prog W base spare held m 9 (([v0, v1, v2, v3].drop 0).take (Tryz.prog.cellsOf 9)) = some y0 := hf 0 _ rfl
  have h1 : DataW.trod enc Tryz.prog W base spare held m 29 (([v0, v1, v2, v3].drop 1).take (Tryz.prog.cellsOf 29)) = some y1 := hf 1 _ rfl
  have h2 : DataW.trod enc Tryz.prog W base spare held m 30 (([v0, v1, v2, v3].drop 2).take (Tryz.prog.cellsOf 30)) = some y2 := hf 2 _ rfl
  have h3 : DataW.trod enc Tryz.prog W base spare held m 31 (([v0, v1, v2, v3].drop 3).take (Tryz.prog.cellsOf 31)) = some y3 := hf 3 _ rfl
  rw [c9] at h0; rw [c29] at h1; rw [c30] at h2; rw [c31] at h3
  have h0 : DataW.trod enc Tryz.prog W base spare held m 9 [v0] = some y0 := h0
  have h1 : DataW.trod enc Tryz.prog W base spare held m 29 [v1] = some y1 := h1
  have h2 : DataW.trod enc Tryz.prog W base spare held m 30 [v2] = some y2 := h2
  have h3 : DataW.trod enc Tryz.prog W base spare held m 31 [v3] = some y3 := h3
  obtain ⟨s, e0, _, _⟩ := DataW.trod_string Tryz.underlying9 h0
  obtain rfl : v0 = .string s := by simpa using e0
  obtain ⟨l1, e1, i1, r1⟩ := open_strsT Tryz.underlying29 Tryz.underlying9 c9 h1
  obtain ⟨rows, a1, i2, r2, hr⟩ := open_rowsT Tryz.underlying30 Tryz.underlying52 Tryz.underlying3 c52 c3 h2
  obtain ⟨l3, w1, i3, r3⟩ := open_boolsT Tryz.underlying31 Tryz.underlying4 c4 h3
  have hch : ∀ i : Nat, ∃ l : List Int, i < rows.length -> IsSl (ints l) (rows.getD i .nils) := fun i => by
   by_cases hi : i < rows.length
   . obtain ⟨l, hl⟩ := hr _ (getD_mem .nils hi)
     exact ⟨l, fun _ => hl⟩
   . exact ⟨[], fun h => absurd h hi⟩
  let L : Nat -> List Int := fun i => Classical.choose (hch i)
  have hL : ∀ i, i < rows.length -> IsSl (ints (L i)) (rows.getD i .nils) := fun i hi => Classical.choose_spec (hch i) hi
  refine ⟨⟨s.data.toList, l1, (List.range rows.length).map L, l3⟩, s.data.toList, e1, a1, w1, ⟨rfl, i1, ⟨rows, i2, by simp, fun i hi => ?_⟩, i3⟩, ?_⟩
  . have hi2 : i < rows.length := by simpa using hi
    have e : ((List.range rows.length).map L).getD i [] = L i := by
     rw [gD, List.getElem?_map, List.getElem?_range hi2]
     rfl
    show IsSl (ints (((List.range rows.length).map L).getD i [])) _
    rw [e]
    exact hL i hi2
  . intro i x v hx hv
    match i with
    | 0 => simp at hx hv; subst hx hv; exact .str _ _ rfl
    | 1 => simp at hx hv; subst hx hv; exact r1
    | 2 => simp at hx hv; subst hx hv; exact r2
    | 3 => simp at hx hv; subst hx hv; exact r3
    | i + 4 => simp at hx
theorem list_rel {α : Type} [Inhabited α] {R : α -> T -> Prop} : ∀ {ys : List T}, (∀ z ∈ ys, ∃ a, R a z) -> ∃ l : List α, ys.length = l.length /\ ∀ i, i < l.length -> R (l.getD i default) (ys.getD i .nils)
 | [], _ => ⟨[], rfl, fun i hi => absurd hi (Nat.not_lt_zero _)⟩
 | y :: ys, h => by
  obtain ⟨a, ha⟩ := h y (by simp)
  obtain ⟨l, h1, h2⟩ := list_rel (ys := ys) fun z hz => h z (by simp [hz])
  refine ⟨a :: l, by simp [h1], fun i hi => ?_⟩
  cases i with
  | zero => exact ha
  | succ i => exact h2 i (by simpa using hi)
theorem IsSh.mono : ∀ {d d' : Nat} {s : Sh} {x : T}, d <= d' -> IsSh d s x -> IsSh d' s x
 | 0, _, _, _, _, h => h.elim
 | d + 1, 0, _, _, hd, _ => absurd hd (by omega)
 | d + 1, d' + 1, s, x, hd, h => by
  obtain ⟨q, h1, h2⟩ := h
  refine ⟨q, h1, ?_⟩
  rcases h2 with h2 | ⟨ex, xs, e, hl, h2⟩
  . exact .inl h2
  . exact .inr ⟨ex, xs, e, hl, fun i hi => IsSh.mono (by omega) (h2 i hi)⟩
theorem open_tables {H : Type} {enc : TypeId × Value -> H} {W : World} {base : Nat} {spare : Nat -> Bool} {held : Bool} {fuel : Nat} {v : Value} {x : DataW H × List MemPlace} (h : DataW.trod enc Tryz.prog W base spare held fuel 22 [v] = some x) :
  ∃ (l : List Tbl) (q : T), IsTs l q /\ RepT W (fun b => b < W.heap.size) q v := by
 have c33 : Tryz.prog.cellsOf 33 = 4 := by kernel_rfl
 rcases open_slN (k := 4) (by omega) Tryz.underlying22 c33 h (Q := fun z => ∃ t, IsTb t z) (fun n cs d _ hl hd => by
  obtain ⟨t, n, e, a, w, h1, h2⟩ := open_table hl hd
  exact ⟨[.str n, e, a, w], rfl, h2, t, n, e, a, w, rfl, h1⟩) with rfl | ⟨zs, h1, h2⟩
 . exact ⟨[], .nils, .inl ⟨rfl, rfl⟩, .nils⟩
 . obtain ⟨l, h3, h4⟩ := list_rel h2
   exact ⟨l, _, .inr ⟨false, zs, rfl, h3, h4⟩, h1⟩
set_option maxRecDepth 100000 in
theorem open_shape {H : Type} {enc : TypeId × Value -> H} {W : World} {base : Nat} {spare : Nat -> Bool} {held : Bool} (fuel : Nat) : ∀ (cs : List Value) (x : DataW H × List MemPlace), cs.length = 3 -> DataW.trod enc Tryz.prog W base spare held fuel 25 cs = some x →
  ∃ (s : Sh) (q : T), IsSh fuel s (shT s.kind s.name q) /\ ∀ (j : Nat) (y : T) (u : Value), [T.int .u8 s.kind, T.str s.name, q][j]? = some y -> cs[j]? = some u -> RepT W (fun b => b < W.heap.size) y u := by
 induction fuel using Nat.strongRecOn with
 | ind fuel ih =>
 intro cs x hsz h
 obtain ⟨xs, m, hm, _, _, hlen, hf⟩ := DataW.trod_struct Tryz.underlying25 h
 obtain ⟨v0, v1, v2, rfl⟩ : ∃ v0 v1 v2, cs = [v0, v1, v2] := by
  match cs, hsz with
  | [a, b, c], _ => exact ⟨a, b, c, rfl⟩
 match xs, hlen with
 | [y0, y1, y2], _ =>
  have c5 : Tryz.prog.cellsOf 5 = 1 := by kernel_rfl
  have c9 : Tryz.prog.cellsOf 9 = 1 := by kernel_rfl
  have c23 : Tryz.prog.cellsOf 23 = 1 := by kernel_rfl
  have c25 : Tryz.prog.cellsOf 25 = 3 := by kernel_rfl
  have h0 : DataW.trod enc Tryz.prog W base spare held m 5 (([v0, v1, v2].drop 0).take (Tryz.prog.cellsOf 5)) = some y0 := hf 0 _ rfl
  have h1 : DataW.trod enc Tryz.prog W base spare held m 9 (([v0, v1, v2].drop 1).take (Tryz.prog.cellsOf 9)) = some y1 := hf 1 _ rfl
  have h2 : DataW.trod enc Tryz.prog W base spare held m 23 (([v0, v1, v2].drop 2).take (Tryz.prog.cellsOf 23)) = some y2 := hf 2 _ rfl
  rw [c5] at h0; rw [c9] at h1; rw [c23] at h2
  have h0 : DataW.trod enc Tryz.prog W base spare held m 5 [v0] = some y0 := h0
  have h1 : DataW.trod enc Tryz.prog W base spare held m 9 [v1] = some y1 := h1
  have h2 : DataW.trod enc Tryz.prog W base spare held m 23 [v2] = some y2 := h2
  obtain ⟨k, e0, _, _⟩ := DataW.trod_int Tryz.underlying5 h0
  obtain rfl : v0 = .int .u8 k := by simpa using e0
  obtain ⟨s, e1, _, _⟩ := DataW.trod_string Tryz.underlying9 h1
  obtain rfl : v1 = .string s := by simpa using e1
  have key : ∃ (l : List Sh) (q : T), ((l = [] /\ q = .nils) \/ ∃ ex xs, q = .sl ex 3 xs /\ xs.length = l.length /\ ∀ i, i < l.length -> IsSh m (l.getD i default) (xs.getD i .nils)) /\ RepT W (fun b => b < W.heap.size) q v2 := by
   rcases open_slN (k := 3) (by omega) Tryz.underlying23 c25 h2 (Q := fun z => ∃ s, IsSh m s z) (fun n cs d hn hl hd => by
    obtain ⟨s, q, h1, h2⟩ := ih n (by omega) cs d hl hd
    exact ⟨[.int .u8 s.kind, .str s.name, q], rfl, h2, s, h1.mono (by omega)⟩) with rfl | ⟨zs, h3, h4⟩
   . exact ⟨[], .nils, .inl ⟨rfl, rfl⟩, .nils⟩
   . obtain ⟨l, h5, h6⟩ := list_rel h4
     exact ⟨l, _, .inr ⟨false, zs, rfl, h5, h6⟩, h3⟩
  obtain ⟨l, q, hk, hq⟩ := key
  subst hm
  refine ⟨.mk k s.data.toList l, q, ⟨q, rfl, hk⟩, fun i x v hx hv => ?_⟩
  match i with
  | 0 => simp at hx hv; subst hx hv; exact .int _ _
  | 1 => simp at hx hv; subst hx hv; exact .str _ _ rfl
  | 2 => simp at hx hv; subst hx hv; exact hq
  | i + 3 => simp at hx
theorem own : ownKnob Tryz.prog.godebug = none := by kernel_rfl
theorem laidOut : laidOutB Tryz.prog = true := by kernel_rfl
end Go.Proofs.Tryz
