import Derived.Test.YtcljaeknhmpecaaEqs
import Derived.Test.YtcljaeknhmpecaaSpec
set_option linter.all false
open Go Go.Apex Go.StepsTo
namespace Go.Proofs.Try
def nameAt (t : Tbl) (b : Nat) : List UInt8 := t.elems.getD b []
def segT (t : Tbl) (i j : Nat) : List UInt8 := (if j = 0 then [58, 32] else [44, 32]) ++ nameAt t ((adjN t i).getD j 0)
def sufT (t : Tbl) (i j : Nat) : List UInt8 := (upto j (adjN t i).length).flatMap (segT t i)
def wrT (t : Tbl) (i : Nat) : List UInt8 := if t.wrong.getD i false = true then [33] else []
def elemTxt (t : Tbl) (i : Nat) : List UInt8 := nameAt t i ++ wrT t i ++ sufT t i 0
def bodyT (t : Tbl) (i : Nat) : List UInt8 := (upto i t.elems.length).flatMap fun i => (if i = 0 then [] else [59, 32]) ++ elemTxt t i
def headT (t : Tbl) : List UInt8 := [108, 97, 116, 116, 105, 99, 101, 32] ++ t.name ++ [32, 123, 32]
def textT (t : Tbl) : List UInt8 := headT t ++ bodyT t 0 ++ [32, 125]
theorem sCat_eq (a b : List UInt8) : sCat a b = a ++ b := rfl
theorem sCatOK_le {a b : List UInt8} (h : a.length + b.length <= 9000000000) : sCatOK a b = true := decide_eq_true (by omega)
theorem flat_len {α : Type} {f : α -> List UInt8} {B : Nat} : ∀ {l : List α}, (∀ x ∈ l, (f x).length <= B) -> (l.flatMap f).length <= l.length * B
 | [], _ => Nat.zero_le _
 | x :: l, h => by
  have h1 := h x (by simp)
  have h2 := flat_len (f := f) (B := B) (l := l) fun y hy => h y (by simp [hy])
  rw [List.flatMap_cons, List.length_append, List.length_cons, Nat.succ_mul]
  omega
theorem upto_len (i n : Nat) : (upto i n).length = n - i := by simp [upto]
theorem map_getD {α : Type} (d : α) (l : List α) : (List.range l.length).map (fun j => l.getD j d) = l := by
 apply List.ext_getElem
 . simp
 . intro i h1 h2
   simp at h1
   simp [gD, gE h2]
theorem flat_join {α : Type} (d : α) (f : α -> List UInt8) (one sep : List UInt8) (x : α) (r : List α) :
  (upto 0 (x :: r).length).flatMap (fun j => (if j = 0 then one else sep) ++ f ((x :: r).getD j d)) = one ++ Lib.join ((x :: r).map f) sep := by
 rw [upto_step (by simp), List.flatMap_cons, List.map_cons, Lib.join_cons]
 have : (upto (0 + 1) (x :: r).length).flatMap (fun j => (if j = 0 then one else sep) ++ f ((x :: r).getD j d)) = Lib.joinTail sep (r.map f) := by
  have e : upto (0 + 1) (x :: r).length = (List.range r.length).map (1 + ·) := by
   unfold upto
   rw [List.range'_eq_map_range]
   simp
  rw [e, List.flatMap_map]
  have e2 : (fun j => (if 1 + j = 0 then one else sep) ++ f ((x :: r).getD (1 + j) d)) = fun j => sep ++ f (r.getD j d) := by
   funext j
   rw [if_neg (by omega), Nat.add_comm 1 j, List.getD_cons_succ]
  rw [e2]
  unfold Lib.joinTail
  rw [List.map_map, List.flatMap_def]
  conv => rhs; rw [<- map_getD d r]
  rw [List.map_map]
  rfl
 rw [this]
 simp [List.append_assoc]
theorem suf_join {t : Tbl} {i : Nat} (h : adjN t i ≠ []) : sufT t i 0 = [58, 32] ++ Lib.join ((adjN t i).map (nameAt t)) [44, 32] := by
 unfold sufT segT
 cases hl : adjN t i with
 | nil => exact absurd hl h
 | cons x r => exact flat_join 0 (nameAt t) [58, 32] [44, 32] x r
theorem suf_nil {t : Tbl} {i : Nat} (h : adjN t i = []) : sufT t i 0 = [] := by
 unfold sufT
 rw [h]
 rfl
theorem body_join {t : Tbl} (h : 1 <= t.elems.length) : bodyT t 0 = Lib.join ((upto 0 t.elems.length).map (elemTxt t)) [59, 32] := by
 have hu : upto 0 t.elems.length = 0 :: upto 1 t.elems.length := upto_step (by omega)
 have := flat_join 0 (elemTxt t) [] [59, 32] 0 (upto 1 t.elems.length)
 rw [<- hu, upto_len, Nat.sub_zero, List.nil_append] at this
 rw [<- this]
 unfold bodyT
 rw [List.flatMap_def, List.flatMap_def]
 congr 1
 refine List.map_congr_left fun j hj => ?_
 rw [gD, upto_get (mem_upto.1 hj).2]
 rfl
section
variable {t : Tbl} (hg : Good t) (hs : Small t)
include hs
theorem name_len (b : Nat) : (nameAt t b).length < 1000000 := by
 unfold nameAt
 by_cases h : b < t.elems.length
 . exact hs.es _ (getD_mem _ h)
 . rw [gD, List.getElem?_eq_none (by omega)]
   decide
theorem seg_len (i j : Nat) : (segT t i j).length < 1000002 := by
 have := name_len hs ((adjN t i).getD j 0)
 unfold segT
 by_cases h : j = 0
 . simp only [h, if_true, List.length_append, List.length_cons, List.length_nil] at this ⊢; omega
 . simp only [h, if_false, List.length_append, List.length_cons, List.length_nil] at this ⊢; omega
include hg
theorem suf_len (i j : Nat) : (sufT t i j).length <= 20000040 := by
 have h1 := flat_len (f := segT t i) (B := 1000002) (l := upto j (adjN t i).length) fun x _ => Nat.le_of_lt (seg_len hs i x)
 have h2 := hg.adj_len i
 rw [upto_len] at h1
 unfold sufT
 have h3 : ((adjN t i).length - j) * 1000002 <= 20 * 1000002 := Nat.mul_le_mul_right _ (by omega)
 omega
theorem elem_len (i : Nat) : (elemTxt t i).length <= 22000000 := by
 have h1 := name_len hs i
 have h2 := suf_len hg hs i 0
 have h3 : (wrT t i).length <= 1 := by unfold wrT; split <;> simp
 unfold elemTxt
 rw [List.length_append, List.length_append]
 omega
theorem body_len (i : Nat) : (bodyT t i).length <= 300000000 := by
 have h1 := flat_len (f := fun i => (if i = 0 then [] else [59, 32]) ++ elemTxt t i) (B := 22000002) (l := upto i t.elems.length) fun x _ => by
  have := elem_len hg hs x
  by_cases h : x = 0
  . simp only [h, if_true, List.nil_append] at this ⊢; omega
  . simp only [h, if_false, List.length_append, List.length_cons, List.length_nil]; omega
 have h2 := hg.e12
 rw [upto_len] at h1
 unfold bodyT
 have h3 : (t.elems.length - i) * 22000002 <= 12 * 22000002 := Nat.mul_le_mul_right _ (by omega)
 omega
end
theorem suf_step {t : Tbl} {i j : Nat} (h : j < (adjN t i).length) : sufT t i j = segT t i j ++ sufT t i (j + 1) := by
 unfold sufT
 rw [upto_step h, List.flatMap_cons]
theorem suf_end (t : Tbl) (i : Nat) : sufT t i (adjN t i).length = [] := by
 unfold sufT
 rw [upto_end (Nat.le_refl _)]
 rfl
theorem iEq0 (j : Nat) : iEq (j : Int) 0 = decide (j = 0) := by rw [iEq_errL, Bool.eq_iff_iff]; simp
theorem iLt0 (j : Nat) : iLt 0 (j : Int) = decide (0 < j) := by unfold iLt; rw [Bool.eq_iff_iff]; simp
section
variable {t : Tbl} (hg : Good t) (hs : Small t) {n : List UInt8} {e a w : T} (h : IsTbl t n e a w)
include hg hs h
theorem adj_row {i : Nat} (hi : i < t.elems.length) : ∃ r, idxT 1 a (i : Int) = some (.ptr r) /\ derefT none (.ptr r) = some r /\ IsSl (natsT (adjN t i)) r := by
 obtain ⟨r, r1, r2, r3⟩ := h.row (show i < t.above.length by have := hg.a; omega)
 rw [hg.row hi] at r3
 exact ⟨r, r1, r2, r3⟩
theorem adj_at {i j : Nat} (hi : i < t.elems.length) (hj : j < (adjN t i).length) : (adjN t i).getD j 0 < t.elems.length := hg.adj_lt i hi _ (by
 rw [gD, gE hj]
 exact List.getElem_mem hj)
theorem in42_2 {i : Nat} (hi : i < t.elems.length) {r : T} : ∀ j, j <= (adjN t i).length -> ∀ acc : List UInt8, acc.length <= 4000000000 + 2000000 * j →
  L42_1 n e a w (acc ++ sufT t i j) ((i + 1 : Nat) : Int) = some r -> L42_2 n e a w acc (i : Int) (j : Int) = some r := by
 have h12 := hg.e12
 have h20 := hg.adj_len i
 obtain ⟨x, x1, x2, x3⟩ := adj_row hg hs h hi
 refine upto_induct ?_ fun j hj ih => ?_
 . intro acc hl hr
   rw [suf_end, List.append_nil] at hr
   apply L42_2_step
   simp only [h.f2, h.d2, x1, x2, oS, x3.lenD, iLt_end, cond_false, iAdd_nat (show i < 1000000 by omega), hr]
 . intro acc hl hr
   have hn := name_len hs ((adjN t i).getD j 0)
   have hseg := seg_len hs i j
   have key := ih (acc ++ segT t i j) (by rw [List.length_append]; omega) (by rw [List.append_assoc, <- suf_step hj]; exact hr)
   have hat := adj_at hg hs h hi hj
   apply L42_2_step
   by_cases h0 : j = 0
   . have c1 : sCatOK acc [58, 32] = true := sCatOK_le (by simp only [List.length_cons, List.length_nil]; omega)
     have c2 : sCatOK (acc ++ [58, 32]) (nameAt t ((adjN t i).getD j 0)) = true := sCatOK_le (by simp only [List.length_append, List.length_cons, List.length_nil]; omega)
     have e2 : acc ++ [58, 32] ++ nameAt t ((adjN t i).getD j 0) = acc ++ segT t i j := by unfold segT; rw [if_pos h0, List.append_assoc]
     have e1 : iEq (j : Int) 0 = true := by rw [iEq0]; simp [h0]
     have e3 : t.elems.getD ((adjN t i).getD j 0) [] = nameAt t ((adjN t i).getD j 0) := rfl
     simp only [h.f1, h.d1, h.f2, h.d2, x1, x2, oS, x3.lenD, iLt_len hj, cond_true, e1, c1, x3.idxD 0 hj, deref_int, int?_int, h.e.idxD [] hat, deref_str, str?_str, sCat_eq, e3, c2, e2, iAdd_nat (show j < 1000000 by omega), key]
   . have c1 : sCatOK acc [44, 32] = true := sCatOK_le (by simp only [List.length_cons, List.length_nil]; omega)
     have c2 : sCatOK (acc ++ [44, 32]) (nameAt t ((adjN t i).getD j 0)) = true := sCatOK_le (by simp only [List.length_append, List.length_cons, List.length_nil]; omega)
     have e2 : acc ++ [44, 32] ++ nameAt t ((adjN t i).getD j 0) = acc ++ segT t i j := by unfold segT; rw [if_neg h0, List.append_assoc]
     have e1 : iEq (j : Int) 0 = false := by rw [iEq0]; simp [h0]
     have e3 : t.elems.getD ((adjN t i).getD j 0) [] = nameAt t ((adjN t i).getD j 0) := rfl
     simp only [h.f1, h.d1, h.f2, h.d2, x1, x2, oS, x3.lenD, iLt_len hj, cond_true, cond_false, e1, c1, x3.idxD 0 hj, deref_int, int?_int, h.e.idxD [] hat, deref_str, str?_str, sCat_eq, e3, c2, e2, iAdd_nat (show j < 1000000 by omega), key]
theorem in42_3 {i : Nat} (hi : i < t.elems.length) {r : T} : ∀ j, j <= (adjN t i).length -> ∀ acc : List UInt8, acc.length <= 4000000000 + 2000000 * j →
  L42_1 n e a w (acc ++ sufT t i j) ((i + 1 : Nat) : Int) = some r -> L42_3 n e a w acc (i : Int) (j : Int) = some r := by
 have h12 := hg.e12
 have h20 := hg.adj_len i
 obtain ⟨x, x1, x2, x3⟩ := adj_row hg hs h hi
 refine upto_induct ?_ fun j hj ih => ?_
 . intro acc hl hr
   rw [suf_end, List.append_nil] at hr
   apply L42_3_step
   simp only [h.f2, h.d2, x1, x2, oS, x3.lenD, iLt_end, cond_false, iAdd_nat (show i < 1000000 by omega), hr]
 . intro acc hl hr
   have hn := name_len hs ((adjN t i).getD j 0)
   have hseg := seg_len hs i j
   have key := ih (acc ++ segT t i j) (by rw [List.length_append]; omega) (by rw [List.append_assoc, <- suf_step hj]; exact hr)
   have hat := adj_at hg hs h hi hj
   apply L42_3_step
   by_cases h0 : j = 0
   . have c1 : sCatOK acc [58, 32] = true := sCatOK_le (by simp only [List.length_cons, List.length_nil]; omega)
     have c2 : sCatOK (acc ++ [58, 32]) (nameAt t ((adjN t i).getD j 0)) = true := sCatOK_le (by simp only [List.length_append, List.length_cons, List.length_nil]; omega)
     have e2 : acc ++ [58, 32] ++ nameAt t ((adjN t i).getD j 0) = acc ++ segT t i j := by unfold segT; rw [if_pos h0, List.append_assoc]
     have e1 : iEq (j : Int) 0 = true := by rw [iEq0]; simp [h0]
     have e3 : t.elems.getD ((adjN t i).getD j 0) [] = nameAt t ((adjN t i).getD j 0) := rfl
     simp only [h.f1, h.d1, h.f2, h.d2, x1, x2, oS, x3.lenD, iLt_len hj, cond_true, e1, c1, x3.idxD 0 hj, deref_int, int?_int, h.e.idxD [] hat, deref_str, str?_str, sCat_eq, e3, c2, e2, iAdd_nat (show j < 1000000 by omega), key]
   . have c1 : sCatOK acc [44, 32] = true := sCatOK_le (by simp only [List.length_cons, List.length_nil]; omega)
     have c2 : sCatOK (acc ++ [44, 32]) (nameAt t ((adjN t i).getD j 0)) = true := sCatOK_le (by simp only [List.length_append, List.length_cons, List.length_nil]; omega)
     have e2 : acc ++ [44, 32] ++ nameAt t ((adjN t i).getD j 0) = acc ++ segT t i j := by unfold segT; rw [if_neg h0, List.append_assoc]
     have e1 : iEq (j : Int) 0 = false := by rw [iEq0]; simp [h0]
     have e3 : t.elems.getD ((adjN t i).getD j 0) [] = nameAt t ((adjN t i).getD j 0) := rfl
     simp only [h.f1, h.d1, h.f2, h.d2, x1, x2, oS, x3.lenD, iLt_len hj, cond_true, cond_false, e1, c1, x3.idxD 0 hj, deref_int, int?_int, h.e.idxD [] hat, deref_str, str?_str, sCat_eq, e3, c2, e2, iAdd_nat (show j < 1000000 by omega), key]
theorem in42_4 {i : Nat} (hi : i < t.elems.length) {r : T} : ∀ j, j <= (adjN t i).length -> ∀ acc : List UInt8, acc.length <= 4000000000 + 2000000 * j →
  L42_1 n e a w (acc ++ sufT t i j) ((i + 1 : Nat) : Int) = some r -> L42_4 n e a w acc (i : Int) (j : Int) = some r := by
 have h12 := hg.e12
 have h20 := hg.adj_len i
 obtain ⟨x, x1, x2, x3⟩ := adj_row hg hs h hi
 refine upto_induct ?_ fun j hj ih => ?_
 . intro acc hl hr
   rw [suf_end, List.append_nil] at hr
   apply L42_4_step
   simp only [h.f2, h.d2, x1, x2, oS, x3.lenD, iLt_end, cond_false, iAdd_nat (show i < 1000000 by omega), hr]
 . intro acc hl hr
   have hn := name_len hs ((adjN t i).getD j 0)
   have hseg := seg_len hs i j
   have key := ih (acc ++ segT t i j) (by rw [List.length_append]; omega) (by rw [List.append_assoc, <- suf_step hj]; exact hr)
   have hat := adj_at hg hs h hi hj
   apply L42_4_step
   by_cases h0 : j = 0
   . have c1 : sCatOK acc [58, 32] = true := sCatOK_le (by simp only [List.length_cons, List.length_nil]; omega)
     have c2 : sCatOK (acc ++ [58, 32]) (nameAt t ((adjN t i).getD j 0)) = true := sCatOK_le (by simp only [List.length_append, List.length_cons, List.length_nil]; omega)
     have e2 : acc ++ [58, 32] ++ nameAt t ((adjN t i).getD j 0) = acc ++ segT t i j := by unfold segT; rw [if_pos h0, List.append_assoc]
     have e1 : iEq (j : Int) 0 = true := by rw [iEq0]; simp [h0]
     have e3 : t.elems.getD ((adjN t i).getD j 0) [] = nameAt t ((adjN t i).getD j 0) := rfl
     simp only [h.f1, h.d1, h.f2, h.d2, x1, x2, oS, x3.lenD, iLt_len hj, cond_true, e1, c1, x3.idxD 0 hj, deref_int, int?_int, h.e.idxD [] hat, deref_str, str?_str, sCat_eq, e3, c2, e2, iAdd_nat (show j < 1000000 by omega), key]
   . have c1 : sCatOK acc [44, 32] = true := sCatOK_le (by simp only [List.length_cons, List.length_nil]; omega)
     have c2 : sCatOK (acc ++ [44, 32]) (nameAt t ((adjN t i).getD j 0)) = true := sCatOK_le (by simp only [List.length_append, List.length_cons, List.length_nil]; omega)
     have e2 : acc ++ [44, 32] ++ nameAt t ((adjN t i).getD j 0) = acc ++ segT t i j := by unfold segT; rw [if_neg h0, List.append_assoc]
     have e1 : iEq (j : Int) 0 = false := by rw [iEq0]; simp [h0]
     have e3 : t.elems.getD ((adjN t i).getD j 0) [] = nameAt t ((adjN t i).getD j 0) := rfl
     simp only [h.f1, h.d1, h.f2, h.d2, x1, x2, oS, x3.lenD, iLt_len hj, cond_true, cond_false, e1, c1, x3.idxD 0 hj, deref_int, int?_int, h.e.idxD [] hat, deref_str, str?_str, sCat_eq, e3, c2, e2, iAdd_nat (show j < 1000000 by omega), key]
theorem out42 : ∀ i, i <= t.elems.length -> ∀ acc : List UInt8, acc.length <= 1000000000 + 30000000 * i →
  L42_1 n e a w acc (i : Int) = some (.tup [.str (acc ++ bodyT t i ++ [32, 125]), .int .i64 0]) := by
 have h12 := hg.e12
 refine upto_induct ?_ fun i hi ih => ?_
 . intro acc hl
   have hb : bodyT t t.elems.length = [] := by unfold bodyT; rw [upto_end (Nat.le_refl _)]; rfl
   have c1 : sCatOK acc [32, 125] = true := sCatOK_le (by simp only [List.length_cons, List.length_nil]; omega)
   apply L42_1_step
   simp only [h.f1, h.d1, oS, h.e.lenD, iLt_end, cond_false, c1, cond_true, sCat_eq, hb, List.append_nil]
 . intro acc hl
   have hn := name_len hs i
   have hse := suf_len hg hs i 0
   have hw : i < t.wrong.length := by have := hg.w; omega
   have hb : bodyT t i = ((if i = 0 then [] else [59, 32]) ++ elemTxt t i) ++ bodyT t (i + 1) := by unfold bodyT; rw [upto_step hi, List.flatMap_cons]
   have e3 : t.elems.getD i [] = nameAt t i := rfl
   have sp : ∀ k : List UInt8, acc ++ k ++ (bodyT t (i + 1) ++ [32, 125]) = acc ++ (k ++ bodyT t (i + 1)) ++ [32, 125] := fun k => by simp only [List.append_assoc]
   have key := fun (pre : List UInt8) (he : pre ++ sufT t i 0 = (if i = 0 then [] else [59, 32]) ++ elemTxt t i) (hp : pre.length <= 1000010) => ih (acc ++ pre ++ sufT t i 0) (by simp only [List.length_append]; omega)
   have fin : ∀ pre : List UInt8, pre ++ sufT t i 0 = (if i = 0 then [] else [59, 32]) ++ elemTxt t i -> acc ++ pre ++ sufT t i 0 ++ bodyT t (i + 1) ++ [32, 125] = acc ++ bodyT t i ++ [32, 125] := fun pre he => by
    rw [hb, <- he]
    simp only [List.append_assoc]
   apply L42_1_step
   by_cases h0 : i = 0
   . have e1 : iLt 0 (i : Int) = false := by rw [iLt0]; simp [h0]
     have c2 : sCatOK acc (nameAt t i) = true := sCatOK_le (by omega)
     cases hwr : t.wrong.getD i false with
     | true =>
      have he : nameAt t i ++ [33] ++ sufT t i 0 = (if i = 0 then [] else [59, 32]) ++ elemTxt t i := by rw [if_pos h0]; unfold elemTxt wrT; rw [hwr, if_pos rfl]; rfl
      have c3 : sCatOK (acc ++ nameAt t i) [33] = true := sCatOK_le (by simp only [List.length_append, List.length_cons, List.length_nil]; omega)
      have hk := key _ he (by simp only [List.length_append, List.length_cons, List.length_nil]; omega)
      rw [fin _ he] at hk
      have := in42_3 hg hs h hi 0 (Nat.zero_le _) (acc ++ (nameAt t i ++ [33])) (by simp only [List.length_append, List.length_cons, List.length_nil]; omega) hk
      rw [<- List.append_assoc, Int.natCast_zero] at this
      simp only [h.f1, h.d1, oS, h.e.lenD, iLt_len hi, cond_true, e1, cond_false, h.e.idxD [] hi, deref_str, str?_str, e3, c2, sCat_eq, h.f3, h.d3, h.w.idxD false hw, hwr, deref_bool, bool?_bool, c3, this]
     | false =>
      have he : nameAt t i ++ sufT t i 0 = (if i = 0 then [] else [59, 32]) ++ elemTxt t i := by rw [if_pos h0]; unfold elemTxt wrT; rw [hwr, if_neg (by decide), List.append_nil]; rfl
      have hk := key _ he (by omega)
      rw [fin _ he] at hk
      have := in42_4 hg hs h hi 0 (Nat.zero_le _) (acc ++ nameAt t i) (by simp only [List.length_append]; omega) hk
      rw [Int.natCast_zero] at this
      simp only [h.f1, h.d1, oS, h.e.lenD, iLt_len hi, cond_true, e1, cond_false, h.e.idxD [] hi, deref_str, str?_str, e3, c2, sCat_eq, h.f3, h.d3, h.w.idxD false hw, hwr, deref_bool, bool?_bool, this]
   . have e1 : iLt 0 (i : Int) = true := by rw [iLt0]; simp; omega
     have c1 : sCatOK acc [59, 32] = true := sCatOK_le (by simp only [List.length_cons, List.length_nil]; omega)
     have c2 : sCatOK (acc ++ [59, 32]) (nameAt t i) = true := sCatOK_le (by simp only [List.length_append, List.length_cons, List.length_nil]; omega)
     cases hwr : t.wrong.getD i false with
     | true =>
      have he : [59, 32] ++ nameAt t i ++ [33] ++ sufT t i 0 = (if i = 0 then [] else [59, 32]) ++ elemTxt t i := by rw [if_neg h0]; unfold elemTxt wrT; rw [hwr, if_pos rfl]; simp only [List.append_assoc]
      have c3 : sCatOK (acc ++ [59, 32] ++ nameAt t i) [33] = true := sCatOK_le (by simp only [List.length_append, List.length_cons, List.length_nil]; omega)
      have hk := key _ he (by simp only [List.length_append, List.length_cons, List.length_nil]; omega)
      rw [fin _ he] at hk
      have := in42_2 hg hs h hi 0 (Nat.zero_le _) (acc ++ ([59, 32] ++ nameAt t i ++ [33])) (by simp only [List.length_append, List.length_cons, List.length_nil]; omega) hk
      rw [<- List.append_assoc, <- List.append_assoc, Int.natCast_zero] at this
      simp only [h.f1, h.d1, oS, h.e.lenD, iLt_len hi, cond_true, e1, c1, h.e.idxD [] hi, deref_str, str?_str, e3, sCat_eq, c2, h.f3, h.d3, h.w.idxD false hw, hwr, deref_bool, bool?_bool, c3, this]
     | false =>
      have he : [59, 32] ++ nameAt t i ++ sufT t i 0 = (if i = 0 then [] else [59, 32]) ++ elemTxt t i := by rw [if_neg h0]; unfold elemTxt wrT; rw [hwr, if_neg (by decide), List.append_nil]; simp only [List.append_assoc]
      have hk := key _ he (by simp only [List.length_append, List.length_cons, List.length_nil]; omega)
      rw [fin _ he] at hk
      have := in42_3 hg hs h hi 0 (Nat.zero_le _) (acc ++ ([59, 32] ++ nameAt t i)) (by simp only [List.length_append, List.length_cons, List.length_nil]; omega) hk
      rw [<- List.append_assoc, Int.natCast_zero] at this
      simp only [h.f1, h.d1, oS, h.e.lenD, iLt_len hi, cond_true, cond_false, e1, c1, h.e.idxD [] hi, deref_str, str?_str, e3, sCat_eq, c2, h.f3, h.d3, h.w.idxD false hw, hwr, deref_bool, bool?_bool, this]
theorem textR_ok (hc : checkB t = true) : fnO acfg 42 [tblT n e a w] = some (.tup [.str (textT t), .int .i64 0]) := by
 have hck := refCheck_spec h hs
 rw [hc] at hck
 simp only [cond_true] at hck
 have hn := hs.n
 have hne := h.n
 have c1 : sCatOK [108, 97, 116, 116, 105, 99, 101, 32] n = true := sCatOK_le (by rw [hne]; simp only [List.length_cons, List.length_nil]; omega)
 have c2 : sCatOK ([108, 97, 116, 116, 105, 99, 101, 32] ++ n) [32, 123, 32] = true := sCatOK_le (by rw [hne]; simp only [List.length_append, List.length_cons, List.length_nil]; omega)
 have key := out42 hg hs h 0 (Nat.zero_le _) (headT t) (by unfold headT; simp only [List.length_append, List.length_cons, List.length_nil]; omega)
 have hh : [108, 97, 116, 116, 105, 99, 101, 32] ++ n ++ [32, 123, 32] = headT t := by rw [hne]; rfl
 rw [Int.natCast_zero] at key
 apply fn42
 simp only [h.v4, cond_true, h.d4, oS, agg4, nth0, nth1, nth2, nth3, str?_str, hck, scalar_int, int?_int, i00, bNot, Bool.not_true, cond_false, c1, sCat_eq, c2, hh, key]
 rfl
end
theorem textR_bad {t : Tbl} {n : List UInt8} {e a w : T} (h : IsTbl t n e a w) (hs : Small t) (hc : checkB t = false) : fnO acfg 42 [tblT n e a w] = some (.tup [.str [], .int .i64 4]) := by
 have hck := refCheck_spec h hs
 rw [hc] at hck
 simp only [cond_false] at hck
 apply fn42
 simp only [h.v4, cond_true, h.d4, oS, agg4, nth0, nth1, nth2, nth3, str?_str, hck, scalar_int, int?_int, i40, bNot, Bool.not_false]
end Go.Proofs.Try

open Go Go.Apex Go.StepsTo
namespace Go.Proofs.Try
abbrev bytesC (s : List UInt8) : List T := s.map fun b => T.int .u8 (b.toNat : Int)
theorem one_bytes (s : List UInt8) : OneL (bytesC s) := OneL.map (fun _ => rfl) s
theorem elemsS_cells (s : List UInt8) : elemsS s = cellsT (bytesC s) := by show _ = (s.map fun b => T.int .u8 (b.toNat : Int)).map V.t; rw [List.map_map]; rfl
theorem scalar_str (s : List UInt8) : T.scalar (.str s) = true := rfl
theorem mapO_byte : ∀ s : List UInt8, mapO byteV (cellsT (bytesC s)) = some s
 | [] => rfl
 | b :: s => by
  have hb : byteV (.t (.int .u8 (b.toNat : Int))) = some b := by
   have := b.toNat_lt
   simp [byteV]
   try omega
  show mapO byteV (.t (.int .u8 (b.toNat : Int)) :: cellsT (bytesC s)) = _
  simp only [mapO, hb, mapO_byte s]
  rfl
theorem bytesV_all {s : List UInt8} (h0 : s ≠ []) (h : s.length <= 9000000000) : bytesV (cellsT (bytesC s)) 0 (nInt s.length) = some s := by
 have hp : 0 < s.length := List.length_pos_iff.2 h0
 unfold bytesV nInt
 rw [if_pos ⟨by omega, by omega, by simp⟩, List.drop_zero]
 have : (cellsT (bytesC s)).take ((s.length : Int).toNat) = cellsT (bytesC s) := by rw [List.take_of_length_le (by simp)]
 rw [this]
 exact mapO_byte s
theorem app_bytes {s u : List UInt8} (hu : u ≠ []) (h : s.length + u.length <= 9000000000) :
  appOK (cellsT (bytesC s)) 0 s.length 1 (cellsT (bytesC u)) 1 = true /\ appCs (cellsT (bytesC s)) 0 (cellsT (bytesC u)) = cellsT (bytesC (s ++ u)) /\ appOff 0 (cellsT (bytesC u)) = 0 /\ appLen s.length (cellsT (bytesC u)) = (s ++ u).length := by
 refine ⟨appOK_row (by simp) (by rw [List.length_map, maxB]; omega), ?_, ?_, ?_⟩
 . rw [appCs_one (one_bytes _) (by simpa using hu), List.drop_zero, <- List.map_append]
 . cases u with
   | nil => exact absurd rfl hu
   | cons b u => rfl
 . rw [List.length_append]
   cases u with
   | nil => exact absurd rfl hu
   | cons b u => simp [appLen]
theorem mapO_str : ∀ l : List (List UInt8), mapO T.str? (l.map T.str) = some l
 | [] => rfl
 | s :: l => by
  show mapO T.str? (T.str s :: l.map T.str) = _
  simp only [mapO, str?_str, mapO_str l]
  rfl
theorem join_spec84 {l : List (List UInt8)} {sep : List UInt8} (h : l.length <= 1000000) (h2 : (Lib.join l sep).length <= 9000000000) : fnO acfg 84 [.sl false 1 (l.map .str), .str sep] = some (.str (Lib.join l sep)) := by
 refine fnO_prim (g := joinT) rfl ?_
 show ((mapO T.str? (l.map T.str)).bind fun ss => if ss.length <= 140737488355328 /\ (Lib.join ss sep).length <= 140737488355328 then some (T.str (Lib.join ss sep)) else none) = _
 rw [mapO_str, oS, if_pos ⟨by omega, by omega⟩]
theorem app_strs {l : List (List UInt8)} (s : List UInt8) (h : l.length < 1000000) :
  appOK (cellsT (l.map .str)) 0 l.length 1 [V.t (T.str s)] 16 = true /\ appCs (cellsT (l.map .str)) 0 [V.t (T.str s)] = cellsT ((l ++ [s]).map .str) := by
 refine ⟨appOK_row (ys := [.str s]) (by simp) (by rw [maxB]; simp; omega), ?_⟩
 have := appCs_one (cs := l.map T.str) (ys := [.str s]) (off := 0) (OneL.cons rfl OneL.nil) (by simp)
 rw [List.map_append, <- List.drop_zero (l := l.map T.str)]
 exact this
theorem rowT_strs (l : List (List UInt8)) : rowT none (cellsT (l.map .str)) 0 l.length = some (l.map .str) := by
 have := rowT_all (one_str l)
 rwa [List.length_map] at this
section
variable {t : Tbl} (hg : Good t) (hs : Small t) {n : List UInt8} {e a w : T} (h : IsTbl t n e a w)
include hg hs h
theorem row_txt {i : Nat} (hi : i < t.elems.length) {x : T} (x3 : IsSl (natsT (adjN t i)) x) {s : List UInt8} (h0 : s ≠ []) (hl : s.length <= 3000000) :
  ∀ j, j <= (adjN t i).length -> 1 <= j -> ∀ (g gB : Nat) (z : Int),
   L83_7 n e a w g 0 j x ((adjN t i).length : Int) (j : Int) gB 0 s.length gB (cellsT (bytesC s)) z g (cellsT ((((adjN t i).take j).map (nameAt t)).map .str)) = some (.str (s ++ sufT t i 0)) ∧
   L83_8 n e a w g 0 j x ((adjN t i).length : Int) (j : Int) gB 0 s.length gB (cellsT (bytesC s)) g (cellsT ((((adjN t i).take j).map (nameAt t)).map .str)) = some (.str (s ++ sufT t i 0)) := by
 have h20 := hg.adj_len i
 have objB : ∀ (k g : Nat) (s : List UInt8), objBd k (Go.Apex.Obj.cells g 5 false (cellsT (bytesC s))) = true := fun _ _ _ => objBd_cells _ _ _ _ _
 have objS : ∀ (k g : Nat) (l : List (List UInt8)), objBd k (Go.Apex.Obj.cells g 9 false (cellsT (l.map .str))) = true := fun _ _ _ => objBd_cells _ _ _ _ _
 refine upto_induct ?_ fun j hj ih => ?_
 . intro h1 g gB z
   have hne : adjN t i ≠ [] := fun e => by rw [e] at h1; simp at h1
   have hsf := suf_join hne
   have hsl := suf_len hg hs i 0
   rw [hsf] at hsl ⊢
   have hjl : (Lib.join ((adjN t i).map (nameAt t)) [44, 32]).length <= 20000040 := by rw [List.length_append] at hsl; omega
   have hj84 := join_spec84 (l := (adjN t i).map (nameAt t)) (sep := [44, 32]) (by rw [List.length_map]; omega) (by omega)
   obtain ⟨u, hu⟩ : ∃ u, u = [58, 32] ++ Lib.join ((adjN t i).map (nameAt t)) [44, 32] := ⟨_, rfl⟩
   have hu0 : u ≠ [] := by rw [hu]; simp
   obtain ⟨a1, a2, a3, a4⟩ := app_bytes (s := s) hu0 (by rw [hu]; omega)
   have hbv := bytesV_all (s := s ++ u) (by simp [h0]) (by rw [List.length_append, hu]; omega)
   have c1 : sCatOK [58, 32] (Lib.join ((adjN t i).map (nameAt t)) [44, 32]) = true := sCatOK_le (by simp only [List.length_cons, List.length_nil]; omega)
   have hrow := rowT_strs ((adjN t i).map (nameAt t))
   rw [List.length_map] at hrow
   have hlp : iLt 0 (nInt (adjN t i).length) = true := by unfold iLt nInt; exact decide_eq_true (by omega)
   rw [List.take_length]
   constructor
   . apply L83_7_step
     simp only [iLt_end, cond_false, hlp, cond_true, natEq_self, hrow, oS, hj84, scalar_str, str?_str, c1, sCat_eq, <- hu, elemsS_cells, a1, a2, a3, a4, hbv]
   . apply L83_8_step
     simp only [iLt_end, cond_false, hlp, cond_true, natEq_self, hrow, oS, hj84, scalar_str, str?_str, c1, sCat_eq, <- hu, elemsS_cells, a1, a2, a3, a4, hbv]
 . intro h1 g gB z
   have hat := adj_at hg hs h hi hj
   have htl : ((adjN t i).take j).length = j := by rw [List.length_take]; omega
   obtain ⟨b1, b2⟩ := app_strs (l := ((adjN t i).take j).map (nameAt t)) (nameAt t ((adjN t i).getD j 0)) (by rw [List.length_map]; omega)
   rw [List.length_map, htl] at b1
   have e3 : t.elems.getD ((adjN t i).getD j 0) [] = nameAt t ((adjN t i).getD j 0) := rfl
   have etk : ((adjN t i).take j).map (nameAt t) ++ [nameAt t ((adjN t i).getD j 0)] = ((adjN t i).take (j + 1)).map (nameAt t) := by
    rw [List.take_add_one, List.map_append, gE hj, gD, gE hj]
    rfl
   rw [etk] at b2
   obtain ⟨k1, k2⟩ := ih (by omega) (g + 1) gB z
   constructor
   . apply L83_7_step
     simp only [iLt_len hj, cond_true, x3.idxD 0 hj, oS, deref_int, int?_int, h.f1, h.d1, h.e.idxD [] hat, deref_str, str?_str, e3, natEq_self, b1, b2, objB, objS, appGen_one, appLen_one, iAdd_nat (show j < 1000000 by omega), k1]
   . apply L83_8_step
     simp only [iLt_len hj, cond_true, x3.idxD 0 hj, oS, deref_int, int?_int, h.f1, h.d1, h.e.idxD [] hat, deref_str, str?_str, e3, natEq_self, b1, b2, objB, objS, appGen_one, appLen_one, iAdd_nat (show j < 1000000 by omega), k2]
theorem start_txt {i : Nat} (hi : i < t.elems.length) {x : T} (x3 : IsSl (natsT (adjN t i)) x) {s : List UInt8} (h0 : s ≠ []) (hl : s.length <= 3000000) (gB : Nat) (z : Int) :
  L83_3 n e a w x ((adjN t i).length : Int) 0 gB 0 s.length gB (cellsT (bytesC s)) z = some (.str (s ++ sufT t i 0)) /\ L83_4 n e a w x ((adjN t i).length : Int) 0 gB 0 s.length gB (cellsT (bytesC s)) = some (.str (s ++ sufT t i 0)) := by
 have objB : ∀ (k g : Nat) (s : List UInt8), objBd k (Go.Apex.Obj.cells g 5 false (cellsT (bytesC s))) = true := fun _ _ _ => objBd_cells _ _ _ _ _
 by_cases hz : adjN t i = []
 . have hbv := bytesV_all h0 (by omega)
   have hlt : iLt 0 ((adjN t i).length : Int) = false := by rw [hz]; rfl
   have hb1 : Nat.ble 1 s.length = true := by rw [Nat.ble_eq]; exact List.length_pos_iff.2 h0
   rw [suf_nil hz, List.append_nil]
   constructor
   . apply L83_3_step
     simp only [hlt, cond_false, hb1, cond_true, natEq_self, hbv, oS]
   . apply L83_4_step
     simp only [hlt, cond_false, hb1, cond_true, natEq_self, hbv, oS]
 . have hp : 0 < (adjN t i).length := List.length_pos_iff.2 hz
   have hat := adj_at hg hs h hi hp
   have hlt : iLt 0 ((adjN t i).length : Int) = true := by rw [iLt0]; exact decide_eq_true hp
   have e3 : t.elems.getD ((adjN t i).getD 0 0) [] = nameAt t ((adjN t i).getD 0 0) := rfl
   have hix := x3.idxD 0 hp
   rw [Int.natCast_zero] at hix
   have hrow : rowNew [] [V.t (T.str (nameAt t ((adjN t i).getD 0 0)))] = cellsT ((((adjN t i).take 1).map (nameAt t)).map .str) := by
    have := rowNew_one (xs := []) (ys := [.str (nameAt t ((adjN t i).getD 0 0))]) OneL.nil (OneL.cons rfl OneL.nil)
    have e : (adjN t i).take 1 = [(adjN t i).getD 0 0] := by
     cases hc : adjN t i with
     | nil => exact absurd hc hz
     | cons b bs => rfl
    rw [e]
    exact this
   have hi1 : iAdd IntKind.i64 0 1 = ((1 : Nat) : Int) := by decide
   obtain ⟨k1, k2⟩ := row_txt hg hs h hi x3 h0 hl 1 hp (Nat.le_refl _) 1 gB z
   constructor
   . apply L83_3_step
     simp only [hlt, cond_true, hix, oS, deref_int, int?_int, h.f1, h.d1, h.e.idxD [] hat, deref_str, str?_str, e3, objB, hrow, hi1, k1]
   . apply L83_4_step
     simp only [hlt, cond_true, hix, oS, deref_int, int?_int, h.f1, h.d1, h.e.idxD [] hat, deref_str, str?_str, e3, objB, hrow, hi1, k2]
theorem elem_txt {i : Nat} (hi : i < t.elems.length) (h0 : nameAt t i ≠ []) : fnO acfg 83 [tblT n e a w, .int .i64 (i : Int)] = some (.str (elemTxt t i)) := by
 obtain ⟨x, x1, x2, x3⟩ := adj_row hg hs h hi
 have hn := name_len hs i
 have hw : i < t.wrong.length := by have := hg.w; omega
 have objB : ∀ (k g : Nat) (s : List UInt8), objBd k (Go.Apex.Obj.cells g 5 false (cellsT (bytesC s))) = true := fun _ _ _ => objBd_cells _ _ _ _ _
 have e3 : t.elems.getD i [] = nameAt t i := rfl
 have hnil : isNilL (cellsT (bytesC (nameAt t i))) = false := by
  cases hc : nameAt t i with
  | nil => exact absurd hc h0
  | cons b bs => rfl
 have hnew : newOK (List.length ([] : List T)) (List.length (cellsT (bytesC (nameAt t i)))) 1 = true := newOK_small (by simp only [List.length_map, List.length_nil, maxB]; omega)
 have hrn : rowNew [] (cellsT (bytesC (nameAt t i))) = cellsT (bytesC (nameAt t i)) := by rw [rowNew_one OneL.nil (one_bytes _), List.nil_append]
 have hln : lenNew [] (cellsT (bytesC (nameAt t i))) = (nameAt t i).length := by simp [lenNew]
 have b33 : [V.t (T.int IntKind.u8 33)] = cellsT (bytesC [33]) := rfl
 apply fn83
 cases hwr : t.wrong.getD i false with
 | true =>
  obtain ⟨a1, a2, a3, a4⟩ := app_bytes (s := nameAt t i) (u := [33]) (by simp) (by simp only [List.length_cons, List.length_nil]; omega)
  obtain ⟨k1, _⟩ := start_txt hg hs h hi x3 (s := nameAt t i ++ [33]) (by simp) (by simp only [List.length_append, List.length_cons, List.length_nil]; omega) 2 33
  have he : elemTxt t i = nameAt t i ++ [33] ++ sufT t i 0 := by unfold elemTxt wrT; rw [hwr, if_pos rfl]
  rw [he]
  simp only [h.v4, cond_true, h.f1, h.d1, oS, h.e.idxD [] hi, deref_str, str?_str, e3, elemsS_cells, hnil, cond_false, hnew, h.f3, h.d3, h.w.idxD false hw, hwr, deref_bool, bool?_bool, hrn, hln, b33, a1, a2, a4, h.f2, h.d2, x1, x2, x3.lenD, objB, k1]
 | false =>
  obtain ⟨_, k1⟩ := start_txt hg hs h hi x3 (s := nameAt t i) h0 (by omega) 1 33
  have he : elemTxt t i = nameAt t i ++ sufT t i 0 := by unfold elemTxt wrT; rw [hwr, if_neg (by decide), List.append_nil]
  rw [he]
  simp only [h.v4, cond_true, h.f1, h.d1, oS, h.e.idxD [] hi, deref_str, str?_str, e3, elemsS_cells, hnil, cond_false, hnew, h.f3, h.d3, h.w.idxD false hw, hwr, deref_bool, bool?_bool, hrn, hln, h.f2, h.d2, x1, x2, x3.lenD, objB, k1]
theorem all_txt (h0 : ∀ i, i < t.elems.length -> nameAt t i ≠ []) : ∀ i, i <= t.elems.length -> 1 <= i -> ∀ g : Nat,
  L40_2 n e a w g 0 i (t.elems.length : Int) (i : Int) g (cellsT (((upto 0 i).map (elemTxt t)).map .str)) = some (.tup [.str (textT t), .int .i64 0]) := by
 have h12 := hg.e12
 have objS : ∀ (k g : Nat) (l : List (List UInt8)), objBd k (Go.Apex.Obj.cells g 9 false (cellsT (l.map .str))) = true := fun _ _ _ => objBd_cells _ _ _ _ _
 refine upto_induct ?_ fun i hi ih => ?_
 . intro h1 g
   have hbd := body_len hg hs 0
   have hbj := body_join (t := t) hg.e1
   rw [hbj] at hbd
   have hj84 := join_spec84 (l := (upto 0 t.elems.length).map (elemTxt t)) (sep := [59, 32]) (by rw [List.length_map, upto_len]; omega) (by omega)
   have hrow := rowT_strs ((upto 0 t.elems.length).map (elemTxt t))
   rw [List.length_map, upto_len, Nat.sub_zero] at hrow
   have hn := hs.n
   have hne := h.n
   have c1 : sCatOK [108, 97, 116, 116, 105, 99, 101, 32] n = true := sCatOK_le (by rw [hne]; simp only [List.length_cons, List.length_nil]; omega)
   have c2 : sCatOK ([108, 97, 116, 116, 105, 99, 101, 32] ++ n) [32, 123, 32] = true := sCatOK_le (by rw [hne]; simp only [List.length_append, List.length_cons, List.length_nil]; omega)
   have hh : [108, 97, 116, 116, 105, 99, 101, 32] ++ n ++ [32, 123, 32] = headT t := by rw [hne]; rfl
   have hhl : (headT t).length <= 2000000 := by unfold headT; simp only [List.length_append, List.length_cons, List.length_nil]; omega
   have c3 : sCatOK (headT t) (Lib.join ((upto 0 t.elems.length).map (elemTxt t)) [59, 32]) = true := sCatOK_le (by omega)
   have c4 : sCatOK (headT t ++ Lib.join ((upto 0 t.elems.length).map (elemTxt t)) [59, 32]) [32, 125] = true := sCatOK_le (by rw [List.length_append]; simp only [List.length_cons, List.length_nil]; omega)
   have et : textT t = headT t ++ Lib.join ((upto 0 t.elems.length).map (elemTxt t)) [59, 32] ++ [32, 125] := by unfold textT; rw [hbj]
   apply L40_2_step
   simp only [iLt_end, cond_false, sCat_eq, c1, cond_true, c2, natEq_self, hrow, oS, hj84, scalar_str, str?_str, hh, c3, c4, et]
 . intro h1 g
   have hul : ((upto 0 i).map (elemTxt t)).length = i := by rw [List.length_map, upto_len, Nat.sub_zero]
   obtain ⟨b1, b2⟩ := app_strs (l := (upto 0 i).map (elemTxt t)) (elemTxt t i) (by omega)
   rw [hul] at b1
   have etk : (upto 0 i).map (elemTxt t) ++ [elemTxt t i] = (upto 0 (i + 1)).map (elemTxt t) := by rw [upto_snoc, List.map_append]; rfl
   rw [etk] at b2
   have k1 := ih (by omega) (g + 1)
   apply L40_2_step
   simp only [iLt_len hi, cond_true, h.d4, oS, agg4, nth0, nth1, nth2, nth3, str?_str, elem_txt hg hs h hi (h0 i hi), scalar_str, natEq_self, b1, b2, objS, appGen_one, appLen_one, iAdd_nat (show i < 1000000 by omega), k1]
theorem textP_ok (hc : checkB t = true) (h0 : ∀ i, i < t.elems.length -> nameAt t i ≠ []) : fnO acfg 40 [tblT n e a w] = some (.tup [.str (textT t), .int .i64 0]) := by
 have hck := check_spec h hs
 rw [hc] at hck
 simp only [cond_true] at hck
 have h1 := hg.e1
 have hz : iLt 0 (t.elems.length : Int) = true := by rw [iLt0]; exact decide_eq_true (by omega)
 have he := elem_txt hg hs h (i := 0) (by omega) (h0 0 (by omega))
 rw [Int.natCast_zero] at he
 have hrow : rowNew [] [V.t (T.str (elemTxt t 0))] = cellsT (((upto 0 1).map (elemTxt t)).map .str) := rowNew_one (xs := []) (ys := [.str (elemTxt t 0)]) OneL.nil (OneL.cons rfl OneL.nil)
 have hi1 : iAdd IntKind.i64 0 1 = ((1 : Nat) : Int) := by decide
 have k1 := all_txt hg hs h h0 1 (by omega) (Nat.le_refl _) 1
 have key : L40_1 n e a w (t.elems.length : Int) 0 = some (.tup [.str (textT t), .int .i64 0]) := by
  apply L40_1_step
  simp only [hz, cond_true, h.d4, oS, agg4, nth0, nth1, nth2, nth3, str?_str, he, scalar_str, hrow, hi1, k1]
 apply fn40
 simp only [h.v4, cond_true, h.d4, oS, agg4, nth0, nth1, nth2, nth3, str?_str, hck, scalar_int, int?_int, i00, bNot, Bool.not_true, cond_false, h.f1, h.d1, h.e.lenD, key]
end
theorem textP_bad {t : Tbl} {n : List UInt8} {e a w : T} (h : IsTbl t n e a w) (hs : Small t) (hc : checkB t = false) : fnO acfg 40 [tblT n e a w] = some (.tup [.str [], .int .i64 4]) := by
 have hck := check_spec h hs
 rw [hc] at hck
 simp only [cond_false] at hck
 apply fn40
 simp only [h.v4, cond_true, h.d4, oS, agg4, nth0, nth1, nth2, nth3, str?_str, hck, scalar_int, int?_int, i40, bNot, Bool.not_false]
theorem names_full {t : Tbl} (hc : checkB t = true) : ∀ i, i < t.elems.length -> nameAt t i ≠ [] := by
 intro i hi he
 simp only [checkB, Bool.and_eq_true, List.all_eq_true, mem_upto] at hc
 have := hc.1.2 i ⟨Nat.zero_le _, hi⟩
 unfold nameAt at he
 simp only [freshB, he, Bool.and_eq_true] at this
 exact absurd this.1 (by decide)
end Go.Proofs.Try

open Go Go.Apex Go.StepsTo Go.Lat
namespace Go.Proofs.Try
def cellOf (l : List Nat) : C := match l with | [] => .v (.t .nils) | k :: r => .own 3 none (natsT (k :: r))
def slOf (l : List Nat) : T := match l with | [] => .nils | k :: r => .sl false 1 (natsT (k :: r))
theorem cellOf_toV (l : List Nat) : (cellOf l).toV = .t (slOf l) := by cases l <;> rfl
theorem cellOf_flat (l : List Nat) : (cellOf l).flat = true := by cases l <;> rfl
theorem slOf_is (l : List Nat) : IsSl (natsT l) (slOf l) := by
 cases l with
 | nil => exact .nil rfl
 | cons k r => exact .sl false
def covB (t : Tbl) (a b : Nat) : Bool := belowB t a b && (upto 0 t.elems.length).all fun c => !(belowB t a c && belowB t c b)
theorem setR_one {α : Type} {cs : List α} {p : Nat} {x : α} (h : p < cs.length) : setRange cs p [x] = cs.set p x := by
 unfold setRange
 rw [List.set_eq_take_append_cons_drop, if_pos h]
 simp
theorem put_junkC {cs : List C} {p : Nat} {x : C} (h : p < cs.length) : putC (junkC cs p 1) p [x] = cs.set p x := by
 unfold putC junkC
 rw [show List.replicate 1 (C.v V.junk) = [C.v V.junk] from rfl, setR_one h, setR_one (by rw [List.length_set]; exact h), List.set_set]
theorem put_junk1 {cs : List C} {p : Nat} {x : C} (h : p < cs.length) : putC (junk1 cs p) p [x] = cs.set p x := by
 unfold putC junk1
 rw [setR_one (by rw [List.length_set]; exact h), List.set_set]
theorem fitC_lt {cs : List C} {p : Nat} (h : p < cs.length) : fitC cs p 1 = true := decide_eq_true (by omega)
theorem fitC_junk1 {cs : List C} {p : Nat} (h : p < cs.length) : fitC (junk1 cs p) p 1 = true := decide_eq_true (by unfold junk1; rw [List.length_set]; omega)
theorem nest_bd {n g e : Nat} {cs : List C} (h : ∀ c ∈ cs, C.flat c = true) : objBd n (.nest g e cs none) = true := by
 have e1 : objBd n (.nest g e cs none) = ((cs.all fun c => match c with | .v x => V.bd n x | .own .. => true) && true) := rfl
 rw [e1, Bool.and_true, List.all_eq_true]
 intro c hc
 have := h c hc
 cases c with
 | v x =>
  cases x with
  | t y => rfl
  | _ => simp [C.flat] at this
 | own => rfl
theorem flat_set {cs : List C} (h : ∀ c ∈ cs, C.flat c = true) (p : Nat) (l : List Nat) : ∀ c ∈ cs.set p (cellOf l), C.flat c = true := fun c hc => by
 rcases List.mem_or_eq_of_mem_set hc with hc | rfl
 . exact h c hc
 . exact cellOf_flat l
theorem len1 {α : Type} (v : α) : List.length [v] = 1 := rfl
theorem ownV_nats : ∀ l : List Nat, ownV (natsT l) = cellsT (natsT l)
 | [] => rfl
 | k :: l => by
  have := ownV_nats l
  unfold ownV ownCells at this ⊢
  simp only [List.map_cons, List.flatMap_cons, T.cells, List.singleton_append] at this ⊢
  rw [this]
section
variable {t : Tbl} (R : Rt t)
include R
theorem cov_next {a : Nat} (ha : a < t.elems.length) : (upto 0 t.elems.length).filter (covB t a) = nextN t a := by
 unfold nextN
 rw [List.filter_filter]
 refine List.filter_congr fun x hx => ?_
 have hx := mem_upto0.1 hx
 unfold covB
 rw [Bool.and_comm (belowB t a x)]
 rw [Bool.eq_iff_iff]
 simp only [Bool.and_eq_true, List.all_eq_true, mem_upto0, Bool.not_eq_true', Bool.and_eq_false_iff, List.any_eq_false, List.mem_filter, decide_eq_false_iff_not, Bool.not_eq_true, decide_eq_true_eq]
 constructor
 . rintro ⟨h1, h2⟩
   refine ⟨fun c hc hq => ?_, h2⟩
   rcases h1 c hc.1 with h | h
   . rw [hc.2] at h; cases h
   . have e := hq.2
     unfold leB at e
     rw [h, Bool.or_false, decide_eq_true_eq] at e
     exact hq.1 e.symm
 . rintro ⟨h1, h2⟩
   refine ⟨fun c hc => ?_, h2⟩
   cases hac : belowB t a c with
   | false => exact .inl rfl
   | true =>
    refine .inr ?_
    have e := h1 c ⟨hc, hac⟩
    by_cases q : x = c
    . subst q
      exact R.l.acy x hx
    . cases hb : belowB t c x with
      | false => rfl
      | true => exact absurd ⟨q, by unfold leB; rw [hb, Bool.or_true]⟩ e
variable {n : List UInt8} {e a w : T} (h : IsTbl t n e a w)
include h
theorem steps_B {c b : Nat} (hc : c < t.elems.length) (hb : b < t.elems.length) : fnO acfg 85 [tblT n e a w, .int .i64 (c : Int), .int .i64 (b : Int)] = some (.bool (belowB t c b)) := by
 rw [steps_spec R.g h hc hb, both_spec R.g h hc b]
 rfl
variable {e' w' : T}
theorem in41_3 {i b : Nat} (hi : i < t.elems.length) (hb : b < t.elems.length) {cs : List C} (hl : cs.length = t.elems.length) (hf : ∀ c ∈ cs, C.flat c = true) {cur : List Nat} (hc : cs[i]? = some (cellOf cur)) (hcl : cur.length <= b) {r : T} :
  ∀ c, c <= t.elems.length -> ∀ is : Bool,
   L41_2 n e a w (i : Int) ((b + 1 : Nat) : Int) [] 1 (if (is && (upto c t.elems.length).all fun c => !(belowB t i c && belowB t c b)) = true then cs.set i (cellOf (cur ++ [b])) else cs) n e' 1 0 t.elems.length w' = some r →
   L41_3 n e a w (i : Int) (b : Int) is (c : Int) [] 1 cs n e' 1 0 t.elems.length w' = some r := by
 have h12 := R.g.e12
 have hlt : i < cs.length := by omega
 have hbd : ∀ k, objBd k (Go.Apex.Obj.nest 1 38 cs none) = true := fun _ => nest_bd hf
 have hbs : ∀ (k : Nat) (l : List Nat), objBd k (Go.Apex.Obj.nest 1 38 (cs.set i (cellOf l)) none) = true := fun _ l => nest_bd (flat_set hf i l)
 have iadb : iAdd .i64 (b : Int) 1 = ((b + 1 : Nat) : Int) := iAdd_nat (by omega)
 have ro : rowOff 0 (i : Int) 1 = i := by rw [rowOff_1, Nat.zero_add]
 refine upto_induct ?_ fun c hc' ih => ?_
 . intro is hr
   rw [upto_end (Nat.le_refl _)] at hr
   simp only [List.all_nil, Bool.and_true] at hr
   apply L41_3_step
   cases is with
   | false =>
    simp only [Bool.false_eq_true, if_false] at hr
    simp only [h.f1, h.d1, oS, h.e.lenD, iLt_end, cond_false, hbd, cond_true, iadb, hr]
   | true =>
    simp only [if_true] at hr
    cases cur with
    | nil =>
     have ho : isOwn cs i = false := by unfold isOwn; rw [hc]; rfl
     have hv : isVal cs i = true := by unfold isVal; rw [hc]; rfl
     have hrow : rowC none cs i = some .nils := by unfold rowC; rw [hc]; rfl
     have hbase : baseT none 1 .nils = some [] := rfl
     have hnew : newOK (List.length ([] : List T)) 1 8 = true := newOK_small (by simp only [List.length_nil, maxB]; omega)
     have hrt : rowT none (rowNew [] [V.t (T.int .i64 (b : Int))]) 0 (lenNew [] [V.t (T.int .i64 (b : Int))]) = some (natsT [b]) := by
      have e1 := rowNew_one (xs := []) (ys := natsT [b]) OneL.nil (one_nats _)
      have e2 := rowT_all (one_nats [b])
      rw [List.nil_append] at e1
      have e3 : rowNew [] [V.t (T.int .i64 (b : Int))] = cellsT (natsT [b]) := e1
      rw [e3]
      exact e2
     have hcell : C.own 3 none (natsT [b]) = cellOf ([] ++ [b]) := rfl
     simp only [h.f1, h.d1, oS, h.e.lenD, iLt_end, cond_false, cond_true, rowIn_lt hi, natEq_self, ro, ho, hv, hrow, hbase, hnew, len1, fitC_lt hlt, hrt, put_junkC hlt, hcell, hbs, iadb, hr]
    | cons k l =>
     have ho : isOwn cs i = true := by unfold isOwn; rw [hc]; rfl
     have hx : ownX 3 none cs i = some (natsT (k :: l)) := by unfold ownX; rw [hc]; rfl
     have happ : appOK (cellsT (natsT (k :: l))) 0 (lenX (natsT (k :: l))) 1 [V.t (T.int .i64 (b : Int))] 8 = true := appOK_row (ys := natsT [b]) (by simp [lenX]) (by unfold lenX; simp only [List.length_map, maxB, List.length_cons, List.length_nil] at hcl ⊢; omega)
     have hcs : appCs (cellsT (natsT (k :: l))) 0 [V.t (T.int .i64 (b : Int))] = cellsT (natsT (k :: l ++ [b])) := by
      have := appCs_one (cs := natsT (k :: l)) (ys := natsT [b]) (off := 0) (one_nats _) (by simp)
      rw [List.drop_zero] at this
      have e : natsT (k :: l ++ [b]) = natsT (k :: l) ++ natsT [b] := by unfold natsT; rw [List.map_append]
      rw [e]
      exact this
     have hln : appLen (lenX (natsT (k :: l))) [V.t (T.int .i64 (b : Int))] = (natsT (k :: l ++ [b])).length := by simp [lenX, appLen]
     have hof : appOff 0 [V.t (T.int .i64 (b : Int))] = 0 := rfl
     have hrt := rowT_all (one_nats (k :: l ++ [b]))
     have hcell : C.own 3 none (natsT (k :: l ++ [b])) = cellOf (k :: l ++ [b]) := rfl
     simp only [h.f1, h.d1, oS, h.e.lenD, iLt_end, cond_false, cond_true, rowIn_lt hi, natEq_self, ro, ho, hx, ownV_nats, happ, len1, fitC_junk1 hlt, hcs, hof, hln, hrt, put_junk1 hlt, hcell, hbs, iadb, hr]
 . intro is hr
   rw [upto_step hc', List.all_cons] at hr
   have iadc : iAdd .i64 (c : Int) 1 = ((c + 1 : Nat) : Int) := iAdd_nat (by omega)
   apply L41_3_step
   cases is with
   | false =>
    have := ih false (by simpa using hr)
    simp only [h.f1, h.d1, oS, h.e.lenD, iLt_len hc', cond_true, cond_false, hbd, iadc, this]
   | true =>
    cases h1 : belowB t i c with
    | false =>
     rw [h1] at hr
     have := ih true (by simpa using hr)
     simp only [h.f1, h.d1, oS, h.e.lenD, iLt_len hc', cond_true, cond_false, h.d4, agg4, nth0, nth1, nth2, nth3, str?_str, steps_B R h hi hc', h1, scalar_bool, bool?_bool, hbd, bNot, Bool.not_false, iadc, this]
    | true =>
     rw [h1] at hr
     have := ih (!belowB t c b) (by simpa using hr)
     simp only [h.f1, h.d1, oS, h.e.lenD, iLt_len hc', cond_true, h.d4, agg4, nth0, nth1, nth2, nth3, str?_str, steps_B R h hi hc', steps_B R h hc' hb, h1, scalar_bool, bool?_bool, hbd, bNot, iadc, this]
theorem in41_2 {i : Nat} (hi : i < t.elems.length) {r : T} : ∀ b, b <= t.elems.length -> ∀ (cs : List C) (cur : List Nat), cs.length = t.elems.length -> (∀ c ∈ cs, C.flat c = true) -> cs[i]? = some (cellOf cur) -> cur.length <= b →
   L41_1 n e a w ((i + 1 : Nat) : Int) [] 1 (cs.set i (cellOf (cur ++ (upto b t.elems.length).filter (covB t i)))) n e' 1 0 t.elems.length w' = some r →
   L41_2 n e a w (i : Int) (b : Int) [] 1 cs n e' 1 0 t.elems.length w' = some r := by
 have h12 := R.g.e12
 have iadi : iAdd .i64 (i : Int) 1 = ((i + 1 : Nat) : Int) := iAdd_nat (by omega)
 have same : ∀ (cs : List C) (cur : List Nat), cs[i]? = some (cellOf cur) -> cs.set i (cellOf cur) = cs := fun cs cur hc => by
  obtain ⟨h1, h2⟩ := gS.1 hc
  rw [<- h2]
  exact List.set_getElem_self h1
 refine upto_induct ?_ fun b hb ih => ?_
 . intro cs cur hl hf hc hcl hr
   rw [upto_end (Nat.le_refl _), List.filter_nil, List.append_nil, same cs cur hc] at hr
   have hbd : ∀ k, objBd k (Go.Apex.Obj.nest 1 38 cs none) = true := fun _ => nest_bd hf
   apply L41_2_step
   simp only [h.f1, h.d1, oS, h.e.lenD, iLt_end, cond_false, hbd, cond_true, iadi, hr]
 . intro cs cur hl hf hc hcl hr
   have hbd : ∀ k, objBd k (Go.Apex.Obj.nest 1 38 cs none) = true := fun _ => nest_bd hf
   rw [upto_step hb, List.filter_cons] at hr
   have key := in41_3 R h (e' := e') (w' := w') (r := r) hi hb hl hf hc hcl 0 (Nat.zero_le _) (belowB t i b) (by
    cases hcv : covB t i b with
    | true =>
     have hcv2 : (belowB t i b && (upto 0 t.elems.length).all fun c => !(belowB t i c && belowB t c b)) = true := hcv
     rw [if_pos hcv2]
     rw [if_pos hcv] at hr
     refine ih _ (cur ++ [b]) (by rw [List.length_set]; exact hl) (flat_set hf i _) (List.getElem?_set_self (by omega)) (by rw [List.length_append, List.length_singleton]; omega) ?_
     rw [List.set_set, List.append_assoc]
     exact hr
    | false =>
     have hcv2 : ¬ (belowB t i b && (upto 0 t.elems.length).all fun c => !(belowB t i c && belowB t c b)) = true := by
      have : (belowB t i b && (upto 0 t.elems.length).all fun c => !(belowB t i c && belowB t c b)) = false := hcv
      rw [this]; decide
     rw [if_neg hcv2]
     rw [if_neg (by rw [hcv]; decide)] at hr
     exact ih cs cur hl hf hc (by omega) hr)
   rw [Int.natCast_zero] at key
   apply L41_2_step
   simp only [h.f1, h.d1, oS, h.e.lenD, iLt_len hb, cond_true, h.d4, agg4, nth0, nth1, nth2, nth3, str?_str, steps_B R h hi hb, scalar_bool, bool?_bool, hbd, key]
theorem out41 (he : IsSl (t.elems.map .str) e') (hw : IsSl (t.wrong.map .bool) w') : ∀ i, i <= t.elems.length -> ∀ cs : List C, cs.length = t.elems.length -> (∀ c ∈ cs, C.flat c = true) -> (∀ j, j < i -> cs[j]? = some (cellOf (nextN t j))) →
  ∃ a', L41_1 n e a w (i : Int) [] 1 cs n e' 1 0 t.elems.length w' = some (.tup [tblT n e' a' w', .int .i64 0]) /\ IsTbl (slimT t) n e' a' w' := by
 have h12 := R.g.e12
 have vm : ∀ (i g o l : Nat), vfits (.agg [.t (T.str n), .t e', .msl i g o l none, .t w']) (some 4) = true := fun i g o l => by
  show (true && (4 == 4) && ((T.str n).one && (e'.one && (true && (w'.one && true))))) = true
  rw [he.one, hw.one]
  rfl
 refine upto_induct ?_ fun i hi ih => ?_
 . intro cs hl hf hc
   obtain ⟨rs, hrs⟩ : ∃ rs : List T, rs = (upto 0 t.elems.length).map fun i => slOf (nextN t i) := ⟨_, rfl⟩
   have hrl : rs.length = t.elems.length := by rw [hrs, List.length_map, upto_len, Nat.sub_zero]
   have hro : OneL rs := by rw [hrs]; exact OneL.map (fun i => (slOf_is _).one) _
   have hcs : cs.map C.toV = cellsT rs := by
    apply List.ext_getElem?
    intro j
    rw [List.getElem?_map, List.getElem?_map, hrs, List.getElem?_map]
    by_cases hj : j < t.elems.length
    . rw [hc j hj, upto_get hj]
      simp only [Option.map_some, cellOf_toV]
    . rw [List.getElem?_eq_none (by omega), List.getElem?_eq_none (by rw [upto_len]; omega)]
      rfl
   have hnt : nestT none cs 0 t.elems.length = some rs := by
    unfold nestT
    rw [hcs, <- hrl]
    exact rowT_all hro
   refine ⟨.sl false 1 rs, ?_, h.n, he, ⟨rs, .sl _, by rw [hrl, slim_al], fun j hj => ?_⟩, hw⟩
   . apply L41_1_step
     simp only [h.f1, h.d1, oS, h.e.lenD, iLt_end, cond_false, vm, cond_true, natEq_self, hnt]
   . rw [slim_al] at hj
     rw [slim_at hj, ints_nats, hrs, gD, List.getElem?_map, upto_get hj]
     exact slOf_is _
 . intro cs hl hf hc
   have hlt : i < cs.length := by omega
   have ro : rowOff 0 (i : Int) 1 = i := by rw [rowOff_1, Nat.zero_add]
   have hcell : C.v (V.t T.nils) = cellOf [] := rfl
   obtain ⟨a', ha, hb⟩ := ih (cs.set i (cellOf (nextN t i))) (by rw [List.length_set]; exact hl) (flat_set hf i _) fun j hj => by
    by_cases ej : i = j
    . subst ej; exact List.getElem?_set_self hlt
    . rw [List.getElem?_set_ne ej]; exact hc j (by omega)
   refine ⟨a', ?_, hb⟩
   have hbd : ∀ k, objBd k (Go.Apex.Obj.nest 1 38 (cs.set i (cellOf [])) none) = true := fun _ => nest_bd (flat_set hf i [])
   have key := in41_2 R h (e' := e') (w' := w') hi 0 (Nat.zero_le _) (cs.set i (cellOf [])) [] (by rw [List.length_set]; exact hl) (flat_set hf i []) (List.getElem?_set_self hlt) (Nat.le_refl _) (r := .tup [tblT n e' a' w', .int .i64 0]) (by
    rw [List.set_set, List.nil_append, cov_next R hi]
    exact ha)
   rw [Int.natCast_zero] at key
   apply L41_1_step
   simp only [h.f1, h.d1, oS, h.e.lenD, iLt_len hi, cond_true, rowIn_lt hi, natEq_self, ro, len1, fitC_lt hlt, put_junkC hlt, hcell, hbd, key]
theorem slimR_ok : ∃ e' a' w', fnO acfg 41 [tblT n e a w] = some (.tup [tblT n e' a' w', .int .i64 0]) /\ IsTbl (slimT t) n e' a' w' := by
 have hla : fnO acfg 43 [tblT n e a w] = some (.int .i64 0) := by rw [isLat_spec h R.s R.th, R.er]
 have hal : t.above.length = t.elems.length := R.g.a
 have h1 := R.g.e1
 obtain ⟨e', w', rs, p, p1, p2, p3, r2, r3, i1, i2⟩ := copy_row h R.s (by omega)
 have hag : aggRow 2 (List.length [(9, (0, false)), (22, (1, false)), (23, (2, false)), (24, (3, false))]) 38 none p = some ([.str n, e', .nils, w'], 0, t.above.length, cellsT rs) := p3
 have hfl : ∀ c ∈ nestOf (cellsT rs), C.flat c = true := fun c hc => by
  unfold nestOf at hc
  rw [List.map_map] at hc
  obtain ⟨x, _, rfl⟩ := List.mem_map.1 hc
  rfl
 have hnl : (nestOf (cellsT rs)).length = t.elems.length := by unfold nestOf; rw [List.length_map, List.length_map, r3, hal]
 obtain ⟨a', ha, hb⟩ := out41 R h i1 i2 0 (Nat.zero_le _) (nestOf (cellsT rs)) hnl hfl fun j hj => by omega
 rw [Int.natCast_zero] at ha
 refine ⟨e', a', w', ?_, hb⟩
 have vm : ∀ (i g o l : Nat), vfits (.agg [.t (T.str n), .t e', .msl i g o l none, .t w']) (some 4) = true := fun i g o l => by
  show (true && (4 == 4) && ((T.str n).one && (e'.one && (true && (w'.one && true))))) = true
  rw [i1.one, i2.one]
  rfl
 rw [hal] at hag
 have hi0 : bNot (iEq 0 0) = false := rfl
 apply fn41
 simp only [h.v4, cond_true, h.d4, oS, agg4, nth0, nth1, nth2, nth3, str?_str, hla, scalar_int, int?_int, hi0, cond_false, p1, p2, hag, vm, nest_bd hfl, ha]
end
end Go.Proofs.Try

open Go Go.Apex Go.StepsTo Go.Lat
namespace Go.Proofs.Try
section
variable {t : Tbl} (R : Rt t)
include R
variable {n : List UInt8} {e1 a1 w1 : T} (hS : IsTbl (slimT t) n e1 a1 w1)
include hS
end
end Go.Proofs.Try

open Go Go.Apex Go.StepsTo Go.Lat
namespace Go.Proofs.Try
theorem t2h (x y : T) : T.tup? (List.length [26, 30]) (.tup [x, y]) = some [x, y] := rfl
section
variable {t : Tbl} (R : Rt t) {n : List UInt8} {te ta tw : T} (h : IsTbl t n te ta tw) {e1 a1 w1 : T} (hS : IsTbl (slimT t) n e1 a1 w1)
include R h hS
end
end Go.Proofs.Try

open Go Go.Apex Go.StepsTo Go.Lat
namespace Go.Proofs.Try
theorem t2i (x y : T) : T.tup? (List.length [9, 30]) (.tup [x, y]) = some [x, y] := rfl
theorem scsi (s : List UInt8) (z : Int) : T.scalar (.tup [.str s, .int .i64 z]) = true := rfl
def noT : Tbl := ⟨[], [], [], []⟩
theorem isNo : IsTbl noT [] .nils .nils .nils := ⟨rfl, .nil rfl, ⟨[], .nil rfl, rfl, fun i hi => absurd hi (Nat.not_lt_zero i)⟩, .nil rfl⟩
theorem small_no : Small noT := ⟨(by decide), (by decide), (fun s h => absurd h (List.not_mem_nil)), (by decide), (fun l h => absurd h (List.not_mem_nil)), (by decide)⟩
section
variable {t : Tbl} {n : List UInt8} {e a w : T} (h : IsTbl t n e a w) (ht : thinB t = true)
include h ht
theorem slimP_all : ∃ n' e' a' w' u, fnO acfg 39 [tblT n e a w] = some (.tup [tblT n' e' a' w', .int .i64 (errL t [])]) /\ IsTbl u n' e' a' w' /\ u = if errL t [] = 0 then slimT t else noT := by
 have hs := small_of_thin ht
 by_cases he : errL t [] = 0
 . obtain ⟨hc, hb, _⟩ := errL_ok he
   obtain ⟨e', a', w', h1, h2⟩ := slim_spec h ⟨ht, he, hc, hb⟩
   exact ⟨n, e', a', w', slimT t, by rw [he]; exact h1, h2, by rw [if_pos he]⟩
 . refine ⟨[], .nils, .nils, .nils, noT, ?_, isNo, by rw [if_neg he]⟩
   have hl := lattice_spec h hs ht (us := .nils) (l := []) (.nil rfl) (by simp)
   rw [if_neg he] at hl
   have hi : bNot (iEq (errL t []) 0) = true := by rw [iEq_errL, decide_eq_false he]; rfl
   apply fn39
   simp only [h.v4, cond_true, h.d4, agg4, nth0, nth1, nth2, nth3, str?_str, oS, hl, t2a, nt1, nt0, int?_int, hi]
theorem slimR_all : ∃ n' e' a' w' u, fnO acfg 41 [tblT n e a w] = some (.tup [tblT n' e' a' w', .int .i64 (errL t [])]) /\ IsTbl u n' e' a' w' /\ u = if errL t [] = 0 then slimT t else noT := by
 have hs := small_of_thin ht
 by_cases he : errL t [] = 0
 . obtain ⟨hc, hb, _⟩ := errL_ok he
   obtain ⟨e', a', w', h1, h2⟩ := slimR_ok ⟨ht, he, hc, hb⟩ h
   exact ⟨n, e', a', w', slimT t, by rw [he]; exact h1, h2, by rw [if_pos he]⟩
 . refine ⟨[], .nils, .nils, .nils, noT, ?_, isNo, by rw [if_neg he]⟩
   have hl := isLat_spec h hs ht
   have hi : bNot (iEq (errL t []) 0) = true := by rw [iEq_errL, decide_eq_false he]; rfl
   apply fn41
   simp only [h.v4, cond_true, h.d4, agg4, nth0, nth1, nth2, nth3, str?_str, oS, hl, scalar_int, int?_int, hi]
def txtV (t : Tbl) : List UInt8 × Int := if checkB t = true then (textT t, 0) else ([], 4)
theorem textP_all : fnO acfg 40 [tblT n e a w] = some (.tup [.str (txtV t).1, .int .i64 (txtV t).2]) := by
 have hs := small_of_thin ht
 unfold txtV
 cases hc : checkB t with
 | true => rw [if_pos rfl]; exact textP_ok (good_of hc ht) hs h hc (names_full hc)
 | false => rw [if_neg (by decide)]; exact textP_bad h hs hc
theorem textR_all : fnO acfg 42 [tblT n e a w] = some (.tup [.str (txtV t).1, .int .i64 (txtV t).2]) := by
 have hs := small_of_thin ht
 unfold txtV
 cases hc : checkB t with
 | true => rw [if_pos rfl]; exact textR_ok (good_of hc ht) hs h hc
 | false => rw [if_neg (by decide)]; exact textR_bad h hs hc
end
theorem all_slims {t : Tbl} {n : List UInt8} {e a w : T} (h : IsTbl t n e a w) (haw : fnO acfg 14 [] = some (.bool true)) : fnO acfg 11 [tblT n e a w] = some (.bool true) := by
 apply fn11
 cases ht : thinB t with
 | false => simp only [h.v4, cond_true, h.d4, oS, agg4, nth0, nth1, nth2, nth3, str?_str, thin_spec h, ht, scalar_bool, bool?_bool, bNot, Bool.not_false, haw]
 | true =>
  have hs := small_of_thin ht
  obtain ⟨ec, ac, wc, c1, c2⟩ := copy_spec h hs
  obtain ⟨n1, e1, a1, w1, u, p1, p2, p3⟩ := slimP_all c2 ht
  obtain ⟨n2, e2, a2, w2, u2, q1, q2, q3⟩ := slimR_all h ht
  rw [<- p3] at q3
  subst q3
  have hsu : Small u2 := by
   rw [p3]
   split
   . rename_i he
     obtain ⟨hc, hb, _⟩ := errL_ok he
     exact (slim_rt ⟨ht, he, hc, hb⟩).s
   . exact small_no
  have s1 := sameTable_spec p2 q2 hsu
  have s2 := sameTable_spec c2 h hs
  have se : ∀ z : List UInt8, sEq z z = true := fun z => by simp [sEq]
  have ie : ∀ z : Int, iEq z z = true := fun z => by simp [iEq]
  simp only [h.v4, cond_true, h.d4, oS, agg4, nth0, nth1, nth2, nth3, str?_str, thin_spec h, ht, scalar_bool, bool?_bool, bNot, Bool.not_true, cond_false, c1, c2.v4, c2.d4, p1, t2h, nt0, nt1, int?_int, p2.v4, p2.d4, textP_all c2 ht, scsi, t2i, q1, q2.v4, q2.d4, textR_all h ht, s1, ie, se, s2, haw]
end Go.Proofs.Try
