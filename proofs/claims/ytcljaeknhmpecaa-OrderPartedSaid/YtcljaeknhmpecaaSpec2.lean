import Derived.Test.YtcljaeknhmpecaaSpec
import Derived.Test.YtcljaeknhmpecaaEqs
set_option linter.all false
set_option linter.unusedVariables false
set_option linter.unusedSimpArgs false
set_option linter.unusedSectionVars false
set_option linter.deprecated false
/- OrderParted: each element is the join of its parts. -/
open Go Go.Apex Go.StepsTo Go.Lat
namespace Go.Proofs.Try
theorem prime_iff {t : Tbl} (hg : Good t) (G : GL t) {p : Nat} : primeB t p = true ↔ IsPrime t.elems.length (leB t) p := by
  unfold primeB IsPrime
  simp only [Bool.and_eq_true, List.all_eq_true, mem_upto0, Bool.not_eq_true', decide_eq_false_iff_not]
  constructor
  · rintro ⟨h1, h2⟩
    refine ⟨h2, fun a b ha hb hj => ?_⟩
    have := h1 a ha b hb
    unfold badP at this
    have e := hj.uniq (gl_lat hg G) (join_isJ G ha hb)
    rw [← e] at this
    by_cases h3 : a = p
    · exact .inl h3
    · by_cases h4 : b = p
      · exact .inr h4
      · simp [h3, h4] at this
  · rintro ⟨h1, h2⟩
    refine ⟨fun a ha b hb => ?_, h1⟩
    unfold badP
    by_cases h3 : joinN t a b = p
    · have := join_isJ G ha hb
      rw [h3] at this
      rcases h2 a b ha hb this with h4 | h4 <;> simp [h4]
    · simp [h3]
theorem mem_parts {t : Tbl} {z q : Nat} : q ∈ partsN t z ↔ (q < t.elems.length ∧ leB t q z = true ∧ primeB t q = true) ∧ ∀ b, b < t.elems.length → leB t b z = true → primeB t b = true → q ≠ b → leB t q b = true → False := by
  unfold partsN greatestN
  simp only [List.mem_filter, mem_upto0, Bool.and_eq_true, Bool.not_eq_true', List.any_eq_false, decide_eq_false_iff_not, not_and]
  constructor
  · rintro ⟨h1, h2⟩
    exact ⟨⟨h1.1, h1.2.1, h1.2.2⟩, fun b hb h3 h4 h5 h6 => h2 b ⟨hb, h3, h4⟩ h5 h6⟩
  · rintro ⟨h1, h2⟩
    exact ⟨⟨h1.1, h1.2.1, h1.2.2⟩, fun b hb h5 h6 => h2 b hb.1 hb.2.1 hb.2.2 h5 h6⟩
theorem parts_nodup (t : Tbl) (z : Nat) : (partsN t z).Nodup := ((upto_nodup 0 t.elems.length).filter _).filter _
theorem parts_len (t : Tbl) (z : Nat) : (partsN t z).length ≤ t.elems.length := by
  refine Nat.le_trans (List.length_filter_le _ _) (Nat.le_trans (List.length_filter_le _ _) ?_)
  simp [upto]
section
variable {t : Tbl} (hg : Good t) (G : GL t)
include hg G
theorem below_part {p z : Nat} (hp : p < t.elems.length) (hpz : leB t p z = true) (hpr : primeB t p = true) : ∃ q, q ∈ partsN t z ∧ leB t p q = true := by
  obtain ⟨q, ⟨q1, q2, q3⟩, h1, h2⟩ := (gl_lat hg G).below_max (S := fun x => x < t.elems.length ∧ leB t x z = true ∧ primeB t x = true) (fun x hx => hx.1) _ p ⟨hp, hpz, hpr⟩ (Nat.le_refl _)
  exact ⟨q, mem_parts.2 ⟨⟨q1, q2, q3⟩, fun b hb h3 h4 h5 h6 => h2 b ⟨hb, h3, h4⟩ h5 h6⟩, h1⟩
theorem foldl_joins {z : Nat} (hz : z < t.elems.length) : ∀ (l : List Nat) (j : Nat), j < t.elems.length → leB t j z = true → (∀ k ∈ l, k < t.elems.length ∧ leB t k z = true) →
    l.foldl (joinN t) j < t.elems.length ∧ leB t (l.foldl (joinN t) j) z = true ∧ leB t j (l.foldl (joinN t) j) = true ∧ ∀ k ∈ l, leB t k (l.foldl (joinN t) j) = true
  | [], j, hj, hjz, _ => ⟨hj, hjz, le_refl t j, fun k hk => by cases hk⟩
  | x :: l, j, hj, hjz, hl => by
    obtain ⟨hx, hxz⟩ := hl x (by simp)
    have J := join_isJ G hj hx
    obtain ⟨a1, a2, a3, a4⟩ := foldl_joins hz l (joinN t j x) J.lt (J.least z hz hjz hxz) (fun k hk => hl k (by simp [hk]))
    refine ⟨a1, a2, le_trans' hg hj J.lt J.l a3, fun k hk => ?_⟩
    rcases List.mem_cons.1 hk with rfl | hk
    · exact le_trans' hg hx J.lt J.r a3
    · exact a4 k hk
theorem fold_parts {z : Nat} (hz : z < t.elems.length) : (partsN t z).foldl (joinN t) 0 = z := by
  obtain ⟨a1, a2, _, a4⟩ := foldl_joins hg G hz (partsN t z) 0 hg.e1 (G.bot z hz) (fun k hk => ⟨(mem_parts.1 hk).1.1, (mem_parts.1 hk).1.2.1⟩)
  refine (gl_lat hg G).anti _ _ a1 hz a2 ?_
  refine (gl_lat hg G).primes_dense _ z hz (Nat.le_refl _) _ a1 fun p hp hpr hpz => ?_
  obtain ⟨q, q1, q2⟩ := below_part hg G hp hpz ((prime_iff hg G).2 hpr)
  exact le_trans' hg hp (mem_parts.1 q1).1.1 q2 (a4 q q1)
theorem parts_prime {p : Nat} (hp : p < t.elems.length) (hpr : primeB t p = true) : partsN t p = [p] := by
  have hm : ∀ q, q ∈ partsN t p → q = p := fun q hq => by
    obtain ⟨⟨h1, h2, h3⟩, h4⟩ := mem_parts.1 hq
    exact Classical.byContradiction fun hne => h4 p hp (le_refl t p) hpr hne h2
  obtain ⟨q, q1, _⟩ := below_part hg G hp (le_refl t p) hpr
  have hin : p ∈ partsN t p := by
    have := hm q q1
    subst this
    exact q1
  have hnd := parts_nodup t p
  revert hin hnd hm
  generalize partsN t p = L
  intro hm hin hnd
  match L, hin, hnd, hm with
  | [], hin, _, _ => cases hin
  | [x], _, _, hm => rw [hm x (by simp)]
  | x :: y :: l, _, hnd, hm =>
    have h1 := hm x (by simp)
    have h2 := hm y (by simp)
    rw [h1, h2] at hnd
    simp at hnd
theorem part_below {z y p : Nat} (hz : z < t.elems.length) (hle : leB t z y = true) (hp : p ∈ partsN t z) : ∃ q, q ∈ partsN t y ∧ leB t p q = true := by
  obtain ⟨⟨h1, h2, h3⟩, _⟩ := mem_parts.1 hp
  exact below_part hg G h1 (le_trans' hg h1 hz h2 hle) h3
end
/-- What was collected so far: the parts of the first elements. -/
structure Coll (t : Tbl) (k : Nat) (xs : List T) : Prop where
  len : xs.length = k
  is : ∀ i, i < k → IsSl (natsT (partsN t i)) (xs.getD i .nils)
theorem Coll.one {t : Tbl} {k : Nat} {xs : List T} (C : Coll t k xs) : OneL xs := fun x hx => by
  obtain ⟨i, hi, he⟩ := mem_getD (d := .nils) hx
  rw [← he]
  exact (C.is i (by rw [← C.len]; exact hi)).one
theorem Coll.snoc {t : Tbl} {k : Nat} {xs : List T} (C : Coll t k xs) {x : T} (hx : IsSl (natsT (partsN t k)) x) : Coll t (k + 1) (xs ++ [x]) := by
  refine ⟨by rw [List.length_append, C.len]; rfl, fun i hi => ?_⟩
  by_cases e : i < k
  · have : (xs ++ [x]).getD i .nils = xs.getD i .nils := by
      rw [List.getD_eq_getElem?_getD, List.getElem?_append_left (by rw [C.len]; exact e), List.getD_eq_getElem?_getD]
    rw [this]
    exact C.is i e
  · have : i = k := by omega
    subst this
    have : (xs ++ [x]).getD i .nils = x := by
      rw [List.getD_eq_getElem?_getD, List.getElem?_append_right (by rw [C.len]; exact Nat.le_refl _), C.len, Nat.sub_self]
      rfl
    rw [this]
    exact hx
theorem Coll.cell {t : Tbl} {k : Nat} {xs : List T} (C : Coll t k xs) {i : Nat} (hi : i < k) : rowS none (cellsT xs) (rowOff 0 (i : Int) 1) = some (xs.getD i .nils) := by
  rw [rowOff_1, Nat.zero_add]
  refine rowS_cells ?_
  rw [List.getElem?_eq_getElem (by rw [C.len]; exact hi), List.getD_eq_getElem?_getD, List.getElem?_eq_getElem (by rw [C.len]; exact hi)]
  rfl
theorem sub_one {x : T} {l : List Nat} (hx : IsSl (natsT l) x) {i : Nat} (hi : i < l.length) : ∃ y, subT 1 x (some (i : Int)) (some ((i + 1 : Nat) : Int)) none = some y ∧ IsSl (natsT [l.getD i 0]) y := by
  cases hx with
  | nil h => have : l = [] := List.map_eq_nil_iff.1 h; subst this; cases hi
  | sl ex =>
    refine ⟨.sl (ex && (((i + 1 : Nat) : Int) == (natsT l).length)) 1 (((natsT l).take (i + 1)).drop i), ?_, ?_⟩
    · simp only [subT, Option.getD_some]
      rw [if_pos ⟨trivial, by omega, by omega, by rw [List.length_map]; omega⟩]
      simp
    · have : ((natsT l).take (i + 1)).drop i = natsT [l.getD i 0] := by
        rw [← List.map_take, ← List.map_drop, List.drop_take]
        rw [List.drop_eq_getElem_cons hi, show i + 1 - i = 1 from by omega]
        show natsT [l[i]] = natsT [l.getD i 0]
        rw [List.getD_eq_getElem?_getD, List.getElem?_eq_getElem hi]
        rfl
      rw [this]
      exact .sl _
section
variable {t : Tbl} {n : List UInt8} {e a w : T} (h : IsTbl t n e a w) (R : Rt t)
include h R
theorem elem_in {k : Nat} (hk : k < t.elems.length) : fnO acfg 34 [tblT n e a w, .int .i64 (k : Int)] = some (.bool true) := by
  have h12 := R.g.e12
  have := isElemR h (z := (k : Int)) R.g.e1 (by omega)
  rwa [inB_mk hk] at this
theorem prime_ne0 {k : Nat} (_ : IsTbl t n e a w) (hk : primeB t k = true) : iEq (k : Int) 0 = false := by
  have := ((prime_iff R.g R.l).1 hk).1
  rw [show (0 : Int) = ((0 : Nat) : Int) from rfl, iEq_nat]
  exact decide_eq_false this
theorem fold2 {z : Nat} {x : T} (hx : IsSl (natsT (partsN t z)) x) {r : T} (hr : L9_4 n e a w (t.elems.length : Int) 1 0 1 ((z + 1 : Nat) : Int) 1 (cellsT [x]) = some r) (hz : z < t.elems.length) : ∀ i, i ≤ (partsN t z).length → ∀ j, j < t.elems.length → ((partsN t z).drop i).foldl (joinN t) j = z →
    L9_2 n e a w (t.elems.length : Int) (z : Int) x (j : Int) (i : Int) = some r := by
  have h12 := R.g.e12
  have hpl := parts_len t z
  refine upto_induct ?_ fun i hi ih => ?_
  · intro j hj hf
    rw [List.drop_length] at hf
    simp only [List.foldl_nil] at hf
    subst hf
    have hbase : baseT none 1 .nils = some [] := rfl
    have hnew : newOK ([] : List T).length [V.t x].length 24 = true := rfl
    have hrow : rowNew [] [V.t x] = cellsT [x] := rowNew_one (xs := []) (ys := [x]) OneL.nil (OneL.cons hx.one OneL.nil)
    have hln : lenNew ([] : List T) [V.t x] = 1 := rfl
    apply L9_2_step
    simp only [hx.lenD, Option.bind_some, iLt_end, cond_false, iEq_nn, bNot, Bool.not_true, vfits_one hx.one, cond_true, hbase, hnew, hrow, hln, objBd_cells, iAdd_nat (show j < 1000000 by omega), hr]
  · intro j hj hf
    have hgi : (partsN t z)[i] = (partsN t z).getD i 0 := by rw [List.getD_eq_getElem?_getD, List.getElem?_eq_getElem hi]; rfl
    rw [List.drop_eq_getElem_cons hi, List.foldl_cons, hgi] at hf
    obtain ⟨⟨k1, k2, k3⟩, _⟩ := mem_parts.1 (getD_mem 0 hi)
    have := ih _ (join_lt R.l hj k1) hf
    apply L9_2_step
    simp only [hx.lenD, Option.bind_some, iLt_len hi, cond_true, h.d4, agg4, nth0, nth1, nth2, nth3, str?_str, hx.idxD 0 hi, deref_int, int?_int, elem_in h R k1, scalar_bool, bool?_bool, bNot, Bool.not_true, cond_false, prime_ne0 h R h k3, jn h R hj k1, scalar_int, iLt_n0, iAdd_nat (show i < 1000000 by omega), this]
theorem fold6 {z : Nat} {x : T} (hx : IsSl (natsT (partsN t z)) x) {xs : List T} (C : Coll t z xs) {g : Nat} {r : T} (hr : L9_4 n e a w (t.elems.length : Int) (g + 1) 0 (z + 1) ((z + 1 : Nat) : Int) (g + 1) (cellsT (xs ++ [x])) = some r) (hz : z < t.elems.length) : ∀ i, i ≤ (partsN t z).length → ∀ j, j < t.elems.length → ((partsN t z).drop i).foldl (joinN t) j = z →
    L9_6 n e a w (t.elems.length : Int) g 0 z (z : Int) x (j : Int) (i : Int) g (cellsT xs) = some r := by
  have h12 := R.g.e12
  have hpl := parts_len t z
  have hone := C.one
  refine upto_induct ?_ fun i hi ih => ?_
  · intro j hj hf
    rw [List.drop_length] at hf
    simp only [List.foldl_nil] at hf
    subst hf
    have hok : appOK (cellsT xs) 0 j 1 [V.t x] 24 = true := appOK_row (ys := [x]) (by rw [C.len]; omega) (by simp only [List.length_cons, List.length_nil, maxB]; omega)
    have hcs : appCs (cellsT xs) 0 [V.t x] = cellsT (xs ++ [x]) := by
      have := appCs_one (cs := xs) (ys := [x]) (off := 0) (OneL.cons hx.one OneL.nil) (by simp)
      simpa using this
    apply L9_6_step
    simp only [hx.lenD, Option.bind_some, iLt_end, cond_false, iEq_nn, bNot, Bool.not_true, vfits_one hx.one, cond_true, natEq_self, hok, hcs, appGen_one, appLen_one, objBd_cells, iAdd_nat (show j < 1000000 by omega), hr]
  · intro j hj hf
    have hgi : (partsN t z)[i] = (partsN t z).getD i 0 := by rw [List.getD_eq_getElem?_getD, List.getElem?_eq_getElem hi]; rfl
    rw [List.drop_eq_getElem_cons hi, List.foldl_cons, hgi] at hf
    obtain ⟨⟨k1, k2, k3⟩, _⟩ := mem_parts.1 (getD_mem 0 hi)
    have := ih _ (join_lt R.l hj k1) hf
    apply L9_6_step
    simp only [hx.lenD, Option.bind_some, iLt_len hi, cond_true, h.d4, agg4, nth0, nth1, nth2, nth3, str?_str, hx.idxD 0 hi, deref_int, int?_int, elem_in h R k1, scalar_bool, bool?_bool, bNot, Bool.not_true, cond_false, prime_ne0 h R h k3, jn h R hj k1, scalar_int, iLt_n0, objBd_cells, iAdd_nat (show i < 1000000 by omega), this]
theorem parted14 {xs : List T} (C : Coll t t.elems.length xs) {g : Nat} {x y i : Nat} (hx : x < t.elems.length) (hy : y < t.elems.length) (hi : i < (partsN t x).length) {r : T}
    (hr : L9_13 n e a w (t.elems.length : Int) g 0 t.elems.length (x : Int) (y : Int) ((i + 1 : Nat) : Int) g (cellsT xs) = some r) : ∀ k, k ≤ (partsN t y).length → ∀ f : Bool, (f || (upto k (partsN t y).length).any fun k => leB t ((partsN t x).getD i 0) ((partsN t y).getD k 0)) = true →
    L9_14 n e a w (t.elems.length : Int) g 0 t.elems.length (x : Int) (y : Int) (i : Int) f (k : Int) g (cellsT xs) = some r := by
  have h12 := R.g.e12
  have hpl := parts_len t x
  have hpl2 := parts_len t y
  have Cx := C.is x hx
  have Cy := C.is y hy
  have k1 := (mem_parts.1 (getD_mem 0 hi)).1.1
  refine upto_induct ?_ fun k hk ih => ?_
  · intro f hf
    rw [upto_end (Nat.le_refl _)] at hf
    simp only [List.any_nil, Bool.or_false] at hf
    apply L9_14_step
    simp only [rowIn_lt hy, natEq_self, cond_true, C.cell hy, Option.bind_some, Cy.lenD, iLt_end, cond_false, hf, bNot, Bool.not_true, objBd_cells, iAdd_nat (show i < 1000000 by omega), hr]
  · intro f hf
    rw [upto_step hk, List.any_cons] at hf
    have k2 := (mem_parts.1 (getD_mem 0 hk)).1.1
    apply L9_14_step
    cases f with
    | true =>
      have := ih true rfl
      simp only [rowIn_lt hy, natEq_self, cond_true, C.cell hy, Option.bind_some, Cy.lenD, iLt_len hk, objBd_cells, iAdd_nat (show k < 1000000 by omega), this]
    | false =>
      have := ih (leB t ((partsN t x).getD i 0) ((partsN t y).getD k 0)) (by simpa using hf)
      simp only [rowIn_lt hy, rowIn_lt hx, natEq_self, cond_true, C.cell hy, C.cell hx, Option.bind_some, Cy.lenD, iLt_len hk, cond_false, h.d4, agg4, nth0, nth1, nth2, nth3, str?_str, Cx.idxD 0 hi, Cy.idxD 0 hk, deref_int, int?_int, bl h R k1 k2, scalar_bool, bool?_bool, objBd_cells, iAdd_nat (show k < 1000000 by omega), this]
theorem parted13 {xs : List T} (C : Coll t t.elems.length xs) {g : Nat} {x y : Nat} (hx : x < t.elems.length) (hy : y < t.elems.length) {r : T}
    (hr : L9_11 n e a w (t.elems.length : Int) g 0 t.elems.length (x : Int) ((y + 1 : Nat) : Int) g (cellsT xs) = some r) : ∀ i, i ≤ (partsN t x).length →
    L9_13 n e a w (t.elems.length : Int) g 0 t.elems.length (x : Int) (y : Int) (i : Int) g (cellsT xs) = some r := by
  have h12 := R.g.e12
  have hpl := parts_len t x
  have Cx := C.is x hx
  refine upto_induct ?_ fun i hi ih => ?_
  · apply L9_13_step
    simp only [rowIn_lt hx, natEq_self, cond_true, C.cell hx, Option.bind_some, Cx.lenD, iLt_end, cond_false, objBd_cells, iAdd_nat (show y < 1000000 by omega), hr]
  · apply L9_13_step
    cases hle : leB t x y with
    | false =>
      simp only [rowIn_lt hx, natEq_self, cond_true, C.cell hx, Option.bind_some, Cx.lenD, iLt_len hi, h.d4, agg4, nth0, nth1, nth2, nth3, str?_str, bl h R hx hy, hle, scalar_bool, bool?_bool, cond_false, objBd_cells, iAdd_nat (show y < 1000000 by omega), hr]
    | true =>
      have h14 := parted14 h R C (g := g) hx hy hi ih 0 (by omega) false (by
        obtain ⟨q, q1, q2⟩ := part_below R.g R.l hx hle (getD_mem 0 hi)
        obtain ⟨k, hk, he⟩ := mem_getD (d := 0) q1
        rw [Bool.false_or, List.any_eq_true]
        exact ⟨k, mem_upto0.2 hk, by rw [he]; exact q2⟩)
      simp only [Int.natCast_zero] at h14
      simp only [rowIn_lt hx, natEq_self, cond_true, C.cell hx, Option.bind_some, Cx.lenD, iLt_len hi, h.d4, agg4, nth0, nth1, nth2, nth3, str?_str, bl h R hx hy, hle, scalar_bool, bool?_bool, objBd_cells, h14]
theorem parted9 (haw : fnO acfg 14 [] = some (.bool true)) {xs : List T} (C : Coll t t.elems.length xs) {g : Nat} : ∀ x, x ≤ t.elems.length → L9_9 n e a w (t.elems.length : Int) g 0 t.elems.length (x : Int) g (cellsT xs) = some (.bool true) := by
  have h12 := R.g.e12
  refine upto_induct ?_ fun x hx ih => ?_
  · apply L9_9_step
    simp only [iLt_end, cond_false, haw, Option.bind_some, scalar_bool, cond_true, bool?_bool]
  · have h11 : ∀ y, y ≤ t.elems.length → L9_11 n e a w (t.elems.length : Int) g 0 t.elems.length (x : Int) (y : Int) g (cellsT xs) = some (.bool true) := by
      refine upto_induct ?_ fun y hy ih2 => ?_
      · apply L9_11_step
        simp only [iLt_end, cond_false, objBd_cells, cond_true, iAdd_nat (show x < 1000000 by omega), ih]
      · have h13 := parted13 h R C (g := g) hx hy ih2 0 (by omega)
        simp only [Int.natCast_zero] at h13
        apply L9_11_step
        simp only [iLt_len hy, cond_true, objBd_cells, h13]
    have := h11 0 (by omega)
    simp only [Int.natCast_zero] at this
    apply L9_9_step
    simp only [iLt_len hx, cond_true, objBd_cells, this]
theorem parted7 (haw : fnO acfg 14 [] = some (.bool true)) {xs : List T} (C : Coll t t.elems.length xs) {g : Nat} {ps : T} (hp : IsSl (natsT (primesN t)) ps) : ∀ i, i ≤ (primesN t).length → L9_7 n e a w (t.elems.length : Int) g 0 t.elems.length ps (i : Int) g (cellsT xs) = some (.bool true) := by
  have h12 := R.g.e12
  have hpl := primesN_len t
  refine upto_induct ?_ fun i hi ih => ?_
  · have := parted9 h R haw C (g := g) 0 (by omega)
    simp only [Int.natCast_zero] at this
    apply L9_7_step
    simp only [hp.lenD, Option.bind_some, iLt_end, cond_false, objBd_cells, cond_true, this]
  · have hm : (primesN t).getD i 0 ∈ primesN t := getD_mem 0 hi
    have hlt := primesN_lt hm
    have hpr : primeB t ((primesN t).getD i 0) = true := (List.mem_filter.1 hm).2
    have Ci := C.is _ hlt
    rw [parts_prime R.g R.l hlt hpr] at Ci
    obtain ⟨y, y1, y2⟩ := sub_one hp hi
    have hsame : fnO acfg 31 [xs.getD ((primesN t).getD i 0) .nils, y] = some (.bool true) := by
      rw [← ints_nats] at Ci y2
      exact sameInts_spec Ci y2 (by simp)
    apply L9_7_step
    simp only [hp.lenD, Option.bind_some, iLt_len hi, cond_true, h.d4, agg4, nth0, nth1, nth2, nth3, str?_str, hp.idxD 0 hi, deref_int, int?_int, elem_in h R hlt, scalar_bool, bool?_bool, bNot, Bool.not_true, cond_false, rowIn_lt hlt, natEq_self, C.cell hlt, iAdd_nat (show i < 1000000 by omega), y1, hsame, objBd_cells, ih]
theorem parted4 (haw : fnO acfg 14 [] = some (.bool true)) : ∀ z, z ≤ t.elems.length → ∀ (xs : List T) (g : Nat), Coll t z xs → L9_4 n e a w (t.elems.length : Int) g 0 z (z : Int) g (cellsT xs) = some (.bool true) := by
  have h12 := R.g.e12
  refine upto_induct ?_ fun z hz ih => ?_
  · intro xs g C
    obtain ⟨e', a', w', c1, c2⟩ := copy_spec h R.s
    obtain ⟨ps, p1, p2⟩ := primesP_spec c2 R.s R.th
    have hV : primesV t = primesN t := by unfold primesV; rw [if_pos R.er]
    rw [hV] at p2
    rw [R.er] at p1
    have := parted7 h R haw C (g := g) p2 0 (by omega)
    simp only [Int.natCast_zero] at this
    apply L9_4_step
    simp only [iLt_end, cond_false, h.d4, Option.bind_some, agg4, nth0, nth1, nth2, nth3, str?_str, c1, p1, t2c, nt0, nt1, int?_int, i00, bNot, Bool.not_true, objBd_cells, cond_true, this]
  · intro xs g C
    obtain ⟨e', a', w', c1, c2⟩ := copy_spec h R.s
    obtain ⟨x, x1, x2⟩ := partsP_spec c2 R.s R.th (z : Int)
    have he : errL t [(z : Int)] = 0 := errL_mk R.hc R.hb fun q hq => by
      have : q = (z : Int) := by simpa using hq
      subst this; exact inB_mk hz
    have hV : partsV t (z : Int) = partsN t z := by unfold partsV; rw [if_pos he, Int.toNat_natCast]
    rw [hV] at x2
    rw [he] at x1
    have h6 := fold6 h R x2 C (g := g) (ih (xs ++ [x]) (g + 1) (C.snoc x2)) hz 0 (by omega) 0 R.g.e1 (by rw [List.drop_zero]; exact fold_parts R.g R.l hz)
    simp only [Int.natCast_zero] at h6
    apply L9_4_step
    simp only [iLt_len hz, cond_true, h.d4, Option.bind_some, agg4, nth0, nth1, nth2, nth3, str?_str, c1, x1, t2c, nt0, nt1, int?_int, i00, bNot, Bool.not_true, cond_false, objBd_cells, h6]
end
theorem all_parted {t : Tbl} {n : List UInt8} {e a w : T} (h : IsTbl t n e a w) (haw : fnO acfg 14 [] = some (.bool true)) : fnO acfg 9 [tblT n e a w] = some (.bool true) := by
  apply fn9
  rcases right_cases h with hr | ⟨hr, R⟩
  · simp only [h.v4, cond_true, h.d4, Option.bind_some, agg4, nth0, nth1, nth2, nth3, str?_str, hr, scalar_bool, bool?_bool, bNot, Bool.not_false, haw]
  · have hz : 0 < t.elems.length := R.g.e1
    have key : L9_1 n e a w (t.elems.length : Int) ((0 : Nat) : Int) = some (.bool true) := by
      obtain ⟨e', a', w', c1, c2⟩ := copy_spec h R.s
      obtain ⟨x, x1, x2⟩ := partsP_spec c2 R.s R.th ((0 : Nat) : Int)
      have he : errL t [((0 : Nat) : Int)] = 0 := errL_mk R.hc R.hb fun q hq => by
        have : q = ((0 : Nat) : Int) := by simpa using hq
        subst this; exact inB_mk hz
      have hV : partsV t ((0 : Nat) : Int) = partsN t 0 := by unfold partsV; rw [if_pos he, Int.toNat_natCast]
      rw [hV] at x2
      rw [he] at x1
      have h2 := fold2 h R x2 (parted4 h R haw 1 hz [x] 1 ⟨rfl, fun i hi => by
        have : i = 0 := by omega
        subst this
        exact x2⟩) hz 0 (by omega) 0 hz (by rw [List.drop_zero]; exact fold_parts R.g R.l hz)
      apply L9_1_step
      simp only [iLt_len hz, cond_true, h.d4, Option.bind_some, agg4, nth0, nth1, nth2, nth3, str?_str, c1, x1, t2c, nt0, nt1, int?_int, i00, bNot, Bool.not_true, cond_false]
      exact h2
    simp only [Int.natCast_zero] at key
    simp only [h.v4, cond_true, h.d4, Option.bind_some, agg4, nth0, nth1, nth2, nth3, str?_str, hr, scalar_bool, bool?_bool, bNot, Bool.not_true, cond_false, h.f1, h.d1, h.e.lenD, key]
end Go.Proofs.Try

