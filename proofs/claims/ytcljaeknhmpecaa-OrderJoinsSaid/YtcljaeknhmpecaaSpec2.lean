import Derived.Test.YtcljaeknhmpecaaSpec
set_option linter.all false
set_option linter.unusedVariables false
set_option linter.unusedSimpArgs false
set_option linter.unusedSectionVars false
set_option linter.deprecated false
/- Heights; primes and parts: the reference. -/
open Go Go.Apex Go.StepsTo Go.Lat
namespace Go.Proofs.Try
theorem upn_mu {t : Tbl} (hg : Good t) (G : GL t) : ∀ a b, a < t.elems.length → b < t.elems.length → belowB t a b = true → upn t.elems.length (leB t) b < upn t.elems.length (leB t) a := fun a b ha hb h =>
  (gl_lat hg G).upn_lt ha hb ((below_lt G ha).1 h)
theorem hgtN_step {t : Tbl} (hg : Good t) (G : GL t) {a : Nat} (ha : a < t.elems.length) : hgtN t a = maxOf (belowB t a) (hgtN t) (upto 0 t.elems.length) 0 :=
  hgt_step (mu := upn t.elems.length (leB t)) (n := t.elems.length) (fun b hb => mem_upto0.1 hb) (upn_mu hg G) (fun a _ => by have := upn_le t.elems.length (leB t) a; omega) ha
theorem hgtN_is {t : Tbl} (hg : Good t) (G : GL t) : IsHgt t.elems.length (belowB t) (hgtN t) :=
  hgt_is (mu := upn t.elems.length (leB t)) (fun b => mem_upto0) (upn_mu hg G) (fun a _ => by have := upn_le t.elems.length (leB t) a; omega)
theorem hgtN_le {t : Tbl} (hg : Good t) (G : GL t) {a : Nat} (ha : a < t.elems.length) : hgtN t a ≤ t.elems.length := by
  have h1 := (hgtN_is hg G).le (mu := upn t.elems.length (leB t)) (upn_mu hg G) _ a ha (Nat.le_refl _)
  have h2 := upn_le t.elems.length (leB t) a
  omega
theorem upn_pos {t : Tbl} {k : Nat} (hk : k < t.elems.length) : 0 < upn t.elems.length (leB t) k := by
  unfold upn
  exact List.length_pos_of_mem (a := k) (List.mem_filter.2 ⟨List.mem_range.2 hk, le_refl t k⟩)
theorem hgtN_lt {t : Tbl} (hg : Good t) (G : GL t) {a : Nat} (ha : a < t.elems.length) : hgtN t a < t.elems.length := by
  have h3 := (hgtN_is hg G).le (mu := fun a => upn t.elems.length (leB t) a - 1) (fun a b ha hb h => by
    have h1 := upn_mu hg G a b ha hb h
    have h2 := upn_pos (t := t) hb
    show upn t.elems.length (leB t) b - 1 < upn t.elems.length (leB t) a - 1
    omega) _ a ha (Nat.le_refl _)
  have h4 := upn_pos (t := t) ha
  have h5 := upn_le t.elems.length (leB t) a
  have h6 : hgtN t a ≤ upn t.elems.length (leB t) a - 1 := h3
  omega
section
variable {t : Tbl} (hg : Good t) (G : GL t) {n : List UInt8} {e a w : T} (h : IsTbl t n e a w)
include hg G h
theorem high_spec : ∀ (d k : Nat), k < t.elems.length → upn t.elems.length (leB t) k ≤ d → fnO acfg 71 [ordP t n e a w, .int .i64 (k : Int)] = some (.int .i64 (hgtN t k : Int)) := by
  have h12 := hg.e12
  intro d
  induction d with
  | zero =>
    intro k hk hd
    have : 0 < upn t.elems.length (leB t) k := by
      unfold upn
      exact List.length_pos_of_mem (a := k) (List.mem_filter.2 ⟨List.mem_range.2 hk, le_refl t k⟩)
    omega
  | succ d ih =>
    intro k hk hd
    have loop : ∀ b, b ≤ t.elems.length → ∀ m : Nat, L71_1 (ordP t n e a w) (k : Int) (m : Int) (t.elems.length : Int) (b : Int) = some (.int .i64 ((maxOf (belowB t k) (hgtN t) (upto b t.elems.length) m : Nat) : Int)) := by
      refine upto_induct ?_ fun b hb ih2 => ?_
      · intro m
        apply L71_1_step
        simp only [iLt_end, cond_false, upto_end (Nat.le_refl _), maxOf]
      · intro m
        apply L71_1_step
        cases hkb : belowB t k b with
        | false =>
          simp only [iLt_len hb, cond_true, ord_isPtr, ord_f4, Option.bind_some, ord_d4, ord_row hk, ord_rowd, row_at hb, deref_bool, bool?_bool, hkb, cond_false, iAdd_nat (show b < 1000000 by omega), ih2 m, upto_step hb, maxOf]
        | true =>
          have h1 := ih b hb (by have := upn_mu hg G k b hk hb hkb; omega)
          have h2 := hgtN_le hg G hb
          have h3 : iAdd .i64 (hgtN t b : Int) 1 = ((hgtN t b + 1 : Nat) : Int) := iAdd_nat (by omega)
          have := ih2 (max m (hgtN t b + 1))
          simp only [iLt_len hb, cond_true, ord_isPtr, ord_f4, Option.bind_some, ord_d4, ord_row hk, ord_rowd, row_at hb, deref_bool, bool?_bool, hkb, h1, scalar_int, int?_int, h3, iMax_nat, iAdd_nat (show b < 1000000 by omega), this, upto_step hb, maxOf]
    apply fn71
    have := loop 0 (by omega) 0
    simp only [Int.natCast_zero] at this
    simp only [ord_isPtr, cond_true, ord_f0 h, Option.bind_some, h.f1, h.d1, h.e.lenD, this]
    rw [← hgtN_step hg G hk]
theorem highR_spec : ∀ (d k : Nat), k < t.elems.length → upn t.elems.length (leB t) k ≤ d → fnO acfg 75 [tblT n e a w, .int .i64 (k : Int)] = some (.int .i64 (hgtN t k : Int)) := by
  have h12 := hg.e12
  have hb' : ∀ i b, has (bfs1 (adjN t) 1000 (List.replicate t.elems.length false) (adjN t i)) b = belowB t i b := fun _ _ => rfl
  intro d
  induction d with
  | zero =>
    intro k hk hd
    have : 0 < upn t.elems.length (leB t) k := by
      unfold upn
      exact List.length_pos_of_mem (a := k) (List.mem_filter.2 ⟨List.mem_range.2 hk, le_refl t k⟩)
    omega
  | succ d ih =>
    intro k hk hd
    have loop : ∀ b, b ≤ t.elems.length → ∀ m : Nat, L75_1 (k : Int) n e a w (m : Int) (b : Int) = some (.int .i64 ((maxOf (belowB t k) (hgtN t) (upto b t.elems.length) m : Nat) : Int)) := by
      refine upto_induct ?_ fun b hb ih2 => ?_
      · intro m
        apply L75_1_step
        simp only [h.f1, h.d1, Option.bind_some, h.e.lenD, iLt_end, cond_false, upto_end (Nat.le_refl _), maxOf]
      · intro m
        apply L75_1_step
        cases hkb : belowB t k b with
        | false =>
          simp only [h.f1, h.d1, Option.bind_some, h.e.lenD, iLt_len hb, cond_true, h.d4, agg4, nth0, nth1, nth2, nth3, str?_str, steps_spec hg h hk hb, both_spec hg h hk, hb', scalar_bool, bool?_bool, hkb, cond_false, iAdd_nat (show b < 1000000 by omega), ih2 m, upto_step hb, maxOf]
        | true =>
          have h1 := ih b hb (by have := upn_mu hg G k b hk hb hkb; omega)
          have h2 := hgtN_le hg G hb
          have h3 : iAdd .i64 1 (hgtN t b : Int) = ((hgtN t b + 1 : Nat) : Int) := by rw [iAdd_i64] <;> omega
          have := ih2 (max m (hgtN t b + 1))
          simp only [h.f1, h.d1, Option.bind_some, h.e.lenD, iLt_len hb, cond_true, h.d4, agg4, nth0, nth1, nth2, nth3, str?_str, steps_spec hg h hk hb, both_spec hg h hk, hb', scalar_bool, bool?_bool, hkb, h1, scalar_int, int?_int, h3, iMax_nat, iAdd_nat (show b < 1000000 by omega), this, upto_step hb, maxOf]
    apply fn75
    have := loop 0 (by omega) 0
    simp only [Int.natCast_zero] at this
    simp only [h.v4, cond_true, this]
    rw [← hgtN_step hg G hk]
end
/-! Primes. -/
def mapB (N : Nat) (P : Nat → Bool) : List Bool := (upto 0 N).map P
theorem mapB_len (N : Nat) (P : Nat → Bool) : (mapB N P).length = N := by simp [mapB, upto]
theorem mapB_congr {N : Nat} {P Q : Nat → Bool} (h : ∀ j, j < N → P j = Q j) : mapB N P = mapB N Q := List.map_congr_left fun j hj => h j (mem_upto0.1 hj)
theorem mapB_get {N : Nat} {P : Nat → Bool} {j : Nat} (hj : j < N) : (mapB N P)[j]? = some (P j) := by
  unfold mapB
  rw [List.getElem?_map, upto_get hj]
  rfl
theorem mapB_set {N : Nat} {P : Nat → Bool} {k : Nat} {b : Bool} (hk : k < N) : (mapB N P).set k b = mapB N fun j => if j = k then b else P j := by
  refine List.ext_getElem? fun i => ?_
  by_cases hi : i < N
  · rw [mapB_get hi, List.getElem?_set]
    by_cases e : k = i
    · subst e
      rw [if_pos rfl, if_pos (by rw [mapB_len]; exact hk), if_pos rfl]
    · rw [if_neg e, mapB_get hi, if_neg (Ne.symm e)]
  · rw [List.getElem?_eq_none (by rw [List.length_set, mapB_len]; omega), List.getElem?_eq_none (by rw [mapB_len]; omega)]
theorem rowSet_mapB {N : Nat} {P : Nat → Bool} {k : Nat} {b : Bool} (hk : k < N) : rowSet (cellsT (boolsT (mapB N P))) (rowOff 0 (k : Int) 1) [V.t (T.bool b)] = cellsT (boolsT (mapB N fun j => if j = k then b else P j)) := by
  rw [rowOff_1, Nat.zero_add, rowSet_cells (by rw [List.length_map, mapB_len]; exact hk), ← mapB_set hk]
  simp [boolsT, List.map_set]
theorem setOK_mapB {N : Nat} {P : Nat → Bool} {k : Nat} {b : Bool} (hk : k < N) : rowSetOK (cellsT (boolsT (mapB N P))) (rowOff 0 (k : Int) 1) [V.t (T.bool b)].length = true := by
  rw [rowOff_1]
  exact rowSetOK_lt (by rw [List.length_map, mapB_len]; exact hk)
theorem rowS_mapB {N : Nat} {P : Nat → Bool} {k : Nat} (hk : k < N) : rowS none (cellsT (boolsT (mapB N P))) (rowOff 0 (k : Int) 1) = some (.bool (P k)) := by
  rw [rowOff_1, Nat.zero_add]
  exact rowS_cells (by rw [List.getElem?_map, mapB_get hk]; rfl)
theorem zeros_mapB (N : Nat) : List.replicate N false = mapB N fun _ => false := by
  refine List.ext_getElem? fun i => ?_
  by_cases hi : i < N
  · rw [mapB_get hi, List.getElem?_replicate, if_pos hi]
  · rw [List.getElem?_eq_none (by rw [List.length_replicate]; omega), List.getElem?_eq_none (by rw [mapB_len]; omega)]
def primesN (t : Tbl) : List Nat := (upto 0 t.elems.length).filter (primeB t)
section
variable {t : Tbl} (hg : Good t) (G : GL t)
include hg
theorem primes5 {P : Nat → Bool} : ∀ c, c ≤ t.elems.length → ∀ (acc : List Nat) (g : Nat), acc.length ≤ c → L73_5 g 0 acc.length (relT t) 0 0 t.elems.length (c : Int) 0 (cellsT (boolsT (mapB t.elems.length P))) g (cellsT (natsT acc)) = some (.sl false 1 (natsT (acc ++ (upto c t.elems.length).filter P))) := by
  have h12 := hg.e12
  refine upto_induct ?_ fun c hc ih => ?_
  · intro acc g hl
    have := rowT_all (one_nats acc)
    rw [List.length_map] at this
    apply L73_5_step
    simp only [rel_len, Option.bind_some, iLt_end, cond_false, natEq_self, cond_true, this, upto_end (Nat.le_refl _), List.filter_nil, List.append_nil]
  · intro acc g hl
    apply L73_5_step
    simp only [rel_len, Option.bind_some, iLt_len hc, cond_true, rowIn_lt hc, natEq_self, rowS_mapB hc, bool?_bool, upto_step hc, List.filter_cons, iAdd_nat (show c < 1000000 by omega), objBd_cells]
    cases hp : P c with
    | false => simp only [cond_false, Bool.false_eq_true, if_false]; exact ih acc g (by omega)
    | true =>
      have := ih (acc ++ [c]) (g + 1) (by rw [List.length_append]; simp only [List.length_cons, List.length_nil]; omega)
      rw [List.length_append] at this
      have hl1 : acc.length + [c].length = acc.length + 1 := rfl
      rw [hl1] at this
      have hok : appOK (cellsT (natsT acc)) 0 acc.length 1 [V.t (T.int .i64 (c : Int))] 8 = true := appOK_row (ys := [T.int .i64 (c : Int)]) (by simp) (by simp only [List.length_cons, List.length_nil, maxB]; omega)
      simp only [hok, cond_true, app_one (ts := natsT acc) (off := 0) (td := acc) rfl (by simp), appGen_one, appLen_one, objBd_cells, this, if_true, List.append_assoc, List.cons_append, List.nil_append]
theorem primes4 {P : Nat → Bool} : ∀ c, c ≤ t.elems.length → ∃ y, L73_4 (relT t) 0 0 t.elems.length (c : Int) 0 (cellsT (boolsT (mapB t.elems.length P))) = some y ∧ IsSl (natsT ((upto c t.elems.length).filter P)) y := by
  have h12 := hg.e12
  refine upto_induct ?_ fun c hc ih => ?_
  · refine ⟨.nils, ?_, .nil (by rw [upto_end (Nat.le_refl _)]; rfl)⟩
    apply L73_4_step
    simp only [rel_len, Option.bind_some, iLt_end, cond_false]
  · cases hp : P c with
    | false =>
      obtain ⟨y, y1, y2⟩ := ih
      refine ⟨y, ?_, by rw [upto_step hc, List.filter_cons, hp]; exact y2⟩
      apply L73_4_step
      simp only [rel_len, Option.bind_some, iLt_len hc, cond_true, rowIn_lt hc, natEq_self, rowS_mapB hc, bool?_bool, hp, cond_false, objBd_cells, iAdd_nat (show c < 1000000 by omega), y1]
    | true =>
      have := primes5 hg (P := P) (c + 1) (by omega) [c] 1 (by simp)
      refine ⟨.sl false 1 (natsT ([c] ++ (upto (c + 1) t.elems.length).filter P)), ?_, by rw [upto_step hc, List.filter_cons, hp]; exact .sl _⟩
      have hbase : baseT none 1 .nils = some [] := rfl
      have hnew : newOK ([] : List T).length [V.t (T.int .i64 (c : Int))].length 8 = true := rfl
      have hrow : rowNew [] [V.t (T.int .i64 (c : Int))] = cellsT (natsT [c]) := rowNew_one (xs := []) (ys := natsT [c]) OneL.nil (one_nats _)
      have hln : lenNew ([] : List T) [V.t (T.int .i64 (c : Int))] = 1 := rfl
      have hl1 : [c].length = 1 := rfl
      rw [hl1] at this
      apply L73_4_step
      simp only [rel_len, Option.bind_some, iLt_len hc, cond_true, rowIn_lt hc, natEq_self, rowS_mapB hc, bool?_bool, hp, hbase, hnew, hrow, hln, objBd_cells, iAdd_nat (show c < 1000000 by omega), this]
include G
theorem primes3 {i : Nat} (hi : i < t.elems.length) {r : T} : ∀ j, j ≤ t.elems.length → ∀ P : Nat → Bool,
    L73_2 (relT t) 0 0 t.elems.length ((i + 1 : Nat) : Int) 0 (cellsT (boolsT (mapB t.elems.length fun p => P p && (upto j t.elems.length).all fun b => !badP t p i b))) = some r →
    L73_3 (relT t) 0 0 t.elems.length (i : Int) (j : Int) 0 (cellsT (boolsT (mapB t.elems.length P))) = some r := by
  have h12 := hg.e12
  refine upto_induct ?_ fun j hj ih => ?_
  · intro P hr
    rw [upto_end (Nat.le_refl _)] at hr
    simp only [List.all_nil, Bool.and_true] at hr
    apply L73_3_step
    simp only [rel_len, Option.bind_some, iLt_end, cond_false, objBd_cells, cond_true, iAdd_nat (show i < 1000000 by omega), hr]
  · intro P hr
    obtain ⟨y, y1, y2⟩ := boundsR_spec hg hi hj
    have hul := ubs_len t i j
    have hls := least_spec2 hg y2 (fun k hk => ubs_lt hk) (by omega)
    rw [join_least G hi hj] at hls
    have hjl := join_lt G hi hj
    apply L73_3_step
    simp only [rel_len, Option.bind_some, iLt_len hj, cond_true, y1, hls, scalar_int, int?_int, iEq_nat, rowIn_lt hjl, natEq_self, setOK_mapB hjl, rowSet_mapB hjl, objBd_cells, iAdd_nat (show j < 1000000 by omega)]
    have hsame : ∀ Q : Nat → Bool, (∀ p, p < t.elems.length → Q p = (P p && !badP t p i j)) → L73_3 (relT t) 0 0 t.elems.length (i : Int) ((j + 1 : Nat) : Int) 0 (cellsT (boolsT (mapB t.elems.length Q))) = some r := by
      intro Q hQ
      refine ih Q ?_
      rw [mapB_congr (Q := fun p => P p && (upto j t.elems.length).all fun b => !badP t p i b)]
      · exact hr
      · intro p hp
        rw [hQ p hp, upto_step hj, List.all_cons, Bool.and_assoc]
    by_cases e1 : joinN t i j = i
    · simp only [e1, decide_true, bNot, Bool.not_true, cond_false]
      refine hsame P fun p _ => ?_
      unfold badP
      rw [e1]
      by_cases e : i = p <;> simp [e]
    · simp only [e1, decide_false, bNot, Bool.not_false, cond_true]
      by_cases e2 : joinN t i j = j
      · simp only [e2, decide_true, Bool.not_true, cond_false]
        refine hsame P fun p _ => ?_
        unfold badP
        rw [e2]
        by_cases e : j = p <;> simp [e]
      · simp only [e2, decide_false, Bool.not_false, cond_true]
        refine hsame _ fun p _ => ?_
        unfold badP
        by_cases e : p = joinN t i j
        · subst e
          simp [Ne.symm e1, Ne.symm e2]
        · simp [e, Ne.symm e]
theorem primes2 {r : T} : ∀ i, i ≤ t.elems.length → ∀ P : Nat → Bool,
    L73_4 (relT t) 0 0 t.elems.length 0 0 (cellsT (boolsT (mapB t.elems.length fun p => P p && (upto i t.elems.length).all fun a => (upto 0 t.elems.length).all fun b => !badP t p a b))) = some r →
    L73_2 (relT t) 0 0 t.elems.length (i : Int) 0 (cellsT (boolsT (mapB t.elems.length P))) = some r := by
  have h12 := hg.e12
  refine upto_induct ?_ fun i hi ih => ?_
  · intro P hr
    rw [upto_end (Nat.le_refl _)] at hr
    simp only [List.all_nil, Bool.and_true] at hr
    apply L73_2_step
    simp only [rel_len, Option.bind_some, iLt_end, cond_false, objBd_cells, cond_true, hr]
  · intro P hr
    have := primes3 hg G hi 0 (by omega) P (r := r) (ih _ (by
      rw [mapB_congr (Q := fun p => P p && (upto i t.elems.length).all fun a => (upto 0 t.elems.length).all fun b => !badP t p a b)]
      · exact hr
      · intro p _
        rw [upto_step hi, List.all_cons, Bool.and_assoc]))
    simp only [Int.natCast_zero] at this
    apply L73_2_step
    simp only [rel_len, Option.bind_some, iLt_len hi, cond_true, objBd_cells, this]
theorem primes1 {r : T} (hr : L73_2 (relT t) 0 0 t.elems.length 0 0 (cellsT (boolsT (mapB t.elems.length fun p => !decide (p = 0)))) = some r) : ∀ j, j ≤ t.elems.length → 1 ≤ j →
    L73_1 (relT t) 0 0 t.elems.length (j : Int) 0 (cellsT (boolsT (mapB t.elems.length fun p => !decide (p = 0) && decide (p < j)))) = some r := by
  have h12 := hg.e12
  refine upto_induct ?_ fun j hj ih => ?_
  · intro _
    apply L73_1_step
    rw [mapB_congr (Q := fun p => !decide (p = 0)) (fun p hp => by simp [hp])]
    simp only [rel_len, Option.bind_some, iLt_end, cond_false, objBd_cells, cond_true, hr]
  · intro h1
    have := ih (by omega)
    apply L73_1_step
    simp only [rel_len, Option.bind_some, iLt_len hj, cond_true, rowIn_lt hj, natEq_self, setOK_mapB hj, rowSet_mapB hj, objBd_cells, iAdd_nat (show j < 1000000 by omega)]
    rw [mapB_congr (Q := fun p => !decide (p = 0) && decide (p < j + 1)) (fun p hp => by
      by_cases e : p = j
      · subst e
        rw [if_pos rfl]
        have : p ≠ 0 := by omega
        simp [this]
      · rw [if_neg e]
        congr 1
        exact decide_eq_decide.2 (by omega))]
    exact this
theorem primesR_spec {n : List UInt8} {e a w : T} (h : IsTbl t n e a w) : ∃ y, fnO acfg 73 [tblT n e a w] = some y ∧ IsSl (natsT (primesN t)) y := by
  have h12 := hg.e12
  have h1 := hg.e1
  obtain ⟨y, y1, y2⟩ := primes4 hg (P := primeB t) 0 (by omega)
  refine ⟨y, ?_, y2⟩
  simp only [Int.natCast_zero] at y1
  have hq : (mapB t.elems.length fun p => !decide (p = 0) && (upto 0 t.elems.length).all fun a => (upto 0 t.elems.length).all fun b => !badP t p a b) = mapB t.elems.length (primeB t) :=
    mapB_congr fun p _ => by unfold primeB; exact Bool.and_comm _ _
  rw [← hq] at y1
  have p2 := primes2 hg G 0 (by omega) (fun p => !decide (p = 0)) y1
  simp only [Int.natCast_zero] at p2
  have p1 := primes1 hg G p2 1 (by omega) (by omega)
  have hz : (mapB t.elems.length fun p => !decide (p = 0) && decide (p < 1)) = List.replicate t.elems.length false := by
    rw [zeros_mapB]
    refine mapB_congr fun p _ => ?_
    by_cases e : p = 0
    · simp [e]
    · have : ¬ p < 1 := by omega
      simp [this]
  rw [hz] at p1
  have hmk : makeOK (t.elems.length : Int) (t.elems.length : Int) 1 = true := decide_eq_true (by rw [show maxBytes = 140737488355328 from rfl]; omega)
  have hnat : natOf (t.elems.length : Int) = t.elems.length := Int.toNat_natCast _
  apply fn73
  simp only [h.v4, cond_true, h.d4, Option.bind_some, agg4, nth0, nth1, nth2, nth3, str?_str, rel_spec hg h, rel_len, hmk, zerosV_bools, objBd_cells, hnat]
  exact p1
/-! Parts. -/
end
theorem map_getD_filter {l : List Nat} {c q : Nat → Bool} (hcq : ∀ i, i < l.length → c i = q (l.getD i 0)) : ∀ k, k ≤ l.length → ((upto k l.length).filter c).map (fun i => l.getD i 0) = (l.drop k).filter q := by
  refine upto_induct ?_ fun i hi ih => ?_
  · rw [upto_end (Nat.le_refl _), List.drop_length]; rfl
  · have e : l[i] = l.getD i 0 := by rw [List.getD_eq_getElem?_getD, List.getElem?_eq_getElem hi]; rfl
    rw [upto_step hi, List.drop_eq_getElem_cons hi, List.filter_cons, List.filter_cons, hcq i hi, e]
    split
    · rw [List.map_cons, ih]
    · exact ih
def topB (t : Tbl) (l : List Nat) (z i : Nat) : Bool := leB t (l.getD i 0) z && (upto 0 l.length).all fun k => decide (k = i) || !leB t (l.getD k 0) z || !leB t (l.getD i 0) (l.getD k 0)
section
variable {t : Tbl} (hg : Good t) {ps : T} {l : List Nat} (hp : IsSl (natsT l) ps) (hl : l.length ≤ 12) (hlt : ∀ k ∈ l, k < t.elems.length) {z : Nat} (hz : z < t.elems.length)
include hg hp hl hlt hz
theorem parts2 {i : Nat} (hi : i < l.length) (hno : ∀ b : Bool, True) : ∀ k, k ≤ l.length → ∀ (tp : Bool) (r : T),
    ((tp && (upto k l.length).all fun k => decide (k = i) || !leB t (l.getD k 0) z || !leB t (l.getD i 0) (l.getD k 0)) = false → L74_1 (z : Int) ps (relT t) ((i + 1 : Nat) : Int) = some r) →
    ((tp && (upto k l.length).all fun k => decide (k = i) || !leB t (l.getD k 0) z || !leB t (l.getD i 0) (l.getD k 0)) = true → L74_3 (z : Int) 1 0 1 ps (relT t) ((i + 1 : Nat) : Int) 1 (cellsT (natsT [l.getD i 0])) = some r) →
    L74_2 (z : Int) ps (relT t) (i : Int) tp (k : Int) = some r := by
  have h12 := hg.e12
  have hx := hlt _ (getD_mem 0 hi)
  refine upto_induct ?_ fun k hk ih => ?_
  · intro tp r h1 h2
    rw [upto_end (Nat.le_refl _)] at h1 h2
    simp only [List.all_nil, Bool.and_true] at h1 h2
    have hbase : baseT none 1 .nils = some [] := rfl
    have hnew : newOK ([] : List T).length [V.t (T.int .i64 (l.getD i 0 : Nat))].length 8 = true := rfl
    have hrow : rowNew [] [V.t (T.int .i64 (l.getD i 0 : Nat))] = cellsT (natsT [l.getD i 0]) := rowNew_one (xs := []) (ys := natsT [l.getD i 0]) OneL.nil (one_nats _)
    have hln : lenNew ([] : List T) [V.t (T.int .i64 (l.getD i 0 : Nat))] = 1 := rfl
    apply L74_2_step
    simp only [hp.lenD, Option.bind_some, iLt_end, cond_false, hp.idxD 0 hi, deref_int, int?_int, hbase, hnew, hrow, hln, objBd_cells, cond_true, iAdd_nat (show i < 1000000 by omega)]
    cases tp with
    | false => simp only [cond_false]; exact h1 rfl
    | true => simp only [cond_true]; exact h2 rfl
  · intro tp r h1 h2
    have hy := hlt _ (getD_mem 0 hk)
    rw [upto_step hk, List.all_cons] at h1 h2
    apply L74_2_step
    simp only [hp.lenD, Option.bind_some, iLt_len hk, cond_true, hp.idxD 0 hi, hp.idxD 0 hk, deref_int, int?_int, rel_row hx, rel_row hy, relRow_d, relRow_at hz, relRow_at hy, deref_bool, bool?_bool, iEq_nat, iAdd_nat (show k < 1000000 by omega)]
    cases tp with
    | false =>
      simp only [cond_false]
      exact ih false r h1 h2
    | true =>
      simp only [cond_true, Bool.true_and] at h1 h2 ⊢
      by_cases e : k = i
      · subst e
        simp only [decide_true, cond_true, Bool.true_or, Bool.true_and] at h1 h2 ⊢
        refine ih true r ?_ ?_
        · simpa using h1
        · simpa using h2
      · simp only [e, decide_false, cond_false, Bool.false_or] at h1 h2 ⊢
        cases h3 : leB t (l.getD k 0) z with
        | false =>
          rw [h3] at h1 h2
          simp only [bNot, Bool.not_false, cond_true, Bool.true_or, Bool.true_and] at h1 h2 ⊢
          refine ih true r ?_ ?_
          · simpa using h1
          · simpa using h2
        | true =>
          rw [h3] at h1 h2
          simp only [bNot, Bool.not_true, cond_false, Bool.false_or] at h1 h2 ⊢
          exact ih _ r h1 h2
theorem parts4 {i : Nat} (hi : i < l.length) {acc : List Nat} {g : Nat} (hal : acc.length ≤ i) : ∀ k, k ≤ l.length → ∀ (tp : Bool) (r : T),
    ((tp && (upto k l.length).all fun k => decide (k = i) || !leB t (l.getD k 0) z || !leB t (l.getD i 0) (l.getD k 0)) = false → L74_3 (z : Int) g 0 acc.length ps (relT t) ((i + 1 : Nat) : Int) g (cellsT (natsT acc)) = some r) →
    ((tp && (upto k l.length).all fun k => decide (k = i) || !leB t (l.getD k 0) z || !leB t (l.getD i 0) (l.getD k 0)) = true → L74_3 (z : Int) (g + 1) 0 (acc.length + 1) ps (relT t) ((i + 1 : Nat) : Int) (g + 1) (cellsT (natsT (acc ++ [l.getD i 0]))) = some r) →
    L74_4 (z : Int) g 0 acc.length ps (relT t) (i : Int) tp (k : Int) g (cellsT (natsT acc)) = some r := by
  have h12 := hg.e12
  have hx := hlt _ (getD_mem 0 hi)
  refine upto_induct ?_ fun k hk ih => ?_
  · intro tp r h1 h2
    rw [upto_end (Nat.le_refl _)] at h1 h2
    simp only [List.all_nil, Bool.and_true] at h1 h2
    have hok : appOK (cellsT (natsT acc)) 0 acc.length 1 [V.t (T.int .i64 (l.getD i 0 : Nat))] 8 = true := appOK_row (ys := [T.int .i64 (l.getD i 0 : Nat)]) (by simp) (by simp only [List.length_cons, List.length_nil, maxB]; omega)
    apply L74_4_step
    simp only [hp.lenD, Option.bind_some, iLt_end, cond_false, hp.idxD 0 hi, deref_int, int?_int, natEq_self, hok, app_one (ts := natsT acc) (off := 0) (td := acc) rfl (by simp), appGen_one, appLen_one, objBd_cells, cond_true, iAdd_nat (show i < 1000000 by omega)]
    cases tp with
    | false => simp only [cond_false]; exact h1 rfl
    | true => simp only [cond_true]; exact h2 rfl
  · intro tp r h1 h2
    have hy := hlt _ (getD_mem 0 hk)
    rw [upto_step hk, List.all_cons] at h1 h2
    apply L74_4_step
    simp only [hp.lenD, Option.bind_some, iLt_len hk, cond_true, hp.idxD 0 hi, hp.idxD 0 hk, deref_int, int?_int, rel_row hx, rel_row hy, relRow_d, relRow_at hz, relRow_at hy, deref_bool, bool?_bool, iEq_nat, objBd_cells, iAdd_nat (show k < 1000000 by omega)]
    cases tp with
    | false =>
      simp only [cond_false]
      exact ih false r h1 h2
    | true =>
      simp only [cond_true, Bool.true_and] at h1 h2 ⊢
      by_cases e : k = i
      · subst e
        simp only [decide_true, cond_true, Bool.true_or, Bool.true_and] at h1 h2 ⊢
        refine ih true r ?_ ?_
        · simpa using h1
        · simpa using h2
      · simp only [e, decide_false, cond_false, Bool.false_or] at h1 h2 ⊢
        cases h3 : leB t (l.getD k 0) z with
        | false =>
          rw [h3] at h1 h2
          simp only [bNot, Bool.not_false, cond_true, Bool.true_or, Bool.true_and] at h1 h2 ⊢
          refine ih true r ?_ ?_
          · simpa using h1
          · simpa using h2
        | true =>
          rw [h3] at h1 h2
          simp only [bNot, Bool.not_true, cond_false, Bool.false_or] at h1 h2 ⊢
          exact ih _ r h1 h2
theorem parts3 : ∀ i, i ≤ l.length → ∀ (acc : List Nat) (g : Nat), acc.length ≤ i → L74_3 (z : Int) g 0 acc.length ps (relT t) (i : Int) g (cellsT (natsT acc)) = some (.sl false 1 (natsT (acc ++ ((upto i l.length).filter (topB t l z)).map fun i => l.getD i 0))) := by
  have h12 := hg.e12
  refine upto_induct ?_ fun i hi ih => ?_
  · intro acc g hal
    have := rowT_all (one_nats acc)
    rw [List.length_map] at this
    apply L74_3_step
    simp only [hp.lenD, Option.bind_some, iLt_end, cond_false, natEq_self, cond_true, this, upto_end (Nat.le_refl _), List.filter_nil, List.map_nil, List.append_nil]
  · intro acc g hal
    have hx := hlt _ (getD_mem 0 hi)
    have := parts4 hg hp hl hlt hz hi (acc := acc) (g := g) hal 0 (by omega) (leB t (l.getD i 0) z) (.sl false 1 (natsT (acc ++ ((upto i l.length).filter (topB t l z)).map fun i => l.getD i 0)))
      (fun hf => by
        have ht : topB t l z i = false := hf
        rw [upto_step hi, List.filter_cons, ht]
        exact ih acc g (by omega))
      (fun hf => by
        have ht : topB t l z i = true := hf
        have := ih (acc ++ [l.getD i 0]) (g + 1) (by rw [List.length_append]; simp only [List.length_cons, List.length_nil]; omega)
        rw [List.length_append] at this
        have hl1 : acc.length + [l.getD i 0].length = acc.length + 1 := rfl
        rw [hl1] at this
        rw [upto_step hi, List.filter_cons, ht]
        simpa using this)
    simp only [Int.natCast_zero] at this
    apply L74_3_step
    simp only [hp.lenD, Option.bind_some, iLt_len hi, cond_true, hp.idxD 0 hi, deref_int, int?_int, rel_row hx, relRow_d, relRow_at hz, deref_bool, bool?_bool, objBd_cells, this]
theorem parts1 : ∀ i, i ≤ l.length → ∃ y, L74_1 (z : Int) ps (relT t) (i : Int) = some y ∧ IsSl (natsT (((upto i l.length).filter (topB t l z)).map fun i => l.getD i 0)) y := by
  have h12 := hg.e12
  refine upto_induct ?_ fun i hi ih => ?_
  · refine ⟨.nils, ?_, .nil (by rw [upto_end (Nat.le_refl _)]; rfl)⟩
    apply L74_1_step
    simp only [hp.lenD, Option.bind_some, iLt_end, cond_false]
  · have hx := hlt _ (getD_mem 0 hi)
    obtain ⟨y, y1, y2⟩ := ih
    cases ht : topB t l z i with
    | false =>
      refine ⟨y, ?_, by rw [upto_step hi, List.filter_cons, ht]; exact y2⟩
      have := parts2 hg hp hl hlt hz hi (fun _ => trivial) 0 (by omega) (leB t (l.getD i 0) z) y (fun _ => y1) (fun hf => by
        have : topB t l z i = true := hf
        rw [ht] at this; cases this)
      simp only [Int.natCast_zero] at this
      apply L74_1_step
      simp only [hp.lenD, Option.bind_some, iLt_len hi, cond_true, hp.idxD 0 hi, deref_int, int?_int, rel_row hx, relRow_d, relRow_at hz, deref_bool, bool?_bool, this]
    | true =>
      have h3 := parts3 hg hp hl hlt hz (i + 1) (by omega) [l.getD i 0] 1 (by simp)
      refine ⟨_, ?_, by rw [upto_step hi, List.filter_cons, ht]; exact .sl false⟩
      have := parts2 hg hp hl hlt hz hi (fun _ => trivial) 0 (by omega) (leB t (l.getD i 0) z) _ (fun hf => by
        have : topB t l z i = false := hf
        rw [ht] at this; cases this) (fun _ => h3)
      simp only [Int.natCast_zero] at this
      apply L74_1_step
      simp only [hp.lenD, Option.bind_some, iLt_len hi, cond_true, hp.idxD 0 hi, deref_int, int?_int, rel_row hx, relRow_d, relRow_at hz, deref_bool, bool?_bool, this]
      rfl
end
theorem primesN_lt {t : Tbl} {k : Nat} (h : k ∈ primesN t) : k < t.elems.length := mem_upto0.1 (List.mem_filter.1 h).1
theorem primesN_len (t : Tbl) : (primesN t).length ≤ t.elems.length := by
  refine Nat.le_trans (List.length_filter_le _ _) ?_
  simp [upto]
theorem upto_nodup (i n : Nat) : (upto i n).Nodup := by unfold upto; exact List.nodup_range'
theorem parts_eq (t : Tbl) (z : Nat) : (((upto 0 (primesN t).length).filter (topB t (primesN t) z)).map fun i => (primesN t).getD i 0) = partsN t z := by
  have hnd : (primesN t).Nodup := (upto_nodup 0 t.elems.length).filter _
  rw [map_getD_filter (q := fun x => leB t x z && !((primesN t).any fun b => leB t b z && (!decide (x = b) && leB t x b))) (fun i hi => ?_) 0 (by omega), List.drop_zero]
  · unfold partsN greatestN primesN
    rw [List.filter_filter, List.filter_filter]
    refine List.filter_congr fun x _ => ?_
    rw [List.any_filter, List.any_filter]
    cases primeB t x with
    | false => simp
    | true =>
      simp only [Bool.and_true]
      cases leB t x z with
      | false => simp
      | true =>
        simp only [Bool.true_and, Bool.and_true]
        congr 1
        congr 1
        funext b
        cases primeB t b <;> simp
  · unfold topB
    congr 1
    rw [Bool.eq_iff_iff]
    simp only [List.all_eq_true, mem_upto0, Bool.not_eq_true', List.any_eq_false, Bool.and_eq_true, not_and, Bool.or_eq_true, decide_eq_true_eq, Bool.not_eq_eq_eq_not, Bool.not_true, decide_eq_false_iff_not]
    constructor
    · intro h b hb h1 h2 h3
      obtain ⟨k, hk, he⟩ := mem_getD (d := 0) hb
      rcases h k hk with (h4 | h4) | h4
      · subst h4; exact h2 he
      · rw [he, h1] at h4; cases h4
      · rw [he, h3] at h4; cases h4
    · intro h k hk
      by_cases e : k = i
      · exact .inl (.inl e)
      · have hne : (primesN t).getD i 0 ≠ (primesN t).getD k 0 := by
          simp only [List.getD_eq_getElem?_getD, List.getElem?_eq_getElem hi, List.getElem?_eq_getElem hk, Option.getD_some]
          intro he
          rcases Nat.lt_or_gt_of_ne e with h | h
          · exact List.pairwise_iff_getElem.1 hnd k i hk hi h he.symm
          · exact List.pairwise_iff_getElem.1 hnd i k hi hk h he
        cases h1 : leB t ((primesN t).getD k 0) z with
        | false => exact .inl (.inr rfl)
        | true =>
          cases h2 : leB t ((primesN t).getD i 0) ((primesN t).getD k 0) with
          | false => exact .inr rfl
          | true => exact absurd h2 (h _ (getD_mem 0 hk) h1 hne)
end Go.Proofs.Try

/- Joins, primes, parts, height: all of it. -/
open Go Go.Apex Go.StepsTo Go.Lat
namespace Go.Proofs.Try
/-- The error of a table that must be a lattice with some elements. -/
def errL (t : Tbl) (l : List Int) : Int := if checkB t = true then if (brk t).isSome = true then 12 else if l.all (inB t) = true then 0 else 7 else 4
theorem errL_ok {t : Tbl} {l : List Int} (h : errL t l = 0) : checkB t = true ∧ brk t = none ∧ ∀ z ∈ l, inB t z = true := by
  unfold errL at h
  split at h
  · rename_i h1
    split at h
    · cases h
    · rename_i h2
      split at h
      · rename_i h3
        exact ⟨h1, by simpa using h2, List.all_eq_true.1 h3⟩
      · cases h
  · cases h
theorem errL_mk {t : Tbl} {l : List Int} (h1 : checkB t = true) (h2 : brk t = none) (h3 : ∀ z ∈ l, inB t z = true) : errL t l = 0 := by
  unfold errL
  rw [if_pos h1, h2, if_neg (by simp), if_pos (List.all_eq_true.2 h3)]
theorem t2a (x y : T) : T.tup? (List.length [74, 30]) (.tup [x, y]) = some [x, y] := rfl
theorem t2b (x y : T) : T.tup? (List.length [3, 30]) (.tup [x, y]) = some [x, y] := rfl
theorem t2c (x y : T) : T.tup? (List.length [38, 30]) (.tup [x, y]) = some [x, y] := rfl
theorem t2d (x y : T) : T.tup? (List.length [3, 4]) (.tup [x, y]) = some [x, y] := rfl
theorem t2e (x y : T) : T.tup? (List.length [33, 4]) (.tup [x, y]) = some [x, y] := rfl
theorem t2f (x y : T) : T.tup? (List.length [33, 30]) (.tup [x, y]) = some [x, y] := rfl
theorem nt1 (x y : T) : nthT [x, y] 1 = y := rfl
theorem nt0 (x y : T) : nthT [x, y] 0 = x := rfl
theorem scib (z : Int) (b : Bool) : T.scalar (.tup [.int .i64 z, .bool b]) = true := rfl
theorem scii (z y : Int) : T.scalar (.tup [.int .i64 z, .int .i64 y]) = true := rfl
theorem ag3 (x y z : T) : T.agg? (List.length [(D.int IntKind.u8), (D.int IntKind.i64), (D.int IntKind.i64)]) (.agg [x, y, z]) = some [x, y, z] := rfl
theorem n30 (x y z : T) : nthT [x, y, z] 0 = x := rfl
theorem n31 (x y z : T) : nthT [x, y, z] 1 = y := rfl
theorem n32 (x y z : T) : nthT [x, y, z] 2 = z := rfl
theorem br3 (k i j : Int) : derefT (some 3) (.ptr (.agg [.int .u8 k, .int .i64 i, .int .i64 j])) = some (.agg [.int .u8 k, .int .i64 i, .int .i64 j]) := rfl
theorem i00 : iEq 0 0 = true := rfl
theorem i40 : iEq 4 0 = false := rfl
theorem i70 : iEq 7 0 = false := rfl
theorem i120 : iEq 12 0 = false := rfl
theorem scbr (k i j m : Int) : T.scalar (.tup [.agg [.int .u8 k, .int .i64 i, .int .i64 j], .int .i64 m]) = true := rfl
section
variable {t : Tbl} {n : List UInt8} {e a w : T} (h : IsTbl t n e a w) (hs : Small t) (ht : thinB t = true)
include h hs ht
theorem lattice_spec {us : T} {l : List Int} (hu : IsSl (ints l) us) (hl : l.length < 1000000) : fnO acfg 64 [tblT n e a w, us] = some (.tup [if errL t l = 0 then ordP t n e a w else .nilp, .int .i64 (errL t l)]) := by
  apply fn64
  cases hc : checkB t with
  | false =>
    have he : errL t l = 4 := by simp [errL, hc]
    simp only [h.v4, cond_true, h.d4, Option.bind_some, agg4, nth0, nth1, nth2, nth3, str?_str, open_bad h hs hc, t2a, nt1, int?_int, i40, bNot, Bool.not_false, he]
    rfl
  | true =>
    have hg := good_of hc ht
    have ho := open_spec hg h hs
    rw [hc] at ho
    have hsc : T.scalar (outT (brk t)) = true := rfl
    cases hb : brk t with
    | some b =>
      have he : errL t l = 12 := by simp [errL, hc, hb]
      have hbr := broken_spec hg h
      rw [hb] at hbr hsc
      simp only [h.v4, cond_true, h.d4, Option.bind_some, agg4, nth0, nth1, nth2, nth3, str?_str, ho, t2a, nt0, nt1, int?_int, i00, bNot, Bool.not_true, cond_false, hbr, hsc, outT, t2e, tripT, ag3, n30, n31, n32, tripfits, bool?_bool, he, Option.isSome_some]
      rfl
    | none =>
      have hbr := broken_spec hg h
      rw [hb] at hbr hsc
      have hh := has_spec h hu hl
      cases hz : l.all (inB t) with
      | false =>
        have he : errL t l = 7 := by simp only [errL, hc, hb, hz]; rfl
        rw [hz] at hh
        simp only [h.v4, cond_true, h.d4, Option.bind_some, agg4, nth0, nth1, nth2, nth3, str?_str, ho, t2a, nt0, nt1, int?_int, i00, bNot, Bool.not_true, cond_false, hbr, hsc, outT, t2e, tripT, ag3, n30, n31, n32, tripfits, bool?_bool, he, Option.isSome_none, hh, scalar_int, i70, Bool.not_false]
        rfl
      | true =>
        have he : errL t l = 0 := by simp only [errL, hc, hb, hz]; rfl
        rw [hz] at hh
        simp only [h.v4, cond_true, h.d4, Option.bind_some, agg4, nth0, nth1, nth2, nth3, str?_str, ho, t2a, nt0, nt1, int?_int, i00, bNot, Bool.not_true, cond_false, hbr, hsc, outT, t2e, tripT, ag3, n30, n31, n32, tripfits, bool?_bool, he, Option.isSome_none, hh, scalar_int]
        rfl
theorem isLat_spec : fnO acfg 43 [tblT n e a w] = some (.int .i64 (errL t [])) := by
  apply fn43
  have r1 := checkR h hs
  cases hc : checkB t with
  | false =>
    have he : errL t [] = 4 := by simp [errL, hc]
    rw [hc] at r1
    simp only [h.v4, cond_true, h.d4, Option.bind_some, agg4, nth0, nth1, nth2, nth3, str?_str, proveR_bad h r1, tripT, scbr, t2f, nt0, nt1, ag3, n30, n31, n32, int?_int, tripfits, he]
  | true =>
    have hg := good_of hc ht
    rw [hc] at r1
    have he : errL t [] = bif (brk t).isSome then 12 else 0 := by simp only [errL, hc]; cases brk t <;> rfl
    simp only [h.v4, cond_true, h.d4, Option.bind_some, agg4, nth0, nth1, nth2, nth3, str?_str, proveR_good hg h hs r1 (rel_spec hg h), tripT, scbr, t2f, nt0, nt1, ag3, n30, n31, n32, int?_int, tripfits, he]
def joinV (t : Tbl) (y z : Int) : Int := if errL t [y, z] = 0 then (joinN t y.toNat z.toNat : Int) else 0
def primesV (t : Tbl) : List Nat := if errL t [] = 0 then primesN t else []
def partsV (t : Tbl) (z : Int) : List Nat := if errL t [z] = 0 then partsN t z.toNat else []
def highV (t : Tbl) : Int := if errL t [] = 0 then (hgtN t 0 : Int) else 0
omit h hs ht in
theorem iEq_errL {x : Int} : iEq x 0 = decide (x = 0) := by unfold iEq; rw [Bool.eq_iff_iff]; simp
theorem joinP_spec (y z : Int) : fnO acfg 23 [tblT n e a w, .int .i64 y, .int .i64 z] = some (.tup [.int .i64 (joinV t y z), .int .i64 (errL t [y, z])]) := by
  have hl := lattice_spec h hs ht (us := .sl true 1 [.int .i64 y, .int .i64 z]) (l := [y, z]) (.sl true) (by simp)
  apply fn23
  by_cases he : errL t [y, z] = 0
  · obtain ⟨hc, hb, hin⟩ := errL_ok he
    have hg := good_of hc ht
    obtain ⟨i, rfl, hi⟩ := inB_nat (hin y (by simp))
    obtain ⟨j, rfl, hj⟩ := inB_nat (hin z (by simp))
    rw [he] at hl
    simp only [h.v4, cond_true, h.d4, Option.bind_some, agg4, nth0, nth1, nth2, nth3, str?_str, hl, t2a, nt0, nt1, int?_int, if_true, i00, bNot, Bool.not_true, cond_false, join_spec2 hg h hi hj, scib, t2d, bool?_bool, joinV, he, Int.toNat_natCast]
  · have hd : decide (errL t [y, z] = 0) = false := decide_eq_false he
    simp only [h.v4, cond_true, h.d4, Option.bind_some, agg4, nth0, nth1, nth2, nth3, str?_str, hl, t2a, nt0, nt1, int?_int, if_neg he, iEq_errL, hd, bNot, Bool.not_false, joinV]
theorem errL_sub (l : List Int) (he : errL t [] ≠ 0) : errL t l = errL t [] := by
  unfold errL at he ⊢
  split
  · rename_i h1
    rw [if_pos h1] at he
    split
    · rfl
    · rename_i h2
      rw [if_neg h2] at he
      simp at he
  · rfl
theorem elemsR {l : List Int} (he0 : errL t [] = 0) : errL t l = 0 ↔ ∀ z ∈ l, inB t z = true := by
  obtain ⟨hc, hb, _⟩ := errL_ok he0
  exact ⟨fun h => (errL_ok h).2.2, errL_mk hc hb⟩
theorem errL_7 {l : List Int} (he0 : errL t [] = 0) (he : errL t l ≠ 0) : errL t l = 7 := by
  obtain ⟨hc, hb, _⟩ := errL_ok he0
  unfold errL at he ⊢
  rw [if_pos hc, hb, if_neg (by simp)] at he ⊢
  split
  · rename_i h1; rw [if_pos h1] at he; exact absurd rfl he
  · rfl
theorem joinR_spec (y z : Int) : fnO acfg 27 [tblT n e a w, .int .i64 y, .int .i64 z] = some (.tup [.int .i64 (joinV t y z), .int .i64 (errL t [y, z])]) := by
  have hi0 := isLat_spec h hs ht
  apply fn27
  by_cases he0 : errL t [] = 0
  · obtain ⟨hc, hb, _⟩ := errL_ok he0
    have hg := good_of hc ht
    have h12 := hg.e12
    have G := (brk_none t hg.e1).1 hb
    have hE := isElemR h (z := y) hg.e1 (by omega)
    have hE2 := isElemR h (z := z) hg.e1 (by omega)
    rw [he0] at hi0
    by_cases he : errL t [y, z] = 0
    · have hin := (errL_ok he).2.2
      have h1 := hin y (by simp)
      have h2 := hin z (by simp)
      rw [h1] at hE
      rw [h2] at hE2
      obtain ⟨i, rfl, hi⟩ := inB_nat h1
      obtain ⟨j, rfl, hj⟩ := inB_nat h2
      obtain ⟨u, u1, u2⟩ := boundsR_spec hg hi hj
      have hul := ubs_len t i j
      have hls := least_spec2 hg u2 (fun k hk => ubs_lt hk) (by omega)
      rw [join_least G hi hj] at hls
      have h72 : fnO acfg 72 [tblT n e a w, .int .i64 (i : Int), .int .i64 (j : Int)] = some (.int .i64 (joinN t i j : Int)) := by
        apply fn72
        simp only [h.v4, cond_true, h.d4, Option.bind_some, agg4, nth0, nth1, nth2, nth3, str?_str, rel_spec hg h, u1, hls, scalar_int, int?_int]
      simp only [h.v4, cond_true, h.d4, Option.bind_some, agg4, nth0, nth1, nth2, nth3, str?_str, hi0, scalar_int, int?_int, i00, bNot, Bool.not_true, cond_false, hE, hE2, scalar_bool, bool?_bool, h72, joinV, he, if_true, Int.toNat_natCast]
    · have h7 := errL_7 h hs ht he0 he
      cases h1 : inB t y with
      | false =>
        rw [h1] at hE
        simp only [h.v4, cond_true, h.d4, Option.bind_some, agg4, nth0, nth1, nth2, nth3, str?_str, hi0, scalar_int, int?_int, i00, bNot, Bool.not_true, cond_false, hE, scalar_bool, bool?_bool, Bool.not_false, joinV, if_neg he]
        rw [h7]
      | true =>
        have h2 : inB t z = false := by
          cases h2 : inB t z with
          | false => rfl
          | true => exact absurd ((elemsR h hs ht he0).2 fun x hx => by
              rcases List.mem_cons.1 hx with rfl | hx
              · exact h1
              · have : x = z := by simpa using hx
                subst this; exact h2) he
        rw [h1] at hE
        rw [h2] at hE2
        simp only [h.v4, cond_true, h.d4, Option.bind_some, agg4, nth0, nth1, nth2, nth3, str?_str, hi0, scalar_int, int?_int, i00, bNot, Bool.not_true, cond_false, hE, hE2, scalar_bool, bool?_bool, Bool.not_false, joinV, if_neg he]
        rw [h7]
  · have hd : decide (errL t [] = 0) = false := decide_eq_false he0
    have he := errL_sub h hs ht [y, z] he0
    have he1 : errL t [y, z] ≠ 0 := by rw [he]; exact he0
    simp only [h.v4, cond_true, h.d4, Option.bind_some, agg4, nth0, nth1, nth2, nth3, str?_str, hi0, scalar_int, int?_int, iEq_errL, hd, bNot, Bool.not_false, joinV, if_neg he1]
    rw [he]
theorem primesP_spec : ∃ y, fnO acfg 24 [tblT n e a w] = some (.tup [y, .int .i64 (errL t [])]) ∧ IsSl (natsT (primesV t)) y := by
  have hl := lattice_spec h hs ht (us := .nils) (l := []) (.nil rfl) (by simp)
  by_cases he : errL t [] = 0
  · obtain ⟨hc, hb, _⟩ := errL_ok he
    have hg := good_of hc ht
    obtain ⟨y, y1, y2⟩ := where_spec hg h (f := .fn (.func 67) [ordP t n e a w] []) (p := primeB t) fun i hi => callT_scalar1 mode67 (isPrime_spec hg h i) rfl
    refine ⟨y, ?_, by simpa [primesV, primesN, he] using y2⟩
    apply fn24
    rw [he] at hl
    simp only [h.v4, cond_true, h.d4, Option.bind_some, agg4, nth0, nth1, nth2, nth3, str?_str, hl, t2a, nt0, nt1, int?_int, if_true, i00, bNot, Bool.not_true, cond_false, y1, he]
  · have hd : decide (errL t [] = 0) = false := decide_eq_false he
    refine ⟨.nils, ?_, .nil (by simp [primesV, he])⟩
    apply fn24
    simp only [h.v4, cond_true, h.d4, Option.bind_some, agg4, nth0, nth1, nth2, nth3, str?_str, hl, t2a, nt0, nt1, int?_int, if_neg he, iEq_errL, hd, bNot, Bool.not_false]
theorem primesRR_spec : ∃ y, fnO acfg 28 [tblT n e a w] = some (.tup [y, .int .i64 (errL t [])]) ∧ IsSl (natsT (primesV t)) y := by
  have hi0 := isLat_spec h hs ht
  by_cases he : errL t [] = 0
  · obtain ⟨hc, hb, _⟩ := errL_ok he
    have hg := good_of hc ht
    have G := (brk_none t hg.e1).1 hb
    obtain ⟨y, y1, y2⟩ := primesR_spec hg G h
    refine ⟨y, ?_, by simpa [primesV, he] using y2⟩
    apply fn28
    rw [he] at hi0
    simp only [h.v4, cond_true, h.d4, Option.bind_some, agg4, nth0, nth1, nth2, nth3, str?_str, hi0, scalar_int, int?_int, i00, bNot, Bool.not_true, cond_false, y1, he]
  · have hd : decide (errL t [] = 0) = false := decide_eq_false he
    refine ⟨.nils, ?_, .nil (by simp [primesV, he])⟩
    apply fn28
    simp only [h.v4, cond_true, h.d4, Option.bind_some, agg4, nth0, nth1, nth2, nth3, str?_str, hi0, scalar_int, int?_int, iEq_errL, hd, bNot, Bool.not_false]
theorem heightP_spec : fnO acfg 26 [tblT n e a w] = some (.tup [.int .i64 (highV t), .int .i64 (errL t [])]) := by
  have hl := lattice_spec h hs ht (us := .nils) (l := []) (.nil rfl) (by simp)
  apply fn26
  by_cases he : errL t [] = 0
  · obtain ⟨hc, hb, _⟩ := errL_ok he
    have hg := good_of hc ht
    have G := (brk_none t hg.e1).1 hb
    have hh := high_spec hg G h _ 0 hg.e1 (Nat.le_refl _)
    simp only [Int.natCast_zero] at hh
    rw [he] at hl
    simp only [h.v4, cond_true, h.d4, Option.bind_some, agg4, nth0, nth1, nth2, nth3, str?_str, hl, t2a, nt0, nt1, int?_int, if_true, i00, bNot, Bool.not_true, cond_false, hh, scalar_int, highV, he]
  · have hd : decide (errL t [] = 0) = false := decide_eq_false he
    simp only [h.v4, cond_true, h.d4, Option.bind_some, agg4, nth0, nth1, nth2, nth3, str?_str, hl, t2a, nt0, nt1, int?_int, if_neg he, iEq_errL, hd, bNot, Bool.not_false, highV]
theorem heightR_spec : fnO acfg 30 [tblT n e a w] = some (.tup [.int .i64 (highV t), .int .i64 (errL t [])]) := by
  have hi0 := isLat_spec h hs ht
  apply fn30
  by_cases he : errL t [] = 0
  · obtain ⟨hc, hb, _⟩ := errL_ok he
    have hg := good_of hc ht
    have G := (brk_none t hg.e1).1 hb
    have hh := highR_spec hg G h _ 0 hg.e1 (Nat.le_refl _)
    simp only [Int.natCast_zero] at hh
    rw [he] at hi0
    simp only [h.v4, cond_true, h.d4, Option.bind_some, agg4, nth0, nth1, nth2, nth3, str?_str, hi0, int?_int, i00, bNot, Bool.not_true, cond_false, hh, scalar_int, highV, he, if_true]
  · have hd : decide (errL t [] = 0) = false := decide_eq_false he
    simp only [h.v4, cond_true, h.d4, Option.bind_some, agg4, nth0, nth1, nth2, nth3, str?_str, hi0, scalar_int, int?_int, if_neg he, iEq_errL, hd, bNot, Bool.not_false, highV]
theorem partsP_spec (z : Int) : ∃ y, fnO acfg 25 [tblT n e a w, .int .i64 z] = some (.tup [y, .int .i64 (errL t [z])]) ∧ IsSl (natsT (partsV t z)) y := by
  have hl := lattice_spec h hs ht (us := .sl true 1 [.int .i64 z]) (l := [z]) (.sl true) (by simp)
  by_cases he : errL t [z] = 0
  · obtain ⟨hc, hb, hin⟩ := errL_ok he
    have hg := good_of hc ht
    have h12 := hg.e12
    obtain ⟨i, rfl, hi⟩ := inB_nat (hin z (by simp))
    obtain ⟨y, y1, y2⟩ := where_spec hg h (f := .fn (.func 69) [] [.ptr (ordP t n e a w), .ptr (.int .i64 (i : Int))]) (p := fun p => leB t p i && primeB t p) fun k hk => clo69 hg h hi hk
    obtain ⟨u, u1, u2⟩ := greatest_spec hg h y2 (Nat.le_trans (List.length_filter_le _ _) (by simp only [upto, List.length_range']; omega)) fun k hk => mem_upto0.1 (List.mem_filter.1 hk).1
    refine ⟨u, ?_, by simpa [partsV, he, partsN] using u2⟩
    apply fn25
    have v1 : vfits (V.t (ordP t n e a w)) none = true := rfl
    have o1 : oneT (ordP t n e a w) = true := rfl
    have hd : derefT none (.ptr (ordP t n e a w)) = some (ordP t n e a w) := rfl
    rw [he] at hl
    simp only [h.v4, cond_true, h.d4, Option.bind_some, agg4, nth0, nth1, nth2, nth3, str?_str, deref_int, hl, t2a, nt0, nt1, int?_int, if_true, i00, bNot, Bool.not_true, cond_false, v1, o1, hd, y1, u1, he]
  · have hd : decide (errL t [z] = 0) = false := decide_eq_false he
    refine ⟨.nils, ?_, .nil (by simp [partsV, he])⟩
    apply fn25
    have v1 : vfits (V.t T.nilp) none = true := rfl
    have o1 : oneT T.nilp = true := rfl
    simp only [h.v4, cond_true, h.d4, Option.bind_some, agg4, nth0, nth1, nth2, nth3, str?_str, deref_int, hl, t2a, nt0, nt1, int?_int, if_neg he, iEq_errL, hd, bNot, Bool.not_false, v1, o1]
theorem partsR_spec (z : Int) : ∃ y, fnO acfg 29 [tblT n e a w, .int .i64 z] = some (.tup [y, .int .i64 (errL t [z])]) ∧ IsSl (natsT (partsV t z)) y := by
  have hi0 := isLat_spec h hs ht
  by_cases he0 : errL t [] = 0
  · obtain ⟨hc, hb, _⟩ := errL_ok he0
    have hg := good_of hc ht
    have h12 := hg.e12
    have G := (brk_none t hg.e1).1 hb
    have hE := isElemR h (z := z) hg.e1 (by omega)
    rw [he0] at hi0
    by_cases he : errL t [z] = 0
    · have h1 := (errL_ok he).2.2 z (by simp)
      rw [h1] at hE
      obtain ⟨i, rfl, hi⟩ := inB_nat h1
      obtain ⟨y, y1, y2⟩ := primesR_spec hg G h
      have hpl := primesN_len t
      obtain ⟨u, u1, u2⟩ := parts1 hg y2 (by omega) (fun k hk => primesN_lt hk) hi 0 (by omega)
      rw [parts_eq] at u2
      simp only [Int.natCast_zero] at u1
      have h74 : fnO acfg 74 [tblT n e a w, .int .i64 (i : Int)] = some u := by
        apply fn74
        simp only [h.v4, cond_true, h.d4, Option.bind_some, agg4, nth0, nth1, nth2, nth3, str?_str, y1, rel_spec hg h, u1]
      refine ⟨u, ?_, by simpa [partsV, he] using u2⟩
      apply fn29
      simp only [h.v4, cond_true, h.d4, Option.bind_some, agg4, nth0, nth1, nth2, nth3, str?_str, hi0, scalar_int, int?_int, i00, bNot, Bool.not_true, cond_false, hE, scalar_bool, bool?_bool, h74, he]
    · have h7 := errL_7 h hs ht he0 he
      have h1 : inB t z = false := by
        cases h1 : inB t z with
        | false => rfl
        | true => exact absurd ((elemsR h hs ht he0).2 fun x hx => by
            have : x = z := by simpa using hx
            subst this; exact h1) he
      rw [h1] at hE
      refine ⟨.nils, ?_, .nil (by simp [partsV, he])⟩
      apply fn29
      simp only [h.v4, cond_true, h.d4, Option.bind_some, agg4, nth0, nth1, nth2, nth3, str?_str, hi0, scalar_int, int?_int, i00, bNot, Bool.not_true, cond_false, hE, scalar_bool, bool?_bool, Bool.not_false]
      rw [h7]
  · have hd : decide (errL t [] = 0) = false := decide_eq_false he0
    have he := errL_sub h hs ht [z] he0
    have he1 : errL t [z] ≠ 0 := by rw [he]; exact he0
    refine ⟨.nils, ?_, .nil (by simp [partsV, he1])⟩
    apply fn29
    simp only [h.v4, cond_true, h.d4, Option.bind_some, agg4, nth0, nth1, nth2, nth3, str?_str, hi0, scalar_int, int?_int, iEq_errL, hd, bNot, Bool.not_false]
    rw [he]
end
theorem primesV_len (t : Tbl) (hs : Small t) : (primesV t).length < 1000000 := by
  unfold primesV
  have := primesN_len t
  have := hs.e
  split
  · omega
  · simp
theorem partsV_len (t : Tbl) (z : Int) (hs : Small t) : (partsV t z).length < 1000000 := by
  unfold partsV
  have := hs.e
  split
  · refine Nat.lt_of_le_of_lt (List.length_filter_le _ _) (Nat.lt_of_le_of_lt (List.length_filter_le _ _) ?_)
    simp [upto]; omega
  · simp
theorem all_joins {t : Tbl} {n : List UInt8} {e a w : T} (h : IsTbl t n e a w) (haw : fnO acfg 14 [] = some (.bool true)) (y z : Int) : fnO acfg 5 [tblT n e a w, .agg [.int .i64 y, .int .i64 z]] = some (.bool true) := by
  apply fn5
  have v2 : vfits (.t (T.agg [.int .i64 y, .int .i64 z])) (some 2) = true := rfl
  cases ht : thinB t with
  | false => simp only [h.v4, v2, cond_true, h.d4, Option.bind_some, agg4, nth0, nth1, nth2, nth3, str?_str, thin_spec h, ht, scalar_bool, bool?_bool, bNot, Bool.not_false, haw]
  | true =>
    have hs := small_of_thin ht
    obtain ⟨e', a', w', c1, c2⟩ := copy_spec h hs
    have p0 : fldT 0 none (.ptr (.agg [.int .i64 y, .int .i64 z])) = some (.ptr (.int .i64 y)) := rfl
    have p1 : fldT 1 none (.ptr (.agg [.int .i64 y, .int .i64 z])) = some (.ptr (.int .i64 z)) := rfl
    have ie : ∀ z : Int, iEq z z = true := fun z => by simp [iEq]
    obtain ⟨l1, q1, r1⟩ := primesP_spec c2 hs ht
    obtain ⟨l2, q2, r2⟩ := primesRR_spec h hs ht
    obtain ⟨l3, q3, r3⟩ := partsP_spec c2 hs ht y
    obtain ⟨l4, q4, r4⟩ := partsR_spec h hs ht y
    rw [← ints_nats] at r1 r2 r3 r4
    have s1 := sameInts_spec r1 r2 (by rw [List.length_map]; exact primesV_len t hs)
    have s2 := sameInts_spec r3 r4 (by rw [List.length_map]; exact partsV_len t y hs)
    have hsame := sameTable_spec c2 h hs
    simp only [h.v4, v2, cond_true, h.d4, Option.bind_some, agg4, nth0, nth1, nth2, nth3, str?_str, thin_spec h, ht, scalar_bool, bool?_bool, bNot, Bool.not_true, cond_false, c1, c2.v4, c2.d4, p0, p1, deref_int, int?_int, joinP_spec c2 hs ht, scii, t2b, t2c, nt0, nt1, q1, q2, q3, q4,
      heightP_spec c2 hs ht, joinR_spec h hs ht, heightR_spec h hs ht, ie, s1, s2, hsame, haw]
end Go.Proofs.Try
