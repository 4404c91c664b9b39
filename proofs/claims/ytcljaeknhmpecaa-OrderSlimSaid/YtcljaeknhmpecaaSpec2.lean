import Derived.Test.YtcljaeknhmpecaaSpec
set_option linter.all false
set_option linter.unusedVariables false
set_option linter.unusedSimpArgs false
set_option linter.unusedSectionVars false
set_option linter.deprecated false
/- The slim table: it has its form, reaches the same, and is slim; with one less above it does not. No program. -/
open Go Go.Apex Go.StepsTo Go.Lat
namespace Go.Proofs.Try
theorem form_of {t u : Tbl} (R : Rt t) (bs : Nat → List Nat) (hn : u.name = t.name) (he : u.elems = t.elems) (hw : u.wrong = t.wrong) (ha : u.above.length = t.elems.length) (hr : ∀ k, k < t.elems.length → u.above.getD k [] = (bs k).map Int.ofNat)
    (hb : ∀ k, k < t.elems.length → (∀ b ∈ bs k, b < t.elems.length) ∧ (bs k).Pairwise (· < ·) ∧ (bs k).length ≤ 12) : thinB u = true ∧ checkB u = true ∧ ∀ k, k < t.elems.length → adjN u k = bs k := by
  have hth := R.th
  have hc := R.hc
  have hal : t.above.length = t.elems.length := (good_of R.hc R.th).a
  refine ⟨?_, ?_, fun k hk => ?_⟩
  · simp only [thinB, hn, he, hw, ha, Bool.and_eq_true, decide_eq_true_eq, List.all_eq_true, mem_upto] at hth ⊢
    refine ⟨⟨⟨⟨⟨hth.1.1.1.1.1, by rw [← hal]; exact hth.1.1.1.1.2⟩, hth.1.1.1.2⟩, hth.1.1.2⟩, hth.1.2⟩, fun k hk => ?_⟩
    rw [hr k hk.2, List.length_map]
    have := (hb k hk.2).2.2
    omega
  · simp only [checkB, hn, he, hw, ha, Bool.and_eq_true, decide_eq_true_eq, List.all_eq_true, mem_upto] at hc ⊢
    refine ⟨⟨⟨⟨⟨⟨hc.1.1.1.1.1.1, hc.1.1.1.1.1.2⟩, hc.1.1.1.1.2⟩, trivial⟩, hc.1.1.2⟩, hc.1.2⟩, fun k hk => ?_⟩
    obtain ⟨b1, b2, b3⟩ := hb k hk.2
    rw [hr k hk.2]
    have hat : ∀ i, i < (bs k).length → ((bs k).map Int.ofNat).getD i 0 = (((bs k).getD i 0 : Nat) : Int) := fun i hi => by
      rw [List.getD_eq_getElem?_getD, List.getElem?_map, List.getElem?_eq_getElem hi, List.getD_eq_getElem?_getD, List.getElem?_eq_getElem hi]; rfl
    simp only [listB, elemB, greaterB, Bool.and_eq_true, Bool.or_eq_true, decide_eq_true_eq, List.all_eq_true, mem_upto, List.length_map]
    refine ⟨fun i hi => ?_, fun i hi => ?_⟩
    · rw [hat i hi.2]
      refine ⟨by omega, ?_⟩
      have := b1 ((bs k).getD i 0) (by rw [List.getD_eq_getElem?_getD, List.getElem?_eq_getElem hi.2]; exact List.getElem_mem hi.2)
      omega
    · by_cases h0 : i = 0
      · exact .inl h0
      · right
        rw [hat i hi.2, hat (i - 1) (by omega)]
        have := List.pairwise_iff_getElem.1 b2 (i - 1) i (by omega) hi.2 (by omega)
        rw [List.getD_eq_getElem?_getD, List.getElem?_eq_getElem (show i - 1 < (bs k).length by omega), List.getD_eq_getElem?_getD, List.getElem?_eq_getElem hi.2]
        simp only [Option.getD_some]
        omega
  · unfold adjN
    rw [hr k hk, List.map_map]
    exact (List.map_congr_left fun x _ => by simp).trans (List.map_id _)
theorem next_lt {t : Tbl} {k b : Nat} (hb : b ∈ nextN t k) : b < t.elems.length := mem_upto0.1 (List.mem_filter.1 (List.mem_filter.1 hb).1).1
theorem next_sorted (t : Tbl) (k : Nat) : (nextN t k).Pairwise (· < ·) := by
  unfold nextN
  refine List.Pairwise.filter _ (List.Pairwise.filter _ ?_)
  unfold upto
  exact List.pairwise_lt_range'
section
variable {t : Tbl} (R : Rt t)
include R
theorem next_len (k : Nat) : (nextN t k).length ≤ 12 := by
  have h12 := R.g.e12
  unfold nextN
  refine Nat.le_trans (List.length_filter_le _ _) (Nat.le_trans (List.length_filter_le _ _) ?_)
  simp only [upto, List.length_range']
  omega
theorem mem_next {k b : Nat} (hk : k < t.elems.length) : b ∈ nextN t k ↔ Cov (adjN t) k b := by
  have hg := R.g
  have G := R.l
  simp only [nextN, List.mem_filter, mem_upto0, Bool.not_eq_true', List.any_eq_false, Bool.and_eq_true, Bool.not_eq_true', decide_eq_false_iff_not, not_and]
  constructor
  · rintro ⟨⟨h1, h2⟩, h3⟩
    refine ⟨(below_R hg hk b).1 h2, fun c r1 r2 => ?_⟩
    have hc := r1.lt hg.adj_lt hk
    have hcb := (below_R hg hc b).2 r2
    refine h3 c ⟨hc, (below_R hg hk c).2 r1⟩ (fun e => ?_) (le_iff.2 (.inr hcb))
    subst e
    rw [G.acy b h1] at hcb
    cases hcb
  · rintro ⟨r, no⟩
    have hb := r.lt hg.adj_lt hk
    refine ⟨⟨hb, (below_R hg hk b).2 r⟩, fun c hc hne hle => ?_⟩
    rcases le_iff.1 hle with e | hcb
    · exact hne e.symm
    · exact no c ((below_R hg hk c).1 hc.2) ((below_R hg hc.1 b).1 hcb)
theorem slim_form : thinB (slimT t) = true ∧ checkB (slimT t) = true ∧ ∀ k, k < t.elems.length → adjN (slimT t) k = nextN t k :=
  form_of R (nextN t) rfl rfl rfl (slim_al t) (fun _ hk => slim_at hk) fun k _ => ⟨fun _ hb => next_lt hb, next_sorted t k, next_len R k⟩
theorem slim_good : Good (slimT t) := good_of (slim_form R).2.1 (slim_form R).1
theorem mu_t : ∀ a b, a < t.elems.length → b < t.elems.length → Go.StepsTo.R (adjN t) a b → upn t.elems.length (leB t) b < upn t.elems.length (leB t) a := fun a b ha hb h =>
  (gl_lat R.g R.l).upn_lt ha hb ((below_lt R.l ha).1 ((below_R R.g ha b).2 h))
theorem slim_cov : ∀ a, a < t.elems.length → ∀ b, b ∈ adjN (slimT t) a ↔ Cov (adjN t) a b := fun a ha b => by rw [(slim_form R).2.2 a ha]; exact mem_next R ha
theorem slim_below {a : Nat} (ha : a < t.elems.length) (b : Nat) : belowB (slimT t) a b = belowB t a b := by
  rw [Bool.eq_iff_iff, below_R (slim_good R) ha b, below_R R.g ha b]
  exact cov_same R.g.adj_lt (slim_cov R) (mu_t R) ha b
theorem slim_le {a : Nat} (ha : a < t.elems.length) (b : Nat) : leB (slimT t) a b = leB t a b := by unfold leB; rw [slim_below R ha b]
theorem slim_up {a : Nat} (ha : a < t.elems.length) : up (slimT t) a = up t a := by
  unfold up
  exact List.filter_congr fun x _ => slim_le R ha x
theorem slim_next {k : Nat} (hk : k < t.elems.length) : nextN (slimT t) k = nextN t k := by
  unfold nextN
  have e : (upto 0 (slimT t).elems.length).filter (belowB (slimT t) k) = (upto 0 t.elems.length).filter (belowB t k) := List.filter_congr fun x _ => slim_below R hk x
  rw [e]
  refine List.filter_congr fun x _ => ?_
  congr 1
  rw [Bool.eq_iff_iff, List.any_eq_true, List.any_eq_true]
  constructor
  · rintro ⟨b, hb, h1⟩
    exact ⟨b, hb, by rwa [slim_le R (mem_upto0.1 (List.mem_filter.1 hb).1)] at h1⟩
  · rintro ⟨b, hb, h1⟩
    exact ⟨b, hb, by rwa [slim_le R (mem_upto0.1 (List.mem_filter.1 hb).1)]⟩
theorem slim_slim : slimT (slimT t) = slimT t := by
  have : (upto 0 (slimT t).elems.length).map (fun k => (nextN (slimT t) k).map Int.ofNat) = (upto 0 t.elems.length).map (fun k => (nextN t k).map Int.ofNat) :=
    List.map_congr_left fun k hk => by rw [slim_next R (mem_upto0.1 hk)]
  exact congrArg (fun l => Tbl.mk t.name t.elems l t.wrong) this
theorem slim_isJ {i j m : Nat} (hi : i < t.elems.length) (hj : j < t.elems.length) (h : IsJ t.elems.length (leB t) i j m) : IsJ t.elems.length (leB (slimT t)) i j m :=
  ⟨h.lt, by rw [slim_le R hi]; exact h.l, by rw [slim_le R hj]; exact h.r, fun k hk h1 h2 => by rw [slim_le R h.lt]; exact h.least k hk (by rwa [slim_le R hi] at h1) (by rwa [slim_le R hj] at h2)⟩
theorem slim_rt : Rt (slimT t) := by
  obtain ⟨f1, f2, _⟩ := slim_form R
  have hb : brk (slimT t) = none := by
    refine (brk_none (slimT t) R.g.e1).2 ⟨fun k hk => ?_, fun k hk => ?_, fun i j hi hj => ?_, R.l.w0, fun i j hi hj h1 h2 => ?_⟩
    · rw [slim_below R hk]; exact R.l.acy k hk
    · rw [slim_le R R.g.e1]; exact R.l.bot k hk
    · obtain ⟨m, hm⟩ := Option.isSome_iff_exists.1 (R.l.jn i j hi hj)
      exact least_of_isJ (slim_isJ R hi hj (least_isJ hm))
    · rw [slim_le R hi] at h2; exact R.l.wup i j hi hj h1 h2
  exact ⟨f1, errL_mk f2 hb (by simp), f2, hb⟩
end
/-- A table with other elements above one. -/
def putT (s : Tbl) (a : Nat) (l : List Int) : Tbl := ⟨s.name, s.elems, s.above.set a l, s.wrong⟩
def dropAt (l : List Nat) (i : Nat) : List Nat := l.take i ++ l.drop (i + 1)
theorem dropAt_sub (l : List Nat) (i : Nat) : (dropAt l i).Sublist l := by
  unfold dropAt
  conv => rhs; rw [← List.take_append_drop i l]
  refine List.Sublist.append (List.Sublist.refl _) ?_
  rw [← List.drop_drop]
  exact List.drop_sublist _ _
theorem not_dropAt {l : List Nat} (hs : l.Pairwise (· < ·)) {i : Nat} (hi : i < l.length) : l[i] ∉ dropAt l i := by
  intro h
  unfold dropAt at h
  rcases List.mem_append.1 h with h | h
  · obtain ⟨j, hj, he⟩ := List.getElem_of_mem h
    rw [List.length_take] at hj
    rw [List.getElem_take] at he
    have := List.pairwise_iff_getElem.1 hs j i (by omega) hi (by omega)
    omega
  · obtain ⟨j, hj, he⟩ := List.getElem_of_mem h
    rw [List.length_drop] at hj
    rw [List.getElem_drop] at he
    have := List.pairwise_iff_getElem.1 hs i (i + 1 + j) hi (by omega) (by omega)
    omega
section
variable {t : Tbl} (R : Rt t)
include R
def lessT (t : Tbl) (a i : Nat) : Tbl := putT (slimT t) a ((dropAt (nextN t a) i).map Int.ofNat)
theorem less_form {a : Nat} (ha : a < t.elems.length) (i : Nat) : thinB (lessT t a i) = true ∧ checkB (lessT t a i) = true ∧ ∀ k, k < t.elems.length → adjN (lessT t a i) k = if k = a then dropAt (nextN t a) i else nextN t k := by
  refine form_of R (fun k => if k = a then dropAt (nextN t a) i else nextN t k) rfl rfl rfl (by simp only [lessT, putT, List.length_set]; exact slim_al t) (fun k hk => ?_) fun k hk => ?_
  · simp only [lessT, putT]
    by_cases e : k = a
    · subst e
      rw [if_pos rfl, List.getD_eq_getElem?_getD, List.getElem?_set_self (by rw [slim_al]; exact hk)]
      rfl
    · rw [if_neg e, List.getD_eq_getElem?_getD, List.getElem?_set_ne (fun h => e h.symm), ← List.getD_eq_getElem?_getD]
      exact slim_at hk
  · by_cases e : k = a
    · subst e
      rw [if_pos rfl]
      have hsub := dropAt_sub (nextN t k) i
      exact ⟨fun b hb => next_lt (hsub.subset hb), (next_sorted t k).sublist hsub, Nat.le_trans hsub.length_le (next_len R k)⟩
    · rw [if_neg e]
      exact ⟨fun _ hb => next_lt hb, next_sorted t k, next_len R k⟩
theorem less_up {a i : Nat} (ha : a < t.elems.length) (hi : i < (nextN t a).length) : up (lessT t a i) a ≠ up t a := by
  obtain ⟨f1, f2, f3⟩ := less_form R ha i
  have hgl : Good (lessT t a i) := good_of f2 f1
  have hb : (nextN t a)[i] ∈ nextN t a := List.getElem_mem hi
  have hbl := next_lt hb
  have hcb := (mem_next R ha).1 hb
  have hbel := (below_R R.g ha _).2 hcb.r
  have hin : (nextN t a)[i] ∈ up t a := List.mem_filter.2 ⟨mem_upto0.2 hbl, le_iff.2 (.inr hbel)⟩
  intro e
  rw [← e] at hin
  rcases le_iff.1 (List.mem_filter.1 hin).2 with h | h
  · rw [← h, R.l.acy a ha] at hbel
    cases hbel
  · refine cov_less (adj := adjN t) (cov := adjN (slimT t)) (less := adjN (lessT t a i)) R.g.adj_lt (slim_cov R) ha (by rw [(slim_form R).2.2 a ha]; exact hb) (fun k c hc => ?_) ?_ ((below_R hgl ha _).1 h)
    · by_cases hk : k < t.elems.length
      · rw [f3 k hk] at hc
        rw [(slim_form R).2.2 k hk]
        by_cases e2 : k = a
        · subst e2
          rw [if_pos rfl] at hc
          exact (dropAt_sub _ i).subset hc
        · rwa [if_neg e2] at hc
      · have : (lessT t a i).above.getD k [] = [] := by
          rw [List.getD_eq_getElem?_getD, List.getElem?_eq_none (by simp only [lessT, putT, List.length_set, slim_al]; omega)]; rfl
        unfold adjN at hc
        rw [this] at hc
        cases hc
    · rw [f3 a ha, if_pos rfl]
      exact not_dropAt (next_sorted t a) hi
end
end Go.Proofs.Try


/- OrderSlim: the walk. -/
open Go Go.Apex Go.StepsTo Go.Lat
namespace Go.Proofs.Try
theorem sameInts_gen {x y : T} {l m : List Int} (hx : IsSl (ints l) x) (hy : IsSl (ints m) y) (hl : l.length < 1000000) (hm : m.length < 1000000) : fnO acfg 31 [x, y] = some (.bool (decide (l = m))) := by
  have key : l.length = m.length → ∀ i, i ≤ l.length → L31_1 x y (i : Int) = some (.bool (decide (l.drop i = m.drop i))) := by
    intro he
    refine upto_induct ?_ fun i hi ih => ?_
    · apply L31_1_step
      simp only [hx.lenD, Option.bind_some, iLt_end, cond_false]
      rw [List.drop_length, he, List.drop_length]
      rfl
    · apply L31_1_step
      have e1 : l.drop i = l.getD i 0 :: l.drop (i + 1) := by rw [List.drop_eq_getElem_cons hi, List.getD_eq_getElem?_getD, List.getElem?_eq_getElem hi]; rfl
      have e2 : m.drop i = m.getD i 0 :: m.drop (i + 1) := by rw [List.drop_eq_getElem_cons (by omega), List.getD_eq_getElem?_getD, List.getElem?_eq_getElem (by omega)]; rfl
      have e3 : iEq (l.getD i 0) (m.getD i 0) = decide (l.getD i 0 = m.getD i 0) := by unfold iEq; rw [Bool.eq_iff_iff]; simp
      simp only [hx.lenD, Option.bind_some, iLt_len hi, cond_true, hx.idxD 0 hi, hy.idxD 0 (show i < m.length by omega), deref_int, int?_int, e3, iAdd_nat (show i < 1000000 by omega), ih, e1, e2, List.cons.injEq, Bool.decide_and]
      cases decide (l.getD i 0 = m.getD i 0) <;> simp [bNot]
  apply fn31
  have e3 : iEq (l.length : Int) (m.length : Int) = decide (l.length = m.length) := iEq_nat _ _
  simp only [hx.lenD, hy.lenD, Option.bind_some, e3]
  by_cases he : l.length = m.length
  · have := key he 0 (by omega)
    simp only [Int.natCast_zero, List.drop_zero] at this
    simp only [he, decide_true, bNot, Bool.not_true, cond_false]
    exact this
  · have : l ≠ m := fun e => he (by rw [e])
    simp only [he, decide_false, bNot, Bool.not_false, cond_true, this]
theorem nats_inj {l m : List Nat} (h : l.map Int.ofNat = m.map Int.ofNat) : l = m := by
  have := congrArg (List.map Int.toNat) h
  simpa [List.map_map, Function.comp_def] using this
theorem IsSl.dropN {ts : List T} {x : T} (h : IsSl ts x) {i : Nat} (hi : i < ts.length) : ∃ y, subT 1 x (some ((i + 1 : Nat) : Int)) none none = some y ∧ IsSl (ts.drop (i + 1)) y := by
  cases h with
  | nil h => subst h; simp at hi
  | sl ex =>
    refine ⟨.sl (ex && ((ts.length : Int) == ts.length)) 1 ((ts.take ts.length).drop (i + 1)), ?_, ?_⟩
    · simp only [subT, Option.getD_some, Option.getD_none]
      rw [if_pos ⟨trivial, by omega, by omega, by omega⟩]
      simp
    · rw [List.take_length]
      exact .sl _
/-- A copy whose rows may be written. -/
theorem copy_row {t : Tbl} {n : List UInt8} {e a w : T} (h : IsTbl t n e a w) (hs : Small t) (h0 : 1 ≤ t.above.length) : ∃ e' w' rs p, callO acfg 15 [tblT n e a w] = some p ∧ treeV p.1 = false ∧
    aggRow 2 4 38 none p = some ([.str n, e', .nils, w'], 0, t.above.length, cellsT rs) ∧ RowsTo t rs ∧ rs.length = t.above.length ∧ IsSl (t.elems.map .str) e' ∧ IsSl (t.wrong.map .bool) w' := by
  have hsA := hs.a
  obtain ⟨e', e1, e2⟩ := appT_nil (one_str t.elems) (bytes := 16) (by have := hs.e; rw [List.length_map, maxB]; omega)
  obtain ⟨w', w1, w2⟩ := appT_nil (one_bool t.wrong) (bytes := 1) (by have := hs.w; rw [List.length_map, maxB]; omega)
  have v4 : ∀ y : T, y.one = true → vfits (.t (T.agg [.str n, e', y, w'])) (some 4) = true := fun y hy => by
    show (true && (4 == 4) && ((T.str n).one && (e'.one && (y.one && (w'.one && true))))) = true
    rw [e2.one, hy, w2.one]
    rfl
  have vm : ∀ (i g o l : Nat), vfits (.agg [.t (T.str n), .t e', .msl i g o l none, .t w']) (some 4) = true := fun i g o l => by
    show (true && (4 == 4) && ((T.str n).one && (e'.one && (true && (w'.one && true))))) = true
    rw [e2.one, w2.one]
    rfl
  have rowc : ∀ i, i < t.above.length → ∃ r x9, idxT 1 a (i : Int) = some (.ptr r) ∧ derefT none (.ptr r) = some r ∧ elemsT none r = some (cellsT (ints (t.above.getD i []))) ∧ appT none 1 8 (T.sl true 1 []) (cellsT (ints (t.above.getD i []))) = some x9 ∧ IsSl (ints (t.above.getD i [])) x9 := fun i hi => by
    obtain ⟨r, r1, r2, r3⟩ := h.row hi
    obtain ⟨y, y1, y2⟩ := appT_nil (one_int (t.above.getD i [])) (bytes := 8) (by have := hs.al _ (getD_mem [] hi); rw [List.length_map, maxB]; omega)
    exact ⟨r, y, r1, r2, elemsT_sl r3 (one_int _), y1, y2⟩
  have two : ∀ i, i ≤ t.above.length → ∀ (rs : List T) (g : Nat), rs.length = i → 1 ≤ i → RowsTo t rs → ∃ rs', R15_2 n e a w (i : Int) [] n e' g 0 i w' g (cellsT rs) = some (.tup [.bool true, .int .i64 2, .int .i64 38, .int .i64 0, .int .i64 (t.above.length : Int), .nils, .tup [.str n, e', .nils, w'], .tup rs']) ∧ RowsTo t rs' ∧ rs'.length = t.above.length := by
    refine upto_induct ?_ fun i hi ih => ?_
    · intro rs g hl h1 hr
      refine ⟨rs, ?_, hr, hl⟩
      apply R15_2_step
      simp only [h.f2, h.d2, Option.bind_some, h.len2, iLt_end, cond_false, vm, cond_true, Nat.beq_refl, allT_cells]
      rfl
    · intro rs g hl h1 hr
      obtain ⟨r, y, r1, r2, r3, y1, y2⟩ := rowc i hi
      obtain ⟨rs', ha, hb⟩ := ih (rs ++ [y]) (g + 1) (by simp [hl]) (by omega) (hr.snoc (by omega) (by rw [hl]; exact y2))
      refine ⟨rs', ?_, hb⟩
      apply R15_2_step
      have hok : appOK (cellsT rs) 0 i 1 [V.t y] 24 = true := appOK_row (ys := [y]) (by omega) (by rw [maxB]; simp; omega)
      have hcs : appCs (cellsT rs) 0 [V.t y] = cellsT (rs ++ [y]) := by
        have := appCs_one (cs := rs) (ys := [y]) (off := 0) (OneL.cons y2.one OneL.nil) (by simp)
        simpa using this
      have hobj : ∀ g, objBd 32 (Go.Apex.Obj.cells g 38 false (cellsT (rs ++ [y]))) = true := fun g => objBd_cells _ _ _ _ _
      simp only [h.f2, h.d2, Option.bind_some, h.len2, iLt_len hi, cond_true, r1, r2, r3, y1, vfits_one y2.one, natEq_self, hok, hcs, hobj, iAdd_nat (show i < 1000000 by omega), appGen_one, appLen_one, ha]
  have res : ∃ rs', R15_1 n e a w 0 [] n e' w' = some (.tup [.bool true, .int .i64 2, .int .i64 38, .int .i64 0, .int .i64 (t.above.length : Int), .nils, .tup [.str n, e', .nils, w'], .tup rs']) ∧ RowsTo t rs' ∧ rs'.length = t.above.length := by
    obtain ⟨r, y, r1, r2, r3, y1, y2⟩ := rowc 0 (by omega)
    have hr0 : RowsTo t ([] : List T) := ⟨by simp, fun i hi => by simp at hi⟩
    obtain ⟨a', ha, hb⟩ := two 1 (by omega) [y] 1 rfl (Nat.le_refl _) (hr0.snoc (by simp; omega) y2)
    refine ⟨a', ?_, hb⟩
    apply R15_1_step
    have hz : iLt 0 (t.above.length : Int) = true := by simp [iLt]; omega
    have hrow : rowNew [] [V.t y] = cellsT [y] := rowNew_one (xs := []) (ys := [y]) OneL.nil (OneL.cons y2.one OneL.nil)
    have hobj : objBd 32 (Go.Apex.Obj.cells 1 38 false (cellsT [y])) = true := objBd_cells _ _ _ _ _
    have hi1 : iAdd IntKind.i64 0 1 = ((1 : Nat) : Int) := by decide
    simp only [Int.ofNat_zero, Int.natCast_zero] at r1
    simp only [h.f2, h.d2, Option.bind_some, h.len2, hz, cond_true, r1, r2, r3, y1, vfits_one y2.one, hrow, hobj, hi1, ha]
  obtain ⟨rs, r1, r2, r3⟩ := res
  obtain ⟨p, p1, p2, p3⟩ := row_agg (f := 15) («as» := [tblT n e a w]) (k := 2) (e := 38) (off := 0) (len := t.above.length) (sh := none) (xs := [.str n, e', .nils, w']) (ys := rs) (by
    apply row15
    simp only [h.v4, cond_true, h.f0, deref_str, str?_str, h.f1, h.d1, h.f3, h.d3, Option.bind_some, elemsT_sl h.e (one_str _), e1, elemsT_sl h.w (one_bool _), w1, vfits_one e2.one, vfits_one w2.one, v4 T.nils rfl, r1]
    rfl)
  exact ⟨e', w', rs, p, p1, p2, p3, r2, r3, e2, w2⟩
end Go.Proofs.Try


/- OrderSlim: the loops. -/
open Go Go.Apex Go.StepsTo Go.Lat
namespace Go.Proofs.Try
section
variable {t : Tbl} (R : Rt t)
include R
theorem reach_at {u : Tbl} {n : List UInt8} {e a w : T} (h : IsTbl u n e a w) (ht : thinB u = true) (hc : checkB u = true) {k : Nat} (hk : k < u.elems.length) : ∃ y, fnO acfg 35 [tblT n e a w, .int .i64 (k : Int)] = some (.tup [y, .int .i64 0]) ∧ IsSl (natsT (up u k)) y := by
  obtain ⟨y, y1, y2⟩ := reachP_spec h (small_of_thin ht) ht (k : Int)
  have hin : inB u (k : Int) = true := inB_mk hk
  have hu : upE u (k : Int) = (up u k, 0) := by unfold upE; rw [if_pos hc, if_pos hin, Int.toNat_natCast]
  rw [hu] at y1 y2
  exact ⟨y, y1, y2⟩
theorem up_len (u : Tbl) (hu : u.elems.length = t.elems.length) (k : Nat) : (up u k).length ≤ 12 := by
  have := R.g.e12
  unfold up
  refine Nat.le_trans (List.length_filter_le _ _) ?_
  simp only [upto, List.length_range']
  omega
theorem slim_tail {n : List UInt8} {e' w' : T} {rs : List T} (hn : n = t.name) (r2 : RowsTo (slimT t) rs) (r3 : rs.length = (slimT t).above.length) (i1 : IsSl ((slimT t).elems.map .str) e') (i2 : IsSl ((slimT t).wrong.map .bool) w')
    {a i : Nat} (ha : a < t.elems.length) (hi : i < (nextN t a).length) {k X : T} (hk : IsSl (natsT (up t a)) k) (hX : IsSl (natsT (dropAt (nextN t a) i)) X) :
    rowIn (a : Int) (slimT t).above.length = true ∧ vfits (.t X) none = true ∧ rowSetOK (cellsT rs) (rowOff 0 (a : Int) 1) (List.length [V.t X]) = true ∧
      treeOf none (rowSet (cellsT rs) (rowOff 0 (a : Int) 1) [V.t X]) 0 (slimT t).above.length = some (.sl false 1 (rs.set a X)) ∧
      derefT (some 4) (.ptr (.agg [.str n, e', .sl false 1 (rs.set a X), w'])) = some (tblT n e' (.sl false 1 (rs.set a X)) w') ∧
      ∃ y, fnO acfg 35 [tblT n e' (.sl false 1 (rs.set a X)) w', .int .i64 (a : Int)] = some (.tup [y, .int .i64 0]) ∧ fnO acfg 31 [y, k] = some (.bool false) := by
  have sal := slim_al t
  have hal : a < rs.length := by omega
  obtain ⟨f1, f2, _⟩ := less_form R ha i
  have ho : OneL (rs.set a X) := fun x hx => by
    rcases List.mem_or_eq_of_mem_set hx with h | h
    · exact r2.one x h
    · rw [h]; exact hX.one
  have hT : IsTbl (lessT t a i) n e' (.sl false 1 (rs.set a X)) w' := by
    refine ⟨hn, i1, ⟨rs.set a X, .sl _, by simp only [lessT, putT, List.length_set]; exact r3, fun j hj => ?_⟩, i2⟩
    simp only [lessT, putT, List.length_set] at hj ⊢
    by_cases e : a = j
    · subst e
      rw [List.getD_eq_getElem?_getD, List.getElem?_set_self (by omega), List.getD_eq_getElem?_getD, List.getElem?_set_self hal]
      simp only [Option.getD_some]
      rw [ints_nats]
      exact hX
    · rw [List.getD_eq_getElem?_getD, List.getElem?_set_ne e, List.getD_eq_getElem?_getD, List.getElem?_set_ne e, ← List.getD_eq_getElem?_getD, ← List.getD_eq_getElem?_getD]
      exact r2.r j (by omega)
  obtain ⟨y, y1, y2⟩ := reach_at R hT f1 f2 (k := a) ha
  refine ⟨rowIn_lt (by omega), vfits_one hX.one, ?_, ?_, hT.d4, y, y1, ?_⟩
  · rw [rowOff_1]; exact rowSetOK_lt hal
  · rw [rowOff_1, Nat.zero_add, rowSet_cells hal]
    have := treeOf_cells ho
    rwa [List.length_set, r3] at this
  · have := sameInts_gen (l := (up (lessT t a i) a).map Int.ofNat) (m := (up t a).map Int.ofNat) (x := y) (y := k) (by rw [ints_nats]; exact y2) (by rw [ints_nats]; exact hk)
      (by rw [List.length_map]; have := up_len R (lessT t a i) rfl a; omega) (by rw [List.length_map]; have := up_len R t rfl a; omega)
    rw [this, decide_eq_false fun e => less_up R ha hi (nats_inj e)]
variable {n : List UInt8} {e1 a1 w1 : T} (hS : IsTbl (slimT t) n e1 a1 w1)
include hS
theorem slim_in {te ta tw : T} {a : Nat} (ha : a < t.elems.length) {k : T} (hk : IsSl (natsT (up t a)) k) {r : T} (hr : L12_1 n te ta tw n e1 a1 w1 ((a + 1 : Nat) : Int) = some r) : ∀ i, i ≤ (nextN t a).length → L12_2 n te ta tw n e1 a1 w1 (a : Int) k (i : Int) = some r := by
  have sal := slim_al t
  have h12 := R.g.e12
  have hl12 := next_len R a
  have hsS : Small (slimT t) := small_of_thin (slim_form R).1
  obtain ⟨r0, q1, q2, q3⟩ := hS.row (show a < (slimT t).above.length by omega)
  rw [slim_at ha, ints_nats] at q3
  have iadd : iAdd .i64 (a : Int) 1 = ((a + 1 : Nat) : Int) := iAdd_nat (by omega)
  refine upto_induct ?_ fun i hi ih => ?_
  · apply L12_2_step
    simp only [hS.f2, hS.d2, q1, q2, Option.bind_some, q3.lenD, iLt_end, cond_false, iadd, hr]
  · obtain ⟨e', w', rs, p, p1, p2, p3, r2, r3, i1, i2⟩ := copy_row hS hsS (by omega)
    obtain ⟨u, u1, u2⟩ := q3.takeD (show i ≤ (nextN t a).length by omega)
    obtain ⟨v, v1, v2⟩ := IsSl.dropN q3 (i := i) (by rw [List.length_map]; exact hi)
    rw [← List.map_drop] at v2
    have ue := elemsT_sl u2 (one_nats _)
    have ve := elemsT_sl v2 (one_nats _)
    have vm : ∀ (i g o l : Nat), vfits (.agg [.t (T.str n), .t e', .msl i g o l none, .t w']) (some 4) = true := fun i g o l => by
      show (true && (4 == 4) && ((T.str n).one && (e'.one && (true && (w'.one && true))))) = true
      rw [i1.one, i2.one]
      rfl
    have tail := fun X hX => slim_tail R hS.n r2 r3 i1 i2 ha hi hk (X := X) hX
    have iadi : iAdd .i64 (i : Int) 1 = ((i + 1 : Nat) : Int) := iAdd_nat (by omega)
    have hag : aggRow 2 (List.length [(9, (0, false)), (22, (1, false)), (23, (2, false)), (24, (3, false))]) 38 none p = some ([.str n, e', .nils, w'], 0, (slimT t).above.length, cellsT rs) := p3
    have t2 : ∀ x y : T, T.tup? (List.length [38, 30]) (.tup [x, y]) = some [x, y] := fun _ _ => rfl
    have hi0 : bNot (iEq 0 0) = false := rfl
    have ntk : ∀ xs : List T, isNilL (cellsT xs) = xs.isEmpty := fun xs => by cases xs <;> rfl
    apply L12_2_step
    by_cases h0 : i = 0
    · have hn1 : isNilL (cellsT (natsT ((nextN t a).take i))) = true := by rw [h0]; rfl
      cases hd : (nextN t a).drop (i + 1) with
      | nil =>
        have hX : IsSl (natsT (dropAt (nextN t a) i)) (.sl true 1 []) := by
          have : dropAt (nextN t a) i = [] := by unfold dropAt; rw [hd, h0]; rfl
          rw [this]; exact .sl true
        obtain ⟨c1, c2, c3, c4, c5, y, c6, c7⟩ := tail _ hX
        rw [hd] at ve
        have hn2 : isNilL (cellsT (natsT [])) = true := rfl
        simp only [hS.f2, hS.d2, q1, q2, Option.bind_some, q3.lenD, iLt_len hi, cond_true, hS.d4, agg4, nth0, nth1, nth2, nth3, str?_str, p1, p2, cond_false, hag, vm, u1, ue, hn1, iadi, v1, ve, hn2, c1, c3, c4, c5, c6, t2, nt0, nt1, int?_int, hi0, c7, scalar_bool, bool?_bool, ih]
      | cons b bs =>
        rw [hd] at ve
        have hX : IsSl (natsT (dropAt (nextN t a) i)) (.sl false 1 (natsT (b :: bs))) := by
          have : dropAt (nextN t a) i = b :: bs := by unfold dropAt; rw [hd, h0]; rfl
          rw [this]; exact .sl false
        have hlen : (b :: bs).length ≤ 12 := by rw [← hd, List.length_drop]; omega
        obtain ⟨c1, c2, c3, c4, c5, y, c6, c7⟩ := tail _ hX
        have hn2 : isNilL (cellsT (natsT (b :: bs))) = false := rfl
        have hnew : newOK (List.length ([] : List T)) (List.length (cellsT (natsT (b :: bs)))) 8 = true := newOK_small (by rw [List.length_map, List.length_map, List.length_nil, Nat.zero_add, maxB]; omega)
        have htr : treeOf none (rowNew [] (cellsT (natsT (b :: bs)))) 0 (lenNew [] (cellsT (natsT (b :: bs)))) = some (.sl false 1 (natsT (b :: bs))) := by
          rw [rowNew_one OneL.nil (one_nats _), List.nil_append]
          have e : lenNew [] (cellsT (natsT (b :: bs))) = (natsT (b :: bs)).length := by simp [lenNew]
          rw [e]
          exact treeOf_cells (one_nats _)
        simp only [hS.f2, hS.d2, q1, q2, Option.bind_some, q3.lenD, iLt_len hi, cond_true, hS.d4, agg4, nth0, nth1, nth2, nth3, str?_str, p1, p2, cond_false, hag, vm, u1, ue, hn1, iadi, v1, ve, hn2, hnew, htr, c1, c2, c3, c4, c5, c6, t2, nt0, nt1, int?_int, hi0, c7, scalar_bool, bool?_bool, ih]
    · have hne : (nextN t a).take i ≠ [] := fun e => by
        have := congrArg List.length e
        rw [List.length_take, List.length_nil] at this
        omega
      have hn1 : isNilL (cellsT (natsT ((nextN t a).take i))) = false := by
        rw [ntk]
        cases hc : (nextN t a).take i with
        | nil => exact absurd hc hne
        | cons _ _ => rfl
      have hX : IsSl (natsT (dropAt (nextN t a) i)) (.sl false 1 (natsT ((nextN t a).take i) ++ natsT ((nextN t a).drop (i + 1)))) := by
        have : natsT (dropAt (nextN t a) i) = natsT ((nextN t a).take i) ++ natsT ((nextN t a).drop (i + 1)) := by unfold dropAt natsT; rw [List.map_append]
        rw [this]; exact .sl false
      obtain ⟨c1, c2, c3, c4, c5, y, c6, c7⟩ := tail _ hX
      have hl1 : ((nextN t a).take i).length ≤ 12 := by rw [List.length_take]; omega
      have hl2 : ((nextN t a).drop (i + 1)).length ≤ 12 := by rw [List.length_drop]; omega
      have hnew : newOK (List.length ([] : List T)) (List.length (cellsT (natsT ((nextN t a).take i)))) 8 = true := newOK_small (by rw [List.length_map, List.length_map, List.length_nil, Nat.zero_add, maxB]; omega)
      have hrn : rowNew [] (cellsT (natsT ((nextN t a).take i))) = cellsT (natsT ((nextN t a).take i)) := by rw [rowNew_one OneL.nil (one_nats _), List.nil_append]
      have hln : lenNew [] (cellsT (natsT ((nextN t a).take i))) = ((nextN t a).take i).length := by simp [lenNew]
      have hok : appOK (cellsT (natsT ((nextN t a).take i))) 0 ((nextN t a).take i).length 1 (cellsT (natsT ((nextN t a).drop (i + 1)))) 8 = true :=
        appOK_row (by rw [List.length_map, Nat.zero_add]) (by rw [List.length_map, maxB]; omega)
      have htr : treeOf none (appCs (cellsT (natsT ((nextN t a).take i))) 0 (cellsT (natsT ((nextN t a).drop (i + 1))))) (appOff 0 (cellsT (natsT ((nextN t a).drop (i + 1))))) (appLen ((nextN t a).take i).length (cellsT (natsT ((nextN t a).drop (i + 1))))) = some (.sl false 1 (natsT ((nextN t a).take i) ++ natsT ((nextN t a).drop (i + 1)))) := by
        have e2 : appOff 0 (cellsT (natsT ((nextN t a).drop (i + 1)))) = 0 := by cases (nextN t a).drop (i + 1) <;> rfl
        have e3 : appLen ((nextN t a).take i).length (cellsT (natsT ((nextN t a).drop (i + 1)))) = (natsT ((nextN t a).take i) ++ natsT ((nextN t a).drop (i + 1))).length := by rw [appLen_cells, List.length_append, List.length_map, List.length_map]
        have e1 : appCs (cellsT (natsT ((nextN t a).take i))) 0 (cellsT (natsT ((nextN t a).drop (i + 1)))) = cellsT (natsT ((nextN t a).take i) ++ natsT ((nextN t a).drop (i + 1))) := by
          cases hd : (nextN t a).drop (i + 1) with
          | nil => rw [show natsT ([] : List Nat) = [] from rfl, List.append_nil]; rfl
          | cons b bs => exact appCs_one (one_nats _) (by simp)
        rw [e1, e2, e3]
        exact treeOf_cells (OneL.app (one_nats _) (one_nats _))
      simp only [hS.f2, hS.d2, q1, q2, Option.bind_some, q3.lenD, iLt_len hi, cond_true, hS.d4, agg4, nth0, nth1, nth2, nth3, str?_str, p1, p2, cond_false, hag, vm, u1, ue, hn1, iadi, v1, ve, hnew, hrn, hln, hok, natEq_self, htr, c1, c2, c3, c4, c5, c6, t2, nt0, nt1, int?_int, hi0, c7, scalar_bool, bool?_bool, ih]
end
end Go.Proofs.Try


/- OrderSlim: all of it. -/
open Go Go.Apex Go.StepsTo Go.Lat
namespace Go.Proofs.Try
theorem t2h (x y : T) : T.tup? (List.length [26, 30]) (.tup [x, y]) = some [x, y] := rfl
section
variable {t : Tbl} (R : Rt t) {n : List UInt8} {te ta tw : T} (h : IsTbl t n te ta tw) {e1 a1 w1 : T} (hS : IsTbl (slimT t) n e1 a1 w1)
include R h hS
theorem slim_out (haw : fnO acfg 14 [] = some (.bool true)) : ∀ i, i ≤ t.elems.length → L12_1 n te ta tw n e1 a1 w1 (i : Int) = some (.bool true) := by
  have h12 := R.g.e12
  have hs : Small t := R.s
  have RS := slim_rt R
  have hsS : Small (slimT t) := RS.s
  have se : ∀ z : List UInt8, sEq z z = true := fun z => by simp [sEq]
  have be : ∀ z : Bool, bEq z z = true := fun z => by simp [bEq]
  have hi0 : bNot (iEq 0 0) = false := rfl
  refine upto_induct ?_ fun i hi ih => ?_
  · apply L12_1_step
    simp only [h.f1, h.d1, Option.bind_some, h.e.lenD, iLt_end, cond_false, haw, scalar_bool, cond_true, bool?_bool]
  · obtain ⟨ec, ac, wc, c1, c2⟩ := copy_spec h hs
    obtain ⟨es, as_, ws, s1, s2⟩ := copy_spec hS hsS
    obtain ⟨y, y1, y2⟩ := reach_at R c2 R.th R.hc hi
    obtain ⟨k, k1, k2⟩ := reach_at R s2 RS.th RS.hc (k := i) hi
    rw [slim_up R hi] at k2
    have hl12 := up_len R t rfl i
    have hsm : fnO acfg 31 [y, k] = some (.bool true) := sameInts_spec (l := (up t i).map Int.ofNat) (by rw [ints_nats]; exact y2) (by rw [ints_nats]; exact k2) (by rw [List.length_map]; omega)
    have hw : i < t.wrong.length := by have := R.g.w; omega
    have hin := slim_in R hS (te := te) (ta := ta) (tw := tw) hi k2 ih 0 (by omega)
    simp only [Int.natCast_zero] at hin
    have eS : IsSl (t.elems.map .str) e1 := hS.e
    have wS : IsSl (t.wrong.map .bool) w1 := hS.w
    apply L12_1_step
    simp only [h.f1, h.d1, Option.bind_some, h.e.lenD, iLt_len hi, cond_true, h.d4, agg4, nth0, nth1, nth2, nth3, str?_str, c1, y1, t2c, nt0, nt1, int?_int, hS.d4, s1, k1, i00, cond_false, hsm, scalar_bool, bool?_bool, bNot, Bool.not_true,
      hS.f1, hS.d1, eS.idxD [] hi, h.e.idxD [] hi, deref_str, se, hS.f3, hS.d3, h.f3, h.d3, wS.idxD false hw, h.w.idxD false hw, deref_bool, be, hin]
end
theorem all_slim {t : Tbl} {n : List UInt8} {e a w : T} (h : IsTbl t n e a w) (haw : fnO acfg 14 [] = some (.bool true)) : fnO acfg 12 [tblT n e a w] = some (.bool true) := by
  apply fn12
  rcases right_cases h with hr | ⟨hr, R⟩
  · simp only [h.v4, cond_true, h.d4, Option.bind_some, agg4, nth0, nth1, nth2, nth3, str?_str, hr, scalar_bool, bool?_bool, bNot, Bool.not_false, haw]
  · obtain ⟨ec, ac, wc, c1, c2⟩ := copy_spec h R.s
    obtain ⟨e1, a1, w1, s1, hS⟩ := slim_spec c2 R
    have RS := slim_rt R
    obtain ⟨e2, a2, w2, d1, d2⟩ := copy_spec hS RS.s
    obtain ⟨e3, a3, w3, s3, hA⟩ := slim_spec d2 RS
    rw [slim_slim R] at hA
    have hout := slim_out R h hS haw 0 (by omega)
    simp only [Int.natCast_zero] at hout
    have hla : fnO acfg 43 [tblT n e1 a1 w1] = some (.int .i64 0) := by rw [isLat_spec hS RS.s RS.th, RS.er]
    have hsame := sameTable_spec hA hS RS.s
    have se : ∀ z : List UInt8, sEq z z = true := fun z => by simp [sEq]
    have ie : ∀ z : Int, iEq z z = true := fun z => by simp [iEq]
    have eS : IsSl (t.elems.map .str) e1 := hS.e
    simp only [h.v4, cond_true, h.d4, Option.bind_some, agg4, nth0, nth1, nth2, nth3, str?_str, hr, scalar_bool, bool?_bool, bNot, Bool.not_true, cond_false, c1, s1, t2h, nt0, nt1, int?_int, hS.v4, ie, hS.d4, hla, scalar_int, se, hS.f1, hS.d1, eS.lenD, h.f1, h.d1, h.e.lenD,
      d1, s3, hA.v4, hA.d4, hsame, hout]
end Go.Proofs.Try

