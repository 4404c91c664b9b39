import Derived.Test.YtcljaeknhmpecaaSpec
import Derived.Test.YtcljaeknhmpecaaOpen
import Derived.Test.YtcljaeknhmpecaaEqs
set_option linter.all false
set_option linter.unusedVariables false
set_option linter.unusedSimpArgs false
set_option linter.unusedSectionVars false
set_option linter.deprecated false
/- OrderHigh: joins one after the other; steps by rounds. -/
open Go Go.Apex Go.StepsTo Go.Lat
namespace Go.Proofs.Try
theorem wrap_sm {a : Int} (h1 : 0 ≤ a) (h2 : a < 1000000) : IntKind.wrap .i64 a = a := by
  have := iAdd_i64 (a := a) (b := 0) (by omega) (by omega)
  unfold iAdd at this
  simpa using this
theorem iOp_rem {b n : Nat} (hb : b < 256) (hn : 1 ≤ n) : iOp BinOp.rem IntKind.i64 (iWrap IntKind.i64 (b : Int)) IntKind.i64 (n : Int) = some ((b % n : Nat) : Int) := by
  unfold iOp iWrap
  rw [wrap_sm (by omega) (by omega)]
  have h0 : ¬ ((n : Int) = 0) := by omega
  have e : Int.tmod (b : Int) (n : Int) = ((b % n : Nat) : Int) := rfl
  simp only [Go.binOp, ne_eq, not_true_eq_false, if_false, Op.intDiv, if_neg h0, e]
  rfl
theorem deref_u8 (n : Int) : derefT none (.ptr (.int .u8 n)) = some (.int .u8 n) := rfl
theorem zerosV_nats (n : Nat) : zerosV (n : Int) (.int .i64 0) = cellsT (natsT (List.replicate n 0)) := by
  unfold zerosV zeros
  rw [Int.toNat_natCast]
  induction n with
  | zero => rfl
  | succ n ih => simp only [List.replicate_succ, List.flatten_cons, ih, List.map_cons]; rfl
theorem nat_cell {S : List Nat} {a : Nat} (ha : a < S.length) : rowS none (cellsT (natsT S)) (rowOff 0 (a : Int) 1) = some (.int .i64 (at0 S a : Int)) := by
  rw [rowOff_1, Nat.zero_add]
  refine rowS_cells ?_
  unfold at0
  rw [List.getElem?_map, List.getElem?_eq_getElem ha, List.getD_eq_getElem?_getD, List.getElem?_eq_getElem ha]
  rfl
theorem nat_set {S : List Nat} {a v : Nat} (ha : a < S.length) : rowSet (cellsT (natsT S)) (rowOff 0 (a : Int) 1) [V.t (T.int .i64 (v : Int))] = cellsT (natsT (S.set a v)) ∧ rowSetOK (cellsT (natsT S)) (rowOff 0 (a : Int) 1) [V.t (T.int .i64 (v : Int))].length = true := by
  rw [rowOff_1]
  refine ⟨?_, rowSetOK_lt (by rw [List.length_map]; exact ha)⟩
  rw [Nat.zero_add, rowSet_cells (by rw [List.length_map]; exact ha), natsT, natsT, List.map_set]
section
variable {t : Tbl} {n : List UInt8} {e a w : T} (h : IsTbl t n e a w) (R : Rt t)
include R
theorem hgt_bot {k : Nat} (hk : k < t.elems.length) : hgtN t k ≤ hgtN t 0 := by
  by_cases e : k = 0
  · subst e; exact Nat.le_refl _
  · have := (hgtN_is R.g R.l).up 0 k R.g.e1 hk ((below_lt R.l R.g.e1).2 ⟨Ne.symm e, R.l.bot k hk⟩)
    omega
theorem high4 (haw : fnO acfg 14 [] = some (.bool true)) {H : Nat} {S : List Nat} (hS : S.length = t.elems.length) {g : Nat} : ∀ i, i ≤ t.elems.length → ∀ m : Nat, (S.drop i).foldl max m = H →
    L7_4 (H : Int) g 0 t.elems.length (m : Int) (i : Int) g (cellsT (natsT S)) = some (.bool true) := by
  have h12 := R.g.e12
  have n1 : nInt t.elems.length = (t.elems.length : Int) := rfl
  refine upto_induct ?_ fun i hi ih => ?_
  · intro m hm
    rw [← hS, List.drop_length] at hm
    simp only [List.foldl_nil] at hm
    subst hm
    apply L7_4_step
    simp only [n1, iLt_end, cond_false, iEq_nn, cond_true, haw, Option.bind_some, scalar_bool, bool?_bool]
  · intro m hm
    rw [List.drop_eq_getElem_cons (by omega), List.foldl_cons] at hm
    have hat : S[i]'(by omega) = at0 S i := by unfold at0; rw [List.getD_eq_getElem?_getD, List.getElem?_eq_getElem (by omega)]; rfl
    rw [hat] at hm
    have := ih _ hm
    apply L7_4_step
    simp only [n1, iLt_len hi, cond_true, rowIn_lt hi, natEq_self, nat_cell (show i < S.length by omega), Option.bind_some, int?_int, objBd_cells, iMax_nat, iAdd_nat (show i < 1000000 by omega), this]
include h
theorem high5 {H : Nat} {q k : Nat} (hq : q < t.elems.length) (hHn : H < t.elems.length) {g : Nat} {r : T} : ∀ c, c ≤ t.elems.length → ∀ S : List Nat, Up1 t.elems.length (hgtN t) H S →
    L7_3 n e a w (H : Int) g 0 t.elems.length (k : Int) ((q + 1 : Nat) : Int) g (cellsT (natsT (relaxC (belowB t) (upto c t.elems.length) S q))) = some r →
    L7_5 n e a w (H : Int) g 0 t.elems.length (k : Int) (q : Int) (c : Int) g (cellsT (natsT S)) = some r := by
  have h12 := R.g.e12
  have hs := R.s
  have n1 : nInt t.elems.length = (t.elems.length : Int) := rfl
  refine upto_induct ?_ fun c hc ih => ?_
  · intro S hS hr
    rw [upto_end (Nat.le_refl _)] at hr
    apply L7_5_step
    simp only [n1, iLt_end, cond_false, objBd_cells, cond_true, iAdd_nat (show q < 1000000 by omega)]
    exact hr
  · intro S hS hr
    rw [upto_step hc] at hr
    have hU := relax_up (hgtN_is R.g R.l) hS hq hc
    have h2 := ih (relax (belowB t) S q c) hU hr
    have hSl := hS.1
    have hb1 := hS.2 c hc
    apply L7_5_step
    have hbl := below_lt R.l hc (b := q)
    by_cases hcq : c = q
    · subst hcq
      have hst : belowB t c c = false := R.l.acy c hc
      unfold relax at h2
      rw [hst] at h2
      simp only [n1, iLt_len hc, cond_true, iEq_nn, bNot, Bool.not_true, cond_false, objBd_cells, iAdd_nat (show c < 1000000 by omega)]
      exact h2
    · cases hle : leB t c q with
      | false =>
        have hst : belowB t c q = false := by
          cases hst : belowB t c q with
          | false => rfl
          | true => rw [(hbl.1 hst).2] at hle; cases hle
        unfold relax at h2
        rw [hst] at h2
        simp only [n1, iLt_len hc, cond_true, iEq_nat, hcq, decide_false, bNot, Bool.not_false, h.d4, Option.bind_some, agg4, nth0, nth1, nth2, nth3, str?_str, bl h R hc hq, hle, scalar_bool, bool?_bool, cond_false, objBd_cells, iAdd_nat (show c < 1000000 by omega)]
        exact h2
      | true =>
        have hst : belowB t c q = true := hbl.2 ⟨hcq, hle⟩
        unfold relax at h2
        rw [hst] at h2
        have h3 : iAdd .i64 (at0 S c : Int) 1 = ((at0 S c + 1 : Nat) : Int) := iAdd_nat (by omega)
        obtain ⟨s1, s2⟩ := nat_set (S := S) (a := q) (v := max (at0 S q) (at0 S c + 1)) (by omega)
        simp only [n1, iLt_len hc, cond_true, iEq_nat, hcq, decide_false, bNot, Bool.not_false, h.d4, Option.bind_some, agg4, nth0, nth1, nth2, nth3, str?_str, bl h R hc hq, hle, scalar_bool, bool?_bool, rowIn_lt hc, rowIn_lt hq, natEq_self, nat_cell (show q < S.length by omega), nat_cell (show c < S.length by omega), int?_int, h3, iMax_nat, s1, s2, objBd_cells, iAdd_nat (show c < 1000000 by omega)]
        exact h2
theorem high3 {H : Nat} {k : Nat} (hk : k < 1000000) (hHn : H < t.elems.length) {g : Nat} {r : T} : ∀ q, q ≤ t.elems.length → ∀ S : List Nat, Up1 t.elems.length (hgtN t) H S →
    L7_2 n e a w (H : Int) g 0 t.elems.length ((k + 1 : Nat) : Int) g (cellsT (natsT (relaxA (belowB t) (upto 0 t.elems.length) (upto q t.elems.length) S))) = some r →
    L7_3 n e a w (H : Int) g 0 t.elems.length (k : Int) (q : Int) g (cellsT (natsT S)) = some r := by
  have h12 := R.g.e12
  have n1 : nInt t.elems.length = (t.elems.length : Int) := rfl
  refine upto_induct ?_ fun q hq ih => ?_
  · intro S hS hr
    rw [upto_end (Nat.le_refl _)] at hr
    apply L7_3_step
    simp only [n1, iLt_end, cond_false, objBd_cells, cond_true, iAdd_nat hk]
    exact hr
  · intro S hS hr
    rw [upto_step hq] at hr
    have hU := relaxC_up (hgtN_is R.g R.l) hq (upto 0 t.elems.length) S (fun c hc => mem_upto0.1 hc) hS
    have h2 := high5 h R (k := k) hq hHn (g := g) (r := r) 0 (by omega) S hS (ih _ hU hr)
    simp only [Int.natCast_zero] at h2
    apply L7_3_step
    simp only [n1, iLt_len hq, cond_true, objBd_cells, h2]
theorem high2 {H : Nat} (hHn : H < t.elems.length) {g : Nat} {r : T} : ∀ k, k ≤ t.elems.length → ∀ S : List Nat, Up1 t.elems.length (hgtN t) H S →
    L7_4 (H : Int) g 0 t.elems.length 0 0 g (cellsT (natsT (relaxR (belowB t) (upto 0 t.elems.length) (upto k t.elems.length) S))) = some r →
    L7_2 n e a w (H : Int) g 0 t.elems.length (k : Int) g (cellsT (natsT S)) = some r := by
  have h12 := R.g.e12
  have n1 : nInt t.elems.length = (t.elems.length : Int) := rfl
  refine upto_induct ?_ fun k hk ih => ?_
  · intro S hS hr
    rw [upto_end (Nat.le_refl _)] at hr
    apply L7_2_step
    simp only [n1, iLt_end, cond_false, objBd_cells, cond_true]
    exact hr
  · intro S hS hr
    rw [upto_step hk] at hr
    have hU := relaxA_up (hgtN_is R.g R.l) (fun c hc => mem_upto0.1 hc) (upto 0 t.elems.length) S (fun c hc => mem_upto0.1 hc) hS
    have h2 := high3 h R (k := k) (by omega) hHn (g := g) (r := r) 0 (by omega) S hS (ih _ hU hr)
    simp only [Int.natCast_zero] at h2
    apply L7_2_step
    simp only [n1, iLt_len hk, cond_true, objBd_cells, h2]
theorem high1 (haw : fnO acfg 14 [] = some (.bool true)) {bs : List UInt8} {y : T} (hy : IsSl (bytesL bs) y) (hl : bs.length ≤ 40) : ∀ i, i ≤ bs.length → ∀ at_ times : Nat, at_ < t.elems.length → times + hgtN t at_ ≤ hgtN t 0 → times ≤ i →
    L7_1 y n e a w (hgtN t 0 : Int) (at_ : Int) (times : Int) (i : Int) = some (.bool true) := by
  have h12 := R.g.e12
  have h1 := R.g.e1
  have hHn := hgtN_lt R.g R.l h1
  refine upto_induct ?_ fun i hi ih => ?_
  · intro at_ times hat htm hti
    have hmk : makeOK (t.elems.length : Int) (t.elems.length : Int) 8 = true := decide_eq_true (by rw [show maxBytes = 140737488355328 from rfl]; omega)
    have hnat : natOf (t.elems.length : Int) = t.elems.length := Int.toNat_natCast _
    have hU0 : Up1 t.elems.length (hgtN t) (hgtN t 0) (List.replicate t.elems.length 0) := ⟨List.length_replicate, fun k hk => by
      have : at0 (List.replicate t.elems.length 0) k = 0 := by
        unfold at0
        rw [List.getD_eq_getElem?_getD, List.getElem?_replicate]
        split <;> rfl
      rw [this]
      have := hgt_bot R hk
      omega⟩
    have hrounds := rounds (hgtN_is R.g R.l) (l := upto 0 t.elems.length) (fun b => mem_upto0) h1 (fun k hk => hgt_bot R hk) hHn (upto 0 t.elems.length) (by simp [upto])
    have hUr := relaxR_up (hgtN_is R.g R.l) (fun c hc => mem_upto0.1 hc) (l := upto 0 t.elems.length) (upto 0 t.elems.length) _ hU0
    have h4 := high4 R haw (H := hgtN t 0) hUr.1 (g := 0) 0 (by omega) 0 hrounds
    simp only [Int.natCast_zero] at h4
    have h2 := high2 h R hHn (g := 0) (r := .bool true) 0 (by omega) _ hU0 h4
    simp only [Int.natCast_zero] at h2
    have hlt : iLt (hgtN t 0 : Int) (times : Int) = false := decide_eq_false (by omega)
    apply L7_1_step
    simp only [hy.lenD, Option.bind_some, iLt_end, cond_false, hlt, h.f1, h.d1, h.e.lenD, hmk, cond_true, zerosV_nats, objBd_cells, hnat]
    exact h2
  · intro at_ times hat htm hti
    have hx := hy.idxD (0 : UInt8) hi
    have hb : (bs.getD i 0).toNat < 256 := (bs.getD i 0).toNat_lt
    have hm : (bs.getD i 0).toNat % t.elems.length < t.elems.length := Nat.mod_lt _ (by omega)
    have hj := join_lt R.l hat hm
    have hstep : times + (if joinN t at_ ((bs.getD i 0).toNat % t.elems.length) = at_ then 0 else 1) + hgtN t (joinN t at_ ((bs.getD i 0).toNat % t.elems.length)) ≤ hgtN t 0 := by
      by_cases e : joinN t at_ ((bs.getD i 0).toNat % t.elems.length) = at_
      · rw [if_pos e, e]; omega
      · rw [if_neg e]
        have := (hgtN_is R.g R.l).up at_ _ hat hj ((below_lt R.l hat).2 ⟨Ne.symm e, (join_isJ R.l hat hm).l⟩)
        omega
    apply L7_1_step
    simp only [hy.lenD, Option.bind_some, iLt_len hi, cond_true, h.d4, agg4, nth0, nth1, nth2, nth3, str?_str, hx, deref_u8, int?_int, h.f1, h.d1, h.e.lenD, iOp_rem hb h1, jn h R hat hm, scalar_int, iLt_n0, cond_false, iEq_nat, iAdd_nat (show i < 1000000 by omega), iAdd_nat (show times < 1000000 by omega)]
    by_cases e : joinN t at_ ((bs.getD i 0).toNat % t.elems.length) = at_
    · rw [if_pos e] at hstep
      have := ih _ times hj (by omega) (by omega)
      simp only [e, decide_true, bNot, Bool.not_true, cond_false]
      rw [e] at this
      exact this
    · rw [if_neg e] at hstep
      have := ih _ (times + 1) hj (by omega) (by omega)
      simp only [e, decide_false, bNot, Bool.not_false, cond_true]
      exact this
end
theorem all_high {t : Tbl} {n : List UInt8} {e a w : T} (h : IsTbl t n e a w) (haw : fnO acfg 14 [] = some (.bool true)) {bs : List UInt8} {y : T} (hy : IsSl (bytesL bs) y) : fnO acfg 7 [tblT n e a w, y] = some (.bool true) := by
  apply fn7
  rcases right_cases h with hr | ⟨hr, R⟩
  · simp only [h.v4, cond_true, h.d4, Option.bind_some, agg4, nth0, nth1, nth2, nth3, str?_str, hr, scalar_bool, bool?_bool, bNot, Bool.not_false, haw]
  · by_cases hl : bs.length ≤ 40
    · have h40 : iLt 40 (bs.length : Int) = false := decide_eq_false (by omega)
      obtain ⟨e', a', w', c1, c2⟩ := copy_spec h R.s
      have hH := heightP_spec c2 R.s R.th
      have hV : highV t = (hgtN t 0 : Int) := by unfold highV; rw [if_pos R.er]
      rw [hV, R.er] at hH
      have hHn := hgtN_lt R.g R.l R.g.e1
      have hle : iLe (t.elems.length : Int) (hgtN t 0 : Int) = false := decide_eq_false (by omega)
      have := high1 h R haw hy hl 0 (by omega) 0 0 R.g.e1 (by omega) (by omega)
      simp only [Int.natCast_zero] at this
      simp only [h.v4, cond_true, h.d4, Option.bind_some, agg4, nth0, nth1, nth2, nth3, str?_str, hr, scalar_bool, bool?_bool, bNot, Bool.not_true, cond_false, hy.lenD, h40, c1, hH, scii, t2b, nt0, nt1, int?_int, i00, iLt_n0, h.f1, h.d1, h.e.lenD, hle, this]
    · have h40 : iLt 40 (bs.length : Int) = true := decide_eq_true (by omega)
      simp only [h.v4, cond_true, h.d4, Option.bind_some, agg4, nth0, nth1, nth2, nth3, str?_str, hr, scalar_bool, bool?_bool, bNot, Bool.not_true, cond_false, hy.lenD, h40, haw]
end Go.Proofs.Try

