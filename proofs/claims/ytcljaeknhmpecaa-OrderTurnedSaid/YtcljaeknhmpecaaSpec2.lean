import Derived.Test.YtcljaeknhmpecaaSpec
import Derived.Test.YtcljaeknhmpecaaEqs2
set_option linter.all false
set_option linter.unusedVariables false
set_option linter.unusedSimpArgs false
set_option linter.unusedSectionVars false
set_option linter.deprecated false
/- turned: the elements in another order. -/
open Go Go.Apex Go.StepsTo Go.Lat
namespace Go.Proofs.Try
section
variable {t : Tbl} (hg : Good t) {n : List UInt8} {e a w : T} (h : IsTbl t n e a w) {p q : List Nat} (hp : p.length = t.elems.length) (hpl : ∀ i, i < t.elems.length → at0 p i < t.elems.length) (hq : q.length = t.elems.length)
include hg h hp hpl hq
theorem turn1 (z0 : List UInt8) (ga ge gw : Nat) {es : List (List UInt8)} {ws : List Bool} {i : Nat} (hi : i < t.elems.length) {r : T}
    (hn : rowL t.elems.length (adjN t (at0 p i)) q 0 = [] → L21_11 n e a w (t.elems.length : Int) ga 0 t.elems.length 0 0 t.elems.length ((i + 1 : Nat) : Int) z0 ga (cellsT (natsT p)) 0 (cellsT (natsT q)) n ge 0 es.length 1 0 1 gw 0 ws.length ge (cellsT (es.map .str)) gw (cellsT (boolsT ws)) 1 (cellsT [T.nils]) = some r)
    (hr : ∀ ts, ts = rowL t.elems.length (adjN t (at0 p i)) q 0 → ts ≠ [] → L21_17 n e a w (t.elems.length : Int) ga 0 t.elems.length 0 0 t.elems.length ((i + 1 : Nat) : Int) z0 ga (cellsT (natsT p)) 0 (cellsT (natsT q)) n ge 0 es.length 1 0 1 gw 0 ws.length ge (cellsT (es.map .str)) gw (cellsT (boolsT ws)) 1 (cellsT [T.sl false 1 (natsT ts)]) = some r) :
    L21_9 n e a w (t.elems.length : Int) ga 0 t.elems.length 0 0 t.elems.length (i : Int) 0 z0 ga (cellsT (natsT p)) 0 (cellsT (natsT q)) n ge 0 es.length gw 0 ws.length ge (cellsT (es.map .str)) gw (cellsT (boolsT ws)) = some r := by
  have h12 := hg.e12
  have hpi := hpl i hi
  have hal := hg.adj_len (at0 p i)
  obtain ⟨r1, r2, r3, r4⟩ := h.row (show at0 p i < t.above.length by rw [hg.a]; exact hpi)
  rw [hg.row hpi] at r4
  have hlt := hg.adj_lt _ hpi
  have hat : rowS none (cellsT (natsT p)) (rowOff 0 (i : Int) 1) = some (.int .i64 (at0 p i : Int)) := nat_cell (by omega)
  have hto : ∀ k, k < (adjN t (at0 p i)).length → rowIn (((adjN t (at0 p i)).getD k 0 : Nat) : Int) t.elems.length = true ∧ rowS none (cellsT (natsT q)) (rowOff 0 (((adjN t (at0 p i)).getD k 0 : Nat) : Int) 1) = some (.int .i64 (at0 q ((adjN t (at0 p i)).getD k 0) : Int)) := fun k hk => by
    have := hlt _ (getD_mem 0 hk)
    exact ⟨rowIn_lt this, nat_cell (by omega)⟩
  refine turnRow (N := t.elems.length) (m := (adjN t (at0 p i)).length) (hit := hitB (adjN t (at0 p i)) q) (N9 := fun c => L21_9 n e a w (t.elems.length : Int) ga 0 t.elems.length 0 0 t.elems.length (i : Int) (c : Int) z0 ga (cellsT (natsT p)) 0 (cellsT (natsT q)) n ge 0 es.length gw 0 ws.length ge (cellsT (es.map .str)) gw (cellsT (boolsT ws))) (N10 := fun c k => L21_10 n e a w (t.elems.length : Int) ga 0 t.elems.length 0 0 t.elems.length (i : Int) (c : Int) (k : Int) z0 ga (cellsT (natsT p)) 0 (cellsT (natsT q)) n ge 0 es.length gw 0 ws.length ge (cellsT (es.map .str)) gw (cellsT (boolsT ws)))
    (RA := fun acc g c k => L21_12 n e a w (t.elems.length : Int) ga 0 t.elems.length 0 0 t.elems.length (i : Int) g 0 acc.length (c : Int) (k : Int) z0 ga (cellsT (natsT p)) 0 (cellsT (natsT q)) n ge 0 es.length gw 0 ws.length ge (cellsT (es.map .str)) gw (cellsT (boolsT ws)) g (cellsT (natsT acc))) (RB := fun acc g c k => L21_16 n e a w (t.elems.length : Int) ga 0 t.elems.length 0 0 t.elems.length (i : Int) g 0 acc.length (c : Int) (k : Int) z0 ga (cellsT (natsT p)) 0 (cellsT (natsT q)) n ge 0 es.length gw 0 ws.length ge (cellsT (es.map .str)) gw (cellsT (boolsT ws)) g (cellsT (natsT acc))) (R14 := fun acc g c => L21_14 n e a w (t.elems.length : Int) ga 0 t.elems.length 0 0 t.elems.length (i : Int) g 0 acc.length (c : Int) z0 ga (cellsT (natsT p)) 0 (cellsT (natsT q)) n ge 0 es.length gw 0 ws.length ge (cellsT (es.map .str)) gw (cellsT (boolsT ws)) g (cellsT (natsT acc)))
    (Knil := L21_11 n e a w (t.elems.length : Int) ga 0 t.elems.length 0 0 t.elems.length ((i + 1 : Nat) : Int) z0 ga (cellsT (natsT p)) 0 (cellsT (natsT q)) n ge 0 es.length 1 0 1 gw 0 ws.length ge (cellsT (es.map .str)) gw (cellsT (boolsT ws)) 1 (cellsT [T.nils])) (Krow := fun ts => L21_17 n e a w (t.elems.length : Int) ga 0 t.elems.length 0 0 t.elems.length ((i + 1 : Nat) : Int) z0 ga (cellsT (natsT p)) 0 (cellsT (natsT q)) n ge 0 es.length 1 0 1 gw 0 ws.length ge (cellsT (es.map .str)) gw (cellsT (boolsT ws)) 1 (cellsT [T.sl false 1 (natsT ts)])) h12 hal ?_ ?_ ?_ ?_ ?_ ?_ ?_ ?_ ?_ ?_ ?_ ?_ ?_ hn hr
  · intro hr
    apply L21_9_step
    have hrow : rowNew [] [V.t T.nils] = cellsT [T.nils] := rfl
    simp only [iLt_end, cond_false, cond_true, objBd_cells, hrow, iAdd_nat (show i < 1000000 by omega)]
    exact hr
  · intro c hc hr
    apply L21_9_step
    simp only [iLt_len hc, cond_true, objBd_cells]
    simpa using hr
  · intro c hc hr
    apply L21_10_step
    simp only [h.f2, h.d2, Option.bind_some, rowIn_lt hi, natEq_self, cond_true, cond_false, hat, int?_int, r2, r3, r4.lenD, iLt_end, objBd_cells, iAdd_nat (show c < 1000000 by omega)]
    exact hr
  · intro c k hc hk hh hr
    obtain ⟨t1, t2⟩ := hto k hk
    unfold hitB at hh
    apply L21_10_step
    simp only [h.f2, h.d2, Option.bind_some, rowIn_lt hi, natEq_self, cond_true, cond_false, hat, int?_int, r2, r3, r4.lenD, iLt_len hk, r4.idxD 0 hk, deref_int, t1, t2, iEq_nat, hh, objBd_cells, iAdd_nat (show k < 1000000 by omega)]
    exact hr
  · intro c k hc hk hh hr
    obtain ⟨t1, t2⟩ := hto k hk
    unfold hitB at hh
    have hrow : rowNew [] [V.t (T.int .i64 (c : Int))] = cellsT (natsT [c]) := rowNew_one (xs := []) (ys := natsT [c]) OneL.nil (one_nats _)
    apply L21_10_step
    simp only [h.f2, h.d2, Option.bind_some, rowIn_lt hi, natEq_self, cond_true, cond_false, hat, int?_int, r2, r3, r4.lenD, iLt_len hk, r4.idxD 0 hk, deref_int, t1, t2, iEq_nat, hh, hrow, objBd_cells, iAdd_nat (show k < 1000000 by omega)]
    exact hr
  · intro acc g c hc hr
    apply L21_12_step
    simp only [h.f2, h.d2, Option.bind_some, rowIn_lt hi, natEq_self, cond_true, cond_false, hat, int?_int, r2, r3, r4.lenD, iLt_end, objBd_cells, iAdd_nat (show c < 1000000 by omega)]
    exact hr
  · intro acc g c k hc hk hh hr
    obtain ⟨t1, t2⟩ := hto k hk
    unfold hitB at hh
    apply L21_12_step
    simp only [h.f2, h.d2, Option.bind_some, rowIn_lt hi, natEq_self, cond_true, cond_false, hat, int?_int, r2, r3, r4.lenD, iLt_len hk, r4.idxD 0 hk, deref_int, t1, t2, iEq_nat, hh, objBd_cells, iAdd_nat (show k < 1000000 by omega)]
    exact hr
  · intro acc g c k hc hk hh hal2 hr
    obtain ⟨t1, t2⟩ := hto k hk
    unfold hitB at hh
    have hok : appOK (cellsT (natsT acc)) 0 acc.length 1 [V.t (T.int .i64 (c : Int))] 8 = true := appOK_row (ys := [T.int .i64 (c : Int)]) (by simp) (by simp only [List.length_cons, List.length_nil, maxB]; omega)
    have hlen : (acc ++ [c]).length = acc.length + 1 := by rw [List.length_append]; rfl
    simp only [hlen] at hr
    apply L21_12_step
    simp only [h.f2, h.d2, Option.bind_some, rowIn_lt hi, natEq_self, cond_true, cond_false, hat, int?_int, r2, r3, r4.lenD, iLt_len hk, r4.idxD 0 hk, deref_int, t1, t2, iEq_nat, hh, hok, app_one (ts := natsT acc) (off := 0) (td := acc) rfl (by simp), appGen_one, appLen_one, objBd_cells, iAdd_nat (show k < 1000000 by omega)]
    exact hr
  · intro acc g c hc hr
    apply L21_16_step
    simp only [h.f2, h.d2, Option.bind_some, rowIn_lt hi, natEq_self, cond_true, cond_false, hat, int?_int, r2, r3, r4.lenD, iLt_end, objBd_cells, iAdd_nat (show c < 1000000 by omega)]
    exact hr
  · intro acc g c k hc hk hh hr
    obtain ⟨t1, t2⟩ := hto k hk
    unfold hitB at hh
    apply L21_16_step
    simp only [h.f2, h.d2, Option.bind_some, rowIn_lt hi, natEq_self, cond_true, cond_false, hat, int?_int, r2, r3, r4.lenD, iLt_len hk, r4.idxD 0 hk, deref_int, t1, t2, iEq_nat, hh, objBd_cells, iAdd_nat (show k < 1000000 by omega)]
    exact hr
  · intro acc g c k hc hk hh hal2 hr
    obtain ⟨t1, t2⟩ := hto k hk
    unfold hitB at hh
    have hok : appOK (cellsT (natsT acc)) 0 acc.length 1 [V.t (T.int .i64 (c : Int))] 8 = true := appOK_row (ys := [T.int .i64 (c : Int)]) (by simp) (by simp only [List.length_cons, List.length_nil, maxB]; omega)
    have hlen : (acc ++ [c]).length = acc.length + 1 := by rw [List.length_append]; rfl
    simp only [hlen] at hr
    apply L21_16_step
    simp only [h.f2, h.d2, Option.bind_some, rowIn_lt hi, natEq_self, cond_true, cond_false, hat, int?_int, r2, r3, r4.lenD, iLt_len hk, r4.idxD 0 hk, deref_int, t1, t2, iEq_nat, hh, hok, app_one (ts := natsT acc) (off := 0) (td := acc) rfl (by simp), appGen_one, appLen_one, objBd_cells, iAdd_nat (show k < 1000000 by omega)]
    exact hr
  · intro acc g c hc hr
    apply L21_14_step
    simp only [iLt_len hc, cond_true, objBd_cells]
    simpa using hr
  · intro acc g hr
    apply L21_14_step
    have htr : treeOf none (cellsT (natsT acc)) 0 acc.length = some (.sl false 1 (natsT acc)) := by
      have := treeOf_cells (one_nats acc)
      rwa [List.length_map] at this
    have vf : vfits (V.t (T.sl false 1 (natsT acc))) none = true := rfl
    have hrow : rowNew [] [V.t (T.sl false 1 (natsT acc))] = cellsT [T.sl false 1 (natsT acc)] := rfl
    simp only [iLt_end, cond_false, cond_true, natEq_self, htr, Option.bind_some, vf, hrow, objBd_cells, iAdd_nat (show i < 1000000 by omega)]
    exact hr
theorem turn2 (z0 : List UInt8) (ga ge gw gb : Nat) {es : List (List UInt8)} {ws : List Bool} {xs : List T} (hxs : OneL xs) (hxl : xs.length ≤ 100) {i : Nat} (hi : i < t.elems.length) {r : T}
    (hn : rowL t.elems.length (adjN t (at0 p i)) q 0 = [] → L21_11 n e a w (t.elems.length : Int) ga 0 t.elems.length 0 0 t.elems.length ((i + 1 : Nat) : Int) z0 ga (cellsT (natsT p)) 0 (cellsT (natsT q)) n ge 0 es.length (gb + 1) 0 (xs.length + 1) gw 0 ws.length ge (cellsT (es.map .str)) gw (cellsT (boolsT ws)) (gb + 1) (cellsT (xs ++ [T.nils])) = some r)
    (hr : ∀ ts, ts = rowL t.elems.length (adjN t (at0 p i)) q 0 → ts ≠ [] → L21_11 n e a w (t.elems.length : Int) ga 0 t.elems.length 0 0 t.elems.length ((i + 1 : Nat) : Int) z0 ga (cellsT (natsT p)) 0 (cellsT (natsT q)) n ge 0 es.length (gb + 1) 0 (xs.length + 1) gw 0 ws.length ge (cellsT (es.map .str)) gw (cellsT (boolsT ws)) (gb + 1) (cellsT (xs ++ [T.sl false 1 (natsT ts)])) = some r) :
    L21_13 n e a w (t.elems.length : Int) ga 0 t.elems.length 0 0 t.elems.length (i : Int) 0 z0 ga (cellsT (natsT p)) 0 (cellsT (natsT q)) n ge 0 es.length gb 0 xs.length gw 0 ws.length ge (cellsT (es.map .str)) gw (cellsT (boolsT ws)) gb (cellsT xs) = some r := by
  have h12 := hg.e12
  have hpi := hpl i hi
  have hal := hg.adj_len (at0 p i)
  obtain ⟨r1, r2, r3, r4⟩ := h.row (show at0 p i < t.above.length by rw [hg.a]; exact hpi)
  rw [hg.row hpi] at r4
  have hlt := hg.adj_lt _ hpi
  have hat : rowS none (cellsT (natsT p)) (rowOff 0 (i : Int) 1) = some (.int .i64 (at0 p i : Int)) := nat_cell (by omega)
  have hto : ∀ k, k < (adjN t (at0 p i)).length → rowIn (((adjN t (at0 p i)).getD k 0 : Nat) : Int) t.elems.length = true ∧ rowS none (cellsT (natsT q)) (rowOff 0 (((adjN t (at0 p i)).getD k 0 : Nat) : Int) 1) = some (.int .i64 (at0 q ((adjN t (at0 p i)).getD k 0) : Int)) := fun k hk => by
    have := hlt _ (getD_mem 0 hk)
    exact ⟨rowIn_lt this, nat_cell (by omega)⟩
  refine turnRow (N := t.elems.length) (m := (adjN t (at0 p i)).length) (hit := hitB (adjN t (at0 p i)) q) (N9 := fun c => L21_13 n e a w (t.elems.length : Int) ga 0 t.elems.length 0 0 t.elems.length (i : Int) (c : Int) z0 ga (cellsT (natsT p)) 0 (cellsT (natsT q)) n ge 0 es.length gb 0 xs.length gw 0 ws.length ge (cellsT (es.map .str)) gw (cellsT (boolsT ws)) gb (cellsT xs)) (N10 := fun c k => L21_15 n e a w (t.elems.length : Int) ga 0 t.elems.length 0 0 t.elems.length (i : Int) (c : Int) (k : Int) z0 ga (cellsT (natsT p)) 0 (cellsT (natsT q)) n ge 0 es.length gb 0 xs.length gw 0 ws.length ge (cellsT (es.map .str)) gw (cellsT (boolsT ws)) gb (cellsT xs))
    (RA := fun acc g c k => L21_18 n e a w (t.elems.length : Int) ga 0 t.elems.length 0 0 t.elems.length (i : Int) g 0 acc.length (c : Int) (k : Int) z0 ga (cellsT (natsT p)) 0 (cellsT (natsT q)) n ge 0 es.length gb 0 xs.length gw 0 ws.length ge (cellsT (es.map .str)) gw (cellsT (boolsT ws)) gb (cellsT xs) g (cellsT (natsT acc))) (RB := fun acc g c k => L21_22 n e a w (t.elems.length : Int) ga 0 t.elems.length 0 0 t.elems.length (i : Int) g 0 acc.length (c : Int) (k : Int) z0 ga (cellsT (natsT p)) 0 (cellsT (natsT q)) n ge 0 es.length gb 0 xs.length gw 0 ws.length ge (cellsT (es.map .str)) gw (cellsT (boolsT ws)) gb (cellsT xs) g (cellsT (natsT acc))) (R14 := fun acc g c => L21_20 n e a w (t.elems.length : Int) ga 0 t.elems.length 0 0 t.elems.length (i : Int) g 0 acc.length (c : Int) z0 ga (cellsT (natsT p)) 0 (cellsT (natsT q)) n ge 0 es.length gb 0 xs.length gw 0 ws.length ge (cellsT (es.map .str)) gw (cellsT (boolsT ws)) gb (cellsT xs) g (cellsT (natsT acc)))
    (Knil := L21_11 n e a w (t.elems.length : Int) ga 0 t.elems.length 0 0 t.elems.length ((i + 1 : Nat) : Int) z0 ga (cellsT (natsT p)) 0 (cellsT (natsT q)) n ge 0 es.length (gb + 1) 0 (xs.length + 1) gw 0 ws.length ge (cellsT (es.map .str)) gw (cellsT (boolsT ws)) (gb + 1) (cellsT (xs ++ [T.nils]))) (Krow := fun ts => L21_11 n e a w (t.elems.length : Int) ga 0 t.elems.length 0 0 t.elems.length ((i + 1 : Nat) : Int) z0 ga (cellsT (natsT p)) 0 (cellsT (natsT q)) n ge 0 es.length (gb + 1) 0 (xs.length + 1) gw 0 ws.length ge (cellsT (es.map .str)) gw (cellsT (boolsT ws)) (gb + 1) (cellsT (xs ++ [T.sl false 1 (natsT ts)]))) h12 hal ?_ ?_ ?_ ?_ ?_ ?_ ?_ ?_ ?_ ?_ ?_ ?_ ?_ hn hr
  · intro hr
    apply L21_13_step
    have hok : appOK (cellsT xs) 0 xs.length 1 [V.t T.nils] 24 = true := appOK_row (ys := [T.nils]) (by simp) (by simp only [List.length_cons, List.length_nil, maxB]; omega)
    have hcs : appCs (cellsT xs) 0 [V.t T.nils] = cellsT (xs ++ [T.nils]) := by
      have := appCs_one (cs := xs) (ys := [T.nils]) (off := 0) (OneL.cons rfl OneL.nil) (by simp)
      simpa using this
    simp only [iLt_end, cond_false, cond_true, natEq_self, hok, hcs, appGen_one, appLen_one, objBd_cells, iAdd_nat (show i < 1000000 by omega)]
    exact hr
  · intro c hc hr
    apply L21_13_step
    simp only [iLt_len hc, cond_true, objBd_cells]
    simpa using hr
  · intro c hc hr
    apply L21_15_step
    simp only [h.f2, h.d2, Option.bind_some, rowIn_lt hi, natEq_self, cond_true, cond_false, hat, int?_int, r2, r3, r4.lenD, iLt_end, objBd_cells, iAdd_nat (show c < 1000000 by omega)]
    exact hr
  · intro c k hc hk hh hr
    obtain ⟨t1, t2⟩ := hto k hk
    unfold hitB at hh
    apply L21_15_step
    simp only [h.f2, h.d2, Option.bind_some, rowIn_lt hi, natEq_self, cond_true, cond_false, hat, int?_int, r2, r3, r4.lenD, iLt_len hk, r4.idxD 0 hk, deref_int, t1, t2, iEq_nat, hh, objBd_cells, iAdd_nat (show k < 1000000 by omega)]
    exact hr
  · intro c k hc hk hh hr
    obtain ⟨t1, t2⟩ := hto k hk
    unfold hitB at hh
    have hrow : rowNew [] [V.t (T.int .i64 (c : Int))] = cellsT (natsT [c]) := rowNew_one (xs := []) (ys := natsT [c]) OneL.nil (one_nats _)
    apply L21_15_step
    simp only [h.f2, h.d2, Option.bind_some, rowIn_lt hi, natEq_self, cond_true, cond_false, hat, int?_int, r2, r3, r4.lenD, iLt_len hk, r4.idxD 0 hk, deref_int, t1, t2, iEq_nat, hh, hrow, objBd_cells, iAdd_nat (show k < 1000000 by omega)]
    exact hr
  · intro acc g c hc hr
    apply L21_18_step
    simp only [h.f2, h.d2, Option.bind_some, rowIn_lt hi, natEq_self, cond_true, cond_false, hat, int?_int, r2, r3, r4.lenD, iLt_end, objBd_cells, iAdd_nat (show c < 1000000 by omega)]
    exact hr
  · intro acc g c k hc hk hh hr
    obtain ⟨t1, t2⟩ := hto k hk
    unfold hitB at hh
    apply L21_18_step
    simp only [h.f2, h.d2, Option.bind_some, rowIn_lt hi, natEq_self, cond_true, cond_false, hat, int?_int, r2, r3, r4.lenD, iLt_len hk, r4.idxD 0 hk, deref_int, t1, t2, iEq_nat, hh, objBd_cells, iAdd_nat (show k < 1000000 by omega)]
    exact hr
  · intro acc g c k hc hk hh hal2 hr
    obtain ⟨t1, t2⟩ := hto k hk
    unfold hitB at hh
    have hok : appOK (cellsT (natsT acc)) 0 acc.length 1 [V.t (T.int .i64 (c : Int))] 8 = true := appOK_row (ys := [T.int .i64 (c : Int)]) (by simp) (by simp only [List.length_cons, List.length_nil, maxB]; omega)
    have hlen : (acc ++ [c]).length = acc.length + 1 := by rw [List.length_append]; rfl
    simp only [hlen] at hr
    apply L21_18_step
    simp only [h.f2, h.d2, Option.bind_some, rowIn_lt hi, natEq_self, cond_true, cond_false, hat, int?_int, r2, r3, r4.lenD, iLt_len hk, r4.idxD 0 hk, deref_int, t1, t2, iEq_nat, hh, hok, app_one (ts := natsT acc) (off := 0) (td := acc) rfl (by simp), appGen_one, appLen_one, objBd_cells, iAdd_nat (show k < 1000000 by omega)]
    exact hr
  · intro acc g c hc hr
    apply L21_22_step
    simp only [h.f2, h.d2, Option.bind_some, rowIn_lt hi, natEq_self, cond_true, cond_false, hat, int?_int, r2, r3, r4.lenD, iLt_end, objBd_cells, iAdd_nat (show c < 1000000 by omega)]
    exact hr
  · intro acc g c k hc hk hh hr
    obtain ⟨t1, t2⟩ := hto k hk
    unfold hitB at hh
    apply L21_22_step
    simp only [h.f2, h.d2, Option.bind_some, rowIn_lt hi, natEq_self, cond_true, cond_false, hat, int?_int, r2, r3, r4.lenD, iLt_len hk, r4.idxD 0 hk, deref_int, t1, t2, iEq_nat, hh, objBd_cells, iAdd_nat (show k < 1000000 by omega)]
    exact hr
  · intro acc g c k hc hk hh hal2 hr
    obtain ⟨t1, t2⟩ := hto k hk
    unfold hitB at hh
    have hok : appOK (cellsT (natsT acc)) 0 acc.length 1 [V.t (T.int .i64 (c : Int))] 8 = true := appOK_row (ys := [T.int .i64 (c : Int)]) (by simp) (by simp only [List.length_cons, List.length_nil, maxB]; omega)
    have hlen : (acc ++ [c]).length = acc.length + 1 := by rw [List.length_append]; rfl
    simp only [hlen] at hr
    apply L21_22_step
    simp only [h.f2, h.d2, Option.bind_some, rowIn_lt hi, natEq_self, cond_true, cond_false, hat, int?_int, r2, r3, r4.lenD, iLt_len hk, r4.idxD 0 hk, deref_int, t1, t2, iEq_nat, hh, hok, app_one (ts := natsT acc) (off := 0) (td := acc) rfl (by simp), appGen_one, appLen_one, objBd_cells, iAdd_nat (show k < 1000000 by omega)]
    exact hr
  · intro acc g c hc hr
    apply L21_20_step
    simp only [iLt_len hc, cond_true, objBd_cells]
    simpa using hr
  · intro acc g hr
    apply L21_20_step
    have htr : treeOf none (cellsT (natsT acc)) 0 acc.length = some (.sl false 1 (natsT acc)) := by
      have := treeOf_cells (one_nats acc)
      rwa [List.length_map] at this
    have vf : vfits (V.t (T.sl false 1 (natsT acc))) none = true := rfl
    have hok : appOK (cellsT xs) 0 xs.length 1 [V.t (T.sl false 1 (natsT acc))] 24 = true := appOK_row (ys := [T.sl false 1 (natsT acc)]) (by simp) (by simp only [List.length_cons, List.length_nil, maxB]; omega)
    have hcs : appCs (cellsT xs) 0 [V.t (T.sl false 1 (natsT acc))] = cellsT (xs ++ [T.sl false 1 (natsT acc)]) := by
      have := appCs_one (cs := xs) (ys := [T.sl false 1 (natsT acc)]) (off := 0) (OneL.cons rfl OneL.nil) (by simp)
      simpa using this
    simp only [iLt_end, cond_false, cond_true, natEq_self, htr, Option.bind_some, vf, hok, hcs, appGen_one, appLen_one, objBd_cells, iAdd_nat (show i < 1000000 by omega)]
    exact hr
theorem turn3 (z0 : List UInt8) (ga ge gw gb : Nat) {es : List (List UInt8)} {ws : List Bool} {xs : List T} (hxs : OneL xs) (hxl : xs.length ≤ 100) {i : Nat} (hi : i < t.elems.length) {r : T}
    (hn : rowL t.elems.length (adjN t (at0 p i)) q 0 = [] → L21_17 n e a w (t.elems.length : Int) ga 0 t.elems.length 0 0 t.elems.length ((i + 1 : Nat) : Int) z0 ga (cellsT (natsT p)) 0 (cellsT (natsT q)) n ge 0 es.length (gb + 1) 0 (xs.length + 1) gw 0 ws.length ge (cellsT (es.map .str)) gw (cellsT (boolsT ws)) (gb + 1) (cellsT (xs ++ [T.nils])) = some r)
    (hr : ∀ ts, ts = rowL t.elems.length (adjN t (at0 p i)) q 0 → ts ≠ [] → L21_17 n e a w (t.elems.length : Int) ga 0 t.elems.length 0 0 t.elems.length ((i + 1 : Nat) : Int) z0 ga (cellsT (natsT p)) 0 (cellsT (natsT q)) n ge 0 es.length (gb + 1) 0 (xs.length + 1) gw 0 ws.length ge (cellsT (es.map .str)) gw (cellsT (boolsT ws)) (gb + 1) (cellsT (xs ++ [T.sl false 1 (natsT ts)])) = some r) :
    L21_19 n e a w (t.elems.length : Int) ga 0 t.elems.length 0 0 t.elems.length (i : Int) 0 z0 ga (cellsT (natsT p)) 0 (cellsT (natsT q)) n ge 0 es.length gb 0 xs.length gw 0 ws.length ge (cellsT (es.map .str)) gw (cellsT (boolsT ws)) gb (cellsT xs) = some r := by
  have h12 := hg.e12
  have hpi := hpl i hi
  have hal := hg.adj_len (at0 p i)
  obtain ⟨r1, r2, r3, r4⟩ := h.row (show at0 p i < t.above.length by rw [hg.a]; exact hpi)
  rw [hg.row hpi] at r4
  have hlt := hg.adj_lt _ hpi
  have hat : rowS none (cellsT (natsT p)) (rowOff 0 (i : Int) 1) = some (.int .i64 (at0 p i : Int)) := nat_cell (by omega)
  have hto : ∀ k, k < (adjN t (at0 p i)).length → rowIn (((adjN t (at0 p i)).getD k 0 : Nat) : Int) t.elems.length = true ∧ rowS none (cellsT (natsT q)) (rowOff 0 (((adjN t (at0 p i)).getD k 0 : Nat) : Int) 1) = some (.int .i64 (at0 q ((adjN t (at0 p i)).getD k 0) : Int)) := fun k hk => by
    have := hlt _ (getD_mem 0 hk)
    exact ⟨rowIn_lt this, nat_cell (by omega)⟩
  refine turnRow (N := t.elems.length) (m := (adjN t (at0 p i)).length) (hit := hitB (adjN t (at0 p i)) q) (N9 := fun c => L21_19 n e a w (t.elems.length : Int) ga 0 t.elems.length 0 0 t.elems.length (i : Int) (c : Int) z0 ga (cellsT (natsT p)) 0 (cellsT (natsT q)) n ge 0 es.length gb 0 xs.length gw 0 ws.length ge (cellsT (es.map .str)) gw (cellsT (boolsT ws)) gb (cellsT xs)) (N10 := fun c k => L21_21 n e a w (t.elems.length : Int) ga 0 t.elems.length 0 0 t.elems.length (i : Int) (c : Int) (k : Int) z0 ga (cellsT (natsT p)) 0 (cellsT (natsT q)) n ge 0 es.length gb 0 xs.length gw 0 ws.length ge (cellsT (es.map .str)) gw (cellsT (boolsT ws)) gb (cellsT xs))
    (RA := fun acc g c k => L21_23 n e a w (t.elems.length : Int) ga 0 t.elems.length 0 0 t.elems.length (i : Int) g 0 acc.length (c : Int) (k : Int) z0 ga (cellsT (natsT p)) 0 (cellsT (natsT q)) n ge 0 es.length gb 0 xs.length gw 0 ws.length ge (cellsT (es.map .str)) gw (cellsT (boolsT ws)) gb (cellsT xs) g (cellsT (natsT acc))) (RB := fun acc g c k => L21_25 n e a w (t.elems.length : Int) ga 0 t.elems.length 0 0 t.elems.length (i : Int) g 0 acc.length (c : Int) (k : Int) z0 ga (cellsT (natsT p)) 0 (cellsT (natsT q)) n ge 0 es.length gb 0 xs.length gw 0 ws.length ge (cellsT (es.map .str)) gw (cellsT (boolsT ws)) gb (cellsT xs) g (cellsT (natsT acc))) (R14 := fun acc g c => L21_24 n e a w (t.elems.length : Int) ga 0 t.elems.length 0 0 t.elems.length (i : Int) g 0 acc.length (c : Int) z0 ga (cellsT (natsT p)) 0 (cellsT (natsT q)) n ge 0 es.length gb 0 xs.length gw 0 ws.length ge (cellsT (es.map .str)) gw (cellsT (boolsT ws)) gb (cellsT xs) g (cellsT (natsT acc)))
    (Knil := L21_17 n e a w (t.elems.length : Int) ga 0 t.elems.length 0 0 t.elems.length ((i + 1 : Nat) : Int) z0 ga (cellsT (natsT p)) 0 (cellsT (natsT q)) n ge 0 es.length (gb + 1) 0 (xs.length + 1) gw 0 ws.length ge (cellsT (es.map .str)) gw (cellsT (boolsT ws)) (gb + 1) (cellsT (xs ++ [T.nils]))) (Krow := fun ts => L21_17 n e a w (t.elems.length : Int) ga 0 t.elems.length 0 0 t.elems.length ((i + 1 : Nat) : Int) z0 ga (cellsT (natsT p)) 0 (cellsT (natsT q)) n ge 0 es.length (gb + 1) 0 (xs.length + 1) gw 0 ws.length ge (cellsT (es.map .str)) gw (cellsT (boolsT ws)) (gb + 1) (cellsT (xs ++ [T.sl false 1 (natsT ts)]))) h12 hal ?_ ?_ ?_ ?_ ?_ ?_ ?_ ?_ ?_ ?_ ?_ ?_ ?_ hn hr
  · intro hr
    apply L21_19_step
    have hok : appOK (cellsT xs) 0 xs.length 1 [V.t T.nils] 24 = true := appOK_row (ys := [T.nils]) (by simp) (by simp only [List.length_cons, List.length_nil, maxB]; omega)
    have hcs : appCs (cellsT xs) 0 [V.t T.nils] = cellsT (xs ++ [T.nils]) := by
      have := appCs_one (cs := xs) (ys := [T.nils]) (off := 0) (OneL.cons rfl OneL.nil) (by simp)
      simpa using this
    simp only [iLt_end, cond_false, cond_true, natEq_self, hok, hcs, appGen_one, appLen_one, objBd_cells, iAdd_nat (show i < 1000000 by omega)]
    exact hr
  · intro c hc hr
    apply L21_19_step
    simp only [iLt_len hc, cond_true, objBd_cells]
    simpa using hr
  · intro c hc hr
    apply L21_21_step
    simp only [h.f2, h.d2, Option.bind_some, rowIn_lt hi, natEq_self, cond_true, cond_false, hat, int?_int, r2, r3, r4.lenD, iLt_end, objBd_cells, iAdd_nat (show c < 1000000 by omega)]
    exact hr
  · intro c k hc hk hh hr
    obtain ⟨t1, t2⟩ := hto k hk
    unfold hitB at hh
    apply L21_21_step
    simp only [h.f2, h.d2, Option.bind_some, rowIn_lt hi, natEq_self, cond_true, cond_false, hat, int?_int, r2, r3, r4.lenD, iLt_len hk, r4.idxD 0 hk, deref_int, t1, t2, iEq_nat, hh, objBd_cells, iAdd_nat (show k < 1000000 by omega)]
    exact hr
  · intro c k hc hk hh hr
    obtain ⟨t1, t2⟩ := hto k hk
    unfold hitB at hh
    have hrow : rowNew [] [V.t (T.int .i64 (c : Int))] = cellsT (natsT [c]) := rowNew_one (xs := []) (ys := natsT [c]) OneL.nil (one_nats _)
    apply L21_21_step
    simp only [h.f2, h.d2, Option.bind_some, rowIn_lt hi, natEq_self, cond_true, cond_false, hat, int?_int, r2, r3, r4.lenD, iLt_len hk, r4.idxD 0 hk, deref_int, t1, t2, iEq_nat, hh, hrow, objBd_cells, iAdd_nat (show k < 1000000 by omega)]
    exact hr
  · intro acc g c hc hr
    apply L21_23_step
    simp only [h.f2, h.d2, Option.bind_some, rowIn_lt hi, natEq_self, cond_true, cond_false, hat, int?_int, r2, r3, r4.lenD, iLt_end, objBd_cells, iAdd_nat (show c < 1000000 by omega)]
    exact hr
  · intro acc g c k hc hk hh hr
    obtain ⟨t1, t2⟩ := hto k hk
    unfold hitB at hh
    apply L21_23_step
    simp only [h.f2, h.d2, Option.bind_some, rowIn_lt hi, natEq_self, cond_true, cond_false, hat, int?_int, r2, r3, r4.lenD, iLt_len hk, r4.idxD 0 hk, deref_int, t1, t2, iEq_nat, hh, objBd_cells, iAdd_nat (show k < 1000000 by omega)]
    exact hr
  · intro acc g c k hc hk hh hal2 hr
    obtain ⟨t1, t2⟩ := hto k hk
    unfold hitB at hh
    have hok : appOK (cellsT (natsT acc)) 0 acc.length 1 [V.t (T.int .i64 (c : Int))] 8 = true := appOK_row (ys := [T.int .i64 (c : Int)]) (by simp) (by simp only [List.length_cons, List.length_nil, maxB]; omega)
    have hlen : (acc ++ [c]).length = acc.length + 1 := by rw [List.length_append]; rfl
    simp only [hlen] at hr
    apply L21_23_step
    simp only [h.f2, h.d2, Option.bind_some, rowIn_lt hi, natEq_self, cond_true, cond_false, hat, int?_int, r2, r3, r4.lenD, iLt_len hk, r4.idxD 0 hk, deref_int, t1, t2, iEq_nat, hh, hok, app_one (ts := natsT acc) (off := 0) (td := acc) rfl (by simp), appGen_one, appLen_one, objBd_cells, iAdd_nat (show k < 1000000 by omega)]
    exact hr
  · intro acc g c hc hr
    apply L21_25_step
    simp only [h.f2, h.d2, Option.bind_some, rowIn_lt hi, natEq_self, cond_true, cond_false, hat, int?_int, r2, r3, r4.lenD, iLt_end, objBd_cells, iAdd_nat (show c < 1000000 by omega)]
    exact hr
  · intro acc g c k hc hk hh hr
    obtain ⟨t1, t2⟩ := hto k hk
    unfold hitB at hh
    apply L21_25_step
    simp only [h.f2, h.d2, Option.bind_some, rowIn_lt hi, natEq_self, cond_true, cond_false, hat, int?_int, r2, r3, r4.lenD, iLt_len hk, r4.idxD 0 hk, deref_int, t1, t2, iEq_nat, hh, objBd_cells, iAdd_nat (show k < 1000000 by omega)]
    exact hr
  · intro acc g c k hc hk hh hal2 hr
    obtain ⟨t1, t2⟩ := hto k hk
    unfold hitB at hh
    have hok : appOK (cellsT (natsT acc)) 0 acc.length 1 [V.t (T.int .i64 (c : Int))] 8 = true := appOK_row (ys := [T.int .i64 (c : Int)]) (by simp) (by simp only [List.length_cons, List.length_nil, maxB]; omega)
    have hlen : (acc ++ [c]).length = acc.length + 1 := by rw [List.length_append]; rfl
    simp only [hlen] at hr
    apply L21_25_step
    simp only [h.f2, h.d2, Option.bind_some, rowIn_lt hi, natEq_self, cond_true, cond_false, hat, int?_int, r2, r3, r4.lenD, iLt_len hk, r4.idxD 0 hk, deref_int, t1, t2, iEq_nat, hh, hok, app_one (ts := natsT acc) (off := 0) (td := acc) rfl (by simp), appGen_one, appLen_one, objBd_cells, iAdd_nat (show k < 1000000 by omega)]
    exact hr
  · intro acc g c hc hr
    apply L21_24_step
    simp only [iLt_len hc, cond_true, objBd_cells]
    simpa using hr
  · intro acc g hr
    apply L21_24_step
    have htr : treeOf none (cellsT (natsT acc)) 0 acc.length = some (.sl false 1 (natsT acc)) := by
      have := treeOf_cells (one_nats acc)
      rwa [List.length_map] at this
    have vf : vfits (V.t (T.sl false 1 (natsT acc))) none = true := rfl
    have hok : appOK (cellsT xs) 0 xs.length 1 [V.t (T.sl false 1 (natsT acc))] 24 = true := appOK_row (ys := [T.sl false 1 (natsT acc)]) (by simp) (by simp only [List.length_cons, List.length_nil, maxB]; omega)
    have hcs : appCs (cellsT xs) 0 [V.t (T.sl false 1 (natsT acc))] = cellsT (xs ++ [T.sl false 1 (natsT acc)]) := by
      have := appCs_one (cs := xs) (ys := [T.sl false 1 (natsT acc)]) (off := 0) (OneL.cons rfl OneL.nil) (by simp)
      simpa using this
    simp only [iLt_end, cond_false, cond_true, natEq_self, htr, Option.bind_some, vf, hok, hcs, appGen_one, appLen_one, objBd_cells, iAdd_nat (show i < 1000000 by omega)]
    exact hr
theorem main11 (z0 : List UInt8) (ga : Nat) : ∀ i, i ≤ t.elems.length → 1 ≤ i → ∀ (xs : List T) (ge gw gb : Nat), CollU t p q i xs →
    ∃ xs2, CollU t p q t.elems.length xs2 ∧ L21_11 n e a w (t.elems.length : Int) ga 0 t.elems.length 0 0 t.elems.length (i : Int) z0 ga (cellsT (natsT p)) 0 (cellsT (natsT q)) n ge 0 i gb 0 i gw 0 i ge (cellsT ((elemsU t p i).map .str)) gw (cellsT (boolsT (wrongU t p i))) gb (cellsT xs) = some (resU t n p q xs2) := by
  have h12 := hg.e12
  have hw0 := hg.w
  refine upto_induct ?_ fun i hi ih => ?_
  · intro _ xs ge gw gb C
    refine ⟨xs, C, ?_⟩
    have r1 := rowT_all (OneL.map (fun _ => rfl) (elemsU t p t.elems.length) : OneL ((elemsU t p t.elems.length).map T.str))
    have r2 := rowT_all C.one
    have r3 := rowT_all (one_bools (wrongU t p t.elems.length))
    have r4 := rowT_all (one_nats q)
    rw [List.length_map, elemsU_len] at r1
    rw [C.len] at r2
    rw [List.length_map, wrongU_len] at r3
    rw [List.length_map, hq] at r4
    apply L21_11_step
    simp only [iLt_end, cond_false, natEq_self, cond_true, r1, r2, r3, r4, Option.bind_some]
    rfl
  · intro h1 xs ge gw gb C
    have hpi := hpl i hi
    have hat : rowS none (cellsT (natsT p)) (rowOff 0 (i : Int) 1) = some (.int .i64 (at0 p i : Int)) := nat_cell (by omega)
    have e1 := h.e.idxD [] hpi
    have w1 := h.w.idxD false (show at0 p i < t.wrong.length by omega)
    have ok1 : appOK (cellsT ((elemsU t p i).map .str)) 0 i 1 [V.t (T.str (t.elems.getD (at0 p i) []))] 16 = true := appOK_row (ys := [T.str (t.elems.getD (at0 p i) [])]) (by rw [List.length_map, elemsU_len]; omega) (by simp only [List.length_cons, List.length_nil, maxB]; omega)
    have ok2 : appOK (cellsT (boolsT (wrongU t p i))) 0 i 1 [V.t (T.bool (t.wrong.getD (at0 p i) false))] 1 = true := appOK_row (ys := [T.bool (t.wrong.getD (at0 p i) false)]) (by rw [List.length_map, wrongU_len]; omega) (by simp only [List.length_cons, List.length_nil, maxB]; omega)
    have cs1 : appCs (cellsT ((elemsU t p i).map .str)) 0 [V.t (T.str (t.elems.getD (at0 p i) []))] = cellsT ((elemsU t p (i + 1)).map .str) := by
      have := appCs_one (cs := (elemsU t p i).map .str) (ys := [T.str (t.elems.getD (at0 p i) [])]) (off := 0) (OneL.cons rfl OneL.nil) (by simp)
      rw [elemsU_snoc, List.map_append]
      simpa using this
    have cs2 : appCs (cellsT (boolsT (wrongU t p i))) 0 [V.t (T.bool (t.wrong.getD (at0 p i) false))] = cellsT (boolsT (wrongU t p (i + 1))) := by
      have := appCs_one (cs := boolsT (wrongU t p i)) (ys := [T.bool (t.wrong.getD (at0 p i) false)]) (off := 0) (OneL.cons rfl OneL.nil) (by simp)
      rw [wrongU_snoc]
      simpa [boolsT] using this
    obtain ⟨xn, Cn, hn⟩ : ∃ xn, CollU t p q (i + 1) xn ∧ ((rowL t.elems.length (adjN t (at0 p i)) q 0 = [] ∧ xn = xs ++ [T.nils]) ∨ (rowL t.elems.length (adjN t (at0 p i)) q 0 ≠ [] ∧ xn = xs ++ [.sl false 1 (natsT (rowL t.elems.length (adjN t (at0 p i)) q 0))])) := C.next hi
    obtain ⟨xs2, C2, hres⟩ := ih (by omega) xn (ge + 1) (gw + 1) (gb + 1) Cn
    refine ⟨xs2, C2, ?_⟩
    have hL := turn2 hg h hp hpl hq z0 ga (ge + 1) (gw + 1) gb (es := elemsU t p (i + 1)) (ws := wrongU t p (i + 1)) (xs := xs) C.one (by rw [C.len]; omega) hi (r := resU t n p q xs2)
      (fun h0 => by
        rcases hn with ⟨_, rfl⟩ | ⟨h2, _⟩
        · rw [elemsU_len, wrongU_len, C.len]; exact hres
        · exact absurd h0 h2)
      (fun ts hts h0 => by
        subst hts
        rcases hn with ⟨h2, _⟩ | ⟨_, rfl⟩
        · exact absurd h2 h0
        · rw [elemsU_len, wrongU_len, C.len]; exact hres)
    rw [elemsU_len, wrongU_len, C.len] at hL
    apply L21_11_step
    simp only [iLt_len hi, cond_true, h.f1, h.d1, h.f3, h.d3, Option.bind_some, rowIn_lt hi, natEq_self, hat, int?_int, e1, deref_str, str?_str, ok1, w1, deref_bool, bool?_bool, ok2, cs1, cs2, appGen_one, appLen_one, objBd_cells, hL]
theorem main17 (z0 : List UInt8) (ga : Nat) : ∀ i, i ≤ t.elems.length → 1 ≤ i → ∀ (xs : List T) (ge gw gb : Nat), CollU t p q i xs →
    ∃ xs2, CollU t p q t.elems.length xs2 ∧ L21_17 n e a w (t.elems.length : Int) ga 0 t.elems.length 0 0 t.elems.length (i : Int) z0 ga (cellsT (natsT p)) 0 (cellsT (natsT q)) n ge 0 i gb 0 i gw 0 i ge (cellsT ((elemsU t p i).map .str)) gw (cellsT (boolsT (wrongU t p i))) gb (cellsT xs) = some (resU t n p q xs2) := by
  have h12 := hg.e12
  have hw0 := hg.w
  refine upto_induct ?_ fun i hi ih => ?_
  · intro _ xs ge gw gb C
    refine ⟨xs, C, ?_⟩
    have r1 := rowT_all (OneL.map (fun _ => rfl) (elemsU t p t.elems.length) : OneL ((elemsU t p t.elems.length).map T.str))
    have r2 := rowT_all C.one
    have r3 := rowT_all (one_bools (wrongU t p t.elems.length))
    have r4 := rowT_all (one_nats q)
    rw [List.length_map, elemsU_len] at r1
    rw [C.len] at r2
    rw [List.length_map, wrongU_len] at r3
    rw [List.length_map, hq] at r4
    apply L21_17_step
    simp only [iLt_end, cond_false, natEq_self, cond_true, r1, r2, r3, r4, Option.bind_some]
    rfl
  · intro h1 xs ge gw gb C
    have hpi := hpl i hi
    have hat : rowS none (cellsT (natsT p)) (rowOff 0 (i : Int) 1) = some (.int .i64 (at0 p i : Int)) := nat_cell (by omega)
    have e1 := h.e.idxD [] hpi
    have w1 := h.w.idxD false (show at0 p i < t.wrong.length by omega)
    have ok1 : appOK (cellsT ((elemsU t p i).map .str)) 0 i 1 [V.t (T.str (t.elems.getD (at0 p i) []))] 16 = true := appOK_row (ys := [T.str (t.elems.getD (at0 p i) [])]) (by rw [List.length_map, elemsU_len]; omega) (by simp only [List.length_cons, List.length_nil, maxB]; omega)
    have ok2 : appOK (cellsT (boolsT (wrongU t p i))) 0 i 1 [V.t (T.bool (t.wrong.getD (at0 p i) false))] 1 = true := appOK_row (ys := [T.bool (t.wrong.getD (at0 p i) false)]) (by rw [List.length_map, wrongU_len]; omega) (by simp only [List.length_cons, List.length_nil, maxB]; omega)
    have cs1 : appCs (cellsT ((elemsU t p i).map .str)) 0 [V.t (T.str (t.elems.getD (at0 p i) []))] = cellsT ((elemsU t p (i + 1)).map .str) := by
      have := appCs_one (cs := (elemsU t p i).map .str) (ys := [T.str (t.elems.getD (at0 p i) [])]) (off := 0) (OneL.cons rfl OneL.nil) (by simp)
      rw [elemsU_snoc, List.map_append]
      simpa using this
    have cs2 : appCs (cellsT (boolsT (wrongU t p i))) 0 [V.t (T.bool (t.wrong.getD (at0 p i) false))] = cellsT (boolsT (wrongU t p (i + 1))) := by
      have := appCs_one (cs := boolsT (wrongU t p i)) (ys := [T.bool (t.wrong.getD (at0 p i) false)]) (off := 0) (OneL.cons rfl OneL.nil) (by simp)
      rw [wrongU_snoc]
      simpa [boolsT] using this
    obtain ⟨xn, Cn, hn⟩ : ∃ xn, CollU t p q (i + 1) xn ∧ ((rowL t.elems.length (adjN t (at0 p i)) q 0 = [] ∧ xn = xs ++ [T.nils]) ∨ (rowL t.elems.length (adjN t (at0 p i)) q 0 ≠ [] ∧ xn = xs ++ [.sl false 1 (natsT (rowL t.elems.length (adjN t (at0 p i)) q 0))])) := C.next hi
    obtain ⟨xs2, C2, hres⟩ := ih (by omega) xn (ge + 1) (gw + 1) (gb + 1) Cn
    refine ⟨xs2, C2, ?_⟩
    have hL := turn3 hg h hp hpl hq z0 ga (ge + 1) (gw + 1) gb (es := elemsU t p (i + 1)) (ws := wrongU t p (i + 1)) (xs := xs) C.one (by rw [C.len]; omega) hi (r := resU t n p q xs2)
      (fun h0 => by
        rcases hn with ⟨_, rfl⟩ | ⟨h2, _⟩
        · rw [elemsU_len, wrongU_len, C.len]; exact hres
        · exact absurd h0 h2)
      (fun ts hts h0 => by
        subst hts
        rcases hn with ⟨h2, _⟩ | ⟨_, rfl⟩
        · exact absurd h2 h0
        · rw [elemsU_len, wrongU_len, C.len]; exact hres)
    rw [elemsU_len, wrongU_len, C.len] at hL
    apply L21_17_step
    simp only [iLt_len hi, cond_true, h.f1, h.d1, h.f3, h.d3, Option.bind_some, rowIn_lt hi, natEq_self, hat, int?_int, e1, deref_str, str?_str, ok1, w1, deref_bool, bool?_bool, ok2, cs1, cs2, appGen_one, appLen_one, objBd_cells, hL]
theorem main8 (z0 : List UInt8) (ga : Nat) : ∃ xs2, CollU t p q t.elems.length xs2 ∧ L21_8 n e a w (t.elems.length : Int) ga 0 t.elems.length 0 0 t.elems.length 0 z0 ga (cellsT (natsT p)) 0 (cellsT (natsT q)) n = some (resU t n p q xs2) := by
  have h12 := hg.e12
  have hw0 := hg.w
  have hi : 0 < t.elems.length := hg.e1
  have hpi := hpl 0 hi
  have hat : rowS none (cellsT (natsT p)) (rowOff 0 ((0 : Nat) : Int) 1) = some (.int .i64 (at0 p 0 : Int)) := nat_cell (by omega)
  have e1 := h.e.idxD [] hpi
  have w1 := h.w.idxD false (show at0 p 0 < t.wrong.length by omega)
  have hri := rowIn_lt hi
  have hz : iLt 0 (t.elems.length : Int) = true := decide_eq_true (by omega)
  simp only [Int.natCast_zero] at hat hri
  have n1 : rowNew [] [V.t (T.str (t.elems.getD (at0 p 0) []))] = cellsT ((elemsU t p 1).map .str) := rfl
  have n2 : rowNew [] [V.t (T.bool (t.wrong.getD (at0 p 0) false))] = cellsT (boolsT (wrongU t p 1)) := rfl
  obtain ⟨xn, Cn, hn⟩ := (CollU.zero t p q).next hi
  have two : ∃ xs2, CollU t p q t.elems.length xs2 ∧ ((rowL t.elems.length (adjN t (at0 p 0)) q 0 = [] → L21_11 n e a w (t.elems.length : Int) ga 0 t.elems.length 0 0 t.elems.length ((1 : Nat) : Int) z0 ga (cellsT (natsT p)) 0 (cellsT (natsT q)) n 1 0 1 1 0 1 1 0 1 1 (cellsT ((elemsU t p 1).map .str)) 1 (cellsT (boolsT (wrongU t p 1))) 1 (cellsT xn) = some (resU t n p q xs2)) ∧ (rowL t.elems.length (adjN t (at0 p 0)) q 0 ≠ [] → L21_17 n e a w (t.elems.length : Int) ga 0 t.elems.length 0 0 t.elems.length ((1 : Nat) : Int) z0 ga (cellsT (natsT p)) 0 (cellsT (natsT q)) n 1 0 1 1 0 1 1 0 1 1 (cellsT ((elemsU t p 1).map .str)) 1 (cellsT (boolsT (wrongU t p 1))) 1 (cellsT xn) = some (resU t n p q xs2))) := by
    by_cases h0 : rowL t.elems.length (adjN t (at0 p 0)) q 0 = []
    · obtain ⟨xs2, C2, hres⟩ := main11 hg h hp hpl hq z0 ga 1 hi (Nat.le_refl _) xn 1 1 1 Cn
      exact ⟨xs2, C2, fun _ => hres, fun h1 => absurd h0 h1⟩
    · obtain ⟨xs2, C2, hres⟩ := main17 hg h hp hpl hq z0 ga 1 hi (Nat.le_refl _) xn 1 1 1 Cn
      exact ⟨xs2, C2, fun h1 => absurd h1 h0, fun _ => hres⟩
  obtain ⟨xs2, C2, k1, k2⟩ := two
  refine ⟨xs2, C2, ?_⟩
  have hL := turn1 hg h hp hpl hq z0 ga 1 1 (es := elemsU t p 1) (ws := wrongU t p 1) hi (r := resU t n p q xs2)
    (fun h0 => by
      have := k1 h0
      rcases hn with ⟨_, rfl⟩ | ⟨h2, _⟩
      · rw [elemsU_len, wrongU_len]; exact this
      · exact absurd h0 h2)
    (fun ts hts h0 => by
      subst hts
      have := k2 h0
      rcases hn with ⟨h2, _⟩ | ⟨_, rfl⟩
      · exact absurd h2 h0
      · rw [elemsU_len, wrongU_len]; exact this)
  rw [elemsU_len, wrongU_len] at hL
  simp only [Int.natCast_zero] at hL
  apply L21_8_step
  simp only [hz, cond_true, h.f1, h.d1, h.f3, h.d3, Option.bind_some, hri, natEq_self, hat, int?_int, e1, deref_str, str?_str, w1, deref_bool, bool?_bool, n1, n2, objBd_cells, hL]
end
section
variable {t : Tbl} (hg : Good t) {n : List UInt8} {e a w : T} (h : IsTbl t n e a w)
include hg h
theorem turn6 {p : List Nat} (P : p.Perm (List.range t.elems.length)) (z0 : List UInt8) (ga : Nat) : ∀ j, j ≤ t.elems.length → ∀ q : List Nat, q.length = t.elems.length → (∀ i, i < j → at0 q (at0 p i) = i) → ∃ q2 : List Nat, q2.length = t.elems.length ∧ (∀ i, i < t.elems.length → at0 q2 (at0 p i) = i) ∧ ∀ r : T, L21_8 n e a w (t.elems.length : Int) ga 0 t.elems.length 0 0 t.elems.length 0 z0 ga (cellsT (natsT p)) 0 (cellsT (natsT q2)) n = some r → L21_6 n e a w (t.elems.length : Int) ga 0 t.elems.length 0 0 t.elems.length (j : Int) z0 ga (cellsT (natsT p)) 0 (cellsT (natsT q)) = some r := by
  have h12 := hg.e12
  have hp := perm_len P
  have hpl := perm_lt P
  refine upto_induct ?_ fun j hj ih => ?_
  · intro q hq hqi
    refine ⟨q, hq, hqi, fun r hr => ?_⟩
    apply L21_6_step
    simp only [iLt_end, cond_false, objBd_cells, cond_true, hr]
  · intro q hq hqi
    have hpj := hpl j hj
    have hat : rowS none (cellsT (natsT p)) (rowOff 0 (j : Int) 1) = some (.int .i64 (at0 p j : Int)) := nat_cell (by omega)
    obtain ⟨s1, s2⟩ := nat_set (S := q) (a := at0 p j) (v := j) (by omega)
    obtain ⟨q2, a1, a2, a3⟩ := ih (q.set (at0 p j) j) (by rw [List.length_set]; exact hq) (fun i hi => by
      rw [at0_set (by omega)]
      by_cases e : at0 p i = at0 p j
      · rw [if_pos e]; exact (perm_inj P hj (by omega) e.symm)
      · rw [if_neg e]; exact hqi i (by
          rcases Nat.lt_or_ge i j with h1 | h1
          · exact h1
          · have : i = j := by omega
            subst this; exact absurd rfl e))
    refine ⟨q2, a1, a2, fun r hr => ?_⟩
    have := a3 r hr
    apply L21_6_step
    simp only [iLt_len hj, cond_true, rowIn_lt hj, natEq_self, hat, Option.bind_some, int?_int, rowIn_lt hpj, s1, s2, objBd_cells, iAdd_nat (show j < 1000000 by omega), this]
theorem turn4 {bs : List UInt8} {y : T} (hy : IsSl (bytesL bs) y) (z0 : List UInt8) (ga : Nat) :
    ∀ d j, j + d = max 2 t.elems.length → 2 ≤ j → ∀ p : List Nat, p.Perm (List.range t.elems.length) → at0 p 0 = 0 → ∃ p2 q2 : List Nat, p2.Perm (List.range t.elems.length) ∧ at0 p2 0 = 0 ∧ q2.length = t.elems.length ∧ (∀ i, i < t.elems.length → at0 q2 (at0 p2 i) = i) ∧ ∀ r : T, L21_8 n e a w (t.elems.length : Int) ga 0 t.elems.length 0 0 t.elems.length 0 z0 ga (cellsT (natsT p2)) 0 (cellsT (natsT q2)) n = some r → L21_4 y n e a w (t.elems.length : Int) ga 0 t.elems.length (j : Int) z0 ga (cellsT (natsT p)) = some r := by
  have h12 := hg.e12
  have h1 := hg.e1
  have fin : ∀ p : List Nat, p.Perm (List.range t.elems.length) → ∃ q2 : List Nat, q2.length = t.elems.length ∧ (∀ i, i < t.elems.length → at0 q2 (at0 p i) = i) ∧ ∀ r : T, L21_8 n e a w (t.elems.length : Int) ga 0 t.elems.length 0 0 t.elems.length 0 z0 ga (cellsT (natsT p)) 0 (cellsT (natsT q2)) n = some r → L21_6 n e a w (t.elems.length : Int) ga 0 t.elems.length 0 0 t.elems.length 0 z0 ga (cellsT (natsT p)) 0 (cellsT (natsT (List.replicate t.elems.length 0))) = some r := fun p P => by
    have := turn6 hg h P z0 ga 0 (by omega) (List.replicate t.elems.length 0) List.length_replicate (fun i hi => by omega)
    simpa using this
  have hmk : makeOK (t.elems.length : Int) (t.elems.length : Int) 8 = true := decide_eq_true (by rw [show maxBytes = 140737488355328 from rfl]; omega)
  have hnat : natOf (t.elems.length : Int) = t.elems.length := Int.toNat_natCast _
  intro d
  induction d with
  | zero =>
    intro j hjd hj2 p P hp0
    have hlt : iLt (j : Int) (t.elems.length : Int) = false := decide_eq_false (by omega)
    obtain ⟨q2, a1, a2, a3⟩ := fin p P
    refine ⟨p, q2, P, hp0, a1, a2, fun r hr => ?_⟩
    have := a3 r hr
    apply L21_4_step
    simp only [hlt, cond_false, hmk, cond_true, zerosV_nats, objBd_cells, hnat, this]
  | succ d ih =>
    intro j hjd hj2 p P hp0
    have hp := perm_len P
    have hpl := perm_lt P
    by_cases hjn : j < t.elems.length
    · by_cases hb : 0 < bs.length
      · have hx : j % bs.length < bs.length := Nat.mod_lt _ hb
        have hb0 : iLt 0 (bs.length : Int) = true := decide_eq_true (by omega)
        have e1 : iOp BinOp.rem IntKind.i64 (j : Int) IntKind.i64 (bs.length : Int) = some ((j % bs.length : Nat) : Int) := iOp_rem2 hb
        have hby : (bs.getD (j % bs.length) 0).toNat < 256 := (bs.getD (j % bs.length) 0).toNat_lt
        have e2 := iOp_rem hby (show 1 ≤ j by omega)
        have hm : (bs.getD (j % bs.length) 0).toNat % j < j := Nat.mod_lt _ (by omega)
        generalize hk : (bs.getD (j % bs.length) 0).toNat % j = k0 at e2 hm
        have hadd : iAdd .i64 1 (k0 : Int) = ((k0 + 1 : Nat) : Int) := by rw [iAdd_i64] <;> omega
        have c1 : rowS none (cellsT (natsT p)) (rowOff 0 ((k0 + 1 : Nat) : Int) 1) = some (.int .i64 (at0 p (k0 + 1) : Int)) := nat_cell (by omega)
        have c2 : rowS none (cellsT (natsT p)) (rowOff 0 (j : Int) 1) = some (.int .i64 (at0 p j : Int)) := nat_cell (by omega)
        obtain ⟨s1, s2⟩ := nat_set (S := p) (a := j) (v := at0 p (k0 + 1)) (by omega)
        obtain ⟨s3, s4⟩ := nat_set (S := p.set j (at0 p (k0 + 1))) (a := k0 + 1) (v := at0 p j) (by rw [List.length_set]; omega)
        have P2 := swap_perm P (i := j) (j := k0 + 1) (by omega) (by omega)
        obtain ⟨p2, q2, b1, b2, b3, b4, b5⟩ := ih (j + 1) (by omega) (by omega) ((p.set j (at0 p (k0 + 1))).set (k0 + 1) (at0 p j)) P2 (by rw [at0_set (by rw [List.length_set]; omega), if_neg (by omega), at0_set (by omega), if_neg (by omega)]; exact hp0)
        refine ⟨p2, q2, b1, b2, b3, b4, fun r hr => ?_⟩
        have := b5 r hr
        apply L21_4_step
        simp only [iLt_len hjn, cond_true, hy.lenD, Option.bind_some, hb0, e1, hy.idxD 0 hx, deref_u8, int?_int, e2, hadd, rowIn_lt (show k0 + 1 < t.elems.length by omega), natEq_self, c1, rowIn_lt hjn, c2, s1, s2, s3, s4, objBd_cells, iAdd_nat (show j < 1000000 by omega), this]
      · have hb0 : iLt 0 (bs.length : Int) = false := decide_eq_false (by omega)
        obtain ⟨q2, a1, a2, a3⟩ := fin p P
        refine ⟨p, q2, P, hp0, a1, a2, fun r hr => ?_⟩
        have := a3 r hr
        apply L21_4_step
        simp only [iLt_len hjn, cond_true, hy.lenD, Option.bind_some, hb0, cond_false, hmk, zerosV_nats, objBd_cells, hnat, this]
    · have hlt : iLt (j : Int) (t.elems.length : Int) = false := decide_eq_false (by omega)
      obtain ⟨q2, a1, a2, a3⟩ := fin p P
      refine ⟨p, q2, P, hp0, a1, a2, fun r hr => ?_⟩
      have := a3 r hr
      apply L21_4_step
      simp only [hlt, cond_false, hmk, cond_true, zerosV_nats, objBd_cells, hnat, this]
theorem turn2a {bs : List UInt8} {y : T} (hy : IsSl (bytesL bs) y) (z0 : List UInt8) :
    ∀ j, j ≤ t.elems.length → 1 ≤ j → ∀ ga : Nat, ∃ (gz : Nat) (p2 q2 : List Nat), p2.Perm (List.range t.elems.length) ∧ at0 p2 0 = 0 ∧ q2.length = t.elems.length ∧ (∀ i, i < t.elems.length → at0 q2 (at0 p2 i) = i) ∧ ∀ r : T, L21_8 n e a w (t.elems.length : Int) gz 0 t.elems.length 0 0 t.elems.length 0 z0 gz (cellsT (natsT p2)) 0 (cellsT (natsT q2)) n = some r → L21_2 y n e a w (t.elems.length : Int) ga 0 j (j : Int) z0 ga (cellsT (natsT (upto 0 j))) = some r := by
  have h12 := hg.e12
  refine upto_induct ?_ fun j hj ih => ?_
  · intro h1 ga
    obtain ⟨p2, q2, b1, b2, b3, b4, b5⟩ := turn4 hg h hy z0 ga (max 2 t.elems.length - 2) 2 (by omega) (Nat.le_refl _) (upto 0 t.elems.length) (by rw [upto_range]) (by unfold at0; rw [List.getD_eq_getElem?_getD, upto_get h1]; rfl)
    refine ⟨ga, p2, q2, b1, b2, b3, b4, fun r hr => ?_⟩
    have := b5 r hr
    apply L21_2_step
    simp only [iLt_end, cond_false, objBd_cells, cond_true]
    exact this
  · intro h1 ga
    have hul : (upto 0 j).length = j := by simp [upto]
    have hok : appOK (cellsT (natsT (upto 0 j))) 0 j 1 [V.t (T.int .i64 (j : Int))] 8 = true := appOK_row (ys := [T.int .i64 (j : Int)]) (by rw [List.length_map, hul]; omega) (by simp only [List.length_cons, List.length_nil, maxB]; omega)
    have hcs := app_one (ts := natsT (upto 0 j)) (off := 0) (td := upto 0 j) rfl (by simp) j
    rw [← upto_snoc] at hcs
    obtain ⟨gz, p2, q2, b1, b2, b3, b4, b5⟩ := ih (by omega) (ga + 1)
    refine ⟨gz, p2, q2, b1, b2, b3, b4, fun r hr => ?_⟩
    have := b5 r hr
    apply L21_2_step
    simp only [iLt_len hj, cond_true, natEq_self, hok, hcs, appGen_one, appLen_one, objBd_cells, iAdd_nat (show j < 1000000 by omega), this]
theorem turned_spec {bs : List UInt8} {y : T} (hy : IsSl (bytesL bs) y) : ∃ (p q : List Nat) (xs : List T), p.Perm (List.range t.elems.length) ∧ at0 p 0 = 0 ∧ q.length = t.elems.length ∧ (∀ i, i < t.elems.length → at0 q (at0 p i) = i) ∧ CollU t p q t.elems.length xs ∧ fnO acfg 21 [tblT n e a w, y] = some (resU t n p q xs) := by
  have h1 := hg.e1
  have hz : iLt 0 (t.elems.length : Int) = true := decide_eq_true (by omega)
  obtain ⟨gz, p, q, P, hp0, hq, hqi, himp⟩ := turn2a hg h hy [] 1 hg.e1 (Nat.le_refl _) 1
  obtain ⟨xs2, C2, hres⟩ := main8 hg h (perm_len P) (perm_lt P) hq [] gz
  refine ⟨p, q, xs2, P, hp0, hq, hqi, C2, ?_⟩
  have := himp _ hres
  have hadd : iAdd .i64 0 1 = ((1 : Nat) : Int) := by decide
  have hrow : rowNew [] [V.t (T.int .i64 0)] = cellsT (natsT (upto 0 1)) := rfl
  apply fn21
  simp only [h.v4, cond_true, h.f1, h.d1, Option.bind_some, h.e.lenD]
  apply L21_1_step
  simp only [hz, cond_true, hrow, hadd, objBd_cells]
  exact this
end
end Go.Proofs.Try


/- Elements in another order. No program. -/
namespace Go.StepsTo
/-- Two ways that are each other's turning back. -/
structure Perm (n : Nat) (at_ to : Nat → Nat) : Prop where
  lt : ∀ i, i < n → at_ i < n
  lt2 : ∀ a, a < n → to a < n
  back : ∀ a, a < n → at_ (to a) = a
  forth : ∀ i, i < n → to (at_ i) = i
variable {n : Nat} {at_ to : Nat → Nat} {adj adj' : Nat → List Nat}
theorem R.perm1 (P : Perm n at_ to) (hadj : ∀ k, k < n → ∀ c ∈ adj k, c < n) (h' : ∀ i, i < n → ∀ c, c ∈ adj' i ↔ ∃ x ∈ adj (at_ i), to x = c) {a b : Nat} (ha : a < n) (h : R adj a b) : R adj' (to a) (to b) := by
  induction h with
  | one h => exact .one ((h' _ (P.lt2 _ ha) _).2 ⟨_, by rw [P.back _ ha]; exact h, rfl⟩)
  | step h h2 ih =>
    have hb := h.lt hadj ha
    exact .step ih ((h' _ (P.lt2 _ hb) _).2 ⟨_, by rw [P.back _ hb]; exact h2, rfl⟩)
theorem R.perm2 (P : Perm n at_ to) (hadj : ∀ k, k < n → ∀ c ∈ adj k, c < n) (h' : ∀ i, i < n → ∀ c, c ∈ adj' i ↔ ∃ x ∈ adj (at_ i), to x = c) {i j : Nat} (hi : i < n) (h : R adj' i j) : R adj (at_ i) (at_ j) := by
  have hadj' : ∀ k, k < n → ∀ c ∈ adj' k, c < n := fun k hk c hc => by
    obtain ⟨x, hx, rfl⟩ := (h' k hk c).1 hc
    exact P.lt2 _ (hadj _ (P.lt _ hk) _ hx)
  induction h with
  | one h =>
    obtain ⟨x, hx, rfl⟩ := (h' _ hi _).1 h
    rw [P.back _ (hadj _ (P.lt _ hi) _ hx)]
    exact .one hx
  | step h h2 ih =>
    have hb := h.lt hadj' hi
    obtain ⟨x, hx, rfl⟩ := (h' _ hb _).1 h2
    rw [P.back _ (hadj _ (P.lt _ hb) _ hx)]
    exact .step ih hx
theorem R.perm (P : Perm n at_ to) (hadj : ∀ k, k < n → ∀ c ∈ adj k, c < n) (h' : ∀ i, i < n → ∀ c, c ∈ adj' i ↔ ∃ x ∈ adj (at_ i), to x = c) {a b : Nat} (ha : a < n) (hb : b < n) : R adj' (to a) (to b) ↔ R adj a b := by
  constructor
  · intro h
    have := R.perm2 P hadj h' (P.lt2 _ ha) h
    rwa [P.back _ ha, P.back _ hb] at this
  · exact R.perm1 P hadj h' ha
/-- Two places changed. -/
theorem Perm.inv {f : Nat → Nat} (hf : ∀ i, i < n → f i < n) (hinj : ∀ i j, i < n → j < n → f i = f j → i = j) {g : Nat → Nat} (hg : ∀ i, i < n → g (f i) = i) (hsur : ∀ a, a < n → ∃ i, i < n ∧ f i = a) : Perm n f g :=
  ⟨hf, fun a ha => by obtain ⟨i, hi, rfl⟩ := hsur a ha; rw [hg i hi]; exact hi, fun a ha => by obtain ⟨i, hi, rfl⟩ := hsur a ha; rw [hg i hi], hg⟩
end Go.StepsTo
namespace Go.Lat
variable {n : Nat} {le le' : Nat → Nat → Bool} {at_ to : Nat → Nat}
theorem IsJ.perm (P : Go.StepsTo.Perm n at_ to) (hle : ∀ a b, a < n → b < n → le' (to a) (to b) = le a b) {a b m : Nat} (ha : a < n) (hb : b < n) (h : IsJ n le a b m) : IsJ n le' (to a) (to b) (to m) := by
  refine ⟨P.lt2 _ h.lt, by rw [hle a m ha h.lt]; exact h.l, by rw [hle b m hb h.lt]; exact h.r, fun k hk h1 h2 => ?_⟩
  have e := P.forth k hk
  have hk2 := P.lt k hk
  rw [← e] at h1 h2 ⊢
  rw [hle _ _ ha hk2] at h1
  rw [hle _ _ hb hk2] at h2
  rw [hle _ _ h.lt hk2]
  exact h.least _ hk2 h1 h2
theorem Perm.symm (P : Go.StepsTo.Perm n at_ to) : Go.StepsTo.Perm n to at_ := ⟨P.lt2, P.lt, P.forth, P.back⟩
end Go.Lat


/- OrderTurned: a table in another order is the same lattice. -/
open Go Go.Apex Go.StepsTo Go.Lat
namespace Go.Proofs.Try
/-! Rows of what is hit. -/
theorem mem_rowL {N : Nat} {D q : List Nat} {c : Nat} : c ∈ rowL N D q 0 ↔ c < N ∧ ∃ x ∈ D, at0 q x = c := by
  unfold rowL rowLh hits hitB
  simp only [List.mem_flatMap, mem_upto0, List.mem_map, List.mem_filter, decide_eq_true_eq]
  constructor
  · rintro ⟨c', hc', k, ⟨hk, hh⟩, rfl⟩
    exact ⟨hc', D.getD k 0, getD_mem 0 hk, hh⟩
  · rintro ⟨hc, x, hx, hh⟩
    obtain ⟨k, hk, he⟩ := mem_getD (d := 0) hx
    exact ⟨c, hc, k, ⟨hk, by rw [he]; exact hh⟩, rfl⟩
theorem one_hit {l : List Nat} (hnd : l.Nodup) {f : Nat → Bool} (h : ∀ a ∈ l, ∀ b ∈ l, f a = true → f b = true → a = b) : (l.filter f).length ≤ 1 := by
  have h2 : ∀ x ∈ l.filter f, ∀ y ∈ l.filter f, x = y := fun x hx y hy => h x (List.mem_filter.1 hx).1 y (List.mem_filter.1 hy).1 (List.mem_filter.1 hx).2 (List.mem_filter.1 hy).2
  have hn2 := hnd.filter f
  match hl : l.filter f with
  | [] => simp
  | [x] => simp
  | x :: y :: r =>
    rw [hl] at h2 hn2
    have := h2 x (by simp) y (by simp)
    subst this
    simp at hn2
theorem rowLh_sorted {N m : Nat} {hit : Nat → Nat → Bool} (h1 : ∀ c, c < N → ((upto 0 m).filter (hit c)).length ≤ 1) : ∀ c, c ≤ N → (rowLh N m hit c).Pairwise (· < ·) ∧ (∀ x ∈ rowLh N m hit c, c ≤ x) ∧ (rowLh N m hit c).length ≤ N - c := by
  refine upto_induct ?_ fun c hc ih => ?_
  · rw [rowLh_end]; simp
  · obtain ⟨i1, i2, i3⟩ := ih
    have hl : hits m hit c 0 = [] ∨ hits m hit c 0 = [c] := by
      have := h1 c hc
      unfold hits
      match (upto 0 m).filter (hit c), this with
      | [], _ => exact .inl rfl
      | [x], _ => exact .inr rfl
    rw [rowLh_step hc]
    rcases hl with hl | hl
    · rw [hl, List.nil_append]
      exact ⟨i1, fun x hx => by have := i2 x hx; omega, by omega⟩
    · rw [hl, List.cons_append, List.nil_append]
      refine ⟨List.pairwise_cons.2 ⟨fun x hx => by have := i2 x hx; omega, i1⟩, fun x hx => ?_, by rw [List.length_cons]; omega⟩
      rcases List.mem_cons.1 hx with rfl | hx
      · exact Nat.le_refl _
      · have := i2 x hx; omega
/-! Tables that are each other's turning. -/
structure Tw (t u : Tbl) (φ ψ : Nat → Nat) : Prop where
  len : u.elems.length = t.elems.length
  P : Perm t.elems.length ψ φ
  z : φ 0 = 0
  le : ∀ a b, a < t.elems.length → b < t.elems.length → leB u (φ a) (φ b) = leB t a b
  bl : ∀ a b, a < t.elems.length → b < t.elems.length → belowB u (φ a) (φ b) = belowB t a b
  wr : ∀ a, a < t.elems.length → u.wrong.getD (φ a) false = t.wrong.getD a false
theorem Tw.symm {t u : Tbl} {φ ψ : Nat → Nat} (hpos : 0 < t.elems.length) (W : Tw t u φ ψ) : Tw u t ψ φ := by
  have hz : ψ 0 = 0 := by have := W.P.back 0 hpos; rwa [W.z] at this
  refine ⟨W.len.symm, ?_, hz, fun a b ha hb => ?_, fun a b ha hb => ?_, fun a ha => ?_⟩
  · rw [W.len]; exact Go.Lat.Perm.symm W.P
  · rw [W.len] at ha hb
    rw [← W.le _ _ (W.P.lt a ha) (W.P.lt b hb), W.P.forth a ha, W.P.forth b hb]
  · rw [W.len] at ha hb
    rw [← W.bl _ _ (W.P.lt a ha) (W.P.lt b hb), W.P.forth a ha, W.P.forth b hb]
  · rw [W.len] at ha
    rw [← W.wr _ (W.P.lt a ha), W.P.forth a ha]
theorem Tw.join {t u : Tbl} {φ ψ : Nat → Nat} (W : Tw t u φ ψ) {a b m : Nat} (ha : a < t.elems.length) (hb : b < t.elems.length) (h : IsJ t.elems.length (leB t) a b m) : IsJ u.elems.length (leB u) (φ a) (φ b) (φ m) := by
  rw [W.len]
  exact IsJ.perm W.P W.le ha hb h
theorem Tw.gl {t u : Tbl} {φ ψ : Nat → Nat} (W : Tw t u φ ψ) (hpos : 0 < t.elems.length) (G : GL t) : GL u := by
  have inv : ∀ k, k < u.elems.length → ψ k < t.elems.length ∧ φ (ψ k) = k := fun k hk => by rw [W.len] at hk; exact ⟨W.P.lt k hk, W.P.forth k hk⟩
  refine ⟨fun k hk => ?_, fun k hk => ?_, fun i j hi hj => ?_, ?_, fun i j hi hj h1 h2 => ?_⟩
  · obtain ⟨h1, h2⟩ := inv k hk
    rw [← h2, W.bl _ _ h1 h1]
    exact G.acy _ h1
  · obtain ⟨h1, h2⟩ := inv k hk
    have := W.le 0 _ hpos h1
    rw [W.z, h2] at this
    rw [this]
    exact G.bot _ h1
  · obtain ⟨i1, i2⟩ := inv i hi
    obtain ⟨j1, j2⟩ := inv j hj
    have := W.join i1 j1 (join_isJ G i1 j1)
    rw [i2, j2] at this
    exact least_of_isJ this
  · have := W.wr 0 hpos
    rw [W.z] at this
    rw [this]
    exact G.w0
  · obtain ⟨i1, i2⟩ := inv i hi
    obtain ⟨j1, j2⟩ := inv j hj
    rw [← i2, ← j2] at h2
    rw [W.le _ _ i1 j1] at h2
    rw [← i2, W.wr _ i1] at h1
    rw [← j2, W.wr _ j1]
    exact G.wup _ _ i1 j1 h1 h2
/-! The table that is turned. -/
def tblU (t : Tbl) (p q : List Nat) : Tbl := ⟨t.name, elemsU t p t.elems.length, (upto 0 t.elems.length).map (fun i => (rowL t.elems.length (adjN t (at0 p i)) q 0).map Int.ofNat), wrongU t p t.elems.length⟩
section
variable {t : Tbl} (hc : checkB t = true) (ht : thinB t = true) {p q : List Nat} (P : p.Perm (List.range t.elems.length)) (hp0 : at0 p 0 = 0) (hq : q.length = t.elems.length) (hqi : ∀ i, i < t.elems.length → at0 q (at0 p i) = i)
include P hqi
theorem turnPerm : Perm t.elems.length (at0 p) (at0 q) := by
  have sur := fun a ha => perm_sur P (a := a) ha
  refine ⟨perm_lt P, fun a ha => ?_, fun a ha => ?_, hqi⟩
  · obtain ⟨i, hi, rfl⟩ := sur a ha
    rw [hqi i hi]; exact hi
  · obtain ⟨i, hi, rfl⟩ := sur a ha
    rw [hqi i hi]
theorem to_inj {a b : Nat} (ha : a < t.elems.length) (hb : b < t.elems.length) (h : at0 q a = at0 q b) : a = b := by
  have T := turnPerm P hqi
  rw [← T.back a ha, ← T.back b hb, h]
omit P hqi in
theorem aboveU {i : Nat} (hi : i < t.elems.length) : (tblU t p q).above.getD i [] = (rowL t.elems.length (adjN t (at0 p i)) q 0).map Int.ofNat := by
  show ((upto 0 t.elems.length).map _).getD i [] = _
  rw [List.getD_eq_getElem?_getD, List.getElem?_map, upto_get hi]
  rfl
omit P hqi in
theorem adjU {i : Nat} (hi : i < t.elems.length) : adjN (tblU t p q) i = rowL t.elems.length (adjN t (at0 p i)) q 0 := by
  show ((tblU t p q).above.getD i []).map Int.toNat = _
  rw [aboveU hi, List.map_map]
  exact (List.map_congr_left fun x _ => rfl).trans (List.map_id _)
omit P hqi in
theorem elemU {i : Nat} (hi : i < t.elems.length) : (tblU t p q).elems.getD i [] = t.elems.getD (at0 p i) [] := by
  show (elemsU t p t.elems.length).getD i [] = _
  unfold elemsU
  rw [List.getD_eq_getElem?_getD, List.getElem?_map, upto_get hi]
  rfl
omit P hqi in
theorem wrongU' {i : Nat} (hi : i < t.elems.length) : (tblU t p q).wrong.getD i false = t.wrong.getD (at0 p i) false := by
  show (wrongU t p t.elems.length).getD i false = _
  unfold wrongU
  rw [List.getD_eq_getElem?_getD, List.getElem?_map, upto_get hi]
  rfl
include hc ht
theorem adj_nodup {k : Nat} (hk : k < t.elems.length) : ∀ i j, i < (adjN t k).length → j < (adjN t k).length → (adjN t k).getD i 0 = (adjN t k).getD j 0 → i = j := by
  have hg := good_of hc ht
  simp only [checkB, Bool.and_eq_true, decide_eq_true_eq, List.all_eq_true, mem_upto] at hc
  have hl := hc.2 k ⟨by omega, by have := hg.a; omega⟩
  simp only [listB, Bool.and_eq_true, List.all_eq_true, mem_upto, greaterB, Bool.or_eq_true, decide_eq_true_eq] at hl
  have hlen : (adjN t k).length = (t.above.getD k []).length := by unfold adjN; rw [List.length_map]
  have step : ∀ i, i + 1 < (t.above.getD k []).length → (t.above.getD k []).getD i 0 < (t.above.getD k []).getD (i + 1) 0 := fun i hi => by
    have := hl.2 (i + 1) ⟨by omega, hi⟩
    simpa using this
  have lt : ∀ d i, i + d + 1 < (t.above.getD k []).length → (t.above.getD k []).getD i 0 < (t.above.getD k []).getD (i + d + 1) 0 := by
    intro d
    induction d with
    | zero => intro i hi; exact step i hi
    | succ d ih => intro i hi; exact Int.lt_trans (ih i (by omega)) (step (i + d + 1) (by omega))
  have nn : ∀ i, i < (t.above.getD k []).length → 0 ≤ (t.above.getD k []).getD i 0 := fun i hi => (hg.lt k hk _ (getD_mem 0 hi)).1
  have key : ∀ (L : List Int) (i : Nat), i < L.length → 0 ≤ L.getD i 0 → (((L.map Int.toNat).getD i 0 : Nat) : Int) = L.getD i 0 := fun L i hi h0 => by
    simp only [List.getD_eq_getElem?_getD, List.getElem?_map, List.getElem?_eq_getElem hi, Option.map_some, Option.getD_some] at h0 ⊢
    omega
  have tn : ∀ i, i < (t.above.getD k []).length → (((adjN t k).getD i 0 : Nat) : Int) = (t.above.getD k []).getD i 0 := fun i hi => key _ i hi (nn i hi)
  intro i j hi hj he
  rw [hlen] at hi hj
  have e2 : (t.above.getD k []).getD i 0 = (t.above.getD k []).getD j 0 := by rw [← tn i hi, ← tn j hj, he]
  rcases Nat.lt_trichotomy i j with h | h | h
  · have := lt (j - i - 1) i (by omega)
    rw [show i + (j - i - 1) + 1 = j from by omega] at this
    omega
  · exact h
  · have := lt (i - j - 1) j (by omega)
    rw [show j + (i - j - 1) + 1 = i from by omega] at this
    omega
theorem rowL_sorted {i : Nat} (hi : i < t.elems.length) : (rowL t.elems.length (adjN t (at0 p i)) q 0).Pairwise (· < ·) ∧ (rowL t.elems.length (adjN t (at0 p i)) q 0).length ≤ t.elems.length := by
  have hg := good_of hc ht
  have hpi := perm_lt P i hi
  have hlt := hg.adj_lt _ hpi
  obtain ⟨a1, _, a3⟩ := rowLh_sorted (N := t.elems.length) (m := (adjN t (at0 p i)).length) (hit := hitB (adjN t (at0 p i)) q) (fun c _ => by
    refine one_hit (upto_nodup _ _) fun k1 hk1 k2 hk2 h1 h2 => ?_
    rw [mem_upto0] at hk1 hk2
    unfold hitB at h1 h2
    rw [decide_eq_true_eq] at h1 h2
    exact adj_nodup hc ht P hqi hpi k1 k2 hk1 hk2 (to_inj P hqi (hlt _ (getD_mem 0 hk1)) (hlt _ (getD_mem 0 hk2)) (h1.trans h2.symm))) 0 (by omega)
  exact ⟨a1, a3⟩
theorem elems_inj {a b : Nat} (ha : a < t.elems.length) (hb : b < t.elems.length) (h : t.elems.getD a [] = t.elems.getD b []) : a = b := by
  simp only [checkB, Bool.and_eq_true, decide_eq_true_eq, List.all_eq_true, mem_upto] at hc
  have fresh : ∀ i, i < t.elems.length → t.elems.getD i [] ∉ t.elems.take i := fun i hi => by
    have := hc.1.2 i ⟨by omega, hi⟩
    unfold freshB at this
    simp only [Bool.and_eq_true, Bool.not_eq_true', decide_eq_false_iff_not] at this
    exact this.2
  have inT : ∀ i j, i < j → j < t.elems.length → t.elems.getD i [] ∈ t.elems.take j := fun i j hij hj => by
    refine List.mem_of_getElem? (i := i) ?_
    rw [List.getElem?_take, if_pos hij, List.getD_eq_getElem?_getD, List.getElem?_eq_getElem (show i < t.elems.length by omega)]
    rfl
  rcases Nat.lt_trichotomy a b with hab | hab | hab
  · exact absurd (h ▸ inT a b hab hb) (fresh b hb)
  · exact hab
  · exact absurd (h ▸ inT b a hab ha) (fresh a ha)
theorem checkU : checkB (tblU t p q) = true := by
  have hg := good_of hc ht
  have hc0 := hc
  simp only [checkB, Bool.and_eq_true, decide_eq_true_eq, List.all_eq_true, mem_upto] at hc
  have l1 : (tblU t p q).elems.length = t.elems.length := elemsU_len _ _ _
  have l2 : (tblU t p q).above.length = t.elems.length := by simp [tblU, upto]
  have l3 : (tblU t p q).wrong.length = t.elems.length := wrongU_len _ _ _
  simp only [checkB, Bool.and_eq_true, decide_eq_true_eq, List.all_eq_true, mem_upto, l1, l2, l3]
  refine ⟨⟨⟨⟨⟨⟨hc.1.1.1.1.1.1, hg.e1⟩, hg.e12⟩, trivial⟩, trivial⟩, fun i hi => ?_⟩, fun i hi => ?_⟩
  · have hpi := perm_lt P i hi.2
    have hf := hc.1.2 (at0 p i) ⟨by omega, hpi⟩
    unfold freshB at hf ⊢
    simp only [Bool.and_eq_true, Bool.not_eq_true', decide_eq_false_iff_not] at hf ⊢
    rw [elemU hi.2]
    refine ⟨hf.1, fun hm => ?_⟩
    obtain ⟨j, hj, he⟩ := mem_getD (d := []) hm
    rw [List.length_take] at hj
    have hj2 : j < i := by omega
    rw [List.getD_eq_getElem?_getD, List.getElem?_take, if_pos hj2, ← List.getD_eq_getElem?_getD, elemU (show j < t.elems.length by omega)] at he
    have := elems_inj hc0 ht P hqi (perm_lt P j (by omega)) hpi he
    have := perm_inj P (show j < t.elems.length by omega) hi.2 this
    omega
  · rw [aboveU hi.2]
    obtain ⟨hs, _⟩ := rowL_sorted hc0 ht P hqi hi.2
    simp only [listB, Bool.and_eq_true, List.all_eq_true, mem_upto, elemB, greaterB, decide_eq_true_eq, Bool.or_eq_true, List.length_map]
    refine ⟨fun k hk => ?_, fun k hk => ?_⟩
    · rw [getD_ofNat]
      have := (mem_rowL.1 (getD_mem 0 hk.2)).1
      omega
    · by_cases h0 : k = 0
      · exact .inl h0
      · right
        rw [getD_ofNat, getD_ofNat]
        have := List.pairwise_iff_getElem.1 hs (k - 1) k (by omega) hk.2 (by omega)
        simp only [List.getD_eq_getElem?_getD, List.getElem?_eq_getElem hk.2, List.getElem?_eq_getElem (show k - 1 < (rowL t.elems.length (adjN t (at0 p i)) q 0).length by omega), Option.getD_some]
        omega
theorem thinU : thinB (tblU t p q) = true := by
  have hg := good_of hc ht
  have h12 := hg.e12
  have ht0 := ht
  simp only [thinB, Bool.and_eq_true, decide_eq_true_eq, List.all_eq_true, mem_upto] at ht
  have l1 : (tblU t p q).elems.length = t.elems.length := elemsU_len _ _ _
  have l2 : (tblU t p q).above.length = t.elems.length := by simp [tblU, upto]
  have l3 : (tblU t p q).wrong.length = t.elems.length := wrongU_len _ _ _
  simp only [thinB, Bool.and_eq_true, decide_eq_true_eq, List.all_eq_true, mem_upto, l1, l2, l3]
  refine ⟨⟨⟨⟨⟨by omega, by omega⟩, by omega⟩, ht.1.1.2⟩, fun i hi => ?_⟩, fun i hi => ?_⟩
  · rw [elemU hi.2]
    exact ht.1.2 _ ⟨by omega, perm_lt P i hi.2⟩
  · rw [aboveU hi.2, List.length_map]
    have := (rowL_sorted hc ht0 P hqi hi.2).2
    omega
include hp0
theorem turnTw : Tw t (tblU t p q) (at0 q) (at0 p) := by
  have hg := good_of hc ht
  have hgu := good_of (checkU hc ht P hqi) (thinU hc ht P hqi)
  have T := turnPerm P hqi
  have l1 : (tblU t p q).elems.length = t.elems.length := elemsU_len _ _ _
  have hz : at0 q 0 = 0 := by have := hqi 0 hg.e1; rwa [hp0] at this
  have hR : ∀ a b, a < t.elems.length → b < t.elems.length → (R (adjN (tblU t p q)) (at0 q a) (at0 q b) ↔ R (adjN t) a b) := fun a b ha hb =>
    R.perm T hg.adj_lt (fun i hi c => by
      rw [adjU hi, mem_rowL]
      constructor
      · rintro ⟨_, x, hx, he⟩; exact ⟨x, hx, he⟩
      · rintro ⟨x, hx, he⟩
        refine ⟨?_, x, hx, he⟩
        rw [← he]
        exact T.lt2 _ (hg.adj_lt _ (T.lt i hi) x hx)) ha hb
  have hbl : ∀ a b, a < t.elems.length → b < t.elems.length → belowB (tblU t p q) (at0 q a) (at0 q b) = belowB t a b := fun a b ha hb => by
    rw [Bool.eq_iff_iff, below_R hgu (by rw [l1]; exact T.lt2 a ha), below_R hg ha]
    exact hR a b ha hb
  refine ⟨l1, T, hz, fun a b ha hb => ?_, hbl, fun a ha => ?_⟩
  · unfold leB
    rw [hbl a b ha hb]
    congr 1
    by_cases e : a = b
    · subst e; simp
    · have : at0 q a ≠ at0 q b := fun h => e (to_inj P hqi ha hb h)
      simp [e, this]
  · rw [wrongU' (T.lt2 a ha), T.back a ha]
end
theorem isTblU {t : Tbl} {n : List UInt8} {p q : List Nat} {xs : List T} (hn : n = t.name) (C : CollU t p q t.elems.length xs) : IsTbl (tblU t p q) n (.sl false 1 ((elemsU t p t.elems.length).map .str)) (.sl false 1 xs) (.sl false 1 (boolsT (wrongU t p t.elems.length))) := by
  have l2 : (tblU t p q).above.length = t.elems.length := by simp [tblU, upto]
  refine ⟨hn, .sl false, ⟨xs, .sl false, by rw [C.len, l2], fun i hi => ?_⟩, .sl false⟩
  rw [l2] at hi
  rw [aboveU hi, ints_nats]
  exact C.is i hi
theorem all_turned {t : Tbl} {n : List UInt8} {e a w : T} (h : IsTbl t n e a w) (haw : fnO acfg 14 [] = some (.bool true)) {bs : List UInt8} {y : T} (hy : IsSl (bytesL bs) y) : fnO acfg 4 [tblT n e a w, y] = some (.bool true) := by
  apply fn4
  cases ht : thinB t with
  | false => simp only [h.v4, cond_true, h.d4, Option.bind_some, agg4, nth0, nth1, nth2, nth3, str?_str, thin_spec h, ht, scalar_bool, bool?_bool, bNot, Bool.not_false, haw]
  | true =>
    have hs := small_of_thin ht
    have r1 := checkR h hs
    cases hc : checkB t with
    | false =>
      rw [hc] at r1
      simp only [h.v4, cond_true, h.d4, Option.bind_some, agg4, nth0, nth1, nth2, nth3, str?_str, thin_spec h, ht, scalar_bool, bool?_bool, bNot, Bool.not_true, cond_false, r1, scalar_int, int?_int, i40, Bool.not_false, haw]
    | true =>
      rw [hc] at r1
      have hg := good_of hc ht
      obtain ⟨p, q, xs, P, hp0, hq, hqi, C, htu⟩ := turned_spec hg h hy
      have hu := isTblU h.n C
      have hcu := checkU hc ht P hqi
      have htu2 := thinU hc ht P hqi
      have hsu := small_of_thin htu2
      have hgu := good_of hcu htu2
      have W := turnTw hc ht P hp0 hqi
      obtain ⟨e1, a1, w1, c1, c2⟩ := copy_spec h hs
      obtain ⟨e2, a2, w2, d1, d2⟩ := copy_spec hu hsu
      have p1 := prove_good hg c2 hs hc
      have p2 := prove_good hgu d2 hsu hcu
      have t2h : ∀ x y : T, T.tup? (List.length [26, 38]) (.tup [x, y]) = some [x, y] := fun _ _ => rfl
      have hsame : (brk (tblU t p q)).isSome = (brk t).isSome := by
        have h1 := brk_none t hg.e1
        have h2 := brk_none (tblU t p q) hgu.e1
        cases hb : brk t with
        | none =>
          have := h2.2 (W.gl hg.e1 (h1.1 hb))
          rw [this]
        | some b =>
          cases hb2 : brk (tblU t p q) with
          | none =>
            have := h1.2 ((W.symm hg.e1).gl hgu.e1 (h2.1 hb2))
            rw [this] at hb; cases hb
          | some b2 => rfl
      have ie : ∀ z : Int, iEq z z = true := fun z => by simp [iEq]
      have hL : ∀ r : T, (brk t).isSome = true → r = .bool true → L4_1 n e a w n (.sl false 1 ((elemsU t p t.elems.length).map .str)) (.sl false 1 xs) (.sl false 1 (boolsT (wrongU t p t.elems.length))) (.sl false 1 (natsT q)) 12 0 = some r := fun r _ hr => by
        subst hr
        have hlq : lenT (.sl false 1 (natsT q)) = some (t.elems.length : Int) := by rw [(IsSl.sl false).lenD (α := Nat), hq]
        have hz : iLt 0 (t.elems.length : Int) = true := decide_eq_true (by have := hg.e1; omega)
        apply L4_1_step
        simp only [hlq, Option.bind_some, hz, cond_true, i120, cond_false, haw, scalar_bool, bool?_bool]
      have hLn : brk t = none → L4_1 n e a w n (.sl false 1 ((elemsU t p t.elems.length).map .str)) (.sl false 1 xs) (.sl false 1 (boolsT (wrongU t p t.elems.length))) (.sl false 1 (natsT q)) 0 0 = some (.bool true) := fun hb => by
        have hbu : brk (tblU t p q) = none := by rw [hb] at hsame; simpa using hsame
        have er : errL t [] = 0 := errL_mk hc hb fun z hz => by cases hz
        have eru : errL (tblU t p q) [] = 0 := errL_mk hcu hbu fun z hz => by cases hz
        have R1 : Rt t := ⟨ht, er, hc, hb⟩
        have R2 : Rt (tblU t p q) := ⟨htu2, eru, hcu, hbu⟩
        have h12 := hg.e12
        have hqs : IsSl (natsT q) (.sl false 1 (natsT q)) := .sl false
        have hlq : lenT (.sl false 1 (natsT q)) = some (t.elems.length : Int) := by rw [hqs.lenD, hq]
        have T := turnPerm P hqi
        have hqx : ∀ k, k < t.elems.length → idxT 1 (.sl false 1 (natsT q)) (k : Int) = some (.ptr (.int .i64 (at0 q k : Int))) := fun k hk => hqs.idxD 0 (by omega)
        have hlt2 : ∀ k, k < t.elems.length → at0 q k < (tblU t p q).elems.length := fun k hk => by rw [W.len]; exact T.lt2 k hk
        have out : ∀ i, i ≤ t.elems.length → L4_1 n e a w n (.sl false 1 ((elemsU t p t.elems.length).map .str)) (.sl false 1 xs) (.sl false 1 (boolsT (wrongU t p t.elems.length))) (.sl false 1 (natsT q)) 0 (i : Int) = some (.bool true) := by
          refine upto_induct ?_ fun i hi ih => ?_
          · apply L4_1_step
            simp only [hlq, Option.bind_some, iLt_end, cond_false, haw, scalar_bool, cond_true, bool?_bool]
          · have inn : ∀ j, j ≤ t.elems.length → L4_2 n e a w n (.sl false 1 ((elemsU t p t.elems.length).map .str)) (.sl false 1 xs) (.sl false 1 (boolsT (wrongU t p t.elems.length))) (.sl false 1 (natsT q)) 0 (i : Int) (j : Int) = some (.bool true) := by
              refine upto_induct ?_ fun j hj ih2 => ?_
              · apply L4_2_step
                simp only [hlq, Option.bind_some, iLt_end, cond_false, iAdd_nat (show i < 1000000 by omega), ih]
              · have hjl := join_lt R1.l hi hj
                have hjo : joinN (tblU t p q) (at0 q i) (at0 q j) = at0 q (joinN t i j) :=
                  (join_isJ R2.l (hlt2 i hi) (hlt2 j hj)).uniq (gl_lat R2.g R2.l) (W.join hi hj (join_isJ R1.l hi hj))
                apply L4_2_step
                simp only [hlq, Option.bind_some, iLt_len hj, cond_true, h.d4, hu.d4, agg4, nth0, nth1, nth2, nth3, str?_str, jn h R1 hi hj, hqx i hi, hqx j hj, hqx _ hjl, deref_int, scalar_int, int?_int, jn hu R2 (hlt2 i hi) (hlt2 j hj), hjo, iLt_n0, cond_false, iEq_nn, bNot, Bool.not_true, iAdd_nat (show j < 1000000 by omega), ih2]
            have := inn 0 (by omega)
            simp only [Int.natCast_zero] at this
            apply L4_1_step
            simp only [hlq, Option.bind_some, iLt_len hi, cond_true, i00, this]
        have := out 0 (by omega)
        simpa using this
      rw [hsame] at p2
      cases hb : brk t with
      | none =>
        rw [hb] at p1 p2
        have := hLn hb
        simp only [h.v4, cond_true, h.d4, Option.bind_some, agg4, nth0, nth1, nth2, nth3, str?_str, thin_spec h, ht, scalar_bool, bool?_bool, bNot, Bool.not_true, cond_false, r1, scalar_int, int?_int, i00, htu, resU, t2h, nt0, nt1, hu.v4, hu.d4, c1, d1, p1, p2, Option.isSome_none, Option.getD_none, tripT, scbr, t2f, ag3, n30, n31, n32, ie, this]
      | some b =>
        rw [hb] at p1 p2
        have := hL _ (by rw [hb]; rfl) rfl
        simp only [h.v4, cond_true, h.d4, Option.bind_some, agg4, nth0, nth1, nth2, nth3, str?_str, thin_spec h, ht, scalar_bool, bool?_bool, bNot, Bool.not_true, cond_false, r1, scalar_int, int?_int, i00, htu, resU, t2h, nt0, nt1, hu.v4, hu.d4, c1, d1, p1, p2, Option.isSome_some, Option.getD_some, tripT, scbr, t2f, ag3, n30, n31, n32, ie, this]
end Go.Proofs.Try

