import Derived.Test.YtcljaeknhmpecaaApexA44
set_option linter.all false
set_option linter.unusedVariables false
set_option linter.unusedSimpArgs false
set_option linter.unusedSectionVars false
/- Runs over data that are not told: they tell what the evaluator comes to. -/
namespace Go.Apex
open Go
section
variable {cfg : Cfg} {f0 : FuncId} {rows : List Nat} {h : Heap} {ts : Ts}

theorem sShutOne_ok {d : Tmp} {p : Ts × Heap} (hq : (sShutOne rows ts h d).den = some p) : shutOne ts h d = some p := by
  unfold sShutOne at hq
  unfold shutOne
  split at hq
  · rename_i id g off sh hd
    rw [hd]
    simp only
    split at hq
    · rename_i g' e fz cs ho
      rw [ho]
      simp only
      cases hr : rows.contains id with
      | true => rw [hr] at hq; cases hq
      | false =>
        rw [hr] at hq
        simp only [cond_false] at hq
        cases hg : Nat.beq g g' with
        | false =>
          rw [hg] at hq
          cases hq
          rw [if_neg (fun e => by subst e; rw [Nat.beq_refl] at hg; cases hg)]
        | true =>
          rw [hg] at hq
          rw [if_pos (beq_eq hg)]
          simp only [cond_true] at hq
          cases sh with
          | none =>
            simp only at hq
            split at hq
            · rename_i x hx
              obtain ⟨h1, h2⟩ := Dt.chk_some hq
              cases h2
              have h1 : x.one = true := h1
              simp only [flatAt, hx, Option.bind_some, toT, h1, if_true]
            · rename_i hx
              cases hq
              have : flatAt cs off none = none := by
                unfold flatAt
                cases hc : cs[off]? with
                | none => rfl
                | some v =>
                  cases v <;> first | rfl | exact absurd hc (hx _)
              rw [this]
          | some k =>
            obtain ⟨hk, h2⟩ := cond_den hq
            simp only [flatAt, if_pos (Nat.le_of_ble_eq_true hk)]
            split at h2
            · rename_i xs hx
              cases h2
              rw [hx]; rfl
            · rename_i hx
              cases h2
              rw [hx]; rfl
    · rename_i ho
      cases hq
      split
      · rename_i h1; exact absurd h1 (ho _ _ _ _)
      · rfl
  · rename_i id g off len sh hd
    rw [hd]
    simp only
    split at hq
    · rename_i g' e fz cs ho
      rw [ho]
      simp only
      obtain ⟨h1, h2⟩ := Dt.chk_some hq
      rw [if_pos (beq_eq h1)]
      obtain ⟨x, hx, h3⟩ := Dt.opt_some h2
      cases h3
      have hx : rowTree sh cs off len = some x := hx
      rw [hx]
    · rename_i ho
      cases hq
      split
      · rename_i h1; exact absurd h1 (ho _ _ _ _)
      · rfl
  · rename_i v hne hne2 hv
    cases v <;> first
      | (cases hq; simp only [hv]; done)
      | (exact absurd hv (hne _ _ _ _))
      | (exact absurd rfl (hne _ _ _ _))
      | (exact absurd hv (hne2 _ _ _ _ _))
      | (exact absurd rfl (hne2 _ _ _ _ _))
  · cases hq
theorem sShut_ok : ∀ {ds : List Tmp} {ts : Ts} {h : Heap} {p : Ts × Heap}, (sShut rows ds ts h).den = some p → shutAll ds ts h = some p
  | [], ts, h, p, hq => by cases hq; rfl
  | d :: ds, ts, h, p, hq => by
    unfold sShut at hq
    obtain ⟨q, h1, h2⟩ := Dt.bind_some hq
    simp only [shutAll, sShutOne_ok h1, Option.bind_some]
    exact sShut_ok h2
theorem sAllBd_ok {n1 : Nat} {t : Tm Obj} : ∀ {k n : Nat} {u : Unit}, (sAllBd rows n1 t n k).den = some u → allObjs (Obj.bd n1) t n k = true
  | 0, _, _, _ => rfl
  | k + 1, n, u, hq => by
    unfold sAllBd at hq
    unfold allObjs
    split at hq
    · rename_i o ho
      rw [ho]
      cases hr : rows.contains n with
      | true =>
        rw [hr] at hq
        obtain ⟨h1, h2⟩ := Dt.chk_some hq
        have h1 : Obj.bd n1 o = true := h1
        simp only [h1, sAllBd_ok h2, Bool.and_self]
      | false =>
        rw [hr] at hq
        simp only [cond_false] at hq
        obtain ⟨h1, h2⟩ := cond_den hq
        simp only [h1, sAllBd_ok h2, Bool.and_self]
    · rename_i ho
      rw [ho]
      simp only [sAllBd_ok hq, Bool.and_self]
theorem sResetH_ok {n0 : Nat} {ids : List Nat} {h' : Heap} (hq : (sResetH rows n0 ids h).den = some h') : resetH n0 ids h = some h' := by
  unfold sResetH at hq
  obtain ⟨h1, h2⟩ := cond_den hq
  obtain ⟨u, h3, h4⟩ := Dt.bind_some h2
  cases h4
  unfold resetH
  exact if_pos ⟨Nat.le_of_ble_eq_true h1, sAllBd_ok h3⟩
theorem sResetAt_ok {f : FuncId} {c : Code} {n0 : Nat} {s s' : St} (hq : (sResetAt cfg rows f c n0 s).den = some s') : resetAt cfg f c n0 s = some s' := by
  unfold sResetAt at hq
  unfold resetAt
  split at hq
  · rename_i hk; cases hq; rw [hk]
  · rename_i ks hk
    rw [hk]
    unfold sReset at hq
    obtain ⟨h1, h2, h3⟩ := Dt.bind_some hq
    obtain ⟨h4, h5⟩ := cond_den h3
    cases h5
    simp only [reset, sResetH_ok h2, Option.bind_some, h4, if_true]
theorem sResetRound_ok {f : FuncId} {c : Code} {n0 : Nat} {h' : Heap} (hq : (sResetRound cfg rows f c n0 ts h).den = some h') : resetRound cfg f c n0 ts h = some h' := by
  unfold sResetRound at hq
  unfold resetRound
  split at hq
  · rename_i hk; rw [hk]; cases hq; rfl
  · rename_i ks hk; rw [hk]; exact sResetH_ok hq
theorem sEndRound_ok {f : FuncId} {l : Nat} {bd : Code} {n0 : Nat} {o : Out} {s : St} {p : V × Heap} (hq : (sEndRound cfg rows f l bd n0 o s).den = some p) : endRound cfg f l bd n0 o s = some p := by
  unfold sEndRound at hq
  unfold endRound
  split at hq
  · rename_i ho
    rw [ho]
    obtain ⟨h', h1, h2⟩ := Dt.map_some hq
    cases o <;>
    · simp only at h1 h2 ⊢
      rw [sResetRound_ok h1]
      exact congrArg some h2
  · cases hq

theorem out_bind {α : Type} {d : Dt α} {g : α → Dt Leaf} {r : T} (hq : outO cfg f0 (d.bind g) = some r) : ∃ a, d.den = some a ∧ outO cfg f0 (g a) = some r := by
  unfold outO at hq ⊢
  rw [Dt.den_bind] at hq
  cases hd : d.den with
  | none => rw [hd] at hq; cases hq
  | some a => rw [hd] at hq; exact ⟨a, rfl, hq⟩
theorem out_lift {α : Type} {o : Option α} {g : α → Dt Leaf} {r : T} (hq : outO cfg f0 ((Dt.lift o).bind g) = some r) : ∃ a, o = some a ∧ outO cfg f0 (g a) = some r := by
  obtain ⟨a, h1, h2⟩ := out_bind hq
  rw [Dt.den_lift] at h1
  exact ⟨a, h1, h2⟩
theorem out_ite {c : Bool} {a b : Dt Leaf} {r : T} (hq : outO cfg f0 (.ite c a b) = some r) : outO cfg f0 (cond c a b) = some r := by
  cases c <;> exact hq
theorem out_fail {r : T} (hq : outO cfg f0 (.fail : Dt Leaf) = some r) : False := by cases hq
theorem out_cond {c : Bool} {a : Dt Leaf} {r : T} (hq : outO cfg f0 (bif c then a else .fail) = some r) : c = true ∧ outO cfg f0 a = some r := by
  cases c with
  | true => exact ⟨rfl, hq⟩
  | false => cases hq

section
variable {nx : Nx} (ih : ∀ (rows : List Nat) (res : List Tmp) (k : List Kt) (o : Out) (s : St) (r : T), outO cfg f0 (nx rows res k o s) = some r → Run cfg (pureFin cfg f0) k o s r)
  {rows : List Nat} {res : List Tmp} {f : FuncId} {id : Nat} {draw : Bool} {ops : List Oper} {base : Nat} {o1 : Oper} {rest : List Oper} {slot : Nat} {k : List Kt} {s : St} {r : T}
include ih
theorem symSkip_ok (hw : wantedV ops s.ts o1 = some false) (hq : outO cfg f0 (symSkip nx rows res f id draw ops base o1 rest slot k s) = some r) : Run cfg (pureFin cfg f0) (.ops f id draw ops base (o1 :: rest) slot :: k) .norm s r := by
  refine run_ops_step ⟨0, ?_⟩ (ih _ _ _ _ _ _ hq)
  simp only [stepOp, hw, Option.bind_some, cond_false]
theorem symGo_ok (hw : wantedV ops s.ts o1 = some true) {kd : Tk} (hk : opKind cfg s.ts o1.op = kd) (hq : outO cfg f0 (symGo cfg nx rows res f id draw ops base o1 rest slot k s kd) = some r) : Run cfg (pureFin cfg f0) (.ops f id draw ops base (o1 :: rest) slot :: k) .norm s r := by
  cases kd with
  | plain =>
    simp only [symGo] at hq
    cases hl : (isLoud cfg o1 && !quietApp draw (cfg.imm f) ops o1) <;> rw [hl] at hq
    · simp only [cond_false] at hq
      obtain ⟨⟨v, ob⟩, h1, h2⟩ := out_bind hq
      obtain ⟨m, hm⟩ := sQuietF_ok h1
      refine run_ops_step ⟨m, ?_⟩ (ih _ _ _ _ _ _ h2)
      simp only [stepOp, hw, Option.bind_some, cond_true, hl, cond_false, hm, Option.map_some]
    · simp only [cond_true] at hq
      obtain ⟨⟨v, h'⟩, h1, h2⟩ := out_bind hq
      obtain ⟨r0, h0, h1⟩ := Dt.bind_some h1
      obtain ⟨m, hm⟩ := sLoud_ok h0
      refine run_ops_step ⟨m, ?_⟩ (ih _ _ _ _ _ _ h2)
      simp only [stepOp, hw, Option.bind_some, cond_true, hl, hm, sFrzL_ok h1, Option.map_some]
  | inline g a b =>
    simp only [symGo] at hq
    obtain ⟨vs, hvs, h1⟩ := out_lift hq
    split at h1
    · rename_i hg
      obtain ⟨p, hp, h3⟩ := out_lift h1
      obtain ⟨hc, h4⟩ := out_cond h3
      have hc' := hc
      simp only [Bool.and_eq_true] at hc
      have hc1 : (isLoud cfg o1 && !quietApp draw (cfg.imm f) ops o1) = true := by simp only [Bool.and_eq_true]; exact hc.1
      have hfz : snapAt (cfg.imm f) o1 = false := by simpa using hc.2
      unfold opKind at hk
      split at hk
      · rename_i c ho
        have hvs' : mapO (ev s.ts) c.args.toList = some vs := by rw [ho] at hvs; exact hvs
        split at hk
        · rename_i g' hcal
          split at hk
          · rename_i hm
            cases hk
            exact run_ops_chk (fv := .t (.fn (.func g) [] [])) hw ho hcal rfl rfl hvs' hm hc1 hfz hg hp (ih _ _ _ _ _ _ h4)
          · cases hk
        · rename_i fo _ hcal
          split at hk
          · rename_i g' a' b' hev
            split at hk
            · rename_i hm
              cases hk
              exact run_ops_chk hw ho hcal hev rfl hvs' hm hc1 hfz hg hp (ih _ _ _ _ _ _ h4)
            · cases hk
          · cases hk
          · cases hk
        · cases hk
      · cases hk
    · rename_i fn hg
      obtain ⟨cd, hb, h3⟩ := out_lift h1
      obtain ⟨hc, h4⟩ := out_cond h3
      have hc' := hc
      simp only [Bool.and_eq_true] at hc
      have hc1 : (isLoud cfg o1 && !quietApp draw (cfg.imm f) ops o1) = true := by simp only [Bool.and_eq_true]; exact hc.1.1
      have hfz : snapAt (cfg.imm f) o1 = false := by simpa using hc.1.2
      unfold opKind at hk
      split at hk
      · rename_i c ho
        have hvs' : mapO (ev s.ts) c.args.toList = some vs := by rw [ho] at hvs; exact hvs
        split at hk
        · rename_i g' hcal
          split at hk
          · rename_i hm
            cases hk
            exact run_ops_call (fv := .t (.fn (.func g) [] [])) hw ho hcal rfl rfl hvs' hm hc1 hfz hg hb (Nat.le_of_ble_eq_true hc.2) (ih _ _ _ _ _ _ h4)
          · cases hk
        · rename_i fo _ hcal
          split at hk
          · rename_i g' a' b' hev
            split at hk
            · rename_i hm
              cases hk
              exact run_ops_call hw ho hcal hev rfl hvs' hm hc1 hfz hg hb (Nat.le_of_ble_eq_true hc.2) (ih _ _ _ _ _ _ h4)
            · cases hk
          · cases hk
          · cases hk
        · cases hk
      · cases hk
  | yield l =>
    simp only [symGo] at hq
    obtain ⟨vs, hvs, h1⟩ := out_lift hq
    split at h1
    · rename_i st0 pend0 f1 ts1 ps asg bd hob
      obtain ⟨ts0, hps, h2⟩ := out_lift h1
      obtain ⟨hc0, h4⟩ := out_cond h2
      have hc0' := hc0
      simp only [Bool.and_eq_true] at hc0'
      have hc1 : (isLoud cfg o1 && !quietApp draw (cfg.imm f) ops o1) = true := by simp only [Bool.and_eq_true]; exact hc0'.1
      have hfz : snapAt (cfg.imm f) o1 = false := by simpa using hc0'.2
      unfold opKind at hk
      split at hk
      · rename_i c ho
        have hvs' : mapO (ev s.ts) c.args.toList = some vs := by rw [ho] at hvs; exact hvs
        split at hk
        · split at hk <;> cases hk
        · rename_i fo _ hcal
          split at hk
          · split at hk <;> cases hk
          · rename_i l' hev
            cases hk
            exact run_ops_yield (a := []) (b := []) hw ho hcal hev rfl hvs' hc1 hfz hob (by simpa using hps) (ih _ _ _ _ _ _ h4)
          · cases hk
        · cases hk
      · cases hk
    · exact (out_fail h1).elim
theorem symGuard_ok (hq : outO cfg f0 (symGuard cfg nx rows res f id draw ops base o1 rest slot k s) = some r) : Run cfg (pureFin cfg f0) (.ops f id draw ops base (o1 :: rest) slot :: k) .norm s r := by
  unfold symGuard at hq
  split at hq
  · rename_i hg
    exact symGo_ok ih (by unfold wantedV; rw [hg]) rfl hq
  · rename_i j want hg
    split at hq
    · rename_i t hd
      split at hq
      · rename_i p ht
        split at hq
        · rename_i b
          have hw : wantedV ops s.ts o1 = some (b == want) := by
            unfold wantedV
            rw [hg]
            simp only [hd, Option.bind_some, ht]
          cases hr : res.contains t with
          | true =>
            rw [hr] at hq
            simp only [cond_true] at hq
            cases hb : (b == want) with
            | true => rw [hb] at hq hw; exact symGo_ok ih hw rfl hq
            | false => rw [hb] at hq hw; exact symSkip_ok ih hw hq
          | false =>
            rw [hr] at hq
            simp only [cond_false] at hq
            have h1 := out_ite hq
            have hs : ∀ b', b = b' → (⟨s.ts.upd (.t (.bool b')) t, s.h, s.marks⟩ : St) = s := by
              rintro _ rfl
              rw [Tm.upd_self ht]
            cases hb : b with
            | true =>
              rw [hb] at h1
              have := ih _ _ _ _ _ _ h1
              rwa [hs true hb] at this
            | false =>
              rw [hb] at h1
              have := ih _ _ _ _ _ _ h1
              rwa [hs false hb] at this
        · refine symSkip_ok ih ?_ hq
          unfold wantedV
          rw [hg]
          simp only [hd, Option.bind_some, ht]
        · exact (out_fail hq).elim
      · exact (out_fail hq).elim
    · exact (out_fail hq).elim
end

theorem sEncRow_ok {p : V × Heap} {x : T} (hq : (sEncRow p).den = some x) : encRow p = some x := by
  unfold sEncRow at hq
  unfold encRow
  split at hq
  · rename_i y hy; rw [hy]; exact hq
  · rename_i id gen off len sh hv
    rw [hv]
    simp only
    split at hq
    · rename_i g e cs ho
      rw [ho]
      simp only
      cases hg : Nat.beq g gen <;> rw [hg] at hq
      · cases hq
      · simp only [Dt.den, cond_true] at hq ⊢
        cases ha : allT cs with
        | none => rw [ha] at hq; cases hq
        | some xs => rw [ha] at hq; exact hq
    · cases hq
  · cases hq
theorem sym_ok : ∀ (n : Nat) (rows : List Nat) (res : List Tmp) (k : List Kt) (o : Out) (s : St) (r : T), outO cfg f0 (sym cfg f0 n rows res k o s) = some r → Run cfg (pureFin cfg f0) k o s r
  | 0, _, _, _, _, _, _, hq => (out_fail hq).elim
  | n + 1, rows, res, k, o, s, r, hq => by
    have ih := sym_ok n
    unfold sym at hq
    split at hq
    · -- the end
      split at hq
      · rename_i hrm
        obtain ⟨p, h1, h2⟩ := out_lift hq
        obtain ⟨x, h3, h4⟩ := out_bind h2
        cases h4
        refine run_nil ?_
        obtain ⟨v, h⟩ := p
        simp only [pureFin, hrm, h1, Option.bind_some]
        exact sSnap_ok _ _ _ h3
      · rename_i g hrm
        obtain ⟨p, h1, h2⟩ := out_lift hq
        obtain ⟨x, h3, h4⟩ := out_bind h2
        cases h4
        refine run_nil ?_
        simp only [pureFin, hrm, h1, Option.bind_some]
        exact sEncRow_ok h3
    · -- code
      rename_i f rd c k
      split at hq
      · split at hq
        · exact run_skip (ih _ _ _ _ _ _ hq)
        · split at hq
          · exact (out_fail hq).elim
          · rename_i hpr
            obtain ⟨p, h1, h2⟩ := out_bind hq
            exact run_region hpr (sShut_ok h1) (ih _ _ _ _ _ _ h2)
        · exact run_seq (ih _ _ _ _ _ _ hq)
        · rename_i x a b
          obtain ⟨v, hv, h1⟩ := out_lift hq
          split at h1
          · split at h1
            · rename_i t
              have key : outO cfg f0 (cond t (sym cfg f0 n rows res (.code f rd a :: k) .norm s) (sym cfg f0 n rows res (.code f rd b :: k) .norm s)) = some r → Run cfg (pureFin cfg f0) (.code f rd (.cond x a b) :: k) .norm s r := by
                intro h2
                refine run_cond hv ?_
                cases t
                · exact ih _ _ _ _ _ _ h2
                · exact ih _ _ _ _ _ _ h2
              split at h1
              · rename_i d
                cases hd : res.contains d <;> rw [hd] at h1
                · exact key (out_ite h1)
                · exact key h1
              · exact key h1
            · exact (out_fail h1).elim
          · exact (out_fail h1).elim
        · exact run_block (ih _ _ _ _ _ _ hq)
        · split at hq
          · rename_i hm
            obtain ⟨s', h1, h2⟩ := out_bind hq
            exact run_loop hm (sResetAt_ok h1) (runO_some.1 h2)
          · exact (out_fail hq).elim
        · rename_i fo ps asg bd
          obtain ⟨fv, hf, h1⟩ := out_lift hq
          obtain ⟨p, ht, h2⟩ := out_lift h1
          split at h2
          · rename_i g a b
            split at h2
            · rename_i hm
              obtain ⟨fn, hg, h3⟩ := out_lift h2
              obtain ⟨cd, hb, h4⟩ := out_lift h3
              obtain ⟨hc, h5⟩ := out_cond h4
              simp only [Bool.and_eq_true] at hc
              exact run_range hf ht hm hc.1 hg hb rfl rfl (Nat.le_of_ble_eq_true hc.2) (ih _ _ _ _ _ _ h5)
            · exact (out_fail h2).elim
          · exact (out_fail h2).elim
        · exact run_exit (ih _ _ _ _ _ _ hq)
        · exact run_scope (ih _ _ _ _ _ _ hq)
        · exact run_label (ih _ _ _ _ _ _ hq)
        · exact run_ret (ih _ _ _ _ _ _ hq)
        · exact (out_fail hq).elim
      · exact run_pass_code (by simp) (ih _ _ _ _ _ _ hq)
      · exact run_pass_code (by simp) (ih _ _ _ _ _ _ hq)
    · -- loop
      split at hq
      · exact runO_some.1 hq
      · exact run_pass_loop (by simp) (ih _ _ _ _ _ _ hq)
      · exact run_pass_loop (by simp) (ih _ _ _ _ _ _ hq)
    · -- round
      split at hq
      · obtain ⟨s', h1, h2⟩ := out_bind hq
        exact run_round (sResetAt_ok h1) (runO_some.1 h2)
      · exact run_pass_round (by simp) (ih _ _ _ _ _ _ hq)
      · exact run_pass_round (by simp) (ih _ _ _ _ _ _ hq)
    · exact run_in_block (ih _ _ _ _ _ _ hq)
    · obtain ⟨p, h1, h2⟩ := out_lift hq
      exact run_retn h1 (ih _ _ _ _ _ _ h2)
    · obtain ⟨p, h1, h2⟩ := out_lift hq
      obtain ⟨q, h3, h4⟩ := out_lift h2
      exact run_over h1 h3 (ih _ _ _ _ _ _ h4)
    · split at hq
      · obtain ⟨s', h1, h2⟩ := out_lift hq
        exact run_busy h1 (ih _ _ _ _ _ _ h2)
      · exact (out_fail hq).elim
    · obtain ⟨p, h1, h2⟩ := out_bind hq
      exact run_yend (sEndRound_ok h1) (ih _ _ _ _ _ _ h2)
    · -- operations
      rename_i f id draw ops base rest slot k
      split at hq
      · split at hq
        · obtain ⟨p, h1, h2⟩ := out_bind hq
          exact run_ops_nil (sShut_ok h1) (ih _ _ _ _ _ _ h2)
        · rename_i o1 rest
          exact symGuard_ok ih hq
      · exact (out_fail hq).elim

theorem outR_eq : ∀ d : Dt Leaf, outR cfg f0 d = outO cfg f0 d
  | .ret l => rfl
  | .fail => rfl
  | .ite c a b => by cases c <;> simp only [outR, outO, Dt.den, cond_true, cond_false] <;> first | exact outR_eq a | exact outR_eq b
  | .chk c k => by cases c <;> simp only [outR, outO, Dt.den, cond_true, cond_false] <;> first | exact outR_eq k | rfl
  | .opt _ o k => by
    cases o with
    | none => rfl
    | some x => simp only [outR, outO, Dt.den, Option.bind_some]; exact outR_eq (k x)
theorem symRound_ok {n : Nat} {rows : List Nat} {k : List Kt} {s : St} {r : T} (hq : outO cfg f0 (symRound cfg f0 n rows k s) = some r) : runO cfg (pureFin cfg f0) k s = some r := by
  unfold symRound at hq
  split at hq
  · exact runO_some.2 (run_iter (sym_ok _ _ _ _ _ _ _ hq))
  · exact (out_fail hq).elim
theorem round_of {n : Nat} {rows : List Nat} {k : List Kt} {s : St} {o : Option T} {r : T} (he : outR cfg f0 (symRound cfg f0 n rows k s) = o) (hq : o = some r) : runO cfg (pureFin cfg f0) k s = some r :=
  symRound_ok (by rw [← outR_eq, he]; exact hq)
theorem symFn_ok {n : Nat} {xs : List T} {r : T} (hq : outO cfg f0 (symFn cfg f0 n xs) = some r) : fnO cfg f0 xs = some r := by
  unfold symFn at hq
  obtain ⟨fn, hg, h1⟩ := out_lift hq
  obtain ⟨cd, hb, h2⟩ := out_lift h1
  obtain ⟨hc, h3⟩ := out_cond h2
  simp only [Bool.and_eq_true] at hc
  have hp : cfg.prim f0 = none := by
    cases hp : cfg.prim f0 with
    | none => rfl
    | some g => rw [hp] at hc; simp at hc
  exact fn_run (by simpa using hc.2) hp hg hb (Nat.le_of_ble_eq_true hc.1.1) (sym_ok _ _ _ _ _ _ _ h3)
/-- The row that a function hands out. -/
noncomputable def rowO (cfg : Cfg) (f : FuncId) (xs : List T) : Option T := (callO cfg f xs).bind encRow
theorem rowMode_add (f : FuncId) : rowMode (Nat.add f 1000) = some f := by
  unfold rowMode
  have h1 : Nat.ble 1000 (Nat.add f 1000) = true := Nat.ble_eq_true_of_le (Nat.le_add_left _ _)
  rw [h1]
  exact congrArg some (Nat.add_sub_cancel (n := f) (m := 1000))
theorem symRow_ok {n : Nat} {xs : List T} {r : T} (hq : outO cfg (Nat.add f0 1000) (symRow cfg f0 n xs) = some r) : rowO cfg f0 xs = some r := by
  unfold symRow at hq
  obtain ⟨fn, hg, h1⟩ := out_lift hq
  obtain ⟨cd, hb, h2⟩ := out_lift h1
  obtain ⟨hc, h3⟩ := out_cond h2
  obtain ⟨m, h⟩ := sym_ok _ _ _ _ _ _ _ h3
  obtain ⟨⟨o1, s1⟩, h4, h⟩ := Option.bind_eq_some_iff.1 h
  have h5 : pureFin cfg (Nat.add f0 1000) o1 s1 = some r := by cases o1 <;> exact h
  unfold pureFin at h5
  rw [rowMode_add] at h5
  simp only [Option.bind_eq_some_iff] at h5
  obtain ⟨p, h6, h7⟩ := h5
  have hcall : (env cfg (m + 1)).call (.fn f0) (xs.map .t) .empty = some p := by
    show callBody cfg (env cfg m) (.fn f0) (xs.map .t) .empty = _
    simp only [callBody, body, hg, Option.bind_some, hb, List.length_map, if_pos (Nat.le_of_ble_eq_true hc), h4]
    simp only [endCall, hg, Option.bind_some] at h6
    cases o1 <;> exact h6
  unfold rowO
  rw [callO_of hcall]
  exact h7
theorem row_of {n : Nat} {xs : List T} {o : Option T} {r : T} (he : outR cfg (Nat.add f0 1000) (symRow cfg f0 n xs) = o) (hq : o = some r) : rowO cfg f0 xs = some r :=
  symRow_ok (by rw [← outR_eq, he]; exact hq)
/-- What a caller sees of such a row. -/
theorem row_fresh {f : FuncId} {xs : List T} {e off len : Nat} {sh : Option Nat} {ys : List T} (hq : rowO cfg f xs = some (.tup [.nili, .int .i64 e, .int .i64 off, .int .i64 len, shT sh, .tup ys])) :
    ∃ p, callO cfg f xs = some p ∧ treeV p.1 = false ∧ ∀ flat, (flat = true ∨ ys.all (·.scalar1) = true) → freshRow flat e sh p = some (off, len, ys.map .t) := by
  unfold rowO at hq
  obtain ⟨p, h1, h2⟩ := Option.bind_eq_some_iff.1 hq
  refine ⟨p, h1, ?_⟩
  unfold encRow at h2
  split at h2
  · cases h2
  · rename_i id gen o l sh' hv
    split at h2
    · rename_i g e' cs ho
      cases hg : Nat.beq g gen <;> rw [hg] at h2
      · cases h2
      · simp only [cond_true, Option.map_eq_some_iff, T.tup.injEq, List.cons.injEq, T.int.injEq, true_and, and_true] at h2
        obtain ⟨zs, hz, he, ho', hl, hs, rfl⟩ := h2
        have he : e' = e := Int.ofNat.inj he
        have ho' : o = off := Int.ofNat.inj ho'
        have hl : l = len := Int.ofNat.inj hl
        have hs : sh' = sh := by
          cases sh' with
          | none => cases sh with
            | none => rfl
            | some _ => cases hs
          | some x => cases sh with
            | none => cases hs
            | some y =>
              simp only [shT, T.int.injEq, true_and] at hs
              rw [Int.ofNat.inj hs]
        subst he ho' hl hs
        refine ⟨by rw [hv]; rfl, fun flat hf => ?_⟩
        unfold freshRow
        rw [hv]
        simp only [ho, hz, Option.bind_some]
        rw [if_pos ⟨Nat.eq_of_beq_eq_true hg, hf, trivial, trivial⟩, allT_spec hz]
    · cases h2
  · cases h2
theorem row_tree {f : FuncId} {xs : List T} {x : T} (hq : rowO cfg f xs = some (.tup [.nilp, x])) : ∃ h, callO cfg f xs = some (.t x, h) := by
  unfold rowO at hq
  obtain ⟨⟨v, h⟩, h1, h2⟩ := Option.bind_eq_some_iff.1 hq
  unfold encRow at h2
  split at h2
  · rename_i y hv
    simp only at hv
    subst hv
    cases h2
    exact ⟨h, h1⟩
  · split at h2
    · rename_i g e' cs ho
      cases hg : Nat.beq g _ <;> rw [hg] at h2
      · cases h2
      · simp only [cond_true, Option.map_eq_some_iff] at h2
        obtain ⟨_, _, h2⟩ := h2
        cases h2
    · cases h2
  · cases h2
theorem fn_of {n : Nat} {xs : List T} {o : Option T} {r : T} (he : outR cfg f0 (symFn cfg f0 n xs) = o) (hq : o = some r) : fnO cfg f0 xs = some r :=
  symFn_ok (by rw [← outR_eq, he]; exact hq)
end
/-! Words of printed texts. -/
noncomputable section
def mkTs (n : Nat) (l : List (Nat × V)) : Ts := l.foldl (fun t p => t.upd p.2 p.1) (Tm.blank .junk n)
def mkTr (l : List (Nat × Obj)) : Tm Obj := l.foldl (fun t p => t.put p.1 (some p.2)) .nil
/-- A part of a code. -/
def codeAt : List Nat → Code → Code
  | [], c => c
  | 0 :: p, .seq a _ => codeAt p a
  | 1 :: p, .seq _ b => codeAt p b
  | 0 :: p, .cond _ a _ => codeAt p a
  | 1 :: p, .cond _ _ b => codeAt p b
  | 0 :: p, .block _ c => codeAt p c
  | 0 :: p, .loop c => codeAt p c
  | 0 :: p, .scope c => codeAt p c
  | 0 :: p, .rangeFunc _ _ a _ => codeAt p a
  | 1 :: p, .rangeFunc _ _ _ b => codeAt p b
  | _, c => c
def codeOf (cfg : Cfg) (f : FuncId) (p : List Nat) : Code := match cfg.code f with | some fn => (match fn.body with | some c => codeAt p c | none => .skip) | none => .skip
def opsAt (c : Code) : List Oper := match c with | .region _ ops _ => ops.toList | _ => []
def opsDrop (n : Nat) (l : List Oper) : List Oper := l.drop n
end
end Go.Apex
