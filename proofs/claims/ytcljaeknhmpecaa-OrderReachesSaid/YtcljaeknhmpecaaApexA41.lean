import Derived.Test.YtcljaeknhmpecaaApexA40
set_option linter.all false
set_option linter.unusedVariables false
set_option linter.unusedSimpArgs false
set_option linter.unusedSectionVars false
/- Operations on data that are not told: they do what the evaluator does (3). -/
namespace Go.Apex
open Go
section
variable {cfg : Cfg} {ts : Ts} {hb : Rd} {rows : List Nat} {slot : Nat}

theorem vfits_t (x : T) (sh : Option Nat) : (V.t x).fits sh = x.fits sh := by
  cases sh with
  | none => rfl
  | some n =>
    simp only [V.fits, T.fits, cells_t, List.length_map, List.all_map]
    congr 1
    · congr 1
      cases x <;> rfl
theorem known1_ok {v : V} (h : known1 v = true) : v.fits none = true := by
  unfold known1 at h
  split at h
  · split at h <;> first | rfl | cases h
  · cases h
theorem fitNode_ok {i : TI} {v : V} {u : Unit} (h : (fitNode i v).den = some u) : v.fits i.sh = true := by
  have k : (known1 v && !i.agg) = true → v.fits i.sh = true := by
    intro hk
    simp only [Bool.and_eq_true, Bool.not_eq_true'] at hk
    unfold TI.sh
    rw [hk.2]
    exact known1_ok hk.1
  unfold fitNode at h
  split at h
  · exact k (cond_den h).1
  · exact k (cond_den h).1
  · exact k (cond_den h).1
  · exact (Dt.chk_some h).1
theorem cellsI_eq {i : TI} {v : V} (h : v.fits i.sh = true) : cellsI i v = v.cells := by
  unfold cellsI
  cases hi : i.agg with
  | true => rfl
  | false =>
    have hs : i.sh = none := by unfold TI.sh; rw [hi]; rfl
    rw [hs] at h
    simp only [cond_false]
    cases v with
    | t x => cases x <;> first | rfl | cases h
    | agg cs => cases h
    | _ => rfl
theorem fitNodes_ok {i : TI} : ∀ {l : List V} {u : Unit}, (fitNodes i l).den = some u → ∀ v ∈ l, v.fits i.sh = true
  | [], _, _, _, hv => by cases hv
  | x :: l, u, h, v, hv => by
    unfold fitNodes at h
    obtain ⟨u1, h1, h2⟩ := Dt.bind_some h
    rcases List.mem_cons.1 hv with rfl | hv
    · exact fitNode_ok h1
    · exact fitNodes_ok h2 v hv
theorem sBox_ok {imm : Bool} {e : TypeId} {x : Operand} {r : V × Option Obj} (h : (sBox cfg imm slot ts e x).den = some r) : qBox cfg imm slot ts e x = some r := by
  unfold sBox at h
  obtain ⟨i, hi, h1⟩ := Dt.lift_bind_some h
  obtain ⟨v, hv, h2⟩ := Dt.lift_bind_some h1
  obtain ⟨u, hu, h3⟩ := Dt.bind_some h2
  simp only [qBox, hi, hv, Option.bind_some, fitNode_ok hu, if_true]
  split at h3
  · rename_i y hy
    cases h3
    rw [hy]
  · rename_i hy
    cases h3
    rw [hy, cellsI_eq (fitNode_ok hu)]
theorem sFill_ok {pl : Nat → Option (Nat × TI)} {place : Nat → Option (Nat × Option Nat)} (hp : ∀ k, place k = (pl k).map fun x => (x.1, x.2.sh)) : ∀ {ps : List (Nat × V)} {cells cs : List V}, (sFill pl cells ps).den = some cs → fill place cells ps = some cs
  | [], cells, cs, h => by cases h; rfl
  | (k, v) :: ps, cells, cs, h => by
    unfold sFill at h
    obtain ⟨⟨off, i⟩, hi, h1⟩ := Dt.lift_bind_some h
    obtain ⟨u, hu, h2⟩ := Dt.bind_some h1
    obtain ⟨hl, h3⟩ := cond_den h2
    have := Nat.le_of_ble_eq_true hl
    simp only [cellsI_eq (fitNode_ok hu)] at this h3
    unfold fill
    rw [hp, hi]
    simp only [Option.map_some, Option.bind_some, fitNode_ok hu, Bool.true_and, decide_eq_true_eq, if_pos this]
    exact sFill_ok hp h3
theorem sBuild_ok {t : TypeId} {parts : List (Nat × Operand)} {v : V} (h : (sBuild cfg ts t parts).den = some v) : qBuild cfg ts t parts = some (v, none) := by
  unfold sBuild at h
  obtain ⟨i, hi, h1⟩ := Dt.lift_bind_some h
  obtain ⟨z, hz, h2⟩ := Dt.lift_bind_some h1
  simp only [qBuild, hi, hz, Option.bind_some]
  split at h2
  · rename_i fs hd
    obtain ⟨hc, h3⟩ := cond_den h2
    obtain ⟨ps, hps, h4⟩ := Dt.lift_bind_some h3
    obtain ⟨cs, hcs, h5⟩ := Dt.bind_some h4
    cases h5
    have hf : fill (fieldPlace cfg fs) (z.cells.map .t) ps = some cs := sFill_ok (fun k => by
      unfold fieldPlace fieldPlaceI
      cases fieldOf fs k with
      | none => rfl
      | some to => simp only [Option.bind_some]; cases cfg.ti to.1 <;> rfl) hcs
    simp only [hd, hc, if_true, hps, Option.bind_some, hf, Option.map_some]
  · cases h2
theorem sBuildSlice_ok {imm : Bool} {t : TypeId} {len : Nat} {parts : List (Nat × Operand)} {r : V × Option Obj} (h : (sBuildSlice cfg imm slot ts t len parts).den = some r) : qBuildSlice cfg imm slot ts t len parts = some r := by
  unfold sBuildSlice at h
  obtain ⟨⟨e, j⟩, hj, h1⟩ := Dt.lift_bind_some h
  obtain ⟨z, hz, h2⟩ := Dt.lift_bind_some h1
  obtain ⟨hc, h3⟩ := cond_den h2
  obtain ⟨ps, hps, h4⟩ := Dt.lift_bind_some h3
  obtain ⟨cs, hcs, h5⟩ := Dt.bind_some h4
  simp only [Bool.and_eq_true, decide_eq_true_eq] at hc
  have hf : fill (elemPlace j len) (zeros len z) ps = some cs := sFill_ok (fun k => by
    unfold elemPlace elemPlaceI
    cases hb : Nat.ble (k + 1) len with
    | true => have := Nat.le_of_ble_eq_true hb; rw [if_pos (by omega)]; rfl
    | false => rw [if_neg (fun hlt => by rw [Nat.ble_eq_true_of_le hlt] at hb; cases hb)]; rfl) hcs
  simp only at hz
  simp only [qBuildSlice, hj, hz, Option.bind_some]
  rw [if_pos ⟨hc.1, hc.2.1, hc.2.2⟩]
  simp only [hps, hf, Option.bind_some]
  cases imm with
  | true =>
    simp only [cond_true] at h5
    obtain ⟨es, hes, h6⟩ := Dt.lift_bind_some h5
    obtain ⟨xs, hxs, h7⟩ := Dt.lift_bind_some h6
    obtain ⟨u, hu, h8⟩ := Dt.bind_some h7
    cases h8
    have hall := fitNodes_ok hu
    have hx := allT_spec hxs
    have : immRow j cs len = some xs := by
      unfold immRow
      rw [hes]
      simp only [Option.bind_some, hxs]
      rw [if_pos]
      simp only [List.all_eq_true]
      intro x hx'
      rw [← vfits_t]
      exact hall _ (by rw [hx]; exact List.mem_map_of_mem hx')
    simp only [if_true, this]
  | false =>
    simp only [cond_false] at h5
    cases h5
    simp
theorem sMakeSlice_ok {t : TypeId} {l c : Operand} {r : V × Option Obj} (h : (sMakeSlice cfg slot ts t l c).den = some r) : qMakeSlice cfg slot ts t l c = some r := by
  unfold sMakeSlice at h
  obtain ⟨⟨e, j⟩, hj, h1⟩ := Dt.lift_bind_some h
  obtain ⟨z, hz, h2⟩ := Dt.lift_bind_some h1
  obtain ⟨lv, hlv, h3⟩ := Dt.lift_bind_some h2
  obtain ⟨n, hn, h4⟩ := Dt.bind_some h3
  obtain ⟨cv, hcv, h5⟩ := Dt.lift_bind_some h4
  obtain ⟨m, hm, h6⟩ := Dt.bind_some h5
  obtain ⟨hc, h7⟩ := cond_den h6
  obtain ⟨hk, h8⟩ := Dt.chk_some h7
  cases h8
  simp only [Bool.and_eq_true, decide_eq_true_eq] at hc
  have hk := of_decide_eq_true hk
  simp only at hz
  simp only [qMakeSlice, hj, hz, hlv, hcv, Option.bind_some, sInd_ok hn, sInd_ok hm]
  rw [if_pos ⟨hc.1, hc.2, hk.1, hk.2.1, hk.2.2.1, hk.2.2.2⟩]
  rfl
theorem sConv_ok {d d' : D} {a v : V} (h : (sConv cfg d d' a).den = some v) : convV cfg d d' a = some v := by
  unfold sConv at h
  split at h
  · split at h
    · cases h; rfl
    · cases h
  · split at h
    · cases h; rfl
    · cases h
  · split at h
    · obtain ⟨u, hu, h1⟩ := Dt.lift_bind_some h
      split at h1
      · rename_i hd
        cases h1
        simp only [convV, hu, Option.bind_some, hd]
        rfl
      · cases h1
    · cases h
  · cases h
theorem lookT_ok {q key : T} {zero : Option T} {p : T × Bool} (h : lookT zero q key = some p) : ∃ (ks vs : List T), mapParts hb (.t q) = some (ks, vs.map .t) ∧
    ((lookupIn ks (vs.map .t) key = some none ∧ zero = some p.1 ∧ p.2 = false) ∨ (lookupIn ks (vs.map .t) key = some (some (.t p.1)) ∧ p.2 = true)) := by
  unfold lookT at h
  split at h
  · simp only [Option.map_eq_some_iff] at h
    obtain ⟨z, hz, rfl⟩ := h
    exact ⟨[], [], rfl, .inl ⟨rfl, hz, rfl⟩⟩
  · rename_i ks vs
    refine ⟨ks, vs, rfl, ?_⟩
    simp only [Option.bind_eq_some_iff] at h
    obtain ⟨r, hr, h⟩ := h
    unfold lookupIn
    rw [hr]
    cases r with
    | none =>
      simp only [Option.map_eq_some_iff] at h
      obtain ⟨z, hz, rfl⟩ := h
      exact .inl ⟨rfl, hz, rfl⟩
    | some i =>
      simp only [Option.map_eq_some_iff] at h
      obtain ⟨v, hv, rfl⟩ := h
      exact .inr ⟨by simp [hv], rfl⟩
  · cases h
theorem lookM_ok {ks : List T} {vs : List V} {key : T} {zero : Option T} {p : T × Bool} (h : lookM zero ks vs key = some p) :
    ((lookupIn ks vs key = some none ∧ zero = some p.1 ∧ p.2 = false) ∨ (lookupIn ks vs key = some (some (.t p.1)) ∧ p.2 = true)) := by
  simp only [lookM, Option.bind_eq_some_iff] at h
  obtain ⟨r, hr, h⟩ := h
  unfold lookupIn
  rw [hr]
  cases r with
  | none =>
    simp only [Option.map_eq_some_iff] at h
    obtain ⟨z, hz, rfl⟩ := h
    exact .inl ⟨rfl, hz, rfl⟩
  | some i =>
    simp only [Option.map_eq_some_iff] at h
    obtain ⟨v, hv, rfl⟩ := h
    exact .inr ⟨by simp [bind_toT hv], rfl⟩
theorem sLookup_ok {t : TypeId} {x k : Operand} {ok : Bool} {v : V} (h : (sLookup cfg ts hb t x k ok).den = some v) : qLookup cfg ts hb t x k ok = some (v, none) := by
  unfold sLookup at h
  obtain ⟨i, hi, h1⟩ := Dt.lift_bind_some h
  simp only [qLookup, hi, Option.bind_some]
  split at h1
  case h_2 => cases h1
  rename_i kt et hd
  obtain ⟨ki, hki, h2⟩ := Dt.lift_bind_some h1
  obtain ⟨ei, hei, h3⟩ := Dt.lift_bind_some h2
  obtain ⟨m, hm, h4⟩ := Dt.lift_bind_some h3
  obtain ⟨kv, hkv, h5⟩ := Dt.lift_bind_some h4
  obtain ⟨key, hkey, h6⟩ := Dt.lift_bind_some h5
  obtain ⟨hf, h7⟩ := cond_den h6
  simp only [hd, hki, hei, hm, hkv, Option.bind_some, hkey, hf, if_true]
  have fin : ∀ {p : T × Bool} {ks : List T} {vs : List V}, ((viewT cfg.ti et p.1).bind fun v => .ret (cond ok (.t (.tup [v, .bool p.2])) (.t v))).den = some v →
      ((lookupIn ks vs key = some none ∧ ei.zero = some p.1 ∧ p.2 = false) ∨ (lookupIn ks vs key = some (some (.t p.1)) ∧ p.2 = true)) →
      ((lookupIn ks vs key).bind fun r => match r with
        | some v => some (if ok then mkTup [v, .t (.bool true)] else v, (none : Option Obj))
        | none => ei.zero.map fun z => (if ok then .t (.tup [z, .bool false]) else .t z, none)) = some (v, none) := by
    intro p ks vs hv hp
    obtain ⟨y, hy, hv⟩ := Dt.bind_some hv
    cases hv
    rw [viewT_ok hy]
    rcases hp with ⟨a1, a2, a3⟩ | ⟨a1, a2⟩
    · rw [a1, a2, a3]; cases ok <;> rfl
    · rw [a1, a2]; cases ok <;> rfl
  split at h7
  · rename_i q
    obtain ⟨p, hp, h8⟩ := Dt.opt_some h7
    obtain ⟨ks, vs, hm1, hm2⟩ := lookT_ok (hb := hb) hp
    rw [hm1]
    exact fin h8 hm2
  · split at h7
    · rename_i ks vs ho
      obtain ⟨p, hp, h8⟩ := Dt.opt_some h7
      simp only [mapParts, ho, Option.bind_some]
      exact fin h8 (lookM_ok hp)
    · cases h7
  · cases h7
theorem mapD_ok {α β : Type} {f : α → Dt β} {g : α → Option β} (hf : ∀ a b, (f a).den = some b → g a = some b) : ∀ {l : List α} {r : List β}, (mapD f l).den = some r → mapO g l = some r
  | [], r, h => by cases h; rfl
  | a :: l, r, h => by
    unfold mapD at h
    obtain ⟨x, h1, h2⟩ := Dt.bind_some h
    obtain ⟨xs, h3, h4⟩ := Dt.bind_some h2
    cases h4
    simp only [mapO, hf _ _ h1, mapD_ok hf h3, Option.bind_some]
theorem mapO_snap_t {rd : Rd} {n : Nat} : ∀ (xs : List T), mapO (snap rd (n + 1)) (xs.map .t) = some xs
  | [] => rfl
  | x :: xs => by
    have : snap rd (n + 1) (.t x) = some x := rfl
    simp only [List.map_cons, mapO, this, Option.bind_some, mapO_snap_t xs]
theorem snap_msl (rd : Rd) (n id gen off len : Nat) (sh : Option Nat) : snap rd (n + 1) (.msl id gen off len sh) = (match rd id with
  | some (.cells g _ _ cs) => if g = gen then (elemsFrom sh cs off len).bind fun es => (mapO (snap rd n) es).bind fun xs => if xs.all (·.fits sh) then some (.sl false (shSize sh) xs) else none else none
  | _ => none) := rfl
theorem snap_mmp (rd : Rd) (n id : Nat) : snap rd (n + 1) (.mmp id) = (match rd id with
  | some (.map ks vs) => (mapO (snap rd n) vs).map fun xs => .mp ks xs
  | _ => none) := rfl
theorem sSnap_ok : ∀ (n : Nat) (v : V) (x : T), (sSnap hb rows n v).den = some x → snap hb n v = some x
  | 0, _, _, h => by cases h
  | n + 1, v, x, h => by
    have ih := sSnap_ok n
    unfold sSnap at h
    cases v with
    | t y => cases h; rfl
    | ref id gen off sh =>
      simp only at h
      split at h
      · rename_i g e fz cs ho
        cases hr : rows.contains id with
        | true => rw [hr] at h; cases h
        | false =>
          rw [hr] at h
          simp only [cond_false] at h
          obtain ⟨hg, h1⟩ := cond_den h
          simp only [snap, ho, if_pos (beq_eq hg)]
          cases sh with
          | none =>
            obtain ⟨u, hu, h2⟩ := Dt.lift_bind_some h1
            obtain ⟨y, hy, h3⟩ := Dt.bind_some h2
            obtain ⟨ho, h4⟩ := Dt.chk_some h3
            cases h4
            simp only [hu, Option.bind_some, ih _ _ hy, ho, if_true]
          | some k =>
            obtain ⟨hk, h2⟩ := cond_den h1
            obtain ⟨ys, hy, h3⟩ := Dt.bind_some h2
            cases h3
            simp only [if_pos (Nat.le_of_ble_eq_true hk), mapD_ok ih hy]
            rfl
      · cases h
    | msl id gen off len sh =>
      simp only at h
      split at h
      · rename_i g e fz cs ho
        cases hr : rows.contains id with
        | true =>
          rw [hr] at h
          simp only [cond_true] at h
          cases n with
          | zero => cases h
          | succ n =>
          obtain ⟨hg, h1⟩ := Dt.chk_some (show (Dt.chk (natEq g gen) _).den = some x from h)
          obtain ⟨xs, hx, h2⟩ := Dt.opt_some h1
          cases h2
          simp only [rowT, Option.bind_eq_some_iff] at hx
          obtain ⟨es, hes, zs, hzs, hx⟩ := hx
          split at hx
          · rename_i hall
            cases hx
            rw [snap_msl]
            simp only [ho, if_pos (natEq_eq hg), hes, Option.bind_some]
            rw [allT_spec hzs]
            simp only [mapO_snap_t, Option.bind_some, hall, if_true]
          · cases hx
        | false =>
          rw [hr] at h
          simp only [cond_false] at h
          obtain ⟨hg, h1⟩ := cond_den h
          obtain ⟨es, hes, h2⟩ := Dt.lift_bind_some h1
          obtain ⟨xs, hx, h3⟩ := Dt.bind_some h2
          obtain ⟨hall, h4⟩ := Dt.chk_some h3
          cases h4
          simp only [snap, ho, if_pos (beq_eq hg), hes, Option.bind_some, mapD_ok ih hx, hall, if_true]
      · cases h
    | mmp id =>
      simp only at h
      split at h
      · rename_i ks vs ho
        cases hr : rows.contains id with
        | true =>
          rw [hr] at h
          simp only [cond_true] at h
          cases n with
          | zero => cases h
          | succ n =>
          obtain ⟨xs, hx, h2⟩ := Dt.opt_some (show (Dt.opt (List T) (allT vs) _).den = some x from h)
          cases h2
          rw [snap_mmp]
          simp only [ho]
          rw [allT_spec hx, mapO_snap_t]
          rfl
        | false =>
          rw [hr] at h
          obtain ⟨xs, hx, h2⟩ := Dt.bind_some h
          cases h2
          simp only [snap, ho, mapD_ok ih hx, Option.map_some]
      · cases h
    | agg cs =>
      obtain ⟨xs, hx, h2⟩ := Dt.bind_some h
      cases h2
      simp only [snap, mapD_ok ih hx, Option.map_some]
    | tup cs =>
      obtain ⟨xs, hx, h2⟩ := Dt.bind_some h
      cases h2
      simp only [snap, mapD_ok ih hx, Option.map_some]
    | fn f a b =>
      obtain ⟨xs, hx, h2⟩ := Dt.bind_some h
      obtain ⟨ys, hy, h3⟩ := Dt.bind_some h2
      cases h3
      simp only [snap, mapD_ok ih hx, mapD_ok ih hy, Option.map_some, Option.bind_some]
    | iface t x =>
      obtain ⟨y, hy, h2⟩ := Dt.bind_some h
      cases h2
      simp only [snap, ih _ _ hy, Option.map_some]
    | it id => cases h
    | yld id => cases h
    | junk => cases h
end
end Go.Apex
