import Derived.Test.YtcljaeknhmpecaaGreatSpec
import Derived.Test.YtcljaeknhmpecaaGreatEqs
set_option linter.all false
open Go Go.Apex
namespace Go.Proofs.Tryz
theorem isK_nf' {d : Nat} (hs : ∀ (s : Sh) (x : T), IsSh d s x -> x.nf = true) : ∀ (l : List Sh) (q : T), IsK d l q -> q.nf = true := fun l q h => by
 rcases h with ⟨_, rfl⟩ | ⟨ex, xs, rfl, hl, h⟩
 . rfl
 . have key : ∀ ys : List T, (∀ y ∈ ys, y.nf = true) -> T.nfL ys = true := fun ys => by
    induction ys with
    | nil => intro _; rfl
    | cons y ys ih => intro h; simp only [T.nfL, h y (by simp), ih fun z hz => h z (by simp [hz]), Bool.and_self]
   show T.nfL xs = true
   refine key xs fun y hy => ?_
   obtain ⟨i, hi, rfl⟩ := List.getElem_of_mem hy
   have h1 := h i (by omega)
   rw [gD (l := xs), gE hi] at h1
   exact hs _ _ h1
theorem isSh_nf : ∀ (d : Nat) (s : Sh) (x : T), IsSh d s x -> x.nf = true
 | 0, _, _, h => h.elim
 | d + 1, s, x, h => by
  obtain ⟨d', q, e, rfl, hk⟩ := h.open
  cases e
  have := isK_nf' (isSh_nf d) s.kids q hk
  simp only [T.nf, T.nfL, this, Bool.and_self]
theorem isK_nf (d : Nat) (l : List Sh) (q : T) (h : IsK d l q) : q.nf = true := isK_nf' (isSh_nf d) l q h
theorem mapO_str : ∀ l : List (List UInt8), mapO T.str? (l.map T.str) = some l
 | [] => rfl
 | s :: l => by
  show mapO T.str? (T.str s :: l.map T.str) = _
  simp only [mapO, str?_str, mapO_str l]
  rfl
theorem join49 {l : List (List UInt8)} {sep : List UInt8} (h : l.length <= 1000000) (h2 : (Lib.join l sep).length <= 9000000000) : fnO acfg 49 [.sl false 1 (l.map .str), .str sep] = some (.str (Lib.join l sep)) := by
 refine fnO_prim (g := joinT) rfl ?_
 show ((mapO T.str? (l.map T.str)).bind fun ss => if ss.length <= 140737488355328 /\ (Lib.join ss sep).length <= 140737488355328 then some (T.str (Lib.join ss sep)) else none) = _
 rw [mapO_str, oS, if_pos ⟨by omega, by omega⟩]
theorem app_strs {l : List (List UInt8)} (s : List UInt8) (h : l.length < 1000000) :
  appOK (cellsT (l.map .str)) 0 l.length 1 [V.t (T.str s)] 16 = true /\ appCs (cellsT (l.map .str)) 0 [V.t (T.str s)] = cellsT ((l ++ [s]).map .str) := by
 refine ⟨appOK_row (ys := [.str s]) (by simp) (by rw [maxB]; simp; omega), ?_⟩
 have := appCs_one (cs := l.map T.str) (ys := [.str s]) (off := 0) (OneL.cons rfl OneL.nil) (by simp)
 rw [List.map_append, <- List.drop_zero (l := l.map T.str)]
 exact this
theorem rowT_strs (l : List (List UInt8)) : rowT none (cellsT (l.map .str)) 0 l.length = some (l.map .str) := by
 have := rowT_all (one_str l)
 rwa [List.length_map] at this
theorem new_str (s : List UInt8) : rowNew [] [V.t (T.str s)] = cellsT ([s].map .str) := rowNew_one (xs := []) (ys := [.str s]) OneL.nil (OneL.cons rfl OneL.nil)
theorem nameless {d : Nat} {s : Sh} (h : frmB (d + 1) s = true) (hk : s.kind ≠ 5) : s.name = [] := by
 simp only [frmB, Bool.and_eq_true] at h
 have h1 := h.1.2
 rw [if_neg hk] at h1
 exact of_decide_eq_true h1
theorem wordsP : mpT wordsT = some (wk35, wv35) := rfl
theorem textSP_spec : ∀ (l : Nat), l <= 6 -> ∀ (d : Nat) (s : Sh) (x : T), IsSh d s x -> thB l s = true -> frmB d s = true -> fnO acfg 35 [x] = some (.str (txtS d s))
 | 0, _, _, _, _, _, h, _ => by cases h
 | l + 1, hl, d, s, x, hx, ht, hf => by
  have hb : ∀ (d : Nat) (k : Sh), thB l k = true -> frmB d k = true -> (txtS d k).length <= 29160 := fun d k h1 h2 => by
   have h3 := txt_len l d k h1 h2
   have h4 : 3 ^ l <= 3 ^ 6 := Nat.pow_le_pow_right (by decide) (by omega)
   have h5 : 3 ^ 6 = 729 := by decide
   omega
  obtain ⟨d, q, rfl, rfl, hk⟩ := hx.open
  have hq := isK_nf _ _ _ hk
  have sc : ∀ z : List UInt8, T.scalar (.str z) = true := fun _ => rfl
  have cat : ∀ a b : List UInt8, sCat a b = a ++ b := fun _ _ => rfl
  apply fn35
  simp only [sh_v hk.one, cond_true, words_eq, oS, wordsP]
  rcases frm_kind hf with ⟨hkd, h0⟩ | ⟨hkd, h1⟩ | ⟨hkd, h2⟩
  . have h00 : iEq ((s.kids.length : Nat) : Int) 0 = true := by rw [h0]; rfl
    have fin : ∀ w : List UInt8, endO acfg 35 (L35_1k s.kind s.name q s.kind s.name q [] w s.name s.name wordsT wk35 wv35) (L35_1s s.kind s.name q s.kind s.name q [] w s.name s.name wordsT wk35 wv35) = some (.str w) := fun w => by
     apply L35_1_end
     simp only [sh_f2 hk.one, oS, deref_one hk.one, hk.len, h00, cond_true]
    rcases hkd with e | e | e | e | e
    . have hn := nameless hf (by omega)
      have et : txtS (d + 1) s = [102, 108, 97, 103] := by simp [txtS, e, kw]
      rw [et]
      rw [e, hn] at fin ⊢
      exact end35 (fun n => mp35_1 n hq) (fin _)
    . have hn := nameless hf (by omega)
      have et : txtS (d + 1) s = [109, 97, 120] := by simp [txtS, e, kw]
      rw [et]
      rw [e, hn] at fin ⊢
      exact end35 (fun n => mp35_2 n hq) (fin _)
    . have hn := nameless hf (by omega)
      have et : txtS (d + 1) s = [115, 101, 116] := by simp [txtS, e, kw]
      rw [et]
      rw [e, hn] at fin ⊢
      exact end35 (fun n => mp35_3 n hq) (fin _)
    . have hn := nameless hf (by omega)
      have et : txtS (d + 1) s = [111, 110, 99, 101] := by simp [txtS, e, kw]
      rw [et]
      rw [e, hn] at fin ⊢
      exact end35 (fun n => mp35_4 n hq) (fin _)
    . have et : txtS (d + 1) s = s.name := by simp [txtS, e]
      rw [et]
      have fin := fin s.name
      rw [e] at fin ⊢
      exact end35 (fun n => mp35_5 n hq s.name) fin
  . have hn := nameless hf (by omega)
    obtain ⟨d2, p, _, a1, a2, a3⟩ := hk.at (i := 0) (by omega)
    rw [Int.natCast_zero] at a1
    have t0 := thin_kid ht (i := 0) (by omega)
    have f0 := frm_kid hf (i := 0) (by omega)
    have r0 := textSP_spec l (by omega) d _ _ a3 t0 f0
    have b0 := hb d _ t0 f0
    have et : txtS (d + 1) s = [109, 97, 112] ++ [40] ++ txtS d (s.kids.getD 0 default) ++ [41] := by simp only [txtS, hkd]; rfl
    have e1 : iEq ((1 : Nat) : Int) 0 = false := rfl
    have e2 : iLt 0 ((1 : Nat) : Int) = true := rfl
    have e3 : iLt (iAdd .i64 0 1) ((1 : Nat) : Int) = false := rfl
    have c1 : sCatOK [109, 97, 112] [40] = true := rfl
    have c2 : sCatOK ([109, 97, 112] ++ [40]) (txtS d (s.kids.getD 0 default)) = true := sCatOK_sm (by simp only [List.length_append, List.length_cons, List.length_nil]; omega)
    have c3 : sCatOK ([109, 97, 112] ++ [40] ++ txtS d (s.kids.getD 0 default)) [41] = true := sCatOK_sm (by simp only [List.length_append, List.length_cons, List.length_nil]; omega)
    have j1 : Lib.join [txtS d (s.kids.getD 0 default)] [44, 32] = txtS d (s.kids.getD 0 default) := by simp [Lib.join_cons, Lib.joinTail]
    have j2 := join49 (l := [txtS d (s.kids.getD 0 default)]) (sep := [44, 32]) (by simp) (by rw [j1]; omega)
    rw [j1] at j2
    have rt := rowT_strs [txtS d (s.kids.getD 0 default)]
    have rt : rowT none (cellsT ([txtS d (s.kids.getD 0 default)].map .str)) 0 1 = some ([txtS d (s.kids.getD 0 default)].map .str) := rt
    rw [et, hkd, hn]
    refine end35 (fun n => mp35_6 n hq) ?_
    apply L35_1_end
    simp only [sh_f2 hk.one, oS, deref_one hk.one, hk.len, h1, e1, cond_false]
    apply L35_2_step
    simp only [e2, cond_true, a1, oS, sh_d a2.one, agg3, nth30, nth31, nth32, int?_int, str?_str, sh_v a2.one, r0, sc, new_str]
    apply L35_3_step
    simp only [e3, cond_false, c1, cond_true, natEq_self, rt, oS, j2, sc, str?_str, cat, c2, c3]
  . have hn := nameless hf (by omega)
    obtain ⟨d2, p, _, a1, a2, a3⟩ := hk.at (i := 0) (by omega)
    obtain ⟨d2', p', _, a1', a2', a3'⟩ := hk.at (i := 1) (by omega)
    rw [Int.natCast_zero] at a1
    have a1'' : idxT 3 q (iAdd .i64 0 1) = some (.ptr (shT (s.kids.getD 1 default).kind (s.kids.getD 1 default).name p')) := a1'
    have t0 := thin_kid ht (i := 0) (by omega)
    have f0 := frm_kid hf (i := 0) (by omega)
    have t1 := thin_kid ht (i := 1) (by omega)
    have f1 := frm_kid hf (i := 1) (by omega)
    have r0 := textSP_spec l (by omega) d _ _ a3 t0 f0
    have r1 := textSP_spec l (by omega) d _ _ a3' t1 f1
    have b0 := hb d _ t0 f0
    have b1 := hb d _ t1 f1
    obtain ⟨u, hu⟩ : ∃ u, u = txtS d (s.kids.getD 0 default) := ⟨_, rfl⟩
    obtain ⟨v, hv⟩ : ∃ v, v = txtS d (s.kids.getD 1 default) := ⟨_, rfl⟩
    have et : txtS (d + 1) s = [112, 97, 105, 114] ++ [40] ++ (u ++ [44, 32] ++ v) ++ [41] := by rw [hu, hv]; simp only [txtS, hkd]; simp
    rw [<- hu] at r0 b0
    rw [<- hv] at r1 b1
    have e1 : iEq ((2 : Nat) : Int) 0 = false := rfl
    have e2 : iLt 0 ((2 : Nat) : Int) = true := rfl
    have e3 : iLt (iAdd .i64 0 1) ((2 : Nat) : Int) = true := rfl
    have e4 : iLt (iAdd .i64 (iAdd .i64 0 1) 1) ((2 : Nat) : Int) = false := rfl
    have j1 : Lib.join [u, v] [44, 32] = u ++ [44, 32] ++ v := by simp [Lib.join_cons, Lib.joinTail]
    have hlen : (u ++ [44, 32] ++ v).length <= 60000 := by simp only [List.length_append, List.length_cons, List.length_nil]; omega
    have c1 : sCatOK [112, 97, 105, 114] [40] = true := rfl
    have c2 : sCatOK ([112, 97, 105, 114] ++ [40]) (u ++ [44, 32] ++ v) = true := sCatOK_sm (by simp only [List.length_append, List.length_cons, List.length_nil] at hlen ⊢; omega)
    have c3 : sCatOK ([112, 97, 105, 114] ++ [40] ++ (u ++ [44, 32] ++ v)) [41] = true := sCatOK_sm (by simp only [List.length_append, List.length_cons, List.length_nil] at hlen ⊢; omega)
    have j2 := join49 (l := [u, v]) (sep := [44, 32]) (by simp) (by rw [j1]; omega)
    rw [j1] at j2
    have rt : rowT none (cellsT ([u, v].map .str)) 0 (1 + 1) = some ([u, v].map .str) := rowT_strs [u, v]
    obtain ⟨ap1, ap2⟩ := app_strs (l := [u]) v (by simp)
    have ap1 : appOK (cellsT ([u].map .str)) 0 1 1 [V.t (T.str v)] 16 = true := ap1
    have ap2 : appCs (cellsT ([u].map .str)) 0 [V.t (T.str v)] = cellsT ([u, v].map .str) := ap2
    rw [et, hkd, hn]
    refine end35 (fun n => mp35_7 n hq) ?_
    apply L35_1_end
    simp only [sh_f2 hk.one, oS, deref_one hk.one, hk.len, h2, e1, cond_false]
    apply L35_2_step
    simp only [e2, cond_true, a1, oS, sh_d a2.one, agg3, nth30, nth31, nth32, int?_int, str?_str, sh_v a2.one, r0, sc, new_str]
    apply L35_3_step
    simp only [e3, cond_true, a1'', oS, sh_d a2'.one, agg3, nth30, nth31, nth32, int?_int, str?_str, sh_v a2'.one, r1, sc, natEq_self, ap1, ap2, appGen_one, appLen_one, objBd_cells]
    apply L35_3_step
    simp only [e4, cond_false, c1, cond_true, natEq_self, rt, oS, j2, sc, str?_str, cat, c2, c3]
end Go.Proofs.Tryz

open Go Go.Apex Go.StepsTo
namespace Go.Proofs.Tryz
def latE (t : Tbl) : Int := if checkB t = true then if (brk t).isSome = true then 12 else 0 else 4
theorem mode23 : acfg.mode 23 = .scalar := by kernel_rfl
theorem mode25 : acfg.mode 25 = .scalar := by kernel_rfl
theorem mode27 : acfg.mode 27 = .scalar := by kernel_rfl
theorem mode28 : acfg.mode 28 = .scalar := by kernel_rfl
theorem t2br (x y : T) : T.tup? (List.length [47, 36]) (.tup [x, y]) = some [x, y] := rfl
theorem nt1 (x y : T) : nthT [x, y] 1 = y := rfl
theorem nt0 (x y : T) : nthT [x, y] 0 = x := rfl
theorem ag3 (x y z : T) : T.agg? (List.length [(D.int IntKind.u8), (D.int IntKind.i64), (D.int IntKind.i64)]) (.agg [x, y, z]) = some [x, y, z] := rfl
theorem scbr (k i j m : Int) : T.scalar (.tup [.agg [.int .u8 k, .int .i64 i, .int .i64 j], .int .i64 m]) = true := rfl
section
variable {t : Tbl} {n : List UInt8} {e a w : T} (h : IsTbl t n e a w) (ht : thinB t = true)
include h ht
theorem provesE : ∃ k i j : Int, fnO acfg 17 [tblT n e a w] = some (.tup [.agg [.int .u8 k, .int .i64 i, .int .i64 j], .int .i64 (latE t)]) := by
 have hs := small_of_thin ht
 cases hc : checkB t with
 | false =>
  have he : latE t = 4 := by simp [latE, hc]
  rw [he]
  exact ⟨_, _, _, prove_bad h hs hc⟩
 | true =>
  have hg := good_of hc ht
  have he : latE t = bif (brk t).isSome then 12 else 0 := by simp only [latE, hc]; cases brk t <;> rfl
  rw [he]
  exact ⟨_, _, _, prove_good hg h hs hc⟩
theorem isLatR_spec : fnO acfg 41 [tblT n e a w] = some (.int .i64 (latE t)) := by
 have hs := small_of_thin ht
 apply fn41
 have r1 := checkR h hs
 cases hc : checkB t with
 | false =>
  have he : latE t = 4 := by simp [latE, hc]
  rw [hc] at r1
  simp only [h.v4, cond_true, h.d4, oS, agg4, nth0, nth1, nth2, nth3, str?_str, proveR_bad h r1, tripT, scbr, t2br, nt0, nt1, ag3, nth30, nth31, nth32, int?_int, tripfits, he]
 | true =>
  have hg := good_of hc ht
  rw [hc] at r1
  have he : latE t = bif (brk t).isSome then 12 else 0 := by simp only [latE, hc]; cases brk t <;> rfl
  simp only [h.v4, cond_true, h.d4, oS, agg4, nth0, nth1, nth2, nth3, str?_str, proveR_good hg h hs r1 (rel_spec hg h), tripT, scbr, t2br, nt0, nt1, ag3, nth30, nth31, nth32, int?_int, tripfits, he]
theorem clo23 (i : Int) : callT acfg (.fn (.func 23) [] []) [.int .i64 i, tblT n e a w] = some (.bool (checkB t)) := by
 refine callT_scalar mode23 ?_ rfl
 apply fn23
 simp only [h.v4, cond_true, h.d4, oS, agg4, nth0, nth1, nth2, nth3, str?_str, check_spec h (small_of_thin ht), scalar_int, int?_int]
 cases checkB t <;> rfl
theorem clo28 (i : Int) : callT acfg (.fn (.func 28) [] []) [.int .i64 i, tblT n e a w] = some (.bool (decide (latE t = 0))) := by
 obtain ⟨k, i, j, hp⟩ := provesE h ht
 refine callT_scalar mode28 ?_ rfl
 apply fn28
 simp only [h.v4, cond_true, h.d4, oS, agg4, nth0, nth1, nth2, nth3, str?_str, hp, scbr, t2br, nt0, nt1, ag3, nth30, nth31, nth32, int?_int, iEq_dec]
end
theorem clo27 {t t' : Tbl} {n n' : List UInt8} {e a w e' a' w' : T} (h : IsTbl t n e a w) (h' : IsTbl t' n' e' a' w') : callT acfg (.fn (.func 27) [] [.ptr (tblT n e a w)]) [tblT n' e' a' w'] = some (.bool (decide (t'.name = t.name))) := by
 have hn := h.n
 have hn' := h'.n
 have se : sEq n' n = decide (t'.name = t.name) := by unfold sEq; rw [hn, hn', Bool.eq_iff_iff]; simp
 refine callT_scalar mode27 ?_ rfl
 apply fn27
 simp only [h'.v4, cond_true, h.f0, oS, deref_str, str?_str, se]
theorem IsTs.take {l : List Tbl} {q : T} (h : IsTs l q) {i : Nat} (hi : i <= l.length) : ∃ y, subT 4 q none (some (i : Int)) none = some y /\ IsTs (l.take i) y := by
 rcases h with ⟨rfl, rfl⟩ | ⟨ex, xs, rfl, hl, h⟩
 . have : i = 0 := by simpa using hi
   subst this
   exact ⟨.nils, by simp [subT], .inl ⟨rfl, rfl⟩⟩
 . refine ⟨.sl (ex && ((i : Int) == xs.length)) 4 (xs.take i), by simp [subT, hl, hi], .inr ⟨_, _, rfl, by simp [hl], fun j hj => ?_⟩⟩
   rw [List.length_take] at hj
   have hj2 : j < l.length := by omega
   have := h j hj2
   rw [gD, gD] at this ⊢
   have hji : j < i := by omega
   simp only [List.getElem?_take, if_pos hji]
   exact this
def newB (l : List Tbl) (i : Nat) : Bool := (upto 0 i).all fun j => !decide ((l.getD j default).name = (l.getD i default).name)
theorem findI_self {p : Nat -> Bool} {i n : Nat} (hi : i < n) (hp : p i = true) : ∀ k, k <= i -> decide (findI p k n = (i : Int)) = (upto k i).all fun j => !p j := by
 refine upto_induct ?_ fun k hk ih => ?_
 . rw [findI_step hi, hp, upto_end (Nat.le_refl _)]
   simp
 . rw [findI_step (by omega), upto_step hk, List.all_cons]
   cases hpk : p k with
   | true => simp; omega
   | false => simpa using ih
theorem clo25 {l : List Tbl} {q : T} (hl : IsTs l q) (hn : l.length < 1000000) {i : Nat} (hi : i < l.length) {n : List UInt8} {e a w : T} (h : IsTbl (l.getD i default) n e a w) :
  callT acfg (.fn (.func 25) [] [.ptr q]) [.int .i64 (i : Int), tblT n e a w] = some (.bool (newB l i)) := by
 obtain ⟨y, h1, h2⟩ := hl.take (i := i) (by omega)
 have hlen : (l.take i).length = i := by rw [List.length_take]; omega
 have hc := containsTs_spec (f := .fn (.func 27) [] [.ptr (tblT n e a w)]) (p := fun j => decide ((l.getD j default).name = (l.getD i default).name)) h2 (by omega) fun j hj n' e' a' w' ht => by
  have e1 : (l.take i).getD j default = l.getD j default := by
   rw [gD, gD, List.getElem?_take, if_pos (by omega)]
  rw [e1] at ht
  exact clo27 h ht
 rw [hlen, findI_neg] at hc
 refine callT_scalar mode25 ?_ rfl
 apply fn25
 simp only [h.v4, cond_true, deref_one hl.one, oS, h1, hc, scalar_bool, bool?_bool, bNot, Bool.not_not, newB]
theorem numberR_new {l : List Tbl} {q : T} (hl : IsTs l q) (hn : l.length < 1000000) {i : Nat} (hi : i < l.length) : ∃ z : Int, fnO acfg 40 [q, .str (l.getD i default).name] = some (.int .i64 z) /\ decide (z = (i : Int)) = newB l i :=
 ⟨_, numberR_spec hl hn _, findI_self (p := fun j => decide ((l.getD j default).name = (l.getD i default).name)) hi (decide_eq_true rfl) 0 (Nat.zero_le _)⟩
end Go.Proofs.Tryz

open Go Go.Apex Go.StepsTo
namespace Go.Proofs.Tryz
def thereB (l : List Tbl) (s : List UInt8) : Bool := !decide (findI (fun i => decide ((l.getD i default).name = s)) 0 l.length < 0)
def csE (l : List Tbl) (d : Nat) (s : Sh) : Int :=
 if 8 < l.length then 5 else if 4 < lv d s then 5 else
 if (frmB d s && (upto 0 l.length).all fun i => checkB (l.getD i default)) = true then
  if (upto 0 l.length).all (newB l) = true then
   if ((upto 0 l.length).all fun i => decide (latE (l.getD i default) = 0)) = true then
    if nmB (thereB l) d s = true then 0 else 7
   else 12
  else 6
 else 4
theorem iLt_nat (a b : Nat) : iLt (a : Int) (b : Int) = decide (a < b) := by unfold iLt; rw [Bool.eq_iff_iff]; simp
theorem iLt8 (n : Nat) : iLt 8 (n : Int) = decide (8 < n) := iLt_nat 8 n
theorem iLt4 (n : Nat) : iLt 4 (n : Int) = decide (4 < n) := iLt_nat 4 n
section
variable {l : List Tbl} {q : T} (h : IsTs l q) (hl : l.length < 1000000) (hth : ∀ i, i < l.length -> thinB (l.getD i default) = true)
variable {s : Sh} {x : T} (hx : IsSh 6 s x) (ht : thB 6 s = true)
include h hl hth hx ht
theorem checkShapeP_spec : fnO acfg 9 [q, x] = some (.int .i64 (csE l 6 s)) := by
 have hs := thin_small 6 s ht 6
 have hlv := (levels_spec 6 (by omega) s x hx hs).1
 have hf := formP_spec 6 s x hx hs
 have hchk := allTs_spec (f := .fn (.func 23) [] []) (p := fun i => checkB (l.getD i default)) h hl fun i hi n e a w hi2 => clo23 hi2 (hth i hi) (i : Int)
 have hnew := allTs_spec (f := .fn (.func 25) [] [.ptr q]) (p := newB l) h hl fun i hi n e a w hi2 => clo25 h hl hi hi2
 have hlat := allTs_spec (f := .fn (.func 28) [] []) (p := fun i => decide (latE (l.getD i default) = 0)) h hl fun i hi n e a w hi2 => clo28 hi2 (hth i hi) (i : Int)
 have hnm := namesP_spec (f := .fn (.func 29) [] [.ptr q]) rfl (q := thereB l) (fun n _ => there_spec h hl n) 6 s x hx hs
 obtain ⟨d', p, e, rfl, hk⟩ := hx.open
 apply fn9
 simp only [vfits_one h.one, sh_v hk.one, cond_true, deref_one h.one, oS, h.len, iLt8, sh_d hk.one, agg3, nth30, nth31, nth32, int?_int, str?_str, hlv, scalar_int, iLt4, hchk, scalar_bool, bool?_bool, hf, hnew, hlat, hnm, csE]
 by_cases c1 : 8 < l.length
 . simp [c1]
 by_cases c2 : 4 < lv 6 s
 . simp [c1, c2]
 cases c3 : (upto 0 l.length).all fun i => checkB (l.getD i default) with
 | false => simp [c1, c2, bNot]
 | true =>
  cases c4 : frmB 6 s with
  | false => simp [c1, c2, bNot]
  | true =>
   cases c5 : (upto 0 l.length).all (newB l) with
   | false => simp [c1, c2, bNot]
   | true =>
    cases c6 : (upto 0 l.length).all fun i => decide (latE (l.getD i default) = 0) with
    | false => simp [c1, c2, bNot]
    | true => cases c7 : nmB (thereB l) 6 s <;> simp [c1, c2, bNot]
theorem checkShapeR_spec : fnO acfg 12 [q, x] = some (.int .i64 (csE l 6 s)) := by
 have hs := thin_small 6 s ht 6
 have hlv := (levels_spec 6 (by omega) s x hx hs).2
 have hf := formR_spec 6 s x hx hs
 have hnm := namesR_spec (a0 := q) (q := thereB l) (fun n _ => ⟨_, numberR_spec h hl n, by simp only [thereB, Bool.not_not]⟩) 6 s x hx hs
 obtain ⟨d', p, e, rfl, hk⟩ := hx.open
 have k3 : ∀ i, i <= l.length -> L12_3 q s.kind s.name p (i : Int) = some (.int .i64 (if ((upto i l.length).all fun i => decide (latE (l.getD i default) = 0)) = true then (if nmB (thereB l) 6 s = true then 0 else 7) else 12)) := by
  refine upto_induct ?_ fun i hi ih => ?_
  . apply L12_3_step
    simp only [h.len, oS, iLt_end, cond_false, sh_d hk.one, agg3, nth30, nth31, nth32, int?_int, str?_str, hnm, scalar_bool, cond_true, bool?_bool, upto_end (Nat.le_refl _), List.all_nil, if_true]
    cases nmB (thereB l) 6 s <;> simp [bNot]
  . obtain ⟨n, e, a, w, h1, h2⟩ := h.at hi
    apply L12_3_step
    simp only [h.len, oS, iLt_len hi, cond_true, h1, h2.d4, agg4, nth0, nth1, nth2, nth3, str?_str, isLatR_spec h2 (hth i hi), scalar_int, int?_int, iEq_dec, iAdd_nat (show i < 1000000 by omega), ih, upto_step hi, List.all_cons]
    cases decide (latE (l.getD i default) = 0) <;> rfl
 have k2 : ∀ i, i <= l.length -> L12_2 q s.kind s.name p (i : Int) = some (.int .i64 (if (upto i l.length).all (newB l) = true then (if ((upto 0 l.length).all fun i => decide (latE (l.getD i default) = 0)) = true then (if nmB (thereB l) 6 s = true then 0 else 7) else 12) else 6)) := by
  refine upto_induct ?_ fun i hi ih => ?_
  . have k := k3 0 (Nat.zero_le _)
    rw [Int.natCast_zero] at k
    apply L12_2_step
    simp only [h.len, oS, iLt_end, cond_false, k, upto_end (Nat.le_refl _), List.all_nil, if_true]
  . obtain ⟨n, e, a, w, h1, h2⟩ := h.at hi
    obtain ⟨z, hz1, hz2⟩ := numberR_new h hl hi
    have hn := h2.n
    rw [<- hn] at hz1
    apply L12_2_step
    simp only [h.len, oS, iLt_len hi, cond_true, h1, h2.f0, deref_str, str?_str, hz1, scalar_int, int?_int, iEq_dec, hz2, iAdd_nat (show i < 1000000 by omega), ih, upto_step hi, List.all_cons]
    cases newB l i <;> simp [bNot]
 have k1 : ∀ i, i <= l.length -> ∀ b : Bool, L12_1 q s.kind s.name p b (i : Int) = some (.int .i64 (if (b && (upto i l.length).all fun i => checkB (l.getD i default)) = true then (if (upto 0 l.length).all (newB l) = true then (if ((upto 0 l.length).all fun i => decide (latE (l.getD i default) = 0)) = true then (if nmB (thereB l) 6 s = true then 0 else 7) else 12) else 6) else 4)) := by
  refine upto_induct ?_ fun i hi ih => ?_
  . intro b
    have k := k2 0 (Nat.zero_le _)
    rw [Int.natCast_zero] at k
    apply L12_1_step
    simp only [h.len, oS, iLt_end, cond_false, k, upto_end (Nat.le_refl _), List.all_nil]
    cases b <;> simp [bNot]
  . intro b
    obtain ⟨n, e, a, w, h1, h2⟩ := h.at hi
    apply L12_1_step
    simp only [h.len, oS, iLt_len hi, cond_true, h1, h2.d4, agg4, nth0, nth1, nth2, nth3, str?_str, checkR h2 (small_of_thin (hth i hi)), scalar_int, int?_int, iEq_dec, iAdd_nat (show i < 1000000 by omega), ih, upto_step hi, List.all_cons]
    cases b <;> cases hc : checkB (l.getD i default) <;> simp
 have k := k1 0 (Nat.zero_le _) (frmB 6 s)
 rw [Int.natCast_zero] at k
 apply fn12
 simp only [sh_v hk.one, cond_true, oS, h.len, iLt8, sh_d hk.one, agg3, nth30, nth31, nth32, int?_int, str?_str, hlv, scalar_int, iLt4, hf, scalar_bool, bool?_bool, k, csE]
 by_cases c1 : 8 < l.length
 . simp [c1]
 by_cases c2 : 4 < lv 6 s
 . simp [c1, c2]
 simp [c1, c2]
end
end Go.Proofs.Tryz

open Go Go.Apex Go.StepsTo
namespace Go.Proofs.Tryz
theorem rowS_N {n : Nat} {xs : List T} (h : AllN n xs) {i : Nat} (hi : i < xs.length) : rowS (some n) (cellsN xs) (rowOff 0 (i : Int) n) = some (xs.getD i .nils) := by
 have hx : xs.getD i .nils = xs[i] := by rw [gD, gE hi]; rfl
 have e : xs = xs.take i ++ xs[i] :: xs.drop (i + 1) := by
  rw [<- List.drop_eq_getElem_cons hi, List.take_append_drop]
 have h1 : AllN n (xs.take i) := fun y hy => h y (List.mem_of_mem_take hy)
 have h2 : AllN n (xs[i] :: xs.drop (i + 1)) := fun y hy => by
  rw [<- List.drop_eq_getElem_cons hi] at hy
  exact h y (List.mem_of_mem_drop hy)
 have hl := cellsN_len h1
 rw [List.length_take, Nat.min_eq_left (by omega)] at hl
 have k := elemsFrom_N (cellsN (xs.take i)) h2
 rw [<- cellsN_app, <- e, List.length_cons, hl] at k
 rw [elemsFrom] at k
 obtain ⟨v, k1, k2⟩ := oB.1 k
 obtain ⟨r, _, k3⟩ := oB.1 k2
 obtain ⟨rfl, _⟩ : v = .t xs[i] /\ _ := by
  have := Option.some.inj k3
  rw [show cellsT (xs[i] :: xs.drop (i + 1)) = .t xs[i] :: cellsT (xs.drop (i + 1)) from rfl] at this
  exact ⟨(List.cons.inj this).1, trivial⟩
 unfold rowS rowOff
 rw [Int.toNat_natCast, Nat.zero_add, k1, hx]
 rfl
def CopTs (l : List Tbl) (xs : List T) : Prop := xs.length <= l.length /\ ∀ i, i < xs.length -> IsTb (l.getD i default) (xs.getD i .nils)
theorem tblN {t : Tbl} {n : List UInt8} {e a w : T} (h : IsTbl t n e a w) : AggN 4 (tblT n e a w) := ⟨_, rfl, rfl, fun c hc => by
 simp only [List.mem_cons, List.not_mem_nil, or_false] at hc
 rcases hc with rfl | rfl | rfl | rfl
 . rfl
 . exact h.e.one
 . exact h.a1
 . exact h.w.one⟩
theorem CopTs.all {l : List Tbl} {xs : List T} (h : CopTs l xs) : AllN 4 xs := fun x hx => by
 obtain ⟨i, hi, rfl⟩ := List.getElem_of_mem hx
 have := h.2 i hi
 rw [gD (l := xs), gE hi] at this
 obtain ⟨n, e, a, w, h1, h2⟩ := this
 rw [Option.getD_some] at h1
 rw [h1]
 exact tblN h2
theorem CopTs.snoc {l : List Tbl} {xs : List T} (h : CopTs l xs) (hl : xs.length < l.length) {y : T} (hy : IsTb (l.getD xs.length default) y) : CopTs l (xs ++ [y]) := by
 refine ⟨by rw [List.length_append, List.length_singleton]; omega, fun i hi => ?_⟩
 rw [List.length_append, List.length_singleton] at hi
 by_cases e : i < xs.length
 . rw [gD (l := xs ++ [y]), List.getElem?_append_left e, <- gD]
   exact h.2 i e
 . have : i = xs.length := by omega
   subst this
   rw [gD (l := xs ++ [y]), List.getElem?_concat_length]
   exact hy
theorem CopTs.isTs {l : List Tbl} {xs : List T} (h : CopTs l xs) (hl : xs.length = l.length) : IsTs l (.sl false 4 xs) := .inr ⟨false, xs, rfl, hl, fun i hi => h.2 i (by omega)⟩
theorem t2st (x y : T) : T.tup? (List.length [9, 36]) (.tup [x, y]) = some [x, y] := rfl
theorem scsi (s : List UInt8) (z : Int) : T.scalar (.tup [.str s, .int .i64 z]) = true := rfl
theorem iEq_self (z : Int) : iEq z z = true := by simp [iEq]
theorem sEq_self (s : List UInt8) : sEq s s = true := by simp [sEq]
section
variable {l : List Tbl} {q : T} (h : IsTs l q) (hl : l.length <= 10) (hth : ∀ i, i < l.length -> thinB (l.getD i default) = true)
variable {s : Sh} {p : T} (hx : IsSh 6 s (shT s.kind s.name p)) (p1 : p.one = true) (ht : thB 6 s = true) (haw : fnO acfg 5 [] = some (.bool true))
include h hl hth hx p1 ht
theorem facts {q' : T} (h' : IsTs l q') : ∃ y : T, y.one = true /\ fnO acfg 8 [shT s.kind s.name p] = some (shT s.kind s.name y) /\ fnO acfg 9 [q', shT s.kind s.name y] = some (.int .i64 (csE l 6 s)) ∧
  fnO acfg 10 [shT s.kind s.name y] = some (.tup [.str (txtE 6 s).1, .int .i64 (txtE 6 s).2]) /\ fnO acfg 11 [shT s.kind s.name p] = some (.tup [.str (txtE 6 s).1, .int .i64 (txtE 6 s).2]) ∧
  fnO acfg 12 [q, shT s.kind s.name p] = some (.int .i64 (csE l 6 s)) /\ fnO acfg 13 [shT s.kind s.name y, shT s.kind s.name p] = some (.bool true) := by
 have hs := thin_small 6 s ht 6
 obtain ⟨z, hz1, hz2⟩ := copyS_spec 6 s _ hx hs
 obtain ⟨d', y, e, rfl, hk⟩ := hz2.open
 exact ⟨y, hk.one, hz1, checkShapeP_spec h' (by omega) hth hz2 ht, shapeTextP_spec (by omega) hz2 ht fun hf => textSP_spec 6 (by omega) 6 s _ hz2 ht hf, shapeTextR_spec (by omega) hx ht,
  checkShapeR_spec h (by omega) hth hx ht, sameS_spec 6 s _ _ hz2 hx hs⟩
omit hth hx p1 ht in
include haw in
theorem same4 {xs : List T} (hc : CopTs l xs) (hxl : xs.length = l.length) (hsm : ∀ i, i < l.length -> Small (l.getD i default)) (g : Nat) : ∀ i, i <= l.length -> L3_4 q g 0 l.length (i : Int) g (cellsN xs) = some (.bool true) := by
 refine upto_induct ?_ fun i hi ih => ?_
 . apply L3_4_step
   simp only [h.len, oS, iLt_end, cond_false, haw, scalar_bool, cond_true, bool?_bool]
 . obtain ⟨n, e, a, w, h1, h2⟩ := h.at hi
   obtain ⟨n', e', a', w', h3, h4⟩ := hc.2 i (by omega)
   have hr := rowS_N hc.all (i := i) (by omega)
   rw [h3] at hr
   have hin : rowIn (i : Int) l.length = true := decide_eq_true ⟨by omega, by omega⟩
   have hsame := sameTable_spec h4 h2 (hsm i hi)
   apply L3_4_step
   simp only [h.len, oS, iLt_len hi, cond_true, hin, natEq_self, hr, agg4, nth0, nth1, nth2, nth3, str?_str, h1, h2.d4, hsame, scalar_bool, bool?_bool, bNot, Bool.not_true, cond_false, objBd_N _ _ _ _ hc.all, iAdd_nat (show i < 1000000 by omega), ih]
end
section
variable {l : List Tbl} {q : T} (h : IsTs l q) (hl : l.length <= 10)
variable {s : Sh} {p : T} (hx : IsSh 6 s (shT s.kind s.name p)) (p1 : p.one = true) (ht : thB 6 s = true) (haw : fnO acfg 5 [] = some (.bool true))
include h hl hx p1 ht haw
theorem copies : ∀ i, i <= l.length -> ∀ (xs : List T) (g : Nat), xs.length = i -> CopTs l xs -> (∀ j, j < i -> thinB (l.getD j default) = true) -> L3_2 q s.kind s.name p g 0 i (i : Int) g (cellsN xs) = some (.bool true) := by
 refine upto_induct ?_ fun i hi ih => ?_
 . intro xs g hxl hc hth
   obtain ⟨y, y1, f8, f9, f10, f11, f12, f13⟩ := facts h hl hth hx p1 ht (hc.isTs hxl)
   have hrow := rowT_N hc.all
   rw [hxl] at hrow
   have k4 := same4 h hl haw hc hxl (fun i hi => small_of_thin (hth i hi)) g 0 (Nat.zero_le _)
   rw [Int.natCast_zero] at k4
   apply L3_2_step
   simp only [h.len, oS, iLt_end, cond_false, sh_d p1, agg3, nth30, nth31, nth32, int?_int, str?_str, f8, sh_v y1, cond_true, sh_d y1, natEq_self, hrow, f9, scalar_int, f10, scsi, t2st, nt0, nt1, f11, f12, iEq_self, sEq_self, bNot, Bool.not_true, f13, scalar_bool, bool?_bool, objBd_N _ _ _ _ hc.all, k4]
 . intro xs g hxl hc hth
   obtain ⟨n, e, a, w, h1, h2⟩ := h.at hi
   cases htn : thinB (l.getD i default) with
   | false =>
    apply L3_2_step
    simp only [h.len, oS, iLt_len hi, cond_true, h1, h2.d4, agg4, nth0, nth1, nth2, nth3, str?_str, thin_spec h2, htn, scalar_bool, bool?_bool, bNot, Bool.not_false, haw]
   | true =>
    obtain ⟨e', a', w', c1, c2⟩ := copy_spec h2 (small_of_thin htn)
    have hsn : CopTs l (xs ++ [tblT n e' a' w']) := hc.snoc (by omega) (by rw [hxl]; exact ⟨n, e', a', w', rfl, c2⟩)
    have hap := appOK_N hc.all (by omega) (tblT n e' a' w') (bytes := 88) (by rw [maxB, hxl]; omega)
    rw [hxl] at hap
    have hi2 := ih (xs ++ [tblT n e' a' w']) (g + 1) (by rw [List.length_append, hxl]; rfl) hsn fun j hj => by
     by_cases e : j = i
     . rw [e]; exact htn
     . exact hth j (by omega)
    apply L3_2_step
    simp only [h.len, oS, iLt_len hi, cond_true, h1, h2.d4, agg4, nth0, nth1, nth2, nth3, str?_str, thin_spec h2, htn, scalar_bool, bool?_bool, bNot, Bool.not_true, cond_false, c1, c2.v4, natEq_self, hap, appCs_N, appGen_one, appLen_one, objBd_N _ _ _ _ hsn.all, iAdd_nat (show i < 1000000 by omega), hi2]
theorem shapes1 : L3_1 q s.kind s.name p 0 = some (.bool true) := by
 by_cases h0 : l.length = 0
 . have hth : ∀ i, i < l.length -> thinB (l.getD i default) = true := fun i hi => by omega
   have hnil : l = [] := List.eq_nil_of_length_eq_zero h0
   obtain ⟨y, y1, f8, f9, f10, f11, f12, f13⟩ := facts h hl hth hx p1 ht (q' := .nils) (.inl ⟨hnil, rfl⟩)
   have hlen : lenT q = some 0 := by have := h.len; rw [h0] at this; exact this
   have k3 : L3_3 q 0 = some (.bool true) := by
    apply L3_3_step
    simp only [hlen, oS, show iLt 0 0 = false from rfl, cond_false, haw, scalar_bool, cond_true, bool?_bool]
   apply L3_1_step
   simp only [hlen, oS, show iLt 0 0 = false from rfl, cond_false, sh_d p1, agg3, nth30, nth31, nth32, int?_int, str?_str, f8, sh_v y1, cond_true, sh_d y1, f9, scalar_int, f10, scsi, t2st, nt0, nt1, f11, f12, iEq_self, sEq_self, bNot, Bool.not_true, f13, scalar_bool, bool?_bool, k3]
 . have hi : 0 < l.length := by omega
   have hlt : iLt 0 (l.length : Int) = true := iLt_len hi
   obtain ⟨n, e, a, w, h1, h2⟩ := h.at hi
   rw [Int.natCast_zero] at h1
   cases htn : thinB (l.getD 0 default) with
   | false =>
    apply L3_1_step
    simp only [h.len, oS, hlt, cond_true, h1, h2.d4, agg4, nth0, nth1, nth2, nth3, str?_str, thin_spec h2, htn, scalar_bool, bool?_bool, bNot, Bool.not_false, haw]
   | true =>
    obtain ⟨e', a', w', c1, c2⟩ := copy_spec h2 (small_of_thin htn)
    have hsn : CopTs l [tblT n e' a' w'] := ⟨by simp; omega, fun i hi => by
     have : i = 0 := by simpa using hi
     subst this
     exact ⟨n, e', a', w', rfl, c2⟩⟩
    have k2 := copies h hl hx p1 ht haw 1 (by omega) [tblT n e' a' w'] 1 rfl hsn fun j hj => by
     have : j = 0 := by omega
     subst this
     exact htn
    have hadd : iAdd .i64 0 1 = ((1 : Nat) : Int) := rfl
    apply L3_1_step
    simp only [h.len, oS, hlt, cond_true, h1, h2.d4, agg4, nth0, nth1, nth2, nth3, str?_str, thin_spec h2, htn, scalar_bool, bool?_bool, bNot, Bool.not_true, cond_false, c1, c2.v4, rowNew_N, hadd, k2]
end
theorem all_shapes {l : List Tbl} {q : T} (h : IsTs l q) {d : Nat} {s : Sh} {x : T} (hx : IsSh d s x) (haw : fnO acfg 5 [] = some (.bool true)) : fnO acfg 3 [q, x] = some (.bool true) := by
 have h4 : fnO acfg 4 [x, .int .i64 6] = some (.bool (thB 6 s)) := thinS_spec 6 (by omega) d s x hx
 have hx6 : thB 6 s = true -> IsSh 6 s x := fun ht => thin_few 6 d s x hx ht
 obtain ⟨d', p, e, rfl, hk⟩ := hx.open
 have e10 : iLt 10 (l.length : Int) = decide (10 < l.length) := iLt_nat 10 _
 apply fn3
 simp only [sh_v hk.one, cond_true, h.len, oS, e10, haw, scalar_bool, bool?_bool, sh_d hk.one, agg3, nth30, nth31, nth32, int?_int, str?_str, h4]
 by_cases c1 : 10 < l.length
 . simp [c1]
 . cases ht : thB 6 s with
   | false => simp [c1, bNot]
   | true => simp [c1, bNot, shapes1 h (by omega) (hx6 ht) hk.one ht haw]
end Go.Proofs.Tryz
