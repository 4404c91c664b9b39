import Derived.Test.YtcljaeknhmpecaaGreatApexA44
import Derived.Test.YtcljaeknhmpecaaGreatEqs
import Derived.Test.YtcljaeknhmpecaaGreatApexA49
set_option linter.all false
namespace Go.Apex
open Go
inductive IsSl (ts : List T) : T -> Prop
 | nil (h : ts = []) : IsSl ts .nils
 | sl (ex : Bool) : IsSl ts (.sl ex 1 ts)
variable {ts : List T} {x : T}
theorem IsSl.len (h : IsSl ts x) : lenT x = some (ts.length : Int) := by
 cases h with
 | nil h => subst h; rfl
 | sl ex => rfl
theorem IsSl.one (h : IsSl ts x) : x.one = true := by cases h <;> rfl
theorem IsSl.idx (h : IsSl ts x) {i : Nat} {y : T} (hi : ts[i]? = some y) : idxT 1 x (i : Int) = some (.ptr y) := by
 cases h with
 | nil h => subst h; simp at hi
 | sl ex => simp [idxT, hi]
theorem IsSl.take (h : IsSl ts x) {i : Nat} (hi : i <= ts.length) : ∃ y, subT 1 x none (some (i : Int)) none = some y /\ IsSl (ts.take i) y := by
 cases h with
 | nil h =>
  subst h
  have : i = 0 := by simpa using hi
  subst this
  exact ⟨.nils, by simp [subT], .nil (by simp)⟩
 | sl ex => exact ⟨.sl (ex && ((i : Int) == ts.length)) 1 (ts.take i), by simp [subT, hi], .sl _⟩
theorem deref_one (h : x.one = true) : derefT none (.ptr x) = some x := by simp [derefT, T.fits, h]
theorem vfits_one (h : x.one = true) : vfits (.t x) none = true := h
theorem oneT_one (h : x.one = true) : oneT x = true := h
theorem deref_int (k : IntKind) (n : Int) : derefT none (.ptr (.int k n)) = some (.int k n) := rfl
theorem deref_bool (b : Bool) : derefT none (.ptr (.bool b)) = some (.bool b) := rfl
theorem deref_str (s : List UInt8) : derefT none (.ptr (.str s)) = some (.str s) := rfl
theorem deref_fn (f : Fn) (a b : List T) : derefT none (.ptr (.fn f a b)) = some (.fn f a b) := rfl
theorem int?_int (k : IntKind) (n : Int) : T.int? k (.int k n) = some n := by simp [T.int?]
theorem bool?_bool (b : Bool) : T.bool? (.bool b) = some b := rfl
theorem str?_str (s : List UInt8) : T.str? (.str s) = some s := rfl
theorem scalar_bool (b : Bool) : T.scalar (.bool b) = true := rfl
theorem scalar_int (k : IntKind) (n : Int) : T.scalar (.int k n) = true := rfl
theorem iAdd_nat {i : Nat} (h : i < 1000000) : iAdd .i64 (i : Int) 1 = ((i + 1 : Nat) : Int) := by
 rw [iAdd_i64] <;> omega
theorem bif_eq {α : Sort _} (c : Bool) (a b : α) : (bif c then a else b) = if c = true then a else b := by cases c <;> rfl
theorem IsSl.idxD {α : Type} {g : α -> T} {l : List α} (h : IsSl (l.map g) x) (d : α) {i : Nat} (hi : i < l.length) : idxT 1 x (i : Int) = some (.ptr (g (l.getD i d))) :=
 h.idx (by simp [gE hi, gD])
theorem IsSl.lenD {α : Type} {g : α -> T} {l : List α} (h : IsSl (l.map g) x) : lenT x = some (l.length : Int) := by rw [h.len, List.length_map]
theorem IsSl.takeD {α : Type} {g : α -> T} {l : List α} (h : IsSl (l.map g) x) {i : Nat} (hi : i <= l.length) : ∃ y, subT 1 x none (some (i : Int)) none = some y /\ IsSl ((l.take i).map g) y := by
 rw [List.map_take]
 exact h.take (by rw [List.length_map]; exact hi)
theorem callT_scalar {cfg : Cfg} {f : FuncId} (hm : cfg.mode f = .scalar) {b xs : List T} {r : T} (h : fnO cfg f (xs ++ b) = some r) (hs : r.scalar = true) : callT cfg (.fn (.func f) [] b) xs = some r := by
 unfold callT
 simp only [hm, List.nil_append, h, oS, hs, if_true]
def upto (i n : Nat) : List Nat := List.range' i (n - i)
theorem upto_end {i n : Nat} (h : n <= i) : upto i n = [] := by
 unfold upto
 rw [show n - i = 0 from by omega]
 rfl
theorem upto_step {i n : Nat} (h : i < n) : upto i n = i :: upto (i + 1) n := by
 unfold upto
 rw [show n - i = (n - (i + 1)) + 1 from by omega]
 rfl
theorem mem_upto {i n j : Nat} : j ∈ upto i n ↔ i <= j /\ j < n := by
 unfold upto
 rw [List.mem_range'_1]
 omega
theorem upto_induct {n : Nat} {P : Nat -> Prop} (h0 : P n) (h1 : ∀ i, i < n -> P (i + 1) -> P i) : ∀ i, i <= n -> P i := by
 intro i hi
 have key : ∀ k i, i + k = n -> P i := by
  intro k
  induction k with
  | zero => intro i h; have : i = n := by omega
            subst this; exact h0
  | succ k ih => intro i h; exact h1 i (by omega) (ih (i + 1) (by omega))
 exact key (n - i) i (by omega)
def findI (p : Nat -> Bool) (i n : Nat) : Int := match (upto i n).find? p with | some j => (j : Int) | none => -1
theorem findI_end {p : Nat -> Bool} {i n : Nat} (h : n <= i) : findI p i n = -1 := by simp [findI, upto_end h]
theorem findI_step {p : Nat -> Bool} {i n : Nat} (h : i < n) : findI p i n = if p i = true then (i : Int) else findI p (i + 1) n := by
 simp only [findI, upto_step h, List.find?_cons]
 cases p i <;> simp
abbrev cellsT (ts : List T) : List V := ts.map V.t
def OneL (ts : List T) : Prop := ∀ x ∈ ts, x.one = true
theorem OneL.nil : OneL [] := fun _ h => by cases h
theorem OneL.cons {x : T} {ts : List T} (h : x.one = true) (h2 : OneL ts) : OneL (x :: ts) := fun y hy => by
 rcases List.mem_cons.1 hy with rfl | hy
 . exact h
 . exact h2 y hy
theorem OneL.app {ts us : List T} (h : OneL ts) (h2 : OneL us) : OneL (ts ++ us) := fun y hy => by
 rcases List.mem_append.1 hy with hy | hy
 . exact h y hy
 . exact h2 y hy
theorem OneL.map {α : Type} {g : α -> T} (h : ∀ a, (g a).one = true) (l : List α) : OneL (l.map g) := fun y hy => by
 obtain ⟨a, _, rfl⟩ := List.mem_map.1 hy
 exact h a
theorem cellsV_one {x : T} (h : x.one = true) : V.cells (.t x) = [.t x] := by cases x <;> first | rfl | (simp [T.one] at h)
theorem flat_one : ∀ {ts : List T}, OneL ts -> (cellsT ts).flatMap V.cells = cellsT ts
 | [], _ => rfl
 | x :: ts, h => by
  simp only [List.map_cons, List.flatMap_cons, cellsV_one (h x (by simp)), flat_one (ts := ts) fun y hy => h y (by simp [hy])]
  rfl
theorem rowNew_one {xs ys : List T} (h : OneL xs) (h2 : OneL ys) : rowNew xs (cellsT ys) = cellsT (xs ++ ys) := by
 unfold rowNew
 rw [<- List.map_append]
 exact flat_one (h.app h2)
theorem appCs_one {cs ys : List T} {off : Nat} (h2 : OneL ys) (hne : ys ≠ []) : appCs (cellsT cs) off (cellsT ys) = cellsT (cs.drop off ++ ys) := by
 unfold appCs
 have : (cellsT ys).isEmpty = false := by cases ys <;> simp_all
 rw [this]
 simp only [cond_false]
 rw [flat_one h2]
 simp [List.map_drop]
theorem appOK_row {cs : List T} {off len bytes : Nat} {ys : List T} (hl : off + len = cs.length) (hs : (len + ys.length) * (bytes + 1) <= maxBytes) : appOK (cellsT cs) off len 1 (cellsT ys) bytes = true := by
 unfold appOK
 cases ys with
 | nil => rfl
 | cons y ys =>
  have h1 : (len + (y :: ys).length) * (bytes + 1) = (len + (y :: ys).length) * bytes + (len + (y :: ys).length) := Nat.mul_succ _ _
  have e : (decide (¬ off + (len + (cellsT (y :: ys)).length) * 1 <= (cellsT cs).length /\ off + len * 1 = (cellsT cs).length /\ len + (cellsT (y :: ys)).length <= maxBytes /\ (len + (cellsT (y :: ys)).length) * bytes <= maxBytes)) = true := by
   simp only [List.length_map]
   refine decide_eq_true ⟨?_, by omega, by omega, by omega⟩
   simp only [List.length_cons]
   omega
  rw [e, Bool.or_true]
theorem bdL_cells (n : Nat) : ∀ ts : List T, V.bdL n (cellsT ts) = true
 | [] => rfl
 | x :: ts => by
  show (V.bd n (.t x) && V.bdL n (cellsT ts)) = true
  rw [bdL_cells n ts]
  rfl
theorem objBd_cells (n g e : Nat) (b : Bool) (ts : List T) : objBd n (.cells g e b (cellsT ts)) = true := bdL_cells n ts
theorem allT_cells : ∀ ts : List T, allT (cellsT ts) = some ts
 | [] => rfl
 | x :: ts => by
  have := allT_cells ts
  unfold allT at this ⊢
  simp only [List.map_cons, mapO, toT, oS, this]
theorem elemsFrom_cells : ∀ (len off : Nat) (ts : List T), off + len <= ts.length -> elemsFrom none (cellsT ts) off len = some (cellsT ((ts.drop off).take len))
 | 0, off, ts, _ => by simp [elemsFrom]
 | len + 1, off, ts, h => by
  have hx : (cellsT ts)[off]? = some (.t (ts[off]'(by omega))) := by
   rw [List.getElem?_map, gE (by omega)]
   rfl
  have ih := elemsFrom_cells len (off + 1) ts (by omega)
  simp only [elemsFrom, shPart, hx, oS, shSize, Option.getD_none, ih]
  rw [List.drop_eq_getElem_cons (show off < ts.length by omega)]
  rfl
theorem rowT_cells {ts : List T} (h : OneL ts) {off len : Nat} (hl : off + len <= ts.length) : rowT none (cellsT ts) off len = some ((ts.drop off).take len) := by
 unfold rowT
 rw [elemsFrom_cells len off ts hl]
 simp only [oS, allT_cells]
 rw [if_pos]
 rw [List.all_eq_true]
 intro x hx
 exact h x (List.mem_of_mem_drop (List.mem_of_mem_take hx))
theorem rowT_all {ts : List T} (h : OneL ts) : rowT none (cellsT ts) 0 ts.length = some ts := by
 rw [rowT_cells h (by omega)]
 simp
theorem rowS_cells {ts : List T} {off : Nat} {y : T} (h : ts[off]? = some y) : rowS none (cellsT ts) off = some y := by
 simp [rowS, shPart, h, toT]
theorem rowSet_cells {ts : List T} {off : Nat} {y : T} (h : off < ts.length) : rowSet (cellsT ts) off [.t y] = cellsT (ts.set off y) := by
 unfold rowSet setRange
 rw [<- List.map_take, <- List.map_drop]
 rw [List.set_eq_take_append_cons_drop, if_pos h]
 simp
theorem elemsT_sl {ts : List T} {x : T} (h : IsSl ts x) (h1 : OneL ts) : elemsT none x = some (cellsT ts) := by
 cases h with
 | nil h => subst h; rfl
 | sl ex =>
  show (if 1 = shSize none /\ (ts.all fun x => x.fits none) = true then some (cellsT ts) else none) = _
  rw [if_pos ⟨rfl, List.all_eq_true.2 fun x hx => h1 x hx⟩]
theorem newOK_small {n m bytes : Nat} (h : (n + m) * (bytes + 1) <= maxBytes) : newOK n m bytes = true := by
 have h1 : (n + m) * (bytes + 1) = (n + m) * bytes + (n + m) := Nat.mul_succ _ _
 exact decide_eq_true ⟨by omega, by omega⟩
theorem appGen_one (g : Nat) (y : V) : appGen g [y] = g + 1 := rfl
theorem appLen_one (len : Nat) (y : V) : appLen len [y] = len + 1 := rfl
theorem natEq_self (n : Nat) : natEq n n = true := Nat.beq_refl n
theorem maxB : (maxBytes : Nat) = 140737488355328 := rfl
theorem appT_nil {ys : List T} (h : OneL ys) {bytes : Nat} (hs : ys.length * (bytes + 1) <= maxBytes) : ∃ y, appT none 1 bytes (.sl true 1 []) (cellsT ys) = some y /\ IsSl ys y := by
 unfold appT
 have hb : baseT none 1 (.sl true 1 []) = some [] := rfl
 rw [hb]
 simp only [oS]
 cases ys with
 | nil => exact ⟨_, rfl, .sl true⟩
 | cons y ys =>
  have h1 : newOK ([] : List T).length (cellsT (y :: ys)).length bytes = true := newOK_small (by rw [List.length_map, List.length_nil, Nat.zero_add]; exact hs)
  have e : (cellsT (y :: ys)).isEmpty = false := rfl
  rw [e, h1]
  simp only [cond_false, cond_true]
  rw [rowNew_one OneL.nil h]
  unfold rowTree
  have hl : lenNew ([] : List T) (cellsT (y :: ys)) = (y :: ys).length := by simp [lenNew]
  rw [hl, elemsFrom_cells _ 0 _ (by simp)]
  simp only [oS, allT_cells, List.nil_append, List.drop_zero, List.take_length]
  have hall : ((y :: ys).all fun x => x.fits none) = true := List.all_eq_true.2 fun x hx => h x hx
  rw [if_pos hall]
  exact ⟨_, rfl, .sl false⟩
end Go.Apex

open Go Go.Apex
namespace Go.Proofs.Tryz
def okAt (c : Int) (i : Nat) : Bool := (iLe 97 c && iLe c 122) || (iLe 48 c && iLe c 57 && !iEq (i : Int) 0)
def okB (s : List UInt8) (i : Nat) : Bool := match s[i]? with | some c => okAt (c.toNat : Int) i | none => true
def isNameB (s : List UInt8) : Bool := (upto 0 s.length).all (okB s) && decide (0 < s.length) && decide (s.length <= 12)
theorem okB_eq {s : List UInt8} {i : Nat} (hi : i < s.length) : okB s i = okAt ((s[i]'hi).toNat : Int) i := by simp [okB, hi]
theorem iLt_len {i n : Nat} (h : i < n) : iLt (i : Int) (n : Int) = true := by simp [iLt]; omega
theorem iLt_end {n : Nat} : iLt (n : Int) (n : Int) = false := by simp [iLt]
theorem isName_loop (s : List UInt8) (hs : s.length < 1000000) : ∀ i, i <= s.length -> L57_1 s (sLen s) (i : Int) = some (.bool ((upto i s.length).all (okB s) && decide (0 < s.length) && decide (s.length <= 12))) := by
 refine upto_induct ?_ fun i hi ih => ?_
 . apply L57_1_step
   have e1 : iLt 0 (s.length : Int) = decide (0 < s.length) := by unfold iLt; exact decide_eq_decide.2 (by omega)
   have e2 : iLe (s.length : Int) 12 = decide (s.length <= 12) := by unfold iLe; exact decide_eq_decide.2 (by omega)
   simp only [sLen, iLt_end, cond_false, upto_end (Nat.le_refl _), List.all_nil, e1, e2]
   cases decide (0 < s.length) <;> simp
 . apply L57_1_step
   have ih' := ih
   simp only [sLen] at ih'
   simp only [sLen, iLt_len hi, cond_true, byteAt_eq hi, oS, iAdd_nat (show i < 1000000 by omega), ih', upto_step hi, List.all_cons, okB_eq hi, okAt]
   generalize ((s[i].toNat : Nat) : Int) = c
   cases iLe 97 c <;> cases iLe c 122 <;> cases iLe 48 c <;> cases iLe c 57 <;> cases iEq (i : Int) 0 <;> simp [bNot]
theorem isName_spec (s : List UInt8) (hs : s.length < 1000000) : fnO acfg 57 [.str s] = some (.bool (isNameB s)) :=
 fn57 s _ (isName_loop s hs 0 (by omega))
theorem in_spec (a b c : Int) : fnO acfg 73 [.int .i64 a, .int .i64 b, .int .i64 c] = some (.bool (decide (b <= a) && decide (a <= c))) := by
 apply fn73
 simp only [bif_eq, iLe_iff, iLe]
 by_cases h : b <= a <;> simp [h]
theorem refName_loop (s : List UInt8) (hs : s.length < 1000000) (h0 : ∀ c, s[0]? = some c -> (iLe 97 (c.toNat : Int) && iLe (c.toNat : Int) 122) = true) : ∀ i, i <= s.length -> L74_1 s (i : Int) = some (.bool ((upto i s.length).all (okB s))) := by
 refine upto_induct ?_ fun i hi ih => ?_
 . apply L74_1_step
   simp only [sLen, iLt_end, cond_false, upto_end (Nat.le_refl _), List.all_nil]
 . apply L74_1_step
   simp only [sLen, iLt_len hi, cond_true, byteAt_eq hi, oS, iAdd_nat (show i < 1000000 by omega), ih, upto_step hi, List.all_cons, okB_eq hi, okAt]
   have h00 : i = 0 -> (iLe 97 ((s[i].toNat : Nat) : Int) && iLe ((s[i].toNat : Nat) : Int) 122) = true := fun e => by subst e; exact h0 _ (by simp [hi])
   have hz : iEq (i : Int) 0 = true -> i = 0 := fun h => by have := iEq_iff.1 h; omega
   revert h00 hz
   generalize ((s[i].toNat : Nat) : Int) = c
   generalize (upto (i + 1) s.length).all (okB s) = rest
   cases iLe 97 c <;> cases iLe c 122 <;> cases iLe 48 c <;> cases iLe c 57 <;> cases iEq (i : Int) 0 <;> simp [bNot]
   all_goals (intro h1 h2; exact absurd h2 h1)
theorem refName_spec (s : List UInt8) (hs : s.length < 1000000) : fnO acfg 74 [.str s] = some (.bool (isNameB s)) := by
 apply fn74
 simp only [in_spec, oS, scalar_bool, bool?_bool, cond_true, sLen, isNameB]
 by_cases h1 : 1 <= s.length /\ s.length <= 12
 . have e1 : (decide ((1 : Int) <= s.length) && decide ((s.length : Int) <= 12)) = true := by simp; omega
   have hb : byteAt s 0 = some (((s[0]'h1.1).toNat : Nat) : Int) := byteAt_eq h1.1
   simp only [e1, bNot, Bool.not_true, cond_false, hb, oS]
   cases h97 : iLt (((s[0]'h1.1).toNat : Nat) : Int) 97 with
   | true =>
    simp only [cond_true]
    rw [upto_step h1.1, List.all_cons, okB_eq h1.1]
    have : iLe 97 (((s[0]'h1.1).toNat : Nat) : Int) = false := by simp [iLt, iLe] at h97 ⊢; omega
    simp [okAt, this, iEq]
   | false =>
    simp only [cond_false]
    cases h122 : iLt 122 (((s[0]'h1.1).toNat : Nat) : Int) with
    | true =>
     simp only [cond_true]
     rw [upto_step h1.1, List.all_cons, okB_eq h1.1]
     have : iLe (((s[0]'h1.1).toNat : Nat) : Int) 122 = false := by simp [iLt, iLe] at h122 ⊢; omega
     simp [okAt, this, iEq]
    | false =>
     simp only [cond_false]
     have := refName_loop s hs (fun c hc => by
      have : c = s[0]'h1.1 := by
       rw [gE h1.1] at hc
       exact (Option.some.inj hc).symm
      subst this
      simp [iLt, iLe] at h97 h122 ⊢
      omega) 0 (by omega)
     simp only [Int.ofNat_zero, Int.natCast_zero] at this
     rw [this]
     have e2 : decide (0 < s.length) = true := decide_eq_true h1.1
     have e3 : decide (s.length <= 12) = true := decide_eq_true h1.2
     rw [e2, e3, Bool.and_true, Bool.and_true]
 . have e1 : (decide ((1 : Int) <= s.length) && decide ((s.length : Int) <= 12)) = false := by simp; omega
   simp only [e1, bNot, Bool.not_false, cond_true]
   have : (decide (0 < s.length) && decide (s.length <= 12)) = false := by simp; omega
   rw [Bool.and_assoc, this, Bool.and_false]
theorem find_loop {x : T} {l : List (List UInt8)} (hx : IsSl (l.map .str) x) (s : List UInt8) (hl : l.length < 1000000) : ∀ i, i <= l.length -> L75_1 x s (i : Int) = some (.int .i64 (findI (fun j => l[j]? == some s) i l.length)) := by
 refine upto_induct ?_ fun i hi ih => ?_
 . apply L75_1_step
   simp only [hx.len, List.length_map, oS, bif_eq, iLt_iff, findI_end (Nat.le_refl _)]
   rw [if_neg (by omega)]
 . apply L75_1_step
   have hg : l[i]? = some l[i] := gE hi
   have hidx : idxT 1 x (i : Int) = some (.ptr (.str l[i])) := hx.idx (by simp [hg])
   simp only [hx.len, List.length_map, oS, bif_eq, iLt_iff, findI_step hi, hidx, deref_str, str?_str, sEq_iff, iAdd_nat (show i < 1000000 by omega), ih]
   rw [if_pos (by omega)]
   simp only [hg, beq_iff_eq, oI]
   split <;> rfl
theorem find_spec {x : T} {l : List (List UInt8)} (hx : IsSl (l.map .str) x) (s : List UInt8) (hl : l.length < 1000000) : fnO acfg 75 [x, .str s] = some (.int .i64 (findI (fun j => l[j]? == some s) 0 l.length)) :=
 fn75 x s _ (find_loop hx s hl 0 (by omega))
theorem index_loop {x : T} {l : List (List UInt8)} (hx : IsSl (l.map .str) x) (s : List UInt8) (hl : l.length < 1000000) : ∀ i, i <= l.length -> L97_1 x s (l.length : Int) (i : Int) = some (.int .i64 (findI (fun j => l[j]? == some s) i l.length)) := by
 refine upto_induct ?_ fun i hi ih => ?_
 . apply L97_1_step
   simp only [bif_eq, iLt_iff, findI_end (Nat.le_refl _)]
   rw [if_neg (by omega)]
 . apply L97_1_step
   have hg : l[i]? = some l[i] := gE hi
   have hidx : idxT 1 x (i : Int) = some (.ptr (.str l[i])) := hx.idx (by simp [hg])
   simp only [oS, bif_eq, iLt_iff, findI_step hi, hidx, deref_str, str?_str, sEq_iff, iAdd_nat (show i < 1000000 by omega), ih]
   rw [if_pos (by omega)]
   simp only [hg, beq_iff_eq, oI]
   split <;> rename_i h
   . rw [if_pos h.symm]
   . rw [if_neg (Ne.symm h)]
theorem contains_spec {x : T} {l : List (List UInt8)} (hx : IsSl (l.map .str) x) (s : List UInt8) (hl : l.length < 1000000) : fnO acfg 58 [x, .str s] = some (.bool (decide (s ∈ l))) := by
 apply fn58
 have : fnO acfg 97 [x, .str s] = some (.int .i64 (findI (fun j => l[j]? == some s) 0 l.length)) := by
  apply fn97
  simp only [hx.len, List.length_map, oS]
  exact index_loop hx s hl 0 (by omega)
 simp only [this, oS, scalar_int, int?_int, bif_eq, if_true, oI, T.bool.injEq]
 unfold findI iLe
 cases hf : (upto 0 l.length).find? (fun j => l[j]? == some s) with
 | some j =>
  have h1 := List.find?_some hf
  simp only [beq_iff_eq] at h1
  have hm : s ∈ l := List.mem_of_getElem? h1
  simp [hm]
 | none =>
  have hm : s ∉ l := fun hm => by
   obtain ⟨j, hj, he⟩ := List.getElem_of_mem hm
   have := List.find?_eq_none.1 hf j (mem_upto.2 ⟨by omega, hj⟩)
   simp [hj, he] at this
  simp [hm]
end Go.Proofs.Tryz

open Go Go.Apex
namespace Go.Proofs.Tryz
structure Tbl where
 name : List UInt8
 elems : List (List UInt8)
 above : List (List Int)
 wrong : List Bool
abbrev ints (l : List Int) : List T := l.map (T.int .i64)
structure IsTbl (t : Tbl) (n : List UInt8) (e a w : T) : Prop where
 n : n = t.name
 e : IsSl (t.elems.map .str) e
 a : ∃ rows : List T, IsSl rows a /\ rows.length = t.above.length /\ ∀ i, i < t.above.length -> IsSl (ints (t.above.getD i [])) (rows.getD i .nils)
 w : IsSl (t.wrong.map .bool) w
structure Small (t : Tbl) : Prop where
 n : t.name.length < 1000000
 e : t.elems.length < 1000000
 es : ∀ s ∈ t.elems, s.length < 1000000
 a : t.above.length < 1000000
 al : ∀ l ∈ t.above, l.length < 1000000
 w : t.wrong.length < 1000000
theorem fld_at {cs : List T} {off : Nat} {y : T} (h : cs[off]? = some y) (h1 : y.one = true) : fldT off none (.ptr (.agg cs)) = some (.ptr y) := by
 simp [fldT, partS, h, T.fits, h1]
section
variable {t : Tbl} {n : List UInt8} {e a w : T}
theorem IsTbl.a1 (h : IsTbl t n e a w) : a.one = true := by obtain ⟨rows, h1, _⟩ := h.a; exact h1.one
theorem IsTbl.f0 (_ : IsTbl t n e a w) : fldT 0 none (.ptr (tblT n e a w)) = some (.ptr (.str n)) := fld_at rfl rfl
theorem IsTbl.f1 (h : IsTbl t n e a w) : fldT 1 none (.ptr (tblT n e a w)) = some (.ptr e) := fld_at rfl h.e.one
theorem IsTbl.f2 (h : IsTbl t n e a w) : fldT 2 none (.ptr (tblT n e a w)) = some (.ptr a) := fld_at rfl h.a1
theorem IsTbl.f3 (h : IsTbl t n e a w) : fldT 3 none (.ptr (tblT n e a w)) = some (.ptr w) := fld_at rfl h.w.one
theorem IsTbl.d1 (h : IsTbl t n e a w) : derefT none (.ptr e) = some e := deref_one h.e.one
theorem IsTbl.d2 (h : IsTbl t n e a w) : derefT none (.ptr a) = some a := deref_one h.a1
theorem IsTbl.d3 (h : IsTbl t n e a w) : derefT none (.ptr w) = some w := deref_one h.w.one
theorem IsTbl.fits (h : IsTbl t n e a w) : (tblT n e a w).fits (some 4) = true := by
 show (true && (4 == 4) && ((T.str n).one && (e.one && (a.one && (w.one && true))))) = true
 rw [h.e.one, h.a1, h.w.one]
 rfl
theorem IsTbl.v4 (h : IsTbl t n e a w) : vfits (.t (tblT n e a w)) (some 4) = true := by
 show (true && (4 == 4) && ((T.str n).one && (e.one && (a.one && (w.one && true))))) = true
 rw [h.e.one, h.a1, h.w.one]
 rfl
theorem IsTbl.d4 (h : IsTbl t n e a w) : derefT (some 4) (.ptr (tblT n e a w)) = some (tblT n e a w) := by
 simp only [derefT, h.fits, if_true]
theorem IsTbl.len2 (h : IsTbl t n e a w) : lenT a = some (t.above.length : Int) := by obtain ⟨rows, h1, h2, _⟩ := h.a; rw [h1.len, h2]
theorem IsTbl.row (h : IsTbl t n e a w) {i : Nat} (hi : i < t.above.length) : ∃ r, idxT 1 a (i : Int) = some (.ptr r) /\ derefT none (.ptr r) = some r /\ IsSl (ints (t.above.getD i [])) r := by
 obtain ⟨rows, h1, h2, h3⟩ := h.a
 refine ⟨rows.getD i .nils, h1.idx (by rw [gD, gE (by omega)]; rfl), deref_one (h3 i hi).one, h3 i hi⟩
end
theorem agg4 (n : List UInt8) (e a w : T) : T.agg? (List.length D4) (tblT n e a w) = some [.str n, e, a, w] := rfl
theorem nth0 (x y z u : T) : nthT [x, y, z, u] 0 = x := rfl
theorem nth1 (x y z u : T) : nthT [x, y, z, u] 1 = y := rfl
theorem nth2 (x y z u : T) : nthT [x, y, z, u] 2 = z := rfl
theorem nth3 (x y z u : T) : nthT [x, y, z, u] 3 = u := rfl
theorem mode55 : acfg.mode 55 = .scalar := by kernel_rfl
theorem mode56 : acfg.mode 56 = .scalar := by kernel_rfl
theorem mode59 : acfg.mode 59 = .scalar := by kernel_rfl
theorem mode60 : acfg.mode 60 = .scalar := by kernel_rfl
theorem allInts_spec {x f : T} {l : List Int} (hx : IsSl (ints l) x) (hl : l.length < 1000000) {p : Nat -> Bool} (hf : ∀ i, i < l.length -> callT acfg f [.int .i64 i, .int .i64 (l.getD i 0)] = some (.bool (p i))) :
  fnO acfg 61 [x, f] = some (.bool ((upto 0 l.length).all p)) := by
 have key : ∀ i, i <= l.length -> L61_1 f x (l.length : Int) (i : Int) = some (.bool ((upto i l.length).all p)) := by
  refine upto_induct ?_ fun i hi ih => ?_
  . apply L61_1_step
    simp only [iLt_end, cond_false, upto_end (Nat.le_refl _), List.all_nil]
  . apply L61_1_step
    simp only [iLt_len hi, cond_true, hx.idxD 0 hi, oS, deref_int, int?_int, hf i hi, bool?_bool, iAdd_nat (show i < 1000000 by omega), ih, upto_step hi, List.all_cons]
    cases p i <;> simp [bNot]
 apply fn61
 simp only [hx.lenD, oS]
 exact key 0 (by omega)
theorem allStrs_spec {x f : T} {l : List (List UInt8)} (hx : IsSl (l.map .str) x) (hl : l.length < 1000000) {p : Nat -> Bool} (hf : ∀ i, i < l.length -> callT acfg f [.int .i64 i, .str (l.getD i [])] = some (.bool (p i))) :
  fnO acfg 63 [x, f] = some (.bool ((upto 0 l.length).all p)) := by
 have key : ∀ i, i <= l.length -> L63_1 f x (l.length : Int) (i : Int) = some (.bool ((upto i l.length).all p)) := by
  refine upto_induct ?_ fun i hi ih => ?_
  . apply L63_1_step
    simp only [iLt_end, cond_false, upto_end (Nat.le_refl _), List.all_nil]
  . apply L63_1_step
    simp only [iLt_len hi, cond_true, hx.idxD [] hi, oS, deref_str, str?_str, hf i hi, bool?_bool, iAdd_nat (show i < 1000000 by omega), ih, upto_step hi, List.all_cons]
    cases p i <;> simp [bNot]
 apply fn63
 simp only [hx.lenD, oS]
 exact key 0 (by omega)
theorem allRows_spec {t : Tbl} {n : List UInt8} {e a w f : T} (hx : IsTbl t n e a w) (hl : t.above.length < 1000000) {p : Nat -> Bool}
  (hf : ∀ i r, i < t.above.length -> IsSl (ints (t.above.getD i [])) r -> callT acfg f [.int .i64 i, r] = some (.bool (p i))) :
  fnO acfg 64 [a, f] = some (.bool ((upto 0 t.above.length).all p)) := by
 have key : ∀ i, i <= t.above.length -> L64_1 f a (t.above.length : Int) (i : Int) = some (.bool ((upto i t.above.length).all p)) := by
  refine upto_induct ?_ fun i hi ih => ?_
  . apply L64_1_step
    simp only [iLt_end, cond_false, upto_end (Nat.le_refl _), List.all_nil]
  . apply L64_1_step
    obtain ⟨r, h1, h2, h3⟩ := hx.row hi
    simp only [iLt_len hi, cond_true, h1, oS, h2, hf i r hi h3, bool?_bool, iAdd_nat (show i < 1000000 by omega), ih, upto_step hi, List.all_cons]
    cases p i <;> simp [bNot]
 apply fn64
 simp only [hx.len2, oS]
 exact key 0 (by omega)
def freshB (l : List (List UInt8)) (i : Nat) : Bool := isNameB (l.getD i []) && !decide (l.getD i [] ∈ l.take i)
def elemB (n : Nat) (l : List Int) (i : Nat) : Bool := decide (0 <= l.getD i 0) && decide (l.getD i 0 < n)
def greaterB (l : List Int) (i : Nat) : Bool := decide (i = 0) || decide (l.getD (i - 1) 0 < l.getD i 0)
def listB (n : Nat) (l : List Int) : Bool := (upto 0 l.length).all (elemB n l) && (upto 0 l.length).all (greaterB l)
def wordsL : List (List UInt8) := [[102, 108, 97, 103], [109, 97, 120], [115, 101, 116], [111, 110, 99, 101], [109, 97, 112], [112, 97, 105, 114]]
def tableNameB (s : List UInt8) : Bool := isNameB s && !decide (s ∈ wordsL)
def checkB (t : Tbl) : Bool :=
 tableNameB t.name && decide (1 <= t.elems.length) && decide (t.elems.length <= 12) && decide (t.above.length = t.elems.length) && decide (t.wrong.length = t.elems.length) &&
 (upto 0 t.elems.length).all (freshB t.elems) && (upto 0 t.above.length).all (fun i => listB t.elems.length (t.above.getD i []))
theorem isElem_spec (i b : Int) (n : Nat) : fnO acfg 55 [.int .i64 i, .int .i64 b, .ptr (.int .i64 (n : Int))] = some (.bool (decide (0 <= b) && decide (b < n))) := by
 apply fn55
 simp only [deref_int, oS, int?_int, bif_eq, iLe_iff, iLt]
 by_cases h : 0 <= b <;> simp [h]
theorem isFresh_spec {t : Tbl} {n : List UInt8} {e a w : T} (h : IsTbl t n e a w) (hs : Small t) {i : Nat} (hi : i < t.elems.length) :
  fnO acfg 56 [.int .i64 i, .str (t.elems.getD i []), .ptr (tblT n e a w)] = some (.bool (freshB t.elems i)) := by
 apply fn56
 have hm : t.elems.getD i [] ∈ t.elems := by
  rw [gD, gE hi]
  exact List.getElem_mem hi
 obtain ⟨y, hy, hy2⟩ := h.e.takeD (i := i) (by omega)
 have hc := contains_spec hy2 (t.elems.getD i []) (by rw [List.length_take]; have := hs.e; omega)
 simp only [isName_spec _ (hs.es _ hm), oS, scalar_bool, bool?_bool, cond_true, h.f1, h.d1, hy, hc, freshB]
 cases isNameB (t.elems.getD i []) <;> simp [bNot]
theorem isGreater_spec {x : T} {l : List Int} (hx : IsSl (ints l) x) (hl : l.length < 1000000) {i : Nat} (hi : i < l.length) : fnO acfg 60 [.int .i64 i, .int .i64 (l.getD i 0), .ptr x] = some (.bool (greaterB l i)) := by
 apply fn60
 by_cases h0 : i = 0
 . subst h0
   simp [iEq, greaterB]
 . have h1 : iEq (i : Int) 0 = false := by simp [iEq]; omega
   have h2 : iSub .i64 (i : Int) 1 = ((i - 1 : Nat) : Int) := by
    show IntKind.wrap .i64 ((i : Int) - 1) = _
    have := iAdd_i64 (a := (i : Int)) (b := -1) (by omega) (by omega)
    unfold iAdd at this
    rw [show (i : Int) - 1 = i + -1 from by omega, this]
    omega
   simp only [h1, cond_false, deref_one hx.one, oS, h2, hx.idxD 0 (show i - 1 < l.length by omega), deref_int, int?_int]
   simp [greaterB, h0, iLt]
theorem isList_spec {x : T} {l : List Int} (hx : IsSl (ints l) x) (hl : l.length < 1000000) (i n : Nat) : fnO acfg 59 [.int .i64 i, x, .ptr (.fn (.func 55) [] [.ptr (.int .i64 (n : Int))])] = some (.bool (listB n l)) := by
 apply fn59
 have h1 : fnO acfg 61 [x, .fn (.func 55) [] [.ptr (.int .i64 (n : Int))]] = some (.bool ((upto 0 l.length).all (elemB n l))) :=
  allInts_spec hx hl fun i hi => callT_scalar mode55 (isElem_spec i _ n) rfl
 have h2 : fnO acfg 61 [x, .fn (.func 60) [] [.ptr x]] = some (.bool ((upto 0 l.length).all (greaterB l))) :=
  allInts_spec hx hl fun i hi => callT_scalar mode60 (isGreater_spec hx hl hi) rfl
 simp only [vfits_one hx.one, cond_true, deref_one hx.one, oS, deref_fn, h1, scalar_bool, bool?_bool, h2, listB]
 cases (upto 0 l.length).all (elemB n l) <;> simp
theorem findKey_str (s : List UInt8) : ∀ (l : List (List UInt8)) (i : Nat), ∃ r, findKey (.str s) (l.map .str) i = some r /\ r.isSome = decide (s ∈ l) /\ ∀ j, r = some j -> i <= j /\ j < i + l.length
 | [], i => ⟨none, rfl, by simp, fun j h => by cases h⟩
 | k :: l, i => by
  obtain ⟨r, h1, h2, h3⟩ := findKey_str s l (i + 1)
  by_cases e : s = k
  . refine ⟨some i, ?_, by simp [e], fun j hj => by cases hj; simp⟩
    simp [findKey, keyEq, e]
  . refine ⟨r, ?_, by rw [h2]; simp [e], fun j hj => by have := h3 j hj; simp only [List.length_cons]; omega⟩
    simp [findKey, keyEq, e, h1]
def wordsT : T := .mp (wordsL.map .str) [.int .u8 1, .int .u8 2, .int .u8 3, .int .u8 4, .int .u8 6, .int .u8 7]
theorem words_eq : fnO acfg 70 [] = some wordsT := fnO_some.2 ⟨60, by kernel_rfl⟩
theorem words_look (s : List UInt8) : ∃ v b, lookT (some (T.int .u8 0)) wordsT (T.str s) = some (.int .u8 v, b) /\ b = decide (s ∈ wordsL) := by
 obtain ⟨r, h1, h2, h3⟩ := findKey_str s wordsL 0
 simp only [wordsT, lookT, h1, oS]
 cases r with
 | none => exact ⟨0, false, rfl, h2⟩
 | some j =>
  have hj : j < 6 := by have := (h3 j rfl).2; simpa [wordsL] using this
  match j, hj with
  | 0, _ => exact ⟨1, true, rfl, h2⟩
  | 1, _ => exact ⟨2, true, rfl, h2⟩
  | 2, _ => exact ⟨3, true, rfl, h2⟩
  | 3, _ => exact ⟨4, true, rfl, h2⟩
  | 4, _ => exact ⟨6, true, rfl, h2⟩
  | 5, _ => exact ⟨7, true, rfl, h2⟩
theorem tableName_spec (s : List UInt8) (hs : s.length < 1000000) : fnO acfg 62 [.str s] = some (.bool (tableNameB s)) := by
 apply fn62
 obtain ⟨v, b, h3, h4⟩ := words_look s
 simp only [words_eq, h3, oS, int?_int, isName_spec s hs, scalar_bool, bool?_bool, cond_true, tableNameB, h4]
 cases isNameB s <;> simp [bNot]
theorem check_spec {t : Tbl} {n : List UInt8} {e a w : T} (h : IsTbl t n e a w) (hs : Small t) : fnO acfg 24 [tblT n e a w] = some (.int .i64 (bif checkB t then 0 else 4)) := by
 apply fn24
 have hn := h.n
 subst hn
 have h55 : fnO acfg 63 [e, .fn (.func 56) [] [.ptr (tblT t.name e a w)]] = some (.bool ((upto 0 t.elems.length).all (freshB t.elems))) :=
  allStrs_spec h.e hs.e fun i hi => callT_scalar mode56 (isFresh_spec h hs hi) rfl
 have h56 : fnO acfg 64 [a, .fn (.func 59) [] [.ptr (.fn (.func 55) [] [.ptr (.int .i64 (t.elems.length : Int))])]] = some (.bool ((upto 0 t.above.length).all (fun i => listB t.elems.length (t.above.getD i [])))) :=
  allRows_spec h hs.a fun i r hi hr => callT_scalar mode59 (isList_spec hr (hs.al _ (by
   rw [gD, gE hi]; exact List.getElem_mem hi)) i _) rfl
 have v47 : vfits (.t (T.fn (Fn.func 55) [] [T.ptr (T.int IntKind.i64 (t.elems.length : Int))])) none = true := rfl
 have o47 : oneT (T.fn (Fn.func 55) [] [T.ptr (T.int IntKind.i64 (t.elems.length : Int))]) = true := rfl
 have oi : oneT (T.int IntKind.i64 (t.elems.length : Int)) = true := rfl
 simp only [h.v4, cond_true, h.f1, h.d1, h.f0, h.f2, h.d2, h.f3, h.d3, oS, h.e.lenD, oi, v47, o47, deref_str, str?_str, tableName_spec _ hs.n, scalar_bool, bool?_bool, deref_int, int?_int, h.len2, h.w.lenD, h55, h56]
 simp only [checkB]
 have e1 : iLt (t.elems.length : Int) 1 = !decide (1 <= t.elems.length) := by unfold iLt; by_cases h : 1 <= t.elems.length <;> simp [h] <;> omega
 have e2 : iLt 12 (t.elems.length : Int) = !decide (t.elems.length <= 12) := by unfold iLt; by_cases h : t.elems.length <= 12 <;> simp [h] <;> omega
 have e3 : iEq (t.above.length : Int) (t.elems.length : Int) = decide (t.above.length = t.elems.length) := by unfold iEq; rw [Bool.eq_iff_iff]; simp; omega
 have e4 : iEq (t.wrong.length : Int) (t.elems.length : Int) = decide (t.wrong.length = t.elems.length) := by unfold iEq; rw [Bool.eq_iff_iff]; simp; omega
 rw [e1, e2, e3, e4]
 cases tableNameB t.name <;> cases decide (1 <= t.elems.length) <;> cases decide (t.elems.length <= 12) <;> cases decide (t.above.length = t.elems.length) <;> cases decide (t.wrong.length = t.elems.length) <;>
  cases (upto 0 t.elems.length).all (freshB t.elems) <;> cases (upto 0 t.above.length).all (fun i => listB t.elems.length (t.above.getD i [])) <;> rfl
end Go.Proofs.Tryz

open Go Go.Apex
namespace Go.Proofs.Tryz
theorem wordsSl : IsSl (wordsL.map .str) (T.sl true 1 [(T.str [102, 108, 97, 103]), (T.str [109, 97, 120]), (T.str [115, 101, 116]), (T.str [111, 110, 99, 101]), (T.str [109, 97, 112]), (T.str [112, 97, 105, 114])]) := .sl true
theorem findI_neg {p : Nat -> Bool} {n : Nat} : decide (findI p 0 n < 0) = (upto 0 n).all fun j => !p j := by
 unfold findI
 cases hf : (upto 0 n).find? p with
 | none =>
  have := List.find?_eq_none.1 hf
  rw [show (decide ((-1 : Int) < 0)) = true from rfl]
  exact (List.all_eq_true.2 fun j hj => by simpa using this j hj).symm
 | some j =>
  have h1 := List.find?_some hf
  have h2 := List.mem_of_find?_eq_some hf
  have e : decide ((j : Int) < 0) = false := by simp
  simp only [e]
  refine Eq.symm ?_
  rw [List.all_eq_false]
  exact ⟨j, h2, by simp [h1]⟩
theorem refTableName_spec (s : List UInt8) (hs : s.length < 1000000) : fnO acfg 72 [.str s] = some (.bool (tableNameB s)) := by
 apply fn72
 have hw : fnO acfg 98 [] = some _ := fn98 _ rfl
 have hf := find_spec wordsSl s (by decide)
 simp only [refName_spec s hs, hw, hf, oS, scalar_bool, bool?_bool, cond_true, scalar_int, int?_int, tableNameB]
 have : iLt (findI (fun j => wordsL[j]? == some s) 0 wordsL.length) 0 = !decide (s ∈ wordsL) := by
  show decide (_ < _) = _
  rw [findI_neg]
  rw [Bool.eq_iff_iff]
  simp only [List.all_eq_true, mem_upto, Bool.not_eq_true', beq_eq_false_iff_ne, decide_eq_false_iff_not]
  constructor
  . intro h hm
    obtain ⟨j, hj, he⟩ := List.getElem_of_mem hm
    exact h j ⟨by omega, hj⟩ (by simp [hj, he])
  . intro h j hj he
    exact h (List.mem_of_getElem? he)
 rw [this]
 cases isNameB s <;> rfl
def refListB (n : Nat) (l : List Int) (k : Nat) : Bool := decide (0 <= l.getD k 0) && decide (l.getD k 0 <= (n : Int) - 1) && (decide (k = 0) || decide (l.getD (k - 1) 0 < l.getD k 0))
def refElemB (t : Tbl) (i : Nat) : Bool := isNameB (t.elems.getD i []) && decide (findI (fun j => t.elems[j]? == some (t.elems.getD i [])) 0 t.elems.length = (i : Int)) && (upto 0 (t.above.getD i []).length).all (refListB t.elems.length (t.above.getD i []))
theorem iSub_nat {i : Nat} (h : i < 1000000) (h0 : 1 <= i) : iSub .i64 (i : Int) 1 = ((i - 1 : Nat) : Int) := by
 have := iAdd_i64 (a := (i : Int)) (b := -1) (by omega) (by omega)
 unfold iAdd at this
 show IntKind.wrap .i64 ((i : Int) - 1) = _
 rw [show (i : Int) - 1 = i + -1 from by omega, this]
 omega
theorem getD_mem {α : Type} {l : List α} {i : Nat} (d : α) (h : i < l.length) : l.getD i d ∈ l := by
 rw [gD, gE h]; exact List.getElem_mem h
theorem refCheck_loop {t : Tbl} {n : List UInt8} {e a w : T} (h : IsTbl t n e a w) (hs : Small t) (hn : 1 <= t.elems.length) (ha : t.above.length = t.elems.length) :
  ∀ i, i <= t.elems.length -> L39_1 n e a w (t.elems.length : Int) (i : Int) = some (.int .i64 (bif (upto i t.elems.length).all (refElemB t) then 0 else 4)) := by
 refine upto_induct ?_ fun i hi ih => ?_
 . apply L39_1_step
   simp only [iLt_end, cond_false, upto_end (Nat.le_refl _), List.all_nil, cond_true]
 . obtain ⟨r, r1, r2, r3⟩ := h.row (i := i) (by omega)
   have hel := hs.e
   have hal := hs.al _ (getD_mem [] (show i < t.above.length by omega))
   have inner : ∀ k, k <= (t.above.getD i []).length -> L39_2 n e a w (t.elems.length : Int) (i : Int) (k : Int) =
     some (.int .i64 (bif (upto k (t.above.getD i []).length).all (refListB t.elems.length (t.above.getD i [])) then (bif (upto (i + 1) t.elems.length).all (refElemB t) then 0 else 4) else 4)) := by
    refine upto_induct ?_ fun k hk ihk => ?_
    . apply L39_2_step
      simp only [h.f2, h.d2, oS, r1, r2, r3.lenD, iLt_end, cond_false, upto_end (Nat.le_refl _), List.all_nil, cond_true, iAdd_nat (show i < 1000000 by omega), ih]
    . apply L39_2_step
      simp only [h.f2, h.d2, oS, r1, r2, r3.lenD, iLt_len hk, cond_true, r3.idxD 0 hk, deref_int, int?_int, in_spec, scalar_bool, bool?_bool, iAdd_nat (show k < 1000000 by omega), ihk, iSub_nat (show t.elems.length < 1000000 by omega) hn, upto_step hk, List.all_cons]
      have e1 : (((t.elems.length - 1 : Nat) : Int)) = (t.elems.length : Int) - 1 := by omega
      simp only [e1, refListB]
      by_cases h0 : k = 0
      . subst h0
        have e2 : iLt 0 ((0 : Nat) : Int) = false := rfl
        simp only [e2, cond_false]
        cases (decide (0 <= (t.above.getD i []).getD 0 0) && decide ((t.above.getD i []).getD 0 0 <= (t.elems.length : Int) - 1)) <;> simp [bNot]
      . have e2 : iLt 0 (k : Int) = true := by simp [iLt]; omega
        simp only [e2, cond_true, iSub_nat (show k < 1000000 by omega) (by omega), r3.idxD 0 (show k - 1 < _ by omega), deref_int, int?_int, oS]
        have e3 : iLe ((t.above.getD i []).getD k 0) ((t.above.getD i []).getD (k - 1) 0) = !decide ((t.above.getD i []).getD (k - 1) 0 < (t.above.getD i []).getD k 0) := by
         unfold iLe
         rw [Bool.eq_iff_iff]
         simp
        rw [e3]
        cases (decide (0 <= (t.above.getD i []).getD k 0) && decide ((t.above.getD i []).getD k 0 <= (t.elems.length : Int) - 1)) <;> cases decide ((t.above.getD i []).getD (k - 1) 0 < (t.above.getD i []).getD k 0) <;> simp [bNot, h0]
   apply L39_1_step
   have hf := find_spec h.e (t.elems.getD i []) hs.e
   have := inner 0 (by omega)
   simp only [Int.ofNat_zero, Int.natCast_zero] at this
   simp only [iLt_len hi, cond_true, h.f1, h.d1, oS, h.e.idxD [] hi, deref_str, str?_str, refName_spec _ (hs.es _ (getD_mem [] hi)), scalar_bool, bool?_bool, hf, scalar_int, int?_int, this, upto_step hi, List.all_cons]
   have e4 : iEq (findI (fun j => t.elems[j]? == some (t.elems.getD i [])) 0 t.elems.length) (i : Int) = decide (findI (fun j => t.elems[j]? == some (t.elems.getD i [])) 0 t.elems.length = (i : Int)) := by
    unfold iEq
    rw [Bool.eq_iff_iff]
    simp
   rw [e4]
   simp only [refElemB]
   cases isNameB (t.elems.getD i []) <;> cases decide (findI (fun j => t.elems[j]? == some (t.elems.getD i [])) 0 t.elems.length = (i : Int)) <;> cases (upto 0 (t.above.getD i []).length).all (refListB t.elems.length (t.above.getD i [])) <;> simp [bNot]
theorem fresh_find {l : List (List UInt8)} {i : Nat} (hi : i < l.length) : decide (findI (fun j => l[j]? == some (l.getD i [])) 0 l.length = (i : Int)) = !decide (l.getD i [] ∈ l.take i) := by
 have hg : l[i]? = some (l.getD i []) := by rw [gD, gE hi]; rfl
 unfold findI
 cases hf : (upto 0 l.length).find? (fun j => l[j]? == some (l.getD i [])) with
 | none =>
  have := List.find?_eq_none.1 hf i (mem_upto.2 ⟨by omega, hi⟩)
  rw [hg] at this
  exact absurd (beq_self_eq_true _) this
 | some j =>
  have h1 := List.find?_some hf
  simp only [beq_iff_eq] at h1
  obtain ⟨_, l1, l2, h2, h3⟩ := List.find?_eq_some_iff_append.1 hf
  have hlt : ∀ k, k < j -> l[k]? ≠ some (l.getD i []) := by
   intro k hk he
   have hjn := (mem_upto.1 (List.mem_of_find?_eq_some hf)).2
   have hk2 : k ∈ l1 := by
    have hm : k ∈ upto 0 l.length := mem_upto.2 ⟨by omega, by omega⟩
    rw [h2] at hm
    have hsort : (upto 0 l.length).Pairwise (· < ·) := by
     unfold upto
     exact List.pairwise_lt_range'
    rw [h2, List.pairwise_append] at hsort
    rcases List.mem_append.1 hm with hm | hm
    . exact hm
    . rcases List.mem_cons.1 hm with rfl | hm
      . omega
      . have := (List.pairwise_cons.1 hsort.2.1).1 k hm
        omega
   have := h3 k hk2
   rw [he] at this
   simp at this
  have hji : j <= i := Nat.le_of_not_lt fun hij => hlt i hij hg
  by_cases e : j = i
  . subst e
    have : l.getD j [] ∉ l.take j := fun hm => by
     obtain ⟨k, hk, hke⟩ := List.getElem_of_mem hm
     rw [List.length_take] at hk
     rw [List.getElem_take] at hke
     exact hlt k (by omega) (by rw [gE (by omega), hke])
    rw [decide_eq_false this]
    exact decide_eq_true rfl
  . have : l.getD i [] ∈ l.take i := List.mem_of_getElem? (i := j) (by rw [List.getElem?_take, if_pos (by omega)]; exact h1)
    have e2 : ¬ ((j : Int) = (i : Int)) := by omega
    rw [decide_eq_true this]
    exact decide_eq_false e2
theorem listB_eq (n : Nat) (l : List Int) : listB n l = (upto 0 l.length).all (refListB n l) := by
 unfold listB
 rw [Bool.eq_iff_iff]
 simp only [Bool.and_eq_true, List.all_eq_true, mem_upto, elemB, greaterB, refListB, Bool.or_eq_true, decide_eq_true_eq]
 constructor
 . rintro ⟨h1, h2⟩ k hk
   exact ⟨⟨(h1 k hk).1, by have := (h1 k hk).2; omega⟩, h2 k hk⟩
 . intro h
   exact ⟨fun k hk => ⟨(h k hk).1.1, by have := (h k hk).1.2; omega⟩, fun k hk => (h k hk).2⟩
theorem refCheck_spec {t : Tbl} {n : List UInt8} {e a w : T} (h : IsTbl t n e a w) (hs : Small t) : fnO acfg 39 [tblT n e a w] = some (.int .i64 (bif checkB t then 0 else 4)) := by
 apply fn39
 have hn := h.n
 subst hn
 simp only [h.v4, cond_true, h.f1, h.d1, h.f0, h.f2, h.d2, h.f3, h.d3, oS, h.e.lenD, deref_str, str?_str, refTableName_spec _ hs.n, scalar_bool, bool?_bool, in_spec, h.len2, h.w.lenD]
 have e1 : (decide ((1 : Int) <= t.elems.length) && decide ((t.elems.length : Int) <= 12)) = (decide (1 <= t.elems.length) && decide (t.elems.length <= 12)) := by
  congr 1 <;> exact decide_eq_decide.2 (by omega)
 have e3 : iEq (t.above.length : Int) (t.elems.length : Int) = decide (t.above.length = t.elems.length) := by unfold iEq; rw [Bool.eq_iff_iff]; simp; omega
 have e4 : iEq (t.wrong.length : Int) (t.elems.length : Int) = decide (t.wrong.length = t.elems.length) := by unfold iEq; rw [Bool.eq_iff_iff]; simp; omega
 rw [e1, e3, e4]
 by_cases hh : 1 <= t.elems.length /\ t.above.length = t.elems.length
 . have hl := refCheck_loop h hs hh.1 hh.2 0 (by omega)
   simp only [Int.ofNat_zero, Int.natCast_zero] at hl
   rw [hl]
   have e5 : (upto 0 t.elems.length).all (refElemB t) = ((upto 0 t.elems.length).all (freshB t.elems) && (upto 0 t.above.length).all (fun i => listB t.elems.length (t.above.getD i []))) := by
    rw [hh.2, Bool.eq_iff_iff]
    simp only [Bool.and_eq_true, List.all_eq_true, refElemB, freshB, <- listB_eq]
    constructor
    . intro h
      exact ⟨fun i hi => by have := h i hi; rw [fresh_find (mem_upto.1 hi).2] at this; exact this.1, fun i hi => (h i hi).2⟩
    . rintro ⟨h1, h2⟩ i hi
      rw [fresh_find (mem_upto.1 hi).2]
      exact ⟨h1 i hi, h2 i hi⟩
   rw [e5]
   simp only [checkB]
   cases tableNameB t.name <;> cases decide (1 <= t.elems.length) <;> cases decide (t.elems.length <= 12) <;> cases decide (t.above.length = t.elems.length) <;> cases decide (t.wrong.length = t.elems.length) <;>
    cases (upto 0 t.elems.length).all (freshB t.elems) <;> cases (upto 0 t.above.length).all (fun i => listB t.elems.length (t.above.getD i [])) <;> rfl
 . have hc : checkB t = false := by
    simp only [checkB]
    by_cases h1 : 1 <= t.elems.length
    . have h2 : ¬ t.above.length = t.elems.length := fun h2 => hh ⟨h1, h2⟩
      simp [h2]
    . simp [h1]
   rw [hc]
   by_cases h1 : 1 <= t.elems.length
   . have h2 : decide (t.above.length = t.elems.length) = false := decide_eq_false fun h2 => hh ⟨h1, h2⟩
     rw [h2]
     cases tableNameB t.name <;> cases (decide (1 <= t.elems.length) && decide (t.elems.length <= 12)) <;> rfl
   . rw [decide_eq_false h1]
     cases tableNameB t.name <;> rfl
end Go.Proofs.Tryz

open Go Go.Apex
namespace Go.Proofs.Tryz
def thinB (t : Tbl) : Bool :=
 decide (t.elems.length <= 20) && decide (t.above.length <= 20) && decide (t.wrong.length <= 20) && decide (t.name.length <= 30) && (upto 0 t.elems.length).all (fun i => decide ((t.elems.getD i []).length <= 30)) && (upto 0 t.above.length).all (fun i => decide ((t.above.getD i []).length <= 20))
theorem iLt_dec (a b : Nat) : iLt (a : Int) (b : Int) = !decide (b <= a) := by unfold iLt; by_cases h : b <= a <;> simp [h] <;> omega
theorem thin_spec {t : Tbl} {n : List UInt8} {e a w : T} (h : IsTbl t n e a w) : fnO acfg 6 [tblT n e a w] = some (.bool (thinB t)) := by
 have hn := h.n
 subst hn
 apply fn6
 have l20 : ∀ k : Nat, iLt 20 (k : Int) = !decide (k <= 20) := fun k => iLt_dec 20 k |>.trans (by by_cases h : k <= 20 <;> simp [h] <;> omega)
 have l30 : ∀ k : Nat, iLt 30 (k : Int) = !decide (k <= 30) := fun k => iLt_dec 30 k |>.trans (by by_cases h : k <= 30 <;> simp [h] <;> omega)
 simp only [h.v4, cond_true, h.f1, h.d1, h.f0, h.f2, h.d2, h.f3, h.d3, oS, h.e.lenD, h.len2, h.w.lenD, deref_str, str?_str, sLen]
 by_cases h1 : t.elems.length <= 20 /\ t.above.length <= 20
 . have two : ∀ i, i <= t.above.length -> L6_2 t.name e a w (i : Int) = some (.bool ((upto i t.above.length).all (fun i => decide ((t.above.getD i []).length <= 20)))) := by
    refine upto_induct ?_ fun i hi ih => ?_
    . apply L6_2_step
      simp only [h.f2, h.d2, oS, h.len2, iLt_end, cond_false, upto_end (Nat.le_refl _), List.all_nil]
    . apply L6_2_step
      obtain ⟨r, r1, r2, r3⟩ := h.row hi
      simp only [h.f2, h.d2, oS, h.len2, iLt_len hi, cond_true, r1, r2, r3.lenD, l20, iAdd_nat (show i < 1000000 by omega), ih, upto_step hi, List.all_cons]
      cases decide ((t.above.getD i []).length <= 20) <;> simp
   have h20 := two 0 (by omega)
   simp only [Int.ofNat_zero, Int.natCast_zero] at h20
   have one : ∀ i, i <= t.elems.length -> L6_1 t.name e a w (i : Int) = some (.bool ((upto i t.elems.length).all (fun i => decide ((t.elems.getD i []).length <= 30)) && (upto 0 t.above.length).all (fun i => decide ((t.above.getD i []).length <= 20)))) := by
    refine upto_induct ?_ fun i hi ih => ?_
    . apply L6_1_step
      simp only [h.f1, h.d1, oS, h.e.lenD, iLt_end, cond_false, upto_end (Nat.le_refl _), List.all_nil, h20, Bool.true_and]
    . apply L6_1_step
      simp only [h.f1, h.d1, oS, h.e.lenD, iLt_len hi, cond_true, h.e.idxD [] hi, deref_str, str?_str, sLen, l30, iAdd_nat (show i < 1000000 by omega), ih, upto_step hi, List.all_cons]
      cases decide ((t.elems.getD i []).length <= 30) <;> simp
   have h10 := one 0 (by omega)
   simp only [Int.ofNat_zero, Int.natCast_zero] at h10
   simp only [l20, l30, h10, thinB]
   rw [decide_eq_true h1.1, decide_eq_true h1.2]
   cases decide (t.wrong.length <= 20) <;> cases decide (t.name.length <= 30) <;> simp
 . simp only [l20, l30, thinB]
   by_cases h2 : t.elems.length <= 20
   . have h3 : ¬ t.above.length <= 20 := fun h3 => h1 ⟨h2, h3⟩
     rw [decide_eq_true h2, decide_eq_false h3]
     simp
   . rw [decide_eq_false h2]
     simp
theorem small_of_thin {t : Tbl} (h : thinB t = true) : Small t := by
 simp only [thinB, Bool.and_eq_true, decide_eq_true_eq, List.all_eq_true, mem_upto] at h
 obtain ⟨⟨⟨⟨⟨h1, h2⟩, h3⟩, h4⟩, h5⟩, h6⟩ := h
 refine ⟨by omega, by omega, fun s hs => ?_, by omega, fun l hl => ?_, by omega⟩
 . obtain ⟨i, hi, he⟩ := List.getElem_of_mem hs
   have := h5 i ⟨by omega, hi⟩
   rw [gD, gE hi, he] at this
   simp only [Option.getD_some] at this
   omega
 . obtain ⟨i, hi, he⟩ := List.getElem_of_mem hl
   have := h6 i ⟨by omega, hi⟩
   rw [gD, gE hi, he] at this
   simp only [Option.getD_some] at this
   omega
theorem one_int (l : List Int) : OneL (ints l) := OneL.map (fun _ => rfl) l
theorem one_str (l : List (List UInt8)) : OneL (l.map T.str) := OneL.map (fun _ => rfl) l
theorem one_bool (l : List Bool) : OneL (l.map T.bool) := OneL.map (fun _ => rfl) l
structure RowsTo (t : Tbl) (rs : List T) : Prop where
 le : rs.length <= t.above.length
 r : ∀ i, i < rs.length -> IsSl (ints (t.above.getD i [])) (rs.getD i .nils)
theorem RowsTo.one {t : Tbl} {rs : List T} (h : RowsTo t rs) : OneL rs := fun x hx => by
 obtain ⟨i, hi, he⟩ := List.getElem_of_mem hx
 have := (h.r i hi).one
 rw [gD, gE hi, he] at this
 exact this
theorem RowsTo.snoc {t : Tbl} {rs : List T} (h : RowsTo t rs) (hl : rs.length < t.above.length) {y : T} (hy : IsSl (ints (t.above.getD rs.length [])) y) : RowsTo t (rs ++ [y]) := by
 refine ⟨by simp; omega, fun i hi => ?_⟩
 have e : (rs ++ [y]).getD i .nils = if i < rs.length then rs.getD i .nils else y := by
  rw [gD, List.getElem?_append]
  split
  . rw [gD]
  . have : i = rs.length := by simp at hi; omega
    subst this
    simp
 rw [e]
 split
 . rename_i h1
   exact h.r i h1
 . have : i = rs.length := by simp at hi; omega
   subst this
   exact hy
theorem copy_spec {t : Tbl} {n : List UInt8} {e a w : T} (h : IsTbl t n e a w) (hs : Small t) : ∃ e' a' w', fnO acfg 7 [tblT n e a w] = some (tblT n e' a' w') /\ IsTbl t n e' a' w' := by
 have hsA := hs.a
 obtain ⟨e', e1, e2⟩ := appT_nil (one_str t.elems) (bytes := 16) (by have := hs.e; rw [List.length_map, maxB]; omega)
 obtain ⟨w', w1, w2⟩ := appT_nil (one_bool t.wrong) (bytes := 1) (by have := hs.w; rw [List.length_map, maxB]; omega)
 have v4 : ∀ y : T, y.one = true -> vfits (.t (T.agg [.str n, e', y, w'])) (some 4) = true := fun y hy => by
  show (true && (4 == 4) && ((T.str n).one && (e'.one && (y.one && (w'.one && true))))) = true
  rw [e2.one, hy, w2.one]
  rfl
 have vm : ∀ (i g o l : Nat), vfits (.agg [.t (T.str n), .t e', .msl i g o l none, .t w']) (some 4) = true := fun i g o l => by
  show (true && (4 == 4) && ((T.str n).one && (e'.one && (true && (w'.one && true))))) = true
  rw [e2.one, w2.one]
  rfl
 have rowc : ∀ i, i < t.above.length -> ∃ r x9, idxT 1 a (i : Int) = some (.ptr r) /\ derefT none (.ptr r) = some r /\ elemsT none r = some (cellsT (ints (t.above.getD i []))) /\ appT none 1 8 (T.sl true 1 []) (cellsT (ints (t.above.getD i []))) = some x9 /\ IsSl (ints (t.above.getD i [])) x9 := fun i hi => by
  obtain ⟨r, r1, r2, r3⟩ := h.row hi
  obtain ⟨y, y1, y2⟩ := appT_nil (one_int (t.above.getD i [])) (bytes := 8) (by have := hs.al _ (getD_mem [] hi); rw [List.length_map, maxB]; omega)
  exact ⟨r, y, r1, r2, elemsT_sl r3 (one_int _), y1, y2⟩
 have two : ∀ i, i <= t.above.length -> ∀ (rs : List T) (g : Nat), rs.length = i -> 1 <= i -> RowsTo t rs -> ∃ a', L7_2 n e a w (i : Int) [] n e' g 0 i w' g (cellsT rs) = some (tblT n e' a' w') /\ IsTbl t n e' a' w' := by
  refine upto_induct ?_ fun i hi ih => ?_
  . intro rs g hl h1 hr
    refine ⟨.sl false 1 rs, ?_, h.n, e2, ⟨rs, .sl _, hl, fun i hi => hr.r i (by omega)⟩, w2⟩
    apply L7_2_step
    have hrow := rowT_all hr.one
    rw [hl] at hrow
    simp only [h.f2, h.d2, oS, h.len2, iLt_end, cond_false, vm, cond_true, natEq_self, hrow]
  . intro rs g hl h1 hr
    obtain ⟨r, y, r1, r2, r3, y1, y2⟩ := rowc i hi
    obtain ⟨a', ha, hb⟩ := ih (rs ++ [y]) (g + 1) (by simp [hl]) (by omega) (hr.snoc (by omega) (by rw [hl]; exact y2))
    refine ⟨a', ?_, hb⟩
    apply L7_2_step
    have hok : appOK (cellsT rs) 0 i 1 [V.t y] 24 = true := appOK_row (ys := [y]) (by omega) (by rw [maxB]; simp; omega)
    have hcs : appCs (cellsT rs) 0 [V.t y] = cellsT (rs ++ [y]) := by
     have := appCs_one (cs := rs) (ys := [y]) (off := 0) (OneL.cons y2.one OneL.nil) (by simp)
     simpa using this
    have vmsl : ∀ g o l, vfits (V.msl 31 g o l none) none = true := fun _ _ _ => rfl
    have hobj : ∀ g, objBd 32 (Go.Apex.Obj.cells g 52 false (cellsT (rs ++ [y]))) = true := fun g => objBd_cells _ _ _ _ _
    simp only [h.f2, h.d2, oS, h.len2, iLt_len hi, cond_true, r1, r2, r3, y1, vfits_one y2.one, natEq_self, hok, vmsl, hcs, hobj, iAdd_nat (show i < 1000000 by omega), appGen_one, appLen_one, ha]
 have res : ∃ a', L7_1 n e a w 0 [] n e' w' = some (tblT n e' a' w') /\ IsTbl t n e' a' w' := by
  by_cases h0 : t.above.length = 0
  . refine ⟨.nils, ?_, h.n, e2, ⟨[], .nil rfl, by simp [h0], fun i hi => by omega⟩, w2⟩
    apply L7_1_step
    have hz : iLt 0 (t.above.length : Int) = false := by rw [h0]; rfl
    simp only [h.f2, h.d2, oS, h.len2, hz, cond_false, v4 T.nils rfl, cond_true]
  . obtain ⟨r, y, r1, r2, r3, y1, y2⟩ := rowc 0 (by omega)
    have hr0 : RowsTo t ([] : List T) := ⟨by simp, fun i hi => by simp at hi⟩
    obtain ⟨a', ha, hb⟩ := two 1 (by omega) [y] 1 rfl (Nat.le_refl _) (hr0.snoc (by simp; omega) y2)
    refine ⟨a', ?_, hb⟩
    apply L7_1_step
    have hz : iLt 0 (t.above.length : Int) = true := by simp [iLt]; omega
    have hnew : newOK ([] : List T).length [V.t y].length 24 = true := rfl
    have hb1 : baseT none 1 T.nils = some [] := rfl
    have hrow : rowNew [] [V.t y] = cellsT [y] := rowNew_one (xs := []) (ys := [y]) OneL.nil (OneL.cons y2.one OneL.nil)
    have vmsl : ∀ g o l, vfits (V.msl 31 g o l none) none = true := fun _ _ _ => rfl
    have hobj : objBd 32 (Go.Apex.Obj.cells 1 52 false (cellsT [y])) = true := objBd_cells _ _ _ _ _
    have hi1 : iAdd IntKind.i64 0 1 = ((1 : Nat) : Int) := by decide
    have hl1 : lenNew ([] : List T) [V.t y] = 1 := rfl
    simp only [Int.ofNat_zero, Int.natCast_zero] at r1
    simp only [h.f2, h.d2, oS, h.len2, hz, cond_true, r1, r2, r3, y1, vfits_one y2.one, hb1, hnew, vmsl, hrow, hobj, hi1, hl1, ha]
 obtain ⟨a', r1, r2⟩ := res
 refine ⟨e', a', w', ?_, r2⟩
 apply fn7
 simp only [h.v4, cond_true, h.f0, deref_str, str?_str, h.f1, h.d1, h.f3, h.d3, oS, elemsT_sl h.e (one_str _), e1, elemsT_sl h.w (one_bool _), w1, vfits_one e2.one, vfits_one w2.one, v4 T.nils rfl, r1]
theorem sameInts_spec {x y : T} {l : List Int} (hx : IsSl (ints l) x) (hy : IsSl (ints l) y) (hl : l.length < 1000000) : fnO acfg 22 [x, y] = some (.bool true) := by
 have key : ∀ i, i <= l.length -> L22_1 x y (i : Int) = some (.bool true) := by
  refine upto_induct ?_ fun i hi ih => ?_
  . apply L22_1_step
    simp only [hx.lenD, oS, iLt_end, cond_false]
  . apply L22_1_step
    have he : ∀ z : Int, iEq z z = true := fun z => by simp [iEq]
    simp only [hx.lenD, oS, iLt_len hi, cond_true, hx.idxD 0 hi, hy.idxD 0 hi, deref_int, int?_int, he, bNot, Bool.not_true, cond_false, iAdd_nat (show i < 1000000 by omega), ih]
 apply fn22
 have he : ∀ z : Int, iEq z z = true := fun z => by simp [iEq]
 simp only [hx.lenD, hy.lenD, oS, he, bNot, Bool.not_true, cond_false]
 exact key 0 (by omega)
theorem sameTable_spec {t : Tbl} {n n' : List UInt8} {e a w e' a' w' : T} (h : IsTbl t n e a w) (h' : IsTbl t n' e' a' w') (hs : Small t) : fnO acfg 14 [tblT n e a w, tblT n' e' a' w'] = some (.bool true) := by
 have hn := h.n
 have hn' := h'.n
 subst hn
 subst hn'
 have ie : ∀ z : Int, iEq z z = true := fun z => by simp [iEq]
 have se : ∀ z : List UInt8, sEq z z = true := fun z => by simp [sEq]
 have be : ∀ z : Bool, bEq z z = true := fun z => by simp [bEq]
 have hsa := hs.a
 have hse := hs.e
 have hsw := hs.w
 have three : ∀ i, i <= t.wrong.length -> L14_3 t.name e a w t.name e' a' w' (i : Int) = some (.bool true) := by
  refine upto_induct ?_ fun i hi ih => ?_
  . apply L14_3_step
    simp only [h.f3, h.d3, oS, h.w.lenD, iLt_end, cond_false]
  . apply L14_3_step
    simp only [h.f3, h.d3, h'.f3, h'.d3, oS, h.w.lenD, iLt_len hi, cond_true, h.w.idxD false hi, h'.w.idxD false hi, deref_bool, bool?_bool, be, bNot, Bool.not_true, cond_false, iAdd_nat (show i < 1000000 by omega), ih]
 have h30 := three 0 (by omega)
 simp only [Int.ofNat_zero, Int.natCast_zero] at h30
 have two : ∀ i, i <= t.above.length -> L14_2 t.name e a w t.name e' a' w' (i : Int) = some (.bool true) := by
  refine upto_induct ?_ fun i hi ih => ?_
  . apply L14_2_step
    simp only [h.f2, h.d2, oS, h.len2, iLt_end, cond_false, h30]
  . apply L14_2_step
    obtain ⟨r, r1, r2, r3⟩ := h.row hi
    obtain ⟨q, q1, q2, q3⟩ := h'.row hi
    simp only [h.f2, h.d2, h'.f2, h'.d2, oS, h.len2, iLt_len hi, cond_true, r1, r2, q1, q2, sameInts_spec r3 q3 (hs.al _ (getD_mem [] hi)), scalar_bool, bool?_bool, bNot, Bool.not_true, cond_false, iAdd_nat (show i < 1000000 by omega), ih]
 have h20 := two 0 (by omega)
 simp only [Int.ofNat_zero, Int.natCast_zero] at h20
 have one : ∀ i, i <= t.elems.length -> L14_1 t.name e a w t.name e' a' w' (i : Int) = some (.bool true) := by
  refine upto_induct ?_ fun i hi ih => ?_
  . apply L14_1_step
    simp only [h.f1, h.d1, oS, h.e.lenD, iLt_end, cond_false, h20]
  . apply L14_1_step
    simp only [h.f1, h.d1, h'.f1, h'.d1, oS, h.e.lenD, iLt_len hi, cond_true, h.e.idxD [] hi, h'.e.idxD [] hi, deref_str, str?_str, se, bNot, Bool.not_true, cond_false, iAdd_nat (show i < 1000000 by omega), ih]
 have h10 := one 0 (by omega)
 simp only [Int.ofNat_zero, Int.natCast_zero] at h10
 apply fn14
 simp only [h.v4, h'.v4, cond_true, h.f0, h'.f0, deref_str, str?_str, oS, se, bNot, Bool.not_true, cond_false, h.f1, h.d1, h'.f1, h'.d1, h.e.lenD, h'.e.lenD, ie, h.f2, h.d2, h'.f2, h'.d2, h.len2, h'.len2, h.f3, h.d3, h'.f3, h'.d3, h.w.lenD, h'.w.lenD, h10]
end Go.Proofs.Tryz

namespace Go.StepsTo
variable {adj : Nat -> List Nat} {n : Nat}
inductive R (adj : Nat -> List Nat) : Nat -> Nat -> Prop
 | one {a b : Nat} (h : b ∈ adj a) : R adj a b
 | step {a b c : Nat} (h : R adj a b) (h2 : c ∈ adj b) : R adj a c
def falses (l : List Bool) : Nat := (l.filter fun b => !b).length
theorem falses_set : ∀ (l : List Bool) (k : Nat), l[k]? = some false -> falses (l.set k true) + 1 = falses l
 | [], k, h => by simp at h
 | b :: l, 0, h => by
  simp only [List.getElem?_cons_zero, oI] at h
  subst h
  simp [falses]
 | b :: l, k + 1, h => by
  have ih := falses_set l k (by simpa using h)
  unfold falses at ih ⊢
  simp only [List.set_cons_succ, List.filter_cons]
  cases b <;> simp <;> omega
theorem falses_le (l : List Bool) : falses l <= l.length := List.length_filter_le _ _
def has (l : List Bool) (k : Nat) : Bool := l.getD k false
theorem has_set {l : List Bool} {k j : Nat} (hk : k < l.length) : has (l.set k true) j = (decide (j = k) || has l j) := by
 unfold has
 simp only [gD, List.getElem?_set]
 by_cases e : k = j
 . subst e; simp [hk]
 . rw [if_neg e]; simp [Ne.symm e]
theorem has_false {l : List Bool} {k : Nat} (hk : k < l.length) (h : has l k = false) : l[k]? = some false := by
 unfold has at h
 rw [gD, gE hk] at h
 rw [gE hk]
 exact congrArg some h
def bfs1 (adj : Nat -> List Nat) : Nat -> List Bool -> List Nat -> List Bool
 | 0, been, _ => been
 | _ + 1, been, [] => been
 | f + 1, been, k :: todo => if has been k = true then bfs1 adj f been todo else bfs1 adj f (been.set k true) (todo ++ adj k)
structure Inv1 (adj : Nat -> List Nat) (n a : Nat) (been : List Bool) (todo : List Nat) : Prop where
 len : been.length = n
 itd : ∀ k ∈ todo, k < n /\ R adj a k
 ibn : ∀ k, k < n -> has been k = true -> R adj a k
 closed : ∀ k, k < n -> has been k = true -> ∀ c ∈ adj k, has been c = true \/ c ∈ todo
 first : ∀ c ∈ adj a, has been c = true \/ c ∈ todo
theorem has_lt {l : List Bool} {k : Nat} (h : has l k = true) : k < l.length := by
 rcases Nat.lt_or_ge k l.length with h1 | h1
 . exact h1
 . unfold has at h
   rw [gD, List.getElem?_eq_none h1] at h
   cases h
theorem Inv1.done {a : Nat} {been : List Bool} (I : Inv1 adj n a been []) : ∀ k, has been k = true ↔ R adj a k := by
 intro k
 constructor
 . intro h
   exact I.ibn k (by have := has_lt h; rw [I.len] at this; exact this) h
 . intro h
   induction h with
   | one h => exact (I.first _ h).resolve_right (by simp)
   | step h h2 ih => exact (I.closed _ (by have := has_lt ih; rw [I.len] at this; exact this) ih _ h2).resolve_right (by simp)
theorem bfs1_ok {a D : Nat} (hadj : ∀ k, k < n -> ∀ c ∈ adj k, c < n) (hD : ∀ k, (adj k).length <= D) : ∀ (f : Nat) (been : List Bool) (todo : List Nat), Inv1 adj n a been todo -> falses been * (D + 1) + todo.length <= f →
  (bfs1 adj f been todo).length = n /\ ∀ k, has (bfs1 adj f been todo) k = true ↔ R adj a k
 | 0, been, todo, I, hf => by
  have h0 : todo = [] := List.eq_nil_of_length_eq_zero (by omega)
  subst h0
  exact ⟨I.len, I.done⟩
 | f + 1, been, [], I, hf => ⟨I.len, I.done⟩
 | f + 1, been, k :: todo, I, hf => by
  simp only [List.length_cons] at hf
  unfold bfs1
  by_cases hb : has been k = true
  . rw [if_pos hb]
    refine bfs1_ok hadj hD f been todo ⟨I.len, fun j hj => I.itd j (by simp [hj]), I.ibn, fun j h1 h2 c hc => ?_, fun c hc => ?_⟩ (by omega)
    . rcases I.closed j h1 h2 c hc with h | h
      . exact .inl h
      . rcases List.mem_cons.1 h with rfl | h
        . exact .inl hb
        . exact .inr h
    . rcases I.first c hc with h | h
      . exact .inl h
      . rcases List.mem_cons.1 h with rfl | h
        . exact .inl hb
        . exact .inr h
  . rw [if_neg hb]
    obtain ⟨hk, hr⟩ := I.itd k (by simp)
    have hkl : k < been.length := by rw [I.len]; exact hk
    have hfs := falses_set been k (has_false hkl (by simpa using hb))
    refine bfs1_ok hadj hD f (been.set k true) (todo ++ adj k) ⟨by rw [List.length_set]; exact I.len, fun j hj => ?_, fun j h1 h2 => ?_, fun j h1 h2 c hc => ?_, fun c hc => ?_⟩ ?_
    . rcases List.mem_append.1 hj with h | h
      . exact I.itd j (by simp [h])
      . exact ⟨hadj k hk j h, .step hr h⟩
    . rw [has_set hkl] at h2
      by_cases e : j = k
      . subst e; exact hr
      . exact I.ibn j h1 (by simpa [e] using h2)
    . rw [has_set hkl] at h2
      by_cases e : j = k
      . subst e; exact .inr (by simp [hc])
      . rcases I.closed j h1 (by simpa [e] using h2) c hc with h | h
        . exact .inl (by rw [has_set hkl, h]; simp)
        . rcases List.mem_cons.1 h with rfl | h
          . exact .inl (by rw [has_set hkl]; simp)
          . exact .inr (by simp [h])
    . rcases I.first c hc with h | h
      . exact .inl (by rw [has_set hkl, h]; simp)
      . rcases List.mem_cons.1 h with rfl | h
        . exact .inl (by rw [has_set hkl]; simp)
        . exact .inr (by simp [h])
    . have h2 := hD k
      rw [List.length_append]
      have : falses been * (D + 1) = falses (been.set k true) * (D + 1) + (D + 1) := by rw [<- hfs, Nat.succ_mul]
      omega
def push (seen : List Bool) (todo : List Nat) : List Nat -> List Bool × List Nat
 | [] => (seen, todo)
 | k :: l => if has seen k = true then push seen todo l else push (seen.set k true) (todo ++ [k]) l
def bfs2 (adj : Nat -> List Nat) : Nat -> List Bool -> List Nat -> List Bool
 | 0, seen, _ => seen
 | _ + 1, seen, [] => seen
 | f + 1, seen, k :: todo => bfs2 adj f (push seen todo (adj k)).1 (push seen todo (adj k)).2
structure Inv2 (adj : Nat -> List Nat) (n a : Nat) (seen : List Bool) (todo : List Nat) : Prop where
 len : seen.length = n
 itd : ∀ k ∈ todo, k < n /\ (k = a \/ has seen k = true)
 isn : ∀ k, k < n -> has seen k = true -> R adj a k
 closed : ∀ k, k < n -> (k = a \/ has seen k = true) -> k ∈ todo \/ ∀ c ∈ adj k, has seen c = true
theorem push_spec {a : Nat} (ha : a < n) : ∀ (l : List Nat) (seen : List Bool) (todo : List Nat) (P : Nat -> Prop), seen.length = n -> (∀ k ∈ l, k < n /\ R adj a k) -> (∀ k ∈ todo, k < n /\ (k = a \/ has seen k = true)) -> (∀ k, k < n -> has seen k = true -> R adj a k) →
   (∀ k, k < n -> (k = a \/ has seen k = true) -> P k \/ k ∈ todo \/ ∀ c ∈ adj k, has seen c = true) →
   (push seen todo l).1.length = n /\ (∀ k ∈ (push seen todo l).2, k < n /\ (k = a \/ has (push seen todo l).1 k = true)) /\ (∀ k, k < n -> has (push seen todo l).1 k = true -> R adj a k) ∧
   (∀ k, k < n -> (k = a \/ has (push seen todo l).1 k = true) -> P k \/ k ∈ (push seen todo l).2 \/ ∀ c ∈ adj k, has (push seen todo l).1 c = true) /\ (∀ k, has seen k = true -> has (push seen todo l).1 k = true) /\ (∀ k ∈ l, has (push seen todo l).1 k = true) ∧
   falses (push seen todo l).1 + (push seen todo l).2.length = falses seen + todo.length
 | [], seen, todo, P, h1, h2, h3, h4, h5 => ⟨h1, h3, h4, h5, fun _ h => h, fun _ h => (by cases h), rfl⟩
 | k :: l, seen, todo, P, h1, h2, h3, h4, h5 => by
  unfold push
  by_cases hk : has seen k = true
  . rw [if_pos hk]
    obtain ⟨a1, a2, a3, a4, a5, a6, a7⟩ := push_spec ha l seen todo P h1 (fun j hj => h2 j (by simp [hj])) h3 h4 h5
    exact ⟨a1, a2, a3, a4, a5, fun j hj => by
     rcases List.mem_cons.1 hj with rfl | hj
     . exact a5 _ hk
     . exact a6 j hj, a7⟩
  . rw [if_neg hk]
    obtain ⟨hkn, hkr⟩ := h2 k (by simp)
    have hkl : k < seen.length := by rw [h1]; exact hkn
    have hfs := falses_set seen k (has_false hkl (by simpa using hk))
    have mono : ∀ j, has seen j = true -> has (seen.set k true) j = true := fun j h => by rw [has_set hkl, h]; simp
    obtain ⟨a1, a2, a3, a4, a5, a6, a7⟩ := push_spec ha l (seen.set k true) (todo ++ [k]) P (by rw [List.length_set]; exact h1) (fun j hj => h2 j (by simp [hj]))
     (fun j hj => by
      rcases List.mem_append.1 hj with h | h
      . exact ⟨(h3 j h).1, (h3 j h).2.imp id (mono j)⟩
      . have : j = k := by simpa using h
        subst this
        exact ⟨hkn, .inr (by rw [has_set hkl]; simp)⟩)
     (fun j hj h => by
      rw [has_set hkl] at h
      by_cases e : j = k
      . subst e; exact hkr
      . exact h4 j hj (by simpa [e] using h))
     (fun j hj h => by
      by_cases e : j = k
      . subst e; exact .inr (.inl (by simp))
      . rcases h5 j hj (h.imp id fun h => by rw [has_set hkl] at h; simpa [e] using h) with h | h | h
        . exact .inl h
        . exact .inr (.inl (by simp [h]))
        . exact .inr (.inr fun c hc => mono c (h c hc)))
    refine ⟨a1, a2, a3, a4, fun j h => a5 j (mono j h), fun j hj => ?_, ?_⟩
    . rcases List.mem_cons.1 hj with rfl | hj
      . exact a5 _ (by rw [has_set hkl]; simp)
      . exact a6 j hj
    . rw [a7, List.length_append]
      simp only [List.length_cons, List.length_nil]
      omega
theorem bfs2_ok {a : Nat} (ha : a < n) (hadj : ∀ k, k < n -> ∀ c ∈ adj k, c < n) : ∀ (f : Nat) (seen : List Bool) (todo : List Nat), Inv2 adj n a seen todo -> falses seen + todo.length <= f →
  (bfs2 adj f seen todo).length = n /\ ∀ k, has (bfs2 adj f seen todo) k = true ↔ R adj a k := by
 have done : ∀ seen : List Bool, Inv2 adj n a seen [] -> seen.length = n /\ ∀ k, has seen k = true ↔ R adj a k := fun seen I => by
  refine ⟨I.len, fun k => ⟨fun h => I.isn k (by have := has_lt h; rw [I.len] at this; exact this) h, fun h => ?_⟩⟩
  induction h with
  | one h => exact (I.closed a ha (.inl rfl)).resolve_left (by simp) _ h
  | step h h2 ih => exact (I.closed _ (by have := has_lt ih; rw [I.len] at this; exact this) (.inr ih)).resolve_left (by simp) _ h2
 intro f
 induction f with
 | zero =>
  intro seen todo I hf
  have h0 : todo = [] := List.eq_nil_of_length_eq_zero (by omega)
  subst h0
  exact done seen I
 | succ f ih =>
  intro seen todo I hf
  cases todo with
  | nil => exact done seen I
  | cons k todo =>
   obtain ⟨hkn, hka⟩ := I.itd k (by simp)
   have hr : ∀ c ∈ adj k, c < n /\ R adj a c := fun c hc => ⟨hadj k hkn c hc, by
    rcases hka with rfl | h
    . exact .one hc
    . exact .step (I.isn k hkn h) hc⟩
   obtain ⟨a1, a2, a3, a4, a5, a6, a7⟩ := push_spec (adj := adj) (n := n) ha (adj k) seen todo (fun j => j = k) I.len hr (fun j hj => I.itd j (by simp [hj])) I.isn (fun j hj h => by
    rcases I.closed j hj h with h | h
    . rcases List.mem_cons.1 h with rfl | h
      . exact .inl rfl
      . exact .inr (.inl h)
    . exact .inr (.inr h))
   show (bfs2 adj f _ _).length = n /\ _
   refine ih _ _ ⟨a1, a2, a3, fun j hj h => ?_⟩ (by simp only [List.length_cons] at hf; omega)
   rcases a4 j hj h with h | h | h
   . subst h; exact .inr a6
   . exact .inl h
   . exact .inr h
theorem both {a D : Nat} (ha : a < n) (hadj : ∀ k, k < n -> ∀ c ∈ adj k, c < n) (hD : ∀ k, (adj k).length <= D) {f g : Nat} (hf : n * (D + 1) + D <= f) (hg : n + 1 <= g) :
  (bfs1 adj f (List.replicate n false) (adj a)).length = n /\ (bfs2 adj g (List.replicate n false) [a]).length = n ∧
  (∀ k, has (bfs1 adj f (List.replicate n false) (adj a)) k = true ↔ R adj a k) /\ ∀ k, has (bfs2 adj g (List.replicate n false) [a]) k = true ↔ R adj a k := by
 have h0 : ∀ k, has (List.replicate n false) k = false := fun k => by
  unfold has
  rw [gD, List.getElem?_replicate]
  split <;> rfl
 have hfl : falses (List.replicate n false) <= n := by have := falses_le (List.replicate n false); rw [List.length_replicate] at this; exact this
 have h1 := bfs1_ok (a := a) hadj hD f (List.replicate n false) (adj a) ⟨List.length_replicate, fun k hk => ⟨hadj a ha k hk, .one hk⟩, fun k _ h => (by rw [h0] at h; cases h), fun k _ h => (by rw [h0] at h; cases h), fun c hc => .inr hc⟩
  (by have := hD a; have := Nat.mul_le_mul_right (D + 1) hfl; omega)
 have h2 := bfs2_ok ha hadj g (List.replicate n false) [a] ⟨List.length_replicate, fun k hk => (by
   have : k = a := by simpa using hk
   subst this
   exact ⟨ha, .inl rfl⟩), fun k _ h => (by rw [h0] at h; cases h), fun k _ h => by
   rcases h with rfl | h
   . exact .inl (by simp)
   . rw [h0] at h; cases h⟩ (by simp only [List.length_cons, List.length_nil]; omega)
 exact ⟨h1.1, h2.1, h1.2, h2.2⟩
end Go.StepsTo

open Go Go.Apex Go.StepsTo
namespace Go.Proofs.Tryz
structure Good (t : Tbl) : Prop where
 e1 : 1 <= t.elems.length
 e12 : t.elems.length <= 12
 a : t.above.length = t.elems.length
 w : t.wrong.length = t.elems.length
 lt : ∀ k, k < t.elems.length -> ∀ z ∈ t.above.getD k [], 0 <= z /\ z < t.elems.length
 al : ∀ k, k < t.elems.length -> (t.above.getD k []).length <= 20
theorem mem_getD {α : Type} {l : List α} {z d : α} (h : z ∈ l) : ∃ i, i < l.length /\ l.getD i d = z := by
 obtain ⟨i, hi, he⟩ := List.getElem_of_mem h
 exact ⟨i, hi, by rw [gD, gE hi, he]; rfl⟩
theorem good_of {t : Tbl} (hc : checkB t = true) (ht : thinB t = true) : Good t := by
 simp only [checkB, Bool.and_eq_true, decide_eq_true_eq, List.all_eq_true, mem_upto] at hc
 obtain ⟨⟨⟨⟨⟨⟨h1, h2⟩, h3⟩, h4⟩, h5⟩, h6⟩, h7⟩ := hc
 simp only [thinB, Bool.and_eq_true, decide_eq_true_eq, List.all_eq_true, mem_upto] at ht
 refine ⟨h2, h3, h4, h5, fun k hk z hz => ?_, fun k hk => ht.2 k ⟨by omega, by omega⟩⟩
 have h8 := h7 k ⟨by omega, by omega⟩
 simp only [listB, Bool.and_eq_true, List.all_eq_true, mem_upto, elemB, decide_eq_true_eq] at h8
 obtain ⟨i, hi, he⟩ := mem_getD (d := 0) hz
 have h9 := h8.1 i ⟨by omega, hi⟩
 rw [he] at h9
 exact h9
def adjN (t : Tbl) (k : Nat) : List Nat := (t.above.getD k []).map Int.toNat
abbrev natsT (l : List Nat) : List T := l.map fun k : Nat => T.int .i64 (k : Int)
abbrev boolsT (l : List Bool) : List T := l.map T.bool
section
variable {t : Tbl} (hg : Good t)
include hg
theorem Good.row {k : Nat} (hk : k < t.elems.length) : ints (t.above.getD k []) = natsT (adjN t k) := by
 unfold ints natsT adjN
 rw [List.map_map]
 refine List.map_congr_left fun z hz => ?_
 have := hg.lt k hk z hz
 simp only [Function.comp]
 rw [Int.toNat_of_nonneg this.1]
theorem Good.adj_lt : ∀ k, k < t.elems.length -> ∀ c ∈ adjN t k, c < t.elems.length := fun k hk c hc => by
 obtain ⟨z, hz, rfl⟩ := List.mem_map.1 hc
 have := hg.lt k hk z hz
 omega
theorem Good.adj_len (k : Nat) : (adjN t k).length <= 20 := by
 unfold adjN
 rw [List.length_map]
 by_cases hk : k < t.elems.length
 . exact hg.al k hk
 . have : t.above.length <= k := by have := hg.a; omega
   rw [gD, List.getElem?_eq_none this]
   simp
end
theorem one_nats (l : List Nat) : OneL (natsT l) := OneL.map (fun _ => rfl) l
theorem one_bools (l : List Bool) : OneL (boolsT l) := OneL.map (fun _ => rfl) l
theorem has_at {l : List Bool} {k : Nat} (hk : k < l.length) : (boolsT l)[k]? = some (.bool (has l k)) := by
 unfold has
 rw [List.getElem?_map, gD, gE hk]
 rfl
theorem set_at (l : List Bool) (k : Nat) : (boolsT l).set k (.bool true) = boolsT (l.set k true) := by simp [boolsT, List.map_set]
abbrev ordT (n : List UInt8) (e a w s : T) : T := .agg [.str n, e, a, w, s]
theorem ord_fld {t : Tbl} {n : List UInt8} {e a w s : T} (h : IsTbl t n e a w) : fldT 0 (some 4) (.ptr (ordT n e a w s)) = some (.ptr (tblT n e a w)) := by
 show (if (tblT n e a w).fits (some 4) = true then some (T.ptr (tblT n e a w)) else none) = _
 rw [if_pos h.fits]
theorem app_row {ts : List T} {off : Nat} {td l : List Nat} (h : ts.drop off = natsT td) (hl : off + td.length = ts.length) :
  ∃ off' ts', appOff off (cellsT (natsT l)) = off' /\ appCs (cellsT ts) off (cellsT (natsT l)) = cellsT ts' /\ ts'.drop off' = natsT (td ++ l) /\ off' + (td ++ l).length = ts'.length := by
 cases l with
 | nil => exact ⟨off, ts, rfl, rfl, by simpa using h, by simpa using hl⟩
 | cons c l =>
  refine ⟨0, ts.drop off ++ natsT (c :: l), rfl, appCs_one (one_nats _) (by simp), ?_, ?_⟩
  . rw [h, List.drop_zero, <- List.map_append]
  . rw [h, <- List.map_append, List.length_map]
    omega
theorem appLen_cells (len : Nat) (l : List Nat) : appLen len (cellsT (natsT l)) = len + l.length := by simp [appLen]
theorem iLt_pos (k : Nat) : iLt 0 (nInt (k + 1)) = true := by unfold iLt nInt; exact decide_eq_true (by omega)
theorem rowIn_lt {k n : Nat} (h : k < n) : rowIn (k : Int) n = true := decide_eq_true (by omega)
theorem rowOff_1 (off k : Nat) : rowOff off (k : Int) 1 = off + k := by simp [rowOff]
theorem rowSetOK_lt {cs : List T} {k : Nat} (h : k < cs.length) : rowSetOK (cellsT cs) (0 + k) 1 = true := decide_eq_true (by rw [List.length_map]; omega)
theorem from_loop {t : Tbl} (hg : Good t) {n : List UInt8} {e a w s : T} (h : IsTbl t n e a w) : ∀ (f : Nat) (been : List Bool) (td : List Nat) (g g2 off : Nat) (ts : List T),
  been.length = t.elems.length -> (∀ k ∈ td, k < t.elems.length) -> falses been * 21 + td.length <= f -> f < 1000000 -> ts.drop off = natsT td -> off + td.length = ts.length →
  R82_2 (.ptr (ordT n e a w s)) g 0 t.elems.length g2 off td.length g (cellsT (boolsT been)) g2 (cellsT ts) =
   some (.tup [.nili, .int .i64 4, .int .i64 0, .int .i64 (t.elems.length : Int), .nils, .tup (boolsT (bfs1 (adjN t) f been td))]) := by
 have fin : ∀ (been : List Bool) (g g2 off : Nat) (ts : List T), R82_2 (.ptr (ordT n e a w s)) g 0 t.elems.length g2 off 0 g (cellsT (boolsT been)) g2 (cellsT ts) =
   some (.tup [.nili, .int .i64 4, .int .i64 0, .int .i64 (t.elems.length : Int), .nils, .tup (boolsT been)]) := fun been g g2 off ts => by
  apply R82_2_step
  have h0 : iLt 0 (nInt 0) = false := rfl
  simp only [h0, cond_false, Nat.beq_refl, cond_true, allT_cells, oS]
  rfl
 intro f
 induction f with
 | zero =>
  intro been td g g2 off ts hb htd hf hf2 hts hlen
  have : td = [] := List.eq_nil_of_length_eq_zero (by omega)
  subst this
  exact fin been g g2 off ts
 | succ f ih =>
  intro been td g g2 off ts hb htd hf hf2 hts hlen
  cases td with
  | nil => exact fin been g g2 off ts
  | cons k td =>
   have hk := htd k (by simp)
   have hkl : k < been.length := by omega
   simp only [List.length_cons] at hf hlen ⊢
   have hoff : ts[off + 0]? = some (.int .i64 (k : Int)) := by
    have : (ts.drop off)[0]? = some (.int .i64 (k : Int)) := by rw [hts]; rfl
    rwa [List.getElem?_drop] at this
   have htail : ts.drop (off + 1) = natsT td := by
    rw [<- List.drop_drop, hts]
    rfl
   have hsub : subOK 1 (Int.ofNat (td.length + 1)) (td.length + 1) = true := decide_eq_true (by simp only [Int.ofNat_eq_natCast]; omega)
   have hrl : rowLen 1 (Int.ofNat (td.length + 1)) = td.length := by unfold rowLen; simp
   have ro1 : rowOff off 1 1 = off + 1 := by simp [rowOff]
   have ro0 : rowOff off 0 1 = off + 0 := by simp [rowOff]
   have ri0 : rowIn 0 (td.length + 1) = true := decide_eq_true (by omega)
   apply R82_2_step
   by_cases hbk : has been k = true
   . have := ih been td g g2 (off + 1) ts hb (fun j hj => htd j (by simp [hj])) (by omega) (by omega) htail (by omega)
     simp only [iLt_pos, cond_true, ri0, natEq_self, ro0, rowS_cells hoff, oS, int?_int, hsub, rowIn_lt hk, rowOff_1, rowS_cells (show (boolsT been)[0 + k]? = _ by rw [Nat.zero_add]; exact has_at hkl),
      bool?_bool, hbk, bNot, Bool.not_true, cond_false, objBd_cells, ro1, hrl, this, bfs1, if_true]
   . obtain ⟨r, r1, r2, r3⟩ := h.row (show k < t.above.length by rw [hg.a]; exact hk)
     rw [hg.row hk] at r3
     obtain ⟨off', ts', p1, p2, p3, p4⟩ := app_row (l := adjN t k) htail (by omega)
     have hfs := falses_set been k (has_false hkl (by simpa using hbk))
     have hal := hg.adj_len k
     have := ih (been.set k true) (td ++ adjN t k) g (appGen g2 (cellsT (natsT (adjN t k)))) off' ts' (by rw [List.length_set]; exact hb) (fun j hj => by
      rcases List.mem_append.1 hj with hj | hj
      . exact htd j (by simp [hj])
      . exact hg.adj_lt k hk j hj) (by rw [List.length_append]; omega) (by omega) p3 p4
     have hok : appOK (cellsT ts) (off + 1) td.length 1 (cellsT (natsT (adjN t k))) 8 = true := appOK_row (by omega) (by rw [List.length_map, maxB]; omega)
     have hb2 : has been k = false := by simpa using hbk
     rw [List.length_append] at this
     have hset : rowSet (cellsT (boolsT been)) (0 + k) [V.t (T.bool true)] = cellsT (boolsT (been.set k true)) := by
      rw [rowSet_cells (by rw [List.length_map]; omega), Nat.zero_add, set_at]
     have hsok : rowSetOK (cellsT (boolsT been)) (0 + k) [V.t (T.bool true)].length = true := rowSetOK_lt (by rw [List.length_map]; exact hkl)
     have hp : isPtrT (.ptr (ordT n e a w s)) = true := rfl
     simp only [iLt_pos, cond_true, ri0, natEq_self, ro0, rowS_cells hoff, oS, int?_int, hsub, rowIn_lt hk, rowOff_1, rowS_cells (show (boolsT been)[0 + k]? = _ by rw [Nat.zero_add]; exact has_at hkl),
      bool?_bool, hb2, bNot, Bool.not_false, hsok, hp, ord_fld h, h.f2, h.d2, r1, r2, elemsT_sl r3 (one_nats _), ro1, hrl, hok, hset, p1, p2, objBd_cells, appLen_cells, this, bfs1, if_neg, Bool.false_eq_true, if_false]
theorem zerosV_bools (n : Nat) : zerosV (n : Int) (.bool false) = cellsT (boolsT (List.replicate n false)) := by
 unfold zerosV zeros
 rw [Int.toNat_natCast]
 induction n with
 | zero => rfl
 | succ n ih => simp only [List.replicate_succ, List.flatten_cons, ih, List.map_cons]; rfl
theorem rowOf_nil : rowO acfg 96 [.nils] = some (.tup [.nilp, .nils]) := by
 apply row96
 rfl
theorem rowOf_sl (ex : Bool) (l : List Nat) (hl : l.length <= 20) : rowO acfg 96 [.sl ex 1 (natsT l)] = some (.tup [.nili, .int .i64 3, .int .i64 0, .int .i64 (l.length : Int), .nils, .tup (natsT l)]) := by
 apply row96
 have h1 : nilT (D.slice 3) (.sl ex 1 (natsT l)) = some false := rfl
 have h2 : appOK [] 0 0 1 (cellsT (natsT l)) 8 = true := appOK_row (cs := []) rfl (by rw [List.length_map, maxB]; omega)
 have h3 : elemsT none (.sl ex 1 (natsT l)) = some (cellsT (natsT l)) := elemsT_sl (.sl ex) (one_nats l)
 have h4 : appCs [] 0 (cellsT (natsT l)) = cellsT (natsT l) := by
  cases l with
  | nil => rfl
  | cons c l => exact appCs_one (cs := []) (off := 0) (one_nats _) (by simp)
 have h5 : appOff 0 (cellsT (natsT l)) = 0 := by cases l <;> rfl
 have h6 : appLen 0 (cellsT (natsT l)) = l.length := by rw [appLen_cells]; simp
 simp only [h1, oS, cond_false, h3, cond_true, h2, Nat.beq_refl, h4, allT_cells, h5, h6]
 rfl
theorem from_spec {t : Tbl} (hg : Good t) {n : List UInt8} {e a w s : T} (h : IsTbl t n e a w) {k : Nat} (hk : k < t.elems.length) :
  rowO acfg 82 [.ptr (ordT n e a w s), .int .i64 (k : Int)] =
   some (.tup [.nili, .int .i64 4, .int .i64 0, .int .i64 (t.elems.length : Int), .nils, .tup (boolsT (bfs1 (adjN t) 1000 (List.replicate t.elems.length false) (adjN t k)))]) := by
 apply row82
 obtain ⟨r, r1, r2, r3⟩ := h.row (show k < t.above.length by rw [hg.a]; exact hk)
 rw [hg.row hk] at r3
 have hp : isPtrT (.ptr (ordT n e a w s)) = true := rfl
 have h12 := hg.e12
 have hmk : makeOK (t.elems.length : Int) (t.elems.length : Int) 1 = true := decide_eq_true (by rw [show maxBytes = 140737488355328 from rfl]; omega)
 have hfl : falses (List.replicate t.elems.length false) <= t.elems.length := by have := falses_le (List.replicate t.elems.length false); rw [List.length_replicate] at this; exact this
 have hnat : natOf (t.elems.length : Int) = t.elems.length := Int.toNat_natCast _
 simp only [hp, cond_true, ord_fld h, h.f1, h.d1, oS, h.e.lenD, hmk, h.f2, h.d2, r1, r2, zerosV_bools, objBd_cells, hnat]
 have hal := hg.adj_len k
 cases r3 with
 | nil h0 =>
  obtain ⟨hh, hc⟩ := row_tree rowOf_nil
  have h00 : adjN t k = [] := List.map_eq_nil_iff.1 h0
  have hz : iLt 0 0 = false := rfl
  rw [hc, h00]
  simp only [oS, treeV, cond_true, freshTree, Bool.true_or, if_true]
  apply R82_1_step
  simp only [lenT, oS, hz, cond_false, Nat.beq_refl, cond_true, allT_cells]
  rfl
 | sl ex =>
  obtain ⟨p, p1, p2, p3⟩ := row_fresh (sh := none) (rowOf_sl ex (adjN t k) hal)
  rw [p1]
  simp only [oS, p2, cond_false, p3 true (.inl rfl)]
  have := from_loop hg h (s := s) 1000 (List.replicate t.elems.length false) (adjN t k) 0 1 0 (natsT (adjN t k)) List.length_replicate (hg.adj_lt k hk) (by omega) (by omega) rfl (by simp)
  simp only [objBd_cells, cond_true, this]
end Go.Proofs.Tryz

open Go Go.Apex Go.StepsTo
namespace Go.Proofs.Tryz
theorem push_len : ∀ (l : List Nat) (seen : List Bool) (td : List Nat), (push seen td l).1.length = seen.length
 | [], _, _ => rfl
 | k :: l, seen, td => by
  unfold push
  split
  . exact push_len l seen td
  . rw [push_len l, List.length_set]
theorem push_count : ∀ (l : List Nat) (seen : List Bool) (td : List Nat), (∀ k ∈ l, k < seen.length) -> falses (push seen td l).1 + (push seen td l).2.length = falses seen + td.length
 | [], _, _, _ => rfl
 | k :: l, seen, td, h => by
  unfold push
  split
  . exact push_count l seen td fun j hj => h j (by simp [hj])
  . rename_i hk
    rw [push_count l _ _ fun j hj => by rw [List.length_set]; exact h j (by simp [hj])]
    have := falses_set seen k (has_false (h k (by simp)) (by simpa using hk))
    rw [List.length_append]
    simp only [List.length_cons, List.length_nil]
    omega
theorem push_lt {n : Nat} : ∀ (l : List Nat) (seen : List Bool) (td : List Nat), (∀ k ∈ l, k < n) -> (∀ k ∈ td, k < n) -> ∀ k ∈ (push seen td l).2, k < n
 | [], _, _, _, h => h
 | k :: l, seen, td, h, h2 => by
  unfold push
  split
  . exact push_lt l seen td (fun j hj => h j (by simp [hj])) h2
  . refine push_lt l _ _ (fun j hj => h j (by simp [hj])) fun j hj => ?_
    rcases List.mem_append.1 hj with hj | hj
    . exact h2 j hj
    . have : j = k := by simpa using hj
      subst this
      exact h j (by simp)
theorem app_one {ts : List T} {off : Nat} {td : List Nat} (h : ts.drop off = natsT td) (hl : off + td.length = ts.length) (k : Nat) :
  appCs (cellsT ts) off [V.t (.int .i64 (k : Int))] = cellsT (natsT (td ++ [k])) := by
 have := appCs_one (cs := ts) (ys := natsT [k]) (off := off) (one_nats _) (by simp)
 rw [h, <- List.map_append] at this
 exact this
section
variable {t : Tbl} (hg : Good t) {n : List UInt8} {e a w : T} (h : IsTbl t n e a w)
include hg h
theorem steps_in5 {b : Int} {r : T} {x : T} {l : List Nat} (hx : IsSl (natsT l) x) (hl : ∀ k ∈ l, k < t.elems.length) (hl20 : l.length <= 20) : ∀ (rest : List Nat) (i : Nat) (seen : List Bool) (td : List Nat) (g g2 off : Nat) (ts : List T),
  l.drop i = rest -> seen.length = t.elems.length -> falses seen + td.length < 1000000 -> ts.drop off = natsT td -> off + td.length = ts.length →
  (∀ (g2' off' : Nat) (ts' : List T), ts'.drop off' = natsT (push seen td rest).2 -> off' + (push seen td rest).2.length = ts'.length →
   L106_4 b n e a w g 0 t.elems.length g2' off' (push seen td rest).2.length g (cellsT (boolsT (push seen td rest).1)) g2' (cellsT ts') = some r) →
  L106_5 b n e a w g 0 t.elems.length g2 off td.length x (i : Int) g (cellsT (boolsT seen)) g2 (cellsT ts) = some r := by
 intro rest
 induction rest with
 | nil =>
  intro i seen td g g2 off ts hd hs hc hts hlen hk
  have hi : l.length <= i := List.drop_eq_nil_iff.1 hd
  have hz : iLt (i : Int) (l.length : Int) = false := decide_eq_false (by omega)
  apply L106_5_step
  simp only [hx.lenD, oS, hz, cond_false, objBd_cells, cond_true]
  exact hk g2 off ts hts hlen
 | cons k rest ih =>
  intro i seen td g g2 off ts hd hs hc hts hlen hk
  have hi : i < l.length := by
   rcases Nat.lt_or_ge i l.length with h1 | h1
   . exact h1
   . rw [List.drop_eq_nil_iff.2 h1] at hd; cases hd
  rw [List.drop_eq_getElem_cons hi] at hd
  obtain ⟨hd1, hd2⟩ := List.cons.inj hd
  have hgd : l.getD i 0 = k := by rw [gD, gE hi, hd1]; rfl
  have hkn : k < t.elems.length := hl k (by rw [<- hd1]; exact List.getElem_mem hi)
  have hks : k < seen.length := by omega
  apply L106_5_step
  have hat : rowS none (cellsT (boolsT seen)) (0 + k) = some (.bool (has seen k)) := rowS_cells (by rw [Nat.zero_add]; exact has_at hks)
  by_cases hbk : has seen k = true
  . have hpk : push seen td (k :: rest) = push seen td rest := by rw [push, if_pos hbk]
    rw [hpk] at hk
    have := ih (i + 1) seen td g g2 off ts hd2 hs hc hts hlen hk
    simp only [hx.lenD, oS, iLt_len hi, cond_true, hx.idxD 0 hi, deref_int, int?_int, hgd, rowIn_lt hkn, natEq_self, rowOff_1, hat, bool?_bool, hbk, bNot, Bool.not_true, cond_false, objBd_cells, iAdd_nat (show i < 1000000 by omega), this]
  . have hb2 : has seen k = false := by simpa using hbk
    have hfs := falses_set seen k (has_false hks hb2)
    have hpk : push seen td (k :: rest) = push (seen.set k true) (td ++ [k]) rest := by rw [push, if_neg hbk]
    rw [hpk] at hk
    have := ih (i + 1) (seen.set k true) (td ++ [k]) g (g2 + 1) 0 (natsT (td ++ [k])) hd2 (by rw [List.length_set]; exact hs) (by rw [List.length_append]; simp only [List.length_cons, List.length_nil]; omega) rfl (by simp) hk
    rw [List.length_append] at this
    have hok : appOK (cellsT ts) off td.length 1 [V.t (T.int .i64 (k : Int))] 8 = true := appOK_row (ys := [T.int .i64 (k : Int)]) hlen (by simp only [List.length_cons, List.length_nil, maxB]; omega)
    have hset : rowSet (cellsT (boolsT seen)) (0 + k) [V.t (T.bool true)] = cellsT (boolsT (seen.set k true)) := by
     rw [rowSet_cells (by rw [List.length_map]; omega), Nat.zero_add, set_at]
    have hsok : rowSetOK (cellsT (boolsT seen)) (0 + k) [V.t (T.bool true)].length = true := rowSetOK_lt (by rw [List.length_map]; exact hks)
    have hl1 : td.length + [k].length = td.length + 1 := rfl
    rw [hl1] at this
    simp only [hx.lenD, oS, iLt_len hi, cond_true, hx.idxD 0 hi, deref_int, int?_int, hgd, rowIn_lt hkn, natEq_self, rowOff_1, hat, bool?_bool, hb2, bNot, Bool.not_false, hsok, hok, hset, app_one hts hlen, objBd_cells, appGen_one, appLen_one,
     iAdd_nat (show i < 1000000 by omega), this]
theorem steps_in3 {b : Int} {r : T} {x : T} {l : List Nat} (hx : IsSl (natsT l) x) (hl : ∀ k ∈ l, k < t.elems.length) (hl20 : l.length <= 20) : ∀ (rest : List Nat) (i : Nat) (seen : List Bool) (td : List Nat) (g g2 off : Nat) (ts : List T),
  l.drop i = rest -> seen.length = t.elems.length -> falses seen + td.length < 1000000 -> ts.drop off = natsT td -> off + td.length = ts.length →
  (∀ (g2' off' : Nat) (ts' : List T), ts'.drop off' = natsT (push seen td rest).2 -> off' + (push seen td rest).2.length = ts'.length →
   L106_4 b n e a w g 0 t.elems.length g2' off' (push seen td rest).2.length g (cellsT (boolsT (push seen td rest).1)) g2' (cellsT ts') = some r) →
  L106_3 b n e a w g 0 t.elems.length g2 off td.length x (i : Int) g (cellsT (boolsT seen)) g2 (cellsT ts) = some r := by
 intro rest
 induction rest with
 | nil =>
  intro i seen td g g2 off ts hd hs hc hts hlen hk
  have hi : l.length <= i := List.drop_eq_nil_iff.1 hd
  have hz : iLt (i : Int) (l.length : Int) = false := decide_eq_false (by omega)
  apply L106_3_step
  simp only [hx.lenD, oS, hz, cond_false, objBd_cells, cond_true]
  exact hk g2 off ts hts hlen
 | cons k rest ih =>
  intro i seen td g g2 off ts hd hs hc hts hlen hk
  have hi : i < l.length := by
   rcases Nat.lt_or_ge i l.length with h1 | h1
   . exact h1
   . rw [List.drop_eq_nil_iff.2 h1] at hd; cases hd
  rw [List.drop_eq_getElem_cons hi] at hd
  obtain ⟨hd1, hd2⟩ := List.cons.inj hd
  have hgd : l.getD i 0 = k := by rw [gD, gE hi, hd1]; rfl
  have hkn : k < t.elems.length := hl k (by rw [<- hd1]; exact List.getElem_mem hi)
  have hks : k < seen.length := by omega
  apply L106_3_step
  have hat : rowS none (cellsT (boolsT seen)) (0 + k) = some (.bool (has seen k)) := rowS_cells (by rw [Nat.zero_add]; exact has_at hks)
  by_cases hbk : has seen k = true
  . have hpk : push seen td (k :: rest) = push seen td rest := by rw [push, if_pos hbk]
    rw [hpk] at hk
    have := ih (i + 1) seen td g g2 off ts hd2 hs hc hts hlen hk
    simp only [hx.lenD, oS, iLt_len hi, cond_true, hx.idxD 0 hi, deref_int, int?_int, hgd, rowIn_lt hkn, natEq_self, rowOff_1, hat, bool?_bool, hbk, bNot, Bool.not_true, cond_false, objBd_cells, iAdd_nat (show i < 1000000 by omega), this]
  . have hb2 : has seen k = false := by simpa using hbk
    have hfs := falses_set seen k (has_false hks hb2)
    have hpk : push seen td (k :: rest) = push (seen.set k true) (td ++ [k]) rest := by rw [push, if_neg hbk]
    rw [hpk] at hk
    have := ih (i + 1) (seen.set k true) (td ++ [k]) g (g2 + 1) 0 (natsT (td ++ [k])) hd2 (by rw [List.length_set]; exact hs) (by rw [List.length_append]; simp only [List.length_cons, List.length_nil]; omega) rfl (by simp) hk
    rw [List.length_append] at this
    have hok : appOK (cellsT ts) off td.length 1 [V.t (T.int .i64 (k : Int))] 8 = true := appOK_row (ys := [T.int .i64 (k : Int)]) hlen (by simp only [List.length_cons, List.length_nil, maxB]; omega)
    have hset : rowSet (cellsT (boolsT seen)) (0 + k) [V.t (T.bool true)] = cellsT (boolsT (seen.set k true)) := by
     rw [rowSet_cells (by rw [List.length_map]; omega), Nat.zero_add, set_at]
    have hsok : rowSetOK (cellsT (boolsT seen)) (0 + k) [V.t (T.bool true)].length = true := rowSetOK_lt (by rw [List.length_map]; exact hks)
    have hl1 : td.length + [k].length = td.length + 1 := rfl
    rw [hl1] at this
    simp only [hx.lenD, oS, iLt_len hi, cond_true, hx.idxD 0 hi, deref_int, int?_int, hgd, rowIn_lt hkn, natEq_self, rowOff_1, hat, bool?_bool, hb2, bNot, Bool.not_false, hsok, hok, hset, app_one hts hlen, objBd_cells, appGen_one, appLen_one,
     iAdd_nat (show i < 1000000 by omega), this]
theorem steps_out {b : Nat} (hb : b < t.elems.length) : ∀ (f : Nat) (seen : List Bool) (td : List Nat) (g g2 off : Nat) (ts : List T), seen.length = t.elems.length -> (∀ k ∈ td, k < t.elems.length) -> falses seen + td.length <= f -> f < 1000000 →
  ts.drop off = natsT td -> off + td.length = ts.length →
  L106_4 (b : Int) n e a w g 0 t.elems.length g2 off td.length g (cellsT (boolsT seen)) g2 (cellsT ts) = some (.bool (has (bfs2 (adjN t) f seen td) b)) := by
 have fin : ∀ (seen : List Bool) (g g2 off : Nat) (ts : List T), seen.length = t.elems.length -> L106_4 (b : Int) n e a w g 0 t.elems.length g2 off 0 g (cellsT (boolsT seen)) g2 (cellsT ts) = some (.bool (has seen b)) := fun seen g g2 off ts hs => by
  apply L106_4_step
  have h0 : iLt 0 (nInt 0) = false := rfl
  have hat : rowS none (cellsT (boolsT seen)) (0 + b) = some (.bool (has seen b)) := rowS_cells (by rw [Nat.zero_add]; exact has_at (by omega))
  simp only [h0, cond_false, rowIn_lt hb, natEq_self, cond_true, rowOff_1, hat, oS, bool?_bool]
 intro f
 induction f with
 | zero =>
  intro seen td g g2 off ts hs htd hf hf2 hts hlen
  have : td = [] := List.eq_nil_of_length_eq_zero (by omega)
  subst this
  exact fin seen g g2 off ts hs
 | succ f ih =>
  intro seen td g g2 off ts hs htd hf hf2 hts hlen
  cases td with
  | nil => exact fin seen g g2 off ts hs
  | cons k td =>
   have hk := htd k (by simp)
   simp only [List.length_cons] at hf hlen ⊢
   have hoff : ts[off + 0]? = some (.int .i64 (k : Int)) := by
    have : (ts.drop off)[0]? = some (.int .i64 (k : Int)) := by rw [hts]; rfl
    rwa [List.getElem?_drop] at this
   have htail : ts.drop (off + 1) = natsT td := by
    rw [<- List.drop_drop, hts]
    rfl
   have hsub : subOK 1 (Int.ofNat (td.length + 1)) (td.length + 1) = true := decide_eq_true (by simp only [Int.ofNat_eq_natCast]; omega)
   have hrl : rowLen 1 (Int.ofNat (td.length + 1)) = td.length := by unfold rowLen; simp
   have ro1 : rowOff off 1 1 = off + 1 := by simp [rowOff]
   have ro0 : rowOff off 0 1 = off + 0 := by simp [rowOff]
   have ri0 : rowIn 0 (td.length + 1) = true := decide_eq_true (by omega)
   obtain ⟨r, r1, r2, r3⟩ := h.row (show k < t.above.length by rw [hg.a]; exact hk)
   rw [hg.row hk] at r3
   have hlt := hg.adj_lt k hk
   have hpc := push_count (adjN t k) seen td (fun j hj => by have := hlt j hj; omega)
   have := steps_in5 hg h (b := (b : Int)) (r := .bool (has (bfs2 (adjN t) (f + 1) seen (k :: td)) b)) r3 hlt (hg.adj_len k) (adjN t k) 0 seen td g g2 (off + 1) ts rfl hs (by omega) htail (by omega) fun g2' off' ts' q1 q2 =>
    ih _ _ g g2' off' ts' (by rw [push_len]; exact hs) (push_lt _ _ _ hlt fun j hj => htd j (by simp [hj])) (by omega) (by omega) q1 q2
   simp only [Int.ofNat_zero, Int.natCast_zero] at this
   apply L106_4_step
   simp only [iLt_pos, cond_true, h.f2, h.d2, oS, ri0, natEq_self, ro0, rowS_cells hoff, int?_int, r1, r2, hsub, objBd_cells, ro1, hrl, this]
theorem steps_spec {c b : Nat} (hc : c < t.elems.length) (hb : b < t.elems.length) : fnO acfg 106 [tblT n e a w, .int .i64 (c : Int), .int .i64 (b : Int)] = some (.bool (has (bfs2 (adjN t) 1000 (List.replicate t.elems.length false) [c]) b)) := by
 apply fn106
 have h12 := hg.e12
 have hmk : makeOK (t.elems.length : Int) (t.elems.length : Int) 1 = true := decide_eq_true (by rw [show maxBytes = 140737488355328 from rfl]; omega)
 have hfl : falses (List.replicate t.elems.length false) <= t.elems.length := by have := falses_le (List.replicate t.elems.length false); rw [List.length_replicate] at this; exact this
 have hnat : natOf (t.elems.length : Int) = t.elems.length := Int.toNat_natCast _
 simp only [h.v4, cond_true, h.f1, h.d1, oS, h.e.lenD, hmk, zerosV_bools, objBd_cells, hnat]
 obtain ⟨r, r1, r2, r3⟩ := h.row (show c < t.above.length by rw [hg.a]; exact hc)
 rw [hg.row hc] at r3
 have hlt := hg.adj_lt c hc
 have hal := hg.adj_len c
 have hrep : (List.replicate t.elems.length false).length = t.elems.length := List.length_replicate
 generalize hS : List.replicate t.elems.length false = S at *
 have hno : ∀ k, k < S.length -> has S k = false := fun k hk => by
  subst hS
  unfold has
  rw [gD, List.getElem?_replicate]
  split <;> rfl
 have hsub : subT 1 (.sl true 1 [.int .i64 (c : Int)]) (some 1) none none = some (.sl true 1 []) := rfl
 have hid : idxT 1 (.sl true 1 [.int .i64 (c : Int)]) 0 = some (.ptr (.int .i64 (c : Int))) := rfl
 have h01 : iLt 0 1 = true := rfl
 have h00 : iLt 0 0 = false := rfl
 have hlen1 : lenT (.sl true 1 [.int .i64 (c : Int)]) = some 1 := rfl
 have hlen0 : lenT (.sl true 1 []) = some 0 := rfl
 apply L106_1_step
 simp only [hlen1, oS, h01, cond_true, h.f2, h.d2, hid, deref_int, int?_int, r1, r2, hsub, objBd_cells]
 apply L106_2_step
 cases hl : adjN t c with
 | nil =>
  rw [hl] at r3
  have hL : lenT r = some 0 := r3.len
  simp only [hL, oS, h00, cond_false, objBd_cells, cond_true]
  apply L106_1_step
  have hat : rowS none (cellsT (boolsT S)) (0 + b) = some (.bool (has S b)) := rowS_cells (by rw [Nat.zero_add]; exact has_at (by omega))
  have e2 : bfs2 (adjN t) 1000 S [c] = S := by
   show bfs2 (adjN t) 999 (push S [] (adjN t c)).1 (push S [] (adjN t c)).2 = S
   rw [hl]
   rfl
  simp only [hlen0, oS, h00, cond_false, rowIn_lt hb, natEq_self, cond_true, rowOff_1, hat, bool?_bool, e2]
 | cons k rest =>
  rw [hl] at r3 hlt hal
  have hkn : k < t.elems.length := hlt k (by simp)
  have hks : k < S.length := by omega
  have hb2 := hno k hks
  have hpk : push S [] (k :: rest) = push (S.set k true) ([] ++ [k]) rest := by rw [push, if_neg (by rw [hb2]; simp)]
  have hfs := falses_set S k (has_false hks hb2)
  have hi : 0 < (k :: rest).length := by simp
  have hpc := push_count rest (S.set k true) [k] (fun j hj => by rw [List.length_set]; have := hlt j (by simp [hj]); omega)
  simp only [List.length_cons, List.length_nil] at hpc
  have := steps_in3 hg h (b := (b : Int)) (r := .bool (has (bfs2 (adjN t) 1000 S [c]) b)) r3 hlt hal rest 1 (S.set k true) [k] 0 1 0 (natsT [k]) rfl (by rw [List.length_set]; exact hrep) (by simp only [List.length_cons, List.length_nil]; omega) rfl rfl fun g2' off' ts' q1 q2 => by
    have e2 : bfs2 (adjN t) 1000 S [c] = bfs2 (adjN t) 999 (push (S.set k true) [k] rest).1 (push (S.set k true) [k] rest).2 := by
     show bfs2 (adjN t) 999 (push S [] (adjN t c)).1 (push S [] (adjN t c)).2 = _
     rw [hl, hpk]
     rfl
    rw [e2]
    exact steps_out hg h hb 999 _ _ 0 g2' off' ts' (by rw [push_len, List.length_set]; exact hrep) (push_lt _ _ _ (fun j hj => hlt j (by simp [hj])) (by simpa using hkn)) (by omega) (by omega) q1 q2
  have hidx := r3.idxD (α := Nat) 0 hi
  simp only [Int.ofNat_zero, Int.natCast_zero] at hidx
  have hgd : (k :: rest).getD 0 0 = k := rfl
  rw [hgd] at hidx
  have hz : iLt 0 ((k :: rest).length : Int) = true := decide_eq_true (by simp only [List.length_cons]; omega)
  have hat : rowS none (cellsT (boolsT S)) (0 + k) = some (.bool (has S k)) := rowS_cells (by rw [Nat.zero_add]; exact has_at hks)
  have hset : rowSet (cellsT (boolsT S)) (0 + k) [V.t (T.bool true)] = cellsT (boolsT (S.set k true)) := by
   rw [rowSet_cells (by rw [List.length_map]; omega), Nat.zero_add, set_at]
  have hsok : rowSetOK (cellsT (boolsT S)) (0 + k) [V.t (T.bool true)].length = true := rowSetOK_lt (by rw [List.length_map]; exact hks)
  have hbase : baseT none 1 (.sl true 1 []) = some [] := rfl
  have hnew : newOK ([] : List T).length [V.t (T.int .i64 (k : Int))].length 8 = true := rfl
  have hrow : rowNew [] [V.t (T.int .i64 (k : Int))] = cellsT (natsT [k]) := rowNew_one (xs := []) (ys := natsT [k]) OneL.nil (one_nats _)
  have hln : lenNew ([] : List T) [V.t (T.int .i64 (k : Int))] = 1 := rfl
  have hadd : iAdd .i64 0 1 = ((1 : Nat) : Int) := by decide
  simp only [r3.lenD, oS, hz, cond_true, hidx, deref_int, int?_int, rowIn_lt hkn, natEq_self, rowOff_1, hat, bool?_bool, hb2, bNot, Bool.not_false, hsok, hset, hbase, hnew, hrow, hln, hadd, objBd_cells]
  exact this
theorem both_spec {c : Nat} (hc : c < t.elems.length) (b : Nat) : has (bfs2 (adjN t) 1000 (List.replicate t.elems.length false) [c]) b = has (bfs1 (adjN t) 1000 (List.replicate t.elems.length false) (adjN t c)) b := by
 have h12 := hg.e12
 obtain ⟨_, _, h1, h2⟩ := both (n := t.elems.length) (adj := adjN t) (a := c) (D := 20) hc hg.adj_lt hg.adj_len (f := 1000) (g := 1000) (by omega) (by omega)
 rw [Bool.eq_iff_iff, h1, h2]
end
def belowB (t : Tbl) (c b : Nat) : Bool := has (bfs1 (adjN t) 1000 (List.replicate t.elems.length false) (adjN t c)) b
def leB (t : Tbl) (c b : Nat) : Bool := decide (c = b) || belowB t c b
theorem isBelow_ref {t : Tbl} (hg : Good t) {n : List UInt8} {e a w : T} (h : IsTbl t n e a w) {c b : Nat} (hc : c < t.elems.length) (hb : b < t.elems.length) :
  fnO acfg 111 [tblT n e a w, .int .i64 (c : Int), .int .i64 (b : Int)] = some (.bool (leB t c b)) := by
 apply fn111
 by_cases hcb : c = b
 . subst hcb
   have he : iEq (c : Int) (c : Int) = true := by simp [iEq]
   simp only [h.v4, cond_true, he, leB, decide_true, Bool.true_or]
 . have he : iEq (c : Int) (b : Int) = false := by simp [iEq]; omega
   simp only [h.v4, cond_true, he, cond_false, h.d4, oS, agg4, nth0, nth1, nth2, nth3, str?_str, steps_spec hg h hc hb, scalar_bool, bool?_bool, leB, hcb, decide_false, Bool.false_or, both_spec hg h hc, belowB]
end Go.Proofs.Tryz

open Go Go.Apex Go.StepsTo
namespace Go.Proofs.Tryz
def reach (t : Tbl) (k : Nat) : List Bool := bfs1 (adjN t) 1000 (List.replicate t.elems.length false) (adjN t k)
theorem bfs1_len (adj : Nat -> List Nat) : ∀ (f : Nat) (been : List Bool) (td : List Nat), (bfs1 adj f been td).length = been.length
 | 0, _, _ => rfl
 | f + 1, _, [] => rfl
 | f + 1, been, k :: td => by
  unfold bfs1
  split
  . exact bfs1_len adj f been td
  . rw [bfs1_len adj f, List.length_set]
theorem reach_len (t : Tbl) (k : Nat) : (reach t k).length = t.elems.length := by rw [reach, bfs1_len, List.length_replicate]
def rowOfK (t : Tbl) (k : Nat) : T := .sl false 1 (boolsT (reach t k))
def rowsK (t : Tbl) : List T := (upto 0 t.elems.length).map (rowOfK t)
theorem one_rows (l : List Nat) (t : Tbl) : OneL (l.map (rowOfK t)) := OneL.map (fun _ => rfl) l
def ordP (t : Tbl) (n : List UInt8) (e a w : T) : T := .ptr (ordT n e a w (.sl false 1 (rowsK t)))
theorem upto_get {n k : Nat} (h : k < n) : (upto 0 n)[k]? = some k := by
 unfold upto
 rw [List.getElem?_range' (by omega)]
 simp
theorem treeOf_cells {ts : List T} (h : OneL ts) : treeOf none (cellsT ts) 0 ts.length = some (.sl false 1 ts) := by
 unfold treeOf rowTree
 rw [elemsFrom_cells _ 0 _ (by simp)]
 simp only [oS, allT_cells, List.drop_zero, List.take_length]
 have hall : (ts.all fun x => x.fits none) = true := List.all_eq_true.2 fun x hx => h x hx
 rw [if_pos hall]
 rfl
theorem upto_snoc {i : Nat} : upto 0 (i + 1) = upto 0 i ++ [i] := by
 unfold upto
 simp only [Nat.sub_zero]
 rw [List.range'_concat]
 simp
section
variable {t : Tbl} (hg : Good t) {n : List UInt8} {e a w : T} (h : IsTbl t n e a w)
include hg h
theorem from_row (s : T) {k : Nat} (hk : k < t.elems.length) : ∃ p, callO acfg 82 [.ptr (ordT n e a w s), .int .i64 (k : Int)] = some p /\ treeV p.1 = false /\ freshRow false 4 none p = some (0, t.elems.length, cellsT (boolsT (reach t k))) := by
 have h1 := from_spec hg h (s := s) hk
 obtain ⟨p, p1, p2, p3⟩ := row_fresh (sh := none) (off := 0) h1
 exact ⟨p, p1, p2, p3 false (.inr (List.all_eq_true.2 fun x hx => by
  obtain ⟨b, _, rfl⟩ := List.mem_map.1 hx
  rfl))⟩
theorem open_loop : ∀ i, i <= t.elems.length -> ∀ g, 1 <= i -> L45_2 (t.elems.length : Int) (i : Int) n e a w g 0 i g (cellsT ((upto 0 i).map (rowOfK t))) = some (.tup [ordP t n e a w, .int .i64 0]) := by
 have h12 := hg.e12
 have hlen : ∀ i, ((upto 0 i).map (rowOfK t)).length = i := fun i => by simp [upto]
 have hro : ∀ i, rowT none (cellsT ((upto 0 i).map (rowOfK t))) 0 i = some ((upto 0 i).map (rowOfK t)) := fun i => by
  have := rowT_all (one_rows (upto 0 i) t)
  rwa [hlen] at this
 refine upto_induct ?_ fun i hi ih => ?_
 . intro g _
   apply L45_2_step
   simp only [iLt_end, cond_false, natEq_self, cond_true, hro, oS]
   rfl
 . intro g h1
   obtain ⟨p, p1, p2, p3⟩ := from_row hg h (.sl false 1 ((upto 0 i).map (rowOfK t))) hi
   have htr : treeOf none (cellsT (boolsT (reach t i))) 0 t.elems.length = some (rowOfK t i) := by
    have := treeOf_cells (one_bools (reach t i))
    rw [List.length_map, reach_len] at this
    exact this
   have vf : vfits (V.t (rowOfK t i)) none = true := rfl
   have hok : appOK (cellsT ((upto 0 i).map (rowOfK t))) 0 i 1 [V.t (rowOfK t i)] 24 = true := appOK_row (ys := [rowOfK t i]) (by rw [hlen]; omega) (by simp only [List.length_cons, List.length_nil, maxB]; omega)
   have hcs : appCs (cellsT ((upto 0 i).map (rowOfK t))) 0 [V.t (rowOfK t i)] = cellsT ((upto 0 (i + 1)).map (rowOfK t)) := by
    have := appCs_one (cs := (upto 0 i).map (rowOfK t)) (ys := [rowOfK t i]) (off := 0) (OneL.cons rfl OneL.nil) (by simp)
    rw [upto_snoc, List.map_append]
    simpa using this
   have vm : ∀ g o l, vfits (V.msl 28 g o l none) none = true := fun _ _ _ => rfl
   have := ih (g + 1) (by omega)
   apply L45_2_step
   simp only [iLt_len hi, cond_true, natEq_self, hro, oS, p1, p2, cond_false, p3, htr, vf, hok, vm, hcs, objBd_cells, appGen_one, appLen_one, iAdd_nat (show i < 1000000 by omega), this]
theorem open_spec (hs : Small t) : fnO acfg 45 [tblT n e a w] = some (bif checkB t then .tup [ordP t n e a w, .int .i64 0] else .tup [.nilp, .int .i64 4]) := by
 have h12 := hg.e12
 apply fn45
 have i0 : iEq 0 0 = true := rfl
 have i4 : iEq 4 0 = false := rfl
 cases hc : checkB t with
 | false =>
  simp only [h.v4, cond_true, h.d4, oS, agg4, nth0, nth1, nth2, nth3, str?_str, check_spec h hs, hc, scalar_int, int?_int, cond_false, i4, bNot, Bool.not_false]
 | true =>
  have v5 : vfits (.t (T.agg [.str n, e, a, w, .nils])) (some 5) = true := by
   show (true && (5 == 5) && ((T.str n).one && (e.one && (a.one && (w.one && (true && true)))))) = true
   rw [h.e.one, h.a1, h.w.one]
   rfl
  have hpos : 0 < t.elems.length := hg.e1
  obtain ⟨p, p1, p2, p3⟩ := from_row hg h .nils hpos
  have htr : treeOf none (cellsT (boolsT (reach t 0))) 0 t.elems.length = some (rowOfK t 0) := by
   have := treeOf_cells (one_bools (reach t 0))
   rw [List.length_map, reach_len] at this
   exact this
  have vf : vfits (V.t (rowOfK t 0)) none = true := rfl
  have vm : ∀ g o l, vfits (V.msl 28 g o l none) none = true := fun _ _ _ => rfl
  have hbase : baseT none 1 .nils = some [] := rfl
  have hnew : newOK ([] : List T).length [V.t (rowOfK t 0)].length 24 = true := rfl
  have hrow : rowNew [] [V.t (rowOfK t 0)] = cellsT ((upto 0 1).map (rowOfK t)) := rowNew_one (xs := []) (ys := [rowOfK t 0]) OneL.nil (OneL.cons rfl OneL.nil)
  have hln : lenNew ([] : List T) [V.t (rowOfK t 0)] = 1 := rfl
  have hadd : iAdd .i64 0 1 = ((1 : Nat) : Int) := by decide
  have hz : iLt 0 (t.elems.length : Int) = true := decide_eq_true (by omega)
  have := open_loop hg h 1 (by omega) 1 (by omega)
  simp only [Int.natCast_zero] at p1
  simp only [h.v4, cond_true, h.d4, oS, agg4, nth0, nth1, nth2, nth3, str?_str, check_spec h hs, hc, scalar_int, int?_int, cond_false, i0, bNot, Bool.not_true, v5, h.f1, h.d1, h.e.lenD]
  apply L45_1_step
  simp only [hz, cond_true, p1, oS, p2, cond_false, p3, htr, vf, hbase, hnew, hrow, hln, vm, hadd, objBd_cells, this]
end
section
variable {t : Tbl} (hg : Good t) {n : List UInt8} {e a w : T} (h : IsTbl t n e a w)
omit hg in
theorem ord_isPtr : isPtrT (ordP t n e a w) = true := rfl
theorem ord_f4 : fldT 4 none (ordP t n e a w) = some (.ptr (.sl false 1 (rowsK t))) := fld_at rfl rfl
theorem ord_d4 : derefT none (.ptr (.sl false 1 (rowsK t))) = some (.sl false 1 (rowsK t)) := rfl
theorem ord_row {k : Nat} (hk : k < t.elems.length) : idxT 1 (.sl false 1 (rowsK t)) (k : Int) = some (.ptr (rowOfK t k)) :=
 (IsSl.sl false).idx (by unfold rowsK; rw [List.getElem?_map, upto_get hk]; rfl)
theorem ord_rowd (k : Nat) : derefT none (.ptr (rowOfK t k)) = some (rowOfK t k) := rfl
theorem row_at {k b : Nat} (hb : b < t.elems.length) : idxT 1 (rowOfK t k) (b : Int) = some (.ptr (.bool (belowB t k b))) :=
 (IsSl.sl false).idx (has_at (by rw [reach_len]; exact hb))
theorem isBelow_spec {c b : Nat} (hc : c < t.elems.length) (hb : b < t.elems.length) : fnO acfg 53 [ordP t n e a w, .int .i64 (c : Int), .int .i64 (b : Int)] = some (.bool (leB t c b)) := by
 apply fn53
 by_cases hcb : c = b
 . subst hcb
   have he : iEq (c : Int) (c : Int) = true := by simp [iEq]
   simp only [he, cond_true, leB, decide_true, Bool.true_or]
 . have he : iEq (c : Int) (b : Int) = false := by simp [iEq]; omega
   simp only [he, cond_false, ord_isPtr, cond_true, ord_f4, oS, ord_d4, ord_row hc, ord_rowd, row_at hb, deref_bool, bool?_bool, leB, hcb, decide_false, Bool.false_or]
include h in
theorem ord_f0 : fldT 0 (some 4) (ordP t n e a w) = some (.ptr (tblT n e a w)) := ord_fld h
include hg h in
theorem where_spec {f : T} {p : Nat -> Bool} (hf : ∀ i, i < t.elems.length -> callT acfg f [.int .i64 (i : Int)] = some (.bool (p i))) :
  ∃ y, fnO acfg 51 [ordP t n e a w, f] = some y /\ IsSl (natsT ((upto 0 t.elems.length).filter p)) y := by
 have h12 := hg.e12
 have two : ∀ i, i <= t.elems.length -> ∀ (acc : List Nat) (g : Nat), acc.length <= i -> L51_2 f g 0 acc.length (t.elems.length : Int) (i : Int) g (cellsT (natsT acc)) = some (.sl false 1 (natsT (acc ++ (upto i t.elems.length).filter p))) := by
  refine upto_induct ?_ fun i hi ih => ?_
  . intro acc g hl
    have := rowT_all (one_nats acc)
    rw [List.length_map] at this
    apply L51_2_step
    simp only [iLt_end, cond_false, natEq_self, cond_true, this, oS, upto_end (Nat.le_refl _), List.filter_nil, List.append_nil]
  . intro acc g hl
    apply L51_2_step
    cases hp : p i with
    | false =>
     have := ih acc g (by omega)
     simp only [iLt_len hi, cond_true, hf i hi, oS, bool?_bool, hp, cond_false, objBd_cells, iAdd_nat (show i < 1000000 by omega), this, upto_step hi, List.filter_cons, Bool.false_eq_true, if_false]
    | true =>
     have := ih (acc ++ [i]) (g + 1) (by rw [List.length_append]; simp only [List.length_cons, List.length_nil]; omega)
     rw [List.length_append] at this
     have hl1 : acc.length + [i].length = acc.length + 1 := rfl
     rw [hl1] at this
     have hok : appOK (cellsT (natsT acc)) 0 acc.length 1 [V.t (T.int .i64 (i : Int))] 8 = true := appOK_row (ys := [T.int .i64 (i : Int)]) (by simp) (by simp only [List.length_cons, List.length_nil, maxB]; omega)
     simp only [iLt_len hi, cond_true, hf i hi, oS, bool?_bool, hp, natEq_self, hok, app_one (ts := natsT acc) (off := 0) (td := acc) rfl (by simp), objBd_cells, appGen_one, appLen_one, iAdd_nat (show i < 1000000 by omega), this,
      upto_step hi, List.filter_cons, if_true, List.append_assoc, List.cons_append, List.nil_append]
 have one : ∀ i, i <= t.elems.length -> ∃ y, L51_1 f (t.elems.length : Int) (i : Int) = some y /\ IsSl (natsT ((upto i t.elems.length).filter p)) y := by
  refine upto_induct ?_ fun i hi ih => ?_
  . refine ⟨.nils, ?_, .nil (by rw [upto_end (Nat.le_refl _)]; rfl)⟩
    apply L51_1_step
    simp only [iLt_end, cond_false]
  . cases hp : p i with
    | false =>
     obtain ⟨y, y1, y2⟩ := ih
     refine ⟨y, ?_, by rw [upto_step hi, List.filter_cons, hp]; exact y2⟩
     apply L51_1_step
     simp only [iLt_len hi, cond_true, hf i hi, oS, bool?_bool, hp, cond_false, iAdd_nat (show i < 1000000 by omega), y1]
    | true =>
     by_cases h0 : i = i
     . have := two (i + 1) (by omega) [i] 1 (by simp)
       refine ⟨.sl false 1 (natsT ([i] ++ (upto (i + 1) t.elems.length).filter p)), ?_, by rw [upto_step hi, List.filter_cons, hp]; exact .sl _⟩
       have hbase : baseT none 1 .nils = some [] := rfl
       have hnew : newOK ([] : List T).length [V.t (T.int .i64 (i : Int))].length 8 = true := rfl
       have hrow : rowNew [] [V.t (T.int .i64 (i : Int))] = cellsT (natsT [i]) := rowNew_one (xs := []) (ys := natsT [i]) OneL.nil (one_nats _)
       have hln : lenNew ([] : List T) [V.t (T.int .i64 (i : Int))] = 1 := rfl
       have hl1 : [i].length = 1 := rfl
       rw [hl1] at this
       apply L51_1_step
       simp only [iLt_len hi, cond_true, hf i hi, oS, bool?_bool, hp, hbase, hnew, hrow, hln, objBd_cells, iAdd_nat (show i < 1000000 by omega), this]
     . exact absurd rfl h0
 obtain ⟨y, y1, y2⟩ := one 0 (by omega)
 refine ⟨y, ?_, y2⟩
 apply fn51
 simp only [ord_isPtr, cond_true, ord_f0 h, oS, h.f1, h.d1, h.e.lenD]
 exact y1
end
end Go.Proofs.Tryz

open Go Go.Apex Go.StepsTo
namespace Go.Proofs.Tryz
theorem mode84 : acfg.mode 84 = .scalar := by kernel_rfl
theorem mode85 : acfg.mode 85 = .scalar := by kernel_rfl
theorem mode101 : acfg.mode 101 = .scalar := by kernel_rfl
theorem mode102 : acfg.mode 102 = .scalar := by kernel_rfl
theorem mode79 : acfg.mode 79 = .scalar := by kernel_rfl
theorem mode80 : acfg.mode 80 = .scalar := by kernel_rfl
def firstB (t : Tbl) (p : Nat -> Bool) : Option Nat := ((upto 0 t.elems.length).filter p).head?
def ubs (t : Tbl) (i j : Nat) : List Nat := (upto 0 t.elems.length).filter fun k => leB t i k && leB t j k
def lubB (t : Tbl) (us : List Nat) : Bool := us.any fun m => us.all fun k => leB t m k
theorem ubs_lt {t : Tbl} {i j k : Nat} (h : k ∈ ubs t i j) : k < t.elems.length := (mem_upto.1 (List.mem_filter.1 h).1).2
theorem ubs_len (t : Tbl) (i j : Nat) : (ubs t i j).length <= t.elems.length := by
 refine Nat.le_trans (List.length_filter_le _ _) ?_
 simp [upto]
theorem all_getD (l : List Nat) (q : Nat -> Bool) : (upto 0 l.length).all (fun i => q (l.getD i 0)) = l.all q := by
 rw [Bool.eq_iff_iff, List.all_eq_true, List.all_eq_true]
 constructor
 . intro h x hx
   obtain ⟨i, hi, he⟩ := mem_getD (d := 0) hx
   have := h i (mem_upto.2 ⟨by omega, hi⟩)
   rwa [he] at this
 . intro h i hi
   exact h _ (getD_mem 0 (mem_upto.1 hi).2)
theorem ints_nats (l : List Nat) : ints (l.map Int.ofNat) = natsT l := by unfold ints natsT; rw [List.map_map]; rfl
theorem getD_ofNat (l : List Nat) (i : Nat) : (l.map Int.ofNat).getD i 0 = ((l.getD i 0 : Nat) : Int) := by
 simp only [gD, List.getElem?_map]
 cases l[i]? <;> rfl
theorem index_spec2 {x f : T} {l : List Nat} (hx : IsSl (natsT l) x) (hl : l.length < 1000000) {q : Nat -> Bool} (hf : ∀ k ∈ l, callT acfg f [.int .i64 (k : Int)] = some (.bool (q k))) :
  fnO acfg 81 [x, f] = some (.int .i64 (findI (fun i => q (l.getD i 0)) 0 l.length)) := by
 have key : ∀ i, i <= l.length -> L81_1 x f (l.length : Int) (i : Int) = some (.int .i64 (findI (fun i => q (l.getD i 0)) i l.length)) := by
  refine upto_induct ?_ fun i hi ih => ?_
  . apply L81_1_step
    simp only [iLt_end, cond_false, findI_end (Nat.le_refl _)]
  . apply L81_1_step
    have hk := hf (l.getD i 0) (getD_mem 0 hi)
    simp only [iLt_len hi, cond_true, hx.idxD 0 hi, oS, deref_int, int?_int, hk, bool?_bool, iAdd_nat (show i < 1000000 by omega), ih, findI_step hi]
    cases q (l.getD i 0) <;> simp
 apply fn81
 simp only [hx.lenD, oS]
 exact key 0 (by omega)
section
variable {t : Tbl} (hg : Good t) {n : List UInt8} {e a w : T} (h : IsTbl t n e a w)
include hg h
theorem first_spec {f : T} {p : Nat -> Bool} (hf : ∀ i, i < t.elems.length -> callT acfg f [.int .i64 (i : Int)] = some (.bool (p i))) :
  fnO acfg 83 [ordP t n e a w, f] = some (.tup [.int .i64 (((firstB t p).getD 0 : Nat) : Int), .bool (firstB t p).isSome]) := by
 obtain ⟨y, y1, y2⟩ := where_spec hg h hf
 apply fn83
 rw [y1]
 unfold firstB
 cases hl : (upto 0 t.elems.length).filter p with
 | nil =>
  rw [hl] at y2
  have hL : lenT y = some 0 := y2.len
  have : iEq 0 0 = true := rfl
  simp only [oS, hL, this, cond_true]
  rfl
 | cons k l =>
  rw [hl] at y2
  have he : iEq ((k :: l).length : Int) 0 = false := by simp [iEq]; omega
  have hx := y2.idxD (α := Nat) 0 (show 0 < (k :: l).length by simp)
  have hgd : (k :: l).getD 0 0 = k := rfl
  rw [hgd] at hx
  simp only [Int.natCast_zero] at hx
  simp only [oS, y2.lenD, he, cond_false, hx, deref_int, int?_int]
  rfl
theorem clo84 {i : Nat} (hi : i < t.elems.length) : callT acfg (.fn (.func 84) [] [.ptr (ordP t n e a w)]) [.int .i64 (i : Int)] = some (.bool (belowB t i i)) := by
 refine callT_scalar mode84 ?_ rfl
 apply fn84
 have hd : derefT none (.ptr (ordP t n e a w)) = some (ordP t n e a w) := rfl
 simp only [hd, oS, ord_isPtr, cond_true, ord_f4, ord_d4, ord_row hi, ord_rowd, row_at hi, deref_bool, bool?_bool]
theorem clo85 {i : Nat} (hi : i < t.elems.length) : callT acfg (.fn (.func 85) [] [.ptr (ordP t n e a w)]) [.int .i64 (i : Int)] = some (.bool (!leB t 0 i)) := by
 refine callT_scalar mode85 ?_ rfl
 apply fn85
 have hd : derefT none (.ptr (ordP t n e a w)) = some (ordP t n e a w) := rfl
 have := isBelow_spec (t := t) (n := n) (e := e) (a := a) (w := w) (show 0 < t.elems.length from hg.e1) hi
 simp only [Int.natCast_zero] at this
 simp only [hd, oS, this, scalar_bool, cond_true, bool?_bool, bNot]
theorem clo102 {k x : Nat} (z : Int) (hk : k < t.elems.length) (hx : x < t.elems.length) : callT acfg (.fn (.func 102) [] [.ptr (ordP t n e a w), .ptr (.int .i64 (x : Int))]) [.int .i64 z, .int .i64 (k : Int)] = some (.bool (leB t k x)) := by
 refine callT_scalar mode102 ?_ rfl
 apply fn102
 have hd : derefT none (.ptr (ordP t n e a w)) = some (ordP t n e a w) := rfl
 simp only [hd, oS, deref_int, int?_int, isBelow_spec hk hx, scalar_bool, cond_true, bool?_bool]
theorem clo80 {k x : Nat} (z : Int) (hk : k < t.elems.length) (hx : x < t.elems.length) : callT acfg (.fn (.func 80) [] [.ptr (ordP t n e a w), .ptr (.int .i64 (x : Int))]) [.int .i64 z, .int .i64 (k : Int)] = some (.bool (leB t x k)) := by
 refine callT_scalar mode80 ?_ rfl
 apply fn80
 have hd : derefT none (.ptr (ordP t n e a w)) = some (ordP t n e a w) := rfl
 simp only [hd, oS, deref_int, int?_int, isBelow_spec hx hk, scalar_bool, cond_true, bool?_bool]
theorem all110 {us : T} {l : List Nat} (hu : IsSl (natsT l) us) (hl : ∀ k ∈ l, k < t.elems.length) (hl2 : l.length < 1000000) {x : Nat} (hx : x < t.elems.length) :
  fnO acfg 61 [us, .fn (.func 102) [] [.ptr (ordP t n e a w), .ptr (.int .i64 (x : Int))]] = some (.bool (l.all fun k => leB t k x)) := by
 rw [<- ints_nats] at hu
 have := allInts_spec (p := fun i => leB t (l.getD i 0) x) hu (by simpa using hl2) fun i hi => by
  rw [getD_ofNat]
  exact clo102 hg h _ (hl _ (getD_mem 0 (by simpa using hi))) hx
 rw [List.length_map, all_getD l fun k => leB t k x] at this
 exact this
theorem all101 {us : T} {l : List Nat} (hu : IsSl (natsT l) us) (hl : ∀ k ∈ l, k < t.elems.length) (hl2 : l.length < 1000000) {x : Nat} (hx : x < t.elems.length) :
  fnO acfg 61 [us, .fn (.func 80) [] [.ptr (ordP t n e a w), .ptr (.int .i64 (x : Int))]] = some (.bool (l.all fun k => leB t x k)) := by
 rw [<- ints_nats] at hu
 have := allInts_spec (p := fun i => leB t x (l.getD i 0)) hu (by simpa using hl2) fun i hi => by
  rw [getD_ofNat]
  exact clo80 hg h _ (hl _ (getD_mem 0 (by simpa using hi))) hx
 rw [List.length_map, all_getD l fun k => leB t x k] at this
 exact this
theorem bounds_spec {i j : Nat} (hi : i < t.elems.length) (hj : j < t.elems.length) : ∃ y, fnO acfg 78 [ordP t n e a w, .sl true 1 [.int .i64 (i : Int), .int .i64 (j : Int)]] = some y /\ IsSl (natsT (ubs t i j)) y := by
 have hu : IsSl (natsT [i, j]) (.sl true 1 [.int .i64 (i : Int), .int .i64 (j : Int)]) := .sl true
 have hd : derefT none (.ptr (ordP t n e a w)) = some (ordP t n e a w) := rfl
 obtain ⟨y, y1, y2⟩ := where_spec hg h (f := .fn (.func 101) [] [.ptr (.sl true 1 [.int .i64 (i : Int), .int .i64 (j : Int)]), .ptr (ordP t n e a w)]) (p := fun k => leB t i k && leB t j k) fun k hk => by
  refine callT_scalar mode101 ?_ rfl
  apply fn101
  have hd2 : derefT none (.ptr (.sl true 1 [.int .i64 (i : Int), .int .i64 (j : Int)])) = some (.sl true 1 [.int .i64 (i : Int), .int .i64 (j : Int)]) := rfl
  have := all110 hg h hu (fun q hq => by
   rcases List.mem_cons.1 hq with rfl | hq
   . exact hi
   . have : q = j := by simpa using hq
     subst this; exact hj) (by simp) hk
  simp only [hd2, oS, this, scalar_bool, cond_true, bool?_bool, List.all_cons, List.all_nil, Bool.and_true]
 refine ⟨y, ?_, y2⟩
 apply fn78
 have v1 : vfits (V.t (ordP t n e a w)) none = true := rfl
 have v2 : vfits (V.t (T.sl true 1 [.int .i64 (i : Int), .int .i64 (j : Int)])) none = true := rfl
 simp only [v1, v2, cond_true, hd, oS, y1]
omit hg h in
theorem findI_any {l : List Nat} {q : Nat -> Bool} : (findI (fun i => q (l.getD i 0)) 0 l.length = -1 /\ l.any q = false) \/ ∃ i, i < l.length /\ findI (fun i => q (l.getD i 0)) 0 l.length = (i : Int) /\ l.any q = true := by
 unfold findI
 cases hf : (upto 0 l.length).find? (fun i => q (l.getD i 0)) with
 | none =>
  refine .inl ⟨rfl, ?_⟩
  rw [List.find?_eq_none] at hf
  rw [List.any_eq_false]
  intro x hx
  obtain ⟨i, hi, he⟩ := mem_getD (d := 0) hx
  have := hf i (mem_upto.2 ⟨by omega, hi⟩)
  rwa [he] at this
 | some i =>
  have h1 := List.mem_of_find?_eq_some hf
  have h2 := List.find?_some hf
  have hi := (mem_upto.1 h1).2
  exact .inr ⟨i, hi, rfl, List.any_eq_true.2 ⟨_, getD_mem 0 hi, h2⟩⟩
theorem join_spec {i j : Nat} (hi : i < t.elems.length) (hj : j < t.elems.length) : ∃ z : Int, fnO acfg 44 [ordP t n e a w, .int .i64 (i : Int), .int .i64 (j : Int)] = some (.tup [.int .i64 z, .bool (lubB t (ubs t i j))]) := by
 have h12 := hg.e12
 obtain ⟨y, y1, y2⟩ := bounds_spec hg h hi hj
 have hd : derefT none (.ptr (ordP t n e a w)) = some (ordP t n e a w) := rfl
 have hul := ubs_len t i j
 have hix := index_spec2 (f := .fn (.func 79) [] [.ptr y, .ptr (ordP t n e a w)]) (q := fun m => (ubs t i j).all fun k => leB t m k) y2 (by omega) fun m hm => by
  refine callT_scalar mode79 ?_ rfl
  apply fn79
  have hm2 := ubs_lt hm
  simp only [deref_one y2.one, oS, all101 hg h y2 (fun k hk => ubs_lt hk) (by omega) hm2, scalar_bool, cond_true, bool?_bool]
 have v1 : vfits (V.t (ordP t n e a w)) none = true := rfl
 rcases findI_any (l := ubs t i j) (q := fun m => (ubs t i j).all fun k => leB t m k) with ⟨h1, h2⟩ | ⟨q, hq, h1, h2⟩
 . refine ⟨0, ?_⟩
   apply fn44
   have hz : iLt (-1) 0 = true := rfl
   simp only [v1, cond_true, hd, oS, y1, vfits_one y2.one, oneT_one y2.one, deref_one y2.one, hix, h1, scalar_int, int?_int, hz, lubB, h2]
 . refine ⟨((ubs t i j).getD q 0 : Nat), ?_⟩
   apply fn44
   have hz : iLt (q : Int) 0 = false := decide_eq_false (by omega)
   simp only [v1, cond_true, hd, oS, y1, vfits_one y2.one, oneT_one y2.one, deref_one y2.one, hix, h1, scalar_int, int?_int, hz, cond_false, y2.idxD 0 hq, deref_int, lubB, h2]
end
end Go.Proofs.Tryz

open Go Go.Apex Go.StepsTo
namespace Go.Proofs.Tryz
abbrev Br := Nat × Nat × Nat
def tripT (b : Br) : T := .agg [.int .u8 (b.1 : Int), .int .i64 (b.2.1 : Int), .int .i64 (b.2.2 : Int)]
def pairB (t : Tbl) (i j : Nat) : Option Br := if (ubs t i j).isEmpty = true then some (3, i, j) else if lubB t (ubs t i j) = true then none else some (4, i, j)
def pairsB (t : Tbl) : Option Br := (upto 0 t.elems.length).findSome? fun i => (upto (i + 1) t.elems.length).findSome? fun j => pairB t i j
def badB (t : Tbl) (i j : Nat) : Option Br := if t.wrong.getD i false = true /\ t.wrong.getD j false = false /\ leB t i j = true then some (5, i, j) else none
def wrongsB (t : Tbl) : Option Br := if t.wrong.getD 0 false = true then some (5, 0, 0) else (upto 0 t.elems.length).findSome? fun i => (upto 0 t.elems.length).findSome? fun j => badB t i j
def brk (t : Tbl) : Option Br :=
 match firstB t (fun k => belowB t k k) with
 | some k => some (1, k, 0)
 | none => match firstB t (fun k => !leB t 0 k) with
  | some k => some (2, k, 0)
  | none => match pairsB t with
   | some b => some b
   | none => wrongsB t
def outT (b : Option Br) : T := .tup [tripT (b.getD (0, 0, 0)), .bool b.isSome]
def orR (b : Option Br) (R : T) : T := match b with
 | some b => .tup [tripT b, .bool true]
 | none => R
theorem tripfits (k i j : Int) : vfits (.t (T.agg [.int .u8 k, .int .i64 i, .int .i64 j])) (some 3) = true := rfl
theorem findSome_step {g : Nat -> Option Br} {i n : Nat} (h : i < n) : (upto i n).findSome? g = (g i).or ((upto (i + 1) n).findSome? g) := by
 rw [upto_step h, List.findSome?_cons]
 cases g i <;> rfl
section
variable {t : Tbl} (hg : Good t) {n : List UInt8} {e a w : T} (h : IsTbl t n e a w)
include hg h
theorem wrongs_in {i : Nat} (hi : i < t.elems.length) {R : T} (v0 : T) (v1 : T) (v2 : T) (v3 : T) (v4 : T) (v5 : T) (v6 : T) (v7 : T) (v8 : Bool) (v9 : T) (v10 : T) (v11 : T) (v17 : Int) (v18 : Int) (v19 : Int) (v20 : Bool) (v21 : T) (v23 : T) (v24 : T) (v25 : T) (v26 : T) (v27 : T) (v28 : T) (v29 : Bool) (v30 : T) (v31 : T) (hR : L87_1 v0 v1 v2 v3 v4 v5 v6 v7 v8 v9 v10 v11 (t.elems.length : Int) (iAdd .i64 (i : Int) 1) v17 v18 v19 v20 v21 (.ptr (ordP t n e a w)) v23 v24 v25 v26 v27 v28 v29 v30 v31 = some R) :
  ∀ j, j <= t.elems.length -> L87_2 v0 v1 v2 v3 v4 v5 v6 v7 v8 v9 v10 v11 (i : Int) (t.elems.length : Int) (i : Int) (t.elems.length : Int) (j : Int) v17 v18 v19 v20 v21 (.ptr (ordP t n e a w)) v23 v24 v25 v26 v27 v28 v29 v30 v31 = some (orR ((upto j t.elems.length).findSome? (badB t i)) R) := by
 have h12 := hg.e12
 have hd : derefT none (.ptr (ordP t n e a w)) = some (ordP t n e a w) := rfl
 have hwl := hg.w
 refine upto_induct ?_ fun j hj ih => ?_
 . apply L87_2_step
   simp only [iLt_end, cond_false, upto_end (Nat.le_refl _), List.findSome?_nil, orR]
   exact hR
 . apply L87_2_step
   have w1 := h.w.idxD false (show i < t.wrong.length by omega)
   have w2 := h.w.idxD false (show j < t.wrong.length by omega)
   rw [findSome_step hj]
   simp only [iLt_len hj, cond_true, hd, oS, ord_isPtr, ord_f0 h, h.f3, h.d3, w1, w2, deref_bool, bool?_bool, isBelow_spec hi hj, scalar_bool, iAdd_nat (show j < 1000000 by omega), ih, tripfits, badB]
   cases t.wrong.getD i false <;> cases t.wrong.getD j false <;> cases leB t i j <;> simp [bNot, orR, tripT]
theorem wrongs_out : ∀ i, i <= t.elems.length -> ∀ (v0 : T) (v1 : T) (v2 : T) (v3 : T) (v4 : T) (v5 : T) (v6 : T) (v7 : T) (v8 : Bool) (v9 : T) (v10 : T) (v14 : Int) (v15 : Int) (v16 : Int) (v17 : Bool) (v18 : T) (v20 : T) (v21 : T) (v22 : T) (v23 : T) (v24 : T) (v25 : T) (v26 : Bool) (v27 : T) (v28 : T), L87_1 v0 v1 v2 v3 v4 v5 v6 v7 v8 v9 v10 (ordP t n e a w) (t.elems.length : Int) (i : Int) v14 v15 v16 v17 v18 (.ptr (ordP t n e a w)) v20 v21 v22 v23 v24 v25 v26 v27 v28 =
  some (outT ((upto i t.elems.length).findSome? fun i => (upto 0 t.elems.length).findSome? fun j => badB t i j)) := by
 have h12 := hg.e12
 refine upto_induct ?_ fun i hi ih => ?_
 . intros
   apply L87_1_step
   simp only [iLt_end, cond_false, upto_end (Nat.le_refl _), List.findSome?_nil, tripfits, cond_true]
   rfl
 . intro v0 v1 v2 v3 v4 v5 v6 v7 v8 v9 v10 v14 v15 v16 v17 v18 v20 v21 v22 v23 v24 v25 v26 v27 v28
   apply L87_1_step
   have := wrongs_in hg h hi (R := outT ((upto (i + 1) t.elems.length).findSome? fun i => (upto 0 t.elems.length).findSome? fun j => badB t i j)) v0 v1 v2 v3 v4 v5 v6 v7 v8 v9 v10 (ordP t n e a w) v14 v15 v16 v17 v18 v20 v21 v22 v23 v24 v25 v26 v27 v28 (by rw [iAdd_nat (show i < 1000000 by omega)]; exact ih _ _ _ _ _ _ _ _ _ _ _ _ _ _ _ _ _ _ _ _ _ _ _ _ _) 0 (by omega)
   simp only [Int.natCast_zero] at this
   simp only [iLt_len hi, cond_true, ord_isPtr, ord_f0 h, oS, h.f1, h.d1, h.e.lenD, this, findSome_step hi]
   cases (upto 0 t.elems.length).findSome? (badB t i) <;> rfl
theorem wrongs_spec : fnO acfg 87 [ordP t n e a w] = some (outT (wrongsB t)) := by
 have h12 := hg.e12
 have h1 := hg.e1
 have hwl := hg.w
 have hd : derefT none (.ptr (ordP t n e a w)) = some (ordP t n e a w) := rfl
 have v1 : vfits (V.t (ordP t n e a w)) none = true := rfl
 have w1 := h.w.idxD false (show 0 < t.wrong.length by omega)
 simp only [Int.natCast_zero] at w1
 apply fn87
 simp only [v1, cond_true, hd, oS, ord_isPtr, ord_f0 h, h.f3, h.d3, w1, deref_bool, bool?_bool, tripfits, h.f1, h.d1, h.e.lenD, wrongsB]
 cases hw : t.wrong.getD 0 false with
 | true => rfl
 | false =>
  simp only [cond_false, Bool.false_eq_true, if_false]
  exact wrongs_out hg h 0 (by omega) _ _ _ _ _ _ _ _ _ _ _ _ _ _ _ _ _ _ _ _ _ _ _ _ _
omit hg h in
theorem skip_pairs (g : Nat -> Option Br) (n i : Nat) (hi : i < n) : (upto 0 n).findSome? (fun j => if j <= i then none else g j) = (upto (i + 1) n).findSome? g := by
 have h1 : ∀ k, k <= i + 1 -> (upto k n).findSome? (fun j => if j <= i then none else g j) = (upto (i + 1) n).findSome? g := by
  refine upto_induct ?_ fun k hk ih => ?_
  . have : ∀ l : List Nat, (∀ j ∈ l, i + 1 <= j) -> l.findSome? (fun j => if j <= i then none else g j) = l.findSome? g := by
     intro l
     induction l with
     | nil => intro _; rfl
     | cons x l ih =>
      intro hl
      have := hl x (by simp)
      rw [List.findSome?_cons, List.findSome?_cons, if_neg (by omega), ih fun j hj => hl j (by simp [hj])]
    exact this _ fun j hj => (mem_upto.1 hj).1
  . rw [findSome_step (by omega), if_pos (by omega), ih]
    rfl
 exact h1 0 (by omega)
theorem pairs_in {i : Nat} (hi : i < t.elems.length) {R : T} (v0 : T) (v1 : T) (v2 : Int) (v3 : Bool) (v4 : Int) (v5 : Bool) (v6 : Int) (v7 : Bool) (v8 : T) (v9 : T) (v10 : Int) (v11 : Bool) (v12 : Int) (v13 : Bool) (v14 : Bool) (v15 : Int) (v16 : Bool) (v17 : T) (v18 : T) (v19 : Int) (v20 : Bool) (v21 : Int) (v22 : Bool) (v23 : Bool) (v24 : T) (v25 : T) (v26 : T) (v32 : Int) (v33 : Int) (v34 : Int) (v35 : Bool) (v36 : T) (v38 : Int) (v39 : Bool) (v40 : Int) (v41 : Bool) (v42 : Int) (v43 : Bool) (v44 : T) (v45 : T) (v46 : Int) (v47 : Bool) (v48 : Int) (v49 : Bool) (v50 : Bool) (v51 : Int) (v52 : Bool) (v53 : T) (v54 : T) (v55 : Int) (v56 : Bool) (v57 : Int) (v58 : Bool) (v59 : Bool) (v60 : T) (v61 : T) (hR : L46_1 v0 v1 v2 v3 v4 v5 v6 v7 v8 v9 v10 v11 v12 v13 v14 v15 v16 v17 v18 v19 v20 v21 v22 v23 v24 v25 v26 (t.elems.length : Int) (iAdd .i64 (i : Int) 1) v32 v33 v34 v35 v36 (.ptr (ordP t n e a w)) v38 v39 v40 v41 v42 v43 v44 v45 v46 v47 v48 v49 v50 v51 v52 v53 v54 v55 v56 v57 v58 v59 v60 v61 = some R) :
  ∀ j, j <= t.elems.length -> L46_2 v0 v1 v2 v3 v4 v5 v6 v7 v8 v9 v10 v11 v12 v13 v14 v15 v16 v17 v18 v19 v20 v21 v22 v23 v24 v25 v26 (i : Int) (t.elems.length : Int) (i : Int) (t.elems.length : Int) (j : Int) v32 v33 v34 v35 v36 (.ptr (ordP t n e a w)) v38 v39 v40 v41 v42 v43 v44 v45 v46 v47 v48 v49 v50 v51 v52 v53 v54 v55 v56 v57 v58 v59 v60 v61 = some (orR ((upto j t.elems.length).findSome? fun j => if j <= i then none else pairB t i j) R) := by
 have h12 := hg.e12
 have hd : derefT none (.ptr (ordP t n e a w)) = some (ordP t n e a w) := rfl
 have nt1 : ∀ x y : T, nthT [x, y] 1 = y := fun _ _ => rfl
 have nt0 : ∀ x y : T, nthT [x, y] 0 = x := fun _ _ => rfl
 have tup2 : ∀ x y : T, T.tup? (List.length [3, 4]) (.tup [x, y]) = some [x, y] := fun _ _ => rfl
 refine upto_induct ?_ fun j hj ih => ?_
 . apply L46_2_step
   simp only [iLt_end, cond_false, upto_end (Nat.le_refl _), List.findSome?_nil, orR]
   exact hR
 . apply L46_2_step
   obtain ⟨z, hz⟩ := join_spec hg h hi hj
   have hsc : T.scalar (.tup [.int .i64 z, .bool (lubB t (ubs t i j))]) = true := rfl
   obtain ⟨y, y1, y2⟩ := bounds_spec hg h hi hj
   rw [findSome_step hj]
   simp only [iLt_len hj, cond_true, hd, oS, hz, hsc, tup2, nt0, nt1, int?_int, bool?_bool, iAdd_nat (show j < 1000000 by omega), ih, y1, y2.lenD, tripfits]
   cases hl : lubB t (ubs t i j) with
   | true =>
    have hne : (ubs t i j).isEmpty = false := by
     cases hu : ubs t i j with
     | nil => rw [hu] at hl; cases hl
     | cons => rfl
    simp only [cond_true, pairB, hne, hl, Bool.false_eq_true, if_false, if_true]
    split <;> rfl
   | false =>
    by_cases hji : j <= i
    . have : iLe (j : Int) (i : Int) = true := decide_eq_true (by omega)
      simp only [cond_false, this, cond_true, if_pos hji]
      rfl
    . have : iLe (j : Int) (i : Int) = false := decide_eq_false (by omega)
      simp only [cond_false, this, if_neg hji, pairB, hl, Bool.false_eq_true, if_false]
      cases hu : ubs t i j with
      | nil => rfl
      | cons k l =>
       have he : iEq ((k :: l).length : Int) 0 = false := by simp [iEq]; omega
       simp only [he, cond_false]
       rfl
theorem pairs_out : ∀ i, i <= t.elems.length -> ∀ (v0 : T) (v2 : Int) (v3 : Bool) (v4 : Int) (v5 : Bool) (v6 : Int) (v7 : Bool) (v8 : T) (v9 : T) (v10 : Int) (v11 : Bool) (v12 : Int) (v13 : Bool) (v14 : Bool) (v15 : Int) (v16 : Bool) (v17 : T) (v18 : T) (v19 : Int) (v20 : Bool) (v21 : Int) (v22 : Bool) (v23 : Bool) (v24 : T) (v25 : T) (v29 : Int) (v30 : Int) (v31 : Int) (v32 : Bool) (v33 : T) (v35 : Int) (v36 : Bool) (v37 : Int) (v38 : Bool) (v39 : Int) (v40 : Bool) (v41 : T) (v42 : T) (v43 : Int) (v44 : Bool) (v45 : Int) (v46 : Bool) (v47 : Bool) (v48 : Int) (v49 : Bool) (v50 : T) (v51 : T) (v52 : Int) (v53 : Bool) (v54 : Int) (v55 : Bool) (v56 : Bool) (v57 : T) (v58 : T), L46_1 v0 (.ptr (ordP t n e a w)) v2 v3 v4 v5 v6 v7 v8 v9 v10 v11 v12 v13 v14 v15 v16 v17 v18 v19 v20 v21 v22 v23 v24 v25 (ordP t n e a w) (t.elems.length : Int) (i : Int) v29 v30 v31 v32 v33 (.ptr (ordP t n e a w)) v35 v36 v37 v38 v39 v40 v41 v42 v43 v44 v45 v46 v47 v48 v49 v50 v51 v52 v53 v54 v55 v56 v57 v58 =
  some (orR ((upto i t.elems.length).findSome? fun i => (upto (i + 1) t.elems.length).findSome? fun j => pairB t i j) (outT (wrongsB t))) := by
 have h12 := hg.e12
 have hd : derefT none (.ptr (ordP t n e a w)) = some (ordP t n e a w) := rfl
 refine upto_induct ?_ fun i hi ih => ?_
 . intros
   apply L46_1_step
   have hsc : T.scalar (outT (wrongsB t)) = true := rfl
   have t2 : T.tup? (List.length [47, 4]) (outT (wrongsB t)) = some [tripT ((wrongsB t).getD (0, 0, 0)), .bool (wrongsB t).isSome] := rfl
   simp only [iLt_end, cond_false, upto_end (Nat.le_refl _), List.findSome?_nil, hd, oS, wrongs_spec hg h, hsc, cond_true, t2]
   rfl
 . intro v0 v2 v3 v4 v5 v6 v7 v8 v9 v10 v11 v12 v13 v14 v15 v16 v17 v18 v19 v20 v21 v22 v23 v24 v25 v29 v30 v31 v32 v33 v35 v36 v37 v38 v39 v40 v41 v42 v43 v44 v45 v46 v47 v48 v49 v50 v51 v52 v53 v54 v55 v56 v57 v58
   apply L46_1_step
   have := pairs_in hg h hi (R := orR ((upto (i + 1) t.elems.length).findSome? fun i => (upto (i + 1) t.elems.length).findSome? fun j => pairB t i j) (outT (wrongsB t))) v0 (.ptr (ordP t n e a w)) v2 v3 v4 v5 v6 v7 v8 v9 v10 v11 v12 v13 v14 v15 v16 v17 v18 v19 v20 v21 v22 v23 v24 v25 (ordP t n e a w) v29 v30 v31 v32 v33 v35 v36 v37 v38 v39 v40 v41 v42 v43 v44 v45 v46 v47 v48 v49 v50 v51 v52 v53 v54 v55 v56 v57 v58 (by rw [iAdd_nat (show i < 1000000 by omega)]; exact ih _ _ _ _ _ _ _ _ _ _ _ _ _ _ _ _ _ _ _ _ _ _ _ _ _ _ _ _ _ _ _ _ _ _ _ _ _ _ _ _ _ _ _ _ _ _ _ _ _ _ _ _ _ _) 0 (by omega)
   simp only [Int.natCast_zero] at this
   rw [skip_pairs _ _ _ hi] at this
   simp only [iLt_len hi, cond_true, ord_isPtr, ord_f0 h, oS, h.f1, h.d1, h.e.lenD, this, findSome_step hi]
   cases (upto (i + 1) t.elems.length).findSome? (pairB t i) <;> rfl
theorem broken_spec : fnO acfg 46 [ordP t n e a w] = some (outT (brk t)) := by
 have h12 := hg.e12
 have v1 : vfits (V.t (ordP t n e a w)) none = true := rfl
 have hd : derefT none (.ptr (ordP t n e a w)) = some (ordP t n e a w) := rfl
 have nt1 : ∀ x y : T, nthT [x, y] 1 = y := fun _ _ => rfl
 have nt0 : ∀ x y : T, nthT [x, y] 0 = x := fun _ _ => rfl
 have tup2 : ∀ x y : T, T.tup? (List.length [3, 4]) (.tup [x, y]) = some [x, y] := fun _ _ => rfl
 have hsc : ∀ (z : Int) (b : Bool), T.scalar (.tup [.int .i64 z, .bool b]) = true := fun _ _ => rfl
 have f1 := first_spec hg h (f := .fn (.func 84) [] [.ptr (ordP t n e a w)]) (p := fun k => belowB t k k) fun k hk => clo84 hg h hk
 have f2 := first_spec hg h (f := .fn (.func 85) [] [.ptr (ordP t n e a w)]) (p := fun k => !leB t 0 k) fun k hk => clo85 hg h hk
 apply fn46
 simp only [v1, cond_true, hd, oS, f1, f2, hsc, tup2, nt0, nt1, int?_int, bool?_bool, tripfits, ord_isPtr, ord_f0 h, h.f1, h.d1, h.e.lenD, brk]
 cases firstB t (fun k => belowB t k k) with
 | some k => rfl
 | none =>
  simp only [Option.isSome_none, cond_false]
  cases firstB t (fun k => !leB t 0 k) with
  | some k => rfl
  | none =>
   simp only [Option.isSome_none, cond_false]
   refine Eq.trans (pairs_out hg h 0 (by omega) _ _ _ _ _ _ _ _ _ _ _ _ _ _ _ _ _ _ _ _ _ _ _ _ _ _ _ _ _ _ _ _ _ _ _ _ _ _ _ _ _ _ _ _ _ _ _ _ _ _ _ _ _ _) ?_
   show some (orR (pairsB t) _) = _
   cases pairsB t <;> rfl
omit hg in
theorem open_bad (hs : Small t) (hc : checkB t = false) : fnO acfg 45 [tblT n e a w] = some (.tup [.nilp, .int .i64 4]) := by
 apply fn45
 have i4 : iEq 4 0 = false := rfl
 simp only [h.v4, cond_true, h.d4, oS, agg4, nth0, nth1, nth2, nth3, str?_str, check_spec h hs, hc, scalar_int, int?_int, cond_false, i4, bNot, Bool.not_false]
theorem prove_good (hs : Small t) (hc : checkB t = true) : fnO acfg 17 [tblT n e a w] = some (.tup [tripT ((brk t).getD (0, 0, 0)), .int .i64 (bif (brk t).isSome then 12 else 0)]) := by
 have i0 : iEq 0 0 = true := rfl
 have t2 : ∀ x y : T, T.tup? (List.length [66, 36]) (.tup [x, y]) = some [x, y] := fun _ _ => rfl
 have t3 : T.tup? (List.length [47, 4]) (outT (brk t)) = some [tripT ((brk t).getD (0, 0, 0)), .bool (brk t).isSome] := rfl
 have nt1 : ∀ x y : T, nthT [x, y] 1 = y := fun _ _ => rfl
 have nt0 : ∀ x y : T, nthT [x, y] 0 = x := fun _ _ => rfl
 have hsc : T.scalar (outT (brk t)) = true := rfl
 have ag : ∀ x y z : T, T.agg? (List.length [(D.int IntKind.u8), (D.int IntKind.i64), (D.int IntKind.i64)]) (.agg [x, y, z]) = some [x, y, z] := fun _ _ _ => rfl
 have n30 : ∀ x y z : T, nthT [x, y, z] 0 = x := fun _ _ _ => rfl
 have n31 : ∀ x y z : T, nthT [x, y, z] 1 = y := fun _ _ _ => rfl
 have n32 : ∀ x y z : T, nthT [x, y, z] 2 = z := fun _ _ _ => rfl
 have d3 : ∀ k i j : Int, derefT (some 3) (.ptr (.agg [.int .u8 k, .int .i64 i, .int .i64 j])) = some (.agg [.int .u8 k, .int .i64 i, .int .i64 j]) := fun _ _ _ => rfl
 have ho := open_spec hg h hs
 rw [hc] at ho
 apply fn17
 simp only [h.v4, cond_true, h.d4, oS, agg4, nth0, nth1, nth2, nth3, str?_str, ho, t2, nt1, nt0, int?_int, i0, bNot, Bool.not_true, cond_false, broken_spec hg h, hsc, t3, ag, n30, n31, n32, tripT, tripfits, bool?_bool, d3]
 cases brk t <;> rfl
omit hg in
theorem prove_bad (hs : Small t) (hc : checkB t = false) : fnO acfg 17 [tblT n e a w] = some (.tup [tripT (0, 0, 0), .int .i64 4]) := by
 have i4 : iEq 4 0 = false := rfl
 have t2 : ∀ x y : T, T.tup? (List.length [66, 36]) (.tup [x, y]) = some [x, y] := fun _ _ => rfl
 have nt1 : ∀ x y : T, nthT [x, y] 1 = y := fun _ _ => rfl
 apply fn17
 simp only [h.v4, cond_true, h.d4, oS, agg4, nth0, nth1, nth2, nth3, str?_str, open_bad h hs hc, t2, nt1, int?_int, i4, bNot, Bool.not_false, tripfits]
 rfl
end
end Go.Proofs.Tryz

open Go Go.Apex Go.StepsTo
namespace Go.Proofs.Tryz
def relRow (t : Tbl) (k : Nat) : T := .sl false 1 (boolsT ((upto 0 t.elems.length).map (leB t k)))
def relT (t : Tbl) : T := .sl false 1 ((upto 0 t.elems.length).map (relRow t))
theorem relRow_d (t : Tbl) (k : Nat) : derefT none (.ptr (relRow t k)) = some (relRow t k) := rfl
theorem rel_len (t : Tbl) : lenT (relT t) = some (t.elems.length : Int) := by simp [relT, lenT, upto]
theorem rel_row {t : Tbl} {k : Nat} (hk : k < t.elems.length) : idxT 1 (relT t) (k : Int) = some (.ptr (relRow t k)) :=
 (IsSl.sl false).idx (by rw [List.getElem?_map, upto_get hk]; rfl)
theorem relRow_at {t : Tbl} {k b : Nat} (hb : b < t.elems.length) : idxT 1 (relRow t k) (b : Int) = some (.ptr (.bool (leB t k b))) :=
 (IsSl.sl false).idx (by rw [List.getElem?_map, List.getElem?_map, upto_get hb]; rfl)
section
variable {t : Tbl} (hg : Good t)
include hg
theorem boundsR_spec {i j : Nat} (hi : i < t.elems.length) (hj : j < t.elems.length) : ∃ y, fnO acfg 107 [relT t, .int .i64 (i : Int), .int .i64 (j : Int)] = some y /\ IsSl (natsT (ubs t i j)) y := by
 have h12 := hg.e12
 let p : Nat -> Bool := fun k => leB t i k && leB t j k
 have two : ∀ c, c <= t.elems.length -> ∀ (acc : List Nat) (g : Nat), acc.length <= c -> L107_2 (relT t) (i : Int) (j : Int) g 0 acc.length (c : Int) g (cellsT (natsT acc)) = some (.sl false 1 (natsT (acc ++ (upto c t.elems.length).filter p))) := by
  refine upto_induct ?_ fun c hc ih => ?_
  . intro acc g hl
    have := rowT_all (one_nats acc)
    rw [List.length_map] at this
    apply L107_2_step
    simp only [rel_len, oS, iLt_end, cond_false, natEq_self, cond_true, this, upto_end (Nat.le_refl _), List.filter_nil, List.append_nil]
  . intro acc g hl
    have hp0 : p c = (leB t i c && leB t j c) := rfl
    apply L107_2_step
    simp only [rel_len, oS, iLt_len hc, cond_true, rel_row hi, rel_row hj, relRow_d, relRow_at hc, deref_bool, bool?_bool, upto_step hc, List.filter_cons, hp0, iAdd_nat (show c < 1000000 by omega), objBd_cells, natEq_self]
    cases h1 : leB t i c <;> cases h2 : leB t j c
    all_goals simp only [cond_true, cond_false, Bool.and_true, Bool.and_false, Bool.true_and, Bool.false_and, Bool.false_eq_true, if_true, if_false]
    . exact ih acc g (by omega)
    . exact ih acc g (by omega)
    . exact ih acc g (by omega)
    . have := ih (acc ++ [c]) (g + 1) (by rw [List.length_append]; simp only [List.length_cons, List.length_nil]; omega)
      rw [List.length_append] at this
      have hl1 : acc.length + [c].length = acc.length + 1 := rfl
      rw [hl1] at this
      have hok : appOK (cellsT (natsT acc)) 0 acc.length 1 [V.t (T.int .i64 (c : Int))] 8 = true := appOK_row (ys := [T.int .i64 (c : Int)]) (by simp) (by simp only [List.length_cons, List.length_nil, maxB]; omega)
      simp only [hok, cond_true, app_one (ts := natsT acc) (off := 0) (td := acc) rfl (by simp), appGen_one, appLen_one, objBd_cells, this, List.append_assoc, List.cons_append, List.nil_append]
 have one : ∀ c, c <= t.elems.length -> ∃ y, L107_1 (relT t) (i : Int) (j : Int) (c : Int) = some y /\ IsSl (natsT ((upto c t.elems.length).filter p)) y := by
  refine upto_induct ?_ fun c hc ih => ?_
  . refine ⟨.nils, ?_, .nil (by rw [upto_end (Nat.le_refl _)]; rfl)⟩
    apply L107_1_step
    simp only [rel_len, oS, iLt_end, cond_false]
  . have hp0 : p c = (leB t i c && leB t j c) := rfl
    cases hp : p c with
    | false =>
     obtain ⟨y, y1, y2⟩ := ih
     refine ⟨y, ?_, by rw [upto_step hc, List.filter_cons, hp]; exact y2⟩
     rw [hp0] at hp
     apply L107_1_step
     simp only [rel_len, oS, iLt_len hc, cond_true, rel_row hi, rel_row hj, relRow_d, relRow_at hc, deref_bool, bool?_bool, iAdd_nat (show c < 1000000 by omega), y1]
     cases h1 : leB t i c <;> cases h2 : leB t j c
     all_goals first | rfl | (rw [h1, h2] at hp; cases hp)
    | true =>
     have := two (c + 1) (by omega) [c] 1 (by simp)
     refine ⟨.sl false 1 (natsT ([c] ++ (upto (c + 1) t.elems.length).filter p)), ?_, by rw [upto_step hc, List.filter_cons, hp]; exact .sl _⟩
     rw [hp0, Bool.and_eq_true] at hp
     have hbase : baseT none 1 .nils = some [] := rfl
     have hnew : newOK ([] : List T).length [V.t (T.int .i64 (c : Int))].length 8 = true := rfl
     have hrow : rowNew [] [V.t (T.int .i64 (c : Int))] = cellsT (natsT [c]) := rowNew_one (xs := []) (ys := natsT [c]) OneL.nil (one_nats _)
     have hln : lenNew ([] : List T) [V.t (T.int .i64 (c : Int))] = 1 := rfl
     have hl1 : [c].length = 1 := rfl
     rw [hl1] at this
     apply L107_1_step
     simp only [rel_len, oS, iLt_len hc, cond_true, rel_row hi, rel_row hj, relRow_d, relRow_at hc, deref_bool, bool?_bool, iAdd_nat (show c < 1000000 by omega), hp.1, hp.2, hbase, hnew, hrow, hln, objBd_cells, this]
 obtain ⟨y, y1, y2⟩ := one 0 (by omega)
 exact ⟨y, fn107 _ _ _ _ y1, y2⟩
theorem least_spec {us : T} {l : List Nat} (hu : IsSl (natsT l) us) (hl : ∀ k ∈ l, k < t.elems.length) (hl2 : l.length < 1000000) : ∃ z : Int, fnO acfg 108 [relT t, us] = some (.int .i64 z) /\ decide (z < 0) = !lubB t l := by
 let q : Nat -> Bool := fun m => l.all fun k => leB t m k
 have out : ∀ i, i <= l.length -> ∃ z : Int, L108_1 (relT t) us (i : Int) = some (.int .i64 z) /\ decide (z < 0) = !((upto i l.length).any fun i => q (l.getD i 0)) := by
  refine upto_induct ?_ fun i hi ih => ?_
  . refine ⟨-1, ?_, by rw [upto_end (Nat.le_refl _)]; rfl⟩
    apply L108_1_step
    simp only [hu.lenD, oS, iLt_end, cond_false]
  . obtain ⟨z, z1, z2⟩ := ih
    have hx := hl _ (getD_mem 0 hi)
    have inn : ∀ j, j <= l.length -> ∀ b : Bool, L108_2 (relT t) us (i : Int) b (j : Int) = some (.int .i64 (if (b && (upto j l.length).all fun j => leB t (l.getD i 0) (l.getD j 0)) = true then ((l.getD i 0 : Nat) : Int) else z)) := by
     refine upto_induct ?_ fun j hj ih => ?_
     . intro b
       apply L108_2_step
       simp only [hu.lenD, oS, iLt_end, cond_false, upto_end (Nat.le_refl _), List.all_nil, Bool.and_true, hu.idxD 0 hi, deref_int, int?_int, iAdd_nat (show i < 1000000 by omega), z1]
       cases b <;> rfl
     . intro b
       apply L108_2_step
       have hy := hl _ (getD_mem 0 hj)
       simp only [hu.lenD, oS, iLt_len hj, cond_true, hu.idxD 0 hi, hu.idxD 0 hj, deref_int, int?_int, rel_row hx, relRow_d, relRow_at hy, deref_bool, bool?_bool, iAdd_nat (show j < 1000000 by omega), ih, upto_step hj, List.all_cons]
       cases b
       . simp
       . simp
    have h0 := inn 0 (by omega) true
    rw [all_getD l fun k => leB t (l.getD i 0) k] at h0
    simp only [Int.natCast_zero, Bool.true_and] at h0
    refine ⟨if (l.all fun k => leB t (l.getD i 0) k) = true then ((l.getD i 0 : Nat) : Int) else z, ?_, ?_⟩
    . apply L108_1_step
      simp only [hu.lenD, oS, iLt_len hi, cond_true]
      exact h0
    . rw [upto_step hi, List.any_cons]
      show _ = !(q (l.getD i 0) || _)
      have hq : q (l.getD i 0) = l.all fun k => leB t (l.getD i 0) k := rfl
      rw [<- hq]
      cases q (l.getD i 0)
      . simpa using z2
      . simp
 obtain ⟨z, z1, z2⟩ := out 0 (by omega)
 refine ⟨z, fn108 _ _ _ z1, ?_⟩
 rw [z2]
 congr 1
 unfold lubB
 rw [Bool.eq_iff_iff, List.any_eq_true, List.any_eq_true]
 constructor
 . rintro ⟨i, hi, hq⟩
   exact ⟨_, getD_mem 0 (mem_upto.1 hi).2, hq⟩
 . rintro ⟨x, hx, hq⟩
   obtain ⟨i, hi, he⟩ := mem_getD (d := 0) hx
   exact ⟨i, mem_upto.2 ⟨by omega, hi⟩, by rw [he]; exact hq⟩
end
def orT (b : Option Br) (R : T) : T := match b with
 | some b => tripT b
 | none => R
section
variable {t : Tbl} (hg : Good t) {n : List UInt8} {e a w : T} (h : IsTbl t n e a w)
include hg h
theorem brk6 (v8 v9 v10 : Int) {i : Nat} (hi : i < t.elems.length) {R : T} (hR : L99_5 n e a w (t.elems.length : Int) (relT t) (iAdd .i64 (i : Int) 1) v8 v9 v10 = some R) :
  ∀ j, j <= t.elems.length -> L99_6 n e a w (t.elems.length : Int) (relT t) (i : Int) (j : Int) v8 v9 v10 = some (orT ((upto j t.elems.length).findSome? (badB t i)) R) := by
 have h12 := hg.e12
 have hwl := hg.w
 refine upto_induct ?_ fun j hj ih => ?_
 . apply L99_6_step
   simp only [iLt_end, cond_false, upto_end (Nat.le_refl _), List.findSome?_nil, orT]
   exact hR
 . apply L99_6_step
   have w1 := h.w.idxD false (show i < t.wrong.length by omega)
   have w2 := h.w.idxD false (show j < t.wrong.length by omega)
   rw [findSome_step hj]
   simp only [iLt_len hj, cond_true, oS, h.f3, h.d3, w1, w2, deref_bool, bool?_bool, rel_row hi, relRow_d, relRow_at hj, iAdd_nat (show j < 1000000 by omega), ih, tripfits, badB]
   cases t.wrong.getD i false <;> cases t.wrong.getD j false <;> cases leB t i j <;> simp [bNot, orT, tripT]
theorem brk5 (v8 v9 v10 : Int) : ∀ i, i <= t.elems.length -> L99_5 n e a w (t.elems.length : Int) (relT t) (i : Int) v8 v9 v10 = some (orT ((upto i t.elems.length).findSome? fun i => (upto 0 t.elems.length).findSome? fun j => badB t i j) (tripT (0, 0, 0))) := by
 have h12 := hg.e12
 refine upto_induct ?_ fun i hi ih => ?_
 . apply L99_5_step
   simp only [iLt_end, cond_false, upto_end (Nat.le_refl _), List.findSome?_nil, tripfits, cond_true]
   rfl
 . apply L99_5_step
   have := brk6 hg h v8 v9 v10 hi (by rw [iAdd_nat (show i < 1000000 by omega)]; exact ih) 0 (by omega)
   simp only [Int.natCast_zero] at this
   simp only [iLt_len hi, cond_true, this, findSome_step hi]
   cases (upto 0 t.elems.length).findSome? (badB t i) <;> rfl
theorem brk4 (v8 v9 v10 : Int) {i : Nat} (hi : i < t.elems.length) {R : T} (hR : L99_3 n e a w (t.elems.length : Int) (relT t) (iAdd .i64 (i : Int) 1) v8 v9 v10 = some R) :
  ∀ j, j <= t.elems.length -> L99_4 n e a w (t.elems.length : Int) (relT t) (i : Int) (j : Int) v8 v9 v10 = some (orT ((upto j t.elems.length).findSome? (pairB t i)) R) := by
 have h12 := hg.e12
 refine upto_induct ?_ fun j hj ih => ?_
 . apply L99_4_step
   simp only [iLt_end, cond_false, upto_end (Nat.le_refl _), List.findSome?_nil, orT]
   exact hR
 . apply L99_4_step
   obtain ⟨y, y1, y2⟩ := boundsR_spec hg hi hj
   have hul := ubs_len t i j
   obtain ⟨z, z1, z2⟩ := least_spec hg y2 (fun k hk => ubs_lt hk) (by omega)
   rw [findSome_step hj]
   have hz : iLt z 0 = !lubB t (ubs t i j) := z2
   simp only [iLt_len hj, cond_true, oS, y1, y2.lenD, tripfits, z1, scalar_int, int?_int, hz, iAdd_nat (show j < 1000000 by omega), ih, pairB]
   cases hu : ubs t i j with
   | nil => rfl
   | cons k l =>
    have he : iEq ((k :: l).length : Int) 0 = false := by simp [iEq]; omega
    simp only [he, cond_false]
    cases lubB t (k :: l) <;> rfl
theorem brk3 (v8 v9 v10 : Int) : ∀ i, i <= t.elems.length -> L99_3 n e a w (t.elems.length : Int) (relT t) (i : Int) v8 v9 v10 = some (orT ((upto i t.elems.length).findSome? fun i => (upto (i + 1) t.elems.length).findSome? fun j => pairB t i j) (tripT ((wrongsB t).getD (0, 0, 0)))) := by
 have h12 := hg.e12
 have hwl := hg.w
 have h1 := hg.e1
 refine upto_induct ?_ fun i hi ih => ?_
 . apply L99_3_step
   have w1 := h.w.idxD false (show 0 < t.wrong.length by omega)
   have := brk5 hg h v8 v9 v10 0 (by omega)
   simp only [Int.natCast_zero] at w1 this
   simp only [iLt_end, cond_false, upto_end (Nat.le_refl _), List.findSome?_nil, h.f3, h.d3, oS, w1, deref_bool, bool?_bool, tripfits, cond_true, this, wrongsB, orT]
   cases t.wrong.getD 0 false with
   | true => rfl
   | false =>
    simp only [cond_false, Bool.false_eq_true, if_false]
    cases (upto 0 t.elems.length).findSome? fun i => (upto 0 t.elems.length).findSome? fun j => badB t i j <;> rfl
 . apply L99_3_step
   have := brk4 hg h v8 v9 v10 hi (by rw [iAdd_nat (show i < 1000000 by omega)]; exact ih) (i + 1) (by omega)
   simp only [iLt_len hi, cond_true, iAdd_nat (show i < 1000000 by omega), this, findSome_step hi]
   cases (upto (i + 1) t.elems.length).findSome? (pairB t i) <;> rfl
theorem brk2 (v8 v9 v10 : Int) {R : T} (hR : L99_3 n e a w (t.elems.length : Int) (relT t) 0 v8 v9 v10 = some R) : ∀ i, i <= t.elems.length -> L99_2 n e a w (t.elems.length : Int) (relT t) (i : Int) v8 v9 v10 = some (orT (((upto i t.elems.length).find? fun k => !leB t 0 k).map fun k => (2, k, 0)) R) := by
 have h12 := hg.e12
 refine upto_induct ?_ fun i hi ih => ?_
 . apply L99_2_step
   simp only [iLt_end, cond_false, upto_end (Nat.le_refl _), List.find?_nil, Option.map_none, orT]
   exact hR
 . apply L99_2_step
   have hr := rel_row (t := t) (k := 0) hg.e1
   simp only [Int.natCast_zero] at hr
   simp only [iLt_len hi, cond_true, hr, oS, relRow_d, relRow_at hi, deref_bool, bool?_bool, tripfits, iAdd_nat (show i < 1000000 by omega), ih, upto_step hi, List.find?_cons]
   cases leB t 0 i <;> rfl
theorem brk1 (v8 v9 v10 : Int) {R : T} (hR : L99_2 n e a w (t.elems.length : Int) (relT t) 0 v8 v9 v10 = some R) : ∀ i, i <= t.elems.length -> L99_1 n e a w (t.elems.length : Int) (relT t) (i : Int) v8 v9 v10 = some (orT (((upto i t.elems.length).find? fun k => belowB t k k).map fun k => (1, k, 0)) R) := by
 have h12 := hg.e12
 refine upto_induct ?_ fun i hi ih => ?_
 . apply L99_1_step
   simp only [iLt_end, cond_false, upto_end (Nat.le_refl _), List.find?_nil, Option.map_none, orT]
   exact hR
 . apply L99_1_step
   have hb : has (bfs1 (adjN t) 1000 (List.replicate t.elems.length false) (adjN t i)) i = belowB t i i := rfl
   simp only [iLt_len hi, cond_true, h.d4, oS, agg4, nth0, nth1, nth2, nth3, str?_str, steps_spec hg h hi hi, both_spec hg h hi, hb, scalar_bool, bool?_bool, tripfits, iAdd_nat (show i < 1000000 by omega), ih, upto_step hi, List.find?_cons]
   cases belowB t i i <;> rfl
theorem breakR_spec (hrel : fnO acfg 105 [tblT n e a w] = some (relT t)) : fnO acfg 99 [tblT n e a w] = some (tripT ((brk t).getD (0, 0, 0))) := by
 have b3 := brk3 hg h 0 0 0 0 (by omega)
 simp only [Int.natCast_zero] at b3
 have b2 := brk2 hg h 0 0 0 b3 0 (by omega)
 simp only [Int.natCast_zero] at b2
 have b1 := brk1 hg h 0 0 0 b2 0 (by omega)
 simp only [Int.natCast_zero] at b1
 apply fn99
 simp only [h.v4, cond_true, h.f1, h.d1, h.e.lenD, h.d4, oS, agg4, nth0, nth1, nth2, nth3, str?_str, hrel, b1, brk, firstB, List.head?_filter]
 have e3 : ((upto 0 t.elems.length).findSome? fun i => (upto (i + 1) t.elems.length).findSome? fun j => pairB t i j) = pairsB t := rfl
 rw [e3]
 cases (upto 0 t.elems.length).find? (fun k => belowB t k k) with
 | some k => rfl
 | none =>
  cases (upto 0 t.elems.length).find? (fun k => !leB t 0 k) with
  | some k => rfl
  | none => cases pairsB t <;> rfl
omit hg h in
theorem brk_kind {b : Br} (hb : brk t = some b) : b.1 ≠ 0 := by
 unfold brk at hb
 split at hb
 . cases hb; simp
 split at hb
 . cases hb; simp
 split at hb
 . rename_i q hq
   cases hb
   unfold pairsB at hq
   obtain ⟨i, _, hi⟩ := List.exists_of_findSome?_eq_some hq
   obtain ⟨j, _, hj⟩ := List.exists_of_findSome?_eq_some hi
   unfold pairB at hj
   split at hj
   . cases hj; simp
   split at hj
   . cases hj
   . cases hj; simp
 . unfold wrongsB at hb
   split at hb
   . cases hb; simp
   . obtain ⟨i, _, hi⟩ := List.exists_of_findSome?_eq_some hb
     obtain ⟨j, _, hj⟩ := List.exists_of_findSome?_eq_some hi
     unfold badB at hj
     split at hj
     . cases hj; simp
     . cases hj
theorem proveR_good (hs : Small t) (hc : fnO acfg 39 [tblT n e a w] = some (.int .i64 0)) (hrel : fnO acfg 105 [tblT n e a w] = some (relT t)) :
  fnO acfg 76 [tblT n e a w] = some (.tup [tripT ((brk t).getD (0, 0, 0)), .int .i64 (bif (brk t).isSome then 12 else 0)]) := by
 have i0 : iEq 0 0 = true := rfl
 have ag : ∀ x y z : T, T.agg? (List.length [(D.int IntKind.u8), (D.int IntKind.i64), (D.int IntKind.i64)]) (.agg [x, y, z]) = some [x, y, z] := fun _ _ _ => rfl
 have n30 : ∀ x y z : T, nthT [x, y, z] 0 = x := fun _ _ _ => rfl
 have n31 : ∀ x y z : T, nthT [x, y, z] 1 = y := fun _ _ _ => rfl
 have n32 : ∀ x y z : T, nthT [x, y, z] 2 = z := fun _ _ _ => rfl
 have d3 : ∀ k i j : Int, derefT (some 3) (.ptr (.agg [.int .u8 k, .int .i64 i, .int .i64 j])) = some (.agg [.int .u8 k, .int .i64 i, .int .i64 j]) := fun _ _ _ => rfl
 have f3 : ∀ k i j : Int, fldT 0 none (.ptr (.agg [.int .u8 k, .int .i64 i, .int .i64 j])) = some (.ptr (.int .u8 k)) := fun _ _ _ => rfl
 have sc : ∀ k i j : Int, T.scalar (.agg [.int .u8 k, .int .i64 i, .int .i64 j]) = true := fun _ _ _ => rfl
 apply fn76
 simp only [h.v4, cond_true, h.d4, oS, agg4, nth0, nth1, nth2, nth3, str?_str, hc, scalar_int, int?_int, i0, bNot, Bool.not_true, cond_false, breakR_spec hg h hrel, tripT, sc, ag, n30, n31, n32, tripfits, f3, deref_int, d3]
 cases hb : brk t with
 | none => rfl
 | some b =>
  have hk := brk_kind hb
  have he : iEq (b.1 : Int) 0 = false := by simp [iEq]; omega
  simp only [Option.getD_some, he, Bool.not_false, cond_true]
  rfl
omit hg in
theorem proveR_bad (hc : fnO acfg 39 [tblT n e a w] = some (.int .i64 4)) : fnO acfg 76 [tblT n e a w] = some (.tup [tripT (0, 0, 0), .int .i64 4]) := by
 have i4 : iEq 4 0 = false := rfl
 apply fn76
 simp only [h.v4, cond_true, h.d4, oS, agg4, nth0, nth1, nth2, nth3, str?_str, hc, scalar_int, int?_int, i4, bNot, Bool.not_false, tripfits]
 rfl
end
end Go.Proofs.Tryz

open Go Go.Apex Go.StepsTo
namespace Go.Proofs.Tryz
theorem checkR {t : Tbl} {n : List UInt8} {e a w : T} (h : IsTbl t n e a w) (hs : Small t) : fnO acfg 39 [tblT n e a w] = some (.int .i64 (bif checkB t then 0 else 4)) := refCheck_spec h hs
end Go.Proofs.Tryz

open Go Go.Apex Go.StepsTo
namespace Go.Proofs.Tryz
def relB (t : Tbl) (a b : Nat) : List Bool := (upto 0 b).map (leB t a)
theorem relB_len (t : Tbl) (a b : Nat) : (relB t a b).length = b := by simp [relB, upto]
theorem relB_snoc (t : Tbl) (a b : Nat) : relB t a (b + 1) = relB t a b ++ [leB t a b] := by simp [relB, upto_snoc]
theorem one_rel (t : Tbl) (l : List Nat) : OneL (l.map (relRow t)) := OneL.map (fun _ => rfl) l
section
variable {t : Tbl} (hg : Good t) {n : List UInt8} {e a w : T} (h : IsTbl t n e a w)
include hg h
theorem rel_treeOf (k : Nat) : treeOf none (cellsT (boolsT (relB t k t.elems.length))) 0 t.elems.length = some (relRow t k) := by
 have := treeOf_cells (one_bools (relB t k t.elems.length))
 rw [List.length_map, relB_len] at this
 exact this
theorem app_bool (c b : Nat) : appCs (cellsT (boolsT (relB t c b))) 0 [V.t (.bool (leB t c b))] = cellsT (boolsT (relB t c (b + 1))) := by
 have := appCs_one (cs := boolsT (relB t c b)) (ys := [T.bool (leB t c b)]) (off := 0) (OneL.cons rfl OneL.nil) (by simp)
 rw [relB_snoc]
 simpa [boolsT] using this
theorem ok_bool (c : Nat) {b : Nat} (hb : b < t.elems.length) : appOK (cellsT (boolsT (relB t c b))) 0 b 1 [V.t (.bool (leB t c b))] 1 = true := by
 have := hg.e12
 exact appOK_row (ys := [T.bool (leB t c b)]) (by rw [List.length_map, relB_len]; omega) (by simp only [List.length_cons, List.length_nil, maxB]; omega)
theorem rel9 {c : Nat} (hc : c < t.elems.length) {R : T} {g : Nat} (hR : L105_5 n e a w (g + 1) 0 (c + 1) (iAdd .i64 (c : Int) 1) (g + 1) (cellsT ((upto 0 (c + 1)).map (relRow t))) = some R) :
  ∀ b, b <= t.elems.length -> ∀ g2, L105_9 n e a w g 0 c (c : Int) g2 0 b (b : Int) g (cellsT ((upto 0 c).map (relRow t))) g2 (cellsT (boolsT (relB t c b))) = some R := by
 have h12 := hg.e12
 refine upto_induct ?_ fun b hb ih => ?_
 . intro g2
   have vf : vfits (V.t (relRow t c)) none = true := rfl
   have hlen : ((upto 0 c).map (relRow t)).length = c := by simp [upto]
   have hok : appOK (cellsT ((upto 0 c).map (relRow t))) 0 c 1 [V.t (relRow t c)] 24 = true := appOK_row (ys := [relRow t c]) (by rw [hlen]; omega) (by simp only [List.length_cons, List.length_nil, maxB]; omega)
   have hcs : appCs (cellsT ((upto 0 c).map (relRow t))) 0 [V.t (relRow t c)] = cellsT ((upto 0 (c + 1)).map (relRow t)) := by
    have := appCs_one (cs := (upto 0 c).map (relRow t)) (ys := [relRow t c]) (off := 0) (OneL.cons rfl OneL.nil) (by simp)
    rw [upto_snoc, List.map_append]
    simpa using this
   apply L105_9_step
   simp only [h.f1, h.d1, oS, h.e.lenD, iLt_end, cond_false, natEq_self, cond_true, rel_treeOf hg h, vf, hok, hcs, objBd_cells, appGen_one, appLen_one]
   exact hR
 . intro g2
   apply L105_9_step
   have := ih (g2 + 1)
   simp only [h.f1, h.d1, oS, h.e.lenD, iLt_len hb, cond_true, h.d4, agg4, nth0, nth1, nth2, nth3, str?_str, isBelow_ref hg h hc hb, scalar_bool, bool?_bool, natEq_self, ok_bool hg h c hb, app_bool hg h, objBd_cells, appGen_one, appLen_one,
    iAdd_nat (show b < 1000000 by omega), this]
theorem rel5 : ∀ c, c <= t.elems.length -> 1 <= c -> ∀ g, L105_5 n e a w g 0 c (c : Int) g (cellsT ((upto 0 c).map (relRow t))) = some (relT t) := by
 have h12 := hg.e12
 have hpos : 0 < t.elems.length := hg.e1
 refine upto_induct ?_ fun c hc ih => ?_
 . intro _ g
   have hro := rowT_all (one_rel t (upto 0 t.elems.length))
   have hlen : ((upto 0 t.elems.length).map (relRow t)).length = t.elems.length := by simp [upto]
   rw [hlen] at hro
   apply L105_5_step
   simp only [h.f1, h.d1, oS, h.e.lenD, iLt_end, cond_false, natEq_self, cond_true, hro]
   rfl
 . intro h1 g
   have hz : iLt 0 (t.elems.length : Int) = true := decide_eq_true (by omega)
   have hbase : baseT none 1 .nils = some [] := rfl
   have hnew : newOK ([] : List T).length [V.t (T.bool (leB t c 0))].length 1 = true := rfl
   have hrow : rowNew [] [V.t (T.bool (leB t c 0))] = cellsT (boolsT (relB t c 1)) := rowNew_one (xs := []) (ys := [T.bool (leB t c 0)]) OneL.nil (OneL.cons rfl OneL.nil)
   have hln : lenNew ([] : List T) [V.t (T.bool (leB t c 0))] = 1 := rfl
   have hadd : iAdd .i64 0 1 = ((1 : Nat) : Int) := by decide
   have hbl := isBelow_ref hg h hc hpos
   have h9 := rel9 hg h hc (g := g) (R := relT t) (by rw [iAdd_nat (show c < 1000000 by omega)]; exact ih (by omega) (g + 1)) 1 (by omega) 1
   simp only [Int.natCast_zero] at hbl
   apply L105_5_step
   simp only [h.f1, h.d1, oS, h.e.lenD, iLt_len hc, cond_true, objBd_cells]
   apply L105_7_step
   simp only [h.f1, h.d1, oS, h.e.lenD, hz, cond_true, h.d4, agg4, nth0, nth1, nth2, nth3, str?_str, hbl, scalar_bool, bool?_bool, hbase, hnew, hrow, hln, hadd, objBd_cells, h9]
theorem rel3 : ∀ b, b <= t.elems.length -> ∀ g2, L105_3 n e a w 0 g2 0 b (b : Int) g2 (cellsT (boolsT (relB t 0 b))) = some (relT t) := by
 have h12 := hg.e12
 have hpos : 0 < t.elems.length := hg.e1
 refine upto_induct ?_ fun b hb ih => ?_
 . intro g2
   have vf : vfits (V.t (relRow t 0)) none = true := rfl
   have hbase : baseT none 1 .nils = some [] := rfl
   have hnew : newOK ([] : List T).length [V.t (relRow t 0)].length 24 = true := rfl
   have hrow : rowNew [] [V.t (relRow t 0)] = cellsT ((upto 0 1).map (relRow t)) := rowNew_one (xs := []) (ys := [relRow t 0]) OneL.nil (OneL.cons rfl OneL.nil)
   have hln : lenNew ([] : List T) [V.t (relRow t 0)] = 1 := rfl
   have hadd : iAdd .i64 0 1 = ((1 : Nat) : Int) := by decide
   have h5 := rel5 hg h 1 (by omega) (by omega) 1
   apply L105_3_step
   simp only [h.f1, h.d1, oS, h.e.lenD, iLt_end, cond_false, natEq_self, cond_true, rel_treeOf hg h, vf, hbase, hnew, hrow, hln, hadd, objBd_cells, h5]
 . intro g2
   apply L105_3_step
   have := ih (g2 + 1)
   have hbl := isBelow_ref hg h hpos hb
   simp only [Int.natCast_zero] at hbl
   simp only [h.f1, h.d1, oS, h.e.lenD, iLt_len hb, cond_true, h.d4, agg4, nth0, nth1, nth2, nth3, str?_str, hbl, scalar_bool, bool?_bool, natEq_self, ok_bool hg h 0 hb, app_bool hg h, objBd_cells, appGen_one, appLen_one,
    iAdd_nat (show b < 1000000 by omega), this]
theorem rel_spec : fnO acfg 105 [tblT n e a w] = some (relT t) := by
 have h12 := hg.e12
 have hpos : 0 < t.elems.length := hg.e1
 have hz : iLt 0 (t.elems.length : Int) = true := decide_eq_true (by omega)
 have hbase : baseT none 1 .nils = some [] := rfl
 have hnew : newOK ([] : List T).length [V.t (T.bool (leB t 0 0))].length 1 = true := rfl
 have hrow : rowNew [] [V.t (T.bool (leB t 0 0))] = cellsT (boolsT (relB t 0 1)) := rowNew_one (xs := []) (ys := [T.bool (leB t 0 0)]) OneL.nil (OneL.cons rfl OneL.nil)
 have hln : lenNew ([] : List T) [V.t (T.bool (leB t 0 0))] = 1 := rfl
 have hadd : iAdd .i64 0 1 = ((1 : Nat) : Int) := by decide
 have hbl := isBelow_ref hg h hpos hpos
 have h3 := rel3 hg h 1 (by omega) 1
 simp only [Int.natCast_zero] at hbl
 apply fn105
 simp only [h.v4, cond_true]
 apply L105_1_step
 simp only [h.f1, h.d1, oS, h.e.lenD, hz, cond_true]
 apply L105_2_step
 simp only [h.f1, h.d1, oS, h.e.lenD, hz, cond_true, h.d4, agg4, nth0, nth1, nth2, nth3, str?_str, hbl, scalar_bool, bool?_bool, hbase, hnew, hrow, hln, hadd, objBd_cells, h3]
end
end Go.Proofs.Tryz

open Go Go.Apex
namespace Go.Proofs.Tryz
inductive Sh where
 | mk (kind : Int) (name : List UInt8) (kids : List Sh)
def Sh.kind : Sh -> Int | .mk k _ _ => k
def Sh.name : Sh -> List UInt8 | .mk _ n _ => n
def Sh.kids : Sh -> List Sh | .mk _ _ l => l
instance : Inhabited Sh := ⟨.mk 0 [] []⟩
def IsSh : Nat -> Sh -> T -> Prop
 | 0, _, _ => False
 | d + 1, s, x => ∃ q, x = .agg [.int .u8 s.kind, .str s.name, q] /\ ((s.kids = [] /\ q = .nils) \/ ∃ ex xs, q = .sl ex 3 xs /\ xs.length = s.kids.length /\ ∀ i, i < s.kids.length -> IsSh d (s.kids.getD i default) (xs.getD i .nils))
def IsK (d : Nat) (l : List Sh) (q : T) : Prop := (l = [] /\ q = .nils) \/ ∃ ex xs, q = .sl ex 3 xs /\ xs.length = l.length /\ ∀ i, i < l.length -> IsSh d (l.getD i default) (xs.getD i .nils)
theorem IsSh.open {d : Nat} {s : Sh} {x : T} (h : IsSh d s x) : ∃ d' q, d = d' + 1 /\ x = .agg [.int .u8 s.kind, .str s.name, q] /\ IsK d' s.kids q := by
 cases d with
 | zero => exact h.elim
 | succ d => obtain ⟨q, h1, h2⟩ := h; exact ⟨d, q, rfl, h1, h2⟩
theorem IsK.one {d : Nat} {l : List Sh} {q : T} (h : IsK d l q) : q.one = true := by
 rcases h with ⟨_, rfl⟩ | ⟨ex, xs, rfl, _⟩ <;> rfl
theorem IsK.len {d : Nat} {l : List Sh} {q : T} (h : IsK d l q) : lenT q = some (l.length : Int) := by
 rcases h with ⟨rfl, rfl⟩ | ⟨ex, xs, rfl, h, _⟩
 . rfl
 . show some (xs.length : Int) = _
   rw [h]
abbrev shT (k : Int) (n : List UInt8) (q : T) : T := .agg [.int .u8 k, .str n, q]
theorem sh_fits {k : Int} {n : List UInt8} {q : T} (h : q.one = true) : (shT k n q).fits (some 3) = true := by
 show (true && (3 == 3) && ((T.int .u8 k).one && ((T.str n).one && (q.one && true)))) = true
 rw [h]
 rfl
theorem sh_v {k : Int} {n : List UInt8} {q : T} (h : q.one = true) : vfits (.t (shT k n q)) (some 3) = true := sh_fits (k := k) (n := n) h
theorem sh_d {k : Int} {n : List UInt8} {q : T} (h : q.one = true) : derefT (some 3) (.ptr (shT k n q)) = some (shT k n q) := by simp only [derefT, sh_fits h, if_true]
theorem sh_f2 {k : Int} {n : List UInt8} {q : T} (h : q.one = true) : fldT 2 none (.ptr (shT k n q)) = some (.ptr q) := fld_at rfl h
theorem agg3 (x y z : T) : T.agg? (List.length [(D.int IntKind.u8), D.str, (D.slice 25)]) (.agg [x, y, z]) = some [x, y, z] := rfl
theorem nth30 (x y z : T) : nthT [x, y, z] 0 = x := rfl
theorem nth31 (x y z : T) : nthT [x, y, z] 1 = y := rfl
theorem nth32 (x y z : T) : nthT [x, y, z] 2 = z := rfl
theorem IsK.at {d : Nat} {l : List Sh} {q : T} (h : IsK d l q) {i : Nat} (hi : i < l.length) : ∃ d' p, d = d' + 1 /\ idxT 3 q (i : Int) = some (.ptr (shT (l.getD i default).kind (l.getD i default).name p)) /\ IsK d' (l.getD i default).kids p /\ IsSh d (l.getD i default) (shT (l.getD i default).kind (l.getD i default).name p) := by
 rcases h with ⟨rfl, rfl⟩ | ⟨ex, xs, rfl, hl, h⟩
 . cases hi
 . have hs := h i hi
   obtain ⟨d', p, h1, h2, h3⟩ := hs.open
   refine ⟨d', p, h1, ?_, h3, by rw [h2] at hs; exact hs⟩
   have : xs[i]? = some (shT (l.getD i default).kind (l.getD i default).name p) := by
    show xs[i]? = some (T.agg [T.int IntKind.u8 (l.getD i default).kind, T.str (l.getD i default).name, p])
    rw [<- h2, gD (l := xs), gE (show i < xs.length by omega)]
    rfl
   simp [idxT, this]
def lv : Nat -> Sh -> Nat
 | 0, _ => 0
 | d + 1, s => ((s.kids.map (lv d)).foldl max 0) + 1
theorem foldl_max_le {l : List Nat} : ∀ {a b : Nat}, a <= b -> (∀ x ∈ l, x <= b) -> l.foldl max a <= b := by
 induction l with
 | nil => intro a b h _; exact h
 | cons x l ih => intro a b h h2; exact ih (Nat.max_le.2 ⟨h, h2 x (by simp)⟩) fun y hy => h2 y (by simp [hy])
theorem lv_le : ∀ (d : Nat) (s : Sh), lv d s <= d
 | 0, _ => Nat.le_refl _
 | d + 1, s => Nat.succ_le_succ (foldl_max_le (Nat.zero_le _) fun x hx => by
  obtain ⟨k, _, rfl⟩ := List.mem_map.1 hx
  exact lv_le d k)
theorem iMax_nat (a b : Nat) : iMax (a : Int) (b : Int) = ((max a b : Nat) : Int) := by
 unfold iMax
 omega
def SmallS : Nat -> Sh -> Prop
 | 0, _ => True
 | d + 1, s => s.kids.length < 1000000 /\ s.name.length < 1000000 /\ ∀ i, i < s.kids.length -> SmallS d (s.kids.getD i default)
theorem drop_at {α β : Type} (g : α -> β) {l : List α} {i : Nat} (hi : i < l.length) (d : α) : (l.drop i).map g = g (l.getD i d) :: (l.drop (i + 1)).map g := by
 rw [List.drop_eq_getElem_cons hi, List.map_cons, gD, gE hi]
 rfl
theorem levels_spec : ∀ (d : Nat), d < 1000000 -> ∀ (s : Sh) (x : T), IsSh d s x -> SmallS d s -> fnO acfg 31 [x] = some (.int .i64 (lv d s : Int)) /\ fnO acfg 36 [x] = some (.int .i64 (lv d s : Int)) := by
 intro d
 induction d with
 | zero => intro _ s x h; exact h.elim
 | succ d ih =>
  intro hd s x h hs
  obtain ⟨d', q, e, rfl, hk⟩ := h.open
  cases e
  obtain ⟨s1, s2, s3⟩ := hs
  have bound : ∀ (i : Nat) (m : Nat), m <= d -> ((s.kids.drop i).map (lv d)).foldl max m <= d := fun i m hm => foldl_max_le hm fun y hy => by
   obtain ⟨k, _, rfl⟩ := List.mem_map.1 hy
   exact lv_le d k
  have key : ∀ i, i <= s.kids.length -> ∀ m : Nat, m <= d -> L31_1 (m : Int) q (s.kids.length : Int) (i : Int) = some (.int .i64 ((((s.kids.drop i).map (lv d)).foldl max m + 1 : Nat) : Int)) ∧
    L36_1 s.kind s.name q (m : Int) (i : Int) = some (.int .i64 ((((s.kids.drop i).map (lv d)).foldl max m + 1 : Nat) : Int)) := by
   refine upto_induct ?_ fun i hi ihi => ?_
   . intro m hm
     rw [List.drop_length]
     constructor
     . apply L31_1_step
       simp only [iLt_end, cond_false, List.map_nil, List.foldl_nil, iAdd_nat (show m < 1000000 by omega)]
     . apply L36_1_step
       simp only [sh_f2 hk.one, deref_one hk.one, oS, hk.len, iLt_end, cond_false, List.map_nil, List.foldl_nil, iAdd_nat (show m < 1000000 by omega)]
   . intro m hm
     obtain ⟨d', p, e, h1, h2, h3⟩ := hk.at hi
     obtain ⟨i1, i2⟩ := ih (by omega) _ _ h3 (s3 i hi)
     have hle := lv_le d (s.kids.getD i default)
     obtain ⟨k1, k2⟩ := ihi (max m (lv d (s.kids.getD i default))) (by omega)
     rw [drop_at (lv d) hi default, List.foldl_cons]
     constructor
     . apply L31_1_step
       simp only [iLt_len hi, cond_true, h1, oS, sh_d h2.one, agg3, nth30, nth31, nth32, int?_int, str?_str, sh_v h2.one, i1, scalar_int, iMax_nat, iAdd_nat (show i < 1000000 by omega), k1]
     . apply L36_1_step
       simp only [sh_f2 hk.one, deref_one hk.one, oS, hk.len, iLt_len hi, cond_true, h1, sh_d h2.one, agg3, nth30, nth31, nth32, int?_int, str?_str, i2, scalar_int, iMax_nat, iAdd_nat (show i < 1000000 by omega), k2]
  obtain ⟨k1, k2⟩ := key 0 (Nat.zero_le _) 0 (Nat.zero_le _)
  simp only [List.drop_zero, Int.natCast_zero] at k1 k2
  constructor
  . apply fn31
    simp only [sh_v hk.one, cond_true, sh_f2 hk.one, deref_one hk.one, oS, hk.len, k1]
    rfl
  . apply fn36
    simp only [sh_v hk.one, cond_true, k2]
    rfl
end Go.Proofs.Tryz

open Go Go.Apex
namespace Go.Proofs.Tryz
def thB : Nat -> Sh -> Bool
 | 0, _ => false
 | l + 1, s => decide (s.kids.length <= 4) && decide (s.name.length <= 30) && (upto 0 s.kids.length).all fun i => thB l (s.kids.getD i default)
theorem thin_small : ∀ (l : Nat) (s : Sh), thB l s = true -> ∀ d, SmallS d s
 | 0, _, h => by cases h
 | l + 1, s, h => fun d => by
  cases d with
  | zero => trivial
  | succ d =>
   simp only [thB, Bool.and_eq_true, decide_eq_true_eq, List.all_eq_true, mem_upto] at h
   exact ⟨by omega, by omega, fun i hi => thin_small l _ (h.2 i ⟨Nat.zero_le _, hi⟩) d⟩
theorem thinS_spec : ∀ (l : Nat), l < 1000000 -> ∀ (d : Nat) (s : Sh) (x : T), IsSh d s x -> fnO acfg 4 [x, .int .i64 (l : Int)] = some (.bool (thB l s)) := by
 intro l
 induction l with
 | zero =>
  intro _ d s x h
  obtain ⟨d', q, e, rfl, hk⟩ := h.open
  apply fn4
  have e0 : iEq ((0 : Nat) : Int) 0 = true := rfl
  simp only [sh_v hk.one, cond_true, e0]
  rfl
 | succ l ih =>
  intro hl d s x h
  obtain ⟨d', q, e, rfl, hk⟩ := h.open
  have e0 : iEq ((l + 1 : Nat) : Int) 0 = false := by unfold iEq; rw [beq_eq_false_iff_ne]; omega
  have e1 : iLt 4 (s.kids.length : Int) = !decide (s.kids.length <= 4) := by unfold iLt; by_cases h : s.kids.length <= 4 <;> simp [h] <;> omega
  have e2 : iLt 30 (sLen s.name) = !decide (s.name.length <= 30) := by unfold iLt sLen; by_cases h : s.name.length <= 30 <;> simp [h] <;> omega
  have hsub : iSub .i64 ((l + 1 : Nat) : Int) 1 = (l : Int) := by
   have := iSub_nat (i := l + 1) (by omega) (by omega)
   simpa using this
  have key : s.kids.length <= 4 -> ∀ i, i <= s.kids.length -> L4_1 ((l + 1 : Nat) : Int) s.kind s.name q (i : Int) = some (.bool ((upto i s.kids.length).all fun i => thB l (s.kids.getD i default))) := by
   intro h4
   refine upto_induct ?_ fun i hi ihi => ?_
   . apply L4_1_step
     simp only [sh_f2 hk.one, deref_one hk.one, oS, hk.len, iLt_end, cond_false, upto_end (Nat.le_refl _), List.all_nil]
   . obtain ⟨d2, p, e, h1, h2, h3⟩ := hk.at hi
     have i1 := ih (by omega) _ _ _ h3
     apply L4_1_step
     simp only [sh_f2 hk.one, deref_one hk.one, oS, hk.len, iLt_len hi, cond_true, h1, sh_d h2.one, agg3, nth30, nth31, nth32, int?_int, str?_str, hsub, i1, scalar_bool, bool?_bool, iAdd_nat (show i < 1000000 by omega), ihi, upto_step hi, List.all_cons]
     cases thB l (s.kids.getD i default) <;> simp [bNot]
  apply fn4
  simp only [sh_v hk.one, cond_true, e0, cond_false, sh_f2 hk.one, deref_one hk.one, oS, hk.len, e1, e2, thB]
  by_cases h4 : s.kids.length <= 4
  . have k1 := key h4 0 (Nat.zero_le _)
    rw [Int.natCast_zero] at k1
    by_cases h30 : s.name.length <= 30
    . simp only [h4, h30, decide_true, Bool.not_true, cond_false, Bool.true_and, k1]
    . simp only [h4, h30, decide_true, decide_false, Bool.not_true, Bool.not_false, cond_false, cond_true, Bool.true_and, Bool.false_and]
  . simp only [h4, decide_false, Bool.not_false, cond_true, Bool.false_and]
theorem sameS_spec : ∀ (d : Nat) (s : Sh) (x y : T), IsSh d s x -> IsSh d s y -> SmallS d s -> fnO acfg 13 [x, y] = some (.bool true) := by
 intro d
 induction d with
 | zero => intro s x y h; exact h.elim
 | succ d ih =>
  intro s x y h h' hs
  obtain ⟨d1, q, e, rfl, hk⟩ := h.open
  cases e
  obtain ⟨d1, q', e, rfl, hk'⟩ := h'.open
  cases e
  obtain ⟨s1, s2, s3⟩ := hs
  have key : ∀ i, i <= s.kids.length -> L13_1 s.kind s.name q s.kind s.name q' (i : Int) = some (.bool true) := by
   refine upto_induct ?_ fun i hi ihi => ?_
   . apply L13_1_step
     simp only [sh_f2 hk.one, deref_one hk.one, oS, hk.len, iLt_end, cond_false]
   . obtain ⟨d2, p, e, h1, h2, h3⟩ := hk.at hi
     obtain ⟨d3, p', e', h1', h2', h3'⟩ := hk'.at hi
     have i1 := ih _ _ _ h3 h3' (s3 i hi)
     apply L13_1_step
     simp only [sh_f2 hk.one, deref_one hk.one, sh_f2 hk'.one, deref_one hk'.one, oS, hk.len, iLt_len hi, cond_true, h1, h1', sh_d h2.one, sh_d h2'.one, agg3, nth30, nth31, nth32, int?_int, str?_str, i1, scalar_bool, bool?_bool, bNot, Bool.not_true, cond_false, iAdd_nat (show i < 1000000 by omega), ihi]
  have k1 := key 0 (Nat.zero_le _)
  rw [Int.natCast_zero] at k1
  have ie : ∀ z : Int, iEq z z = true := fun z => by simp [iEq]
  have se : ∀ z : List UInt8, sEq z z = true := fun z => by simp [sEq]
  apply fn13
  simp only [sh_v hk.one, sh_v hk'.one, cond_true, ie, se, bNot, Bool.not_true, cond_false, sh_f2 hk.one, deref_one hk.one, sh_f2 hk'.one, deref_one hk'.one, oS, hk.len, hk'.len, k1]
end Go.Proofs.Tryz

open Go Go.Apex
namespace Go.Proofs.Tryz
def AggN (n : Nat) (x : T) : Prop := ∃ cs, x = .agg cs /\ cs.length = n /\ ∀ c ∈ cs, c.one = true
def AllN (n : Nat) (xs : List T) : Prop := ∀ x ∈ xs, AggN n x
def cellsN (xs : List T) : List V := (cellsT xs).flatMap V.cells
theorem AggN.fits {n : Nat} {x : T} (h : AggN n x) : x.fits (some n) = true := by
 obtain ⟨cs, rfl, h1, h2⟩ := h
 show (true && (cs.length == n) && cs.all T.one) = true
 rw [h1, beq_self_eq_true, List.all_eq_true.2 h2]
 rfl
theorem cellsN_cons (x : T) (xs : List T) : cellsN (x :: xs) = V.cells (.t x) ++ cellsN xs := rfl
theorem cellsN_app (xs ys : List T) : cellsN (xs ++ ys) = cellsN xs ++ cellsN ys := by
 have e : cellsT (xs ++ ys) = cellsT xs ++ cellsT ys := by unfold cellsT; rw [List.map_append]
 unfold cellsN
 rw [e, List.flatMap_append]
theorem cellsN_len {n : Nat} : ∀ {xs : List T}, AllN n xs -> (cellsN xs).length = xs.length * n
 | [], _ => by simp [cellsN]
 | x :: xs, h => by
  obtain ⟨cs, rfl, h1, h2⟩ := h x (by simp)
  have ih := cellsN_len (xs := xs) fun y hy => h y (by simp [hy])
  rw [cellsN_cons, List.length_append, ih, List.length_cons, Nat.succ_mul]
  show (cs.map V.t).length + _ = _
  rw [List.length_map, h1]
  omega
theorem elemsFrom_N {n : Nat} : ∀ {xs : List T} (A : List V), AllN n xs -> elemsFrom (some n) (A ++ cellsN xs) A.length xs.length = some (cellsT xs)
 | [], _, _ => rfl
 | x :: xs, A, h => by
  have h0 := cellsN_len h
  obtain ⟨cs, rfl, h1, h2⟩ := h x (by simp)
  have ih := elemsFrom_N (xs := xs) (A ++ cs.map V.t) fun y hy => h y (by simp [hy])
  have hp : shPart (some n) (A ++ cellsN (.agg cs :: xs)) A.length = some (.t (.agg cs)) := by
   simp only [shPart]
   rw [if_pos (by rw [List.length_append, h0, List.length_cons, Nat.succ_mul]; omega), List.drop_left, cellsN_cons]
   have : (V.cells (.t (.agg cs)) ++ cellsN xs).take n = cs.map V.t := by
    show (cs.map V.t ++ cellsN xs).take n = _
    rw [List.take_left' (by rw [List.length_map, h1])]
   rw [this]
   unfold mkAgg
   rw [allT_cells]
  rw [List.length_append, List.length_map, h1, List.append_assoc] at ih
  simp only [List.length_cons, elemsFrom, hp, oS, shSize, Option.getD_some]
  rw [show A ++ cellsN (.agg cs :: xs) = A ++ (cs.map V.t ++ cellsN xs) from rfl, ih]
  rfl
theorem rowT_N {n : Nat} {xs : List T} (h : AllN n xs) : rowT (some n) (cellsN xs) 0 xs.length = some xs := by
 have := elemsFrom_N [] h
 rw [List.nil_append, List.length_nil] at this
 unfold rowT
 rw [this]
 simp only [oS, allT_cells]
 rw [if_pos (List.all_eq_true.2 fun x hx => (h x hx).fits)]
theorem appCs_N {xs : List T} (y : T) : appCs (cellsN xs) 0 [V.t y] = cellsN (xs ++ [y]) := by
 rw [cellsN_app]
 rfl
theorem rowNew_N (y : T) : rowNew [] [V.t y] = cellsN [y] := rfl
theorem appOK_N {n : Nat} {xs : List T} (h : AllN n xs) (hn : 1 <= n) (y : T) {bytes : Nat} (hb : (xs.length + 1) * (bytes + 1) <= maxBytes) : appOK (cellsN xs) 0 xs.length n [V.t y] bytes = true := by
 unfold appOK
 have h1 : (xs.length + 1) * (bytes + 1) = (xs.length + 1) * bytes + (xs.length + 1) := Nat.mul_succ _ _
 have h2 : (xs.length + 1) * n = xs.length * n + n := Nat.succ_mul _ _
 have h3 := cellsN_len h
 have : decide (¬ 0 + (xs.length + [V.t y].length) * n <= (cellsN xs).length /\ 0 + xs.length * n = (cellsN xs).length /\ xs.length + [V.t y].length <= maxBytes /\ (xs.length + [V.t y].length) * bytes <= maxBytes) = true := by
  simp only [List.length_cons, List.length_nil, Nat.zero_add, Nat.zero_add, h3]
  exact decide_eq_true ⟨by omega, trivial, by omega, by omega⟩
 rw [this, Bool.or_true]
theorem bdL_app (k : Nat) : ∀ (a b : List V), V.bdL k (a ++ b) = (V.bdL k a && V.bdL k b)
 | [], _ => rfl
 | x :: a, b => by
  show (V.bd k x && V.bdL k (a ++ b)) = ((V.bd k x && V.bdL k a) && V.bdL k b)
  rw [bdL_app k a b, Bool.and_assoc]
theorem objBd_N {n : Nat} (k g e : Nat) (b : Bool) : ∀ {xs : List T}, AllN n xs -> objBd k (.cells g e b (cellsN xs)) = true
 | [], _ => rfl
 | x :: xs, h => by
  obtain ⟨cs, rfl, _, _⟩ := h x (by simp)
  have ih := objBd_N k g e b (xs := xs) fun y hy => h y (by simp [hy])
  show V.bdL k (cs.map V.t ++ cellsN xs) = true
  rw [bdL_app, bdL_cells]
  exact ih
theorem agg3N {k : Int} {n : List UInt8} {q : T} (h : q.one = true) : AggN 3 (shT k n q) := ⟨_, rfl, rfl, fun c hc => by
 simp only [List.mem_cons, List.not_mem_nil, or_false] at hc
 rcases hc with rfl | rfl | rfl
 . rfl
 . rfl
 . exact h⟩
def CopTo (d : Nat) (l : List Sh) (xs : List T) : Prop := xs.length <= l.length /\ ∀ i, i < xs.length -> IsSh d (l.getD i default) (xs.getD i .nils)
theorem CopTo.all {d : Nat} {l : List Sh} {xs : List T} (h : CopTo d l xs) : AllN 3 xs := fun x hx => by
 obtain ⟨i, hi, rfl⟩ := List.getElem_of_mem hx
 have := h.2 i hi
 rw [gD (l := xs), gE hi] at this
 obtain ⟨d', q, _, h2, h3⟩ := this.open
 rw [Option.getD_some] at h2
 rw [h2]
 exact agg3N h3.one
theorem CopTo.snoc {d : Nat} {l : List Sh} {xs : List T} (h : CopTo d l xs) (hl : xs.length < l.length) {y : T} (hy : IsSh d (l.getD xs.length default) y) : CopTo d l (xs ++ [y]) := by
 refine ⟨by rw [List.length_append, List.length_singleton]; omega, fun i hi => ?_⟩
 rw [List.length_append, List.length_singleton] at hi
 by_cases e : i < xs.length
 . rw [gD (l := xs ++ [y]), List.getElem?_append_left e, <- gD]
   exact h.2 i e
 . have : i = xs.length := by omega
   subst this
   rw [gD (l := xs ++ [y]), List.getElem?_concat_length]
   exact hy
theorem copyS_spec : ∀ (d : Nat) (s : Sh) (x : T), IsSh d s x -> SmallS d s -> ∃ y, fnO acfg 8 [x] = some y /\ IsSh d s y := by
 intro d
 induction d with
 | zero => intro s x h; exact h.elim
 | succ d ih =>
  intro s x h hs
  obtain ⟨d1, q, e, rfl, hk⟩ := h.open
  cases e
  obtain ⟨s1, s2, s3⟩ := hs
  have cp : ∀ i, i < s.kids.length -> ∃ q0 q1, idxT 3 q (i : Int) = some (.ptr (shT (s.kids.getD i default).kind (s.kids.getD i default).name q0)) /\ q0.one = true /\ fnO acfg 8 [shT (s.kids.getD i default).kind (s.kids.getD i default).name q0] = some (shT (s.kids.getD i default).kind (s.kids.getD i default).name q1) /\ q1.one = true /\ IsSh d (s.kids.getD i default) (shT (s.kids.getD i default).kind (s.kids.getD i default).name q1) := fun i hi => by
   obtain ⟨d2, p, e, h1, h2, h3⟩ := hk.at hi
   obtain ⟨y, y1, y2⟩ := ih _ _ h3 (s3 i hi)
   obtain ⟨d3, q1, e3, rfl, h4⟩ := y2.open
   exact ⟨p, q1, h1, h2.one, y1, h4.one, y2⟩
  have two : ∀ i, i <= s.kids.length -> ∀ (xs : List T) (g : Nat), xs.length = i -> CopTo d s.kids xs -> ∃ y, L8_2 s.kind s.name q (i : Int) 0 [] s.kind s.name g 0 i g (cellsN xs) = some y /\ IsSh (d + 1) s y := by
   refine upto_induct ?_ fun i hi ihi => ?_
   . intro xs g hl hc
     refine ⟨shT s.kind s.name (.sl false 3 xs), ?_, ⟨_, rfl, .inr ⟨false, xs, rfl, hl, fun i hi => hc.2 i (by omega)⟩⟩⟩
     have hrow := rowT_N hc.all
     rw [hl] at hrow
     apply L8_2_step
     simp only [sh_f2 hk.one, deref_one hk.one, oS, hk.len, iLt_end, cond_false, natEq_self, cond_true, hrow]
   . intro xs g hl hc
     obtain ⟨q0, q1, c1, c2, c3, c4, c5⟩ := cp i hi
     obtain ⟨y, y1, y2⟩ := ihi (xs ++ [shT (s.kids.getD i default).kind (s.kids.getD i default).name q1]) (g + 1) (by simp [hl]) (hc.snoc (by omega) (by rw [hl]; exact c5))
     refine ⟨y, ?_, y2⟩
     have hok := appOK_N hc.all (by omega) (shT (s.kids.getD i default).kind (s.kids.getD i default).name q1) (bytes := 48) (by rw [maxB]; omega)
     rw [hl] at hok
     have hbd : ∀ k g e, objBd k (.cells g e false (cellsN (xs ++ [shT (s.kids.getD i default).kind (s.kids.getD i default).name q1]))) = true := fun k g e => objBd_N k g e false (hc.snoc (by omega) (by rw [hl]; exact c5)).all
     apply L8_2_step
     simp only [sh_f2 hk.one, deref_one hk.one, oS, hk.len, iLt_len hi, cond_true, c1, sh_d c2, agg3, nth30, nth31, nth32, int?_int, str?_str, c3, sh_v c4, natEq_self, hok, appCs_N, hbd, appGen_one, appLen_one, iAdd_nat (show i < 1000000 by omega), y1]
  apply Exists.elim (show ∃ y, L8_1 s.kind s.name q 0 0 [] s.kind s.name = some y /\ IsSh (d + 1) s y from ?_)
  . rintro y ⟨y1, y2⟩
    refine ⟨y, ?_, y2⟩
    apply fn8
    simp only [sh_v hk.one, cond_true, y1]
  . by_cases h0 : s.kids.length = 0
    . refine ⟨shT s.kind s.name .nils, ?_, ⟨_, rfl, .inl ⟨List.length_eq_zero_iff.1 h0, rfl⟩⟩⟩
      apply L8_1_step
      have hz : iLt 0 (s.kids.length : Int) = false := by rw [h0]; rfl
      simp only [sh_f2 hk.one, deref_one hk.one, oS, hk.len, hz, cond_false]
    . obtain ⟨q0, q1, c1, c2, c3, c4, c5⟩ := cp 0 (by omega)
      have hc0 : CopTo d s.kids [] := ⟨by simp, fun i hi => by simp at hi⟩
      obtain ⟨y, y1, y2⟩ := two 1 (by omega) [shT (s.kids.getD 0 default).kind (s.kids.getD 0 default).name q1] 1 rfl (hc0.snoc (by simp; omega) c5)
      refine ⟨y, ?_, y2⟩
      have hz : iLt 0 (s.kids.length : Int) = true := by unfold iLt; exact decide_eq_true (by omega)
      have hi1 : iAdd IntKind.i64 0 1 = ((1 : Nat) : Int) := by decide
      rw [Int.natCast_zero] at c1
      apply L8_1_step
      simp only [sh_f2 hk.one, deref_one hk.one, oS, hk.len, hz, cond_true, c1, sh_d c2, agg3, nth30, nth31, nth32, int?_int, str?_str, c3, sh_v c4, rowNew_N, hi1, y1]
end Go.Proofs.Tryz

open Go Go.Apex
namespace Go.Proofs.Tryz
def kidsZ (k : Int) : Int := if k = 1 \/ k = 2 \/ k = 3 \/ k = 4 \/ k = 5 then 0 else if k = 6 then 1 else if k = 7 then 2 else -1
def frmB : Nat -> Sh -> Bool
 | 0, _ => false
 | d + 1, s => decide (kidsZ s.kind = (s.kids.length : Int)) && (if s.kind = 5 then tableNameB s.name else decide (s.name = [])) && (upto 0 s.kids.length).all fun i => frmB d (s.kids.getD i default)
theorem kidsR_spec (k : Int) : fnO acfg 71 [.int .u8 k] = some (.int .i64 (kidsZ k)) := by
 apply fn71
 simp only [iEq, bif_eq, beq_iff_eq, kidsZ]
 by_cases h1 : k = 1
 . simp [h1]
 by_cases h2 : k = 2
 . simp [h2]
 by_cases h3 : k = 3
 . simp [h3]
 by_cases h4 : k = 4
 . simp [h4]
 by_cases h5 : k = 5
 . simp [h5]
 by_cases h6 : k = 6
 . simp [h6]
 by_cases h7 : k = 7
 . simp [h7]
 simp [h1, h2, h3, h4, h5, h6, h7]
def kidsM : T := .mp [.int .u8 1, .int .u8 2, .int .u8 3, .int .u8 4, .int .u8 5, .int .u8 6, .int .u8 7] [.int .i64 0, .int .i64 0, .int .i64 0, .int .i64 0, .int .i64 0, .int .i64 1, .int .i64 2]
theorem kidsM_val : fnO acfg 66 [] = some kidsM := fn66 _ rfl
theorem look_kids (k : Int) : ∃ z b, lookT (some (.int .i64 0)) kidsM (.int .u8 k) = some (.int .i64 z, b) /\ (b = true /\ kidsZ k = z \/ b = false /\ kidsZ k = -1) := by
 by_cases h1 : k = 1
 . subst h1; exact ⟨0, true, rfl, .inl ⟨rfl, rfl⟩⟩
 by_cases h2 : k = 2
 . subst h2; exact ⟨0, true, rfl, .inl ⟨rfl, rfl⟩⟩
 by_cases h3 : k = 3
 . subst h3; exact ⟨0, true, rfl, .inl ⟨rfl, rfl⟩⟩
 by_cases h4 : k = 4
 . subst h4; exact ⟨0, true, rfl, .inl ⟨rfl, rfl⟩⟩
 by_cases h5 : k = 5
 . subst h5; exact ⟨0, true, rfl, .inl ⟨rfl, rfl⟩⟩
 by_cases h6 : k = 6
 . subst h6; exact ⟨1, true, rfl, .inl ⟨rfl, rfl⟩⟩
 by_cases h7 : k = 7
 . subst h7; exact ⟨2, true, rfl, .inl ⟨rfl, rfl⟩⟩
 refine ⟨0, false, ?_, .inr ⟨rfl, by simp [kidsZ, h1, h2, h3, h4, h5, h6, h7]⟩⟩
 simp [lookT, kidsM, findKey, keyEq, h1, h2, h3, h4, h5, h6, h7]
theorem sEq_nil (s : List UInt8) : sEq s [] = decide (s = []) := by unfold sEq; rw [Bool.eq_iff_iff]; simp
theorem iEq_dec (a b : Int) : iEq a b = decide (a = b) := by unfold iEq; rw [Bool.eq_iff_iff]; simp
theorem name_nil : tableNameB [] = false := by decide
theorem formR_spec : ∀ (d : Nat) (s : Sh) (x : T), IsSh d s x -> SmallS d s -> fnO acfg 37 [x] = some (.bool (frmB d s)) := by
 intro d
 induction d with
 | zero => intro s x h; exact h.elim
 | succ d ih =>
  intro s x h hs
  obtain ⟨d1, q, e, rfl, hk⟩ := h.open
  cases e
  obtain ⟨s1, s2, s3⟩ := hs
  have key : ∀ i, i <= s.kids.length -> L37_1 s.kind s.name q (i : Int) = some (.bool ((upto i s.kids.length).all fun i => frmB d (s.kids.getD i default))) := by
   refine upto_induct ?_ fun i hi ihi => ?_
   . apply L37_1_step
     simp only [sh_f2 hk.one, deref_one hk.one, oS, hk.len, iLt_end, cond_false, upto_end (Nat.le_refl _), List.all_nil]
   . obtain ⟨d2, p, e, h1, h2, h3⟩ := hk.at hi
     have i1 := ih _ _ h3 (s3 i hi)
     apply L37_1_step
     simp only [sh_f2 hk.one, deref_one hk.one, oS, hk.len, iLt_len hi, cond_true, h1, sh_d h2.one, agg3, nth30, nth31, nth32, int?_int, str?_str, i1, scalar_bool, bool?_bool, iAdd_nat (show i < 1000000 by omega), ihi, upto_step hi, List.all_cons]
     cases frmB d (s.kids.getD i default) <;> simp [bNot]
  have k1 := key 0 (Nat.zero_le _)
  rw [Int.natCast_zero] at k1
  apply fn37
  simp only [sh_v hk.one, cond_true, sh_f2 hk.one, deref_one hk.one, oS, hk.len, kidsR_spec, scalar_int, int?_int, refTableName_spec s.name s2, scalar_bool, bool?_bool, iEq_dec, sEq_nil, k1, frmB]
  by_cases e1 : kidsZ s.kind = (s.kids.length : Int)
  . by_cases e5 : s.kind = 5
    . have e1' : kidsZ 5 = (s.kids.length : Int) := by rw [<- e5]; exact e1
      cases htn : tableNameB s.name <;> simp [e1', e5, htn, bNot, bEq]
    . by_cases en : s.name = []
      . simp [e1, e5, en, name_nil, bNot, bEq]
      . cases htn : tableNameB s.name <;> simp [e1, e5, en, htn, bNot, bEq]
  . have e1' : ¬ ((s.kids.length : Int) = kidsZ s.kind) := fun h => e1 h.symm
    simp [e1, e1', bNot]
theorem mode68 : acfg.mode 68 = .scalar := by kernel_rfl
theorem formP_spec : ∀ (d : Nat) (s : Sh) (x : T), IsSh d s x -> SmallS d s -> fnO acfg 33 [x] = some (.bool (frmB d s)) := by
 intro d
 induction d with
 | zero => intro s x h; exact h.elim
 | succ d ih =>
  intro s x h hs
  obtain ⟨d1, q, e, rfl, hk⟩ := h.open
  cases e
  obtain ⟨s1, s2, s3⟩ := hs
  have clo : ∀ (i : Int) (k : Sh) (p : T), p.one = true -> IsSh d k (shT k.kind k.name p) -> SmallS d k -> callT acfg (.fn (.func 68) [] []) [.int .i64 i, shT k.kind k.name p] = some (.bool (frmB d k)) := fun i k p hp hk hsk => by
   refine callT_scalar mode68 ?_ rfl
   apply fn68
   simp only [sh_v hp, cond_true, sh_d hp, oS, agg3, nth30, nth31, nth32, int?_int, str?_str, ih k _ hk hsk, scalar_bool, bool?_bool]
  have key : ∀ i, i <= s.kids.length -> L67_1 (.fn (.func 68) [] []) q (s.kids.length : Int) (i : Int) = some (.bool ((upto i s.kids.length).all fun i => frmB d (s.kids.getD i default))) := by
   refine upto_induct ?_ fun i hi ihi => ?_
   . apply L67_1_step
     simp only [iLt_end, cond_false, upto_end (Nat.le_refl _), List.all_nil]
   . obtain ⟨d2, p, e, h1, h2, h3⟩ := hk.at hi
     have i1 := clo (i : Int) _ p h2.one h3 (s3 i hi)
     apply L67_1_step
     simp only [iLt_len hi, cond_true, h1, oS, sh_d h2.one, agg3, nth30, nth31, nth32, int?_int, str?_str, sh_v h2.one, i1, bool?_bool, iAdd_nat (show i < 1000000 by omega), ihi, upto_step hi, List.all_cons]
     cases frmB d (s.kids.getD i default) <;> simp [bNot]
  have all : fnO acfg 67 [q, .fn (.func 68) [] []] = some (.bool ((upto 0 s.kids.length).all fun i => frmB d (s.kids.getD i default))) := by
   apply fn67
   have k1 := key 0 (Nat.zero_le _)
   rw [Int.natCast_zero] at k1
   simp only [hk.len, oS, k1]
  obtain ⟨z, b, lk, hz⟩ := look_kids s.kind
  apply fn33
  simp only [sh_v hk.one, cond_true, kidsM_val, oS, lk, int?_int, sh_f2 hk.one, deref_one hk.one, hk.len, tableName_spec s.name s2, scalar_bool, bool?_bool, iEq_dec, sEq_nil, all, frmB]
  rcases hz with ⟨rfl, hz⟩ | ⟨rfl, hz⟩
  . rw [hz]
    by_cases e1 : z = (s.kids.length : Int)
    . by_cases e5 : s.kind = 5
      . cases htn : tableNameB s.name <;> simp [e1, e5, bNot]
      . by_cases en : s.name = [] <;> simp [e1, e5, en, bNot]
    . simp [e1, bNot]
  . rw [hz]
    have : ¬ ((-1 : Int) = (s.kids.length : Int)) := by omega
    simp [this, bNot]
end Go.Proofs.Tryz

open Go Go.Apex
namespace Go.Proofs.Tryz
theorem mode69 : acfg.mode 69 = .scalar := by kernel_rfl
def nmB (q : List UInt8 -> Bool) : Nat -> Sh -> Bool
 | 0, _ => false
 | d + 1, s => (if s.kind = 5 then q s.name else true) && (upto 0 s.kids.length).all fun i => nmB q d (s.kids.getD i default)
theorem all67 {d : Nat} {l : List Sh} {x f : T} (hk : IsK d l x) (hl : l.length < 1000000) {p : Nat -> Bool}
  (hf : ∀ i, i < l.length -> ∀ z : T, z.one = true -> IsSh d (l.getD i default) (shT (l.getD i default).kind (l.getD i default).name z) -> callT acfg f [.int .i64 (i : Int), shT (l.getD i default).kind (l.getD i default).name z] = some (.bool (p i))) :
  fnO acfg 67 [x, f] = some (.bool ((upto 0 l.length).all p)) := by
 have key : ∀ i, i <= l.length -> L67_1 f x (l.length : Int) (i : Int) = some (.bool ((upto i l.length).all p)) := by
  refine upto_induct ?_ fun i hi ihi => ?_
  . apply L67_1_step
    simp only [iLt_end, cond_false, upto_end (Nat.le_refl _), List.all_nil]
  . obtain ⟨d2, z, e, h1, h2, h3⟩ := hk.at hi
    have i1 := hf i hi z h2.one h3
    apply L67_1_step
    simp only [iLt_len hi, cond_true, h1, oS, sh_d h2.one, agg3, nth30, nth31, nth32, int?_int, str?_str, sh_v h2.one, i1, bool?_bool, iAdd_nat (show i < 1000000 by omega), ihi, upto_step hi, List.all_cons]
    cases p i <;> simp [bNot]
 apply fn67
 have k1 := key 0 (Nat.zero_le _)
 rw [Int.natCast_zero] at k1
 simp only [hk.len, oS, k1]
theorem namesP_spec {f : T} (f1 : f.one = true) {q : List UInt8 -> Bool} (hf : ∀ n : List UInt8, n.length < 1000000 -> callT acfg f [.str n] = some (.bool (q n))) :
  ∀ (d : Nat) (s : Sh) (x : T), IsSh d s x -> SmallS d s -> fnO acfg 34 [x, f] = some (.bool (nmB q d s)) := by
 intro d
 induction d with
 | zero => intro s x h; exact h.elim
 | succ d ih =>
  intro s x h hs
  obtain ⟨d1, y, e, rfl, hk⟩ := h.open
  cases e
  obtain ⟨s1, s2, s3⟩ := hs
  have all : fnO acfg 67 [y, .fn (.func 69) [] [.ptr f]] = some (.bool ((upto 0 s.kids.length).all fun i => nmB q d (s.kids.getD i default))) := by
   refine all67 hk s1 fun i hi z hz hkz => ?_
   refine callT_scalar mode69 ?_ rfl
   apply fn69
   simp only [sh_v hz, cond_true, sh_d hz, oS, agg3, nth30, nth31, nth32, int?_int, str?_str, deref_one f1, ih _ _ hkz (s3 i hi), scalar_bool, bool?_bool]
  apply fn34
  simp only [sh_v hk.one, vfits_one f1, cond_true, iEq_dec, deref_one f1, oS, hf s.name s2, bool?_bool, sh_f2 hk.one, deref_one hk.one, all, scalar_bool, nmB]
  by_cases e5 : s.kind = 5
  . cases hq : q s.name <;> simp [e5, hq, bNot]
  . simp [e5]
theorem namesR_spec {a0 : T} {q : List UInt8 -> Bool} (hf : ∀ n : List UInt8, n.length < 1000000 -> ∃ z : Int, fnO acfg 40 [a0, .str n] = some (.int .i64 z) /\ decide (z < 0) = !q n) :
  ∀ (d : Nat) (s : Sh) (x : T), IsSh d s x -> SmallS d s -> fnO acfg 42 [a0, x] = some (.bool (nmB q d s)) := by
 intro d
 induction d with
 | zero => intro s x h; exact h.elim
 | succ d ih =>
  intro s x h hs
  obtain ⟨d1, y, e, rfl, hk⟩ := h.open
  cases e
  obtain ⟨s1, s2, s3⟩ := hs
  have key : ∀ i, i <= s.kids.length -> L42_1 a0 s.kind s.name y (i : Int) = some (.bool ((upto i s.kids.length).all fun i => nmB q d (s.kids.getD i default))) := by
   refine upto_induct ?_ fun i hi ihi => ?_
   . apply L42_1_step
     simp only [sh_f2 hk.one, deref_one hk.one, oS, hk.len, iLt_end, cond_false, upto_end (Nat.le_refl _), List.all_nil]
   . obtain ⟨d2, p, e, h1, h2, h3⟩ := hk.at hi
     have i1 := ih _ _ h3 (s3 i hi)
     apply L42_1_step
     simp only [sh_f2 hk.one, deref_one hk.one, oS, hk.len, iLt_len hi, cond_true, h1, sh_d h2.one, agg3, nth30, nth31, nth32, int?_int, str?_str, i1, scalar_bool, bool?_bool, iAdd_nat (show i < 1000000 by omega), ihi, upto_step hi, List.all_cons]
     cases nmB q d (s.kids.getD i default) <;> simp [bNot]
  have k1 := key 0 (Nat.zero_le _)
  rw [Int.natCast_zero] at k1
  obtain ⟨z, z1, z2⟩ := hf s.name s2
  have z3 : iLt z 0 = !q s.name := z2
  apply fn42
  simp only [sh_v hk.one, cond_true, iEq_dec, z1, oS, scalar_int, int?_int, z3, k1, nmB]
  by_cases e5 : s.kind = 5
  . cases hq : q s.name <;> simp [e5, hq]
  . simp [e5]
end Go.Proofs.Tryz

open Go Go.Apex
namespace Go.Proofs.Tryz
def kw (k : Int) : List UInt8 := if k = 1 then [102, 108, 97, 103] else if k = 2 then [109, 97, 120] else if k = 3 then [115, 101, 116] else [111, 110, 99, 101]
def txtS : Nat -> Sh -> List UInt8
 | 0, _ => []
 | d + 1, s => if s.kind = 5 then s.name else if s.kind = 6 then [109, 97, 112, 40] ++ txtS d (s.kids.getD 0 default) ++ [41]
  else if s.kind = 7 then [112, 97, 105, 114, 40] ++ txtS d (s.kids.getD 0 default) ++ [44, 32] ++ txtS d (s.kids.getD 1 default) ++ [41] else kw s.kind
theorem kw_len (k : Int) : (kw k).length <= 4 := by
 unfold kw
 split
 . decide
 . split
   . decide
   . split <;> decide
theorem frm_kind {d : Nat} {s : Sh} (h : frmB (d + 1) s = true) : (s.kind = 1 \/ s.kind = 2 \/ s.kind = 3 \/ s.kind = 4 \/ s.kind = 5) /\ s.kids.length = 0 \/ s.kind = 6 /\ s.kids.length = 1 \/ s.kind = 7 /\ s.kids.length = 2 := by
 simp only [frmB, Bool.and_eq_true, decide_eq_true_eq] at h
 have h1 := h.1.1
 unfold kidsZ at h1
 split at h1
 . rename_i hk; exact .inl ⟨hk, by omega⟩
 . split at h1
   . rename_i hk; exact .inr (.inl ⟨hk, by omega⟩)
   . split at h1
     . rename_i hk; exact .inr (.inr ⟨hk, by omega⟩)
     . omega
theorem frm_kid {d : Nat} {s : Sh} (h : frmB (d + 1) s = true) {i : Nat} (hi : i < s.kids.length) : frmB d (s.kids.getD i default) = true := by
 simp only [frmB, Bool.and_eq_true, List.all_eq_true, mem_upto] at h
 exact h.2 i ⟨Nat.zero_le _, hi⟩
theorem thin_kid {l : Nat} {s : Sh} (h : thB (l + 1) s = true) {i : Nat} (hi : i < s.kids.length) : thB l (s.kids.getD i default) = true := by
 simp only [thB, Bool.and_eq_true, List.all_eq_true, mem_upto] at h
 exact h.2 i ⟨Nat.zero_le _, hi⟩
theorem thin_name {l : Nat} {s : Sh} (h : thB (l + 1) s = true) : s.name.length <= 30 := by
 simp only [thB, Bool.and_eq_true, decide_eq_true_eq] at h
 exact h.1.2
theorem txt_len : ∀ (l : Nat) (d : Nat) (s : Sh), thB l s = true -> frmB d s = true -> (txtS d s).length <= 40 * 3 ^ l
 | 0, _, _, h, _ => by cases h
 | l + 1, 0, _, _, h => by cases h
 | l + 1, d + 1, s, h, hf => by
  have hp : 0 < 3 ^ l := Nat.pow_pos (by decide)
  have e3 : 3 ^ (l + 1) = 3 ^ l * 3 := Nat.pow_succ _ _
  have hn := thin_name h
  have hkw := kw_len s.kind
  rcases frm_kind hf with ⟨hk, h0⟩ | ⟨hk, h1⟩ | ⟨hk, h2⟩
  . have n6 : s.kind ≠ 6 := by omega
    have n7 : s.kind ≠ 7 := by omega
    simp only [txtS, n6, n7, if_false]
    split <;> omega
  . have i0 := txt_len l d _ (thin_kid h (i := 0) (by omega)) (frm_kid hf (i := 0) (by omega))
    have n5 : s.kind ≠ 5 := by omega
    simp only [txtS, n5, hk, if_false, if_true, List.length_append, List.length_cons, List.length_nil]
    rw [if_neg (by decide)]
    simp only [List.length_append, List.length_cons, List.length_nil]
    omega
  . have i0 := txt_len l d _ (thin_kid h (i := 0) (by omega)) (frm_kid hf (i := 0) (by omega))
    have i1 := txt_len l d _ (thin_kid h (i := 1) (by omega)) (frm_kid hf (i := 1) (by omega))
    simp only [txtS, hk]
    rw [if_neg (by decide), if_neg (by decide), if_pos trivial]
    simp only [List.length_append, List.length_cons, List.length_nil]
    omega
theorem sCatOK_sm {a b : List UInt8} (h : a.length + b.length <= 9000000000) : sCatOK a b = true := decide_eq_true (by omega)
theorem textSR_spec : ∀ (l : Nat), l <= 6 -> ∀ (d : Nat) (s : Sh) (x : T), IsSh d s x -> thB l s = true -> frmB d s = true -> fnO acfg 38 [x] = some (.str (txtS d s))
 | 0, _, _, _, _, _, h, _ => by cases h
 | l + 1, hl, d, s, x, hx, ht, hf => by
  obtain ⟨d, q, rfl, rfl, hk⟩ := hx.open
  have hb : ∀ (d : Nat) (k : Sh), thB l k = true -> frmB d k = true -> (txtS d k).length <= 29160 := fun d k h1 h2 => by
   have h3 := txt_len l d k h1 h2
   have h4 : 3 ^ l <= 3 ^ 6 := Nat.pow_le_pow_right (by decide) (by omega)
   have h5 : 3 ^ 6 = 729 := by decide
   omega
  have sc : ∀ z : List UInt8, T.scalar (.str z) = true := fun _ => rfl
  have cat : ∀ a b : List UInt8, sCat a b = a ++ b := fun _ _ => rfl
  apply fn38
  rcases frm_kind hf with ⟨hkd, h0⟩ | ⟨hkd, h1⟩ | ⟨hkd, h2⟩
  . simp only [sh_v hk.one, cond_true, iEq_dec, txtS, kw]
    rcases hkd with e | e | e | e | e <;> simp [e]
  . obtain ⟨d2, p, _, a1, a2, a3⟩ := hk.at (i := 0) (by omega)
    rw [Int.natCast_zero] at a1
    have t0 := thin_kid ht (i := 0) (by omega)
    have f0 := frm_kid hf (i := 0) (by omega)
    have r0 := textSR_spec l (by omega) d _ _ a3 t0 f0
    have b0 := hb d _ t0 f0
    have c1 : sCatOK [109, 97, 112, 40] (txtS d (s.kids.getD 0 default)) = true := sCatOK_sm (by simp only [List.length_cons, List.length_nil]; omega)
    have c2 : sCatOK ([109, 97, 112, 40] ++ txtS d (s.kids.getD 0 default)) [41] = true := sCatOK_sm (by simp only [List.length_append, List.length_cons, List.length_nil]; omega)
    have et : txtS (d + 1) s = [109, 97, 112, 40] ++ txtS d (s.kids.getD 0 default) ++ [41] := by simp only [txtS, hkd]; rfl
    have k1 : iEq s.kind 1 = false := by rw [hkd]; rfl
    have k2 : iEq s.kind 2 = false := by rw [hkd]; rfl
    have k3 : iEq s.kind 3 = false := by rw [hkd]; rfl
    have k4 : iEq s.kind 4 = false := by rw [hkd]; rfl
    have k6 : iEq s.kind 6 = true := by rw [hkd]; rfl
    simp only [sh_v hk.one, cond_true, k1, k2, k3, k4, k6, cond_false, sh_f2 hk.one, deref_one hk.one, oS, a1, sh_d a2.one, agg3, nth30, nth31, nth32, int?_int, str?_str, r0, sc, c1, cat, c2, et]
  . obtain ⟨d2, p, _, a1, a2, a3⟩ := hk.at (i := 0) (by omega)
    obtain ⟨d2', p', _, a1', a2', a3'⟩ := hk.at (i := 1) (by omega)
    rw [Int.natCast_zero] at a1
    have a1'' : idxT 3 q 1 = some (.ptr (shT (s.kids.getD 1 default).kind (s.kids.getD 1 default).name p')) := a1'
    have t0 := thin_kid ht (i := 0) (by omega)
    have f0 := frm_kid hf (i := 0) (by omega)
    have t1 := thin_kid ht (i := 1) (by omega)
    have f1 := frm_kid hf (i := 1) (by omega)
    have r0 := textSR_spec l (by omega) d _ _ a3 t0 f0
    have r1 := textSR_spec l (by omega) d _ _ a3' t1 f1
    have b0 := hb d _ t0 f0
    have b1 := hb d _ t1 f1
    have c1 : sCatOK [112, 97, 105, 114, 40] (txtS d (s.kids.getD 0 default)) = true := sCatOK_sm (by simp only [List.length_cons, List.length_nil]; omega)
    have c2 : sCatOK ([112, 97, 105, 114, 40] ++ txtS d (s.kids.getD 0 default)) [44, 32] = true := sCatOK_sm (by simp only [List.length_append, List.length_cons, List.length_nil]; omega)
    have c3 : sCatOK ([112, 97, 105, 114, 40] ++ txtS d (s.kids.getD 0 default) ++ [44, 32]) (txtS d (s.kids.getD 1 default)) = true := sCatOK_sm (by simp only [List.length_append, List.length_cons, List.length_nil]; omega)
    have c4 : sCatOK ([112, 97, 105, 114, 40] ++ txtS d (s.kids.getD 0 default) ++ [44, 32] ++ txtS d (s.kids.getD 1 default)) [41] = true := sCatOK_sm (by simp only [List.length_append, List.length_cons, List.length_nil]; omega)
    have et : txtS (d + 1) s = [112, 97, 105, 114, 40] ++ txtS d (s.kids.getD 0 default) ++ [44, 32] ++ txtS d (s.kids.getD 1 default) ++ [41] := by simp only [txtS, hkd]; rfl
    have k1 : iEq s.kind 1 = false := by rw [hkd]; rfl
    have k2 : iEq s.kind 2 = false := by rw [hkd]; rfl
    have k3 : iEq s.kind 3 = false := by rw [hkd]; rfl
    have k4 : iEq s.kind 4 = false := by rw [hkd]; rfl
    have k6 : iEq s.kind 6 = false := by rw [hkd]; rfl
    have k7 : iEq s.kind 7 = true := by rw [hkd]; rfl
    simp only [sh_v hk.one, cond_true, k1, k2, k3, k4, k6, k7, cond_false, sh_f2 hk.one, deref_one hk.one, oS, a1, a1'', sh_d a2.one, sh_d a2'.one, agg3, nth30, nth31, nth32, int?_int, str?_str, r0, r1, sc, c1, cat, c2, c3, c4, et]
end Go.Proofs.Tryz

open Go Go.Apex
namespace Go.Proofs.Tryz
def txtE (d : Nat) (s : Sh) : List UInt8 × Int := if 4 < lv d s then ([], 5) else if frmB d s = true then (txtS d s, 0) else ([], 4)
theorem thin_few : ∀ (l d : Nat) (s : Sh) (x : T), IsSh d s x -> thB l s = true -> IsSh l s x
 | 0, _, _, _, _, h => by cases h
 | l + 1, d, s, x, hx, ht => by
  obtain ⟨d, q, rfl, rfl, hk⟩ := hx.open
  refine ⟨q, rfl, ?_⟩
  rcases hk with h | ⟨ex, xs, e, hl, h⟩
  . exact .inl h
  . exact .inr ⟨ex, xs, e, hl, fun i hi => thin_few l d _ _ (h i hi) (thin_kid ht hi)⟩
section
variable {d : Nat} (hd : d < 1000000) {s : Sh} {x : T} (hx : IsSh d s x) (ht : thB 6 s = true)
include hd hx ht
theorem shapeTextR_spec : fnO acfg 11 [x] = some (.tup [.str (txtE d s).1, .int .i64 (txtE d s).2]) := by
 have hs := thin_small 6 s ht d
 have hl := (levels_spec d hd s x hx hs).2
 have hf := formR_spec d s x hx hs
 have htx := textSR_spec 6 (Nat.le_refl _) d s x hx ht
 obtain ⟨d', q, e, rfl, hk⟩ := hx.open
 have e4 : iLt 4 (lv d s : Int) = decide (4 < lv d s) := by unfold iLt; rw [Bool.eq_iff_iff]; simp; omega
 have sc : ∀ z : List UInt8, T.scalar (.str z) = true := fun _ => rfl
 apply fn11
 simp only [sh_v hk.one, cond_true, sh_d hk.one, oS, agg3, nth30, nth31, nth32, int?_int, str?_str, hl, scalar_int, e4, hf, scalar_bool, bool?_bool, txtE]
 by_cases h4 : 4 < lv d s
 . simp [h4]
 . cases hfb : frmB d s with
   | false => simp [h4, bNot]
   | true => simp [h4, bNot, htx hfb, sc, str?_str]
theorem shapeTextP_spec (h35 : frmB d s = true -> fnO acfg 35 [x] = some (.str (txtS d s))) : fnO acfg 10 [x] = some (.tup [.str (txtE d s).1, .int .i64 (txtE d s).2]) := by
 have hs := thin_small 6 s ht d
 have hl := (levels_spec d hd s x hx hs).1
 have hf := formP_spec d s x hx hs
 obtain ⟨d', q, e, rfl, hk⟩ := hx.open
 have e4 : iLt 4 (lv d s : Int) = decide (4 < lv d s) := by unfold iLt; rw [Bool.eq_iff_iff]; simp; omega
 have sc : ∀ z : List UInt8, T.scalar (.str z) = true := fun _ => rfl
 apply fn10
 simp only [sh_v hk.one, cond_true, sh_d hk.one, oS, agg3, nth30, nth31, nth32, int?_int, str?_str, hl, scalar_int, e4, hf, scalar_bool, bool?_bool, txtE]
 by_cases h4 : 4 < lv d s
 . simp [h4]
 . cases hfb : frmB d s with
   | false => simp [h4, bNot]
   | true => simp [h4, bNot, h35 hfb, sc, str?_str]
end
end Go.Proofs.Tryz

open Go Go.Apex
namespace Go.Proofs.Tryz
instance : Inhabited Tbl := ⟨⟨[], [], [], []⟩⟩
def IsTb (t : Tbl) (x : T) : Prop := ∃ n e a w, x = tblT n e a w /\ IsTbl t n e a w
def IsTs (l : List Tbl) (q : T) : Prop := (l = [] /\ q = .nils) \/ ∃ ex xs, q = .sl ex 4 xs /\ xs.length = l.length /\ ∀ i, i < l.length -> IsTb (l.getD i default) (xs.getD i .nils)
theorem IsTs.one {l : List Tbl} {q : T} (h : IsTs l q) : q.one = true := by
 rcases h with ⟨_, rfl⟩ | ⟨ex, xs, rfl, _⟩ <;> rfl
theorem IsTs.len {l : List Tbl} {q : T} (h : IsTs l q) : lenT q = some (l.length : Int) := by
 rcases h with ⟨rfl, rfl⟩ | ⟨ex, xs, rfl, h, _⟩
 . rfl
 . show some (xs.length : Int) = _
   rw [h]
theorem IsTs.at {l : List Tbl} {q : T} (h : IsTs l q) {i : Nat} (hi : i < l.length) : ∃ n e a w, idxT 4 q (i : Int) = some (.ptr (tblT n e a w)) /\ IsTbl (l.getD i default) n e a w := by
 rcases h with ⟨rfl, rfl⟩ | ⟨ex, xs, rfl, hl, h⟩
 . cases hi
 . obtain ⟨n, e, a, w, h1, h2⟩ := h i hi
   refine ⟨n, e, a, w, ?_, h2⟩
   have : xs[i]? = some (tblT n e a w) := by
    rw [<- h1, gD (l := xs), gE (show i < xs.length by omega)]
    rfl
   simp [idxT, this]
theorem numberR_spec {l : List Tbl} {q : T} (h : IsTs l q) (hl : l.length < 1000000) (s : List UInt8) : fnO acfg 40 [q, .str s] = some (.int .i64 (findI (fun i => decide ((l.getD i default).name = s)) 0 l.length)) := by
 have key : ∀ i, i <= l.length -> L40_1 q s (i : Int) = some (.int .i64 (findI (fun i => decide ((l.getD i default).name = s)) i l.length)) := by
  refine upto_induct ?_ fun i hi ih => ?_
  . apply L40_1_step
    simp only [h.len, oS, iLt_end, cond_false, findI_end (Nat.le_refl _)]
  . obtain ⟨n, e, a, w, h1, h2⟩ := h.at hi
    have hn := h2.n
    have se : sEq n s = decide ((l.getD i default).name = s) := by unfold sEq; rw [hn, Bool.eq_iff_iff]; simp
    apply L40_1_step
    simp only [h.len, oS, iLt_len hi, cond_true, h1, h2.f0, deref_str, str?_str, se, findI_step hi, iAdd_nat (show i < 1000000 by omega), ih]
    cases decide ((l.getD i default).name = s) <;> rfl
 apply fn40
 have k1 := key 0 (Nat.zero_le _)
 rwa [Int.natCast_zero] at k1
end Go.Proofs.Tryz

open Go Go.Apex
namespace Go.Proofs.Tryz
theorem mode30 : acfg.mode 30 = .scalar := by kernel_rfl
theorem mode29 : acfg.mode 29 = .scalar := by kernel_rfl
theorem indexTs_spec {l : List Tbl} {q f : T} (h : IsTs l q) (hl : l.length < 1000000) {p : Nat -> Bool}
  (hf : ∀ i, i < l.length -> ∀ (n : List UInt8) (e a w : T), IsTbl (l.getD i default) n e a w -> callT acfg f [tblT n e a w] = some (.bool (p i))) : fnO acfg 65 [q, f] = some (.int .i64 (findI p 0 l.length)) := by
 have key : ∀ i, i <= l.length -> L65_1 q f (l.length : Int) (i : Int) = some (.int .i64 (findI p i l.length)) := by
  refine upto_induct ?_ fun i hi ih => ?_
  . apply L65_1_step
    simp only [iLt_end, cond_false, findI_end (Nat.le_refl _)]
  . obtain ⟨n, e, a, w, h1, h2⟩ := h.at hi
    have hp := hf i hi n e a w h2
    apply L65_1_step
    simp only [iLt_len hi, cond_true, h1, oS, h2.d4, agg4, nth0, nth1, nth2, nth3, str?_str, hp, bool?_bool, findI_step hi, iAdd_nat (show i < 1000000 by omega), ih]
    cases p i <;> rfl
 apply fn65
 have k1 := key 0 (Nat.zero_le _)
 rw [Int.natCast_zero] at k1
 simp only [h.len, oS, k1]
theorem containsTs_spec {l : List Tbl} {q f : T} (h : IsTs l q) (hl : l.length < 1000000) {p : Nat -> Bool}
  (hf : ∀ i, i < l.length -> ∀ (n : List UInt8) (e a w : T), IsTbl (l.getD i default) n e a w -> callT acfg f [tblT n e a w] = some (.bool (p i))) : fnO acfg 26 [q, f] = some (.bool (!decide (findI p 0 l.length < 0))) := by
 apply fn26
 have e1 : ∀ z : Int, iLe 0 z = !decide (z < 0) := fun z => by unfold iLe; by_cases h : z < 0 <;> simp [h] <;> omega
 simp only [indexTs_spec h hl hf, oS, scalar_int, cond_true, int?_int, e1]
theorem there_spec {l : List Tbl} {q : T} (h : IsTs l q) (hl : l.length < 1000000) (s : List UInt8) : callT acfg (.fn (.func 29) [] [.ptr q]) [.str s] = some (.bool (!decide (findI (fun i => decide ((l.getD i default).name = s)) 0 l.length < 0))) := by
 refine callT_scalar mode29 ?_ rfl
 apply fn29
 have hc := containsTs_spec (f := .fn (.func 30) [] [.ptr (.str s)]) (p := fun i => decide ((l.getD i default).name = s)) h hl fun i hi n e a w ht => by
  refine callT_scalar mode30 ?_ rfl
  apply fn30
  have hn := ht.n
  have se : sEq n s = decide ((l.getD i default).name = s) := by unfold sEq; rw [hn, Bool.eq_iff_iff]; simp
  simp only [ht.v4, cond_true, deref_str, oS, str?_str, se]
 simp only [deref_one h.one, oS, hc, scalar_bool, cond_true, bool?_bool]
end Go.Proofs.Tryz

open Go Go.Apex
namespace Go.Proofs.Tryz
theorem allTs_spec {l : List Tbl} {q f : T} (h : IsTs l q) (hl : l.length < 1000000) {p : Nat -> Bool}
  (hf : ∀ i, i < l.length -> ∀ (n : List UInt8) (e a w : T), IsTbl (l.getD i default) n e a w -> callT acfg f [.int .i64 (i : Int), tblT n e a w] = some (.bool (p i))) : fnO acfg 32 [q, f] = some (.bool ((upto 0 l.length).all p)) := by
 have key : ∀ i, i <= l.length -> L32_1 f q (l.length : Int) (i : Int) = some (.bool ((upto i l.length).all p)) := by
  refine upto_induct ?_ fun i hi ih => ?_
  . apply L32_1_step
    simp only [iLt_end, cond_false, upto_end (Nat.le_refl _), List.all_nil]
  . obtain ⟨n, e, a, w, h1, h2⟩ := h.at hi
    have hp := hf i hi n e a w h2
    apply L32_1_step
    simp only [iLt_len hi, cond_true, h1, oS, h2.d4, h2.v4, agg4, nth0, nth1, nth2, nth3, str?_str, hp, bool?_bool, iAdd_nat (show i < 1000000 by omega), ih, upto_step hi, List.all_cons]
    cases p i <;> simp [bNot]
 apply fn32
 have k1 := key 0 (Nat.zero_le _)
 rw [Int.natCast_zero] at k1
 simp only [h.len, oS, k1]
end Go.Proofs.Tryz

open Go Go.Apex
namespace Go.Apex
theorem Tm.all_upd {α : Type} (p : α -> Bool) {x : α} (hx : p x = true) : ∀ (t : Tm α) (n : Nat), t.all p = true -> (t.upd x n).all p = true
 | .nil, _, _ => rfl
 | .node v l r, n, h => by
  rw [Tm.all_node, Bool.and_eq_true, Bool.and_eq_true] at h
  obtain ⟨h1, h2, h3⟩ := h
  rcases Tm.index_cases n with rfl | ⟨k, rfl⟩ | ⟨k, rfl⟩
  . rw [Tm.upd_zero, Tm.all_node, h2, h3]
    cases v with
    | none => rfl
    | some y => simp [hx]
  . rw [Tm.upd_odd, Tm.all_node, h1, h3, Tm.all_upd p hx l k h2]; rfl
  . rw [Tm.upd_even, Tm.all_node, h1, h2, Tm.all_upd p hx r k h3]; rfl
theorem Tm.eqb_refl {α : Type} {e : α -> α -> Bool} : ∀ t : Tm α, t.all (fun x => e x x) = true -> Tm.eqb e t t = true
 | .nil, _ => rfl
 | .node v l r, h => by
  rw [Tm.all_node, Bool.and_eq_true, Bool.and_eq_true] at h
  obtain ⟨h1, h2, h3⟩ := h
  simp only [Tm.eqb, Tm.eqb_refl l h2, Tm.eqb_refl r h3, Bool.and_true]
  cases v with
  | none => rfl
  | some y => exact h1
end Go.Apex
namespace Go.Proofs.Tryz
set_option maxRecDepth 100000
noncomputable def x35 : Code := codeOf acfg 35 [1, 1, 0, 1, 0, 0, 0]
noncomputable def b35 : Code := codeOf acfg 35 [1, 1, 0, 1, 0, 0, 1]
noncomputable def S2 (kd : Int) (nm : List UInt8) (q : T) (out : List UInt8) : St := ⟨mkTs 47 [(1, .t (.ptr (.agg [.int .u8 kd, .str nm, q]))), (3, .t (.str out)), (12, .it 6 none)], ⟨7, mkTr []⟩, []⟩
noncomputable def S1 (kd : Int) (nm : List UInt8) (q : T) (out : List UInt8) (ks vs : List T) : St := ⟨mkTs 47 [(1, .t (.ptr (.agg [.int .u8 kd, .str nm, q]))), (3, .t (.str out)), (12, .it 6 none)], ⟨7, mkTr [(6, .mit ks vs)]⟩, []⟩
noncomputable abbrev rd35 (n : Nat) : T -> T -> St -> Option St := mrRound acfg 35 (.seq x35 b35) 12 13 14 6 (fun s => exec acfg (env acfg n) 35 none b35 s)
noncomputable abbrev en35 (n : Nat) : St -> Option (Out × St) := mrEnd 12 13 14 6 (fun s => exec acfg (env acfg n) 35 none b35 s)
theorem of35 : mrOf (.seq x35 b35) = some (12, 13, 14) := by kernel_rfl
theorem S2_refl {kd : Int} {nm : List UInt8} {q : T} {out : List UInt8} (hq : q.nf = true) : St.eqb (S2 kd nm q out) (S2 kd nm q out) = true := by
 have h1 : ((mkTs 47 [(1, .t (.ptr (.agg [.int .u8 kd, .str nm, q]))), (3, .t (.str out)), (12, .it 6 none)]).all fun x => V.eqb x x) = true := by
  refine Tm.all_upd _ ?_ _ _ (Tm.all_upd _ ?_ _ _ (Tm.all_upd _ ?_ _ _ ?_))
  . exact decide_eq_true rfl
  . exact T.eqb_refl (.str out) rfl
  . refine T.eqb_refl (.ptr (.agg [.int .u8 kd, .str nm, q])) ?_
    simp only [T.nf, T.nfL, hq, Bool.and_self]
  . kernel_rfl
 simp only [St.eqb, S2, Tm.eqb_refl _ h1]
 rfl
theorem S2_ne {kd : Int} {nm : List UInt8} {q : T} {o o' : List UInt8} (h : o ≠ o') : St.eqb (S2 kd nm q o) (S2 kd nm q o') = false := by
 cases he : St.eqb (S2 kd nm q o) (S2 kd nm q o') with
 | false => rfl
 | true =>
  have h1 := congrArg (fun s : St => s.ts.get 3) (St.eqb_eq _ _ he)
  have g : ∀ o : List UInt8, (S2 kd nm q o).ts.get 3 = some (.t (.str o)) := fun _ => by kernel_rfl
  simp only [g, oI, V.t.injEq, T.str.injEq] at h1
  exact absurd h1 h
theorem rd35_1_1 (n : Nat) (nm : List UInt8) (q : T) (out : List UInt8) : rd35 n (.str [102, 108, 97, 103]) (.int .u8 1) (S2 1 nm q out) = some (S2 1 nm q [102, 108, 97, 103]) := by kernel_rfl
theorem rd35_1_2 (n : Nat) (nm : List UInt8) (q : T) (out : List UInt8) : rd35 n (.str [109, 97, 120]) (.int .u8 2) (S2 1 nm q out) = some (S2 1 nm q out) := by kernel_rfl
theorem rd35_1_3 (n : Nat) (nm : List UInt8) (q : T) (out : List UInt8) : rd35 n (.str [115, 101, 116]) (.int .u8 3) (S2 1 nm q out) = some (S2 1 nm q out) := by kernel_rfl
theorem rd35_1_4 (n : Nat) (nm : List UInt8) (q : T) (out : List UInt8) : rd35 n (.str [111, 110, 99, 101]) (.int .u8 4) (S2 1 nm q out) = some (S2 1 nm q out) := by kernel_rfl
theorem rd35_1_6 (n : Nat) (nm : List UInt8) (q : T) (out : List UInt8) : rd35 n (.str [109, 97, 112]) (.int .u8 6) (S2 1 nm q out) = some (S2 1 nm q out) := by kernel_rfl
theorem rd35_1_7 (n : Nat) (nm : List UInt8) (q : T) (out : List UInt8) : rd35 n (.str [112, 97, 105, 114]) (.int .u8 7) (S2 1 nm q out) = some (S2 1 nm q out) := by kernel_rfl
theorem rd35_2_1 (n : Nat) (nm : List UInt8) (q : T) (out : List UInt8) : rd35 n (.str [102, 108, 97, 103]) (.int .u8 1) (S2 2 nm q out) = some (S2 2 nm q out) := by kernel_rfl
theorem rd35_2_2 (n : Nat) (nm : List UInt8) (q : T) (out : List UInt8) : rd35 n (.str [109, 97, 120]) (.int .u8 2) (S2 2 nm q out) = some (S2 2 nm q [109, 97, 120]) := by kernel_rfl
theorem rd35_2_3 (n : Nat) (nm : List UInt8) (q : T) (out : List UInt8) : rd35 n (.str [115, 101, 116]) (.int .u8 3) (S2 2 nm q out) = some (S2 2 nm q out) := by kernel_rfl
theorem rd35_2_4 (n : Nat) (nm : List UInt8) (q : T) (out : List UInt8) : rd35 n (.str [111, 110, 99, 101]) (.int .u8 4) (S2 2 nm q out) = some (S2 2 nm q out) := by kernel_rfl
theorem rd35_2_6 (n : Nat) (nm : List UInt8) (q : T) (out : List UInt8) : rd35 n (.str [109, 97, 112]) (.int .u8 6) (S2 2 nm q out) = some (S2 2 nm q out) := by kernel_rfl
theorem rd35_2_7 (n : Nat) (nm : List UInt8) (q : T) (out : List UInt8) : rd35 n (.str [112, 97, 105, 114]) (.int .u8 7) (S2 2 nm q out) = some (S2 2 nm q out) := by kernel_rfl
theorem rd35_3_1 (n : Nat) (nm : List UInt8) (q : T) (out : List UInt8) : rd35 n (.str [102, 108, 97, 103]) (.int .u8 1) (S2 3 nm q out) = some (S2 3 nm q out) := by kernel_rfl
theorem rd35_3_2 (n : Nat) (nm : List UInt8) (q : T) (out : List UInt8) : rd35 n (.str [109, 97, 120]) (.int .u8 2) (S2 3 nm q out) = some (S2 3 nm q out) := by kernel_rfl
theorem rd35_3_3 (n : Nat) (nm : List UInt8) (q : T) (out : List UInt8) : rd35 n (.str [115, 101, 116]) (.int .u8 3) (S2 3 nm q out) = some (S2 3 nm q [115, 101, 116]) := by kernel_rfl
theorem rd35_3_4 (n : Nat) (nm : List UInt8) (q : T) (out : List UInt8) : rd35 n (.str [111, 110, 99, 101]) (.int .u8 4) (S2 3 nm q out) = some (S2 3 nm q out) := by kernel_rfl
theorem rd35_3_6 (n : Nat) (nm : List UInt8) (q : T) (out : List UInt8) : rd35 n (.str [109, 97, 112]) (.int .u8 6) (S2 3 nm q out) = some (S2 3 nm q out) := by kernel_rfl
theorem rd35_3_7 (n : Nat) (nm : List UInt8) (q : T) (out : List UInt8) : rd35 n (.str [112, 97, 105, 114]) (.int .u8 7) (S2 3 nm q out) = some (S2 3 nm q out) := by kernel_rfl
theorem rd35_4_1 (n : Nat) (nm : List UInt8) (q : T) (out : List UInt8) : rd35 n (.str [102, 108, 97, 103]) (.int .u8 1) (S2 4 nm q out) = some (S2 4 nm q out) := by kernel_rfl
theorem rd35_4_2 (n : Nat) (nm : List UInt8) (q : T) (out : List UInt8) : rd35 n (.str [109, 97, 120]) (.int .u8 2) (S2 4 nm q out) = some (S2 4 nm q out) := by kernel_rfl
theorem rd35_4_3 (n : Nat) (nm : List UInt8) (q : T) (out : List UInt8) : rd35 n (.str [115, 101, 116]) (.int .u8 3) (S2 4 nm q out) = some (S2 4 nm q out) := by kernel_rfl
theorem rd35_4_4 (n : Nat) (nm : List UInt8) (q : T) (out : List UInt8) : rd35 n (.str [111, 110, 99, 101]) (.int .u8 4) (S2 4 nm q out) = some (S2 4 nm q [111, 110, 99, 101]) := by kernel_rfl
theorem rd35_4_6 (n : Nat) (nm : List UInt8) (q : T) (out : List UInt8) : rd35 n (.str [109, 97, 112]) (.int .u8 6) (S2 4 nm q out) = some (S2 4 nm q out) := by kernel_rfl
theorem rd35_4_7 (n : Nat) (nm : List UInt8) (q : T) (out : List UInt8) : rd35 n (.str [112, 97, 105, 114]) (.int .u8 7) (S2 4 nm q out) = some (S2 4 nm q out) := by kernel_rfl
theorem rd35_5_1 (n : Nat) (nm : List UInt8) (q : T) (out : List UInt8) : rd35 n (.str [102, 108, 97, 103]) (.int .u8 1) (S2 5 nm q out) = some (S2 5 nm q out) := by kernel_rfl
theorem rd35_5_2 (n : Nat) (nm : List UInt8) (q : T) (out : List UInt8) : rd35 n (.str [109, 97, 120]) (.int .u8 2) (S2 5 nm q out) = some (S2 5 nm q out) := by kernel_rfl
theorem rd35_5_3 (n : Nat) (nm : List UInt8) (q : T) (out : List UInt8) : rd35 n (.str [115, 101, 116]) (.int .u8 3) (S2 5 nm q out) = some (S2 5 nm q out) := by kernel_rfl
theorem rd35_5_4 (n : Nat) (nm : List UInt8) (q : T) (out : List UInt8) : rd35 n (.str [111, 110, 99, 101]) (.int .u8 4) (S2 5 nm q out) = some (S2 5 nm q out) := by kernel_rfl
theorem rd35_5_6 (n : Nat) (nm : List UInt8) (q : T) (out : List UInt8) : rd35 n (.str [109, 97, 112]) (.int .u8 6) (S2 5 nm q out) = some (S2 5 nm q out) := by kernel_rfl
theorem rd35_5_7 (n : Nat) (nm : List UInt8) (q : T) (out : List UInt8) : rd35 n (.str [112, 97, 105, 114]) (.int .u8 7) (S2 5 nm q out) = some (S2 5 nm q out) := by kernel_rfl
theorem rd35_6_1 (n : Nat) (nm : List UInt8) (q : T) (out : List UInt8) : rd35 n (.str [102, 108, 97, 103]) (.int .u8 1) (S2 6 nm q out) = some (S2 6 nm q out) := by kernel_rfl
theorem rd35_6_2 (n : Nat) (nm : List UInt8) (q : T) (out : List UInt8) : rd35 n (.str [109, 97, 120]) (.int .u8 2) (S2 6 nm q out) = some (S2 6 nm q out) := by kernel_rfl
theorem rd35_6_3 (n : Nat) (nm : List UInt8) (q : T) (out : List UInt8) : rd35 n (.str [115, 101, 116]) (.int .u8 3) (S2 6 nm q out) = some (S2 6 nm q out) := by kernel_rfl
theorem rd35_6_4 (n : Nat) (nm : List UInt8) (q : T) (out : List UInt8) : rd35 n (.str [111, 110, 99, 101]) (.int .u8 4) (S2 6 nm q out) = some (S2 6 nm q out) := by kernel_rfl
theorem rd35_6_6 (n : Nat) (nm : List UInt8) (q : T) (out : List UInt8) : rd35 n (.str [109, 97, 112]) (.int .u8 6) (S2 6 nm q out) = some (S2 6 nm q [109, 97, 112]) := by kernel_rfl
theorem rd35_6_7 (n : Nat) (nm : List UInt8) (q : T) (out : List UInt8) : rd35 n (.str [112, 97, 105, 114]) (.int .u8 7) (S2 6 nm q out) = some (S2 6 nm q out) := by kernel_rfl
theorem rd35_7_1 (n : Nat) (nm : List UInt8) (q : T) (out : List UInt8) : rd35 n (.str [102, 108, 97, 103]) (.int .u8 1) (S2 7 nm q out) = some (S2 7 nm q out) := by kernel_rfl
theorem rd35_7_2 (n : Nat) (nm : List UInt8) (q : T) (out : List UInt8) : rd35 n (.str [109, 97, 120]) (.int .u8 2) (S2 7 nm q out) = some (S2 7 nm q out) := by kernel_rfl
theorem rd35_7_3 (n : Nat) (nm : List UInt8) (q : T) (out : List UInt8) : rd35 n (.str [115, 101, 116]) (.int .u8 3) (S2 7 nm q out) = some (S2 7 nm q out) := by kernel_rfl
theorem rd35_7_4 (n : Nat) (nm : List UInt8) (q : T) (out : List UInt8) : rd35 n (.str [111, 110, 99, 101]) (.int .u8 4) (S2 7 nm q out) = some (S2 7 nm q out) := by kernel_rfl
theorem rd35_7_6 (n : Nat) (nm : List UInt8) (q : T) (out : List UInt8) : rd35 n (.str [109, 97, 112]) (.int .u8 6) (S2 7 nm q out) = some (S2 7 nm q out) := by kernel_rfl
theorem rd35_7_7 (n : Nat) (nm : List UInt8) (q : T) (out : List UInt8) : rd35 n (.str [112, 97, 105, 114]) (.int .u8 7) (S2 7 nm q out) = some (S2 7 nm q [112, 97, 105, 114]) := by kernel_rfl
abbrev wk35 : List T := [.str [102, 108, 97, 103], .str [109, 97, 120], .str [115, 101, 116], .str [111, 110, 99, 101], .str [109, 97, 112], .str [112, 97, 105, 114]]
abbrev wv35 : List T := [.int .u8 1, .int .u8 2, .int .u8 3, .int .u8 4, .int .u8 6, .int .u8 7]
theorem mp35_1 (n : Nat) {q : T} (hq : q.nf = true) : mapRun (rd35 n) (en35 n) (wk35.zip wv35) (S2 1 [] q []) = en35 n (S2 1 [] q [102, 108, 97, 103]) := by
 refine mapRun_one (k := .str [102, 108, 97, 103]) (v := .int .u8 1) (l1 := []) (l2 := [(T.str [109, 97, 120], T.int .u8 2), (T.str [115, 101, 116], T.int .u8 3), (T.str [111, 110, 99, 101], T.int .u8 4), (T.str [109, 97, 112], T.int .u8 6), (T.str [112, 97, 105, 114], T.int .u8 7)]) (S2_refl hq) (S2_refl hq) (rd35_1_1 n [] q []) (S2_ne (by decide)) (fun p hp => ?_) (fun p hp => ?_)
 . simp only [List.cons_append, List.nil_append, List.mem_cons, List.not_mem_nil, or_false] at hp
   rcases hp with rfl | rfl | rfl | rfl | rfl
   . exact rd35_1_2 n [] q []
   . exact rd35_1_3 n [] q []
   . exact rd35_1_4 n [] q []
   . exact rd35_1_6 n [] q []
   . exact rd35_1_7 n [] q []
 . simp only [List.cons_append, List.nil_append, List.mem_cons, List.not_mem_nil, or_false] at hp
   rcases hp with rfl | rfl | rfl | rfl | rfl
   . exact rd35_1_2 n [] q [102, 108, 97, 103]
   . exact rd35_1_3 n [] q [102, 108, 97, 103]
   . exact rd35_1_4 n [] q [102, 108, 97, 103]
   . exact rd35_1_6 n [] q [102, 108, 97, 103]
   . exact rd35_1_7 n [] q [102, 108, 97, 103]
theorem mp35_2 (n : Nat) {q : T} (hq : q.nf = true) : mapRun (rd35 n) (en35 n) (wk35.zip wv35) (S2 2 [] q []) = en35 n (S2 2 [] q [109, 97, 120]) := by
 refine mapRun_one (k := .str [109, 97, 120]) (v := .int .u8 2) (l1 := [(T.str [102, 108, 97, 103], T.int .u8 1)]) (l2 := [(T.str [115, 101, 116], T.int .u8 3), (T.str [111, 110, 99, 101], T.int .u8 4), (T.str [109, 97, 112], T.int .u8 6), (T.str [112, 97, 105, 114], T.int .u8 7)]) (S2_refl hq) (S2_refl hq) (rd35_2_2 n [] q []) (S2_ne (by decide)) (fun p hp => ?_) (fun p hp => ?_)
 . simp only [List.cons_append, List.nil_append, List.mem_cons, List.not_mem_nil, or_false] at hp
   rcases hp with rfl | rfl | rfl | rfl | rfl
   . exact rd35_2_1 n [] q []
   . exact rd35_2_3 n [] q []
   . exact rd35_2_4 n [] q []
   . exact rd35_2_6 n [] q []
   . exact rd35_2_7 n [] q []
 . simp only [List.cons_append, List.nil_append, List.mem_cons, List.not_mem_nil, or_false] at hp
   rcases hp with rfl | rfl | rfl | rfl | rfl
   . exact rd35_2_1 n [] q [109, 97, 120]
   . exact rd35_2_3 n [] q [109, 97, 120]
   . exact rd35_2_4 n [] q [109, 97, 120]
   . exact rd35_2_6 n [] q [109, 97, 120]
   . exact rd35_2_7 n [] q [109, 97, 120]
theorem mp35_3 (n : Nat) {q : T} (hq : q.nf = true) : mapRun (rd35 n) (en35 n) (wk35.zip wv35) (S2 3 [] q []) = en35 n (S2 3 [] q [115, 101, 116]) := by
 refine mapRun_one (k := .str [115, 101, 116]) (v := .int .u8 3) (l1 := [(T.str [102, 108, 97, 103], T.int .u8 1), (T.str [109, 97, 120], T.int .u8 2)]) (l2 := [(T.str [111, 110, 99, 101], T.int .u8 4), (T.str [109, 97, 112], T.int .u8 6), (T.str [112, 97, 105, 114], T.int .u8 7)]) (S2_refl hq) (S2_refl hq) (rd35_3_3 n [] q []) (S2_ne (by decide)) (fun p hp => ?_) (fun p hp => ?_)
 . simp only [List.cons_append, List.nil_append, List.mem_cons, List.not_mem_nil, or_false] at hp
   rcases hp with rfl | rfl | rfl | rfl | rfl
   . exact rd35_3_1 n [] q []
   . exact rd35_3_2 n [] q []
   . exact rd35_3_4 n [] q []
   . exact rd35_3_6 n [] q []
   . exact rd35_3_7 n [] q []
 . simp only [List.cons_append, List.nil_append, List.mem_cons, List.not_mem_nil, or_false] at hp
   rcases hp with rfl | rfl | rfl | rfl | rfl
   . exact rd35_3_1 n [] q [115, 101, 116]
   . exact rd35_3_2 n [] q [115, 101, 116]
   . exact rd35_3_4 n [] q [115, 101, 116]
   . exact rd35_3_6 n [] q [115, 101, 116]
   . exact rd35_3_7 n [] q [115, 101, 116]
theorem mp35_4 (n : Nat) {q : T} (hq : q.nf = true) : mapRun (rd35 n) (en35 n) (wk35.zip wv35) (S2 4 [] q []) = en35 n (S2 4 [] q [111, 110, 99, 101]) := by
 refine mapRun_one (k := .str [111, 110, 99, 101]) (v := .int .u8 4) (l1 := [(T.str [102, 108, 97, 103], T.int .u8 1), (T.str [109, 97, 120], T.int .u8 2), (T.str [115, 101, 116], T.int .u8 3)]) (l2 := [(T.str [109, 97, 112], T.int .u8 6), (T.str [112, 97, 105, 114], T.int .u8 7)]) (S2_refl hq) (S2_refl hq) (rd35_4_4 n [] q []) (S2_ne (by decide)) (fun p hp => ?_) (fun p hp => ?_)
 . simp only [List.cons_append, List.nil_append, List.mem_cons, List.not_mem_nil, or_false] at hp
   rcases hp with rfl | rfl | rfl | rfl | rfl
   . exact rd35_4_1 n [] q []
   . exact rd35_4_2 n [] q []
   . exact rd35_4_3 n [] q []
   . exact rd35_4_6 n [] q []
   . exact rd35_4_7 n [] q []
 . simp only [List.cons_append, List.nil_append, List.mem_cons, List.not_mem_nil, or_false] at hp
   rcases hp with rfl | rfl | rfl | rfl | rfl
   . exact rd35_4_1 n [] q [111, 110, 99, 101]
   . exact rd35_4_2 n [] q [111, 110, 99, 101]
   . exact rd35_4_3 n [] q [111, 110, 99, 101]
   . exact rd35_4_6 n [] q [111, 110, 99, 101]
   . exact rd35_4_7 n [] q [111, 110, 99, 101]
theorem mp35_5 (n : Nat) {q : T} (hq : q.nf = true) (nm : List UInt8) : mapRun (rd35 n) (en35 n) (wk35.zip wv35) (S2 5 nm q nm) = en35 n (S2 5 nm q nm) := by
 refine mapRun_stay (S2_refl hq) fun p hp => ?_
 simp only [List.zip_cons_cons, List.zip_nil_right, List.mem_cons, List.not_mem_nil, or_false] at hp
 rcases hp with rfl | rfl | rfl | rfl | rfl | rfl
 . exact rd35_5_1 n nm q nm
 . exact rd35_5_2 n nm q nm
 . exact rd35_5_3 n nm q nm
 . exact rd35_5_4 n nm q nm
 . exact rd35_5_6 n nm q nm
 . exact rd35_5_7 n nm q nm
theorem mp35_6 (n : Nat) {q : T} (hq : q.nf = true) : mapRun (rd35 n) (en35 n) (wk35.zip wv35) (S2 6 [] q []) = en35 n (S2 6 [] q [109, 97, 112]) := by
 refine mapRun_one (k := .str [109, 97, 112]) (v := .int .u8 6) (l1 := [(T.str [102, 108, 97, 103], T.int .u8 1), (T.str [109, 97, 120], T.int .u8 2), (T.str [115, 101, 116], T.int .u8 3), (T.str [111, 110, 99, 101], T.int .u8 4)]) (l2 := [(T.str [112, 97, 105, 114], T.int .u8 7)]) (S2_refl hq) (S2_refl hq) (rd35_6_6 n [] q []) (S2_ne (by decide)) (fun p hp => ?_) (fun p hp => ?_)
 . simp only [List.cons_append, List.nil_append, List.mem_cons, List.not_mem_nil, or_false] at hp
   rcases hp with rfl | rfl | rfl | rfl | rfl
   . exact rd35_6_1 n [] q []
   . exact rd35_6_2 n [] q []
   . exact rd35_6_3 n [] q []
   . exact rd35_6_4 n [] q []
   . exact rd35_6_7 n [] q []
 . simp only [List.cons_append, List.nil_append, List.mem_cons, List.not_mem_nil, or_false] at hp
   rcases hp with rfl | rfl | rfl | rfl | rfl
   . exact rd35_6_1 n [] q [109, 97, 112]
   . exact rd35_6_2 n [] q [109, 97, 112]
   . exact rd35_6_3 n [] q [109, 97, 112]
   . exact rd35_6_4 n [] q [109, 97, 112]
   . exact rd35_6_7 n [] q [109, 97, 112]
theorem mp35_7 (n : Nat) {q : T} (hq : q.nf = true) : mapRun (rd35 n) (en35 n) (wk35.zip wv35) (S2 7 [] q []) = en35 n (S2 7 [] q [112, 97, 105, 114]) := by
 refine mapRun_one (k := .str [112, 97, 105, 114]) (v := .int .u8 7) (l1 := [(T.str [102, 108, 97, 103], T.int .u8 1), (T.str [109, 97, 120], T.int .u8 2), (T.str [115, 101, 116], T.int .u8 3), (T.str [111, 110, 99, 101], T.int .u8 4), (T.str [109, 97, 112], T.int .u8 6)]) (l2 := []) (S2_refl hq) (S2_refl hq) (rd35_7_7 n [] q []) (S2_ne (by decide)) (fun p hp => ?_) (fun p hp => ?_)
 . simp only [List.cons_append, List.nil_append, List.mem_cons, List.not_mem_nil, or_false] at hp
   rcases hp with rfl | rfl | rfl | rfl | rfl
   . exact rd35_7_1 n [] q []
   . exact rd35_7_2 n [] q []
   . exact rd35_7_3 n [] q []
   . exact rd35_7_4 n [] q []
   . exact rd35_7_6 n [] q []
 . simp only [List.cons_append, List.nil_append, List.mem_cons, List.not_mem_nil, or_false] at hp
   rcases hp with rfl | rfl | rfl | rfl | rfl
   . exact rd35_7_1 n [] q [112, 97, 105, 114]
   . exact rd35_7_2 n [] q [112, 97, 105, 114]
   . exact rd35_7_3 n [] q [112, 97, 105, 114]
   . exact rd35_7_4 n [] q [112, 97, 105, 114]
   . exact rd35_7_6 n [] q [112, 97, 105, 114]
theorem end35 {kd : Int} {nm : List UInt8} {q : T} {out w : List UInt8} {r : T} (h3 : ∀ n, mapRun (rd35 n) (en35 n) (wk35.zip wv35) (S2 kd nm q out) = en35 n (S2 kd nm q w))
  (h : endO acfg 35 (L35_1k kd nm q kd nm q [] w nm nm wordsT wk35 wv35) (L35_1s kd nm q kd nm q [] w nm nm wordsT wk35 wv35) = some r) :
  L35_1 kd nm q kd nm q [] out nm nm wordsT wk35 wv35 = some r := by
 have e1 : endO acfg 35 (L35_1k kd nm q kd nm q [] w nm nm wordsT wk35 wv35) (L35_1s kd nm q kd nm q [] w nm nm wordsT wk35 wv35) = runO acfg (pureFin acfg 35) [.code 35 none b35, .block 0, .code 35 none (codeOf acfg 35 [1, 1, 1])] (mrLast 13 14 (S2 kd nm q w)) := by kernel_rfl
 rw [e1] at h
 refine runO_some.2 ?_
 refine mr_run (cfg := acfg) (s' := mrLast 13 14 (S2 kd nm q w)) (e := 0) (x := x35) (b := b35) (s1 := S1 kd nm q out wk35 wv35) (s2 := S2 kd nm q out) (sk := S2 kd nm q w) of35 ?_ ?_ ?_ ?_ h3 ?_ ?_ (runO_some.1 h)
 . kernel_rfl
 . kernel_rfl
 . kernel_rfl
 . kernel_rfl
 . kernel_rfl
 . intro n; kernel_rfl
end Go.Proofs.Tryz
