import Derived.Test.YtcljaeknhmpecaaApexA44
import Derived.Test.YtcljaeknhmpecaaEqs
set_option linter.all false
namespace Go.Apex
open Go
inductive IsSl (ts : List T) : T -> Prop
 | nil (h : ts = []) : IsSl ts .nils
 | sl (ex : Bool) : IsSl ts (.sl ex 1 ts)
variable {ts : List T} {x : T}
theorem IsSl.len (h : IsSl ts x) : lenT x = some (ts.length : Int) := by
 cases h with
 | nil h => subst h; rfl
 | sl ex => rfl
theorem IsSl.one (h : IsSl ts x) : x.one = true := by cases h <;> rfl
theorem IsSl.idx (h : IsSl ts x) {i : Nat} {y : T} (hi : ts[i]? = some y) : idxT 1 x (i : Int) = some (.ptr y) := by
 cases h with
 | nil h => subst h; simp at hi
 | sl ex => simp [idxT, hi]
theorem IsSl.take (h : IsSl ts x) {i : Nat} (hi : i <= ts.length) : ∃ y, subT 1 x none (some (i : Int)) none = some y /\ IsSl (ts.take i) y := by
 cases h with
 | nil h =>
  subst h
  have : i = 0 := by simpa using hi
  subst this
  exact ⟨.nils, by simp [subT], .nil (by simp)⟩
 | sl ex => exact ⟨.sl (ex && ((i : Int) == ts.length)) 1 (ts.take i), by simp [subT, hi], .sl _⟩
theorem deref_one (h : x.one = true) : derefT none (.ptr x) = some x := by simp [derefT, T.fits, h]
theorem vfits_one (h : x.one = true) : vfits (.t x) none = true := h
theorem oneT_one (h : x.one = true) : oneT x = true := h
theorem deref_int (k : IntKind) (n : Int) : derefT none (.ptr (.int k n)) = some (.int k n) := rfl
theorem deref_bool (b : Bool) : derefT none (.ptr (.bool b)) = some (.bool b) := rfl
theorem deref_str (s : List UInt8) : derefT none (.ptr (.str s)) = some (.str s) := rfl
theorem deref_fn (f : Fn) (a b : List T) : derefT none (.ptr (.fn f a b)) = some (.fn f a b) := rfl
theorem int?_int (k : IntKind) (n : Int) : T.int? k (.int k n) = some n := by simp [T.int?]
theorem bool?_bool (b : Bool) : T.bool? (.bool b) = some b := rfl
theorem str?_str (s : List UInt8) : T.str? (.str s) = some s := rfl
theorem scalar_bool (b : Bool) : T.scalar (.bool b) = true := rfl
theorem scalar_int (k : IntKind) (n : Int) : T.scalar (.int k n) = true := rfl
theorem iAdd_nat {i : Nat} (h : i < 1000000) : iAdd .i64 (i : Int) 1 = ((i + 1 : Nat) : Int) := by
 rw [iAdd_i64] <;> omega
theorem bif_eq {α : Sort _} (c : Bool) (a b : α) : (bif c then a else b) = if c = true then a else b := by cases c <;> rfl
theorem IsSl.idxD {α : Type} {g : α -> T} {l : List α} (h : IsSl (l.map g) x) (d : α) {i : Nat} (hi : i < l.length) : idxT 1 x (i : Int) = some (.ptr (g (l.getD i d))) :=
 h.idx (by simp [gE hi, gD])
theorem IsSl.lenD {α : Type} {g : α -> T} {l : List α} (h : IsSl (l.map g) x) : lenT x = some (l.length : Int) := by rw [h.len, List.length_map]
theorem IsSl.takeD {α : Type} {g : α -> T} {l : List α} (h : IsSl (l.map g) x) {i : Nat} (hi : i <= l.length) : ∃ y, subT 1 x none (some (i : Int)) none = some y /\ IsSl ((l.take i).map g) y := by
 rw [List.map_take]
 exact h.take (by rw [List.length_map]; exact hi)
theorem callT_scalar {cfg : Cfg} {f : FuncId} (hm : cfg.mode f = .scalar) {b xs : List T} {r : T} (h : fnO cfg f (xs ++ b) = some r) (hs : r.scalar = true) : callT cfg (.fn (.func f) [] b) xs = some r := by
 unfold callT
 simp only [hm, List.nil_append, h, oS, hs, if_true]
def upto (i n : Nat) : List Nat := List.range' i (n - i)
theorem upto_end {i n : Nat} (h : n <= i) : upto i n = [] := by
 unfold upto
 rw [show n - i = 0 from by omega]
 rfl
theorem upto_step {i n : Nat} (h : i < n) : upto i n = i :: upto (i + 1) n := by
 unfold upto
 rw [show n - i = (n - (i + 1)) + 1 from by omega]
 rfl
theorem mem_upto {i n j : Nat} : j ∈ upto i n ↔ i <= j /\ j < n := by
 unfold upto
 rw [List.mem_range'_1]
 omega
theorem upto_induct {n : Nat} {P : Nat -> Prop} (h0 : P n) (h1 : ∀ i, i < n -> P (i + 1) -> P i) : ∀ i, i <= n -> P i := by
 intro i hi
 have key : ∀ k i, i + k = n -> P i := by
  intro k
  induction k with
  | zero => intro i h; have : i = n := by omega
            subst this; exact h0
  | succ k ih => intro i h; exact h1 i (by omega) (ih (i + 1) (by omega))
 exact key (n - i) i (by omega)
def findI (p : Nat -> Bool) (i n : Nat) : Int := match (upto i n).find? p with | some j => (j : Int) | none => -1
theorem findI_end {p : Nat -> Bool} {i n : Nat} (h : n <= i) : findI p i n = -1 := by simp [findI, upto_end h]
theorem findI_step {p : Nat -> Bool} {i n : Nat} (h : i < n) : findI p i n = if p i = true then (i : Int) else findI p (i + 1) n := by
 simp only [findI, upto_step h, List.find?_cons]
 cases p i <;> simp
abbrev cellsT (ts : List T) : List V := ts.map V.t
def OneL (ts : List T) : Prop := ∀ x ∈ ts, x.one = true
theorem OneL.nil : OneL [] := fun _ h => by cases h
theorem OneL.cons {x : T} {ts : List T} (h : x.one = true) (h2 : OneL ts) : OneL (x :: ts) := fun y hy => by
 rcases List.mem_cons.1 hy with rfl | hy
 . exact h
 . exact h2 y hy
theorem OneL.app {ts us : List T} (h : OneL ts) (h2 : OneL us) : OneL (ts ++ us) := fun y hy => by
 rcases List.mem_append.1 hy with hy | hy
 . exact h y hy
 . exact h2 y hy
theorem OneL.map {α : Type} {g : α -> T} (h : ∀ a, (g a).one = true) (l : List α) : OneL (l.map g) := fun y hy => by
 obtain ⟨a, _, rfl⟩ := List.mem_map.1 hy
 exact h a
theorem cellsV_one {x : T} (h : x.one = true) : V.cells (.t x) = [.t x] := by cases x <;> first | rfl | (simp [T.one] at h)
theorem flat_one : ∀ {ts : List T}, OneL ts -> (cellsT ts).flatMap V.cells = cellsT ts
 | [], _ => rfl
 | x :: ts, h => by
  simp only [List.map_cons, List.flatMap_cons, cellsV_one (h x (by simp)), flat_one (ts := ts) fun y hy => h y (by simp [hy])]
  rfl
theorem rowNew_one {xs ys : List T} (h : OneL xs) (h2 : OneL ys) : rowNew xs (cellsT ys) = cellsT (xs ++ ys) := by
 unfold rowNew
 rw [<- List.map_append]
 exact flat_one (h.app h2)
theorem appCs_one {cs ys : List T} {off : Nat} (h2 : OneL ys) (hne : ys ≠ []) : appCs (cellsT cs) off (cellsT ys) = cellsT (cs.drop off ++ ys) := by
 unfold appCs
 have : (cellsT ys).isEmpty = false := by cases ys <;> simp_all
 rw [this]
 simp only [cond_false]
 rw [flat_one h2]
 simp [List.map_drop]
theorem appOK_row {cs : List T} {off len bytes : Nat} {ys : List T} (hl : off + len = cs.length) (hs : (len + ys.length) * (bytes + 1) <= maxBytes) : appOK (cellsT cs) off len 1 (cellsT ys) bytes = true := by
 unfold appOK
 cases ys with
 | nil => rfl
 | cons y ys =>
  have h1 : (len + (y :: ys).length) * (bytes + 1) = (len + (y :: ys).length) * bytes + (len + (y :: ys).length) := Nat.mul_succ _ _
  have e : (decide (¬ off + (len + (cellsT (y :: ys)).length) * 1 <= (cellsT cs).length /\ off + len * 1 = (cellsT cs).length /\ len + (cellsT (y :: ys)).length <= maxBytes /\ (len + (cellsT (y :: ys)).length) * bytes <= maxBytes)) = true := by
   simp only [List.length_map]
   refine decide_eq_true ⟨?_, by omega, by omega, by omega⟩
   simp only [List.length_cons]
   omega
  rw [e, Bool.or_true]
theorem bdL_cells (n : Nat) : ∀ ts : List T, V.bdL n (cellsT ts) = true
 | [] => rfl
 | x :: ts => by
  show (V.bd n (.t x) && V.bdL n (cellsT ts)) = true
  rw [bdL_cells n ts]
  rfl
theorem objBd_cells (n g e : Nat) (b : Bool) (ts : List T) : objBd n (.cells g e b (cellsT ts)) = true := bdL_cells n ts
theorem allT_cells : ∀ ts : List T, allT (cellsT ts) = some ts
 | [] => rfl
 | x :: ts => by
  have := allT_cells ts
  unfold allT at this ⊢
  simp only [List.map_cons, mapO, toT, oS, this]
theorem elemsFrom_cells : ∀ (len off : Nat) (ts : List T), off + len <= ts.length -> elemsFrom none (cellsT ts) off len = some (cellsT ((ts.drop off).take len))
 | 0, off, ts, _ => by simp [elemsFrom]
 | len + 1, off, ts, h => by
  have hx : (cellsT ts)[off]? = some (.t (ts[off]'(by omega))) := by
   rw [List.getElem?_map, gE (by omega)]
   rfl
  have ih := elemsFrom_cells len (off + 1) ts (by omega)
  simp only [elemsFrom, shPart, hx, oS, shSize, Option.getD_none, ih]
  rw [List.drop_eq_getElem_cons (show off < ts.length by omega)]
  rfl
theorem rowT_cells {ts : List T} (h : OneL ts) {off len : Nat} (hl : off + len <= ts.length) : rowT none (cellsT ts) off len = some ((ts.drop off).take len) := by
 unfold rowT
 rw [elemsFrom_cells len off ts hl]
 simp only [oS, allT_cells]
 rw [if_pos]
 rw [List.all_eq_true]
 intro x hx
 exact h x (List.mem_of_mem_drop (List.mem_of_mem_take hx))
theorem rowT_all {ts : List T} (h : OneL ts) : rowT none (cellsT ts) 0 ts.length = some ts := by
 rw [rowT_cells h (by omega)]
 simp
theorem rowS_cells {ts : List T} {off : Nat} {y : T} (h : ts[off]? = some y) : rowS none (cellsT ts) off = some y := by
 simp [rowS, shPart, h, toT]
theorem rowSet_cells {ts : List T} {off : Nat} {y : T} (h : off < ts.length) : rowSet (cellsT ts) off [.t y] = cellsT (ts.set off y) := by
 unfold rowSet setRange
 rw [<- List.map_take, <- List.map_drop]
 rw [List.set_eq_take_append_cons_drop, if_pos h]
 simp
theorem elemsT_sl {ts : List T} {x : T} (h : IsSl ts x) (h1 : OneL ts) : elemsT none x = some (cellsT ts) := by
 cases h with
 | nil h => subst h; rfl
 | sl ex =>
  show (if 1 = shSize none /\ (ts.all fun x => x.fits none) = true then some (cellsT ts) else none) = _
  rw [if_pos ⟨rfl, List.all_eq_true.2 fun x hx => h1 x hx⟩]
theorem newOK_small {n m bytes : Nat} (h : (n + m) * (bytes + 1) <= maxBytes) : newOK n m bytes = true := by
 have h1 : (n + m) * (bytes + 1) = (n + m) * bytes + (n + m) := Nat.mul_succ _ _
 exact decide_eq_true ⟨by omega, by omega⟩
theorem appGen_one (g : Nat) (y : V) : appGen g [y] = g + 1 := rfl
theorem appLen_one (len : Nat) (y : V) : appLen len [y] = len + 1 := rfl
theorem natEq_self (n : Nat) : natEq n n = true := Nat.beq_refl n
theorem maxB : (maxBytes : Nat) = 140737488355328 := rfl
theorem appT_nil {ys : List T} (h : OneL ys) {bytes : Nat} (hs : ys.length * (bytes + 1) <= maxBytes) : ∃ y, appT none 1 bytes (.sl true 1 []) (cellsT ys) = some y /\ IsSl ys y := by
 unfold appT
 have hb : baseT none 1 (.sl true 1 []) = some [] := rfl
 rw [hb]
 simp only [oS]
 cases ys with
 | nil => exact ⟨_, rfl, .sl true⟩
 | cons y ys =>
  have h1 : newOK ([] : List T).length (cellsT (y :: ys)).length bytes = true := newOK_small (by rw [List.length_map, List.length_nil, Nat.zero_add]; exact hs)
  have e : (cellsT (y :: ys)).isEmpty = false := rfl
  rw [e, h1]
  simp only [cond_false, cond_true]
  rw [rowNew_one OneL.nil h]
  unfold rowTree
  have hl : lenNew ([] : List T) (cellsT (y :: ys)) = (y :: ys).length := by simp [lenNew]
  rw [hl, elemsFrom_cells _ 0 _ (by simp)]
  simp only [oS, allT_cells, List.nil_append, List.drop_zero, List.take_length]
  have hall : ((y :: ys).all fun x => x.fits none) = true := List.all_eq_true.2 fun x hx => h x hx
  rw [if_pos hall]
  exact ⟨_, rfl, .sl false⟩
end Go.Apex

open Go Go.Apex
namespace Go.Proofs.Try
def okAt (c : Int) (i : Nat) : Bool := (iLe 97 c && iLe c 122) || (iLe 48 c && iLe c 57 && !iEq (i : Int) 0)
def okB (s : List UInt8) (i : Nat) : Bool := match s[i]? with | some c => okAt (c.toNat : Int) i | none => true
def isNameB (s : List UInt8) : Bool := (upto 0 s.length).all (okB s) && decide (0 < s.length) && decide (s.length <= 12)
theorem okB_eq {s : List UInt8} {i : Nat} (hi : i < s.length) : okB s i = okAt ((s[i]'hi).toNat : Int) i := by simp [okB, hi]
theorem iLt_len {i n : Nat} (h : i < n) : iLt (i : Int) (n : Int) = true := by simp [iLt]; omega
theorem iLt_end {n : Nat} : iLt (n : Int) (n : Int) = false := by simp [iLt]
theorem isName_loop (s : List UInt8) (hs : s.length < 1000000) : ∀ i, i <= s.length -> L49_1 s (sLen s) (i : Int) = some (.bool ((upto i s.length).all (okB s) && decide (0 < s.length) && decide (s.length <= 12))) := by
 refine upto_induct ?_ fun i hi ih => ?_
 . apply L49_1_step
   have e1 : iLt 0 (s.length : Int) = decide (0 < s.length) := by unfold iLt; exact decide_eq_decide.2 (by omega)
   have e2 : iLe (s.length : Int) 12 = decide (s.length <= 12) := by unfold iLe; exact decide_eq_decide.2 (by omega)
   simp only [sLen, iLt_end, cond_false, upto_end (Nat.le_refl _), List.all_nil, e1, e2]
   cases decide (0 < s.length) <;> simp
 . apply L49_1_step
   have ih' := ih
   simp only [sLen] at ih'
   simp only [sLen, iLt_len hi, cond_true, byteAt_eq hi, oS, iAdd_nat (show i < 1000000 by omega), ih', upto_step hi, List.all_cons, okB_eq hi, okAt]
   generalize ((s[i].toNat : Nat) : Int) = c
   cases iLe 97 c <;> cases iLe c 122 <;> cases iLe 48 c <;> cases iLe c 57 <;> cases iEq (i : Int) 0 <;> simp [bNot]
theorem isName_spec (s : List UInt8) (hs : s.length < 1000000) : fnO acfg 49 [.str s] = some (.bool (isNameB s)) :=
 fn49 s _ (isName_loop s hs 0 (by omega))
theorem in_spec (a b c : Int) : fnO acfg 61 [.int .i64 a, .int .i64 b, .int .i64 c] = some (.bool (decide (b <= a) && decide (a <= c))) := by
 apply fn61
 simp only [bif_eq, iLe_iff, iLe]
 by_cases h : b <= a <;> simp [h]
theorem refName_loop (s : List UInt8) (hs : s.length < 1000000) (h0 : ∀ c, s[0]? = some c -> (iLe 97 (c.toNat : Int) && iLe (c.toNat : Int) 122) = true) : ∀ i, i <= s.length -> L62_1 s (i : Int) = some (.bool ((upto i s.length).all (okB s))) := by
 refine upto_induct ?_ fun i hi ih => ?_
 . apply L62_1_step
   simp only [sLen, iLt_end, cond_false, upto_end (Nat.le_refl _), List.all_nil]
 . apply L62_1_step
   simp only [sLen, iLt_len hi, cond_true, byteAt_eq hi, oS, iAdd_nat (show i < 1000000 by omega), ih, upto_step hi, List.all_cons, okB_eq hi, okAt]
   have h00 : i = 0 -> (iLe 97 ((s[i].toNat : Nat) : Int) && iLe ((s[i].toNat : Nat) : Int) 122) = true := fun e => by subst e; exact h0 _ (by simp [hi])
   have hz : iEq (i : Int) 0 = true -> i = 0 := fun h => by have := iEq_iff.1 h; omega
   revert h00 hz
   generalize ((s[i].toNat : Nat) : Int) = c
   generalize (upto (i + 1) s.length).all (okB s) = rest
   cases iLe 97 c <;> cases iLe c 122 <;> cases iLe 48 c <;> cases iLe c 57 <;> cases iEq (i : Int) 0 <;> simp [bNot]
   all_goals (intro h1 h2; exact absurd h2 h1)
theorem refName_spec (s : List UInt8) (hs : s.length < 1000000) : fnO acfg 62 [.str s] = some (.bool (isNameB s)) := by
 apply fn62
 simp only [in_spec, oS, scalar_bool, bool?_bool, cond_true, sLen, isNameB]
 by_cases h1 : 1 <= s.length /\ s.length <= 12
 . have e1 : (decide ((1 : Int) <= s.length) && decide ((s.length : Int) <= 12)) = true := by simp; omega
   have hb : byteAt s 0 = some (((s[0]'h1.1).toNat : Nat) : Int) := byteAt_eq h1.1
   simp only [e1, bNot, Bool.not_true, cond_false, hb, oS]
   cases h97 : iLt (((s[0]'h1.1).toNat : Nat) : Int) 97 with
   | true =>
    simp only [cond_true]
    rw [upto_step h1.1, List.all_cons, okB_eq h1.1]
    have : iLe 97 (((s[0]'h1.1).toNat : Nat) : Int) = false := by simp [iLt, iLe] at h97 ⊢; omega
    simp [okAt, this, iEq]
   | false =>
    simp only [cond_false]
    cases h122 : iLt 122 (((s[0]'h1.1).toNat : Nat) : Int) with
    | true =>
     simp only [cond_true]
     rw [upto_step h1.1, List.all_cons, okB_eq h1.1]
     have : iLe (((s[0]'h1.1).toNat : Nat) : Int) 122 = false := by simp [iLt, iLe] at h122 ⊢; omega
     simp [okAt, this, iEq]
    | false =>
     simp only [cond_false]
     have := refName_loop s hs (fun c hc => by
      have : c = s[0]'h1.1 := by
       rw [gE h1.1] at hc
       exact (Option.some.inj hc).symm
      subst this
      simp [iLt, iLe] at h97 h122 ⊢
      omega) 0 (by omega)
     simp only [Int.ofNat_zero, Int.natCast_zero] at this
     rw [this]
     have e2 : decide (0 < s.length) = true := decide_eq_true h1.1
     have e3 : decide (s.length <= 12) = true := decide_eq_true h1.2
     rw [e2, e3, Bool.and_true, Bool.and_true]
 . have e1 : (decide ((1 : Int) <= s.length) && decide ((s.length : Int) <= 12)) = false := by simp; omega
   simp only [e1, bNot, Bool.not_false, cond_true]
   have : (decide (0 < s.length) && decide (s.length <= 12)) = false := by simp; omega
   rw [Bool.and_assoc, this, Bool.and_false]
theorem find_loop {x : T} {l : List (List UInt8)} (hx : IsSl (l.map .str) x) (s : List UInt8) (hl : l.length < 1000000) : ∀ i, i <= l.length -> L63_1 x s (i : Int) = some (.int .i64 (findI (fun j => l[j]? == some s) i l.length)) := by
 refine upto_induct ?_ fun i hi ih => ?_
 . apply L63_1_step
   simp only [hx.len, List.length_map, oS, bif_eq, iLt_iff, findI_end (Nat.le_refl _)]
   rw [if_neg (by omega)]
 . apply L63_1_step
   have hg : l[i]? = some l[i] := gE hi
   have hidx : idxT 1 x (i : Int) = some (.ptr (.str l[i])) := hx.idx (by simp [hg])
   simp only [hx.len, List.length_map, oS, bif_eq, iLt_iff, findI_step hi, hidx, deref_str, str?_str, sEq_iff, iAdd_nat (show i < 1000000 by omega), ih]
   rw [if_pos (by omega)]
   simp only [hg, beq_iff_eq, oI]
   split <;> rfl
theorem find_spec {x : T} {l : List (List UInt8)} (hx : IsSl (l.map .str) x) (s : List UInt8) (hl : l.length < 1000000) : fnO acfg 63 [x, .str s] = some (.int .i64 (findI (fun j => l[j]? == some s) 0 l.length)) :=
 fn63 x s _ (find_loop hx s hl 0 (by omega))
theorem index_loop {x : T} {l : List (List UInt8)} (hx : IsSl (l.map .str) x) (s : List UInt8) (hl : l.length < 1000000) : ∀ i, i <= l.length -> L89_1 x s (l.length : Int) (i : Int) = some (.int .i64 (findI (fun j => l[j]? == some s) i l.length)) := by
 refine upto_induct ?_ fun i hi ih => ?_
 . apply L89_1_step
   simp only [bif_eq, iLt_iff, findI_end (Nat.le_refl _)]
   rw [if_neg (by omega)]
 . apply L89_1_step
   have hg : l[i]? = some l[i] := gE hi
   have hidx : idxT 1 x (i : Int) = some (.ptr (.str l[i])) := hx.idx (by simp [hg])
   simp only [oS, bif_eq, iLt_iff, findI_step hi, hidx, deref_str, str?_str, sEq_iff, iAdd_nat (show i < 1000000 by omega), ih]
   rw [if_pos (by omega)]
   simp only [hg, beq_iff_eq, oI]
   split <;> rename_i h
   . rw [if_pos h.symm]
   . rw [if_neg (Ne.symm h)]
theorem contains_spec {x : T} {l : List (List UInt8)} (hx : IsSl (l.map .str) x) (s : List UInt8) (hl : l.length < 1000000) : fnO acfg 50 [x, .str s] = some (.bool (decide (s ∈ l))) := by
 apply fn50
 have : fnO acfg 89 [x, .str s] = some (.int .i64 (findI (fun j => l[j]? == some s) 0 l.length)) := by
  apply fn89
  simp only [hx.len, List.length_map, oS]
  exact index_loop hx s hl 0 (by omega)
 simp only [this, oS, scalar_int, int?_int, bif_eq, if_true, oI, T.bool.injEq]
 unfold findI iLe
 cases hf : (upto 0 l.length).find? (fun j => l[j]? == some s) with
 | some j =>
  have h1 := List.find?_some hf
  simp only [beq_iff_eq] at h1
  have hm : s ∈ l := List.mem_of_getElem? h1
  simp [hm]
 | none =>
  have hm : s ∉ l := fun hm => by
   obtain ⟨j, hj, he⟩ := List.getElem_of_mem hm
   have := List.find?_eq_none.1 hf j (mem_upto.2 ⟨by omega, hj⟩)
   simp [hj, he] at this
  simp [hm]
end Go.Proofs.Try

open Go Go.Apex
namespace Go.Proofs.Try
structure Tbl where
 name : List UInt8
 elems : List (List UInt8)
 above : List (List Int)
 wrong : List Bool
abbrev ints (l : List Int) : List T := l.map (T.int .i64)
structure IsTbl (t : Tbl) (n : List UInt8) (e a w : T) : Prop where
 n : n = t.name
 e : IsSl (t.elems.map .str) e
 a : ∃ rows : List T, IsSl rows a /\ rows.length = t.above.length /\ ∀ i, i < t.above.length -> IsSl (ints (t.above.getD i [])) (rows.getD i .nils)
 w : IsSl (t.wrong.map .bool) w
structure Small (t : Tbl) : Prop where
 n : t.name.length < 1000000
 e : t.elems.length < 1000000
 es : ∀ s ∈ t.elems, s.length < 1000000
 a : t.above.length < 1000000
 al : ∀ l ∈ t.above, l.length < 1000000
 w : t.wrong.length < 1000000
theorem fld_at {cs : List T} {off : Nat} {y : T} (h : cs[off]? = some y) (h1 : y.one = true) : fldT off none (.ptr (.agg cs)) = some (.ptr y) := by
 simp [fldT, partS, h, T.fits, h1]
section
variable {t : Tbl} {n : List UInt8} {e a w : T}
theorem IsTbl.a1 (h : IsTbl t n e a w) : a.one = true := by obtain ⟨rows, h1, _⟩ := h.a; exact h1.one
theorem IsTbl.f0 (_ : IsTbl t n e a w) : fldT 0 none (.ptr (tblT n e a w)) = some (.ptr (.str n)) := fld_at rfl rfl
theorem IsTbl.f1 (h : IsTbl t n e a w) : fldT 1 none (.ptr (tblT n e a w)) = some (.ptr e) := fld_at rfl h.e.one
theorem IsTbl.f2 (h : IsTbl t n e a w) : fldT 2 none (.ptr (tblT n e a w)) = some (.ptr a) := fld_at rfl h.a1
theorem IsTbl.f3 (h : IsTbl t n e a w) : fldT 3 none (.ptr (tblT n e a w)) = some (.ptr w) := fld_at rfl h.w.one
theorem IsTbl.d1 (h : IsTbl t n e a w) : derefT none (.ptr e) = some e := deref_one h.e.one
theorem IsTbl.d2 (h : IsTbl t n e a w) : derefT none (.ptr a) = some a := deref_one h.a1
theorem IsTbl.d3 (h : IsTbl t n e a w) : derefT none (.ptr w) = some w := deref_one h.w.one
theorem IsTbl.fits (h : IsTbl t n e a w) : (tblT n e a w).fits (some 4) = true := by
 show (true && (4 == 4) && ((T.str n).one && (e.one && (a.one && (w.one && true))))) = true
 rw [h.e.one, h.a1, h.w.one]
 rfl
theorem IsTbl.v4 (h : IsTbl t n e a w) : vfits (.t (tblT n e a w)) (some 4) = true := by
 show (true && (4 == 4) && ((T.str n).one && (e.one && (a.one && (w.one && true))))) = true
 rw [h.e.one, h.a1, h.w.one]
 rfl
theorem IsTbl.d4 (h : IsTbl t n e a w) : derefT (some 4) (.ptr (tblT n e a w)) = some (tblT n e a w) := by
 simp only [derefT, h.fits, if_true]
theorem IsTbl.len2 (h : IsTbl t n e a w) : lenT a = some (t.above.length : Int) := by obtain ⟨rows, h1, h2, _⟩ := h.a; rw [h1.len, h2]
theorem IsTbl.row (h : IsTbl t n e a w) {i : Nat} (hi : i < t.above.length) : ∃ r, idxT 1 a (i : Int) = some (.ptr r) /\ derefT none (.ptr r) = some r /\ IsSl (ints (t.above.getD i [])) r := by
 obtain ⟨rows, h1, h2, h3⟩ := h.a
 refine ⟨rows.getD i .nils, h1.idx (by rw [gD, gE (by omega)]; rfl), deref_one (h3 i hi).one, h3 i hi⟩
end
theorem agg4 (n : List UInt8) (e a w : T) : T.agg? (List.length D4) (tblT n e a w) = some [.str n, e, a, w] := rfl
theorem nth0 (x y z u : T) : nthT [x, y, z, u] 0 = x := rfl
theorem nth1 (x y z u : T) : nthT [x, y, z, u] 1 = y := rfl
theorem nth2 (x y z u : T) : nthT [x, y, z, u] 2 = z := rfl
theorem nth3 (x y z u : T) : nthT [x, y, z, u] 3 = u := rfl
theorem mode47 : acfg.mode 47 = .scalar := by kernel_rfl
theorem mode48 : acfg.mode 48 = .scalar := by kernel_rfl
theorem mode51 : acfg.mode 51 = .scalar := by kernel_rfl
theorem mode52 : acfg.mode 52 = .scalar := by kernel_rfl
theorem allInts_spec {x f : T} {l : List Int} (hx : IsSl (ints l) x) (hl : l.length < 1000000) {p : Nat -> Bool} (hf : ∀ i, i < l.length -> callT acfg f [.int .i64 i, .int .i64 (l.getD i 0)] = some (.bool (p i))) :
  fnO acfg 53 [x, f] = some (.bool ((upto 0 l.length).all p)) := by
 have key : ∀ i, i <= l.length -> L53_1 f x (l.length : Int) (i : Int) = some (.bool ((upto i l.length).all p)) := by
  refine upto_induct ?_ fun i hi ih => ?_
  . apply L53_1_step
    simp only [iLt_end, cond_false, upto_end (Nat.le_refl _), List.all_nil]
  . apply L53_1_step
    simp only [iLt_len hi, cond_true, hx.idxD 0 hi, oS, deref_int, int?_int, hf i hi, bool?_bool, iAdd_nat (show i < 1000000 by omega), ih, upto_step hi, List.all_cons]
    cases p i <;> simp [bNot]
 apply fn53
 simp only [hx.lenD, oS]
 exact key 0 (by omega)
theorem allStrs_spec {x f : T} {l : List (List UInt8)} (hx : IsSl (l.map .str) x) (hl : l.length < 1000000) {p : Nat -> Bool} (hf : ∀ i, i < l.length -> callT acfg f [.int .i64 i, .str (l.getD i [])] = some (.bool (p i))) :
  fnO acfg 55 [x, f] = some (.bool ((upto 0 l.length).all p)) := by
 have key : ∀ i, i <= l.length -> L55_1 f x (l.length : Int) (i : Int) = some (.bool ((upto i l.length).all p)) := by
  refine upto_induct ?_ fun i hi ih => ?_
  . apply L55_1_step
    simp only [iLt_end, cond_false, upto_end (Nat.le_refl _), List.all_nil]
  . apply L55_1_step
    simp only [iLt_len hi, cond_true, hx.idxD [] hi, oS, deref_str, str?_str, hf i hi, bool?_bool, iAdd_nat (show i < 1000000 by omega), ih, upto_step hi, List.all_cons]
    cases p i <;> simp [bNot]
 apply fn55
 simp only [hx.lenD, oS]
 exact key 0 (by omega)
theorem allRows_spec {t : Tbl} {n : List UInt8} {e a w f : T} (hx : IsTbl t n e a w) (hl : t.above.length < 1000000) {p : Nat -> Bool}
  (hf : ∀ i r, i < t.above.length -> IsSl (ints (t.above.getD i [])) r -> callT acfg f [.int .i64 i, r] = some (.bool (p i))) :
  fnO acfg 56 [a, f] = some (.bool ((upto 0 t.above.length).all p)) := by
 have key : ∀ i, i <= t.above.length -> L56_1 f a (t.above.length : Int) (i : Int) = some (.bool ((upto i t.above.length).all p)) := by
  refine upto_induct ?_ fun i hi ih => ?_
  . apply L56_1_step
    simp only [iLt_end, cond_false, upto_end (Nat.le_refl _), List.all_nil]
  . apply L56_1_step
    obtain ⟨r, h1, h2, h3⟩ := hx.row hi
    simp only [iLt_len hi, cond_true, h1, oS, h2, hf i r hi h3, bool?_bool, iAdd_nat (show i < 1000000 by omega), ih, upto_step hi, List.all_cons]
    cases p i <;> simp [bNot]
 apply fn56
 simp only [hx.len2, oS]
 exact key 0 (by omega)
def freshB (l : List (List UInt8)) (i : Nat) : Bool := isNameB (l.getD i []) && !decide (l.getD i [] ∈ l.take i)
def elemB (n : Nat) (l : List Int) (i : Nat) : Bool := decide (0 <= l.getD i 0) && decide (l.getD i 0 < n)
def greaterB (l : List Int) (i : Nat) : Bool := decide (i = 0) || decide (l.getD (i - 1) 0 < l.getD i 0)
def listB (n : Nat) (l : List Int) : Bool := (upto 0 l.length).all (elemB n l) && (upto 0 l.length).all (greaterB l)
def wordsL : List (List UInt8) := [[102, 108, 97, 103], [109, 97, 120], [115, 101, 116], [111, 110, 99, 101], [109, 97, 112], [112, 97, 105, 114]]
def tableNameB (s : List UInt8) : Bool := isNameB s && !decide (s ∈ wordsL)
def checkB (t : Tbl) : Bool :=
 tableNameB t.name && decide (1 <= t.elems.length) && decide (t.elems.length <= 12) && decide (t.above.length = t.elems.length) && decide (t.wrong.length = t.elems.length) &&
 (upto 0 t.elems.length).all (freshB t.elems) && (upto 0 t.above.length).all (fun i => listB t.elems.length (t.above.getD i []))
theorem isElem_spec (i b : Int) (n : Nat) : fnO acfg 47 [.int .i64 i, .int .i64 b, .ptr (.int .i64 (n : Int))] = some (.bool (decide (0 <= b) && decide (b < n))) := by
 apply fn47
 simp only [deref_int, oS, int?_int, bif_eq, iLe_iff, iLt]
 by_cases h : 0 <= b <;> simp [h]
theorem isFresh_spec {t : Tbl} {n : List UInt8} {e a w : T} (h : IsTbl t n e a w) (hs : Small t) {i : Nat} (hi : i < t.elems.length) :
  fnO acfg 48 [.int .i64 i, .str (t.elems.getD i []), .ptr (tblT n e a w)] = some (.bool (freshB t.elems i)) := by
 apply fn48
 have hm : t.elems.getD i [] ∈ t.elems := by
  rw [gD, gE hi]
  exact List.getElem_mem hi
 obtain ⟨y, hy, hy2⟩ := h.e.takeD (i := i) (by omega)
 have hc := contains_spec hy2 (t.elems.getD i []) (by rw [List.length_take]; have := hs.e; omega)
 simp only [isName_spec _ (hs.es _ hm), oS, scalar_bool, bool?_bool, cond_true, h.f1, h.d1, hy, hc, freshB]
 cases isNameB (t.elems.getD i []) <;> simp [bNot]
theorem isGreater_spec {x : T} {l : List Int} (hx : IsSl (ints l) x) (hl : l.length < 1000000) {i : Nat} (hi : i < l.length) : fnO acfg 52 [.int .i64 i, .int .i64 (l.getD i 0), .ptr x] = some (.bool (greaterB l i)) := by
 apply fn52
 by_cases h0 : i = 0
 . subst h0
   simp [iEq, greaterB]
 . have h1 : iEq (i : Int) 0 = false := by simp [iEq]; omega
   have h2 : iSub .i64 (i : Int) 1 = ((i - 1 : Nat) : Int) := by
    show IntKind.wrap .i64 ((i : Int) - 1) = _
    have := iAdd_i64 (a := (i : Int)) (b := -1) (by omega) (by omega)
    unfold iAdd at this
    rw [show (i : Int) - 1 = i + -1 from by omega, this]
    omega
   simp only [h1, cond_false, deref_one hx.one, oS, h2, hx.idxD 0 (show i - 1 < l.length by omega), deref_int, int?_int]
   simp [greaterB, h0, iLt]
theorem isList_spec {x : T} {l : List Int} (hx : IsSl (ints l) x) (hl : l.length < 1000000) (i n : Nat) : fnO acfg 51 [.int .i64 i, x, .ptr (.fn (.func 47) [] [.ptr (.int .i64 (n : Int))])] = some (.bool (listB n l)) := by
 apply fn51
 have h1 : fnO acfg 53 [x, .fn (.func 47) [] [.ptr (.int .i64 (n : Int))]] = some (.bool ((upto 0 l.length).all (elemB n l))) :=
  allInts_spec hx hl fun i hi => callT_scalar mode47 (isElem_spec i _ n) rfl
 have h2 : fnO acfg 53 [x, .fn (.func 52) [] [.ptr x]] = some (.bool ((upto 0 l.length).all (greaterB l))) :=
  allInts_spec hx hl fun i hi => callT_scalar mode52 (isGreater_spec hx hl hi) rfl
 simp only [vfits_one hx.one, cond_true, deref_one hx.one, oS, deref_fn, h1, scalar_bool, bool?_bool, h2, listB]
 cases (upto 0 l.length).all (elemB n l) <;> simp
theorem findKey_str (s : List UInt8) : ∀ (l : List (List UInt8)) (i : Nat), ∃ r, findKey (.str s) (l.map .str) i = some r /\ r.isSome = decide (s ∈ l) /\ ∀ j, r = some j -> i <= j /\ j < i + l.length
 | [], i => ⟨none, rfl, by simp, fun j h => by cases h⟩
 | k :: l, i => by
  obtain ⟨r, h1, h2, h3⟩ := findKey_str s l (i + 1)
  by_cases e : s = k
  . refine ⟨some i, ?_, by simp [e], fun j hj => by cases hj; simp⟩
    simp [findKey, keyEq, e]
  . refine ⟨r, ?_, by rw [h2]; simp [e], fun j hj => by have := h3 j hj; simp only [List.length_cons]; omega⟩
    simp [findKey, keyEq, e, h1]
def wordsT : T := .mp (wordsL.map .str) [.int .u8 1, .int .u8 2, .int .u8 3, .int .u8 4, .int .u8 6, .int .u8 7]
theorem words_eq : fnO acfg 90 [] = some wordsT := fnO_some.2 ⟨60, by kernel_rfl⟩
theorem words_look (s : List UInt8) : ∃ v b, lookT (some (T.int .u8 0)) wordsT (T.str s) = some (.int .u8 v, b) /\ b = decide (s ∈ wordsL) := by
 obtain ⟨r, h1, h2, h3⟩ := findKey_str s wordsL 0
 simp only [wordsT, lookT, h1, oS]
 cases r with
 | none => exact ⟨0, false, rfl, h2⟩
 | some j =>
  have hj : j < 6 := by have := (h3 j rfl).2; simpa [wordsL] using this
  match j, hj with
  | 0, _ => exact ⟨1, true, rfl, h2⟩
  | 1, _ => exact ⟨2, true, rfl, h2⟩
  | 2, _ => exact ⟨3, true, rfl, h2⟩
  | 3, _ => exact ⟨4, true, rfl, h2⟩
  | 4, _ => exact ⟨6, true, rfl, h2⟩
  | 5, _ => exact ⟨7, true, rfl, h2⟩
theorem tableName_spec (s : List UInt8) (hs : s.length < 1000000) : fnO acfg 54 [.str s] = some (.bool (tableNameB s)) := by
 apply fn54
 obtain ⟨v, b, h3, h4⟩ := words_look s
 simp only [words_eq, h3, oS, int?_int, isName_spec s hs, scalar_bool, bool?_bool, cond_true, tableNameB, h4]
 cases isNameB s <;> simp [bNot]
theorem check_spec {t : Tbl} {n : List UInt8} {e a w : T} (h : IsTbl t n e a w) (hs : Small t) : fnO acfg 16 [tblT n e a w] = some (.int .i64 (bif checkB t then 0 else 4)) := by
 apply fn16
 have hn := h.n
 subst hn
 have h55 : fnO acfg 55 [e, .fn (.func 48) [] [.ptr (tblT t.name e a w)]] = some (.bool ((upto 0 t.elems.length).all (freshB t.elems))) :=
  allStrs_spec h.e hs.e fun i hi => callT_scalar mode48 (isFresh_spec h hs hi) rfl
 have h56 : fnO acfg 56 [a, .fn (.func 51) [] [.ptr (.fn (.func 47) [] [.ptr (.int .i64 (t.elems.length : Int))])]] = some (.bool ((upto 0 t.above.length).all (fun i => listB t.elems.length (t.above.getD i [])))) :=
  allRows_spec h hs.a fun i r hi hr => callT_scalar mode51 (isList_spec hr (hs.al _ (by
   rw [gD, gE hi]; exact List.getElem_mem hi)) i _) rfl
 have v47 : vfits (.t (T.fn (Fn.func 47) [] [T.ptr (T.int IntKind.i64 (t.elems.length : Int))])) none = true := rfl
 have o47 : oneT (T.fn (Fn.func 47) [] [T.ptr (T.int IntKind.i64 (t.elems.length : Int))]) = true := rfl
 have oi : oneT (T.int IntKind.i64 (t.elems.length : Int)) = true := rfl
 simp only [h.v4, cond_true, h.f1, h.d1, h.f0, h.f2, h.d2, h.f3, h.d3, oS, h.e.lenD, oi, v47, o47, deref_str, str?_str, tableName_spec _ hs.n, scalar_bool, bool?_bool, deref_int, int?_int, h.len2, h.w.lenD, h55, h56]
 simp only [checkB]
 have e1 : iLt (t.elems.length : Int) 1 = !decide (1 <= t.elems.length) := by unfold iLt; by_cases h : 1 <= t.elems.length <;> simp [h] <;> omega
 have e2 : iLt 12 (t.elems.length : Int) = !decide (t.elems.length <= 12) := by unfold iLt; by_cases h : t.elems.length <= 12 <;> simp [h] <;> omega
 have e3 : iEq (t.above.length : Int) (t.elems.length : Int) = decide (t.above.length = t.elems.length) := by unfold iEq; rw [Bool.eq_iff_iff]; simp; omega
 have e4 : iEq (t.wrong.length : Int) (t.elems.length : Int) = decide (t.wrong.length = t.elems.length) := by unfold iEq; rw [Bool.eq_iff_iff]; simp; omega
 rw [e1, e2, e3, e4]
 cases tableNameB t.name <;> cases decide (1 <= t.elems.length) <;> cases decide (t.elems.length <= 12) <;> cases decide (t.above.length = t.elems.length) <;> cases decide (t.wrong.length = t.elems.length) <;>
  cases (upto 0 t.elems.length).all (freshB t.elems) <;> cases (upto 0 t.above.length).all (fun i => listB t.elems.length (t.above.getD i [])) <;> rfl
end Go.Proofs.Try

open Go Go.Apex
namespace Go.Proofs.Try
theorem wordsSl : IsSl (wordsL.map .str) (T.sl true 1 [(T.str [102, 108, 97, 103]), (T.str [109, 97, 120]), (T.str [115, 101, 116]), (T.str [111, 110, 99, 101]), (T.str [109, 97, 112]), (T.str [112, 97, 105, 114])]) := .sl true
theorem findI_neg {p : Nat -> Bool} {n : Nat} : decide (findI p 0 n < 0) = (upto 0 n).all fun j => !p j := by
 unfold findI
 cases hf : (upto 0 n).find? p with
 | none =>
  have := List.find?_eq_none.1 hf
  rw [show (decide ((-1 : Int) < 0)) = true from rfl]
  exact (List.all_eq_true.2 fun j hj => by simpa using this j hj).symm
 | some j =>
  have h1 := List.find?_some hf
  have h2 := List.mem_of_find?_eq_some hf
  have e : decide ((j : Int) < 0) = false := by simp
  simp only [e]
  refine Eq.symm ?_
  rw [List.all_eq_false]
  exact ⟨j, h2, by simp [h1]⟩
theorem refTableName_spec (s : List UInt8) (hs : s.length < 1000000) : fnO acfg 60 [.str s] = some (.bool (tableNameB s)) := by
 apply fn60
 have hw : fnO acfg 100 [] = some _ := fn100 _ rfl
 have hf := find_spec wordsSl s (by decide)
 simp only [refName_spec s hs, hw, hf, oS, scalar_bool, bool?_bool, cond_true, scalar_int, int?_int, tableNameB]
 have : iLt (findI (fun j => wordsL[j]? == some s) 0 wordsL.length) 0 = !decide (s ∈ wordsL) := by
  show decide (_ < _) = _
  rw [findI_neg]
  rw [Bool.eq_iff_iff]
  simp only [List.all_eq_true, mem_upto, Bool.not_eq_true', beq_eq_false_iff_ne, decide_eq_false_iff_not]
  constructor
  . intro h hm
    obtain ⟨j, hj, he⟩ := List.getElem_of_mem hm
    exact h j ⟨by omega, hj⟩ (by simp [hj, he])
  . intro h j hj he
    exact h (List.mem_of_getElem? he)
 rw [this]
 cases isNameB s <;> rfl
def refListB (n : Nat) (l : List Int) (k : Nat) : Bool := decide (0 <= l.getD k 0) && decide (l.getD k 0 <= (n : Int) - 1) && (decide (k = 0) || decide (l.getD (k - 1) 0 < l.getD k 0))
def refElemB (t : Tbl) (i : Nat) : Bool := isNameB (t.elems.getD i []) && decide (findI (fun j => t.elems[j]? == some (t.elems.getD i [])) 0 t.elems.length = (i : Int)) && (upto 0 (t.above.getD i []).length).all (refListB t.elems.length (t.above.getD i []))
theorem iSub_nat {i : Nat} (h : i < 1000000) (h0 : 1 <= i) : iSub .i64 (i : Int) 1 = ((i - 1 : Nat) : Int) := by
 have := iAdd_i64 (a := (i : Int)) (b := -1) (by omega) (by omega)
 unfold iAdd at this
 show IntKind.wrap .i64 ((i : Int) - 1) = _
 rw [show (i : Int) - 1 = i + -1 from by omega, this]
 omega
theorem getD_mem {α : Type} {l : List α} {i : Nat} (d : α) (h : i < l.length) : l.getD i d ∈ l := by
 rw [gD, gE h]; exact List.getElem_mem h
theorem refCheck_loop {t : Tbl} {n : List UInt8} {e a w : T} (h : IsTbl t n e a w) (hs : Small t) (hn : 1 <= t.elems.length) (ha : t.above.length = t.elems.length) :
  ∀ i, i <= t.elems.length -> L19_1 n e a w (t.elems.length : Int) (i : Int) = some (.int .i64 (bif (upto i t.elems.length).all (refElemB t) then 0 else 4)) := by
 refine upto_induct ?_ fun i hi ih => ?_
 . apply L19_1_step
   simp only [iLt_end, cond_false, upto_end (Nat.le_refl _), List.all_nil, cond_true]
 . obtain ⟨r, r1, r2, r3⟩ := h.row (i := i) (by omega)
   have hel := hs.e
   have hal := hs.al _ (getD_mem [] (show i < t.above.length by omega))
   have inner : ∀ k, k <= (t.above.getD i []).length -> L19_2 n e a w (t.elems.length : Int) (i : Int) (k : Int) =
     some (.int .i64 (bif (upto k (t.above.getD i []).length).all (refListB t.elems.length (t.above.getD i [])) then (bif (upto (i + 1) t.elems.length).all (refElemB t) then 0 else 4) else 4)) := by
    refine upto_induct ?_ fun k hk ihk => ?_
    . apply L19_2_step
      simp only [h.f2, h.d2, oS, r1, r2, r3.lenD, iLt_end, cond_false, upto_end (Nat.le_refl _), List.all_nil, cond_true, iAdd_nat (show i < 1000000 by omega), ih]
    . apply L19_2_step
      simp only [h.f2, h.d2, oS, r1, r2, r3.lenD, iLt_len hk, cond_true, r3.idxD 0 hk, deref_int, int?_int, in_spec, scalar_bool, bool?_bool, iAdd_nat (show k < 1000000 by omega), ihk, iSub_nat (show t.elems.length < 1000000 by omega) hn, upto_step hk, List.all_cons]
      have e1 : (((t.elems.length - 1 : Nat) : Int)) = (t.elems.length : Int) - 1 := by omega
      simp only [e1, refListB]
      by_cases h0 : k = 0
      . subst h0
        have e2 : iLt 0 ((0 : Nat) : Int) = false := rfl
        simp only [e2, cond_false]
        cases (decide (0 <= (t.above.getD i []).getD 0 0) && decide ((t.above.getD i []).getD 0 0 <= (t.elems.length : Int) - 1)) <;> simp [bNot]
      . have e2 : iLt 0 (k : Int) = true := by simp [iLt]; omega
        simp only [e2, cond_true, iSub_nat (show k < 1000000 by omega) (by omega), r3.idxD 0 (show k - 1 < _ by omega), deref_int, int?_int, oS]
        have e3 : iLe ((t.above.getD i []).getD k 0) ((t.above.getD i []).getD (k - 1) 0) = !decide ((t.above.getD i []).getD (k - 1) 0 < (t.above.getD i []).getD k 0) := by
         unfold iLe
         rw [Bool.eq_iff_iff]
         simp
        rw [e3]
        cases (decide (0 <= (t.above.getD i []).getD k 0) && decide ((t.above.getD i []).getD k 0 <= (t.elems.length : Int) - 1)) <;> cases decide ((t.above.getD i []).getD (k - 1) 0 < (t.above.getD i []).getD k 0) <;> simp [bNot, h0]
   apply L19_1_step
   have hf := find_spec h.e (t.elems.getD i []) hs.e
   have := inner 0 (by omega)
   simp only [Int.ofNat_zero, Int.natCast_zero] at this
   simp only [iLt_len hi, cond_true, h.f1, h.d1, oS, h.e.idxD [] hi, deref_str, str?_str, refName_spec _ (hs.es _ (getD_mem [] hi)), scalar_bool, bool?_bool, hf, scalar_int, int?_int, this, upto_step hi, List.all_cons]
   have e4 : iEq (findI (fun j => t.elems[j]? == some (t.elems.getD i [])) 0 t.elems.length) (i : Int) = decide (findI (fun j => t.elems[j]? == some (t.elems.getD i [])) 0 t.elems.length = (i : Int)) := by
    unfold iEq
    rw [Bool.eq_iff_iff]
    simp
   rw [e4]
   simp only [refElemB]
   cases isNameB (t.elems.getD i []) <;> cases decide (findI (fun j => t.elems[j]? == some (t.elems.getD i [])) 0 t.elems.length = (i : Int)) <;> cases (upto 0 (t.above.getD i []).length).all (refListB t.elems.length (t.above.getD i [])) <;> simp [bNot]
theorem fresh_find {l : List (List UInt8)} {i : Nat} (hi : i < l.length) : decide (findI (fun j => l[j]? == some (l.getD i [])) 0 l.length = (i : Int)) = !decide (l.getD i [] ∈ l.take i) := by
 have hg : l[i]? = some (l.getD i []) := by rw [gD, gE hi]; rfl
 unfold findI
 cases hf : (upto 0 l.length).find? (fun j => l[j]? == some (l.getD i [])) with
 | none =>
  have := List.find?_eq_none.1 hf i (mem_upto.2 ⟨by omega, hi⟩)
  rw [hg] at this
  exact absurd (beq_self_eq_true _) this
 | some j =>
  have h1 := List.find?_some hf
  simp only [beq_iff_eq] at h1
  obtain ⟨_, l1, l2, h2, h3⟩ := List.find?_eq_some_iff_append.1 hf
  have hlt : ∀ k, k < j -> l[k]? ≠ some (l.getD i []) := by
   intro k hk he
   have hjn := (mem_upto.1 (List.mem_of_find?_eq_some hf)).2
   have hk2 : k ∈ l1 := by
    have hm : k ∈ upto 0 l.length := mem_upto.2 ⟨by omega, by omega⟩
    rw [h2] at hm
    have hsort : (upto 0 l.length).Pairwise (· < ·) := by
     unfold upto
     exact List.pairwise_lt_range'
    rw [h2, List.pairwise_append] at hsort
    rcases List.mem_append.1 hm with hm | hm
    . exact hm
    . rcases List.mem_cons.1 hm with rfl | hm
      . omega
      . have := (List.pairwise_cons.1 hsort.2.1).1 k hm
        omega
   have := h3 k hk2
   rw [he] at this
   simp at this
  have hji : j <= i := Nat.le_of_not_lt fun hij => hlt i hij hg
  by_cases e : j = i
  . subst e
    have : l.getD j [] ∉ l.take j := fun hm => by
     obtain ⟨k, hk, hke⟩ := List.getElem_of_mem hm
     rw [List.length_take] at hk
     rw [List.getElem_take] at hke
     exact hlt k (by omega) (by rw [gE (by omega), hke])
    rw [decide_eq_false this]
    exact decide_eq_true rfl
  . have : l.getD i [] ∈ l.take i := List.mem_of_getElem? (i := j) (by rw [List.getElem?_take, if_pos (by omega)]; exact h1)
    have e2 : ¬ ((j : Int) = (i : Int)) := by omega
    rw [decide_eq_true this]
    exact decide_eq_false e2
theorem listB_eq (n : Nat) (l : List Int) : listB n l = (upto 0 l.length).all (refListB n l) := by
 unfold listB
 rw [Bool.eq_iff_iff]
 simp only [Bool.and_eq_true, List.all_eq_true, mem_upto, elemB, greaterB, refListB, Bool.or_eq_true, decide_eq_true_eq]
 constructor
 . rintro ⟨h1, h2⟩ k hk
   exact ⟨⟨(h1 k hk).1, by have := (h1 k hk).2; omega⟩, h2 k hk⟩
 . intro h
   exact ⟨fun k hk => ⟨(h k hk).1.1, by have := (h k hk).1.2; omega⟩, fun k hk => (h k hk).2⟩
theorem refCheck_spec {t : Tbl} {n : List UInt8} {e a w : T} (h : IsTbl t n e a w) (hs : Small t) : fnO acfg 19 [tblT n e a w] = some (.int .i64 (bif checkB t then 0 else 4)) := by
 apply fn19
 have hn := h.n
 subst hn
 simp only [h.v4, cond_true, h.f1, h.d1, h.f0, h.f2, h.d2, h.f3, h.d3, oS, h.e.lenD, deref_str, str?_str, refTableName_spec _ hs.n, scalar_bool, bool?_bool, in_spec, h.len2, h.w.lenD]
 have e1 : (decide ((1 : Int) <= t.elems.length) && decide ((t.elems.length : Int) <= 12)) = (decide (1 <= t.elems.length) && decide (t.elems.length <= 12)) := by
  congr 1 <;> exact decide_eq_decide.2 (by omega)
 have e3 : iEq (t.above.length : Int) (t.elems.length : Int) = decide (t.above.length = t.elems.length) := by unfold iEq; rw [Bool.eq_iff_iff]; simp; omega
 have e4 : iEq (t.wrong.length : Int) (t.elems.length : Int) = decide (t.wrong.length = t.elems.length) := by unfold iEq; rw [Bool.eq_iff_iff]; simp; omega
 rw [e1, e3, e4]
 by_cases hh : 1 <= t.elems.length /\ t.above.length = t.elems.length
 . have hl := refCheck_loop h hs hh.1 hh.2 0 (by omega)
   simp only [Int.ofNat_zero, Int.natCast_zero] at hl
   rw [hl]
   have e5 : (upto 0 t.elems.length).all (refElemB t) = ((upto 0 t.elems.length).all (freshB t.elems) && (upto 0 t.above.length).all (fun i => listB t.elems.length (t.above.getD i []))) := by
    rw [hh.2, Bool.eq_iff_iff]
    simp only [Bool.and_eq_true, List.all_eq_true, refElemB, freshB, <- listB_eq]
    constructor
    . intro h
      exact ⟨fun i hi => by have := h i hi; rw [fresh_find (mem_upto.1 hi).2] at this; exact this.1, fun i hi => (h i hi).2⟩
    . rintro ⟨h1, h2⟩ i hi
      rw [fresh_find (mem_upto.1 hi).2]
      exact ⟨h1 i hi, h2 i hi⟩
   rw [e5]
   simp only [checkB]
   cases tableNameB t.name <;> cases decide (1 <= t.elems.length) <;> cases decide (t.elems.length <= 12) <;> cases decide (t.above.length = t.elems.length) <;> cases decide (t.wrong.length = t.elems.length) <;>
    cases (upto 0 t.elems.length).all (freshB t.elems) <;> cases (upto 0 t.above.length).all (fun i => listB t.elems.length (t.above.getD i [])) <;> rfl
 . have hc : checkB t = false := by
    simp only [checkB]
    by_cases h1 : 1 <= t.elems.length
    . have h2 : ¬ t.above.length = t.elems.length := fun h2 => hh ⟨h1, h2⟩
      simp [h2]
    . simp [h1]
   rw [hc]
   by_cases h1 : 1 <= t.elems.length
   . have h2 : decide (t.above.length = t.elems.length) = false := decide_eq_false fun h2 => hh ⟨h1, h2⟩
     rw [h2]
     cases tableNameB t.name <;> cases (decide (1 <= t.elems.length) && decide (t.elems.length <= 12)) <;> rfl
   . rw [decide_eq_false h1]
     cases tableNameB t.name <;> rfl
end Go.Proofs.Try

open Go Go.Apex
namespace Go.Proofs.Try
def thinB (t : Tbl) : Bool :=
 decide (t.elems.length <= 20) && decide (t.above.length <= 20) && decide (t.wrong.length <= 20) && decide (t.name.length <= 30) && (upto 0 t.elems.length).all (fun i => decide ((t.elems.getD i []).length <= 30)) && (upto 0 t.above.length).all (fun i => decide ((t.above.getD i []).length <= 20))
theorem iLt_dec (a b : Nat) : iLt (a : Int) (b : Int) = !decide (b <= a) := by unfold iLt; by_cases h : b <= a <;> simp [h] <;> omega
theorem thin_spec {t : Tbl} {n : List UInt8} {e a w : T} (h : IsTbl t n e a w) : fnO acfg 13 [tblT n e a w] = some (.bool (thinB t)) := by
 have hn := h.n
 subst hn
 apply fn13
 have l20 : ∀ k : Nat, iLt 20 (k : Int) = !decide (k <= 20) := fun k => iLt_dec 20 k |>.trans (by by_cases h : k <= 20 <;> simp [h] <;> omega)
 have l30 : ∀ k : Nat, iLt 30 (k : Int) = !decide (k <= 30) := fun k => iLt_dec 30 k |>.trans (by by_cases h : k <= 30 <;> simp [h] <;> omega)
 simp only [h.v4, cond_true, h.f1, h.d1, h.f0, h.f2, h.d2, h.f3, h.d3, oS, h.e.lenD, h.len2, h.w.lenD, deref_str, str?_str, sLen]
 by_cases h1 : t.elems.length <= 20 /\ t.above.length <= 20
 . have two : ∀ i, i <= t.above.length -> L13_2 t.name e a w (i : Int) = some (.bool ((upto i t.above.length).all (fun i => decide ((t.above.getD i []).length <= 20)))) := by
    refine upto_induct ?_ fun i hi ih => ?_
    . apply L13_2_step
      simp only [h.f2, h.d2, oS, h.len2, iLt_end, cond_false, upto_end (Nat.le_refl _), List.all_nil]
    . apply L13_2_step
      obtain ⟨r, r1, r2, r3⟩ := h.row hi
      simp only [h.f2, h.d2, oS, h.len2, iLt_len hi, cond_true, r1, r2, r3.lenD, l20, iAdd_nat (show i < 1000000 by omega), ih, upto_step hi, List.all_cons]
      cases decide ((t.above.getD i []).length <= 20) <;> simp
   have h20 := two 0 (by omega)
   simp only [Int.ofNat_zero, Int.natCast_zero] at h20
   have one : ∀ i, i <= t.elems.length -> L13_1 t.name e a w (i : Int) = some (.bool ((upto i t.elems.length).all (fun i => decide ((t.elems.getD i []).length <= 30)) && (upto 0 t.above.length).all (fun i => decide ((t.above.getD i []).length <= 20)))) := by
    refine upto_induct ?_ fun i hi ih => ?_
    . apply L13_1_step
      simp only [h.f1, h.d1, oS, h.e.lenD, iLt_end, cond_false, upto_end (Nat.le_refl _), List.all_nil, h20, Bool.true_and]
    . apply L13_1_step
      simp only [h.f1, h.d1, oS, h.e.lenD, iLt_len hi, cond_true, h.e.idxD [] hi, deref_str, str?_str, sLen, l30, iAdd_nat (show i < 1000000 by omega), ih, upto_step hi, List.all_cons]
      cases decide ((t.elems.getD i []).length <= 30) <;> simp
   have h10 := one 0 (by omega)
   simp only [Int.ofNat_zero, Int.natCast_zero] at h10
   simp only [l20, l30, h10, thinB]
   rw [decide_eq_true h1.1, decide_eq_true h1.2]
   cases decide (t.wrong.length <= 20) <;> cases decide (t.name.length <= 30) <;> simp
 . simp only [l20, l30, thinB]
   by_cases h2 : t.elems.length <= 20
   . have h3 : ¬ t.above.length <= 20 := fun h3 => h1 ⟨h2, h3⟩
     rw [decide_eq_true h2, decide_eq_false h3]
     simp
   . rw [decide_eq_false h2]
     simp
theorem small_of_thin {t : Tbl} (h : thinB t = true) : Small t := by
 simp only [thinB, Bool.and_eq_true, decide_eq_true_eq, List.all_eq_true, mem_upto] at h
 obtain ⟨⟨⟨⟨⟨h1, h2⟩, h3⟩, h4⟩, h5⟩, h6⟩ := h
 refine ⟨by omega, by omega, fun s hs => ?_, by omega, fun l hl => ?_, by omega⟩
 . obtain ⟨i, hi, he⟩ := List.getElem_of_mem hs
   have := h5 i ⟨by omega, hi⟩
   rw [gD, gE hi, he] at this
   simp only [Option.getD_some] at this
   omega
 . obtain ⟨i, hi, he⟩ := List.getElem_of_mem hl
   have := h6 i ⟨by omega, hi⟩
   rw [gD, gE hi, he] at this
   simp only [Option.getD_some] at this
   omega
theorem one_int (l : List Int) : OneL (ints l) := OneL.map (fun _ => rfl) l
theorem one_str (l : List (List UInt8)) : OneL (l.map T.str) := OneL.map (fun _ => rfl) l
theorem one_bool (l : List Bool) : OneL (l.map T.bool) := OneL.map (fun _ => rfl) l
structure RowsTo (t : Tbl) (rs : List T) : Prop where
 le : rs.length <= t.above.length
 r : ∀ i, i < rs.length -> IsSl (ints (t.above.getD i [])) (rs.getD i .nils)
theorem RowsTo.one {t : Tbl} {rs : List T} (h : RowsTo t rs) : OneL rs := fun x hx => by
 obtain ⟨i, hi, he⟩ := List.getElem_of_mem hx
 have := (h.r i hi).one
 rw [gD, gE hi, he] at this
 exact this
theorem RowsTo.snoc {t : Tbl} {rs : List T} (h : RowsTo t rs) (hl : rs.length < t.above.length) {y : T} (hy : IsSl (ints (t.above.getD rs.length [])) y) : RowsTo t (rs ++ [y]) := by
 refine ⟨by simp; omega, fun i hi => ?_⟩
 have e : (rs ++ [y]).getD i .nils = if i < rs.length then rs.getD i .nils else y := by
  rw [gD, List.getElem?_append]
  split
  . rw [gD]
  . have : i = rs.length := by simp at hi; omega
    subst this
    simp
 rw [e]
 split
 . rename_i h1
   exact h.r i h1
 . have : i = rs.length := by simp at hi; omega
   subst this
   exact hy
theorem copy_spec {t : Tbl} {n : List UInt8} {e a w : T} (h : IsTbl t n e a w) (hs : Small t) : ∃ e' a' w', fnO acfg 15 [tblT n e a w] = some (tblT n e' a' w') /\ IsTbl t n e' a' w' := by
 have hsA := hs.a
 obtain ⟨e', e1, e2⟩ := appT_nil (one_str t.elems) (bytes := 16) (by have := hs.e; rw [List.length_map, maxB]; omega)
 obtain ⟨w', w1, w2⟩ := appT_nil (one_bool t.wrong) (bytes := 1) (by have := hs.w; rw [List.length_map, maxB]; omega)
 have v4 : ∀ y : T, y.one = true -> vfits (.t (T.agg [.str n, e', y, w'])) (some 4) = true := fun y hy => by
  show (true && (4 == 4) && ((T.str n).one && (e'.one && (y.one && (w'.one && true))))) = true
  rw [e2.one, hy, w2.one]
  rfl
 have vm : ∀ (i g o l : Nat), vfits (.agg [.t (T.str n), .t e', .msl i g o l none, .t w']) (some 4) = true := fun i g o l => by
  show (true && (4 == 4) && ((T.str n).one && (e'.one && (true && (w'.one && true))))) = true
  rw [e2.one, w2.one]
  rfl
 have rowc : ∀ i, i < t.above.length -> ∃ r x9, idxT 1 a (i : Int) = some (.ptr r) /\ derefT none (.ptr r) = some r /\ elemsT none r = some (cellsT (ints (t.above.getD i []))) /\ appT none 1 8 (T.sl true 1 []) (cellsT (ints (t.above.getD i []))) = some x9 /\ IsSl (ints (t.above.getD i [])) x9 := fun i hi => by
  obtain ⟨r, r1, r2, r3⟩ := h.row hi
  obtain ⟨y, y1, y2⟩ := appT_nil (one_int (t.above.getD i [])) (bytes := 8) (by have := hs.al _ (getD_mem [] hi); rw [List.length_map, maxB]; omega)
  exact ⟨r, y, r1, r2, elemsT_sl r3 (one_int _), y1, y2⟩
 have two : ∀ i, i <= t.above.length -> ∀ (rs : List T) (g : Nat), rs.length = i -> 1 <= i -> RowsTo t rs -> ∃ a', L15_2 n e a w (i : Int) [] n e' g 0 i w' g (cellsT rs) = some (tblT n e' a' w') /\ IsTbl t n e' a' w' := by
  refine upto_induct ?_ fun i hi ih => ?_
  . intro rs g hl h1 hr
    refine ⟨.sl false 1 rs, ?_, h.n, e2, ⟨rs, .sl _, hl, fun i hi => hr.r i (by omega)⟩, w2⟩
    apply L15_2_step
    have hrow := rowT_all hr.one
    rw [hl] at hrow
    simp only [h.f2, h.d2, oS, h.len2, iLt_end, cond_false, vm, cond_true, natEq_self, hrow]
  . intro rs g hl h1 hr
    obtain ⟨r, y, r1, r2, r3, y1, y2⟩ := rowc i hi
    obtain ⟨a', ha, hb⟩ := ih (rs ++ [y]) (g + 1) (by simp [hl]) (by omega) (hr.snoc (by omega) (by rw [hl]; exact y2))
    refine ⟨a', ?_, hb⟩
    apply L15_2_step
    have hok : appOK (cellsT rs) 0 i 1 [V.t y] 24 = true := appOK_row (ys := [y]) (by omega) (by rw [maxB]; simp; omega)
    have hcs : appCs (cellsT rs) 0 [V.t y] = cellsT (rs ++ [y]) := by
     have := appCs_one (cs := rs) (ys := [y]) (off := 0) (OneL.cons y2.one OneL.nil) (by simp)
     simpa using this
    have vmsl : ∀ g o l, vfits (V.msl 31 g o l none) none = true := fun _ _ _ => rfl
    have hobj : ∀ g, objBd 32 (Go.Apex.Obj.cells g 38 false (cellsT (rs ++ [y]))) = true := fun g => objBd_cells _ _ _ _ _
    simp only [h.f2, h.d2, oS, h.len2, iLt_len hi, cond_true, r1, r2, r3, y1, vfits_one y2.one, natEq_self, hok, vmsl, hcs, hobj, iAdd_nat (show i < 1000000 by omega), appGen_one, appLen_one, ha]
 have res : ∃ a', L15_1 n e a w 0 [] n e' w' = some (tblT n e' a' w') /\ IsTbl t n e' a' w' := by
  by_cases h0 : t.above.length = 0
  . refine ⟨.nils, ?_, h.n, e2, ⟨[], .nil rfl, by simp [h0], fun i hi => by omega⟩, w2⟩
    apply L15_1_step
    have hz : iLt 0 (t.above.length : Int) = false := by rw [h0]; rfl
    simp only [h.f2, h.d2, oS, h.len2, hz, cond_false, v4 T.nils rfl, cond_true]
  . obtain ⟨r, y, r1, r2, r3, y1, y2⟩ := rowc 0 (by omega)
    have hr0 : RowsTo t ([] : List T) := ⟨by simp, fun i hi => by simp at hi⟩
    obtain ⟨a', ha, hb⟩ := two 1 (by omega) [y] 1 rfl (Nat.le_refl _) (hr0.snoc (by simp; omega) y2)
    refine ⟨a', ?_, hb⟩
    apply L15_1_step
    have hz : iLt 0 (t.above.length : Int) = true := by simp [iLt]; omega
    have hnew : newOK ([] : List T).length [V.t y].length 24 = true := rfl
    have hb1 : baseT none 1 T.nils = some [] := rfl
    have hrow : rowNew [] [V.t y] = cellsT [y] := rowNew_one (xs := []) (ys := [y]) OneL.nil (OneL.cons y2.one OneL.nil)
    have vmsl : ∀ g o l, vfits (V.msl 31 g o l none) none = true := fun _ _ _ => rfl
    have hobj : objBd 32 (Go.Apex.Obj.cells 1 38 false (cellsT [y])) = true := objBd_cells _ _ _ _ _
    have hi1 : iAdd IntKind.i64 0 1 = ((1 : Nat) : Int) := by decide
    have hl1 : lenNew ([] : List T) [V.t y] = 1 := rfl
    simp only [Int.ofNat_zero, Int.natCast_zero] at r1
    simp only [h.f2, h.d2, oS, h.len2, hz, cond_true, r1, r2, r3, y1, vfits_one y2.one, hb1, hnew, vmsl, hrow, hobj, hi1, hl1, ha]
 obtain ⟨a', r1, r2⟩ := res
 refine ⟨e', a', w', ?_, r2⟩
 apply fn15
 simp only [h.v4, cond_true, h.f0, deref_str, str?_str, h.f1, h.d1, h.f3, h.d3, oS, elemsT_sl h.e (one_str _), e1, elemsT_sl h.w (one_bool _), w1, vfits_one e2.one, vfits_one w2.one, v4 T.nils rfl, r1]
theorem sameInts_spec {x y : T} {l : List Int} (hx : IsSl (ints l) x) (hy : IsSl (ints l) y) (hl : l.length < 1000000) : fnO acfg 31 [x, y] = some (.bool true) := by
 have key : ∀ i, i <= l.length -> L31_1 x y (i : Int) = some (.bool true) := by
  refine upto_induct ?_ fun i hi ih => ?_
  . apply L31_1_step
    simp only [hx.lenD, oS, iLt_end, cond_false]
  . apply L31_1_step
    have he : ∀ z : Int, iEq z z = true := fun z => by simp [iEq]
    simp only [hx.lenD, oS, iLt_len hi, cond_true, hx.idxD 0 hi, hy.idxD 0 hi, deref_int, int?_int, he, bNot, Bool.not_true, cond_false, iAdd_nat (show i < 1000000 by omega), ih]
 apply fn31
 have he : ∀ z : Int, iEq z z = true := fun z => by simp [iEq]
 simp only [hx.lenD, hy.lenD, oS, he, bNot, Bool.not_true, cond_false]
 exact key 0 (by omega)
theorem sameTable_spec {t : Tbl} {n n' : List UInt8} {e a w e' a' w' : T} (h : IsTbl t n e a w) (h' : IsTbl t n' e' a' w') (hs : Small t) : fnO acfg 20 [tblT n e a w, tblT n' e' a' w'] = some (.bool true) := by
 have hn := h.n
 have hn' := h'.n
 subst hn
 subst hn'
 have ie : ∀ z : Int, iEq z z = true := fun z => by simp [iEq]
 have se : ∀ z : List UInt8, sEq z z = true := fun z => by simp [sEq]
 have be : ∀ z : Bool, bEq z z = true := fun z => by simp [bEq]
 have hsa := hs.a
 have hse := hs.e
 have hsw := hs.w
 have three : ∀ i, i <= t.wrong.length -> L20_3 t.name e a w t.name e' a' w' (i : Int) = some (.bool true) := by
  refine upto_induct ?_ fun i hi ih => ?_
  . apply L20_3_step
    simp only [h.f3, h.d3, oS, h.w.lenD, iLt_end, cond_false]
  . apply L20_3_step
    simp only [h.f3, h.d3, h'.f3, h'.d3, oS, h.w.lenD, iLt_len hi, cond_true, h.w.idxD false hi, h'.w.idxD false hi, deref_bool, bool?_bool, be, bNot, Bool.not_true, cond_false, iAdd_nat (show i < 1000000 by omega), ih]
 have h30 := three 0 (by omega)
 simp only [Int.ofNat_zero, Int.natCast_zero] at h30
 have two : ∀ i, i <= t.above.length -> L20_2 t.name e a w t.name e' a' w' (i : Int) = some (.bool true) := by
  refine upto_induct ?_ fun i hi ih => ?_
  . apply L20_2_step
    simp only [h.f2, h.d2, oS, h.len2, iLt_end, cond_false, h30]
  . apply L20_2_step
    obtain ⟨r, r1, r2, r3⟩ := h.row hi
    obtain ⟨q, q1, q2, q3⟩ := h'.row hi
    simp only [h.f2, h.d2, h'.f2, h'.d2, oS, h.len2, iLt_len hi, cond_true, r1, r2, q1, q2, sameInts_spec r3 q3 (hs.al _ (getD_mem [] hi)), scalar_bool, bool?_bool, bNot, Bool.not_true, cond_false, iAdd_nat (show i < 1000000 by omega), ih]
 have h20 := two 0 (by omega)
 simp only [Int.ofNat_zero, Int.natCast_zero] at h20
 have one : ∀ i, i <= t.elems.length -> L20_1 t.name e a w t.name e' a' w' (i : Int) = some (.bool true) := by
  refine upto_induct ?_ fun i hi ih => ?_
  . apply L20_1_step
    simp only [h.f1, h.d1, oS, h.e.lenD, iLt_end, cond_false, h20]
  . apply L20_1_step
    simp only [h.f1, h.d1, h'.f1, h'.d1, oS, h.e.lenD, iLt_len hi, cond_true, h.e.idxD [] hi, h'.e.idxD [] hi, deref_str, str?_str, se, bNot, Bool.not_true, cond_false, iAdd_nat (show i < 1000000 by omega), ih]
 have h10 := one 0 (by omega)
 simp only [Int.ofNat_zero, Int.natCast_zero] at h10
 apply fn20
 simp only [h.v4, h'.v4, cond_true, h.f0, h'.f0, deref_str, str?_str, oS, se, bNot, Bool.not_true, cond_false, h.f1, h.d1, h'.f1, h'.d1, h.e.lenD, h'.e.lenD, ie, h.f2, h.d2, h'.f2, h'.d2, h.len2, h'.len2, h.f3, h.d3, h'.f3, h'.d3, h.w.lenD, h'.w.lenD, h10]
end Go.Proofs.Try

namespace Go.StepsTo
variable {adj : Nat -> List Nat} {n : Nat}
inductive R (adj : Nat -> List Nat) : Nat -> Nat -> Prop
 | one {a b : Nat} (h : b ∈ adj a) : R adj a b
 | step {a b c : Nat} (h : R adj a b) (h2 : c ∈ adj b) : R adj a c
def falses (l : List Bool) : Nat := (l.filter fun b => !b).length
theorem falses_set : ∀ (l : List Bool) (k : Nat), l[k]? = some false -> falses (l.set k true) + 1 = falses l
 | [], k, h => by simp at h
 | b :: l, 0, h => by
  simp only [List.getElem?_cons_zero, oI] at h
  subst h
  simp [falses]
 | b :: l, k + 1, h => by
  have ih := falses_set l k (by simpa using h)
  unfold falses at ih ⊢
  simp only [List.set_cons_succ, List.filter_cons]
  cases b <;> simp <;> omega
theorem falses_le (l : List Bool) : falses l <= l.length := List.length_filter_le _ _
def has (l : List Bool) (k : Nat) : Bool := l.getD k false
theorem has_set {l : List Bool} {k j : Nat} (hk : k < l.length) : has (l.set k true) j = (decide (j = k) || has l j) := by
 unfold has
 simp only [gD, List.getElem?_set]
 by_cases e : k = j
 . subst e; simp [hk]
 . rw [if_neg e]; simp [Ne.symm e]
theorem has_false {l : List Bool} {k : Nat} (hk : k < l.length) (h : has l k = false) : l[k]? = some false := by
 unfold has at h
 rw [gD, gE hk] at h
 rw [gE hk]
 exact congrArg some h
def bfs1 (adj : Nat -> List Nat) : Nat -> List Bool -> List Nat -> List Bool
 | 0, been, _ => been
 | _ + 1, been, [] => been
 | f + 1, been, k :: todo => if has been k = true then bfs1 adj f been todo else bfs1 adj f (been.set k true) (todo ++ adj k)
structure Inv1 (adj : Nat -> List Nat) (n a : Nat) (been : List Bool) (todo : List Nat) : Prop where
 len : been.length = n
 itd : ∀ k ∈ todo, k < n /\ R adj a k
 ibn : ∀ k, k < n -> has been k = true -> R adj a k
 closed : ∀ k, k < n -> has been k = true -> ∀ c ∈ adj k, has been c = true \/ c ∈ todo
 first : ∀ c ∈ adj a, has been c = true \/ c ∈ todo
theorem has_lt {l : List Bool} {k : Nat} (h : has l k = true) : k < l.length := by
 rcases Nat.lt_or_ge k l.length with h1 | h1
 . exact h1
 . unfold has at h
   rw [gD, List.getElem?_eq_none h1] at h
   cases h
theorem Inv1.done {a : Nat} {been : List Bool} (I : Inv1 adj n a been []) : ∀ k, has been k = true ↔ R adj a k := by
 intro k
 constructor
 . intro h
   exact I.ibn k (by have := has_lt h; rw [I.len] at this; exact this) h
 . intro h
   induction h with
   | one h => exact (I.first _ h).resolve_right (by simp)
   | step h h2 ih => exact (I.closed _ (by have := has_lt ih; rw [I.len] at this; exact this) ih _ h2).resolve_right (by simp)
theorem bfs1_ok {a D : Nat} (hadj : ∀ k, k < n -> ∀ c ∈ adj k, c < n) (hD : ∀ k, (adj k).length <= D) : ∀ (f : Nat) (been : List Bool) (todo : List Nat), Inv1 adj n a been todo -> falses been * (D + 1) + todo.length <= f →
  (bfs1 adj f been todo).length = n /\ ∀ k, has (bfs1 adj f been todo) k = true ↔ R adj a k
 | 0, been, todo, I, hf => by
  have h0 : todo = [] := List.eq_nil_of_length_eq_zero (by omega)
  subst h0
  exact ⟨I.len, I.done⟩
 | f + 1, been, [], I, hf => ⟨I.len, I.done⟩
 | f + 1, been, k :: todo, I, hf => by
  simp only [List.length_cons] at hf
  unfold bfs1
  by_cases hb : has been k = true
  . rw [if_pos hb]
    refine bfs1_ok hadj hD f been todo ⟨I.len, fun j hj => I.itd j (by simp [hj]), I.ibn, fun j h1 h2 c hc => ?_, fun c hc => ?_⟩ (by omega)
    . rcases I.closed j h1 h2 c hc with h | h
      . exact .inl h
      . rcases List.mem_cons.1 h with rfl | h
        . exact .inl hb
        . exact .inr h
    . rcases I.first c hc with h | h
      . exact .inl h
      . rcases List.mem_cons.1 h with rfl | h
        . exact .inl hb
        . exact .inr h
  . rw [if_neg hb]
    obtain ⟨hk, hr⟩ := I.itd k (by simp)
    have hkl : k < been.length := by rw [I.len]; exact hk
    have hfs := falses_set been k (has_false hkl (by simpa using hb))
    refine bfs1_ok hadj hD f (been.set k true) (todo ++ adj k) ⟨by rw [List.length_set]; exact I.len, fun j hj => ?_, fun j h1 h2 => ?_, fun j h1 h2 c hc => ?_, fun c hc => ?_⟩ ?_
    . rcases List.mem_append.1 hj with h | h
      . exact I.itd j (by simp [h])
      . exact ⟨hadj k hk j h, .step hr h⟩
    . rw [has_set hkl] at h2
      by_cases e : j = k
      . subst e; exact hr
      . exact I.ibn j h1 (by simpa [e] using h2)
    . rw [has_set hkl] at h2
      by_cases e : j = k
      . subst e; exact .inr (by simp [hc])
      . rcases I.closed j h1 (by simpa [e] using h2) c hc with h | h
        . exact .inl (by rw [has_set hkl, h]; simp)
        . rcases List.mem_cons.1 h with rfl | h
          . exact .inl (by rw [has_set hkl]; simp)
          . exact .inr (by simp [h])
    . rcases I.first c hc with h | h
      . exact .inl (by rw [has_set hkl, h]; simp)
      . rcases List.mem_cons.1 h with rfl | h
        . exact .inl (by rw [has_set hkl]; simp)
        . exact .inr (by simp [h])
    . have h2 := hD k
      rw [List.length_append]
      have : falses been * (D + 1) = falses (been.set k true) * (D + 1) + (D + 1) := by rw [<- hfs, Nat.succ_mul]
      omega
def push (seen : List Bool) (todo : List Nat) : List Nat -> List Bool × List Nat
 | [] => (seen, todo)
 | k :: l => if has seen k = true then push seen todo l else push (seen.set k true) (todo ++ [k]) l
def bfs2 (adj : Nat -> List Nat) : Nat -> List Bool -> List Nat -> List Bool
 | 0, seen, _ => seen
 | _ + 1, seen, [] => seen
 | f + 1, seen, k :: todo => bfs2 adj f (push seen todo (adj k)).1 (push seen todo (adj k)).2
structure Inv2 (adj : Nat -> List Nat) (n a : Nat) (seen : List Bool) (todo : List Nat) : Prop where
 len : seen.length = n
 itd : ∀ k ∈ todo, k < n /\ (k = a \/ has seen k = true)
 isn : ∀ k, k < n -> has seen k = true -> R adj a k
 closed : ∀ k, k < n -> (k = a \/ has seen k = true) -> k ∈ todo \/ ∀ c ∈ adj k, has seen c = true
theorem push_spec {a : Nat} (ha : a < n) : ∀ (l : List Nat) (seen : List Bool) (todo : List Nat) (P : Nat -> Prop), seen.length = n -> (∀ k ∈ l, k < n /\ R adj a k) -> (∀ k ∈ todo, k < n /\ (k = a \/ has seen k = true)) -> (∀ k, k < n -> has seen k = true -> R adj a k) →
   (∀ k, k < n -> (k = a \/ has seen k = true) -> P k \/ k ∈ todo \/ ∀ c ∈ adj k, has seen c = true) →
   (push seen todo l).1.length = n /\ (∀ k ∈ (push seen todo l).2, k < n /\ (k = a \/ has (push seen todo l).1 k = true)) /\ (∀ k, k < n -> has (push seen todo l).1 k = true -> R adj a k) ∧
   (∀ k, k < n -> (k = a \/ has (push seen todo l).1 k = true) -> P k \/ k ∈ (push seen todo l).2 \/ ∀ c ∈ adj k, has (push seen todo l).1 c = true) /\ (∀ k, has seen k = true -> has (push seen todo l).1 k = true) /\ (∀ k ∈ l, has (push seen todo l).1 k = true) ∧
   falses (push seen todo l).1 + (push seen todo l).2.length = falses seen + todo.length
 | [], seen, todo, P, h1, h2, h3, h4, h5 => ⟨h1, h3, h4, h5, fun _ h => h, fun _ h => (by cases h), rfl⟩
 | k :: l, seen, todo, P, h1, h2, h3, h4, h5 => by
  unfold push
  by_cases hk : has seen k = true
  . rw [if_pos hk]
    obtain ⟨a1, a2, a3, a4, a5, a6, a7⟩ := push_spec ha l seen todo P h1 (fun j hj => h2 j (by simp [hj])) h3 h4 h5
    exact ⟨a1, a2, a3, a4, a5, fun j hj => by
     rcases List.mem_cons.1 hj with rfl | hj
     . exact a5 _ hk
     . exact a6 j hj, a7⟩
  . rw [if_neg hk]
    obtain ⟨hkn, hkr⟩ := h2 k (by simp)
    have hkl : k < seen.length := by rw [h1]; exact hkn
    have hfs := falses_set seen k (has_false hkl (by simpa using hk))
    have mono : ∀ j, has seen j = true -> has (seen.set k true) j = true := fun j h => by rw [has_set hkl, h]; simp
    obtain ⟨a1, a2, a3, a4, a5, a6, a7⟩ := push_spec ha l (seen.set k true) (todo ++ [k]) P (by rw [List.length_set]; exact h1) (fun j hj => h2 j (by simp [hj]))
     (fun j hj => by
      rcases List.mem_append.1 hj with h | h
      . exact ⟨(h3 j h).1, (h3 j h).2.imp id (mono j)⟩
      . have : j = k := by simpa using h
        subst this
        exact ⟨hkn, .inr (by rw [has_set hkl]; simp)⟩)
     (fun j hj h => by
      rw [has_set hkl] at h
      by_cases e : j = k
      . subst e; exact hkr
      . exact h4 j hj (by simpa [e] using h))
     (fun j hj h => by
      by_cases e : j = k
      . subst e; exact .inr (.inl (by simp))
      . rcases h5 j hj (h.imp id fun h => by rw [has_set hkl] at h; simpa [e] using h) with h | h | h
        . exact .inl h
        . exact .inr (.inl (by simp [h]))
        . exact .inr (.inr fun c hc => mono c (h c hc)))
    refine ⟨a1, a2, a3, a4, fun j h => a5 j (mono j h), fun j hj => ?_, ?_⟩
    . rcases List.mem_cons.1 hj with rfl | hj
      . exact a5 _ (by rw [has_set hkl]; simp)
      . exact a6 j hj
    . rw [a7, List.length_append]
      simp only [List.length_cons, List.length_nil]
      omega
theorem bfs2_ok {a : Nat} (ha : a < n) (hadj : ∀ k, k < n -> ∀ c ∈ adj k, c < n) : ∀ (f : Nat) (seen : List Bool) (todo : List Nat), Inv2 adj n a seen todo -> falses seen + todo.length <= f →
  (bfs2 adj f seen todo).length = n /\ ∀ k, has (bfs2 adj f seen todo) k = true ↔ R adj a k := by
 have done : ∀ seen : List Bool, Inv2 adj n a seen [] -> seen.length = n /\ ∀ k, has seen k = true ↔ R adj a k := fun seen I => by
  refine ⟨I.len, fun k => ⟨fun h => I.isn k (by have := has_lt h; rw [I.len] at this; exact this) h, fun h => ?_⟩⟩
  induction h with
  | one h => exact (I.closed a ha (.inl rfl)).resolve_left (by simp) _ h
  | step h h2 ih => exact (I.closed _ (by have := has_lt ih; rw [I.len] at this; exact this) (.inr ih)).resolve_left (by simp) _ h2
 intro f
 induction f with
 | zero =>
  intro seen todo I hf
  have h0 : todo = [] := List.eq_nil_of_length_eq_zero (by omega)
  subst h0
  exact done seen I
 | succ f ih =>
  intro seen todo I hf
  cases todo with
  | nil => exact done seen I
  | cons k todo =>
   obtain ⟨hkn, hka⟩ := I.itd k (by simp)
   have hr : ∀ c ∈ adj k, c < n /\ R adj a c := fun c hc => ⟨hadj k hkn c hc, by
    rcases hka with rfl | h
    . exact .one hc
    . exact .step (I.isn k hkn h) hc⟩
   obtain ⟨a1, a2, a3, a4, a5, a6, a7⟩ := push_spec (adj := adj) (n := n) ha (adj k) seen todo (fun j => j = k) I.len hr (fun j hj => I.itd j (by simp [hj])) I.isn (fun j hj h => by
    rcases I.closed j hj h with h | h
    . rcases List.mem_cons.1 h with rfl | h
      . exact .inl rfl
      . exact .inr (.inl h)
    . exact .inr (.inr h))
   show (bfs2 adj f _ _).length = n /\ _
   refine ih _ _ ⟨a1, a2, a3, fun j hj h => ?_⟩ (by simp only [List.length_cons] at hf; omega)
   rcases a4 j hj h with h | h | h
   . subst h; exact .inr a6
   . exact .inl h
   . exact .inr h
theorem both {a D : Nat} (ha : a < n) (hadj : ∀ k, k < n -> ∀ c ∈ adj k, c < n) (hD : ∀ k, (adj k).length <= D) {f g : Nat} (hf : n * (D + 1) + D <= f) (hg : n + 1 <= g) :
  (bfs1 adj f (List.replicate n false) (adj a)).length = n /\ (bfs2 adj g (List.replicate n false) [a]).length = n ∧
  (∀ k, has (bfs1 adj f (List.replicate n false) (adj a)) k = true ↔ R adj a k) /\ ∀ k, has (bfs2 adj g (List.replicate n false) [a]) k = true ↔ R adj a k := by
 have h0 : ∀ k, has (List.replicate n false) k = false := fun k => by
  unfold has
  rw [gD, List.getElem?_replicate]
  split <;> rfl
 have hfl : falses (List.replicate n false) <= n := by have := falses_le (List.replicate n false); rw [List.length_replicate] at this; exact this
 have h1 := bfs1_ok (a := a) hadj hD f (List.replicate n false) (adj a) ⟨List.length_replicate, fun k hk => ⟨hadj a ha k hk, .one hk⟩, fun k _ h => (by rw [h0] at h; cases h), fun k _ h => (by rw [h0] at h; cases h), fun c hc => .inr hc⟩
  (by have := hD a; have := Nat.mul_le_mul_right (D + 1) hfl; omega)
 have h2 := bfs2_ok ha hadj g (List.replicate n false) [a] ⟨List.length_replicate, fun k hk => (by
   have : k = a := by simpa using hk
   subst this
   exact ⟨ha, .inl rfl⟩), fun k _ h => (by rw [h0] at h; cases h), fun k _ h => by
   rcases h with rfl | h
   . exact .inl (by simp)
   . rw [h0] at h; cases h⟩ (by simp only [List.length_cons, List.length_nil]; omega)
 exact ⟨h1.1, h2.1, h1.2, h2.2⟩
end Go.StepsTo

open Go Go.Apex Go.StepsTo
namespace Go.Proofs.Try
structure Good (t : Tbl) : Prop where
 e1 : 1 <= t.elems.length
 e12 : t.elems.length <= 12
 a : t.above.length = t.elems.length
 w : t.wrong.length = t.elems.length
 lt : ∀ k, k < t.elems.length -> ∀ z ∈ t.above.getD k [], 0 <= z /\ z < t.elems.length
 al : ∀ k, k < t.elems.length -> (t.above.getD k []).length <= 20
theorem mem_getD {α : Type} {l : List α} {z d : α} (h : z ∈ l) : ∃ i, i < l.length /\ l.getD i d = z := by
 obtain ⟨i, hi, he⟩ := List.getElem_of_mem h
 exact ⟨i, hi, by rw [gD, gE hi, he]; rfl⟩
theorem good_of {t : Tbl} (hc : checkB t = true) (ht : thinB t = true) : Good t := by
 simp only [checkB, Bool.and_eq_true, decide_eq_true_eq, List.all_eq_true, mem_upto] at hc
 obtain ⟨⟨⟨⟨⟨⟨h1, h2⟩, h3⟩, h4⟩, h5⟩, h6⟩, h7⟩ := hc
 simp only [thinB, Bool.and_eq_true, decide_eq_true_eq, List.all_eq_true, mem_upto] at ht
 refine ⟨h2, h3, h4, h5, fun k hk z hz => ?_, fun k hk => ht.2 k ⟨by omega, by omega⟩⟩
 have h8 := h7 k ⟨by omega, by omega⟩
 simp only [listB, Bool.and_eq_true, List.all_eq_true, mem_upto, elemB, decide_eq_true_eq] at h8
 obtain ⟨i, hi, he⟩ := mem_getD (d := 0) hz
 have h9 := h8.1 i ⟨by omega, hi⟩
 rw [he] at h9
 exact h9
def adjN (t : Tbl) (k : Nat) : List Nat := (t.above.getD k []).map Int.toNat
abbrev natsT (l : List Nat) : List T := l.map fun k : Nat => T.int .i64 (k : Int)
abbrev boolsT (l : List Bool) : List T := l.map T.bool
section
variable {t : Tbl} (hg : Good t)
include hg
theorem Good.row {k : Nat} (hk : k < t.elems.length) : ints (t.above.getD k []) = natsT (adjN t k) := by
 unfold ints natsT adjN
 rw [List.map_map]
 refine List.map_congr_left fun z hz => ?_
 have := hg.lt k hk z hz
 simp only [Function.comp]
 rw [Int.toNat_of_nonneg this.1]
theorem Good.adj_lt : ∀ k, k < t.elems.length -> ∀ c ∈ adjN t k, c < t.elems.length := fun k hk c hc => by
 obtain ⟨z, hz, rfl⟩ := List.mem_map.1 hc
 have := hg.lt k hk z hz
 omega
theorem Good.adj_len (k : Nat) : (adjN t k).length <= 20 := by
 unfold adjN
 rw [List.length_map]
 by_cases hk : k < t.elems.length
 . exact hg.al k hk
 . have : t.above.length <= k := by have := hg.a; omega
   rw [gD, List.getElem?_eq_none this]
   simp
end
theorem one_nats (l : List Nat) : OneL (natsT l) := OneL.map (fun _ => rfl) l
theorem one_bools (l : List Bool) : OneL (boolsT l) := OneL.map (fun _ => rfl) l
theorem has_at {l : List Bool} {k : Nat} (hk : k < l.length) : (boolsT l)[k]? = some (.bool (has l k)) := by
 unfold has
 rw [List.getElem?_map, gD, gE hk]
 rfl
theorem set_at (l : List Bool) (k : Nat) : (boolsT l).set k (.bool true) = boolsT (l.set k true) := by simp [boolsT, List.map_set]
abbrev ordT (n : List UInt8) (e a w s : T) : T := .agg [.str n, e, a, w, s]
theorem ord_fld {t : Tbl} {n : List UInt8} {e a w s : T} (h : IsTbl t n e a w) : fldT 0 (some 4) (.ptr (ordT n e a w s)) = some (.ptr (tblT n e a w)) := by
 show (if (tblT n e a w).fits (some 4) = true then some (T.ptr (tblT n e a w)) else none) = _
 rw [if_pos h.fits]
theorem app_row {ts : List T} {off : Nat} {td l : List Nat} (h : ts.drop off = natsT td) (hl : off + td.length = ts.length) :
  ∃ off' ts', appOff off (cellsT (natsT l)) = off' /\ appCs (cellsT ts) off (cellsT (natsT l)) = cellsT ts' /\ ts'.drop off' = natsT (td ++ l) /\ off' + (td ++ l).length = ts'.length := by
 cases l with
 | nil => exact ⟨off, ts, rfl, rfl, by simpa using h, by simpa using hl⟩
 | cons c l =>
  refine ⟨0, ts.drop off ++ natsT (c :: l), rfl, appCs_one (one_nats _) (by simp), ?_, ?_⟩
  . rw [h, List.drop_zero, <- List.map_append]
  . rw [h, <- List.map_append, List.length_map]
    omega
theorem appLen_cells (len : Nat) (l : List Nat) : appLen len (cellsT (natsT l)) = len + l.length := by simp [appLen]
theorem iLt_pos (k : Nat) : iLt 0 (nInt (k + 1)) = true := by unfold iLt nInt; exact decide_eq_true (by omega)
theorem rowIn_lt {k n : Nat} (h : k < n) : rowIn (k : Int) n = true := decide_eq_true (by omega)
theorem rowOff_1 (off k : Nat) : rowOff off (k : Int) 1 = off + k := by simp [rowOff]
theorem rowSetOK_lt {cs : List T} {k : Nat} (h : k < cs.length) : rowSetOK (cellsT cs) (0 + k) 1 = true := decide_eq_true (by rw [List.length_map]; omega)
theorem from_loop {t : Tbl} (hg : Good t) {n : List UInt8} {e a w s : T} (h : IsTbl t n e a w) : ∀ (f : Nat) (been : List Bool) (td : List Nat) (g g2 off : Nat) (ts : List T),
  been.length = t.elems.length -> (∀ k ∈ td, k < t.elems.length) -> falses been * 21 + td.length <= f -> f < 1000000 -> ts.drop off = natsT td -> off + td.length = ts.length →
  R91_2 (.ptr (ordT n e a w s)) g 0 t.elems.length g2 off td.length g (cellsT (boolsT been)) g2 (cellsT ts) =
   some (.tup [.nili, .int .i64 4, .int .i64 0, .int .i64 (t.elems.length : Int), .nils, .tup (boolsT (bfs1 (adjN t) f been td))]) := by
 have fin : ∀ (been : List Bool) (g g2 off : Nat) (ts : List T), R91_2 (.ptr (ordT n e a w s)) g 0 t.elems.length g2 off 0 g (cellsT (boolsT been)) g2 (cellsT ts) =
   some (.tup [.nili, .int .i64 4, .int .i64 0, .int .i64 (t.elems.length : Int), .nils, .tup (boolsT been)]) := fun been g g2 off ts => by
  apply R91_2_step
  have h0 : iLt 0 (nInt 0) = false := rfl
  simp only [h0, cond_false, Nat.beq_refl, cond_true, allT_cells, oS]
  rfl
 intro f
 induction f with
 | zero =>
  intro been td g g2 off ts hb htd hf hf2 hts hlen
  have : td = [] := List.eq_nil_of_length_eq_zero (by omega)
  subst this
  exact fin been g g2 off ts
 | succ f ih =>
  intro been td g g2 off ts hb htd hf hf2 hts hlen
  cases td with
  | nil => exact fin been g g2 off ts
  | cons k td =>
   have hk := htd k (by simp)
   have hkl : k < been.length := by omega
   simp only [List.length_cons] at hf hlen ⊢
   have hoff : ts[off + 0]? = some (.int .i64 (k : Int)) := by
    have : (ts.drop off)[0]? = some (.int .i64 (k : Int)) := by rw [hts]; rfl
    rwa [List.getElem?_drop] at this
   have htail : ts.drop (off + 1) = natsT td := by
    rw [<- List.drop_drop, hts]
    rfl
   have hsub : subOK 1 (Int.ofNat (td.length + 1)) (td.length + 1) = true := decide_eq_true (by simp only [Int.ofNat_eq_natCast]; omega)
   have hrl : rowLen 1 (Int.ofNat (td.length + 1)) = td.length := by unfold rowLen; simp
   have ro1 : rowOff off 1 1 = off + 1 := by simp [rowOff]
   have ro0 : rowOff off 0 1 = off + 0 := by simp [rowOff]
   have ri0 : rowIn 0 (td.length + 1) = true := decide_eq_true (by omega)
   apply R91_2_step
   by_cases hbk : has been k = true
   . have := ih been td g g2 (off + 1) ts hb (fun j hj => htd j (by simp [hj])) (by omega) (by omega) htail (by omega)
     simp only [iLt_pos, cond_true, ri0, natEq_self, ro0, rowS_cells hoff, oS, int?_int, hsub, rowIn_lt hk, rowOff_1, rowS_cells (show (boolsT been)[0 + k]? = _ by rw [Nat.zero_add]; exact has_at hkl),
      bool?_bool, hbk, bNot, Bool.not_true, cond_false, objBd_cells, ro1, hrl, this, bfs1, if_true]
   . obtain ⟨r, r1, r2, r3⟩ := h.row (show k < t.above.length by rw [hg.a]; exact hk)
     rw [hg.row hk] at r3
     obtain ⟨off', ts', p1, p2, p3, p4⟩ := app_row (l := adjN t k) htail (by omega)
     have hfs := falses_set been k (has_false hkl (by simpa using hbk))
     have hal := hg.adj_len k
     have := ih (been.set k true) (td ++ adjN t k) g (appGen g2 (cellsT (natsT (adjN t k)))) off' ts' (by rw [List.length_set]; exact hb) (fun j hj => by
      rcases List.mem_append.1 hj with hj | hj
      . exact htd j (by simp [hj])
      . exact hg.adj_lt k hk j hj) (by rw [List.length_append]; omega) (by omega) p3 p4
     have hok : appOK (cellsT ts) (off + 1) td.length 1 (cellsT (natsT (adjN t k))) 8 = true := appOK_row (by omega) (by rw [List.length_map, maxB]; omega)
     have hb2 : has been k = false := by simpa using hbk
     rw [List.length_append] at this
     have hset : rowSet (cellsT (boolsT been)) (0 + k) [V.t (T.bool true)] = cellsT (boolsT (been.set k true)) := by
      rw [rowSet_cells (by rw [List.length_map]; omega), Nat.zero_add, set_at]
     have hsok : rowSetOK (cellsT (boolsT been)) (0 + k) [V.t (T.bool true)].length = true := rowSetOK_lt (by rw [List.length_map]; exact hkl)
     have hp : isPtrT (.ptr (ordT n e a w s)) = true := rfl
     simp only [iLt_pos, cond_true, ri0, natEq_self, ro0, rowS_cells hoff, oS, int?_int, hsub, rowIn_lt hk, rowOff_1, rowS_cells (show (boolsT been)[0 + k]? = _ by rw [Nat.zero_add]; exact has_at hkl),
      bool?_bool, hb2, bNot, Bool.not_false, hsok, hp, ord_fld h, h.f2, h.d2, r1, r2, elemsT_sl r3 (one_nats _), ro1, hrl, hok, hset, p1, p2, objBd_cells, appLen_cells, this, bfs1, if_neg, Bool.false_eq_true, if_false]
theorem zerosV_bools (n : Nat) : zerosV (n : Int) (.bool false) = cellsT (boolsT (List.replicate n false)) := by
 unfold zerosV zeros
 rw [Int.toNat_natCast]
 induction n with
 | zero => rfl
 | succ n ih => simp only [List.replicate_succ, List.flatten_cons, ih, List.map_cons]; rfl
theorem rowOf_nil : rowO acfg 108 [.nils] = some (.tup [.nilp, .nils]) := by
 apply row108
 rfl
theorem rowOf_sl (ex : Bool) (l : List Nat) (hl : l.length <= 20) : rowO acfg 108 [.sl ex 1 (natsT l)] = some (.tup [.nili, .int .i64 3, .int .i64 0, .int .i64 (l.length : Int), .nils, .tup (natsT l)]) := by
 apply row108
 have h1 : nilT (D.slice 3) (.sl ex 1 (natsT l)) = some false := rfl
 have h2 : appOK [] 0 0 1 (cellsT (natsT l)) 8 = true := appOK_row (cs := []) rfl (by rw [List.length_map, maxB]; omega)
 have h3 : elemsT none (.sl ex 1 (natsT l)) = some (cellsT (natsT l)) := elemsT_sl (.sl ex) (one_nats l)
 have h4 : appCs [] 0 (cellsT (natsT l)) = cellsT (natsT l) := by
  cases l with
  | nil => rfl
  | cons c l => exact appCs_one (cs := []) (off := 0) (one_nats _) (by simp)
 have h5 : appOff 0 (cellsT (natsT l)) = 0 := by cases l <;> rfl
 have h6 : appLen 0 (cellsT (natsT l)) = l.length := by rw [appLen_cells]; simp
 simp only [h1, oS, cond_false, h3, cond_true, h2, Nat.beq_refl, h4, allT_cells, h5, h6]
 rfl
theorem from_spec {t : Tbl} (hg : Good t) {n : List UInt8} {e a w s : T} (h : IsTbl t n e a w) {k : Nat} (hk : k < t.elems.length) :
  rowO acfg 91 [.ptr (ordT n e a w s), .int .i64 (k : Int)] =
   some (.tup [.nili, .int .i64 4, .int .i64 0, .int .i64 (t.elems.length : Int), .nils, .tup (boolsT (bfs1 (adjN t) 1000 (List.replicate t.elems.length false) (adjN t k)))]) := by
 apply row91
 obtain ⟨r, r1, r2, r3⟩ := h.row (show k < t.above.length by rw [hg.a]; exact hk)
 rw [hg.row hk] at r3
 have hp : isPtrT (.ptr (ordT n e a w s)) = true := rfl
 have h12 := hg.e12
 have hmk : makeOK (t.elems.length : Int) (t.elems.length : Int) 1 = true := decide_eq_true (by rw [show maxBytes = 140737488355328 from rfl]; omega)
 have hfl : falses (List.replicate t.elems.length false) <= t.elems.length := by have := falses_le (List.replicate t.elems.length false); rw [List.length_replicate] at this; exact this
 have hnat : natOf (t.elems.length : Int) = t.elems.length := Int.toNat_natCast _
 simp only [hp, cond_true, ord_fld h, h.f1, h.d1, oS, h.e.lenD, hmk, h.f2, h.d2, r1, r2, zerosV_bools, objBd_cells, hnat]
 have hal := hg.adj_len k
 cases r3 with
 | nil h0 =>
  obtain ⟨hh, hc⟩ := row_tree rowOf_nil
  have h00 : adjN t k = [] := List.map_eq_nil_iff.1 h0
  have hz : iLt 0 0 = false := rfl
  rw [hc, h00]
  simp only [oS, treeV, cond_true, freshTree, Bool.true_or, if_true]
  apply R91_1_step
  simp only [lenT, oS, hz, cond_false, Nat.beq_refl, cond_true, allT_cells]
  rfl
 | sl ex =>
  obtain ⟨p, p1, p2, p3⟩ := row_fresh (sh := none) (rowOf_sl ex (adjN t k) hal)
  rw [p1]
  simp only [oS, p2, cond_false, p3 true (.inl rfl)]
  have := from_loop hg h (s := s) 1000 (List.replicate t.elems.length false) (adjN t k) 0 1 0 (natsT (adjN t k)) List.length_replicate (hg.adj_lt k hk) (by omega) (by omega) rfl (by simp)
  simp only [objBd_cells, cond_true, this]
end Go.Proofs.Try

open Go Go.Apex Go.StepsTo
namespace Go.Proofs.Try
theorem push_len : ∀ (l : List Nat) (seen : List Bool) (td : List Nat), (push seen td l).1.length = seen.length
 | [], _, _ => rfl
 | k :: l, seen, td => by
  unfold push
  split
  . exact push_len l seen td
  . rw [push_len l, List.length_set]
theorem push_count : ∀ (l : List Nat) (seen : List Bool) (td : List Nat), (∀ k ∈ l, k < seen.length) -> falses (push seen td l).1 + (push seen td l).2.length = falses seen + td.length
 | [], _, _, _ => rfl
 | k :: l, seen, td, h => by
  unfold push
  split
  . exact push_count l seen td fun j hj => h j (by simp [hj])
  . rename_i hk
    rw [push_count l _ _ fun j hj => by rw [List.length_set]; exact h j (by simp [hj])]
    have := falses_set seen k (has_false (h k (by simp)) (by simpa using hk))
    rw [List.length_append]
    simp only [List.length_cons, List.length_nil]
    omega
theorem push_lt {n : Nat} : ∀ (l : List Nat) (seen : List Bool) (td : List Nat), (∀ k ∈ l, k < n) -> (∀ k ∈ td, k < n) -> ∀ k ∈ (push seen td l).2, k < n
 | [], _, _, _, h => h
 | k :: l, seen, td, h, h2 => by
  unfold push
  split
  . exact push_lt l seen td (fun j hj => h j (by simp [hj])) h2
  . refine push_lt l _ _ (fun j hj => h j (by simp [hj])) fun j hj => ?_
    rcases List.mem_append.1 hj with hj | hj
    . exact h2 j hj
    . have : j = k := by simpa using hj
      subst this
      exact h j (by simp)
theorem app_one {ts : List T} {off : Nat} {td : List Nat} (h : ts.drop off = natsT td) (hl : off + td.length = ts.length) (k : Nat) :
  appCs (cellsT ts) off [V.t (.int .i64 (k : Int))] = cellsT (natsT (td ++ [k])) := by
 have := appCs_one (cs := ts) (ys := natsT [k]) (off := off) (one_nats _) (by simp)
 rw [h, <- List.map_append] at this
 exact this
section
variable {t : Tbl} (hg : Good t) {n : List UInt8} {e a w : T} (h : IsTbl t n e a w)
include hg h
theorem steps_in5 {b : Int} {r : T} {x : T} {l : List Nat} (hx : IsSl (natsT l) x) (hl : ∀ k ∈ l, k < t.elems.length) (hl20 : l.length <= 20) : ∀ (rest : List Nat) (i : Nat) (seen : List Bool) (td : List Nat) (g g2 off : Nat) (ts : List T),
  l.drop i = rest -> seen.length = t.elems.length -> falses seen + td.length < 1000000 -> ts.drop off = natsT td -> off + td.length = ts.length →
  (∀ (g2' off' : Nat) (ts' : List T), ts'.drop off' = natsT (push seen td rest).2 -> off' + (push seen td rest).2.length = ts'.length →
   L85_4 b n e a w g 0 t.elems.length g2' off' (push seen td rest).2.length g (cellsT (boolsT (push seen td rest).1)) g2' (cellsT ts') = some r) →
  L85_5 b n e a w g 0 t.elems.length g2 off td.length x (i : Int) g (cellsT (boolsT seen)) g2 (cellsT ts) = some r := by
 intro rest
 induction rest with
 | nil =>
  intro i seen td g g2 off ts hd hs hc hts hlen hk
  have hi : l.length <= i := List.drop_eq_nil_iff.1 hd
  have hz : iLt (i : Int) (l.length : Int) = false := decide_eq_false (by omega)
  apply L85_5_step
  simp only [hx.lenD, oS, hz, cond_false, objBd_cells, cond_true]
  exact hk g2 off ts hts hlen
 | cons k rest ih =>
  intro i seen td g g2 off ts hd hs hc hts hlen hk
  have hi : i < l.length := by
   rcases Nat.lt_or_ge i l.length with h1 | h1
   . exact h1
   . rw [List.drop_eq_nil_iff.2 h1] at hd; cases hd
  rw [List.drop_eq_getElem_cons hi] at hd
  obtain ⟨hd1, hd2⟩ := List.cons.inj hd
  have hgd : l.getD i 0 = k := by rw [gD, gE hi, hd1]; rfl
  have hkn : k < t.elems.length := hl k (by rw [<- hd1]; exact List.getElem_mem hi)
  have hks : k < seen.length := by omega
  apply L85_5_step
  have hat : rowS none (cellsT (boolsT seen)) (0 + k) = some (.bool (has seen k)) := rowS_cells (by rw [Nat.zero_add]; exact has_at hks)
  by_cases hbk : has seen k = true
  . have hpk : push seen td (k :: rest) = push seen td rest := by rw [push, if_pos hbk]
    rw [hpk] at hk
    have := ih (i + 1) seen td g g2 off ts hd2 hs hc hts hlen hk
    simp only [hx.lenD, oS, iLt_len hi, cond_true, hx.idxD 0 hi, deref_int, int?_int, hgd, rowIn_lt hkn, natEq_self, rowOff_1, hat, bool?_bool, hbk, bNot, Bool.not_true, cond_false, objBd_cells, iAdd_nat (show i < 1000000 by omega), this]
  . have hb2 : has seen k = false := by simpa using hbk
    have hfs := falses_set seen k (has_false hks hb2)
    have hpk : push seen td (k :: rest) = push (seen.set k true) (td ++ [k]) rest := by rw [push, if_neg hbk]
    rw [hpk] at hk
    have := ih (i + 1) (seen.set k true) (td ++ [k]) g (g2 + 1) 0 (natsT (td ++ [k])) hd2 (by rw [List.length_set]; exact hs) (by rw [List.length_append]; simp only [List.length_cons, List.length_nil]; omega) rfl (by simp) hk
    rw [List.length_append] at this
    have hok : appOK (cellsT ts) off td.length 1 [V.t (T.int .i64 (k : Int))] 8 = true := appOK_row (ys := [T.int .i64 (k : Int)]) hlen (by simp only [List.length_cons, List.length_nil, maxB]; omega)
    have hset : rowSet (cellsT (boolsT seen)) (0 + k) [V.t (T.bool true)] = cellsT (boolsT (seen.set k true)) := by
     rw [rowSet_cells (by rw [List.length_map]; omega), Nat.zero_add, set_at]
    have hsok : rowSetOK (cellsT (boolsT seen)) (0 + k) [V.t (T.bool true)].length = true := rowSetOK_lt (by rw [List.length_map]; exact hks)
    have hl1 : td.length + [k].length = td.length + 1 := rfl
    rw [hl1] at this
    simp only [hx.lenD, oS, iLt_len hi, cond_true, hx.idxD 0 hi, deref_int, int?_int, hgd, rowIn_lt hkn, natEq_self, rowOff_1, hat, bool?_bool, hb2, bNot, Bool.not_false, hsok, hok, hset, app_one hts hlen, objBd_cells, appGen_one, appLen_one,
     iAdd_nat (show i < 1000000 by omega), this]
theorem steps_in3 {b : Int} {r : T} {x : T} {l : List Nat} (hx : IsSl (natsT l) x) (hl : ∀ k ∈ l, k < t.elems.length) (hl20 : l.length <= 20) : ∀ (rest : List Nat) (i : Nat) (seen : List Bool) (td : List Nat) (g g2 off : Nat) (ts : List T),
  l.drop i = rest -> seen.length = t.elems.length -> falses seen + td.length < 1000000 -> ts.drop off = natsT td -> off + td.length = ts.length →
  (∀ (g2' off' : Nat) (ts' : List T), ts'.drop off' = natsT (push seen td rest).2 -> off' + (push seen td rest).2.length = ts'.length →
   L85_4 b n e a w g 0 t.elems.length g2' off' (push seen td rest).2.length g (cellsT (boolsT (push seen td rest).1)) g2' (cellsT ts') = some r) →
  L85_3 b n e a w g 0 t.elems.length g2 off td.length x (i : Int) g (cellsT (boolsT seen)) g2 (cellsT ts) = some r := by
 intro rest
 induction rest with
 | nil =>
  intro i seen td g g2 off ts hd hs hc hts hlen hk
  have hi : l.length <= i := List.drop_eq_nil_iff.1 hd
  have hz : iLt (i : Int) (l.length : Int) = false := decide_eq_false (by omega)
  apply L85_3_step
  simp only [hx.lenD, oS, hz, cond_false, objBd_cells, cond_true]
  exact hk g2 off ts hts hlen
 | cons k rest ih =>
  intro i seen td g g2 off ts hd hs hc hts hlen hk
  have hi : i < l.length := by
   rcases Nat.lt_or_ge i l.length with h1 | h1
   . exact h1
   . rw [List.drop_eq_nil_iff.2 h1] at hd; cases hd
  rw [List.drop_eq_getElem_cons hi] at hd
  obtain ⟨hd1, hd2⟩ := List.cons.inj hd
  have hgd : l.getD i 0 = k := by rw [gD, gE hi, hd1]; rfl
  have hkn : k < t.elems.length := hl k (by rw [<- hd1]; exact List.getElem_mem hi)
  have hks : k < seen.length := by omega
  apply L85_3_step
  have hat : rowS none (cellsT (boolsT seen)) (0 + k) = some (.bool (has seen k)) := rowS_cells (by rw [Nat.zero_add]; exact has_at hks)
  by_cases hbk : has seen k = true
  . have hpk : push seen td (k :: rest) = push seen td rest := by rw [push, if_pos hbk]
    rw [hpk] at hk
    have := ih (i + 1) seen td g g2 off ts hd2 hs hc hts hlen hk
    simp only [hx.lenD, oS, iLt_len hi, cond_true, hx.idxD 0 hi, deref_int, int?_int, hgd, rowIn_lt hkn, natEq_self, rowOff_1, hat, bool?_bool, hbk, bNot, Bool.not_true, cond_false, objBd_cells, iAdd_nat (show i < 1000000 by omega), this]
  . have hb2 : has seen k = false := by simpa using hbk
    have hfs := falses_set seen k (has_false hks hb2)
    have hpk : push seen td (k :: rest) = push (seen.set k true) (td ++ [k]) rest := by rw [push, if_neg hbk]
    rw [hpk] at hk
    have := ih (i + 1) (seen.set k true) (td ++ [k]) g (g2 + 1) 0 (natsT (td ++ [k])) hd2 (by rw [List.length_set]; exact hs) (by rw [List.length_append]; simp only [List.length_cons, List.length_nil]; omega) rfl (by simp) hk
    rw [List.length_append] at this
    have hok : appOK (cellsT ts) off td.length 1 [V.t (T.int .i64 (k : Int))] 8 = true := appOK_row (ys := [T.int .i64 (k : Int)]) hlen (by simp only [List.length_cons, List.length_nil, maxB]; omega)
    have hset : rowSet (cellsT (boolsT seen)) (0 + k) [V.t (T.bool true)] = cellsT (boolsT (seen.set k true)) := by
     rw [rowSet_cells (by rw [List.length_map]; omega), Nat.zero_add, set_at]
    have hsok : rowSetOK (cellsT (boolsT seen)) (0 + k) [V.t (T.bool true)].length = true := rowSetOK_lt (by rw [List.length_map]; exact hks)
    have hl1 : td.length + [k].length = td.length + 1 := rfl
    rw [hl1] at this
    simp only [hx.lenD, oS, iLt_len hi, cond_true, hx.idxD 0 hi, deref_int, int?_int, hgd, rowIn_lt hkn, natEq_self, rowOff_1, hat, bool?_bool, hb2, bNot, Bool.not_false, hsok, hok, hset, app_one hts hlen, objBd_cells, appGen_one, appLen_one,
     iAdd_nat (show i < 1000000 by omega), this]
theorem steps_out {b : Nat} (hb : b < t.elems.length) : ∀ (f : Nat) (seen : List Bool) (td : List Nat) (g g2 off : Nat) (ts : List T), seen.length = t.elems.length -> (∀ k ∈ td, k < t.elems.length) -> falses seen + td.length <= f -> f < 1000000 →
  ts.drop off = natsT td -> off + td.length = ts.length →
  L85_4 (b : Int) n e a w g 0 t.elems.length g2 off td.length g (cellsT (boolsT seen)) g2 (cellsT ts) = some (.bool (has (bfs2 (adjN t) f seen td) b)) := by
 have fin : ∀ (seen : List Bool) (g g2 off : Nat) (ts : List T), seen.length = t.elems.length -> L85_4 (b : Int) n e a w g 0 t.elems.length g2 off 0 g (cellsT (boolsT seen)) g2 (cellsT ts) = some (.bool (has seen b)) := fun seen g g2 off ts hs => by
  apply L85_4_step
  have h0 : iLt 0 (nInt 0) = false := rfl
  have hat : rowS none (cellsT (boolsT seen)) (0 + b) = some (.bool (has seen b)) := rowS_cells (by rw [Nat.zero_add]; exact has_at (by omega))
  simp only [h0, cond_false, rowIn_lt hb, natEq_self, cond_true, rowOff_1, hat, oS, bool?_bool]
 intro f
 induction f with
 | zero =>
  intro seen td g g2 off ts hs htd hf hf2 hts hlen
  have : td = [] := List.eq_nil_of_length_eq_zero (by omega)
  subst this
  exact fin seen g g2 off ts hs
 | succ f ih =>
  intro seen td g g2 off ts hs htd hf hf2 hts hlen
  cases td with
  | nil => exact fin seen g g2 off ts hs
  | cons k td =>
   have hk := htd k (by simp)
   simp only [List.length_cons] at hf hlen ⊢
   have hoff : ts[off + 0]? = some (.int .i64 (k : Int)) := by
    have : (ts.drop off)[0]? = some (.int .i64 (k : Int)) := by rw [hts]; rfl
    rwa [List.getElem?_drop] at this
   have htail : ts.drop (off + 1) = natsT td := by
    rw [<- List.drop_drop, hts]
    rfl
   have hsub : subOK 1 (Int.ofNat (td.length + 1)) (td.length + 1) = true := decide_eq_true (by simp only [Int.ofNat_eq_natCast]; omega)
   have hrl : rowLen 1 (Int.ofNat (td.length + 1)) = td.length := by unfold rowLen; simp
   have ro1 : rowOff off 1 1 = off + 1 := by simp [rowOff]
   have ro0 : rowOff off 0 1 = off + 0 := by simp [rowOff]
   have ri0 : rowIn 0 (td.length + 1) = true := decide_eq_true (by omega)
   obtain ⟨r, r1, r2, r3⟩ := h.row (show k < t.above.length by rw [hg.a]; exact hk)
   rw [hg.row hk] at r3
   have hlt := hg.adj_lt k hk
   have hpc := push_count (adjN t k) seen td (fun j hj => by have := hlt j hj; omega)
   have := steps_in5 hg h (b := (b : Int)) (r := .bool (has (bfs2 (adjN t) (f + 1) seen (k :: td)) b)) r3 hlt (hg.adj_len k) (adjN t k) 0 seen td g g2 (off + 1) ts rfl hs (by omega) htail (by omega) fun g2' off' ts' q1 q2 =>
    ih _ _ g g2' off' ts' (by rw [push_len]; exact hs) (push_lt _ _ _ hlt fun j hj => htd j (by simp [hj])) (by omega) (by omega) q1 q2
   simp only [Int.ofNat_zero, Int.natCast_zero] at this
   apply L85_4_step
   simp only [iLt_pos, cond_true, h.f2, h.d2, oS, ri0, natEq_self, ro0, rowS_cells hoff, int?_int, r1, r2, hsub, objBd_cells, ro1, hrl, this]
theorem steps_spec {c b : Nat} (hc : c < t.elems.length) (hb : b < t.elems.length) : fnO acfg 85 [tblT n e a w, .int .i64 (c : Int), .int .i64 (b : Int)] = some (.bool (has (bfs2 (adjN t) 1000 (List.replicate t.elems.length false) [c]) b)) := by
 apply fn85
 have h12 := hg.e12
 have hmk : makeOK (t.elems.length : Int) (t.elems.length : Int) 1 = true := decide_eq_true (by rw [show maxBytes = 140737488355328 from rfl]; omega)
 have hfl : falses (List.replicate t.elems.length false) <= t.elems.length := by have := falses_le (List.replicate t.elems.length false); rw [List.length_replicate] at this; exact this
 have hnat : natOf (t.elems.length : Int) = t.elems.length := Int.toNat_natCast _
 simp only [h.v4, cond_true, h.f1, h.d1, oS, h.e.lenD, hmk, zerosV_bools, objBd_cells, hnat]
 obtain ⟨r, r1, r2, r3⟩ := h.row (show c < t.above.length by rw [hg.a]; exact hc)
 rw [hg.row hc] at r3
 have hlt := hg.adj_lt c hc
 have hal := hg.adj_len c
 have hrep : (List.replicate t.elems.length false).length = t.elems.length := List.length_replicate
 generalize hS : List.replicate t.elems.length false = S at *
 have hno : ∀ k, k < S.length -> has S k = false := fun k hk => by
  subst hS
  unfold has
  rw [gD, List.getElem?_replicate]
  split <;> rfl
 have hsub : subT 1 (.sl true 1 [.int .i64 (c : Int)]) (some 1) none none = some (.sl true 1 []) := rfl
 have hid : idxT 1 (.sl true 1 [.int .i64 (c : Int)]) 0 = some (.ptr (.int .i64 (c : Int))) := rfl
 have h01 : iLt 0 1 = true := rfl
 have h00 : iLt 0 0 = false := rfl
 have hlen1 : lenT (.sl true 1 [.int .i64 (c : Int)]) = some 1 := rfl
 have hlen0 : lenT (.sl true 1 []) = some 0 := rfl
 apply L85_1_step
 simp only [hlen1, oS, h01, cond_true, h.f2, h.d2, hid, deref_int, int?_int, r1, r2, hsub, objBd_cells]
 apply L85_2_step
 cases hl : adjN t c with
 | nil =>
  rw [hl] at r3
  have hL : lenT r = some 0 := r3.len
  simp only [hL, oS, h00, cond_false, objBd_cells, cond_true]
  apply L85_1_step
  have hat : rowS none (cellsT (boolsT S)) (0 + b) = some (.bool (has S b)) := rowS_cells (by rw [Nat.zero_add]; exact has_at (by omega))
  have e2 : bfs2 (adjN t) 1000 S [c] = S := by
   show bfs2 (adjN t) 999 (push S [] (adjN t c)).1 (push S [] (adjN t c)).2 = S
   rw [hl]
   rfl
  simp only [hlen0, oS, h00, cond_false, rowIn_lt hb, natEq_self, cond_true, rowOff_1, hat, bool?_bool, e2]
 | cons k rest =>
  rw [hl] at r3 hlt hal
  have hkn : k < t.elems.length := hlt k (by simp)
  have hks : k < S.length := by omega
  have hb2 := hno k hks
  have hpk : push S [] (k :: rest) = push (S.set k true) ([] ++ [k]) rest := by rw [push, if_neg (by rw [hb2]; simp)]
  have hfs := falses_set S k (has_false hks hb2)
  have hi : 0 < (k :: rest).length := by simp
  have hpc := push_count rest (S.set k true) [k] (fun j hj => by rw [List.length_set]; have := hlt j (by simp [hj]); omega)
  simp only [List.length_cons, List.length_nil] at hpc
  have := steps_in3 hg h (b := (b : Int)) (r := .bool (has (bfs2 (adjN t) 1000 S [c]) b)) r3 hlt hal rest 1 (S.set k true) [k] 0 1 0 (natsT [k]) rfl (by rw [List.length_set]; exact hrep) (by simp only [List.length_cons, List.length_nil]; omega) rfl rfl fun g2' off' ts' q1 q2 => by
    have e2 : bfs2 (adjN t) 1000 S [c] = bfs2 (adjN t) 999 (push (S.set k true) [k] rest).1 (push (S.set k true) [k] rest).2 := by
     show bfs2 (adjN t) 999 (push S [] (adjN t c)).1 (push S [] (adjN t c)).2 = _
     rw [hl, hpk]
     rfl
    rw [e2]
    exact steps_out hg h hb 999 _ _ 0 g2' off' ts' (by rw [push_len, List.length_set]; exact hrep) (push_lt _ _ _ (fun j hj => hlt j (by simp [hj])) (by simpa using hkn)) (by omega) (by omega) q1 q2
  have hidx := r3.idxD (α := Nat) 0 hi
  simp only [Int.ofNat_zero, Int.natCast_zero] at hidx
  have hgd : (k :: rest).getD 0 0 = k := rfl
  rw [hgd] at hidx
  have hz : iLt 0 ((k :: rest).length : Int) = true := decide_eq_true (by simp only [List.length_cons]; omega)
  have hat : rowS none (cellsT (boolsT S)) (0 + k) = some (.bool (has S k)) := rowS_cells (by rw [Nat.zero_add]; exact has_at hks)
  have hset : rowSet (cellsT (boolsT S)) (0 + k) [V.t (T.bool true)] = cellsT (boolsT (S.set k true)) := by
   rw [rowSet_cells (by rw [List.length_map]; omega), Nat.zero_add, set_at]
  have hsok : rowSetOK (cellsT (boolsT S)) (0 + k) [V.t (T.bool true)].length = true := rowSetOK_lt (by rw [List.length_map]; exact hks)
  have hbase : baseT none 1 (.sl true 1 []) = some [] := rfl
  have hnew : newOK ([] : List T).length [V.t (T.int .i64 (k : Int))].length 8 = true := rfl
  have hrow : rowNew [] [V.t (T.int .i64 (k : Int))] = cellsT (natsT [k]) := rowNew_one (xs := []) (ys := natsT [k]) OneL.nil (one_nats _)
  have hln : lenNew ([] : List T) [V.t (T.int .i64 (k : Int))] = 1 := rfl
  have hadd : iAdd .i64 0 1 = ((1 : Nat) : Int) := by decide
  simp only [r3.lenD, oS, hz, cond_true, hidx, deref_int, int?_int, rowIn_lt hkn, natEq_self, rowOff_1, hat, bool?_bool, hb2, bNot, Bool.not_false, hsok, hset, hbase, hnew, hrow, hln, hadd, objBd_cells]
  exact this
theorem both_spec {c : Nat} (hc : c < t.elems.length) (b : Nat) : has (bfs2 (adjN t) 1000 (List.replicate t.elems.length false) [c]) b = has (bfs1 (adjN t) 1000 (List.replicate t.elems.length false) (adjN t c)) b := by
 have h12 := hg.e12
 obtain ⟨_, _, h1, h2⟩ := both (n := t.elems.length) (adj := adjN t) (a := c) (D := 20) hc hg.adj_lt hg.adj_len (f := 1000) (g := 1000) (by omega) (by omega)
 rw [Bool.eq_iff_iff, h1, h2]
end
def belowB (t : Tbl) (c b : Nat) : Bool := has (bfs1 (adjN t) 1000 (List.replicate t.elems.length false) (adjN t c)) b
def leB (t : Tbl) (c b : Nat) : Bool := decide (c = b) || belowB t c b
theorem isBelow_ref {t : Tbl} (hg : Good t) {n : List UInt8} {e a w : T} (h : IsTbl t n e a w) {c b : Nat} (hc : c < t.elems.length) (hb : b < t.elems.length) :
  fnO acfg 79 [tblT n e a w, .int .i64 (c : Int), .int .i64 (b : Int)] = some (.bool (leB t c b)) := by
 apply fn79
 by_cases hcb : c = b
 . subst hcb
   have he : iEq (c : Int) (c : Int) = true := by simp [iEq]
   simp only [h.v4, cond_true, he, leB, decide_true, Bool.true_or]
 . have he : iEq (c : Int) (b : Int) = false := by simp [iEq]; omega
   simp only [h.v4, cond_true, he, cond_false, h.d4, oS, agg4, nth0, nth1, nth2, nth3, str?_str, steps_spec hg h hc hb, scalar_bool, bool?_bool, leB, hcb, decide_false, Bool.false_or, both_spec hg h hc, belowB]
end Go.Proofs.Try

open Go Go.Apex Go.StepsTo
namespace Go.Proofs.Try
def reach (t : Tbl) (k : Nat) : List Bool := bfs1 (adjN t) 1000 (List.replicate t.elems.length false) (adjN t k)
theorem bfs1_len (adj : Nat -> List Nat) : ∀ (f : Nat) (been : List Bool) (td : List Nat), (bfs1 adj f been td).length = been.length
 | 0, _, _ => rfl
 | f + 1, _, [] => rfl
 | f + 1, been, k :: td => by
  unfold bfs1
  split
  . exact bfs1_len adj f been td
  . rw [bfs1_len adj f, List.length_set]
theorem reach_len (t : Tbl) (k : Nat) : (reach t k).length = t.elems.length := by rw [reach, bfs1_len, List.length_replicate]
def rowOfK (t : Tbl) (k : Nat) : T := .sl false 1 (boolsT (reach t k))
def rowsK (t : Tbl) : List T := (upto 0 t.elems.length).map (rowOfK t)
theorem one_rows (l : List Nat) (t : Tbl) : OneL (l.map (rowOfK t)) := OneL.map (fun _ => rfl) l
def ordP (t : Tbl) (n : List UInt8) (e a w : T) : T := .ptr (ordT n e a w (.sl false 1 (rowsK t)))
theorem upto_get {n k : Nat} (h : k < n) : (upto 0 n)[k]? = some k := by
 unfold upto
 rw [List.getElem?_range' (by omega)]
 simp
theorem treeOf_cells {ts : List T} (h : OneL ts) : treeOf none (cellsT ts) 0 ts.length = some (.sl false 1 ts) := by
 unfold treeOf rowTree
 rw [elemsFrom_cells _ 0 _ (by simp)]
 simp only [oS, allT_cells, List.drop_zero, List.take_length]
 have hall : (ts.all fun x => x.fits none) = true := List.all_eq_true.2 fun x hx => h x hx
 rw [if_pos hall]
 rfl
theorem upto_snoc {i : Nat} : upto 0 (i + 1) = upto 0 i ++ [i] := by
 unfold upto
 simp only [Nat.sub_zero]
 rw [List.range'_concat]
 simp
section
variable {t : Tbl} (hg : Good t) {n : List UInt8} {e a w : T} (h : IsTbl t n e a w)
include hg h
theorem from_row (s : T) {k : Nat} (hk : k < t.elems.length) : ∃ p, callO acfg 91 [.ptr (ordT n e a w s), .int .i64 (k : Int)] = some p /\ treeV p.1 = false /\ freshRow false 4 none p = some (0, t.elems.length, cellsT (boolsT (reach t k))) := by
 have h1 := from_spec hg h (s := s) hk
 obtain ⟨p, p1, p2, p3⟩ := row_fresh (sh := none) (off := 0) h1
 exact ⟨p, p1, p2, p3 false (.inr (List.all_eq_true.2 fun x hx => by
  obtain ⟨b, _, rfl⟩ := List.mem_map.1 hx
  rfl))⟩
theorem open_loop : ∀ i, i <= t.elems.length -> ∀ g, 1 <= i -> L57_2 (t.elems.length : Int) (i : Int) n e a w g 0 i g (cellsT ((upto 0 i).map (rowOfK t))) = some (.tup [ordP t n e a w, .int .i64 0]) := by
 have h12 := hg.e12
 have hlen : ∀ i, ((upto 0 i).map (rowOfK t)).length = i := fun i => by simp [upto]
 have hro : ∀ i, rowT none (cellsT ((upto 0 i).map (rowOfK t))) 0 i = some ((upto 0 i).map (rowOfK t)) := fun i => by
  have := rowT_all (one_rows (upto 0 i) t)
  rwa [hlen] at this
 refine upto_induct ?_ fun i hi ih => ?_
 . intro g _
   apply L57_2_step
   simp only [iLt_end, cond_false, natEq_self, cond_true, hro, oS]
   rfl
 . intro g h1
   obtain ⟨p, p1, p2, p3⟩ := from_row hg h (.sl false 1 ((upto 0 i).map (rowOfK t))) hi
   have htr : treeOf none (cellsT (boolsT (reach t i))) 0 t.elems.length = some (rowOfK t i) := by
    have := treeOf_cells (one_bools (reach t i))
    rw [List.length_map, reach_len] at this
    exact this
   have vf : vfits (V.t (rowOfK t i)) none = true := rfl
   have hok : appOK (cellsT ((upto 0 i).map (rowOfK t))) 0 i 1 [V.t (rowOfK t i)] 24 = true := appOK_row (ys := [rowOfK t i]) (by rw [hlen]; omega) (by simp only [List.length_cons, List.length_nil, maxB]; omega)
   have hcs : appCs (cellsT ((upto 0 i).map (rowOfK t))) 0 [V.t (rowOfK t i)] = cellsT ((upto 0 (i + 1)).map (rowOfK t)) := by
    have := appCs_one (cs := (upto 0 i).map (rowOfK t)) (ys := [rowOfK t i]) (off := 0) (OneL.cons rfl OneL.nil) (by simp)
    rw [upto_snoc, List.map_append]
    simpa using this
   have vm : ∀ g o l, vfits (V.msl 28 g o l none) none = true := fun _ _ _ => rfl
   have := ih (g + 1) (by omega)
   apply L57_2_step
   simp only [iLt_len hi, cond_true, natEq_self, hro, oS, p1, p2, cond_false, p3, htr, vf, hok, vm, hcs, objBd_cells, appGen_one, appLen_one, iAdd_nat (show i < 1000000 by omega), this]
theorem open_spec (hs : Small t) : fnO acfg 57 [tblT n e a w] = some (bif checkB t then .tup [ordP t n e a w, .int .i64 0] else .tup [.nilp, .int .i64 4]) := by
 have h12 := hg.e12
 apply fn57
 have i0 : iEq 0 0 = true := rfl
 have i4 : iEq 4 0 = false := rfl
 cases hc : checkB t with
 | false =>
  simp only [h.v4, cond_true, h.d4, oS, agg4, nth0, nth1, nth2, nth3, str?_str, check_spec h hs, hc, scalar_int, int?_int, cond_false, i4, bNot, Bool.not_false]
 | true =>
  have v5 : vfits (.t (T.agg [.str n, e, a, w, .nils])) (some 5) = true := by
   show (true && (5 == 5) && ((T.str n).one && (e.one && (a.one && (w.one && (true && true)))))) = true
   rw [h.e.one, h.a1, h.w.one]
   rfl
  have hpos : 0 < t.elems.length := hg.e1
  obtain ⟨p, p1, p2, p3⟩ := from_row hg h .nils hpos
  have htr : treeOf none (cellsT (boolsT (reach t 0))) 0 t.elems.length = some (rowOfK t 0) := by
   have := treeOf_cells (one_bools (reach t 0))
   rw [List.length_map, reach_len] at this
   exact this
  have vf : vfits (V.t (rowOfK t 0)) none = true := rfl
  have vm : ∀ g o l, vfits (V.msl 28 g o l none) none = true := fun _ _ _ => rfl
  have hbase : baseT none 1 .nils = some [] := rfl
  have hnew : newOK ([] : List T).length [V.t (rowOfK t 0)].length 24 = true := rfl
  have hrow : rowNew [] [V.t (rowOfK t 0)] = cellsT ((upto 0 1).map (rowOfK t)) := rowNew_one (xs := []) (ys := [rowOfK t 0]) OneL.nil (OneL.cons rfl OneL.nil)
  have hln : lenNew ([] : List T) [V.t (rowOfK t 0)] = 1 := rfl
  have hadd : iAdd .i64 0 1 = ((1 : Nat) : Int) := by decide
  have hz : iLt 0 (t.elems.length : Int) = true := decide_eq_true (by omega)
  have := open_loop hg h 1 (by omega) 1 (by omega)
  simp only [Int.natCast_zero] at p1
  simp only [h.v4, cond_true, h.d4, oS, agg4, nth0, nth1, nth2, nth3, str?_str, check_spec h hs, hc, scalar_int, int?_int, cond_false, i0, bNot, Bool.not_true, v5, h.f1, h.d1, h.e.lenD]
  apply L57_1_step
  simp only [hz, cond_true, p1, oS, p2, cond_false, p3, htr, vf, hbase, hnew, hrow, hln, vm, hadd, objBd_cells, this]
end
section
variable {t : Tbl} (hg : Good t) {n : List UInt8} {e a w : T} (h : IsTbl t n e a w)
omit hg in
theorem ord_isPtr : isPtrT (ordP t n e a w) = true := rfl
theorem ord_f4 : fldT 4 none (ordP t n e a w) = some (.ptr (.sl false 1 (rowsK t))) := fld_at rfl rfl
theorem ord_d4 : derefT none (.ptr (.sl false 1 (rowsK t))) = some (.sl false 1 (rowsK t)) := rfl
theorem ord_row {k : Nat} (hk : k < t.elems.length) : idxT 1 (.sl false 1 (rowsK t)) (k : Int) = some (.ptr (rowOfK t k)) :=
 (IsSl.sl false).idx (by unfold rowsK; rw [List.getElem?_map, upto_get hk]; rfl)
theorem ord_rowd (k : Nat) : derefT none (.ptr (rowOfK t k)) = some (rowOfK t k) := rfl
theorem row_at {k b : Nat} (hb : b < t.elems.length) : idxT 1 (rowOfK t k) (b : Int) = some (.ptr (.bool (belowB t k b))) :=
 (IsSl.sl false).idx (has_at (by rw [reach_len]; exact hb))
theorem isBelow_spec {c b : Nat} (hc : c < t.elems.length) (hb : b < t.elems.length) : fnO acfg 70 [ordP t n e a w, .int .i64 (c : Int), .int .i64 (b : Int)] = some (.bool (leB t c b)) := by
 apply fn70
 by_cases hcb : c = b
 . subst hcb
   have he : iEq (c : Int) (c : Int) = true := by simp [iEq]
   simp only [he, cond_true, leB, decide_true, Bool.true_or]
 . have he : iEq (c : Int) (b : Int) = false := by simp [iEq]; omega
   simp only [he, cond_false, ord_isPtr, cond_true, ord_f4, oS, ord_d4, ord_row hc, ord_rowd, row_at hb, deref_bool, bool?_bool, leB, hcb, decide_false, Bool.false_or]
include h in
theorem ord_f0 : fldT 0 (some 4) (ordP t n e a w) = some (.ptr (tblT n e a w)) := ord_fld h
include hg h in
theorem where_spec {f : T} {p : Nat -> Bool} (hf : ∀ i, i < t.elems.length -> callT acfg f [.int .i64 (i : Int)] = some (.bool (p i))) :
  ∃ y, fnO acfg 66 [ordP t n e a w, f] = some y /\ IsSl (natsT ((upto 0 t.elems.length).filter p)) y := by
 have h12 := hg.e12
 have two : ∀ i, i <= t.elems.length -> ∀ (acc : List Nat) (g : Nat), acc.length <= i -> L66_2 f g 0 acc.length (t.elems.length : Int) (i : Int) g (cellsT (natsT acc)) = some (.sl false 1 (natsT (acc ++ (upto i t.elems.length).filter p))) := by
  refine upto_induct ?_ fun i hi ih => ?_
  . intro acc g hl
    have := rowT_all (one_nats acc)
    rw [List.length_map] at this
    apply L66_2_step
    simp only [iLt_end, cond_false, natEq_self, cond_true, this, oS, upto_end (Nat.le_refl _), List.filter_nil, List.append_nil]
  . intro acc g hl
    apply L66_2_step
    cases hp : p i with
    | false =>
     have := ih acc g (by omega)
     simp only [iLt_len hi, cond_true, hf i hi, oS, bool?_bool, hp, cond_false, objBd_cells, iAdd_nat (show i < 1000000 by omega), this, upto_step hi, List.filter_cons, Bool.false_eq_true, if_false]
    | true =>
     have := ih (acc ++ [i]) (g + 1) (by rw [List.length_append]; simp only [List.length_cons, List.length_nil]; omega)
     rw [List.length_append] at this
     have hl1 : acc.length + [i].length = acc.length + 1 := rfl
     rw [hl1] at this
     have hok : appOK (cellsT (natsT acc)) 0 acc.length 1 [V.t (T.int .i64 (i : Int))] 8 = true := appOK_row (ys := [T.int .i64 (i : Int)]) (by simp) (by simp only [List.length_cons, List.length_nil, maxB]; omega)
     simp only [iLt_len hi, cond_true, hf i hi, oS, bool?_bool, hp, natEq_self, hok, app_one (ts := natsT acc) (off := 0) (td := acc) rfl (by simp), objBd_cells, appGen_one, appLen_one, iAdd_nat (show i < 1000000 by omega), this,
      upto_step hi, List.filter_cons, if_true, List.append_assoc, List.cons_append, List.nil_append]
 have one : ∀ i, i <= t.elems.length -> ∃ y, L66_1 f (t.elems.length : Int) (i : Int) = some y /\ IsSl (natsT ((upto i t.elems.length).filter p)) y := by
  refine upto_induct ?_ fun i hi ih => ?_
  . refine ⟨.nils, ?_, .nil (by rw [upto_end (Nat.le_refl _)]; rfl)⟩
    apply L66_1_step
    simp only [iLt_end, cond_false]
  . cases hp : p i with
    | false =>
     obtain ⟨y, y1, y2⟩ := ih
     refine ⟨y, ?_, by rw [upto_step hi, List.filter_cons, hp]; exact y2⟩
     apply L66_1_step
     simp only [iLt_len hi, cond_true, hf i hi, oS, bool?_bool, hp, cond_false, iAdd_nat (show i < 1000000 by omega), y1]
    | true =>
     by_cases h0 : i = i
     . have := two (i + 1) (by omega) [i] 1 (by simp)
       refine ⟨.sl false 1 (natsT ([i] ++ (upto (i + 1) t.elems.length).filter p)), ?_, by rw [upto_step hi, List.filter_cons, hp]; exact .sl _⟩
       have hbase : baseT none 1 .nils = some [] := rfl
       have hnew : newOK ([] : List T).length [V.t (T.int .i64 (i : Int))].length 8 = true := rfl
       have hrow : rowNew [] [V.t (T.int .i64 (i : Int))] = cellsT (natsT [i]) := rowNew_one (xs := []) (ys := natsT [i]) OneL.nil (one_nats _)
       have hln : lenNew ([] : List T) [V.t (T.int .i64 (i : Int))] = 1 := rfl
       have hl1 : [i].length = 1 := rfl
       rw [hl1] at this
       apply L66_1_step
       simp only [iLt_len hi, cond_true, hf i hi, oS, bool?_bool, hp, hbase, hnew, hrow, hln, objBd_cells, iAdd_nat (show i < 1000000 by omega), this]
     . exact absurd rfl h0
 obtain ⟨y, y1, y2⟩ := one 0 (by omega)
 refine ⟨y, ?_, y2⟩
 apply fn66
 simp only [ord_isPtr, cond_true, ord_f0 h, oS, h.f1, h.d1, h.e.lenD]
 exact y1
end
end Go.Proofs.Try

open Go Go.Apex Go.StepsTo
namespace Go.Proofs.Try
theorem mode93 : acfg.mode 93 = .scalar := by kernel_rfl
theorem mode94 : acfg.mode 94 = .scalar := by kernel_rfl
theorem mode110 : acfg.mode 110 = .scalar := by kernel_rfl
theorem mode111 : acfg.mode 111 = .scalar := by kernel_rfl
theorem mode101 : acfg.mode 101 = .scalar := by kernel_rfl
theorem mode102 : acfg.mode 102 = .scalar := by kernel_rfl
def firstB (t : Tbl) (p : Nat -> Bool) : Option Nat := ((upto 0 t.elems.length).filter p).head?
def ubs (t : Tbl) (i j : Nat) : List Nat := (upto 0 t.elems.length).filter fun k => leB t i k && leB t j k
def lubB (t : Tbl) (us : List Nat) : Bool := us.any fun m => us.all fun k => leB t m k
theorem ubs_lt {t : Tbl} {i j k : Nat} (h : k ∈ ubs t i j) : k < t.elems.length := (mem_upto.1 (List.mem_filter.1 h).1).2
theorem ubs_len (t : Tbl) (i j : Nat) : (ubs t i j).length <= t.elems.length := by
 refine Nat.le_trans (List.length_filter_le _ _) ?_
 simp [upto]
theorem all_getD (l : List Nat) (q : Nat -> Bool) : (upto 0 l.length).all (fun i => q (l.getD i 0)) = l.all q := by
 rw [Bool.eq_iff_iff, List.all_eq_true, List.all_eq_true]
 constructor
 . intro h x hx
   obtain ⟨i, hi, he⟩ := mem_getD (d := 0) hx
   have := h i (mem_upto.2 ⟨by omega, hi⟩)
   rwa [he] at this
 . intro h i hi
   exact h _ (getD_mem 0 (mem_upto.1 hi).2)
theorem ints_nats (l : List Nat) : ints (l.map Int.ofNat) = natsT l := by unfold ints natsT; rw [List.map_map]; rfl
theorem getD_ofNat (l : List Nat) (i : Nat) : (l.map Int.ofNat).getD i 0 = ((l.getD i 0 : Nat) : Int) := by
 simp only [gD, List.getElem?_map]
 cases l[i]? <;> rfl
theorem index_spec2 {x f : T} {l : List Nat} (hx : IsSl (natsT l) x) (hl : l.length < 1000000) {q : Nat -> Bool} (hf : ∀ k ∈ l, callT acfg f [.int .i64 (k : Int)] = some (.bool (q k))) :
  fnO acfg 103 [x, f] = some (.int .i64 (findI (fun i => q (l.getD i 0)) 0 l.length)) := by
 have key : ∀ i, i <= l.length -> L103_1 x f (l.length : Int) (i : Int) = some (.int .i64 (findI (fun i => q (l.getD i 0)) i l.length)) := by
  refine upto_induct ?_ fun i hi ih => ?_
  . apply L103_1_step
    simp only [iLt_end, cond_false, findI_end (Nat.le_refl _)]
  . apply L103_1_step
    have hk := hf (l.getD i 0) (getD_mem 0 hi)
    simp only [iLt_len hi, cond_true, hx.idxD 0 hi, oS, deref_int, int?_int, hk, bool?_bool, iAdd_nat (show i < 1000000 by omega), ih, findI_step hi]
    cases q (l.getD i 0) <;> simp
 apply fn103
 simp only [hx.lenD, oS]
 exact key 0 (by omega)
section
variable {t : Tbl} (hg : Good t) {n : List UInt8} {e a w : T} (h : IsTbl t n e a w)
include hg h
theorem first_spec {f : T} {p : Nat -> Bool} (hf : ∀ i, i < t.elems.length -> callT acfg f [.int .i64 (i : Int)] = some (.bool (p i))) :
  fnO acfg 92 [ordP t n e a w, f] = some (.tup [.int .i64 (((firstB t p).getD 0 : Nat) : Int), .bool (firstB t p).isSome]) := by
 obtain ⟨y, y1, y2⟩ := where_spec hg h hf
 apply fn92
 rw [y1]
 unfold firstB
 cases hl : (upto 0 t.elems.length).filter p with
 | nil =>
  rw [hl] at y2
  have hL : lenT y = some 0 := y2.len
  have : iEq 0 0 = true := rfl
  simp only [oS, hL, this, cond_true]
  rfl
 | cons k l =>
  rw [hl] at y2
  have he : iEq ((k :: l).length : Int) 0 = false := by simp [iEq]; omega
  have hx := y2.idxD (α := Nat) 0 (show 0 < (k :: l).length by simp)
  have hgd : (k :: l).getD 0 0 = k := rfl
  rw [hgd] at hx
  simp only [Int.natCast_zero] at hx
  simp only [oS, y2.lenD, he, cond_false, hx, deref_int, int?_int]
  rfl
theorem clo93 {i : Nat} (hi : i < t.elems.length) : callT acfg (.fn (.func 93) [] [.ptr (ordP t n e a w)]) [.int .i64 (i : Int)] = some (.bool (belowB t i i)) := by
 refine callT_scalar mode93 ?_ rfl
 apply fn93
 have hd : derefT none (.ptr (ordP t n e a w)) = some (ordP t n e a w) := rfl
 simp only [hd, oS, ord_isPtr, cond_true, ord_f4, ord_d4, ord_row hi, ord_rowd, row_at hi, deref_bool, bool?_bool]
theorem clo94 {i : Nat} (hi : i < t.elems.length) : callT acfg (.fn (.func 94) [] [.ptr (ordP t n e a w)]) [.int .i64 (i : Int)] = some (.bool (!leB t 0 i)) := by
 refine callT_scalar mode94 ?_ rfl
 apply fn94
 have hd : derefT none (.ptr (ordP t n e a w)) = some (ordP t n e a w) := rfl
 have := isBelow_spec (t := t) (n := n) (e := e) (a := a) (w := w) (show 0 < t.elems.length from hg.e1) hi
 simp only [Int.natCast_zero] at this
 simp only [hd, oS, this, scalar_bool, cond_true, bool?_bool, bNot]
theorem clo111 {k x : Nat} (z : Int) (hk : k < t.elems.length) (hx : x < t.elems.length) : callT acfg (.fn (.func 111) [] [.ptr (ordP t n e a w), .ptr (.int .i64 (x : Int))]) [.int .i64 z, .int .i64 (k : Int)] = some (.bool (leB t k x)) := by
 refine callT_scalar mode111 ?_ rfl
 apply fn111
 have hd : derefT none (.ptr (ordP t n e a w)) = some (ordP t n e a w) := rfl
 simp only [hd, oS, deref_int, int?_int, isBelow_spec hk hx, scalar_bool, cond_true, bool?_bool]
theorem clo102 {k x : Nat} (z : Int) (hk : k < t.elems.length) (hx : x < t.elems.length) : callT acfg (.fn (.func 102) [] [.ptr (ordP t n e a w), .ptr (.int .i64 (x : Int))]) [.int .i64 z, .int .i64 (k : Int)] = some (.bool (leB t x k)) := by
 refine callT_scalar mode102 ?_ rfl
 apply fn102
 have hd : derefT none (.ptr (ordP t n e a w)) = some (ordP t n e a w) := rfl
 simp only [hd, oS, deref_int, int?_int, isBelow_spec hx hk, scalar_bool, cond_true, bool?_bool]
theorem all110 {us : T} {l : List Nat} (hu : IsSl (natsT l) us) (hl : ∀ k ∈ l, k < t.elems.length) (hl2 : l.length < 1000000) {x : Nat} (hx : x < t.elems.length) :
  fnO acfg 53 [us, .fn (.func 111) [] [.ptr (ordP t n e a w), .ptr (.int .i64 (x : Int))]] = some (.bool (l.all fun k => leB t k x)) := by
 rw [<- ints_nats] at hu
 have := allInts_spec (p := fun i => leB t (l.getD i 0) x) hu (by simpa using hl2) fun i hi => by
  rw [getD_ofNat]
  exact clo111 hg h _ (hl _ (getD_mem 0 (by simpa using hi))) hx
 rw [List.length_map, all_getD l fun k => leB t k x] at this
 exact this
theorem all101 {us : T} {l : List Nat} (hu : IsSl (natsT l) us) (hl : ∀ k ∈ l, k < t.elems.length) (hl2 : l.length < 1000000) {x : Nat} (hx : x < t.elems.length) :
  fnO acfg 53 [us, .fn (.func 102) [] [.ptr (ordP t n e a w), .ptr (.int .i64 (x : Int))]] = some (.bool (l.all fun k => leB t x k)) := by
 rw [<- ints_nats] at hu
 have := allInts_spec (p := fun i => leB t x (l.getD i 0)) hu (by simpa using hl2) fun i hi => by
  rw [getD_ofNat]
  exact clo102 hg h _ (hl _ (getD_mem 0 (by simpa using hi))) hx
 rw [List.length_map, all_getD l fun k => leB t x k] at this
 exact this
theorem bounds_spec {i j : Nat} (hi : i < t.elems.length) (hj : j < t.elems.length) : ∃ y, fnO acfg 77 [ordP t n e a w, .sl true 1 [.int .i64 (i : Int), .int .i64 (j : Int)]] = some y /\ IsSl (natsT (ubs t i j)) y := by
 have hu : IsSl (natsT [i, j]) (.sl true 1 [.int .i64 (i : Int), .int .i64 (j : Int)]) := .sl true
 have hd : derefT none (.ptr (ordP t n e a w)) = some (ordP t n e a w) := rfl
 obtain ⟨y, y1, y2⟩ := where_spec hg h (f := .fn (.func 110) [] [.ptr (.sl true 1 [.int .i64 (i : Int), .int .i64 (j : Int)]), .ptr (ordP t n e a w)]) (p := fun k => leB t i k && leB t j k) fun k hk => by
  refine callT_scalar mode110 ?_ rfl
  apply fn110
  have hd2 : derefT none (.ptr (.sl true 1 [.int .i64 (i : Int), .int .i64 (j : Int)])) = some (.sl true 1 [.int .i64 (i : Int), .int .i64 (j : Int)]) := rfl
  have := all110 hg h hu (fun q hq => by
   rcases List.mem_cons.1 hq with rfl | hq
   . exact hi
   . have : q = j := by simpa using hq
     subst this; exact hj) (by simp) hk
  simp only [hd2, oS, this, scalar_bool, cond_true, bool?_bool, List.all_cons, List.all_nil, Bool.and_true]
 refine ⟨y, ?_, y2⟩
 apply fn77
 have v1 : vfits (V.t (ordP t n e a w)) none = true := rfl
 have v2 : vfits (V.t (T.sl true 1 [.int .i64 (i : Int), .int .i64 (j : Int)])) none = true := rfl
 simp only [v1, v2, cond_true, hd, oS, y1]
omit hg h in
theorem findI_any {l : List Nat} {q : Nat -> Bool} : (findI (fun i => q (l.getD i 0)) 0 l.length = -1 /\ l.any q = false) \/ ∃ i, i < l.length /\ findI (fun i => q (l.getD i 0)) 0 l.length = (i : Int) /\ l.any q = true := by
 unfold findI
 cases hf : (upto 0 l.length).find? (fun i => q (l.getD i 0)) with
 | none =>
  refine .inl ⟨rfl, ?_⟩
  rw [List.find?_eq_none] at hf
  rw [List.any_eq_false]
  intro x hx
  obtain ⟨i, hi, he⟩ := mem_getD (d := 0) hx
  have := hf i (mem_upto.2 ⟨by omega, hi⟩)
  rwa [he] at this
 | some i =>
  have h1 := List.mem_of_find?_eq_some hf
  have h2 := List.find?_some hf
  have hi := (mem_upto.1 h1).2
  exact .inr ⟨i, hi, rfl, List.any_eq_true.2 ⟨_, getD_mem 0 hi, h2⟩⟩
theorem join_spec {i j : Nat} (hi : i < t.elems.length) (hj : j < t.elems.length) : ∃ z : Int, fnO acfg 65 [ordP t n e a w, .int .i64 (i : Int), .int .i64 (j : Int)] = some (.tup [.int .i64 z, .bool (lubB t (ubs t i j))]) := by
 have h12 := hg.e12
 obtain ⟨y, y1, y2⟩ := bounds_spec hg h hi hj
 have hd : derefT none (.ptr (ordP t n e a w)) = some (ordP t n e a w) := rfl
 have hul := ubs_len t i j
 have hix := index_spec2 (f := .fn (.func 101) [] [.ptr y, .ptr (ordP t n e a w)]) (q := fun m => (ubs t i j).all fun k => leB t m k) y2 (by omega) fun m hm => by
  refine callT_scalar mode101 ?_ rfl
  apply fn101
  have hm2 := ubs_lt hm
  simp only [deref_one y2.one, oS, all101 hg h y2 (fun k hk => ubs_lt hk) (by omega) hm2, scalar_bool, cond_true, bool?_bool]
 have v1 : vfits (V.t (ordP t n e a w)) none = true := rfl
 rcases findI_any (l := ubs t i j) (q := fun m => (ubs t i j).all fun k => leB t m k) with ⟨h1, h2⟩ | ⟨q, hq, h1, h2⟩
 . refine ⟨0, ?_⟩
   apply fn65
   have hz : iLt (-1) 0 = true := rfl
   simp only [v1, cond_true, hd, oS, y1, vfits_one y2.one, oneT_one y2.one, deref_one y2.one, hix, h1, scalar_int, int?_int, hz, lubB, h2]
 . refine ⟨((ubs t i j).getD q 0 : Nat), ?_⟩
   apply fn65
   have hz : iLt (q : Int) 0 = false := decide_eq_false (by omega)
   simp only [v1, cond_true, hd, oS, y1, vfits_one y2.one, oneT_one y2.one, deref_one y2.one, hix, h1, scalar_int, int?_int, hz, cond_false, y2.idxD 0 hq, deref_int, lubB, h2]
end
end Go.Proofs.Try

open Go Go.Apex Go.StepsTo
namespace Go.Proofs.Try
abbrev Br := Nat × Nat × Nat
def tripT (b : Br) : T := .agg [.int .u8 (b.1 : Int), .int .i64 (b.2.1 : Int), .int .i64 (b.2.2 : Int)]
def pairB (t : Tbl) (i j : Nat) : Option Br := if (ubs t i j).isEmpty = true then some (3, i, j) else if lubB t (ubs t i j) = true then none else some (4, i, j)
def pairsB (t : Tbl) : Option Br := (upto 0 t.elems.length).findSome? fun i => (upto (i + 1) t.elems.length).findSome? fun j => pairB t i j
def badB (t : Tbl) (i j : Nat) : Option Br := if t.wrong.getD i false = true /\ t.wrong.getD j false = false /\ leB t i j = true then some (5, i, j) else none
def wrongsB (t : Tbl) : Option Br := if t.wrong.getD 0 false = true then some (5, 0, 0) else (upto 0 t.elems.length).findSome? fun i => (upto 0 t.elems.length).findSome? fun j => badB t i j
def brk (t : Tbl) : Option Br :=
 match firstB t (fun k => belowB t k k) with
 | some k => some (1, k, 0)
 | none => match firstB t (fun k => !leB t 0 k) with
  | some k => some (2, k, 0)
  | none => match pairsB t with
   | some b => some b
   | none => wrongsB t
def outT (b : Option Br) : T := .tup [tripT (b.getD (0, 0, 0)), .bool b.isSome]
def orR (b : Option Br) (R : T) : T := match b with
 | some b => .tup [tripT b, .bool true]
 | none => R
theorem tripfits (k i j : Int) : vfits (.t (T.agg [.int .u8 k, .int .i64 i, .int .i64 j])) (some 3) = true := rfl
theorem findSome_step {g : Nat -> Option Br} {i n : Nat} (h : i < n) : (upto i n).findSome? g = (g i).or ((upto (i + 1) n).findSome? g) := by
 rw [upto_step h, List.findSome?_cons]
 cases g i <;> rfl
section
variable {t : Tbl} (hg : Good t) {n : List UInt8} {e a w : T} (h : IsTbl t n e a w)
include hg h
theorem wrongs_in {i : Nat} (hi : i < t.elems.length) {R : T} (v0 : T) (v1 : T) (v2 : T) (v3 : T) (v4 : T) (v5 : T) (v6 : T) (v7 : T) (v8 : Bool) (v9 : T) (v10 : T) (v11 : T) (v17 : Int) (v18 : Int) (v19 : Int) (v20 : Bool) (v21 : T) (v23 : T) (v24 : T) (v25 : T) (v26 : T) (v27 : T) (v28 : T) (v29 : Bool) (v30 : T) (v31 : T) (hR : L96_1 v0 v1 v2 v3 v4 v5 v6 v7 v8 v9 v10 v11 (t.elems.length : Int) (iAdd .i64 (i : Int) 1) v17 v18 v19 v20 v21 (.ptr (ordP t n e a w)) v23 v24 v25 v26 v27 v28 v29 v30 v31 = some R) :
  ∀ j, j <= t.elems.length -> L96_2 v0 v1 v2 v3 v4 v5 v6 v7 v8 v9 v10 v11 (i : Int) (t.elems.length : Int) (i : Int) (t.elems.length : Int) (j : Int) v17 v18 v19 v20 v21 (.ptr (ordP t n e a w)) v23 v24 v25 v26 v27 v28 v29 v30 v31 = some (orR ((upto j t.elems.length).findSome? (badB t i)) R) := by
 have h12 := hg.e12
 have hd : derefT none (.ptr (ordP t n e a w)) = some (ordP t n e a w) := rfl
 have hwl := hg.w
 refine upto_induct ?_ fun j hj ih => ?_
 . apply L96_2_step
   simp only [iLt_end, cond_false, upto_end (Nat.le_refl _), List.findSome?_nil, orR]
   exact hR
 . apply L96_2_step
   have w1 := h.w.idxD false (show i < t.wrong.length by omega)
   have w2 := h.w.idxD false (show j < t.wrong.length by omega)
   rw [findSome_step hj]
   simp only [iLt_len hj, cond_true, hd, oS, ord_isPtr, ord_f0 h, h.f3, h.d3, w1, w2, deref_bool, bool?_bool, isBelow_spec hi hj, scalar_bool, iAdd_nat (show j < 1000000 by omega), ih, tripfits, badB]
   cases t.wrong.getD i false <;> cases t.wrong.getD j false <;> cases leB t i j <;> simp [bNot, orR, tripT]
theorem wrongs_out : ∀ i, i <= t.elems.length -> ∀ (v0 : T) (v1 : T) (v2 : T) (v3 : T) (v4 : T) (v5 : T) (v6 : T) (v7 : T) (v8 : Bool) (v9 : T) (v10 : T) (v14 : Int) (v15 : Int) (v16 : Int) (v17 : Bool) (v18 : T) (v20 : T) (v21 : T) (v22 : T) (v23 : T) (v24 : T) (v25 : T) (v26 : Bool) (v27 : T) (v28 : T), L96_1 v0 v1 v2 v3 v4 v5 v6 v7 v8 v9 v10 (ordP t n e a w) (t.elems.length : Int) (i : Int) v14 v15 v16 v17 v18 (.ptr (ordP t n e a w)) v20 v21 v22 v23 v24 v25 v26 v27 v28 =
  some (outT ((upto i t.elems.length).findSome? fun i => (upto 0 t.elems.length).findSome? fun j => badB t i j)) := by
 have h12 := hg.e12
 refine upto_induct ?_ fun i hi ih => ?_
 . intros
   apply L96_1_step
   simp only [iLt_end, cond_false, upto_end (Nat.le_refl _), List.findSome?_nil, tripfits, cond_true]
   rfl
 . intro v0 v1 v2 v3 v4 v5 v6 v7 v8 v9 v10 v14 v15 v16 v17 v18 v20 v21 v22 v23 v24 v25 v26 v27 v28
   apply L96_1_step
   have := wrongs_in hg h hi (R := outT ((upto (i + 1) t.elems.length).findSome? fun i => (upto 0 t.elems.length).findSome? fun j => badB t i j)) v0 v1 v2 v3 v4 v5 v6 v7 v8 v9 v10 (ordP t n e a w) v14 v15 v16 v17 v18 v20 v21 v22 v23 v24 v25 v26 v27 v28 (by rw [iAdd_nat (show i < 1000000 by omega)]; exact ih _ _ _ _ _ _ _ _ _ _ _ _ _ _ _ _ _ _ _ _ _ _ _ _ _) 0 (by omega)
   simp only [Int.natCast_zero] at this
   simp only [iLt_len hi, cond_true, ord_isPtr, ord_f0 h, oS, h.f1, h.d1, h.e.lenD, this, findSome_step hi]
   cases (upto 0 t.elems.length).findSome? (badB t i) <;> rfl
theorem wrongs_spec : fnO acfg 96 [ordP t n e a w] = some (outT (wrongsB t)) := by
 have h12 := hg.e12
 have h1 := hg.e1
 have hwl := hg.w
 have hd : derefT none (.ptr (ordP t n e a w)) = some (ordP t n e a w) := rfl
 have v1 : vfits (V.t (ordP t n e a w)) none = true := rfl
 have w1 := h.w.idxD false (show 0 < t.wrong.length by omega)
 simp only [Int.natCast_zero] at w1
 apply fn96
 simp only [v1, cond_true, hd, oS, ord_isPtr, ord_f0 h, h.f3, h.d3, w1, deref_bool, bool?_bool, tripfits, h.f1, h.d1, h.e.lenD, wrongsB]
 cases hw : t.wrong.getD 0 false with
 | true => rfl
 | false =>
  simp only [cond_false, Bool.false_eq_true, if_false]
  exact wrongs_out hg h 0 (by omega) _ _ _ _ _ _ _ _ _ _ _ _ _ _ _ _ _ _ _ _ _ _ _ _ _
omit hg h in
theorem skip_pairs (g : Nat -> Option Br) (n i : Nat) (hi : i < n) : (upto 0 n).findSome? (fun j => if j <= i then none else g j) = (upto (i + 1) n).findSome? g := by
 have h1 : ∀ k, k <= i + 1 -> (upto k n).findSome? (fun j => if j <= i then none else g j) = (upto (i + 1) n).findSome? g := by
  refine upto_induct ?_ fun k hk ih => ?_
  . have : ∀ l : List Nat, (∀ j ∈ l, i + 1 <= j) -> l.findSome? (fun j => if j <= i then none else g j) = l.findSome? g := by
     intro l
     induction l with
     | nil => intro _; rfl
     | cons x l ih =>
      intro hl
      have := hl x (by simp)
      rw [List.findSome?_cons, List.findSome?_cons, if_neg (by omega), ih fun j hj => hl j (by simp [hj])]
    exact this _ fun j hj => (mem_upto.1 hj).1
  . rw [findSome_step (by omega), if_pos (by omega), ih]
    rfl
 exact h1 0 (by omega)
theorem pairs_in {i : Nat} (hi : i < t.elems.length) {R : T} (v0 : T) (v1 : T) (v2 : Int) (v3 : Bool) (v4 : Int) (v5 : Bool) (v6 : Int) (v7 : Bool) (v8 : T) (v9 : T) (v10 : Int) (v11 : Bool) (v12 : Int) (v13 : Bool) (v14 : Bool) (v15 : Int) (v16 : Bool) (v17 : T) (v18 : T) (v19 : Int) (v20 : Bool) (v21 : Int) (v22 : Bool) (v23 : Bool) (v24 : T) (v25 : T) (v26 : T) (v32 : Int) (v33 : Int) (v34 : Int) (v35 : Bool) (v36 : T) (v38 : Int) (v39 : Bool) (v40 : Int) (v41 : Bool) (v42 : Int) (v43 : Bool) (v44 : T) (v45 : T) (v46 : Int) (v47 : Bool) (v48 : Int) (v49 : Bool) (v50 : Bool) (v51 : Int) (v52 : Bool) (v53 : T) (v54 : T) (v55 : Int) (v56 : Bool) (v57 : Int) (v58 : Bool) (v59 : Bool) (v60 : T) (v61 : T) (hR : L58_1 v0 v1 v2 v3 v4 v5 v6 v7 v8 v9 v10 v11 v12 v13 v14 v15 v16 v17 v18 v19 v20 v21 v22 v23 v24 v25 v26 (t.elems.length : Int) (iAdd .i64 (i : Int) 1) v32 v33 v34 v35 v36 (.ptr (ordP t n e a w)) v38 v39 v40 v41 v42 v43 v44 v45 v46 v47 v48 v49 v50 v51 v52 v53 v54 v55 v56 v57 v58 v59 v60 v61 = some R) :
  ∀ j, j <= t.elems.length -> L58_2 v0 v1 v2 v3 v4 v5 v6 v7 v8 v9 v10 v11 v12 v13 v14 v15 v16 v17 v18 v19 v20 v21 v22 v23 v24 v25 v26 (i : Int) (t.elems.length : Int) (i : Int) (t.elems.length : Int) (j : Int) v32 v33 v34 v35 v36 (.ptr (ordP t n e a w)) v38 v39 v40 v41 v42 v43 v44 v45 v46 v47 v48 v49 v50 v51 v52 v53 v54 v55 v56 v57 v58 v59 v60 v61 = some (orR ((upto j t.elems.length).findSome? fun j => if j <= i then none else pairB t i j) R) := by
 have h12 := hg.e12
 have hd : derefT none (.ptr (ordP t n e a w)) = some (ordP t n e a w) := rfl
 have nt1 : ∀ x y : T, nthT [x, y] 1 = y := fun _ _ => rfl
 have nt0 : ∀ x y : T, nthT [x, y] 0 = x := fun _ _ => rfl
 have tup2 : ∀ x y : T, T.tup? (List.length [3, 4]) (.tup [x, y]) = some [x, y] := fun _ _ => rfl
 refine upto_induct ?_ fun j hj ih => ?_
 . apply L58_2_step
   simp only [iLt_end, cond_false, upto_end (Nat.le_refl _), List.findSome?_nil, orR]
   exact hR
 . apply L58_2_step
   obtain ⟨z, hz⟩ := join_spec hg h hi hj
   have hsc : T.scalar (.tup [.int .i64 z, .bool (lubB t (ubs t i j))]) = true := rfl
   obtain ⟨y, y1, y2⟩ := bounds_spec hg h hi hj
   rw [findSome_step hj]
   simp only [iLt_len hj, cond_true, hd, oS, hz, hsc, tup2, nt0, nt1, int?_int, bool?_bool, iAdd_nat (show j < 1000000 by omega), ih, y1, y2.lenD, tripfits]
   cases hl : lubB t (ubs t i j) with
   | true =>
    have hne : (ubs t i j).isEmpty = false := by
     cases hu : ubs t i j with
     | nil => rw [hu] at hl; cases hl
     | cons => rfl
    simp only [cond_true, pairB, hne, hl, Bool.false_eq_true, if_false, if_true]
    split <;> rfl
   | false =>
    by_cases hji : j <= i
    . have : iLe (j : Int) (i : Int) = true := decide_eq_true (by omega)
      simp only [cond_false, this, cond_true, if_pos hji]
      rfl
    . have : iLe (j : Int) (i : Int) = false := decide_eq_false (by omega)
      simp only [cond_false, this, if_neg hji, pairB, hl, Bool.false_eq_true, if_false]
      cases hu : ubs t i j with
      | nil => rfl
      | cons k l =>
       have he : iEq ((k :: l).length : Int) 0 = false := by simp [iEq]; omega
       simp only [he, cond_false]
       rfl
theorem pairs_out : ∀ i, i <= t.elems.length -> ∀ (v0 : T) (v2 : Int) (v3 : Bool) (v4 : Int) (v5 : Bool) (v6 : Int) (v7 : Bool) (v8 : T) (v9 : T) (v10 : Int) (v11 : Bool) (v12 : Int) (v13 : Bool) (v14 : Bool) (v15 : Int) (v16 : Bool) (v17 : T) (v18 : T) (v19 : Int) (v20 : Bool) (v21 : Int) (v22 : Bool) (v23 : Bool) (v24 : T) (v25 : T) (v29 : Int) (v30 : Int) (v31 : Int) (v32 : Bool) (v33 : T) (v35 : Int) (v36 : Bool) (v37 : Int) (v38 : Bool) (v39 : Int) (v40 : Bool) (v41 : T) (v42 : T) (v43 : Int) (v44 : Bool) (v45 : Int) (v46 : Bool) (v47 : Bool) (v48 : Int) (v49 : Bool) (v50 : T) (v51 : T) (v52 : Int) (v53 : Bool) (v54 : Int) (v55 : Bool) (v56 : Bool) (v57 : T) (v58 : T), L58_1 v0 (.ptr (ordP t n e a w)) v2 v3 v4 v5 v6 v7 v8 v9 v10 v11 v12 v13 v14 v15 v16 v17 v18 v19 v20 v21 v22 v23 v24 v25 (ordP t n e a w) (t.elems.length : Int) (i : Int) v29 v30 v31 v32 v33 (.ptr (ordP t n e a w)) v35 v36 v37 v38 v39 v40 v41 v42 v43 v44 v45 v46 v47 v48 v49 v50 v51 v52 v53 v54 v55 v56 v57 v58 =
  some (orR ((upto i t.elems.length).findSome? fun i => (upto (i + 1) t.elems.length).findSome? fun j => pairB t i j) (outT (wrongsB t))) := by
 have h12 := hg.e12
 have hd : derefT none (.ptr (ordP t n e a w)) = some (ordP t n e a w) := rfl
 refine upto_induct ?_ fun i hi ih => ?_
 . intros
   apply L58_1_step
   have hsc : T.scalar (outT (wrongsB t)) = true := rfl
   have t2 : T.tup? (List.length [33, 4]) (outT (wrongsB t)) = some [tripT ((wrongsB t).getD (0, 0, 0)), .bool (wrongsB t).isSome] := rfl
   simp only [iLt_end, cond_false, upto_end (Nat.le_refl _), List.findSome?_nil, hd, oS, wrongs_spec hg h, hsc, cond_true, t2]
   rfl
 . intro v0 v2 v3 v4 v5 v6 v7 v8 v9 v10 v11 v12 v13 v14 v15 v16 v17 v18 v19 v20 v21 v22 v23 v24 v25 v29 v30 v31 v32 v33 v35 v36 v37 v38 v39 v40 v41 v42 v43 v44 v45 v46 v47 v48 v49 v50 v51 v52 v53 v54 v55 v56 v57 v58
   apply L58_1_step
   have := pairs_in hg h hi (R := orR ((upto (i + 1) t.elems.length).findSome? fun i => (upto (i + 1) t.elems.length).findSome? fun j => pairB t i j) (outT (wrongsB t))) v0 (.ptr (ordP t n e a w)) v2 v3 v4 v5 v6 v7 v8 v9 v10 v11 v12 v13 v14 v15 v16 v17 v18 v19 v20 v21 v22 v23 v24 v25 (ordP t n e a w) v29 v30 v31 v32 v33 v35 v36 v37 v38 v39 v40 v41 v42 v43 v44 v45 v46 v47 v48 v49 v50 v51 v52 v53 v54 v55 v56 v57 v58 (by rw [iAdd_nat (show i < 1000000 by omega)]; exact ih _ _ _ _ _ _ _ _ _ _ _ _ _ _ _ _ _ _ _ _ _ _ _ _ _ _ _ _ _ _ _ _ _ _ _ _ _ _ _ _ _ _ _ _ _ _ _ _ _ _ _ _ _ _) 0 (by omega)
   simp only [Int.natCast_zero] at this
   rw [skip_pairs _ _ _ hi] at this
   simp only [iLt_len hi, cond_true, ord_isPtr, ord_f0 h, oS, h.f1, h.d1, h.e.lenD, this, findSome_step hi]
   cases (upto (i + 1) t.elems.length).findSome? (pairB t i) <;> rfl
theorem broken_spec : fnO acfg 58 [ordP t n e a w] = some (outT (brk t)) := by
 have h12 := hg.e12
 have v1 : vfits (V.t (ordP t n e a w)) none = true := rfl
 have hd : derefT none (.ptr (ordP t n e a w)) = some (ordP t n e a w) := rfl
 have nt1 : ∀ x y : T, nthT [x, y] 1 = y := fun _ _ => rfl
 have nt0 : ∀ x y : T, nthT [x, y] 0 = x := fun _ _ => rfl
 have tup2 : ∀ x y : T, T.tup? (List.length [3, 4]) (.tup [x, y]) = some [x, y] := fun _ _ => rfl
 have hsc : ∀ (z : Int) (b : Bool), T.scalar (.tup [.int .i64 z, .bool b]) = true := fun _ _ => rfl
 have f1 := first_spec hg h (f := .fn (.func 93) [] [.ptr (ordP t n e a w)]) (p := fun k => belowB t k k) fun k hk => clo93 hg h hk
 have f2 := first_spec hg h (f := .fn (.func 94) [] [.ptr (ordP t n e a w)]) (p := fun k => !leB t 0 k) fun k hk => clo94 hg h hk
 apply fn58
 simp only [v1, cond_true, hd, oS, f1, f2, hsc, tup2, nt0, nt1, int?_int, bool?_bool, tripfits, ord_isPtr, ord_f0 h, h.f1, h.d1, h.e.lenD, brk]
 cases firstB t (fun k => belowB t k k) with
 | some k => rfl
 | none =>
  simp only [Option.isSome_none, cond_false]
  cases firstB t (fun k => !leB t 0 k) with
  | some k => rfl
  | none =>
   simp only [Option.isSome_none, cond_false]
   refine Eq.trans (pairs_out hg h 0 (by omega) _ _ _ _ _ _ _ _ _ _ _ _ _ _ _ _ _ _ _ _ _ _ _ _ _ _ _ _ _ _ _ _ _ _ _ _ _ _ _ _ _ _ _ _ _ _ _ _ _ _ _ _ _ _) ?_
   show some (orR (pairsB t) _) = _
   cases pairsB t <;> rfl
omit hg in
theorem open_bad (hs : Small t) (hc : checkB t = false) : fnO acfg 57 [tblT n e a w] = some (.tup [.nilp, .int .i64 4]) := by
 apply fn57
 have i4 : iEq 4 0 = false := rfl
 simp only [h.v4, cond_true, h.d4, oS, agg4, nth0, nth1, nth2, nth3, str?_str, check_spec h hs, hc, scalar_int, int?_int, cond_false, i4, bNot, Bool.not_false]
end
end Go.Proofs.Try

open Go Go.Apex Go.StepsTo
namespace Go.Proofs.Try
def relRow (t : Tbl) (k : Nat) : T := .sl false 1 (boolsT ((upto 0 t.elems.length).map (leB t k)))
def relT (t : Tbl) : T := .sl false 1 ((upto 0 t.elems.length).map (relRow t))
theorem relRow_d (t : Tbl) (k : Nat) : derefT none (.ptr (relRow t k)) = some (relRow t k) := rfl
theorem rel_len (t : Tbl) : lenT (relT t) = some (t.elems.length : Int) := by simp [relT, lenT, upto]
theorem rel_row {t : Tbl} {k : Nat} (hk : k < t.elems.length) : idxT 1 (relT t) (k : Int) = some (.ptr (relRow t k)) :=
 (IsSl.sl false).idx (by rw [List.getElem?_map, upto_get hk]; rfl)
theorem relRow_at {t : Tbl} {k b : Nat} (hb : b < t.elems.length) : idxT 1 (relRow t k) (b : Int) = some (.ptr (.bool (leB t k b))) :=
 (IsSl.sl false).idx (by rw [List.getElem?_map, List.getElem?_map, upto_get hb]; rfl)
section
variable {t : Tbl} (hg : Good t)
include hg
theorem boundsR_spec {i j : Nat} (hi : i < t.elems.length) (hj : j < t.elems.length) : ∃ y, fnO acfg 98 [relT t, .int .i64 (i : Int), .int .i64 (j : Int)] = some y /\ IsSl (natsT (ubs t i j)) y := by
 have h12 := hg.e12
 let p : Nat -> Bool := fun k => leB t i k && leB t j k
 have two : ∀ c, c <= t.elems.length -> ∀ (acc : List Nat) (g : Nat), acc.length <= c -> L98_2 (relT t) (i : Int) (j : Int) g 0 acc.length (c : Int) g (cellsT (natsT acc)) = some (.sl false 1 (natsT (acc ++ (upto c t.elems.length).filter p))) := by
  refine upto_induct ?_ fun c hc ih => ?_
  . intro acc g hl
    have := rowT_all (one_nats acc)
    rw [List.length_map] at this
    apply L98_2_step
    simp only [rel_len, oS, iLt_end, cond_false, natEq_self, cond_true, this, upto_end (Nat.le_refl _), List.filter_nil, List.append_nil]
  . intro acc g hl
    have hp0 : p c = (leB t i c && leB t j c) := rfl
    apply L98_2_step
    simp only [rel_len, oS, iLt_len hc, cond_true, rel_row hi, rel_row hj, relRow_d, relRow_at hc, deref_bool, bool?_bool, upto_step hc, List.filter_cons, hp0, iAdd_nat (show c < 1000000 by omega), objBd_cells, natEq_self]
    cases h1 : leB t i c <;> cases h2 : leB t j c
    all_goals simp only [cond_true, cond_false, Bool.and_true, Bool.and_false, Bool.true_and, Bool.false_and, Bool.false_eq_true, if_true, if_false]
    . exact ih acc g (by omega)
    . exact ih acc g (by omega)
    . exact ih acc g (by omega)
    . have := ih (acc ++ [c]) (g + 1) (by rw [List.length_append]; simp only [List.length_cons, List.length_nil]; omega)
      rw [List.length_append] at this
      have hl1 : acc.length + [c].length = acc.length + 1 := rfl
      rw [hl1] at this
      have hok : appOK (cellsT (natsT acc)) 0 acc.length 1 [V.t (T.int .i64 (c : Int))] 8 = true := appOK_row (ys := [T.int .i64 (c : Int)]) (by simp) (by simp only [List.length_cons, List.length_nil, maxB]; omega)
      simp only [hok, cond_true, app_one (ts := natsT acc) (off := 0) (td := acc) rfl (by simp), appGen_one, appLen_one, objBd_cells, this, List.append_assoc, List.cons_append, List.nil_append]
 have one : ∀ c, c <= t.elems.length -> ∃ y, L98_1 (relT t) (i : Int) (j : Int) (c : Int) = some y /\ IsSl (natsT ((upto c t.elems.length).filter p)) y := by
  refine upto_induct ?_ fun c hc ih => ?_
  . refine ⟨.nils, ?_, .nil (by rw [upto_end (Nat.le_refl _)]; rfl)⟩
    apply L98_1_step
    simp only [rel_len, oS, iLt_end, cond_false]
  . have hp0 : p c = (leB t i c && leB t j c) := rfl
    cases hp : p c with
    | false =>
     obtain ⟨y, y1, y2⟩ := ih
     refine ⟨y, ?_, by rw [upto_step hc, List.filter_cons, hp]; exact y2⟩
     rw [hp0] at hp
     apply L98_1_step
     simp only [rel_len, oS, iLt_len hc, cond_true, rel_row hi, rel_row hj, relRow_d, relRow_at hc, deref_bool, bool?_bool, iAdd_nat (show c < 1000000 by omega), y1]
     cases h1 : leB t i c <;> cases h2 : leB t j c
     all_goals first | rfl | (rw [h1, h2] at hp; cases hp)
    | true =>
     have := two (c + 1) (by omega) [c] 1 (by simp)
     refine ⟨.sl false 1 (natsT ([c] ++ (upto (c + 1) t.elems.length).filter p)), ?_, by rw [upto_step hc, List.filter_cons, hp]; exact .sl _⟩
     rw [hp0, Bool.and_eq_true] at hp
     have hbase : baseT none 1 .nils = some [] := rfl
     have hnew : newOK ([] : List T).length [V.t (T.int .i64 (c : Int))].length 8 = true := rfl
     have hrow : rowNew [] [V.t (T.int .i64 (c : Int))] = cellsT (natsT [c]) := rowNew_one (xs := []) (ys := natsT [c]) OneL.nil (one_nats _)
     have hln : lenNew ([] : List T) [V.t (T.int .i64 (c : Int))] = 1 := rfl
     have hl1 : [c].length = 1 := rfl
     rw [hl1] at this
     apply L98_1_step
     simp only [rel_len, oS, iLt_len hc, cond_true, rel_row hi, rel_row hj, relRow_d, relRow_at hc, deref_bool, bool?_bool, iAdd_nat (show c < 1000000 by omega), hp.1, hp.2, hbase, hnew, hrow, hln, objBd_cells, this]
 obtain ⟨y, y1, y2⟩ := one 0 (by omega)
 exact ⟨y, fn98 _ _ _ _ y1, y2⟩
theorem least_spec {us : T} {l : List Nat} (hu : IsSl (natsT l) us) (hl : ∀ k ∈ l, k < t.elems.length) (hl2 : l.length < 1000000) : ∃ z : Int, fnO acfg 99 [relT t, us] = some (.int .i64 z) /\ decide (z < 0) = !lubB t l := by
 let q : Nat -> Bool := fun m => l.all fun k => leB t m k
 have out : ∀ i, i <= l.length -> ∃ z : Int, L99_1 (relT t) us (i : Int) = some (.int .i64 z) /\ decide (z < 0) = !((upto i l.length).any fun i => q (l.getD i 0)) := by
  refine upto_induct ?_ fun i hi ih => ?_
  . refine ⟨-1, ?_, by rw [upto_end (Nat.le_refl _)]; rfl⟩
    apply L99_1_step
    simp only [hu.lenD, oS, iLt_end, cond_false]
  . obtain ⟨z, z1, z2⟩ := ih
    have hx := hl _ (getD_mem 0 hi)
    have inn : ∀ j, j <= l.length -> ∀ b : Bool, L99_2 (relT t) us (i : Int) b (j : Int) = some (.int .i64 (if (b && (upto j l.length).all fun j => leB t (l.getD i 0) (l.getD j 0)) = true then ((l.getD i 0 : Nat) : Int) else z)) := by
     refine upto_induct ?_ fun j hj ih => ?_
     . intro b
       apply L99_2_step
       simp only [hu.lenD, oS, iLt_end, cond_false, upto_end (Nat.le_refl _), List.all_nil, Bool.and_true, hu.idxD 0 hi, deref_int, int?_int, iAdd_nat (show i < 1000000 by omega), z1]
       cases b <;> rfl
     . intro b
       apply L99_2_step
       have hy := hl _ (getD_mem 0 hj)
       simp only [hu.lenD, oS, iLt_len hj, cond_true, hu.idxD 0 hi, hu.idxD 0 hj, deref_int, int?_int, rel_row hx, relRow_d, relRow_at hy, deref_bool, bool?_bool, iAdd_nat (show j < 1000000 by omega), ih, upto_step hj, List.all_cons]
       cases b
       . simp
       . simp
    have h0 := inn 0 (by omega) true
    rw [all_getD l fun k => leB t (l.getD i 0) k] at h0
    simp only [Int.natCast_zero, Bool.true_and] at h0
    refine ⟨if (l.all fun k => leB t (l.getD i 0) k) = true then ((l.getD i 0 : Nat) : Int) else z, ?_, ?_⟩
    . apply L99_1_step
      simp only [hu.lenD, oS, iLt_len hi, cond_true]
      exact h0
    . rw [upto_step hi, List.any_cons]
      show _ = !(q (l.getD i 0) || _)
      have hq : q (l.getD i 0) = l.all fun k => leB t (l.getD i 0) k := rfl
      rw [<- hq]
      cases q (l.getD i 0)
      . simpa using z2
      . simp
 obtain ⟨z, z1, z2⟩ := out 0 (by omega)
 refine ⟨z, fn99 _ _ _ z1, ?_⟩
 rw [z2]
 congr 1
 unfold lubB
 rw [Bool.eq_iff_iff, List.any_eq_true, List.any_eq_true]
 constructor
 . rintro ⟨i, hi, hq⟩
   exact ⟨_, getD_mem 0 (mem_upto.1 hi).2, hq⟩
 . rintro ⟨x, hx, hq⟩
   obtain ⟨i, hi, he⟩ := mem_getD (d := 0) hx
   exact ⟨i, mem_upto.2 ⟨by omega, hi⟩, by rw [he]; exact hq⟩
end
def orT (b : Option Br) (R : T) : T := match b with
 | some b => tripT b
 | none => R
section
variable {t : Tbl} (hg : Good t) {n : List UInt8} {e a w : T} (h : IsTbl t n e a w)
include hg h
theorem brk6 (v8 v9 v10 : Int) {i : Nat} (hi : i < t.elems.length) {R : T} (hR : L59_5 n e a w (t.elems.length : Int) (relT t) (iAdd .i64 (i : Int) 1) v8 v9 v10 = some R) :
  ∀ j, j <= t.elems.length -> L59_6 n e a w (t.elems.length : Int) (relT t) (i : Int) (j : Int) v8 v9 v10 = some (orT ((upto j t.elems.length).findSome? (badB t i)) R) := by
 have h12 := hg.e12
 have hwl := hg.w
 refine upto_induct ?_ fun j hj ih => ?_
 . apply L59_6_step
   simp only [iLt_end, cond_false, upto_end (Nat.le_refl _), List.findSome?_nil, orT]
   exact hR
 . apply L59_6_step
   have w1 := h.w.idxD false (show i < t.wrong.length by omega)
   have w2 := h.w.idxD false (show j < t.wrong.length by omega)
   rw [findSome_step hj]
   simp only [iLt_len hj, cond_true, oS, h.f3, h.d3, w1, w2, deref_bool, bool?_bool, rel_row hi, relRow_d, relRow_at hj, iAdd_nat (show j < 1000000 by omega), ih, tripfits, badB]
   cases t.wrong.getD i false <;> cases t.wrong.getD j false <;> cases leB t i j <;> simp [bNot, orT, tripT]
theorem brk5 (v8 v9 v10 : Int) : ∀ i, i <= t.elems.length -> L59_5 n e a w (t.elems.length : Int) (relT t) (i : Int) v8 v9 v10 = some (orT ((upto i t.elems.length).findSome? fun i => (upto 0 t.elems.length).findSome? fun j => badB t i j) (tripT (0, 0, 0))) := by
 have h12 := hg.e12
 refine upto_induct ?_ fun i hi ih => ?_
 . apply L59_5_step
   simp only [iLt_end, cond_false, upto_end (Nat.le_refl _), List.findSome?_nil, tripfits, cond_true]
   rfl
 . apply L59_5_step
   have := brk6 hg h v8 v9 v10 hi (by rw [iAdd_nat (show i < 1000000 by omega)]; exact ih) 0 (by omega)
   simp only [Int.natCast_zero] at this
   simp only [iLt_len hi, cond_true, this, findSome_step hi]
   cases (upto 0 t.elems.length).findSome? (badB t i) <;> rfl
theorem brk4 (v8 v9 v10 : Int) {i : Nat} (hi : i < t.elems.length) {R : T} (hR : L59_3 n e a w (t.elems.length : Int) (relT t) (iAdd .i64 (i : Int) 1) v8 v9 v10 = some R) :
  ∀ j, j <= t.elems.length -> L59_4 n e a w (t.elems.length : Int) (relT t) (i : Int) (j : Int) v8 v9 v10 = some (orT ((upto j t.elems.length).findSome? (pairB t i)) R) := by
 have h12 := hg.e12
 refine upto_induct ?_ fun j hj ih => ?_
 . apply L59_4_step
   simp only [iLt_end, cond_false, upto_end (Nat.le_refl _), List.findSome?_nil, orT]
   exact hR
 . apply L59_4_step
   obtain ⟨y, y1, y2⟩ := boundsR_spec hg hi hj
   have hul := ubs_len t i j
   obtain ⟨z, z1, z2⟩ := least_spec hg y2 (fun k hk => ubs_lt hk) (by omega)
   rw [findSome_step hj]
   have hz : iLt z 0 = !lubB t (ubs t i j) := z2
   simp only [iLt_len hj, cond_true, oS, y1, y2.lenD, tripfits, z1, scalar_int, int?_int, hz, iAdd_nat (show j < 1000000 by omega), ih, pairB]
   cases hu : ubs t i j with
   | nil => rfl
   | cons k l =>
    have he : iEq ((k :: l).length : Int) 0 = false := by simp [iEq]; omega
    simp only [he, cond_false]
    cases lubB t (k :: l) <;> rfl
theorem brk3 (v8 v9 v10 : Int) : ∀ i, i <= t.elems.length -> L59_3 n e a w (t.elems.length : Int) (relT t) (i : Int) v8 v9 v10 = some (orT ((upto i t.elems.length).findSome? fun i => (upto (i + 1) t.elems.length).findSome? fun j => pairB t i j) (tripT ((wrongsB t).getD (0, 0, 0)))) := by
 have h12 := hg.e12
 have hwl := hg.w
 have h1 := hg.e1
 refine upto_induct ?_ fun i hi ih => ?_
 . apply L59_3_step
   have w1 := h.w.idxD false (show 0 < t.wrong.length by omega)
   have := brk5 hg h v8 v9 v10 0 (by omega)
   simp only [Int.natCast_zero] at w1 this
   simp only [iLt_end, cond_false, upto_end (Nat.le_refl _), List.findSome?_nil, h.f3, h.d3, oS, w1, deref_bool, bool?_bool, tripfits, cond_true, this, wrongsB, orT]
   cases t.wrong.getD 0 false with
   | true => rfl
   | false =>
    simp only [cond_false, Bool.false_eq_true, if_false]
    cases (upto 0 t.elems.length).findSome? fun i => (upto 0 t.elems.length).findSome? fun j => badB t i j <;> rfl
 . apply L59_3_step
   have := brk4 hg h v8 v9 v10 hi (by rw [iAdd_nat (show i < 1000000 by omega)]; exact ih) (i + 1) (by omega)
   simp only [iLt_len hi, cond_true, iAdd_nat (show i < 1000000 by omega), this, findSome_step hi]
   cases (upto (i + 1) t.elems.length).findSome? (pairB t i) <;> rfl
theorem brk2 (v8 v9 v10 : Int) {R : T} (hR : L59_3 n e a w (t.elems.length : Int) (relT t) 0 v8 v9 v10 = some R) : ∀ i, i <= t.elems.length -> L59_2 n e a w (t.elems.length : Int) (relT t) (i : Int) v8 v9 v10 = some (orT (((upto i t.elems.length).find? fun k => !leB t 0 k).map fun k => (2, k, 0)) R) := by
 have h12 := hg.e12
 refine upto_induct ?_ fun i hi ih => ?_
 . apply L59_2_step
   simp only [iLt_end, cond_false, upto_end (Nat.le_refl _), List.find?_nil, Option.map_none, orT]
   exact hR
 . apply L59_2_step
   have hr := rel_row (t := t) (k := 0) hg.e1
   simp only [Int.natCast_zero] at hr
   simp only [iLt_len hi, cond_true, hr, oS, relRow_d, relRow_at hi, deref_bool, bool?_bool, tripfits, iAdd_nat (show i < 1000000 by omega), ih, upto_step hi, List.find?_cons]
   cases leB t 0 i <;> rfl
theorem brk1 (v8 v9 v10 : Int) {R : T} (hR : L59_2 n e a w (t.elems.length : Int) (relT t) 0 v8 v9 v10 = some R) : ∀ i, i <= t.elems.length -> L59_1 n e a w (t.elems.length : Int) (relT t) (i : Int) v8 v9 v10 = some (orT (((upto i t.elems.length).find? fun k => belowB t k k).map fun k => (1, k, 0)) R) := by
 have h12 := hg.e12
 refine upto_induct ?_ fun i hi ih => ?_
 . apply L59_1_step
   simp only [iLt_end, cond_false, upto_end (Nat.le_refl _), List.find?_nil, Option.map_none, orT]
   exact hR
 . apply L59_1_step
   have hb : has (bfs1 (adjN t) 1000 (List.replicate t.elems.length false) (adjN t i)) i = belowB t i i := rfl
   simp only [iLt_len hi, cond_true, h.d4, oS, agg4, nth0, nth1, nth2, nth3, str?_str, steps_spec hg h hi hi, both_spec hg h hi, hb, scalar_bool, bool?_bool, tripfits, iAdd_nat (show i < 1000000 by omega), ih, upto_step hi, List.find?_cons]
   cases belowB t i i <;> rfl
theorem breakR_spec (hrel : fnO acfg 97 [tblT n e a w] = some (relT t)) : fnO acfg 59 [tblT n e a w] = some (tripT ((brk t).getD (0, 0, 0))) := by
 have b3 := brk3 hg h 0 0 0 0 (by omega)
 simp only [Int.natCast_zero] at b3
 have b2 := brk2 hg h 0 0 0 b3 0 (by omega)
 simp only [Int.natCast_zero] at b2
 have b1 := brk1 hg h 0 0 0 b2 0 (by omega)
 simp only [Int.natCast_zero] at b1
 apply fn59
 simp only [h.v4, cond_true, h.f1, h.d1, h.e.lenD, h.d4, oS, agg4, nth0, nth1, nth2, nth3, str?_str, hrel, b1, brk, firstB, List.head?_filter]
 have e3 : ((upto 0 t.elems.length).findSome? fun i => (upto (i + 1) t.elems.length).findSome? fun j => pairB t i j) = pairsB t := rfl
 rw [e3]
 cases (upto 0 t.elems.length).find? (fun k => belowB t k k) with
 | some k => rfl
 | none =>
  cases (upto 0 t.elems.length).find? (fun k => !leB t 0 k) with
  | some k => rfl
  | none => cases pairsB t <;> rfl
omit hg h in
theorem brk_kind {b : Br} (hb : brk t = some b) : b.1 ≠ 0 := by
 unfold brk at hb
 split at hb
 . cases hb; simp
 split at hb
 . cases hb; simp
 split at hb
 . rename_i q hq
   cases hb
   unfold pairsB at hq
   obtain ⟨i, _, hi⟩ := List.exists_of_findSome?_eq_some hq
   obtain ⟨j, _, hj⟩ := List.exists_of_findSome?_eq_some hi
   unfold pairB at hj
   split at hj
   . cases hj; simp
   split at hj
   . cases hj
   . cases hj; simp
 . unfold wrongsB at hb
   split at hb
   . cases hb; simp
   . obtain ⟨i, _, hi⟩ := List.exists_of_findSome?_eq_some hb
     obtain ⟨j, _, hj⟩ := List.exists_of_findSome?_eq_some hi
     unfold badB at hj
     split at hj
     . cases hj; simp
     . cases hj
theorem proveR_good (hs : Small t) (hc : fnO acfg 19 [tblT n e a w] = some (.int .i64 0)) (hrel : fnO acfg 97 [tblT n e a w] = some (relT t)) :
  fnO acfg 18 [tblT n e a w] = some (.tup [tripT ((brk t).getD (0, 0, 0)), .int .i64 (bif (brk t).isSome then 12 else 0)]) := by
 have i0 : iEq 0 0 = true := rfl
 have ag : ∀ x y z : T, T.agg? (List.length [(D.int IntKind.u8), (D.int IntKind.i64), (D.int IntKind.i64)]) (.agg [x, y, z]) = some [x, y, z] := fun _ _ _ => rfl
 have n30 : ∀ x y z : T, nthT [x, y, z] 0 = x := fun _ _ _ => rfl
 have n31 : ∀ x y z : T, nthT [x, y, z] 1 = y := fun _ _ _ => rfl
 have n32 : ∀ x y z : T, nthT [x, y, z] 2 = z := fun _ _ _ => rfl
 have d3 : ∀ k i j : Int, derefT (some 3) (.ptr (.agg [.int .u8 k, .int .i64 i, .int .i64 j])) = some (.agg [.int .u8 k, .int .i64 i, .int .i64 j]) := fun _ _ _ => rfl
 have f3 : ∀ k i j : Int, fldT 0 none (.ptr (.agg [.int .u8 k, .int .i64 i, .int .i64 j])) = some (.ptr (.int .u8 k)) := fun _ _ _ => rfl
 have sc : ∀ k i j : Int, T.scalar (.agg [.int .u8 k, .int .i64 i, .int .i64 j]) = true := fun _ _ _ => rfl
 apply fn18
 simp only [h.v4, cond_true, h.d4, oS, agg4, nth0, nth1, nth2, nth3, str?_str, hc, scalar_int, int?_int, i0, bNot, Bool.not_true, cond_false, breakR_spec hg h hrel, tripT, sc, ag, n30, n31, n32, tripfits, f3, deref_int, d3]
 cases hb : brk t with
 | none => rfl
 | some b =>
  have hk := brk_kind hb
  have he : iEq (b.1 : Int) 0 = false := by simp [iEq]; omega
  simp only [Option.getD_some, he, Bool.not_false, cond_true]
  rfl
omit hg in
theorem proveR_bad (hc : fnO acfg 19 [tblT n e a w] = some (.int .i64 4)) : fnO acfg 18 [tblT n e a w] = some (.tup [tripT (0, 0, 0), .int .i64 4]) := by
 have i4 : iEq 4 0 = false := rfl
 apply fn18
 simp only [h.v4, cond_true, h.d4, oS, agg4, nth0, nth1, nth2, nth3, str?_str, hc, scalar_int, int?_int, i4, bNot, Bool.not_false, tripfits]
 rfl
end
end Go.Proofs.Try

open Go Go.Apex Go.StepsTo
namespace Go.Proofs.Try
theorem checkR {t : Tbl} {n : List UInt8} {e a w : T} (h : IsTbl t n e a w) (hs : Small t) : fnO acfg 19 [tblT n e a w] = some (.int .i64 (bif checkB t then 0 else 4)) := refCheck_spec h hs
end Go.Proofs.Try

open Go Go.Apex Go.StepsTo
namespace Go.Proofs.Try
def relB (t : Tbl) (a b : Nat) : List Bool := (upto 0 b).map (leB t a)
theorem relB_len (t : Tbl) (a b : Nat) : (relB t a b).length = b := by simp [relB, upto]
theorem relB_snoc (t : Tbl) (a b : Nat) : relB t a (b + 1) = relB t a b ++ [leB t a b] := by simp [relB, upto_snoc]
theorem one_rel (t : Tbl) (l : List Nat) : OneL (l.map (relRow t)) := OneL.map (fun _ => rfl) l
section
variable {t : Tbl} (hg : Good t) {n : List UInt8} {e a w : T} (h : IsTbl t n e a w)
include hg h
theorem rel_treeOf (k : Nat) : treeOf none (cellsT (boolsT (relB t k t.elems.length))) 0 t.elems.length = some (relRow t k) := by
 have := treeOf_cells (one_bools (relB t k t.elems.length))
 rw [List.length_map, relB_len] at this
 exact this
theorem app_bool (c b : Nat) : appCs (cellsT (boolsT (relB t c b))) 0 [V.t (.bool (leB t c b))] = cellsT (boolsT (relB t c (b + 1))) := by
 have := appCs_one (cs := boolsT (relB t c b)) (ys := [T.bool (leB t c b)]) (off := 0) (OneL.cons rfl OneL.nil) (by simp)
 rw [relB_snoc]
 simpa [boolsT] using this
theorem ok_bool (c : Nat) {b : Nat} (hb : b < t.elems.length) : appOK (cellsT (boolsT (relB t c b))) 0 b 1 [V.t (.bool (leB t c b))] 1 = true := by
 have := hg.e12
 exact appOK_row (ys := [T.bool (leB t c b)]) (by rw [List.length_map, relB_len]; omega) (by simp only [List.length_cons, List.length_nil, maxB]; omega)
theorem rel9 {c : Nat} (hc : c < t.elems.length) {R : T} {g : Nat} (hR : L97_5 n e a w (g + 1) 0 (c + 1) (iAdd .i64 (c : Int) 1) (g + 1) (cellsT ((upto 0 (c + 1)).map (relRow t))) = some R) :
  ∀ b, b <= t.elems.length -> ∀ g2, L97_9 n e a w g 0 c (c : Int) g2 0 b (b : Int) g (cellsT ((upto 0 c).map (relRow t))) g2 (cellsT (boolsT (relB t c b))) = some R := by
 have h12 := hg.e12
 refine upto_induct ?_ fun b hb ih => ?_
 . intro g2
   have vf : vfits (V.t (relRow t c)) none = true := rfl
   have hlen : ((upto 0 c).map (relRow t)).length = c := by simp [upto]
   have hok : appOK (cellsT ((upto 0 c).map (relRow t))) 0 c 1 [V.t (relRow t c)] 24 = true := appOK_row (ys := [relRow t c]) (by rw [hlen]; omega) (by simp only [List.length_cons, List.length_nil, maxB]; omega)
   have hcs : appCs (cellsT ((upto 0 c).map (relRow t))) 0 [V.t (relRow t c)] = cellsT ((upto 0 (c + 1)).map (relRow t)) := by
    have := appCs_one (cs := (upto 0 c).map (relRow t)) (ys := [relRow t c]) (off := 0) (OneL.cons rfl OneL.nil) (by simp)
    rw [upto_snoc, List.map_append]
    simpa using this
   apply L97_9_step
   simp only [h.f1, h.d1, oS, h.e.lenD, iLt_end, cond_false, natEq_self, cond_true, rel_treeOf hg h, vf, hok, hcs, objBd_cells, appGen_one, appLen_one]
   exact hR
 . intro g2
   apply L97_9_step
   have := ih (g2 + 1)
   simp only [h.f1, h.d1, oS, h.e.lenD, iLt_len hb, cond_true, h.d4, agg4, nth0, nth1, nth2, nth3, str?_str, isBelow_ref hg h hc hb, scalar_bool, bool?_bool, natEq_self, ok_bool hg h c hb, app_bool hg h, objBd_cells, appGen_one, appLen_one,
    iAdd_nat (show b < 1000000 by omega), this]
theorem rel5 : ∀ c, c <= t.elems.length -> 1 <= c -> ∀ g, L97_5 n e a w g 0 c (c : Int) g (cellsT ((upto 0 c).map (relRow t))) = some (relT t) := by
 have h12 := hg.e12
 have hpos : 0 < t.elems.length := hg.e1
 refine upto_induct ?_ fun c hc ih => ?_
 . intro _ g
   have hro := rowT_all (one_rel t (upto 0 t.elems.length))
   have hlen : ((upto 0 t.elems.length).map (relRow t)).length = t.elems.length := by simp [upto]
   rw [hlen] at hro
   apply L97_5_step
   simp only [h.f1, h.d1, oS, h.e.lenD, iLt_end, cond_false, natEq_self, cond_true, hro]
   rfl
 . intro h1 g
   have hz : iLt 0 (t.elems.length : Int) = true := decide_eq_true (by omega)
   have hbase : baseT none 1 .nils = some [] := rfl
   have hnew : newOK ([] : List T).length [V.t (T.bool (leB t c 0))].length 1 = true := rfl
   have hrow : rowNew [] [V.t (T.bool (leB t c 0))] = cellsT (boolsT (relB t c 1)) := rowNew_one (xs := []) (ys := [T.bool (leB t c 0)]) OneL.nil (OneL.cons rfl OneL.nil)
   have hln : lenNew ([] : List T) [V.t (T.bool (leB t c 0))] = 1 := rfl
   have hadd : iAdd .i64 0 1 = ((1 : Nat) : Int) := by decide
   have hbl := isBelow_ref hg h hc hpos
   have h9 := rel9 hg h hc (g := g) (R := relT t) (by rw [iAdd_nat (show c < 1000000 by omega)]; exact ih (by omega) (g + 1)) 1 (by omega) 1
   simp only [Int.natCast_zero] at hbl
   apply L97_5_step
   simp only [h.f1, h.d1, oS, h.e.lenD, iLt_len hc, cond_true, objBd_cells]
   apply L97_7_step
   simp only [h.f1, h.d1, oS, h.e.lenD, hz, cond_true, h.d4, agg4, nth0, nth1, nth2, nth3, str?_str, hbl, scalar_bool, bool?_bool, hbase, hnew, hrow, hln, hadd, objBd_cells, h9]
theorem rel3 : ∀ b, b <= t.elems.length -> ∀ g2, L97_3 n e a w 0 g2 0 b (b : Int) g2 (cellsT (boolsT (relB t 0 b))) = some (relT t) := by
 have h12 := hg.e12
 have hpos : 0 < t.elems.length := hg.e1
 refine upto_induct ?_ fun b hb ih => ?_
 . intro g2
   have vf : vfits (V.t (relRow t 0)) none = true := rfl
   have hbase : baseT none 1 .nils = some [] := rfl
   have hnew : newOK ([] : List T).length [V.t (relRow t 0)].length 24 = true := rfl
   have hrow : rowNew [] [V.t (relRow t 0)] = cellsT ((upto 0 1).map (relRow t)) := rowNew_one (xs := []) (ys := [relRow t 0]) OneL.nil (OneL.cons rfl OneL.nil)
   have hln : lenNew ([] : List T) [V.t (relRow t 0)] = 1 := rfl
   have hadd : iAdd .i64 0 1 = ((1 : Nat) : Int) := by decide
   have h5 := rel5 hg h 1 (by omega) (by omega) 1
   apply L97_3_step
   simp only [h.f1, h.d1, oS, h.e.lenD, iLt_end, cond_false, natEq_self, cond_true, rel_treeOf hg h, vf, hbase, hnew, hrow, hln, hadd, objBd_cells, h5]
 . intro g2
   apply L97_3_step
   have := ih (g2 + 1)
   have hbl := isBelow_ref hg h hpos hb
   simp only [Int.natCast_zero] at hbl
   simp only [h.f1, h.d1, oS, h.e.lenD, iLt_len hb, cond_true, h.d4, agg4, nth0, nth1, nth2, nth3, str?_str, hbl, scalar_bool, bool?_bool, natEq_self, ok_bool hg h 0 hb, app_bool hg h, objBd_cells, appGen_one, appLen_one,
    iAdd_nat (show b < 1000000 by omega), this]
theorem rel_spec : fnO acfg 97 [tblT n e a w] = some (relT t) := by
 have h12 := hg.e12
 have hpos : 0 < t.elems.length := hg.e1
 have hz : iLt 0 (t.elems.length : Int) = true := decide_eq_true (by omega)
 have hbase : baseT none 1 .nils = some [] := rfl
 have hnew : newOK ([] : List T).length [V.t (T.bool (leB t 0 0))].length 1 = true := rfl
 have hrow : rowNew [] [V.t (T.bool (leB t 0 0))] = cellsT (boolsT (relB t 0 1)) := rowNew_one (xs := []) (ys := [T.bool (leB t 0 0)]) OneL.nil (OneL.cons rfl OneL.nil)
 have hln : lenNew ([] : List T) [V.t (T.bool (leB t 0 0))] = 1 := rfl
 have hadd : iAdd .i64 0 1 = ((1 : Nat) : Int) := by decide
 have hbl := isBelow_ref hg h hpos hpos
 have h3 := rel3 hg h 1 (by omega) 1
 simp only [Int.natCast_zero] at hbl
 apply fn97
 simp only [h.v4, cond_true]
 apply L97_1_step
 simp only [h.f1, h.d1, oS, h.e.lenD, hz, cond_true]
 apply L97_2_step
 simp only [h.f1, h.d1, oS, h.e.lenD, hz, cond_true, h.d4, agg4, nth0, nth1, nth2, nth3, str?_str, hbl, scalar_bool, bool?_bool, hbase, hnew, hrow, hln, hadd, objBd_cells, h3]
end
end Go.Proofs.Try

open Go Go.Apex Go.StepsTo
namespace Go.Proofs.Try
theorem mode109 : acfg.mode 109 = .scalar := by kernel_rfl
def inB (t : Tbl) (z : Int) : Bool := decide (0 <= z) && decide (z < t.elems.length)
theorem inB_nat {t : Tbl} {z : Int} (h : inB t z = true) : ∃ k : Nat, z = (k : Int) /\ k < t.elems.length := by
 simp only [inB, Bool.and_eq_true, decide_eq_true_eq] at h
 exact ⟨z.toNat, by omega, by omega⟩
theorem all_int (l : List Int) (q : Int -> Bool) : (upto 0 l.length).all (fun i => q (l.getD i 0)) = l.all q := by
 rw [Bool.eq_iff_iff, List.all_eq_true, List.all_eq_true]
 constructor
 . intro h x hx
   obtain ⟨i, hi, he⟩ := mem_getD (d := 0) hx
   have := h i (mem_upto.2 ⟨by omega, hi⟩)
   rwa [he] at this
 . intro h i hi
   exact h _ (getD_mem 0 (mem_upto.1 hi).2)
section
variable {t : Tbl} {n : List UInt8} {e a w : T} (h : IsTbl t n e a w)
include h
theorem clo109 (i z : Int) : callT acfg (.fn (.func 109) [] [.ptr (ordP t n e a w)]) [.int .i64 i, .int .i64 z] = some (.bool (inB t z)) := by
 refine callT_scalar mode109 ?_ rfl
 apply fn109
 have hd : derefT none (.ptr (ordP t n e a w)) = some (ordP t n e a w) := rfl
 by_cases h0 : 0 <= z
 . have : iLe 0 z = true := decide_eq_true h0
   simp only [this, cond_true, hd, oS, ord_isPtr, ord_f0 h, h.f1, h.d1, h.e.lenD, inB, h0, decide_true, Bool.true_and]
   rfl
 . have : iLe 0 z = false := decide_eq_false h0
   simp only [this, cond_false, inB, h0, decide_false, Bool.false_and]
theorem has_spec {us : T} {l : List Int} (hu : IsSl (ints l) us) (hl : l.length < 1000000) : fnO acfg 76 [ordP t n e a w, us] = some (.int .i64 (bif l.all (inB t) then 0 else 7)) := by
 have := allInts_spec (f := .fn (.func 109) [] [.ptr (ordP t n e a w)]) (p := fun i => inB t (l.getD i 0)) hu hl fun i _ => clo109 h _ _
 rw [all_int l (inB t)] at this
 have v1 : vfits (V.t (ordP t n e a w)) none = true := rfl
 apply fn76
 simp only [v1, cond_true, this, oS, scalar_bool, bool?_bool]
 cases l.all (inB t) <;> rfl
theorem isElemR {z : Int} (hn : 1 <= t.elems.length) (hn2 : t.elems.length < 1000000) : fnO acfg 34 [tblT n e a w, .int .i64 z] = some (.bool (inB t z)) := by
 apply fn34
 have hs : iSub .i64 (t.elems.length : Int) 1 = ((t.elems.length - 1 : Nat) : Int) := iSub_nat hn2 hn
 have : (decide (z <= ((t.elems.length - 1 : Nat) : Int))) = decide (z < t.elems.length) := by
  by_cases hz : z < t.elems.length
  . rw [decide_eq_true hz, decide_eq_true (by omega)]
  . rw [decide_eq_false hz, decide_eq_false (by omega)]
 simp only [h.v4, cond_true, h.f1, h.d1, oS, h.e.lenD, hs, in_spec, scalar_bool, bool?_bool, inB, this]
end
section
variable {t : Tbl} (hg : Good t) {n : List UInt8} {e a w : T} (h : IsTbl t n e a w)
include hg h
end
section
variable {t : Tbl} {n : List UInt8} {e a w : T} (h : IsTbl t n e a w) (hs : Small t) (ht : thinB t = true)
include h hs ht
end
end Go.Proofs.Try

open Go Go.Apex Go.StepsTo
namespace Go.Proofs.Try
def leastOf (t : Tbl) (us : List Nat) : Option Nat := us.find? fun m => us.all fun k => leB t m k
def joinN (t : Tbl) (i j : Nat) : Nat := (leastOf t (ubs t i j)).getD 0
theorem least_lub (t : Tbl) (us : List Nat) : (leastOf t us).isSome = lubB t us := by
 unfold leastOf lubB
 rw [Bool.eq_iff_iff, List.find?_isSome, List.any_eq_true]
theorem find_upto {l : List Nat} {q : Nat -> Bool} : ∀ (k : Nat), ((upto k l.length).find? fun i => q (l.getD i 0)).map (fun i => l.getD i 0) = (l.drop k).find? q := by
 intro k
 by_cases hk : k <= l.length
 . refine upto_induct (n := l.length) (P := fun k => ((upto k l.length).find? fun i => q (l.getD i 0)).map (fun i => l.getD i 0) = (l.drop k).find? q) ?_ (fun i hi ih => ?_) k hk
   . rw [upto_end (Nat.le_refl _), List.drop_length]; rfl
   . rw [upto_step hi, List.drop_eq_getElem_cons hi, List.find?_cons, List.find?_cons]
     have e : l.getD i 0 = l[i] := by rw [gD, gE hi]; rfl
     rw [e]
     cases q l[i] with
     | true => simp only [Option.map_some, e]
     | false => exact ih
 . rw [upto_end (by omega), List.drop_eq_nil_of_le (by omega)]; rfl
theorem findI_find {l : List Nat} {q : Nat -> Bool} : (findI (fun i => q (l.getD i 0)) 0 l.length = -1 /\ l.find? q = none) \/ ∃ i, i < l.length /\ findI (fun i => q (l.getD i 0)) 0 l.length = (i : Int) /\ l.find? q = some (l.getD i 0) := by
 have h := find_upto (l := l) (q := q) 0
 rw [List.drop_zero] at h
 unfold findI
 cases hf : (upto 0 l.length).find? (fun i => q (l.getD i 0)) with
 | none => rw [hf] at h; exact .inl ⟨rfl, h.symm⟩
 | some i =>
  rw [hf] at h
  exact .inr ⟨i, (mem_upto.1 (List.mem_of_find?_eq_some hf)).2, rfl, h.symm⟩
section
variable {t : Tbl} (hg : Good t) {n : List UInt8} {e a w : T} (h : IsTbl t n e a w)
include hg h
theorem join_spec2 {i j : Nat} (hi : i < t.elems.length) (hj : j < t.elems.length) : fnO acfg 65 [ordP t n e a w, .int .i64 (i : Int), .int .i64 (j : Int)] = some (.tup [.int .i64 (joinN t i j : Int), .bool (leastOf t (ubs t i j)).isSome]) := by
 have h12 := hg.e12
 obtain ⟨y, y1, y2⟩ := bounds_spec hg h hi hj
 have hd : derefT none (.ptr (ordP t n e a w)) = some (ordP t n e a w) := rfl
 have hul := ubs_len t i j
 have hix := index_spec2 (f := .fn (.func 101) [] [.ptr y, .ptr (ordP t n e a w)]) (q := fun m => (ubs t i j).all fun k => leB t m k) y2 (by omega) fun m hm => by
  refine callT_scalar mode101 ?_ rfl
  apply fn101
  have hm2 := ubs_lt hm
  simp only [deref_one y2.one, oS, all101 hg h y2 (fun k hk => ubs_lt hk) (by omega) hm2, scalar_bool, cond_true, bool?_bool]
 have v1 : vfits (V.t (ordP t n e a w)) none = true := rfl
 rcases findI_find (l := ubs t i j) (q := fun m => (ubs t i j).all fun k => leB t m k) with ⟨h1, h2⟩ | ⟨q, hq, h1, h2⟩
 . have hlo : leastOf t (ubs t i j) = none := h2
   apply fn65
   have hz : iLt (-1) 0 = true := rfl
   simp only [v1, cond_true, hd, oS, y1, vfits_one y2.one, oneT_one y2.one, deref_one y2.one, hix, h1, scalar_int, int?_int, hz, joinN, hlo]
   rfl
 . have hlo : leastOf t (ubs t i j) = some ((ubs t i j).getD q 0) := h2
   apply fn65
   have hz : iLt (q : Int) 0 = false := decide_eq_false (by omega)
   simp only [v1, cond_true, hd, oS, y1, vfits_one y2.one, oneT_one y2.one, deref_one y2.one, hix, h1, scalar_int, int?_int, hz, cond_false, y2.idxD 0 hq, deref_int, joinN, hlo]
   rfl
end
theorem le_refl (t : Tbl) (k : Nat) : leB t k k = true := by simp [leB]
end Go.Proofs.Try

namespace Go.Lat
structure Lat (n : Nat) (le : Nat -> Nat -> Bool) : Prop where
 pos : 0 < n
 refl : ∀ a, le a a = true
 trans : ∀ a b c, a < n -> b < n -> c < n -> le a b = true -> le b c = true -> le a c = true
 anti : ∀ a b, a < n -> b < n -> le a b = true -> le b a = true -> a = b
 bot : ∀ a, a < n -> le 0 a = true
 ex : ∀ a b, a < n -> b < n -> ∃ m, m < n /\ le a m = true /\ le b m = true /\ ∀ k, k < n -> le a k = true -> le b k = true -> le m k = true
variable {n : Nat} {le : Nat -> Nat -> Bool}
structure IsJ (n : Nat) (le : Nat -> Nat -> Bool) (a b m : Nat) : Prop where
 lt : m < n
 l : le a m = true
 r : le b m = true
 least : ∀ k, k < n -> le a k = true -> le b k = true -> le m k = true
def lt (le : Nat -> Nat -> Bool) (a b : Nat) : Prop := a ≠ b /\ le a b = true
def upn (n : Nat) (le : Nat -> Nat -> Bool) (a : Nat) : Nat := ((List.range n).filter fun k => le a k).length
theorem filter_lt {l : List Nat} {p q : Nat -> Bool} (h : ∀ x ∈ l, p x = true -> q x = true) {y : Nat} (hy : y ∈ l) (hp : p y = false) (hq : q y = true) : (l.filter p).length < (l.filter q).length := by
 induction l with
 | nil => cases hy
 | cons x l ih =>
  have hsub : (l.filter p).length <= (l.filter q).length := by
   clear ih hy
   induction l with
   | nil => simp
   | cons z l ih =>
    have := ih fun x hx => h x (by
     rcases List.mem_cons.1 hx with rfl | hx
     . simp
     . simp [hx])
    have hz := h z (by simp)
    simp only [List.filter_cons]
    cases hpz : p z <;> cases hqz : q z <;> simp_all <;> omega
  rcases List.mem_cons.1 hy with rfl | hy
  . simp only [List.filter_cons, hp, hq, if_true, Bool.false_eq_true, if_false, List.length_cons]
    omega
  . have h1 := ih (fun x hx => h x (by simp [hx])) hy
    have hx := h x (by simp)
    simp only [List.filter_cons]
    cases hpx : p x <;> cases hqx : q x <;> simp_all <;> omega
theorem Lat.upn_lt (L : Lat n le) {a b : Nat} (ha : a < n) (hb : b < n) (h : lt le a b) : upn n le b < upn n le a :=
 filter_lt (fun x hx h1 => L.trans _ _ _ ha hb (List.mem_range.1 hx) h.2 h1) (y := a) (List.mem_range.2 ha)
  (by cases e : le b a with
      | false => rfl
      | true => exact absurd (L.anti _ _ ha hb h.2 e) h.1) (L.refl a)
end Go.Lat

namespace Go.StepsTo
theorem R.trans {adj : Nat -> List Nat} {a b c : Nat} (h : R adj a b) (h2 : R adj b c) : R adj a c := by
 induction h2 with
 | one h2 => exact .step h h2
 | step _ h3 ih => exact .step ih h3
theorem R.lt {adj : Nat -> List Nat} {n : Nat} (hadj : ∀ k, k < n -> ∀ c ∈ adj k, c < n) {a b : Nat} (ha : a < n) (h : R adj a b) : b < n := by
 induction h with
 | one h => exact hadj _ ha _ h
 | step _ h2 ih => exact hadj _ ih _ h2
structure Cov (adj : Nat -> List Nat) (a b : Nat) : Prop where
 r : R adj a b
 no : ∀ c, R adj a c -> R adj c b -> False
variable {adj cov : Nat -> List Nat} {n : Nat}
theorem cov_reach (hadj : ∀ k, k < n -> ∀ c ∈ adj k, c < n) (hcov : ∀ a, a < n -> ∀ b, b ∈ cov a ↔ Cov adj a b) {mu : Nat -> Nat} (hmu : ∀ a b, a < n -> b < n -> R adj a b -> mu b < mu a) :
  ∀ (d a b : Nat), a < n -> R adj a b -> mu a <= mu b + d -> R cov a b := by
 intro d
 induction d with
 | zero => intro a b ha h hd; have := hmu a b ha (h.lt hadj ha) h; omega
 | succ d ih =>
  intro a b ha h hd
  by_cases hx : ∃ c, R adj a c /\ R adj c b
  . obtain ⟨c, h1, h2⟩ := hx
    have hc := h1.lt hadj ha
    have hb := h2.lt hadj hc
    have m1 := hmu a c ha hc h1
    have m2 := hmu c b hc hb h2
    exact (ih a c ha h1 (by omega)).trans (ih c b hc h2 (by omega))
  . exact .one ((hcov a ha b).2 ⟨h, fun c h1 h2 => hx ⟨c, h1, h2⟩⟩)
theorem cov_same (hadj : ∀ k, k < n -> ∀ c ∈ adj k, c < n) (hcov : ∀ a, a < n -> ∀ b, b ∈ cov a ↔ Cov adj a b) {mu : Nat -> Nat} (hmu : ∀ a b, a < n -> b < n -> R adj a b -> mu b < mu a) {a : Nat} (ha : a < n) (b : Nat) : R cov a b ↔ R adj a b := by
 constructor
 . intro h
   induction h with
   | one h => exact ((hcov a ha _).1 h).r
   | step h h2 ih => exact ih.trans ((hcov _ (ih.lt hadj ha) _).1 h2).r
 . intro h
   exact cov_reach hadj hcov hmu (mu a) a b ha h (by omega)
end Go.StepsTo

open Go Go.Apex Go.StepsTo Go.Lat
namespace Go.Proofs.Try
structure GL (t : Tbl) : Prop where
 acy : ∀ k, k < t.elems.length -> belowB t k k = false
 bot : ∀ k, k < t.elems.length -> leB t 0 k = true
 jn : ∀ i j, i < t.elems.length -> j < t.elems.length -> (leastOf t (ubs t i j)).isSome = true
 w0 : t.wrong.getD 0 false = false
 wup : ∀ i j, i < t.elems.length -> j < t.elems.length -> t.wrong.getD i false = true -> leB t i j = true -> t.wrong.getD j false = true
theorem ubs_comm (t : Tbl) (i j : Nat) : ubs t i j = ubs t j i := by
 unfold ubs
 congr 1
 funext k
 exact Bool.and_comm _ _
theorem first_none {t : Tbl} {p : Nat -> Bool} : firstB t p = none ↔ ∀ k, k < t.elems.length -> p k = false := by
 unfold firstB
 rw [List.head?_filter, List.find?_eq_none]
 constructor
 . intro h k hk
   simpa using h k (mem_upto.2 ⟨by omega, hk⟩)
 . intro h k hk
   simpa using h k (mem_upto.1 hk).2
theorem mem_ubs {t : Tbl} {i j k : Nat} : k ∈ ubs t i j ↔ k < t.elems.length /\ leB t i k = true /\ leB t j k = true := by
 unfold ubs
 rw [List.mem_filter, mem_upto, Bool.and_eq_true]
 constructor
 . rintro ⟨⟨_, h⟩, h2⟩; exact ⟨h, h2⟩
 . rintro ⟨h, h2⟩; exact ⟨⟨by omega, h⟩, h2⟩
theorem least_some {t : Tbl} {us : List Nat} {m : Nat} (h : leastOf t us = some m) : m ∈ us /\ ∀ k ∈ us, leB t m k = true := by
 unfold leastOf at h
 have h1 := List.find?_some h
 exact ⟨List.mem_of_find?_eq_some h, List.all_eq_true.1 h1⟩
theorem least_self (t : Tbl) {i : Nat} (hi : i < t.elems.length) : (leastOf t (ubs t i i)).isSome = true := by
 unfold leastOf
 rw [List.find?_isSome]
 exact ⟨i, mem_ubs.2 ⟨hi, le_refl t i, le_refl t i⟩, List.all_eq_true.2 fun k hk => (mem_ubs.1 hk).2.1⟩
theorem find_none_iff {α : Type} {g : Nat -> Option α} {i n : Nat} : (upto i n).findSome? g = none ↔ ∀ k, i <= k -> k < n -> g k = none := by
 rw [List.findSome?_eq_none_iff]
 constructor
 . intro h k h1 h2; exact h k (mem_upto.2 ⟨h1, h2⟩)
 . intro h k hk; exact h k (mem_upto.1 hk).1 (mem_upto.1 hk).2
theorem pair_none {t : Tbl} {i j : Nat} : pairB t i j = none ↔ (leastOf t (ubs t i j)).isSome = true := by
 rw [least_lub]
 unfold pairB
 cases hl : lubB t (ubs t i j) with
 | true =>
  have hne : (ubs t i j).isEmpty = false := by
   cases hu : ubs t i j with
   | nil => rw [hu] at hl; cases hl
   | cons => rfl
  simp [hne]
 | false => split <;> simp
theorem bad_none {t : Tbl} {i j : Nat} : badB t i j = none ↔ (t.wrong.getD i false = true -> leB t i j = true -> t.wrong.getD j false = true) := by
 unfold badB
 cases t.wrong.getD i false <;> cases leB t i j <;> cases t.wrong.getD j false <;> simp
theorem brk_none (t : Tbl) (hpos : 0 < t.elems.length) : brk t = none ↔ GL t := by
 constructor
 . intro h
   unfold brk at h
   split at h
   . cases h
   rename_i h1
   split at h
   . cases h
   rename_i h2
   split at h
   . cases h
   rename_i h3
   rw [first_none] at h1 h2
   unfold pairsB at h3
   rw [find_none_iff] at h3
   have h3' : ∀ i j, i < j -> j < t.elems.length -> (leastOf t (ubs t i j)).isSome = true := fun i j hij hj => by
    have := h3 i (by omega) (by omega)
    rw [find_none_iff] at this
    exact pair_none.1 (this j (by omega) hj)
   unfold wrongsB at h
   split at h
   . cases h
   rename_i hw
   rw [find_none_iff] at h
   refine ⟨h1, fun k hk => by simpa using h2 k hk, fun i j hi hj => ?_, by simpa using hw, fun i j hi hj => ?_⟩
   . rcases Nat.lt_trichotomy i j with hij | hij | hij
     . exact h3' i j hij hj
     . subst hij; exact least_self t hi
     . rw [ubs_comm]; exact h3' j i hij hi
   . have := h i (by omega) hi
     rw [find_none_iff] at this
     exact bad_none.1 (this j (by omega) hj)
 . intro G
   have h1 : firstB t (fun k => belowB t k k) = none := first_none.2 G.acy
   have h2 : firstB t (fun k => !leB t 0 k) = none := first_none.2 fun k hk => by rw [G.bot k hk]; rfl
   have h3 : pairsB t = none := by
    unfold pairsB
    rw [find_none_iff]
    intro i _ hi
    rw [find_none_iff]
    intro j hij hj
    exact pair_none.2 (G.jn i j hi hj)
   have h4 : wrongsB t = none := by
    unfold wrongsB
    rw [G.w0]
    simp only [Bool.false_eq_true, if_false]
    rw [find_none_iff]
    intro i _ hi
    rw [find_none_iff]
    intro j _ hj
    exact bad_none.2 (G.wup i j hi hj)
   unfold brk
   simp only [h1, h2, h3, h4]
theorem below_R {t : Tbl} (hg : Good t) {c : Nat} (hc : c < t.elems.length) (b : Nat) : belowB t c b = true ↔ R (adjN t) c b := by
 have h12 := hg.e12
 obtain ⟨_, _, h1, _⟩ := both (n := t.elems.length) (adj := adjN t) (a := c) (D := 20) hc hg.adj_lt hg.adj_len (f := 1000) (g := 1000) (by omega) (by omega)
 exact h1 b
theorem below_trans {t : Tbl} (hg : Good t) {a b c : Nat} (ha : a < t.elems.length) (hb : b < t.elems.length) (h1 : belowB t a b = true) (h2 : belowB t b c = true) : belowB t a c = true :=
 (below_R hg ha c).2 (((below_R hg ha b).1 h1).trans ((below_R hg hb c).1 h2))
theorem le_iff {t : Tbl} {a b : Nat} : leB t a b = true ↔ a = b \/ belowB t a b = true := by simp [leB]
theorem le_trans' {t : Tbl} (hg : Good t) {a b c : Nat} (ha : a < t.elems.length) (hb : b < t.elems.length) (h1 : leB t a b = true) (h2 : leB t b c = true) : leB t a c = true := by
 rcases le_iff.1 h1 with rfl | h1
 . exact h2
 . rcases le_iff.1 h2 with rfl | h2
   . exact le_iff.2 (.inr h1)
   . exact le_iff.2 (.inr (below_trans hg ha hb h1 h2))
theorem least_isJ {t : Tbl} {i j m : Nat} (h : leastOf t (ubs t i j) = some m) : IsJ t.elems.length (leB t) i j m := by
 obtain ⟨h1, h2⟩ := least_some h
 obtain ⟨a1, a2, a3⟩ := mem_ubs.1 h1
 exact ⟨a1, a2, a3, fun k hk b1 b2 => h2 k (mem_ubs.2 ⟨hk, b1, b2⟩)⟩
theorem least_of_isJ {t : Tbl} {i j m : Nat} (h : IsJ t.elems.length (leB t) i j m) : (leastOf t (ubs t i j)).isSome = true := by
 unfold leastOf
 rw [List.find?_isSome]
 exact ⟨m, mem_ubs.2 ⟨h.lt, h.l, h.r⟩, List.all_eq_true.2 fun k hk => h.least k (mem_ubs.1 hk).1 (mem_ubs.1 hk).2.1 (mem_ubs.1 hk).2.2⟩
section
variable {t : Tbl} (hg : Good t) (G : GL t)
include hg G
theorem gl_lat : Lat t.elems.length (leB t) := by
 refine ⟨hg.e1, le_refl t, fun a b c ha hb _ => le_trans' hg ha hb, fun a b ha hb h1 h2 => ?_, G.bot, fun a b ha hb => ?_⟩
 . rcases le_iff.1 h1 with h1 | h1
   . exact h1
   . rcases le_iff.1 h2 with h2 | h2
     . exact h2.symm
     . have := below_trans hg ha hb h1 h2
       rw [G.acy a ha] at this
       cases this
 . obtain ⟨m, hm⟩ := Option.isSome_iff_exists.1 (G.jn a b ha hb)
   have := least_isJ hm
   exact ⟨m, this.lt, this.l, this.r, this.least⟩
omit hg in
theorem join_isJ {i j : Nat} (hi : i < t.elems.length) (hj : j < t.elems.length) : IsJ t.elems.length (leB t) i j (joinN t i j) := by
 obtain ⟨m, hm⟩ := Option.isSome_iff_exists.1 (G.jn i j hi hj)
 unfold joinN
 rw [hm]
 exact least_isJ hm
omit hg in
theorem join_lt {i j : Nat} (hi : i < t.elems.length) (hj : j < t.elems.length) : joinN t i j < t.elems.length := (join_isJ G hi hj).lt
omit hg in
theorem below_lt {a b : Nat} (ha : a < t.elems.length) : belowB t a b = true ↔ a ≠ b /\ leB t a b = true := by
 constructor
 . intro h
   exact ⟨(fun e => by subst e; rw [G.acy a ha] at h; cases h), le_iff.2 (.inr h)⟩
 . rintro ⟨h1, h2⟩
   exact (le_iff.1 h2).resolve_left h1
end
end Go.Proofs.Try

namespace Go.Lat
structure IsHgt (n : Nat) (st : Nat -> Nat -> Bool) (h : Nat -> Nat) : Prop where
 up : ∀ a b, a < n -> b < n -> st a b = true -> h b + 1 <= h a
 some : ∀ a, a < n -> h a = 0 \/ ∃ b, b < n /\ st a b = true /\ h a = h b + 1
end Go.Lat

open Go Go.Apex Go.StepsTo Go.Lat
namespace Go.Proofs.Try
theorem iEq_nat (a b : Nat) : iEq (a : Int) (b : Int) = decide (a = b) := by unfold iEq; rw [Bool.eq_iff_iff]; simp; omega
theorem mem_upto0 {n b : Nat} : b ∈ upto 0 n ↔ b < n := by rw [mem_upto]; omega
theorem delLoop {F : Int -> Int -> List V -> Option T} {p : Nat -> Bool} {l : List Nat}
  (hend : ∀ (i : Nat) (ts : List Nat), i <= l.length -> ts.length = l.length -> F (i : Int) (l.length : Int) (cellsT (natsT ts)) = some (.sl false 1 (natsT (ts.take i))))
  (hkeep : ∀ (i j x : Nat) (ts : List Nat) (r : T), i <= j -> j < l.length -> ts.length = l.length -> ts[j]? = some x -> l[j]? = some x -> p x = true -> F ((i + 1 : Nat) : Int) ((j + 1 : Nat) : Int) (cellsT (natsT (ts.set i x))) = some r -> F (i : Int) (j : Int) (cellsT (natsT ts)) = some r)
  (hdrop : ∀ (i j x : Nat) (ts : List Nat) (r : T), i <= j -> j < l.length -> ts.length = l.length -> ts[j]? = some x -> l[j]? = some x -> p x = false -> F (i : Int) ((j + 1 : Nat) : Int) (cellsT (natsT ts)) = some r -> F (i : Int) (j : Int) (cellsT (natsT ts)) = some r) :
  ∀ j, j <= l.length -> ∀ (i : Nat) (ts : List Nat), i <= j -> ts.length = l.length -> ts.take i = (l.take j).filter p -> ts.drop j = l.drop j -> F (i : Int) (j : Int) (cellsT (natsT ts)) = some (.sl false 1 (natsT (l.filter p))) := by
 refine upto_induct ?_ fun j hj ih => ?_
 . intro i ts hi hl h1 h2
   rw [hend i ts hi hl, h1, List.take_length]
 . intro i ts hi hl h1 h2
   have hx : l[j]? = some (l[j]) := gE hj
   have hts : ts[j]? = some (l[j]) := by
    have e1 : (ts.drop j)[0]? = (l.drop j)[0]? := by rw [h2]
    rw [List.getElem?_drop, List.getElem?_drop] at e1
    simpa [hx] using e1
   have htk : l.take (j + 1) = l.take j ++ [l[j]] := by rw [List.take_add_one, hx]; rfl
   have hdr : ts.drop (j + 1) = l.drop (j + 1) := by
    have := congrArg (List.drop 1) h2
    rwa [List.drop_drop, List.drop_drop] at this
   cases hp : p l[j] with
   | true =>
    refine hkeep i j _ ts _ hi hj hl hts hx hp (ih (i + 1) _ (by omega) (by rw [List.length_set]; exact hl) ?_ ?_)
    . rw [htk, List.filter_append, <- h1, List.filter_cons, hp]
      simp only [if_true, List.filter_nil]
      rw [List.take_add_one, List.take_set_of_le (Nat.le_refl _), List.getElem?_set]
      rw [if_pos rfl, if_pos (by omega)]
      rfl
    . rw [List.drop_set_of_lt (by omega)]
      exact hdr
   | false =>
    refine hdrop i j _ ts _ hi hj hl hts hx hp (ih i ts (by omega) hl ?_ hdr)
    rw [htk, List.filter_append, <- h1, List.filter_cons, hp]
    simp
section
variable {t : Tbl} (hg : Good t) {n : List UInt8} {e a w : T} (h : IsTbl t n e a w)
include hg h
theorem contains_spec2 {y f : T} {l : List Nat} (hy : IsSl (natsT l) y) (hl : l.length < 1000000) {q : Nat -> Bool} (hf : ∀ k ∈ l, callT acfg f [.int .i64 (k : Int)] = some (.bool (q k))) : fnO acfg 105 [y, f] = some (.bool (l.any q)) := by
 apply fn105
 have hix := index_spec2 hy hl hf
 rcases findI_any (l := l) (q := q) with ⟨h1, h2⟩ | ⟨i, hi, h1, h2⟩
 . have hz : iLe 0 (-1) = false := rfl
   simp only [hix, h1, oS, scalar_int, cond_true, int?_int, hz, h2]
 . have hz : iLe 0 (i : Int) = true := decide_eq_true (by omega)
   simp only [hix, h1, oS, scalar_int, cond_true, int?_int, hz, h2]
omit hg h in
theorem zeros_nat (k : Nat) : zeros k (T.int .i64 0) = cellsT (natsT (List.replicate k 0)) := by
 unfold zeros
 induction k with
 | zero => rfl
 | succ k ih => simp only [List.replicate_succ, List.flatten_cons, ih, List.map_cons]; rfl
omit hg h in
theorem clr_take {ts : List Nat} {i : Nat} (hi : i <= ts.length) : clrOK (cellsT (natsT ts)) (rowOff 0 (i : Int) 1) (rowLen (i : Int) (Int.ofNat ts.length)) (T.int .i64 0) = true ∧
  rowT none (clrCs (cellsT (natsT ts)) (rowOff 0 (i : Int) 1) (rowLen (i : Int) (Int.ofNat ts.length)) (T.int .i64 0)) (rowOff 0 0 1) (rowLen 0 (i : Int)) = some (natsT (ts.take i)) := by
 have e1 : rowOff 0 (i : Int) 1 = i := by simp [rowOff]
 have e2 : rowLen (i : Int) (Int.ofNat ts.length) = ts.length - i := by simp [rowLen]
 have e3 : rowOff 0 0 1 = 0 := rfl
 have e4 : rowLen 0 (i : Int) = i := by simp [rowLen]
 rw [e1, e2, e3, e4]
 constructor
 . unfold clrOK
   rw [zeros_nat]
   refine decide_eq_true ?_
   simp only [List.length_map, List.length_replicate]
   omega
 . unfold clrCs setRange
   rw [zeros_nat, <- List.map_take, <- List.map_take, <- List.map_drop, <- List.map_drop, <- List.map_append, <- List.map_append, <- List.map_append, <- List.map_append]
   rw [rowT_cells (one_nats _) (by simp only [List.length_map, List.length_append, List.length_take]; omega)]
   rw [List.drop_zero, <- List.map_take, List.append_assoc, List.take_append_of_le_length (by rw [List.length_take]; omega), List.take_take, Nat.min_self]
end
end Go.Proofs.Try

open Go Go.Apex Go.StepsTo Go.Lat
namespace Go.Proofs.Try
section
variable {t : Tbl} (hg : Good t) (G : GL t) {n : List UInt8} {e a w : T} (h : IsTbl t n e a w)
include hg G h
end
section
variable {t : Tbl} (hg : Good t) (G : GL t)
include hg
include G
end
section
variable {t : Tbl} (hg : Good t) {ps : T} {l : List Nat} (hp : IsSl (natsT l) ps) (hl : l.length <= 12) (hlt : ∀ k ∈ l, k < t.elems.length) {z : Nat} (hz : z < t.elems.length)
include hg hp hl hlt hz
end
end Go.Proofs.Try

open Go Go.Apex Go.StepsTo Go.Lat
namespace Go.Proofs.Try
def errL (t : Tbl) (l : List Int) : Int := if checkB t = true then if (brk t).isSome = true then 12 else if l.all (inB t) = true then 0 else 7 else 4
theorem errL_ok {t : Tbl} {l : List Int} (h : errL t l = 0) : checkB t = true /\ brk t = none /\ ∀ z ∈ l, inB t z = true := by
 unfold errL at h
 split at h
 . rename_i h1
   split at h
   . cases h
   . rename_i h2
     split at h
     . rename_i h3
       exact ⟨h1, by simpa using h2, List.all_eq_true.1 h3⟩
     . cases h
 . cases h
theorem errL_mk {t : Tbl} {l : List Int} (h1 : checkB t = true) (h2 : brk t = none) (h3 : ∀ z ∈ l, inB t z = true) : errL t l = 0 := by
 unfold errL
 rw [if_pos h1, h2, if_neg (by simp), if_pos (List.all_eq_true.2 h3)]
theorem t2a (x y : T) : T.tup? (List.length [74, 30]) (.tup [x, y]) = some [x, y] := rfl
theorem t2b (x y : T) : T.tup? (List.length [3, 30]) (.tup [x, y]) = some [x, y] := rfl
theorem t2d (x y : T) : T.tup? (List.length [3, 4]) (.tup [x, y]) = some [x, y] := rfl
theorem t2e (x y : T) : T.tup? (List.length [33, 4]) (.tup [x, y]) = some [x, y] := rfl
theorem t2f (x y : T) : T.tup? (List.length [33, 30]) (.tup [x, y]) = some [x, y] := rfl
theorem nt1 (x y : T) : nthT [x, y] 1 = y := rfl
theorem nt0 (x y : T) : nthT [x, y] 0 = x := rfl
theorem scib (z : Int) (b : Bool) : T.scalar (.tup [.int .i64 z, .bool b]) = true := rfl
theorem scii (z y : Int) : T.scalar (.tup [.int .i64 z, .int .i64 y]) = true := rfl
theorem ag3 (x y z : T) : T.agg? (List.length [(D.int IntKind.u8), (D.int IntKind.i64), (D.int IntKind.i64)]) (.agg [x, y, z]) = some [x, y, z] := rfl
theorem n30 (x y z : T) : nthT [x, y, z] 0 = x := rfl
theorem n31 (x y z : T) : nthT [x, y, z] 1 = y := rfl
theorem n32 (x y z : T) : nthT [x, y, z] 2 = z := rfl
theorem i00 : iEq 0 0 = true := rfl
theorem i40 : iEq 4 0 = false := rfl
theorem i70 : iEq 7 0 = false := rfl
theorem scbr (k i j m : Int) : T.scalar (.tup [.agg [.int .u8 k, .int .i64 i, .int .i64 j], .int .i64 m]) = true := rfl
section
variable {t : Tbl} {n : List UInt8} {e a w : T} (h : IsTbl t n e a w) (hs : Small t) (ht : thinB t = true)
include h hs ht
theorem lattice_spec {us : T} {l : List Int} (hu : IsSl (ints l) us) (hl : l.length < 1000000) : fnO acfg 64 [tblT n e a w, us] = some (.tup [if errL t l = 0 then ordP t n e a w else .nilp, .int .i64 (errL t l)]) := by
 apply fn64
 cases hc : checkB t with
 | false =>
  have he : errL t l = 4 := by simp [errL, hc]
  simp only [h.v4, cond_true, h.d4, oS, agg4, nth0, nth1, nth2, nth3, str?_str, open_bad h hs hc, t2a, nt1, int?_int, i40, bNot, Bool.not_false, he]
  rfl
 | true =>
  have hg := good_of hc ht
  have ho := open_spec hg h hs
  rw [hc] at ho
  have hsc : T.scalar (outT (brk t)) = true := rfl
  cases hb : brk t with
  | some b =>
   have he : errL t l = 12 := by simp [errL, hc, hb]
   have hbr := broken_spec hg h
   rw [hb] at hbr hsc
   simp only [h.v4, cond_true, h.d4, oS, agg4, nth0, nth1, nth2, nth3, str?_str, ho, t2a, nt0, nt1, int?_int, i00, bNot, Bool.not_true, cond_false, hbr, hsc, outT, t2e, tripT, ag3, n30, n31, n32, tripfits, bool?_bool, he, Option.isSome_some]
   rfl
  | none =>
   have hbr := broken_spec hg h
   rw [hb] at hbr hsc
   have hh := has_spec h hu hl
   cases hz : l.all (inB t) with
   | false =>
    have he : errL t l = 7 := by simp only [errL, hc, hb, hz]; rfl
    rw [hz] at hh
    simp only [h.v4, cond_true, h.d4, oS, agg4, nth0, nth1, nth2, nth3, str?_str, ho, t2a, nt0, nt1, int?_int, i00, bNot, Bool.not_true, cond_false, hbr, hsc, outT, t2e, tripT, ag3, n30, n31, n32, tripfits, bool?_bool, he, Option.isSome_none, hh, scalar_int, i70, Bool.not_false]
    rfl
   | true =>
    have he : errL t l = 0 := by simp only [errL, hc, hb, hz]; rfl
    rw [hz] at hh
    simp only [h.v4, cond_true, h.d4, oS, agg4, nth0, nth1, nth2, nth3, str?_str, ho, t2a, nt0, nt1, int?_int, i00, bNot, Bool.not_true, cond_false, hbr, hsc, outT, t2e, tripT, ag3, n30, n31, n32, tripfits, bool?_bool, he, Option.isSome_none, hh, scalar_int]
    rfl
theorem isLat_spec : fnO acfg 43 [tblT n e a w] = some (.int .i64 (errL t [])) := by
 apply fn43
 have r1 := checkR h hs
 cases hc : checkB t with
 | false =>
  have he : errL t [] = 4 := by simp [errL, hc]
  rw [hc] at r1
  simp only [h.v4, cond_true, h.d4, oS, agg4, nth0, nth1, nth2, nth3, str?_str, proveR_bad h r1, tripT, scbr, t2f, nt0, nt1, ag3, n30, n31, n32, int?_int, tripfits, he]
 | true =>
  have hg := good_of hc ht
  rw [hc] at r1
  have he : errL t [] = bif (brk t).isSome then 12 else 0 := by simp only [errL, hc]; cases brk t <;> rfl
  simp only [h.v4, cond_true, h.d4, oS, agg4, nth0, nth1, nth2, nth3, str?_str, proveR_good hg h hs r1 (rel_spec hg h), tripT, scbr, t2f, nt0, nt1, ag3, n30, n31, n32, int?_int, tripfits, he]
def joinV (t : Tbl) (y z : Int) : Int := if errL t [y, z] = 0 then (joinN t y.toNat z.toNat : Int) else 0
omit h hs ht in
theorem iEq_errL {x : Int} : iEq x 0 = decide (x = 0) := by unfold iEq; rw [Bool.eq_iff_iff]; simp
theorem joinP_spec (y z : Int) : fnO acfg 23 [tblT n e a w, .int .i64 y, .int .i64 z] = some (.tup [.int .i64 (joinV t y z), .int .i64 (errL t [y, z])]) := by
 have hl := lattice_spec h hs ht (us := .sl true 1 [.int .i64 y, .int .i64 z]) (l := [y, z]) (.sl true) (by simp)
 apply fn23
 by_cases he : errL t [y, z] = 0
 . obtain ⟨hc, hb, hin⟩ := errL_ok he
   have hg := good_of hc ht
   obtain ⟨i, rfl, hi⟩ := inB_nat (hin y (by simp))
   obtain ⟨j, rfl, hj⟩ := inB_nat (hin z (by simp))
   rw [he] at hl
   simp only [h.v4, cond_true, h.d4, oS, agg4, nth0, nth1, nth2, nth3, str?_str, hl, t2a, nt0, nt1, int?_int, if_true, i00, bNot, Bool.not_true, cond_false, join_spec2 hg h hi hj, scib, t2d, bool?_bool, joinV, he, Int.toNat_natCast]
 . have hd : decide (errL t [y, z] = 0) = false := decide_eq_false he
   simp only [h.v4, cond_true, h.d4, oS, agg4, nth0, nth1, nth2, nth3, str?_str, hl, t2a, nt0, nt1, int?_int, if_neg he, iEq_errL, hd, bNot, Bool.not_false, joinV]
theorem elemsR {l : List Int} (he0 : errL t [] = 0) : errL t l = 0 ↔ ∀ z ∈ l, inB t z = true := by
 obtain ⟨hc, hb, _⟩ := errL_ok he0
 exact ⟨fun h => (errL_ok h).2.2, errL_mk hc hb⟩
end
end Go.Proofs.Try

open Go Go.Apex Go.StepsTo Go.Lat
namespace Go.Proofs.Try
theorem mode112 : acfg.mode 112 = .scalar := by kernel_rfl
theorem mode113 : acfg.mode 113 = .scalar := by kernel_rfl
theorem mode114 : acfg.mode 114 = .scalar := by kernel_rfl
def nextN (t : Tbl) (k : Nat) : List Nat := ((upto 0 t.elems.length).filter (belowB t k)).filter fun x => !(((upto 0 t.elems.length).filter (belowB t k)).any fun b => !decide (x = b) && leB t b x)
section
variable {t : Tbl} (hg : Good t) {n : List UInt8} {e a w : T} (h : IsTbl t n e a w)
include hg h
theorem clo112 {k i : Nat} (hk : k < t.elems.length) (hi : i < t.elems.length) : callT acfg (.fn (.func 112) [] [.ptr (ordP t n e a w), .ptr (.int .i64 (k : Int))]) [.int .i64 (i : Int)] = some (.bool (belowB t k i)) := by
 refine callT_scalar mode112 ?_ rfl
 apply fn112
 have hd : derefT none (.ptr (ordP t n e a w)) = some (ordP t n e a w) := rfl
 simp only [hd, oS, ord_isPtr, cond_true, ord_f4, ord_d4, deref_int, int?_int, ord_row hk, ord_rowd, row_at hi, deref_bool, bool?_bool]
theorem clo114 {x b : Nat} (hx : x < t.elems.length) (hb : b < t.elems.length) : callT acfg (.fn (.func 114) [] [.ptr (.int .i64 (x : Int)), .ptr (ordP t n e a w)]) [.int .i64 (b : Int)] = some (.bool (!decide (x = b) && leB t b x)) := by
 refine callT_scalar mode114 ?_ rfl
 apply fn114
 have hd : derefT none (.ptr (ordP t n e a w)) = some (ordP t n e a w) := rfl
 simp only [hd, oS, deref_int, int?_int, isBelow_spec hb hx, scalar_bool, cond_true, bool?_bool, iEq_nat]
 cases decide (x = b) <;> simp [bNot]
theorem clo113 {y : T} {l : List Nat} (hy : IsSl (natsT l) y) (hl : l.length < 1000000) (hlt : ∀ k ∈ l, k < t.elems.length) {x : Nat} (hx : x < t.elems.length) : callT acfg (.fn (.func 113) [] [.ptr y, .ptr (ordP t n e a w)]) [.int .i64 (x : Int)] = some (.bool (l.any fun b => !decide (x = b) && leB t b x)) := by
 refine callT_scalar mode113 ?_ rfl
 apply fn113
 have := contains_spec2 hg h hy hl (f := .fn (.func 114) [] [.ptr (.int .i64 (x : Int)), .ptr (ordP t n e a w)]) (q := fun b => !decide (x = b) && leB t b x) fun k hk => clo114 hg h hx (hlt k hk)
 simp only [deref_one hy.one, oS, this, scalar_bool, cond_true, bool?_bool]
theorem next_spec {k : Nat} (hk : k < t.elems.length) : ∃ z, fnO acfg 82 [ordP t n e a w, .int .i64 (k : Int)] = some z /\ IsSl (natsT (nextN t k)) z := by
 have h12 := hg.e12
 obtain ⟨l, hle⟩ : ∃ l, l = (upto 0 t.elems.length).filter (belowB t k) := ⟨_, rfl⟩
 have hl : l.length <= 12 := by rw [hle]; exact Nat.le_trans (List.length_filter_le _ _) (by simp only [upto, List.length_range']; omega)
 have hlt : ∀ k ∈ l, k < t.elems.length := fun k hk => by rw [hle] at hk; exact mem_upto0.1 (List.mem_filter.1 hk).1
 obtain ⟨y, y1, hy⟩ := where_spec hg h (f := .fn (.func 112) [] [.ptr (ordP t n e a w), .ptr (.int .i64 (k : Int))]) fun i hi => clo112 hg h hk hi
 rw [<- hle] at hy
 have hnx : nextN t k = l.filter fun x => !(l.any fun b => !decide (x = b) && leB t b x) := by rw [hle]; rfl
 rw [hnx]
 have hd0 : derefT none (.ptr (ordP t n e a w)) = some (ordP t n e a w) := rfl
 have hy1 : oneT y = true := hy.one
 have vy : vfits (V.t y) none = true := vfits_one hy.one
 have hdy : derefT none (.ptr y) = some y := deref_one hy.one
 have v1 : vfits (V.t (ordP t n e a w)) none = true := rfl
 have hix := fun (z : T) (hz : IsSl (natsT l) z) => index_spec2 (f := .fn (.func 113) [] [.ptr y, .ptr (ordP t n e a w)]) (q := fun x => l.any fun b => !decide (x = b) && leB t b x) hz (by omega) fun k hk => clo113 hg h hy (by omega) hlt (hlt k hk)
 cases hy with
 | nil h0 =>
  obtain ⟨hh, hc⟩ := row_tree rowOf_nil
  have h00 : l = [] := List.map_eq_nil_iff.1 h0
  subst h00
  refine ⟨.nils, ?_, .nil rfl⟩
  apply fn82
  have hi := hix .nils (.nil rfl)
  have hf : findI (fun i => (fun x => ([] : List Nat).any fun b => !decide (x = b) && leB t b x) (([] : List Nat).getD i 0)) 0 ([] : List Nat).length = -1 := rfl
  rw [hf] at hi
  have hdn : derefT none (.ptr .nils) = some .nils := rfl
  have vn : vfits (V.t T.nils) none = true := rfl
  have hm : iEq (-1) (-1) = true := rfl
  simp only [v1, vy, hdy, hd0, y1, hy1, vn, cond_true, hdn, oS, hc, treeV, freshTree, Bool.true_or, if_true, hi, scalar_int, int?_int, hm]
 | sl ex =>
  obtain ⟨p, p1, p2, p3⟩ := row_fresh (sh := none) (rowOf_sl ex l (by omega))
  have vn : vfits (V.t (T.sl ex 1 (natsT l))) none = true := rfl
  have hdn : derefT none (.ptr (T.sl ex 1 (natsT l))) = some (T.sl ex 1 (natsT l)) := rfl
  have hrow : rowT none (cellsT (natsT l)) 0 l.length = some (natsT l) := by
   have := rowT_all (one_nats l)
   rwa [List.length_map] at this
  have hi := hix (.sl false 1 (natsT l)) (.sl false)
  have n11 : natEq 1 1 = true := rfl
  rcases findI_any (l := l) (q := fun x => l.any fun b => !decide (x = b) && leB t b x) with ⟨h1, h2⟩ | ⟨q, hq, h1, h2⟩
  . refine ⟨.sl false 1 (natsT l), ?_, ?_⟩
    . apply fn82
      rw [h1] at hi
      have hm : iEq (-1) (-1) = true := rfl
      simp only [v1, vy, hdy, hd0, y1, hy1, vn, cond_true, hdn, oS, p1, p2, cond_false, p3 true (.inl rfl), n11, hrow, hi, scalar_int, int?_int, hm]
    . have : (l.filter fun x => !(l.any fun b => !decide (x = b) && leB t b x)) = l := by
       rw [List.filter_eq_self]
       intro x hx
       rw [List.any_eq_false] at h2
       simpa using h2 x hx
      rw [this]
      exact .sl _
  . refine ⟨.sl false 1 (natsT ((l.filter fun x => !(l.any fun b => !decide (x = b) && leB t b x)))), ?_, .sl _⟩
    apply fn82
    rw [h1] at hi
    have hm : iEq (q : Int) (-1) = false := by simp [iEq]
    have hfirst : (l.take q).filter (fun x => !(l.any fun b => !decide (x = b) && leB t b x)) = l.take q := by
     rw [List.filter_eq_self]
     intro x hx
     obtain ⟨j, hj, he⟩ := List.getElem_of_mem hx
     rw [List.length_take] at hj
     have hfi := h1
     unfold findI at hfi
     cases hf : (upto 0 l.length).find? (fun i => l.any fun b => !decide (l.getD i 0 = b) && leB t b (l.getD i 0)) with
     | none => rw [hf] at hfi; simp only at hfi; omega
     | some k =>
      rw [hf] at hfi
      simp only [Int.natCast_inj] at hfi
      subst hfi
      obtain ⟨_, l1, l2, e2, e3⟩ := List.find?_eq_some_iff_append.1 hf
      have hk : j ∈ l1 := by
       have hm : j ∈ upto 0 l.length := mem_upto.2 ⟨by omega, by omega⟩
       rw [e2] at hm
       have hsort : (upto 0 l.length).Pairwise (· < ·) := by unfold upto; exact List.pairwise_lt_range'
       rw [e2, List.pairwise_append] at hsort
       rcases List.mem_append.1 hm with hm | hm
       . exact hm
       . rcases List.mem_cons.1 hm with rfl | hm
         . omega
         . have := (List.pairwise_cons.1 hsort.2.1).1 j hm
           omega
      have := e3 j hk
      have hg2 : l.getD j 0 = x := by
       rw [gD, gE (by omega)]
       rw [List.getElem_take] at he
       exact he
      rw [hg2] at this
      simpa using this
    have hbad : (fun x => !(l.any fun b => !decide (x = b) && leB t b x)) l[q] = false := by
     have hfi := h1
     unfold findI at hfi
     cases hf : (upto 0 l.length).find? (fun i => l.any fun b => !decide (l.getD i 0 = b) && leB t b (l.getD i 0)) with
     | none => rw [hf] at hfi; simp only at hfi; omega
     | some k =>
      rw [hf] at hfi
      simp only [Int.natCast_inj] at hfi
      subst hfi
      have := List.find?_some hf
      have hg2 : l.getD k 0 = l[k] := by rw [gD, gE hq]; rfl
      rw [hg2] at this
      simp [this]
    have hloop := delLoop (F := fun i j cs => L82_2 (ordP t n e a w) (k : Int) (.ptr (ordP t n e a w)) (k : Int) (.ptr (T.sl ex 1 (natsT l))) (.ptr (T.sl ex 1 (natsT l))) (.ptr (ordP t n e a w)) (ordP t n e a w) (.ptr (ordP t n e a w)) (k : Int) (T.sl ex 1 (natsT l)) (.ptr (T.sl ex 1 (natsT l))) (.ptr (ordP t n e a w)) (T.sl ex 1 (natsT l)) 1 0 l.length (.ptr (T.sl ex 1 (natsT l))) (.ptr (ordP t n e a w)) 1 0 l.length (.ptr (T.sl ex 1 (natsT l))) (.ptr (ordP t n e a w)) i j 1 cs)
     (p := fun x => !(l.any fun b => !decide (x = b) && leB t b x)) (l := l)
     (fun i ts hi2 hl2 => by
      obtain ⟨c1, c2⟩ := clr_take (ts := ts) (i := i) (by omega)
      rw [hl2] at c1 c2
      have s1 : subOK (i : Int) (Int.ofNat l.length) l.length = true := decide_eq_true (by simp only [Int.ofNat_eq_natCast]; omega)
      have s2 : subOK 0 (i : Int) l.length = true := decide_eq_true (by omega)
      have n1 : nInt l.length = (l.length : Int) := rfl
      apply L82_2_step
      simp only [n1, iLt_end, cond_false, s1, s2, natEq_self, cond_true, c1, c2, oS])
     (fun i j x ts r hij hj hl2 hts hlx hp hr => by
      have hx : x ∈ l := List.mem_of_getElem? hlx
      have n1 : nInt l.length = (l.length : Int) := rfl
      have hc := clo113 hg h (y := T.sl ex 1 (natsT l)) (.sl ex) (by omega) hlt (hlt x hx)
      have hat : rowS none (cellsT (natsT ts)) (0 + j) = some (.int .i64 (x : Int)) := rowS_cells (by rw [Nat.zero_add, List.getElem?_map, hts]; rfl)
      have hok : rowSetOK (cellsT (natsT ts)) (0 + i) [V.t (T.int .i64 (x : Int))].length = true := rowSetOK_lt (by rw [List.length_map]; omega)
      have hset : rowSet (cellsT (natsT ts)) (0 + i) [V.t (T.int .i64 (x : Int))] = cellsT (natsT (ts.set i x)) := by
       rw [rowSet_cells (by rw [List.length_map]; omega), Nat.zero_add, natsT, natsT, List.map_set]
      have hp' : (l.any fun b => !decide (x = b) && leB t b x) = false := by simpa using hp
      rw [hp'] at hc
      apply L82_2_step
      simp only [n1, iLt_len hj, cond_true, rowIn_lt hj, rowIn_lt (show i < l.length by omega), natEq_self, rowOff_1, hat, oS, int?_int, hc, bool?_bool, bNot, Bool.not_false, hok, hset, objBd_cells, iAdd_nat (show i < 1000000 by omega), iAdd_nat (show j < 1000000 by omega)]
      exact hr)
     (fun i j x ts r hij hj hl2 hts hlx hp hr => by
      have hx : x ∈ l := List.mem_of_getElem? hlx
      have n1 : nInt l.length = (l.length : Int) := rfl
      have hc := clo113 hg h (y := T.sl ex 1 (natsT l)) (.sl ex) (by omega) hlt (hlt x hx)
      have hat : rowS none (cellsT (natsT ts)) (0 + j) = some (.int .i64 (x : Int)) := rowS_cells (by rw [Nat.zero_add, List.getElem?_map, hts]; rfl)
      have hp' : (l.any fun b => !decide (x = b) && leB t b x) = true := by simpa using hp
      rw [hp'] at hc
      apply L82_2_step
      simp only [n1, iLt_len hj, cond_true, rowIn_lt hj, natEq_self, rowOff_1, hat, oS, int?_int, hc, bool?_bool, bNot, Bool.not_true, cond_false, objBd_cells, iAdd_nat (show j < 1000000 by omega)]
      exact hr)
     (q + 1) (by omega) q l (by omega) rfl (by rw [List.take_add_one, gE hq, List.filter_append, hfirst]; simp only [Option.toList_some, List.filter_cons, hbad, Bool.false_eq_true, if_false, List.filter_nil, List.append_nil]) rfl
    simp only [v1, vy, hdy, hd0, y1, hy1, vn, cond_true, hdn, oS, p1, p2, cond_false, p3 true (.inl rfl), n11, hrow, hi, scalar_int, int?_int, hm, objBd_cells, iAdd_nat (show q < 1000000 by omega)]
    exact hloop
end
end Go.Proofs.Try

open Go Go.Apex Go.StepsTo Go.Lat
namespace Go.Proofs.Try
theorem inB_mk {t : Tbl} {k : Nat} (h : k < t.elems.length) : inB t (k : Int) = true := by
 simp only [inB, Bool.and_eq_true, decide_eq_true_eq]; omega
section
variable {t : Tbl} {n : List UInt8} {e a w : T} (h : IsTbl t n e a w) (hs : Small t) (ht : thinB t = true)
include h hs ht
theorem join22_spec {i j : Nat} (he : errL t [] = 0) (hi : i < t.elems.length) (hj : j < t.elems.length) : fnO acfg 22 [tblT n e a w, .int .i64 (i : Int), .int .i64 (j : Int)] = some (.int .i64 (joinN t i j : Int)) := by
 obtain ⟨e', a', w', c1, c2⟩ := copy_spec h hs
 obtain ⟨hc, hb, _⟩ := errL_ok he
 have hg := good_of hc ht
 have h12 := hg.e12
 have G := (brk_none t hg.e1).1 hb
 have hJ := joinP_spec c2 hs ht (i : Int) (j : Int)
 have he2 : errL t [(i : Int), (j : Int)] = 0 := errL_mk hc hb fun z hz => by
  rcases List.mem_cons.1 hz with rfl | hz
  . exact inB_mk hi
  . have : z = (j : Int) := by simpa using hz
    subst this; exact inB_mk hj
 have hE := isElemR h (z := (joinN t i j : Int)) hg.e1 (by omega)
 rw [inB_mk (join_lt G hi hj)] at hE
 simp only [joinV, he2, if_true, Int.toNat_natCast] at hJ
 apply fn22
 simp only [h.v4, cond_true, h.d4, oS, agg4, nth0, nth1, nth2, nth3, str?_str, c1, hJ, scii, t2b, nt0, nt1, int?_int, i00, bNot, Bool.not_true, cond_false, hE, scalar_bool, bool?_bool]
end
structure Rt (t : Tbl) : Prop where
 th : thinB t = true
 er : errL t [] = 0
 hc : checkB t = true
 hb : brk t = none
section
variable {t : Tbl} {n : List UInt8} {e a w : T} (h : IsTbl t n e a w) (R : Rt t)
include h R
omit h in
theorem Rt.s : Small t := small_of_thin R.th
omit h in
theorem Rt.g : Good t := good_of R.hc R.th
omit h in
theorem Rt.l : GL t := (brk_none t (good_of R.hc R.th).e1).1 R.hb
theorem jn {i j : Nat} (hi : i < t.elems.length) (hj : j < t.elems.length) : fnO acfg 22 [tblT n e a w, .int .i64 (i : Int), .int .i64 (j : Int)] = some (.int .i64 (joinN t i j : Int)) := join22_spec h (small_of_thin R.th) R.th R.er hi hj
end
section
variable {t : Tbl} (hg : Good t) (G : GL t)
include hg G
end
section
variable {t : Tbl} {n : List UInt8} {e a w : T} (h : IsTbl t n e a w) (R : Rt t)
include h R
end
end Go.Proofs.Try

open Go Go.Apex Go.StepsTo Go.Lat
namespace Go.Proofs.Try
def slimT (t : Tbl) : Tbl := ⟨t.name, t.elems, (upto 0 t.elems.length).map (fun k => (nextN t k).map Int.ofNat), t.wrong⟩
theorem slim_al (t : Tbl) : (slimT t).above.length = t.elems.length := by simp [slimT, upto]
theorem slim_at {t : Tbl} {k : Nat} (hk : k < t.elems.length) : (slimT t).above.getD k [] = (nextN t k).map Int.ofNat := by
 rw [gD]
 simp only [slimT, List.getElem?_map, upto_get hk, Option.map_some, Option.getD_some]
theorem cl_parts {xs : List T} (ho : OneL xs) {bytes : Nat} (hs : xs.length * (bytes + 1) <= maxBytes) : appOK [] 0 0 1 (cellsT xs) bytes = true /\ appCs [] 0 (cellsT xs) = cellsT xs /\ appOff 0 (cellsT xs) = 0 /\ appLen 0 (cellsT xs) = xs.length := by
 refine ⟨appOK_row (cs := []) rfl (by rw [Nat.zero_add]; exact hs), ?_, ?_, ?_⟩
 . cases xs with
   | nil => rfl
   | cons c l => exact appCs_one (cs := []) (off := 0) ho (by simp)
 . cases xs <;> rfl
 . cases xs with
   | nil => rfl
   | cons c l => show 0 + ((c :: l).map V.t).length = _; simp
theorem clone80 {xs : List T} {x : T} (hx : IsSl xs x) (ho : OneL xs) (hs : xs.length * 17 <= maxBytes) : ∃ p, callO acfg 80 [x] = some p /\ ∃ y, IsSl xs y /\ ((treeV p.1 = true /\ freshTree true p = some y) \/ (treeV p.1 = false /\ ∃ q, freshRow true 9 none p = some q /\ treeOf none q.2.2 q.1 q.2.1 = some y)) := by
 obtain ⟨h2, h4, h5, h6⟩ := cl_parts ho hs
 cases hx with
 | nil h0 =>
  obtain ⟨hh, hc⟩ := row_tree (f := 80) (xs := [.nils]) (x := .nils) (by apply row80; rfl)
  exact ⟨_, hc, .nils, .nil h0, .inl ⟨rfl, rfl⟩⟩
 | sl ex =>
  have h1 : nilT (D.slice 9) (.sl ex 1 xs) = some false := rfl
  have h3 : elemsT none (.sl ex 1 xs) = some (cellsT xs) := elemsT_sl (.sl ex) ho
  obtain ⟨p, p1, p2, p3⟩ := row_fresh (sh := none) (f := 80) (xs := [.sl ex 1 xs]) (e := 9) (off := 0) (len := xs.length) (ys := xs) (by
   apply row80
   simp only [h1, oS, cond_false, h3, cond_true, h2, Nat.beq_refl, h4, allT_cells, h5, h6]
   rfl)
  refine ⟨p, p1, .sl false 1 xs, .sl false, .inr ⟨p2, _, p3 true (.inl rfl), ?_⟩⟩
  exact treeOf_cells ho
theorem clone81 {xs : List T} {x : T} (hx : IsSl xs x) (ho : OneL xs) (hs : xs.length * 2 <= maxBytes) : ∃ p, callO acfg 81 [x] = some p /\ ∃ y, IsSl xs y /\ ((treeV p.1 = true /\ freshTree true p = some y) \/ (treeV p.1 = false /\ ∃ q, freshRow true 4 none p = some q /\ treeOf none q.2.2 q.1 q.2.1 = some y)) := by
 obtain ⟨h2, h4, h5, h6⟩ := cl_parts ho hs
 cases hx with
 | nil h0 =>
  obtain ⟨hh, hc⟩ := row_tree (f := 81) (xs := [.nils]) (x := .nils) (by apply row81; rfl)
  exact ⟨_, hc, .nils, .nil h0, .inl ⟨rfl, rfl⟩⟩
 | sl ex =>
  have h1 : nilT (D.slice 4) (.sl ex 1 xs) = some false := rfl
  have h3 : elemsT none (.sl ex 1 xs) = some (cellsT xs) := elemsT_sl (.sl ex) ho
  obtain ⟨p, p1, p2, p3⟩ := row_fresh (sh := none) (f := 81) (xs := [.sl ex 1 xs]) (e := 4) (off := 0) (len := xs.length) (ys := xs) (by
   apply row81
   simp only [h1, oS, cond_false, h3, cond_true, h2, Nat.beq_refl, h4, allT_cells, h5, h6]
   rfl)
  refine ⟨p, p1, .sl false 1 xs, .sl false, .inr ⟨p2, _, p3 true (.inl rfl), ?_⟩⟩
  exact treeOf_cells ho
theorem slim_spec {t : Tbl} {n : List UInt8} {e a w : T} (h : IsTbl t n e a w) (R : Rt t) : ∃ e' a' w', fnO acfg 39 [tblT n e a w] = some (.tup [tblT n e' a' w', .int .i64 0]) /\ IsTbl (slimT t) n e' a' w' := by
 have hs : Small t := small_of_thin R.th
 have hg : Good t := good_of R.hc R.th
 have h12 := hg.e12
 have h1e := hg.e1
 obtain ⟨p, p1, e', e2, pc⟩ := clone80 h.e (one_str t.elems) (by have := hs.e; rw [List.length_map, maxB]; omega)
 obtain ⟨q, q1, w', w2, qc⟩ := clone81 h.w (one_bool t.wrong) (by have := hs.w; rw [List.length_map, maxB]; omega)
 have v4 : ∀ y : T, y.one = true -> vfits (.t (T.agg [.str n, e', y, w'])) (some 4) = true := fun y hy => by
  show (true && (4 == 4) && ((T.str n).one && (e'.one && (y.one && (w'.one && true))))) = true
  rw [e2.one, hy, w2.one]
  rfl
 have vm : ∀ (i g o l : Nat), vfits (.agg [.t (T.str n), .t e', .msl i g o l none, .t w']) (some 4) = true := fun i g o l => by
  show (true && (4 == 4) && ((T.str n).one && (e'.one && (true && (w'.one && true))))) = true
  rw [e2.one, w2.one]
  rfl
 have sal := slim_al t
 have nx : ∀ i, i < t.elems.length -> ∃ z, fnO acfg 82 [ordP t n e a w, .int .i64 (i : Int)] = some z /\ IsSl (ints ((slimT t).above.getD i [])) z := fun i hi => by
  obtain ⟨z, z1, z2⟩ := next_spec hg h hi
  exact ⟨z, z1, by rw [slim_at hi, ints_nats]; exact z2⟩
 have two : ∀ i, i <= t.elems.length -> ∀ (rs : List T) (g : Nat), rs.length = i -> 1 <= i -> RowsTo (slimT t) rs -> ∃ a', L39_2 (ordP t n e a w) (t.elems.length : Int) (i : Int) [] n e' g 0 i w' g (cellsT rs) = some (.tup [tblT n e' a' w', .int .i64 0]) /\ IsTbl (slimT t) n e' a' w' := by
  refine upto_induct ?_ fun i hi ih => ?_
  . intro rs g hl h1 hr
    refine ⟨.sl false 1 rs, ?_, h.n, e2, ⟨rs, .sl _, by omega, fun i hi => hr.r i (by omega)⟩, w2⟩
    apply L39_2_step
    have hrow := rowT_all hr.one
    rw [hl] at hrow
    simp only [iLt_end, cond_false, vm, cond_true, natEq_self, hrow, oS]
  . intro rs g hl h1 hr
    obtain ⟨y, y1, y2⟩ := nx i hi
    obtain ⟨a', ha, hb⟩ := ih (rs ++ [y]) (g + 1) (by simp [hl]) (by omega) (hr.snoc (by omega) (by rw [hl]; exact y2))
    refine ⟨a', ?_, hb⟩
    apply L39_2_step
    have hok : appOK (cellsT rs) 0 i 1 [V.t y] 24 = true := appOK_row (ys := [y]) (by omega) (by rw [maxB]; simp; omega)
    have hcs : appCs (cellsT rs) 0 [V.t y] = cellsT (rs ++ [y]) := by
     have := appCs_one (cs := rs) (ys := [y]) (off := 0) (OneL.cons y2.one OneL.nil) (by simp)
     simpa using this
    have hobj : ∀ g, objBd 37 (Go.Apex.Obj.cells g 38 false (cellsT (rs ++ [y]))) = true := fun g => objBd_cells _ _ _ _ _
    simp only [iLt_len hi, cond_true, y1, oS, vfits_one y2.one, natEq_self, hok, hcs, hobj, iAdd_nat (show i < 1000000 by omega), appGen_one, appLen_one, ha]
 have res : ∃ a', L39_1 (ordP t n e a w) (t.elems.length : Int) 0 [] n e' w' = some (.tup [tblT n e' a' w', .int .i64 0]) /\ IsTbl (slimT t) n e' a' w' := by
  obtain ⟨y, y1, y2⟩ := nx 0 (by omega)
  have hr0 : RowsTo (slimT t) ([] : List T) := ⟨by simp, fun i hi => by simp at hi⟩
  obtain ⟨a', ha, hb⟩ := two 1 (by omega) [y] 1 rfl (Nat.le_refl _) (hr0.snoc (by simp; omega) y2)
  refine ⟨a', ?_, hb⟩
  apply L39_1_step
  have hz : iLt 0 (t.elems.length : Int) = true := by simp [iLt]; omega
  have hrow : rowNew [] [V.t y] = cellsT [y] := rowNew_one (xs := []) (ys := [y]) OneL.nil (OneL.cons y2.one OneL.nil)
  have hobj : objBd 37 (Go.Apex.Obj.cells 1 38 false (cellsT [y])) = true := objBd_cells _ _ _ _ _
  have hi1 : iAdd IntKind.i64 0 1 = ((1 : Nat) : Int) := by decide
  simp only [Int.ofNat_zero, Int.natCast_zero] at y1
  simp only [hz, cond_true, y1, oS, vfits_one y2.one, hrow, hobj, hi1, ha]
 obtain ⟨a', r1, r2⟩ := res
 refine ⟨e', a', w', ?_, r2⟩
 have hl := lattice_spec h hs R.th (us := .nils) (l := []) (.nil rfl) (by simp)
 simp only [R.er, if_true] at hl
 have hi0 : bNot (iEq 0 0) = false := rfl
 apply fn39
 simp only [h.v4, cond_true, h.d4, agg4, nth0, nth1, nth2, nth3, str?_str, oS, hl, t2a, nt1, nt0, int?_int, hi0, cond_false, h.f1, h.d1, h.f3, h.d3, p1, q1]
 rcases pc with ⟨pt, pf⟩ | ⟨pt, pr, pf, pg⟩ <;> rcases qc with ⟨qt, qf⟩ | ⟨qt, qr, qf, qg⟩
 . simp only [pt, cond_true, pf, oS, qt, qf, vfits_one e2.one, vfits_one w2.one, v4 T.nils rfl, h.e.lenD, r1]
 . simp only [pt, cond_true, pf, oS, qt, qf, qg, cond_false, vfits_one e2.one, vfits_one w2.one, v4 T.nils rfl, h.e.lenD, r1]
 . simp only [pt, cond_true, pf, pg, oS, qt, qf, cond_false, vfits_one e2.one, vfits_one w2.one, v4 T.nils rfl, h.e.lenD, r1]
 . simp only [pt, cond_true, pf, pg, oS, qt, qf, qg, cond_false, vfits_one e2.one, vfits_one w2.one, v4 T.nils rfl, h.e.lenD, r1]
end Go.Proofs.Try

open Go Go.Apex Go.StepsTo Go.Lat
namespace Go.Proofs.Try
theorem form_of {t u : Tbl} (R : Rt t) (bs : Nat -> List Nat) (hn : u.name = t.name) (he : u.elems = t.elems) (hw : u.wrong = t.wrong) (ha : u.above.length = t.elems.length) (hr : ∀ k, k < t.elems.length -> u.above.getD k [] = (bs k).map Int.ofNat)
  (hb : ∀ k, k < t.elems.length -> (∀ b ∈ bs k, b < t.elems.length) /\ (bs k).Pairwise (· < ·) /\ (bs k).length <= 12) : thinB u = true /\ checkB u = true /\ ∀ k, k < t.elems.length -> adjN u k = bs k := by
 have hth := R.th
 have hc := R.hc
 have hal : t.above.length = t.elems.length := (good_of R.hc R.th).a
 refine ⟨?_, ?_, fun k hk => ?_⟩
 . simp only [thinB, hn, he, hw, ha, Bool.and_eq_true, decide_eq_true_eq, List.all_eq_true, mem_upto] at hth ⊢
   refine ⟨⟨⟨⟨⟨hth.1.1.1.1.1, by rw [<- hal]; exact hth.1.1.1.1.2⟩, hth.1.1.1.2⟩, hth.1.1.2⟩, hth.1.2⟩, fun k hk => ?_⟩
   rw [hr k hk.2, List.length_map]
   have := (hb k hk.2).2.2
   omega
 . simp only [checkB, hn, he, hw, ha, Bool.and_eq_true, decide_eq_true_eq, List.all_eq_true, mem_upto] at hc ⊢
   refine ⟨⟨⟨⟨⟨⟨hc.1.1.1.1.1.1, hc.1.1.1.1.1.2⟩, hc.1.1.1.1.2⟩, trivial⟩, hc.1.1.2⟩, hc.1.2⟩, fun k hk => ?_⟩
   obtain ⟨b1, b2, b3⟩ := hb k hk.2
   rw [hr k hk.2]
   have hat : ∀ i, i < (bs k).length -> ((bs k).map Int.ofNat).getD i 0 = (((bs k).getD i 0 : Nat) : Int) := fun i hi => by
    rw [gD, List.getElem?_map, gE hi, gD, gE hi]; rfl
   simp only [listB, elemB, greaterB, Bool.and_eq_true, Bool.or_eq_true, decide_eq_true_eq, List.all_eq_true, mem_upto, List.length_map]
   refine ⟨fun i hi => ?_, fun i hi => ?_⟩
   . rw [hat i hi.2]
     refine ⟨by omega, ?_⟩
     have := b1 ((bs k).getD i 0) (by rw [gD, gE hi.2]; exact List.getElem_mem hi.2)
     omega
   . by_cases h0 : i = 0
     . exact .inl h0
     . right
       rw [hat i hi.2, hat (i - 1) (by omega)]
       have := List.pairwise_iff_getElem.1 b2 (i - 1) i (by omega) hi.2 (by omega)
       rw [gD, gE (show i - 1 < (bs k).length by omega), gD, gE hi.2]
       simp only [Option.getD_some]
       omega
 . unfold adjN
   rw [hr k hk, List.map_map]
   exact (List.map_congr_left fun x _ => by simp).trans (List.map_id _)
theorem next_lt {t : Tbl} {k b : Nat} (hb : b ∈ nextN t k) : b < t.elems.length := mem_upto0.1 (List.mem_filter.1 (List.mem_filter.1 hb).1).1
theorem next_sorted (t : Tbl) (k : Nat) : (nextN t k).Pairwise (· < ·) := by
 unfold nextN
 refine List.Pairwise.filter _ (List.Pairwise.filter _ ?_)
 unfold upto
 exact List.pairwise_lt_range'
section
variable {t : Tbl} (R : Rt t)
include R
theorem next_len (k : Nat) : (nextN t k).length <= 12 := by
 have h12 := R.g.e12
 unfold nextN
 refine Nat.le_trans (List.length_filter_le _ _) (Nat.le_trans (List.length_filter_le _ _) ?_)
 simp only [upto, List.length_range']
 omega
theorem mem_next {k b : Nat} (hk : k < t.elems.length) : b ∈ nextN t k ↔ Cov (adjN t) k b := by
 have hg := R.g
 have G := R.l
 simp only [nextN, List.mem_filter, mem_upto0, Bool.not_eq_true', List.any_eq_false, Bool.and_eq_true, Bool.not_eq_true', decide_eq_false_iff_not, not_and]
 constructor
 . rintro ⟨⟨h1, h2⟩, h3⟩
   refine ⟨(below_R hg hk b).1 h2, fun c r1 r2 => ?_⟩
   have hc := r1.lt hg.adj_lt hk
   have hcb := (below_R hg hc b).2 r2
   refine h3 c ⟨hc, (below_R hg hk c).2 r1⟩ (fun e => ?_) (le_iff.2 (.inr hcb))
   subst e
   rw [G.acy b h1] at hcb
   cases hcb
 . rintro ⟨r, no⟩
   have hb := r.lt hg.adj_lt hk
   refine ⟨⟨hb, (below_R hg hk b).2 r⟩, fun c hc hne hle => ?_⟩
   rcases le_iff.1 hle with e | hcb
   . exact hne e.symm
   . exact no c ((below_R hg hk c).1 hc.2) ((below_R hg hc.1 b).1 hcb)
theorem slim_form : thinB (slimT t) = true /\ checkB (slimT t) = true /\ ∀ k, k < t.elems.length -> adjN (slimT t) k = nextN t k :=
 form_of R (nextN t) rfl rfl rfl (slim_al t) (fun _ hk => slim_at hk) fun k _ => ⟨fun _ hb => next_lt hb, next_sorted t k, next_len R k⟩
theorem slim_good : Good (slimT t) := good_of (slim_form R).2.1 (slim_form R).1
theorem mu_t : ∀ a b, a < t.elems.length -> b < t.elems.length -> Go.StepsTo.R (adjN t) a b -> upn t.elems.length (leB t) b < upn t.elems.length (leB t) a := fun a b ha hb h =>
 (gl_lat R.g R.l).upn_lt ha hb ((below_lt R.l ha).1 ((below_R R.g ha b).2 h))
theorem slim_cov : ∀ a, a < t.elems.length -> ∀ b, b ∈ adjN (slimT t) a ↔ Cov (adjN t) a b := fun a ha b => by rw [(slim_form R).2.2 a ha]; exact mem_next R ha
theorem slim_below {a : Nat} (ha : a < t.elems.length) (b : Nat) : belowB (slimT t) a b = belowB t a b := by
 rw [Bool.eq_iff_iff, below_R (slim_good R) ha b, below_R R.g ha b]
 exact cov_same R.g.adj_lt (slim_cov R) (mu_t R) ha b
theorem slim_le {a : Nat} (ha : a < t.elems.length) (b : Nat) : leB (slimT t) a b = leB t a b := by unfold leB; rw [slim_below R ha b]
theorem slim_isJ {i j m : Nat} (hi : i < t.elems.length) (hj : j < t.elems.length) (h : IsJ t.elems.length (leB t) i j m) : IsJ t.elems.length (leB (slimT t)) i j m :=
 ⟨h.lt, by rw [slim_le R hi]; exact h.l, by rw [slim_le R hj]; exact h.r, fun k hk h1 h2 => by rw [slim_le R h.lt]; exact h.least k hk (by rwa [slim_le R hi] at h1) (by rwa [slim_le R hj] at h2)⟩
theorem slim_rt : Rt (slimT t) := by
 obtain ⟨f1, f2, _⟩ := slim_form R
 have hb : brk (slimT t) = none := by
  refine (brk_none (slimT t) R.g.e1).2 ⟨fun k hk => ?_, fun k hk => ?_, fun i j hi hj => ?_, R.l.w0, fun i j hi hj h1 h2 => ?_⟩
  . rw [slim_below R hk]; exact R.l.acy k hk
  . rw [slim_le R R.g.e1]; exact R.l.bot k hk
  . obtain ⟨m, hm⟩ := Option.isSome_iff_exists.1 (R.l.jn i j hi hj)
    exact least_of_isJ (slim_isJ R hi hj (least_isJ hm))
  . rw [slim_le R hi] at h2; exact R.l.wup i j hi hj h1 h2
 exact ⟨f1, errL_mk f2 hb (by simp), f2, hb⟩
end
section
variable {t : Tbl} (R : Rt t)
include R
end
end Go.Proofs.Try

open Go Go.Apex Go.StepsTo Go.Lat
namespace Go.Proofs.Try
theorem copy_row {t : Tbl} {n : List UInt8} {e a w : T} (h : IsTbl t n e a w) (hs : Small t) (h0 : 1 <= t.above.length) : ∃ e' w' rs p, callO acfg 15 [tblT n e a w] = some p /\ treeV p.1 = false ∧
  aggRow 2 4 38 none p = some ([.str n, e', .nils, w'], 0, t.above.length, cellsT rs) /\ RowsTo t rs /\ rs.length = t.above.length /\ IsSl (t.elems.map .str) e' /\ IsSl (t.wrong.map .bool) w' := by
 have hsA := hs.a
 obtain ⟨e', e1, e2⟩ := appT_nil (one_str t.elems) (bytes := 16) (by have := hs.e; rw [List.length_map, maxB]; omega)
 obtain ⟨w', w1, w2⟩ := appT_nil (one_bool t.wrong) (bytes := 1) (by have := hs.w; rw [List.length_map, maxB]; omega)
 have v4 : ∀ y : T, y.one = true -> vfits (.t (T.agg [.str n, e', y, w'])) (some 4) = true := fun y hy => by
  show (true && (4 == 4) && ((T.str n).one && (e'.one && (y.one && (w'.one && true))))) = true
  rw [e2.one, hy, w2.one]
  rfl
 have vm : ∀ (i g o l : Nat), vfits (.agg [.t (T.str n), .t e', .msl i g o l none, .t w']) (some 4) = true := fun i g o l => by
  show (true && (4 == 4) && ((T.str n).one && (e'.one && (true && (w'.one && true))))) = true
  rw [e2.one, w2.one]
  rfl
 have rowc : ∀ i, i < t.above.length -> ∃ r x9, idxT 1 a (i : Int) = some (.ptr r) /\ derefT none (.ptr r) = some r /\ elemsT none r = some (cellsT (ints (t.above.getD i []))) /\ appT none 1 8 (T.sl true 1 []) (cellsT (ints (t.above.getD i []))) = some x9 /\ IsSl (ints (t.above.getD i [])) x9 := fun i hi => by
  obtain ⟨r, r1, r2, r3⟩ := h.row hi
  obtain ⟨y, y1, y2⟩ := appT_nil (one_int (t.above.getD i [])) (bytes := 8) (by have := hs.al _ (getD_mem [] hi); rw [List.length_map, maxB]; omega)
  exact ⟨r, y, r1, r2, elemsT_sl r3 (one_int _), y1, y2⟩
 have two : ∀ i, i <= t.above.length -> ∀ (rs : List T) (g : Nat), rs.length = i -> 1 <= i -> RowsTo t rs -> ∃ rs', R15_2 n e a w (i : Int) [] n e' g 0 i w' g (cellsT rs) = some (.tup [.bool true, .int .i64 2, .int .i64 38, .int .i64 0, .int .i64 (t.above.length : Int), .nils, .tup [.str n, e', .nils, w'], .tup rs']) /\ RowsTo t rs' /\ rs'.length = t.above.length := by
  refine upto_induct ?_ fun i hi ih => ?_
  . intro rs g hl h1 hr
    refine ⟨rs, ?_, hr, hl⟩
    apply R15_2_step
    simp only [h.f2, h.d2, oS, h.len2, iLt_end, cond_false, vm, cond_true, Nat.beq_refl, allT_cells]
    rfl
  . intro rs g hl h1 hr
    obtain ⟨r, y, r1, r2, r3, y1, y2⟩ := rowc i hi
    obtain ⟨rs', ha, hb⟩ := ih (rs ++ [y]) (g + 1) (by simp [hl]) (by omega) (hr.snoc (by omega) (by rw [hl]; exact y2))
    refine ⟨rs', ?_, hb⟩
    apply R15_2_step
    have hok : appOK (cellsT rs) 0 i 1 [V.t y] 24 = true := appOK_row (ys := [y]) (by omega) (by rw [maxB]; simp; omega)
    have hcs : appCs (cellsT rs) 0 [V.t y] = cellsT (rs ++ [y]) := by
     have := appCs_one (cs := rs) (ys := [y]) (off := 0) (OneL.cons y2.one OneL.nil) (by simp)
     simpa using this
    have hobj : ∀ g, objBd 32 (Go.Apex.Obj.cells g 38 false (cellsT (rs ++ [y]))) = true := fun g => objBd_cells _ _ _ _ _
    simp only [h.f2, h.d2, oS, h.len2, iLt_len hi, cond_true, r1, r2, r3, y1, vfits_one y2.one, natEq_self, hok, hcs, hobj, iAdd_nat (show i < 1000000 by omega), appGen_one, appLen_one, ha]
 have res : ∃ rs', R15_1 n e a w 0 [] n e' w' = some (.tup [.bool true, .int .i64 2, .int .i64 38, .int .i64 0, .int .i64 (t.above.length : Int), .nils, .tup [.str n, e', .nils, w'], .tup rs']) /\ RowsTo t rs' /\ rs'.length = t.above.length := by
  obtain ⟨r, y, r1, r2, r3, y1, y2⟩ := rowc 0 (by omega)
  have hr0 : RowsTo t ([] : List T) := ⟨by simp, fun i hi => by simp at hi⟩
  obtain ⟨a', ha, hb⟩ := two 1 (by omega) [y] 1 rfl (Nat.le_refl _) (hr0.snoc (by simp; omega) y2)
  refine ⟨a', ?_, hb⟩
  apply R15_1_step
  have hz : iLt 0 (t.above.length : Int) = true := by simp [iLt]; omega
  have hrow : rowNew [] [V.t y] = cellsT [y] := rowNew_one (xs := []) (ys := [y]) OneL.nil (OneL.cons y2.one OneL.nil)
  have hobj : objBd 32 (Go.Apex.Obj.cells 1 38 false (cellsT [y])) = true := objBd_cells _ _ _ _ _
  have hi1 : iAdd IntKind.i64 0 1 = ((1 : Nat) : Int) := by decide
  simp only [Int.ofNat_zero, Int.natCast_zero] at r1
  simp only [h.f2, h.d2, oS, h.len2, hz, cond_true, r1, r2, r3, y1, vfits_one y2.one, hrow, hobj, hi1, ha]
 obtain ⟨rs, r1, r2, r3⟩ := res
 obtain ⟨p, p1, p2, p3⟩ := row_agg (f := 15) («as» := [tblT n e a w]) (k := 2) (e := 38) (off := 0) (len := t.above.length) (sh := none) (xs := [.str n, e', .nils, w']) (ys := rs) (by
  apply row15
  simp only [h.v4, cond_true, h.f0, deref_str, str?_str, h.f1, h.d1, h.f3, h.d3, oS, elemsT_sl h.e (one_str _), e1, elemsT_sl h.w (one_bool _), w1, vfits_one e2.one, vfits_one w2.one, v4 T.nils rfl, r1]
  rfl)
 exact ⟨e', w', rs, p, p1, p2, p3, r2, r3, e2, w2⟩
end Go.Proofs.Try
