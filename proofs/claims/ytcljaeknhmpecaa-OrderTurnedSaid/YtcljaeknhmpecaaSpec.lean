import Derived.Test.YtcljaeknhmpecaaApexA44
import Derived.Test.YtcljaeknhmpecaaEqs
import Derived.Deep.Slices
import Derived.Deep.Strs
import Derived.Test.YtcljaeknhmpecaaCfgOK
import Derived.Test.YtcljaeknhmpecaaRows
import Derived.WalkKit
import Derived.ProofKit
import Derived.OpenShut
import Derived.ShutString
import Derived.ChangeOld
import Derived.Below
set_option linter.all false
set_option linter.unusedVariables false
set_option linter.unusedSimpArgs false
set_option linter.unusedSectionVars false
set_option linter.deprecated false
/- Words for specifications: slices that read as lists, loops that go over them. -/
namespace Go.Apex
open Go

/-- A slice that reads as some elements, each of one cell. -/
inductive IsSl (ts : List T) : T → Prop
  | nil (h : ts = []) : IsSl ts .nils
  | sl (ex : Bool) : IsSl ts (.sl ex 1 ts)
variable {ts : List T} {x : T}
theorem IsSl.len (h : IsSl ts x) : lenT x = some (ts.length : Int) := by
  cases h with
  | nil h => subst h; rfl
  | sl ex => rfl
theorem IsSl.one (h : IsSl ts x) : x.one = true := by cases h <;> rfl
theorem IsSl.idx (h : IsSl ts x) {i : Nat} {y : T} (hi : ts[i]? = some y) : idxT 1 x (i : Int) = some (.ptr y) := by
  cases h with
  | nil h => subst h; simp at hi
  | sl ex => simp [idxT, hi]
theorem IsSl.take (h : IsSl ts x) {i : Nat} (hi : i ≤ ts.length) : ∃ y, subT 1 x none (some (i : Int)) none = some y ∧ IsSl (ts.take i) y := by
  cases h with
  | nil h =>
    subst h
    have : i = 0 := by simpa using hi
    subst this
    exact ⟨.nils, by simp [subT], .nil (by simp)⟩
  | sl ex => exact ⟨.sl (ex && ((i : Int) == ts.length)) 1 (ts.take i), by simp [subT, hi], .sl _⟩
theorem IsSl.tail (h : IsSl ts x) (hi : 1 ≤ ts.length) : ∃ y, subT 1 x (some 1) none none = some y ∧ IsSl (ts.drop 1) y := by
  cases h with
  | nil h => subst h; simp at hi
  | sl ex =>
    refine ⟨.sl (ex && ((ts.length : Int) == ts.length)) 1 ((ts.take ts.length).drop 1), ?_, ?_⟩
    · simp only [subT, Option.getD_some, Option.getD_none]
      rw [if_pos ⟨trivial, by omega, by omega, by omega⟩]
      simp
    · rw [List.take_length]
      exact .sl _
theorem deref_one (h : x.one = true) : derefT none (.ptr x) = some x := by simp [derefT, T.fits, h]
theorem vfits_one (h : x.one = true) : vfits (.t x) none = true := h
theorem oneT_one (h : x.one = true) : oneT x = true := h
theorem deref_int (k : IntKind) (n : Int) : derefT none (.ptr (.int k n)) = some (.int k n) := rfl
theorem deref_bool (b : Bool) : derefT none (.ptr (.bool b)) = some (.bool b) := rfl
theorem deref_str (s : List UInt8) : derefT none (.ptr (.str s)) = some (.str s) := rfl
theorem deref_fn (f : Fn) (a b : List T) : derefT none (.ptr (.fn f a b)) = some (.fn f a b) := rfl
theorem int?_int (k : IntKind) (n : Int) : T.int? k (.int k n) = some n := by simp [T.int?]
theorem bool?_bool (b : Bool) : T.bool? (.bool b) = some b := rfl
theorem str?_str (s : List UInt8) : T.str? (.str s) = some s := rfl
theorem scalar_bool (b : Bool) : T.scalar (.bool b) = true := rfl
theorem scalar_int (k : IntKind) (n : Int) : T.scalar (.int k n) = true := rfl
theorem iAdd_nat {i : Nat} (h : i < 1000000) : iAdd .i64 (i : Int) 1 = ((i + 1 : Nat) : Int) := by
  rw [iAdd_i64] <;> omega
/-- The words that reduce a printed term where its data are told. -/
theorem bif_eq {α : Sort _} (c : Bool) (a b : α) : (bif c then a else b) = if c = true then a else b := by cases c <;> rfl

theorem IsSl.idxD {α : Type} {g : α → T} {l : List α} (h : IsSl (l.map g) x) (d : α) {i : Nat} (hi : i < l.length) : idxT 1 x (i : Int) = some (.ptr (g (l.getD i d))) :=
  h.idx (by simp [List.getElem?_eq_getElem hi, List.getD_eq_getElem?_getD])
theorem IsSl.lenD {α : Type} {g : α → T} {l : List α} (h : IsSl (l.map g) x) : lenT x = some (l.length : Int) := by rw [h.len, List.length_map]
theorem IsSl.takeD {α : Type} {g : α → T} {l : List α} (h : IsSl (l.map g) x) {i : Nat} (hi : i ≤ l.length) : ∃ y, subT 1 x none (some (i : Int)) none = some y ∧ IsSl ((l.take i).map g) y := by
  rw [List.map_take]
  exact h.take (by rw [List.length_map]; exact hi)
theorem callT_scalar {cfg : Cfg} {f : FuncId} (hm : cfg.mode f = .scalar) {b xs : List T} {r : T} (h : fnO cfg f (xs ++ b) = some r) (hs : r.scalar = true) : callT cfg (.fn (.func f) [] b) xs = some r := by
  unfold callT
  simp only [hm, List.nil_append, h, Option.bind_some, hs, if_true]

/-! Loops over numbers. -/
/-- The numbers from one on, below another one. -/
def upto (i n : Nat) : List Nat := List.range' i (n - i)
theorem upto_end {i n : Nat} (h : n ≤ i) : upto i n = [] := by
  unfold upto
  rw [show n - i = 0 from by omega]
  rfl
theorem upto_step {i n : Nat} (h : i < n) : upto i n = i :: upto (i + 1) n := by
  unfold upto
  rw [show n - i = (n - (i + 1)) + 1 from by omega]
  rfl
theorem mem_upto {i n j : Nat} : j ∈ upto i n ↔ i ≤ j ∧ j < n := by
  unfold upto
  rw [List.mem_range'_1]
  omega
/-- Backwards from the end: what holds at the end, and one before what holds, holds. -/
theorem upto_induct {n : Nat} {P : Nat → Prop} (h0 : P n) (h1 : ∀ i, i < n → P (i + 1) → P i) : ∀ i, i ≤ n → P i := by
  intro i hi
  have key : ∀ k i, i + k = n → P i := by
    intro k
    induction k with
    | zero => intro i h; have : i = n := by omega
              subst this; exact h0
    | succ k ih => intro i h; exact h1 i (by omega) (ih (i + 1) (by omega))
  exact key (n - i) i (by omega)
def findI (p : Nat → Bool) (i n : Nat) : Int := match (upto i n).find? p with | some j => (j : Int) | none => -1
theorem findI_end {p : Nat → Bool} {i n : Nat} (h : n ≤ i) : findI p i n = -1 := by simp [findI, upto_end h]
theorem findI_step {p : Nat → Bool} {i n : Nat} (h : i < n) : findI p i n = if p i = true then (i : Int) else findI p (i + 1) n := by
  simp only [findI, upto_step h, List.find?_cons]
  cases p i <;> simp

/-! Rows of trees in memory. -/
abbrev cellsT (ts : List T) : List V := ts.map V.t
def OneL (ts : List T) : Prop := ∀ x ∈ ts, x.one = true
theorem OneL.nil : OneL [] := fun _ h => by cases h
theorem OneL.cons {x : T} {ts : List T} (h : x.one = true) (h2 : OneL ts) : OneL (x :: ts) := fun y hy => by
  rcases List.mem_cons.1 hy with rfl | hy
  · exact h
  · exact h2 y hy
theorem OneL.app {ts us : List T} (h : OneL ts) (h2 : OneL us) : OneL (ts ++ us) := fun y hy => by
  rcases List.mem_append.1 hy with hy | hy
  · exact h y hy
  · exact h2 y hy
theorem OneL.drop {ts : List T} (h : OneL ts) (i : Nat) : OneL (ts.drop i) := fun y hy => h y (List.mem_of_mem_drop hy)
theorem OneL.map {α : Type} {g : α → T} (h : ∀ a, (g a).one = true) (l : List α) : OneL (l.map g) := fun y hy => by
  obtain ⟨a, _, rfl⟩ := List.mem_map.1 hy
  exact h a
theorem cellsV_one {x : T} (h : x.one = true) : V.cells (.t x) = [.t x] := by cases x <;> first | rfl | (simp [T.one] at h)
theorem flat_one : ∀ {ts : List T}, OneL ts → (cellsT ts).flatMap V.cells = cellsT ts
  | [], _ => rfl
  | x :: ts, h => by
    simp only [List.map_cons, List.flatMap_cons, cellsV_one (h x (by simp)), flat_one (ts := ts) fun y hy => h y (by simp [hy])]
    rfl
theorem rowNew_one {xs ys : List T} (h : OneL xs) (h2 : OneL ys) : rowNew xs (cellsT ys) = cellsT (xs ++ ys) := by
  unfold rowNew
  rw [← List.map_append]
  exact flat_one (h.app h2)
theorem appCs_one {cs ys : List T} {off : Nat} (h2 : OneL ys) (hne : ys ≠ []) : appCs (cellsT cs) off (cellsT ys) = cellsT (cs.drop off ++ ys) := by
  unfold appCs
  have : (cellsT ys).isEmpty = false := by cases ys <;> simp_all
  rw [this]
  simp only [cond_false]
  rw [flat_one h2]
  simp [List.map_drop]
theorem appOK_row {cs : List T} {off len bytes : Nat} {ys : List T} (hl : off + len = cs.length) (hs : (len + ys.length) * (bytes + 1) ≤ maxBytes) : appOK (cellsT cs) off len 1 (cellsT ys) bytes = true := by
  unfold appOK
  cases ys with
  | nil => rfl
  | cons y ys =>
    have h1 : (len + (y :: ys).length) * (bytes + 1) = (len + (y :: ys).length) * bytes + (len + (y :: ys).length) := Nat.mul_succ _ _
    have e : (decide (¬ off + (len + (cellsT (y :: ys)).length) * 1 ≤ (cellsT cs).length ∧ off + len * 1 = (cellsT cs).length ∧ len + (cellsT (y :: ys)).length ≤ maxBytes ∧ (len + (cellsT (y :: ys)).length) * bytes ≤ maxBytes)) = true := by
      simp only [List.length_map]
      refine decide_eq_true ⟨?_, by omega, by omega, by omega⟩
      simp only [List.length_cons]
      omega
    rw [e, Bool.or_true]
theorem bdL_cells (n : Nat) : ∀ ts : List T, V.bdL n (cellsT ts) = true
  | [] => rfl
  | x :: ts => by
    show (V.bd n (.t x) && V.bdL n (cellsT ts)) = true
    rw [bdL_cells n ts]
    rfl
theorem objBd_cells (n g e : Nat) (b : Bool) (ts : List T) : objBd n (.cells g e b (cellsT ts)) = true := bdL_cells n ts
theorem allT_cells : ∀ ts : List T, allT (cellsT ts) = some ts
  | [] => rfl
  | x :: ts => by
    have := allT_cells ts
    unfold allT at this ⊢
    simp only [List.map_cons, mapO, toT, Option.bind_some, this]
theorem elemsFrom_cells : ∀ (len off : Nat) (ts : List T), off + len ≤ ts.length → elemsFrom none (cellsT ts) off len = some (cellsT ((ts.drop off).take len))
  | 0, off, ts, _ => by simp [elemsFrom]
  | len + 1, off, ts, h => by
    have hx : (cellsT ts)[off]? = some (.t (ts[off]'(by omega))) := by
      rw [List.getElem?_map, List.getElem?_eq_getElem (by omega)]
      rfl
    have ih := elemsFrom_cells len (off + 1) ts (by omega)
    simp only [elemsFrom, shPart, hx, Option.bind_some, shSize, Option.getD_none, ih]
    rw [List.drop_eq_getElem_cons (show off < ts.length by omega)]
    rfl
theorem rowT_cells {ts : List T} (h : OneL ts) {off len : Nat} (hl : off + len ≤ ts.length) : rowT none (cellsT ts) off len = some ((ts.drop off).take len) := by
  unfold rowT
  rw [elemsFrom_cells len off ts hl]
  simp only [Option.bind_some, allT_cells]
  rw [if_pos]
  rw [List.all_eq_true]
  intro x hx
  exact h x (List.mem_of_mem_drop (List.mem_of_mem_take hx))
theorem rowT_all {ts : List T} (h : OneL ts) : rowT none (cellsT ts) 0 ts.length = some ts := by
  rw [rowT_cells h (by omega)]
  simp
theorem rowS_cells {ts : List T} {off : Nat} {y : T} (h : ts[off]? = some y) : rowS none (cellsT ts) off = some y := by
  simp [rowS, shPart, h, toT]
theorem rowSet_cells {ts : List T} {off : Nat} {y : T} (h : off < ts.length) : rowSet (cellsT ts) off [.t y] = cellsT (ts.set off y) := by
  unfold rowSet setRange
  rw [← List.map_take, ← List.map_drop]
  rw [List.set_eq_take_append_cons_drop, if_pos h]
  simp
theorem elemsT_sl {ts : List T} {x : T} (h : IsSl ts x) (h1 : OneL ts) : elemsT none x = some (cellsT ts) := by
  cases h with
  | nil h => subst h; rfl
  | sl ex =>
    show (if 1 = shSize none ∧ (ts.all fun x => x.fits none) = true then some (cellsT ts) else none) = _
    rw [if_pos ⟨rfl, List.all_eq_true.2 fun x hx => h1 x hx⟩]
theorem newOK_small {n m bytes : Nat} (h : (n + m) * (bytes + 1) ≤ maxBytes) : newOK n m bytes = true := by
  have h1 : (n + m) * (bytes + 1) = (n + m) * bytes + (n + m) := Nat.mul_succ _ _
  exact decide_eq_true ⟨by omega, by omega⟩
theorem appGen_one (g : Nat) (y : V) : appGen g [y] = g + 1 := rfl
theorem appLen_one (len : Nat) (y : V) : appLen len [y] = len + 1 := rfl
theorem natEq_self (n : Nat) : natEq n n = true := Nat.beq_refl n
theorem maxB : (maxBytes : Nat) = 140737488355328 := rfl
theorem appT_nil {ys : List T} (h : OneL ys) {bytes : Nat} (hs : ys.length * (bytes + 1) ≤ maxBytes) : ∃ y, appT none 1 bytes (.sl true 1 []) (cellsT ys) = some y ∧ IsSl ys y := by
  unfold appT
  have hb : baseT none 1 (.sl true 1 []) = some [] := rfl
  rw [hb]
  simp only [Option.bind_some]
  cases ys with
  | nil => exact ⟨_, rfl, .sl true⟩
  | cons y ys =>
    have h1 : newOK ([] : List T).length (cellsT (y :: ys)).length bytes = true := newOK_small (by rw [List.length_map, List.length_nil, Nat.zero_add]; exact hs)
    have e : (cellsT (y :: ys)).isEmpty = false := rfl
    rw [e, h1]
    simp only [cond_false, cond_true]
    rw [rowNew_one OneL.nil h]
    unfold rowTree
    have hl : lenNew ([] : List T) (cellsT (y :: ys)) = (y :: ys).length := by simp [lenNew]
    rw [hl, elemsFrom_cells _ 0 _ (by simp)]
    simp only [Option.bind_some, allT_cells, List.nil_append, List.drop_zero, List.take_length]
    have hall : ((y :: ys).all fun x => x.fits none) = true := List.all_eq_true.2 fun x hx => h x hx
    rw [if_pos hall]
    exact ⟨_, rfl, .sl false⟩
end Go.Apex


/- What small functions answer: names, places in lists, closures. -/
open Go Go.Apex
namespace Go.Proofs.Try

/-! Names. -/
def okAt (c : Int) (i : Nat) : Bool := (iLe 97 c && iLe c 122) || (iLe 48 c && iLe c 57 && !iEq (i : Int) 0)
def okB (s : List UInt8) (i : Nat) : Bool := match s[i]? with | some c => okAt (c.toNat : Int) i | none => true
def isNameB (s : List UInt8) : Bool := (upto 0 s.length).all (okB s) && decide (0 < s.length) && decide (s.length ≤ 12)
theorem okB_eq {s : List UInt8} {i : Nat} (hi : i < s.length) : okB s i = okAt ((s[i]'hi).toNat : Int) i := by simp [okB, hi]
theorem iLt_len {i n : Nat} (h : i < n) : iLt (i : Int) (n : Int) = true := by simp [iLt]; omega
theorem iLt_end {n : Nat} : iLt (n : Int) (n : Int) = false := by simp [iLt]
theorem isName_loop (s : List UInt8) (hs : s.length < 1000000) : ∀ i, i ≤ s.length → L49_1 s (sLen s) (i : Int) = some (.bool ((upto i s.length).all (okB s) && decide (0 < s.length) && decide (s.length ≤ 12))) := by
  refine upto_induct ?_ fun i hi ih => ?_
  · apply L49_1_step
    have e1 : iLt 0 (s.length : Int) = decide (0 < s.length) := by unfold iLt; exact decide_eq_decide.2 (by omega)
    have e2 : iLe (s.length : Int) 12 = decide (s.length ≤ 12) := by unfold iLe; exact decide_eq_decide.2 (by omega)
    simp only [sLen, iLt_end, cond_false, upto_end (Nat.le_refl _), List.all_nil, e1, e2]
    cases decide (0 < s.length) <;> simp
  · apply L49_1_step
    have ih' := ih
    simp only [sLen] at ih'
    simp only [sLen, iLt_len hi, cond_true, byteAt_eq hi, Option.bind_some, iAdd_nat (show i < 1000000 by omega), ih', upto_step hi, List.all_cons, okB_eq hi, okAt]
    generalize ((s[i].toNat : Nat) : Int) = c
    cases iLe 97 c <;> cases iLe c 122 <;> cases iLe 48 c <;> cases iLe c 57 <;> cases iEq (i : Int) 0 <;> simp [bNot]
theorem isName_spec (s : List UInt8) (hs : s.length < 1000000) : fnO acfg 49 [.str s] = some (.bool (isNameB s)) :=
  fn49 s _ (isName_loop s hs 0 (by omega))

theorem in_spec (a b c : Int) : fnO acfg 61 [.int .i64 a, .int .i64 b, .int .i64 c] = some (.bool (decide (b ≤ a) && decide (a ≤ c))) := by
  apply fn61
  simp only [bif_eq, iLe_iff, iLe]
  by_cases h : b ≤ a <;> simp [h]

theorem refName_loop (s : List UInt8) (hs : s.length < 1000000) (h0 : ∀ c, s[0]? = some c → (iLe 97 (c.toNat : Int) && iLe (c.toNat : Int) 122) = true) : ∀ i, i ≤ s.length → L62_1 s (i : Int) = some (.bool ((upto i s.length).all (okB s))) := by
  refine upto_induct ?_ fun i hi ih => ?_
  · apply L62_1_step
    simp only [sLen, iLt_end, cond_false, upto_end (Nat.le_refl _), List.all_nil]
  · apply L62_1_step
    simp only [sLen, iLt_len hi, cond_true, byteAt_eq hi, Option.bind_some, iAdd_nat (show i < 1000000 by omega), ih, upto_step hi, List.all_cons, okB_eq hi, okAt]
    have h00 : i = 0 → (iLe 97 ((s[i].toNat : Nat) : Int) && iLe ((s[i].toNat : Nat) : Int) 122) = true := fun e => by subst e; exact h0 _ (by simp [hi])
    have hz : iEq (i : Int) 0 = true → i = 0 := fun h => by have := iEq_iff.1 h; omega
    revert h00 hz
    generalize ((s[i].toNat : Nat) : Int) = c
    generalize (upto (i + 1) s.length).all (okB s) = rest
    cases iLe 97 c <;> cases iLe c 122 <;> cases iLe 48 c <;> cases iLe c 57 <;> cases iEq (i : Int) 0 <;> simp [bNot]
    all_goals (intro h1 h2; exact absurd h2 h1)
theorem refName_spec (s : List UInt8) (hs : s.length < 1000000) : fnO acfg 62 [.str s] = some (.bool (isNameB s)) := by
  apply fn62
  simp only [in_spec, Option.bind_some, scalar_bool, bool?_bool, cond_true, sLen, isNameB]
  by_cases h1 : 1 ≤ s.length ∧ s.length ≤ 12
  · have e1 : (decide ((1 : Int) ≤ s.length) && decide ((s.length : Int) ≤ 12)) = true := by simp; omega
    have hb : byteAt s 0 = some (((s[0]'h1.1).toNat : Nat) : Int) := byteAt_eq h1.1
    simp only [e1, bNot, Bool.not_true, cond_false, hb, Option.bind_some]
    cases h97 : iLt (((s[0]'h1.1).toNat : Nat) : Int) 97 with
    | true =>
      simp only [cond_true]
      rw [upto_step h1.1, List.all_cons, okB_eq h1.1]
      have : iLe 97 (((s[0]'h1.1).toNat : Nat) : Int) = false := by simp [iLt, iLe] at h97 ⊢; omega
      simp [okAt, this, iEq]
    | false =>
      simp only [cond_false]
      cases h122 : iLt 122 (((s[0]'h1.1).toNat : Nat) : Int) with
      | true =>
        simp only [cond_true]
        rw [upto_step h1.1, List.all_cons, okB_eq h1.1]
        have : iLe (((s[0]'h1.1).toNat : Nat) : Int) 122 = false := by simp [iLt, iLe] at h122 ⊢; omega
        simp [okAt, this, iEq]
      | false =>
        simp only [cond_false]
        have := refName_loop s hs (fun c hc => by
          have : c = s[0]'h1.1 := by
            rw [List.getElem?_eq_getElem h1.1] at hc
            exact (Option.some.inj hc).symm
          subst this
          simp [iLt, iLe] at h97 h122 ⊢
          omega) 0 (by omega)
        simp only [Int.ofNat_zero, Int.natCast_zero] at this
        rw [this]
        have e2 : decide (0 < s.length) = true := decide_eq_true h1.1
        have e3 : decide (s.length ≤ 12) = true := decide_eq_true h1.2
        rw [e2, e3, Bool.and_true, Bool.and_true]
  · have e1 : (decide ((1 : Int) ≤ s.length) && decide ((s.length : Int) ≤ 12)) = false := by simp; omega
    simp only [e1, bNot, Bool.not_false, cond_true]
    have : (decide (0 < s.length) && decide (s.length ≤ 12)) = false := by simp; omega
    rw [Bool.and_assoc, this, Bool.and_false]

/-! Places in lists. -/
theorem find_loop {x : T} {l : List (List UInt8)} (hx : IsSl (l.map .str) x) (s : List UInt8) (hl : l.length < 1000000) : ∀ i, i ≤ l.length → L63_1 x s (i : Int) = some (.int .i64 (findI (fun j => l[j]? == some s) i l.length)) := by
  refine upto_induct ?_ fun i hi ih => ?_
  · apply L63_1_step
    simp only [hx.len, List.length_map, Option.bind_some, bif_eq, iLt_iff, findI_end (Nat.le_refl _)]
    rw [if_neg (by omega)]
  · apply L63_1_step
    have hg : l[i]? = some l[i] := List.getElem?_eq_getElem hi
    have hidx : idxT 1 x (i : Int) = some (.ptr (.str l[i])) := hx.idx (by simp [hg])
    simp only [hx.len, List.length_map, Option.bind_some, bif_eq, iLt_iff, findI_step hi, hidx, deref_str, str?_str, sEq_iff, iAdd_nat (show i < 1000000 by omega), ih]
    rw [if_pos (by omega)]
    simp only [hg, beq_iff_eq, Option.some.injEq]
    split <;> rfl
theorem find_spec {x : T} {l : List (List UInt8)} (hx : IsSl (l.map .str) x) (s : List UInt8) (hl : l.length < 1000000) : fnO acfg 63 [x, .str s] = some (.int .i64 (findI (fun j => l[j]? == some s) 0 l.length)) :=
  fn63 x s _ (find_loop hx s hl 0 (by omega))
theorem index_loop {x : T} {l : List (List UInt8)} (hx : IsSl (l.map .str) x) (s : List UInt8) (hl : l.length < 1000000) : ∀ i, i ≤ l.length → L89_1 x s (l.length : Int) (i : Int) = some (.int .i64 (findI (fun j => l[j]? == some s) i l.length)) := by
  refine upto_induct ?_ fun i hi ih => ?_
  · apply L89_1_step
    simp only [bif_eq, iLt_iff, findI_end (Nat.le_refl _)]
    rw [if_neg (by omega)]
  · apply L89_1_step
    have hg : l[i]? = some l[i] := List.getElem?_eq_getElem hi
    have hidx : idxT 1 x (i : Int) = some (.ptr (.str l[i])) := hx.idx (by simp [hg])
    simp only [Option.bind_some, bif_eq, iLt_iff, findI_step hi, hidx, deref_str, str?_str, sEq_iff, iAdd_nat (show i < 1000000 by omega), ih]
    rw [if_pos (by omega)]
    simp only [hg, beq_iff_eq, Option.some.injEq]
    split <;> rename_i h
    · rw [if_pos h.symm]
    · rw [if_neg (Ne.symm h)]
theorem contains_spec {x : T} {l : List (List UInt8)} (hx : IsSl (l.map .str) x) (s : List UInt8) (hl : l.length < 1000000) : fnO acfg 50 [x, .str s] = some (.bool (decide (s ∈ l))) := by
  apply fn50
  have : fnO acfg 89 [x, .str s] = some (.int .i64 (findI (fun j => l[j]? == some s) 0 l.length)) := by
    apply fn89
    simp only [hx.len, List.length_map, Option.bind_some]
    exact index_loop hx s hl 0 (by omega)
  simp only [this, Option.bind_some, scalar_int, int?_int, bif_eq, if_true, Option.some.injEq, T.bool.injEq]
  unfold findI iLe
  cases hf : (upto 0 l.length).find? (fun j => l[j]? == some s) with
  | some j =>
    have h1 := List.find?_some hf
    simp only [beq_iff_eq] at h1
    have hm : s ∈ l := List.mem_of_getElem? h1
    simp [hm]
  | none =>
    have hm : s ∉ l := fun hm => by
      obtain ⟨j, hj, he⟩ := List.getElem_of_mem hm
      have := List.find?_eq_none.1 hf j (mem_upto.2 ⟨by omega, hj⟩)
      simp [hj, he] at this
    simp [hm]
end Go.Proofs.Try


/- Tables that read as data; the error of a table. -/
open Go Go.Apex
namespace Go.Proofs.Try
structure Tbl where
  name : List UInt8
  elems : List (List UInt8)
  above : List (List Int)
  wrong : List Bool
abbrev ints (l : List Int) : List T := l.map (T.int .i64)
structure IsTbl (t : Tbl) (n : List UInt8) (e a w : T) : Prop where
  n : n = t.name
  e : IsSl (t.elems.map .str) e
  a : ∃ rows : List T, IsSl rows a ∧ rows.length = t.above.length ∧ ∀ i, i < t.above.length → IsSl (ints (t.above.getD i [])) (rows.getD i .nils)
  w : IsSl (t.wrong.map .bool) w
/-- Nothing in it is long. -/
structure Small (t : Tbl) : Prop where
  n : t.name.length < 1000000
  e : t.elems.length < 1000000
  es : ∀ s ∈ t.elems, s.length < 1000000
  a : t.above.length < 1000000
  al : ∀ l ∈ t.above, l.length < 1000000
  w : t.wrong.length < 1000000
abbrev tblT (n : List UInt8) (e a w : T) : T := .agg [.str n, e, a, w]
theorem fld_at {cs : List T} {off : Nat} {y : T} (h : cs[off]? = some y) (h1 : y.one = true) : fldT off none (.ptr (.agg cs)) = some (.ptr y) := by
  simp [fldT, partS, h, T.fits, h1]
section
variable {t : Tbl} {n : List UInt8} {e a w : T}
theorem IsTbl.a1 (h : IsTbl t n e a w) : a.one = true := by obtain ⟨rows, h1, _⟩ := h.a; exact h1.one
theorem IsTbl.f0 (_ : IsTbl t n e a w) : fldT 0 none (.ptr (tblT n e a w)) = some (.ptr (.str n)) := fld_at rfl rfl
theorem IsTbl.f1 (h : IsTbl t n e a w) : fldT 1 none (.ptr (tblT n e a w)) = some (.ptr e) := fld_at rfl h.e.one
theorem IsTbl.f2 (h : IsTbl t n e a w) : fldT 2 none (.ptr (tblT n e a w)) = some (.ptr a) := fld_at rfl h.a1
theorem IsTbl.f3 (h : IsTbl t n e a w) : fldT 3 none (.ptr (tblT n e a w)) = some (.ptr w) := fld_at rfl h.w.one
theorem IsTbl.d1 (h : IsTbl t n e a w) : derefT none (.ptr e) = some e := deref_one h.e.one
theorem IsTbl.d2 (h : IsTbl t n e a w) : derefT none (.ptr a) = some a := deref_one h.a1
theorem IsTbl.d3 (h : IsTbl t n e a w) : derefT none (.ptr w) = some w := deref_one h.w.one
theorem IsTbl.fits (h : IsTbl t n e a w) : (tblT n e a w).fits (some 4) = true := by
  show (true && (4 == 4) && ((T.str n).one && (e.one && (a.one && (w.one && true))))) = true
  rw [h.e.one, h.a1, h.w.one]
  rfl
theorem IsTbl.v4 (h : IsTbl t n e a w) : vfits (.t (tblT n e a w)) (some 4) = true := by
  show (true && (4 == 4) && ((T.str n).one && (e.one && (a.one && (w.one && true))))) = true
  rw [h.e.one, h.a1, h.w.one]
  rfl
theorem IsTbl.d4 (h : IsTbl t n e a w) : derefT (some 4) (.ptr (tblT n e a w)) = some (tblT n e a w) := by
  simp only [derefT, h.fits, if_true]
theorem IsTbl.len2 (h : IsTbl t n e a w) : lenT a = some (t.above.length : Int) := by obtain ⟨rows, h1, h2, _⟩ := h.a; rw [h1.len, h2]
theorem IsTbl.row (h : IsTbl t n e a w) {i : Nat} (hi : i < t.above.length) : ∃ r, idxT 1 a (i : Int) = some (.ptr r) ∧ derefT none (.ptr r) = some r ∧ IsSl (ints (t.above.getD i [])) r := by
  obtain ⟨rows, h1, h2, h3⟩ := h.a
  refine ⟨rows.getD i .nils, h1.idx (by rw [List.getD_eq_getElem?_getD, List.getElem?_eq_getElem (by omega)]; rfl), deref_one (h3 i hi).one, h3 i hi⟩
end
theorem agg4 (n : List UInt8) (e a w : T) : T.agg? (List.length [D.str, (D.slice 9), (D.slice 38), (D.slice 4)]) (tblT n e a w) = some [.str n, e, a, w] := rfl
theorem nth0 (x y z u : T) : nthT [x, y, z, u] 0 = x := rfl
theorem nth1 (x y z u : T) : nthT [x, y, z, u] 1 = y := rfl
theorem nth2 (x y z u : T) : nthT [x, y, z, u] 2 = z := rfl
theorem nth3 (x y z u : T) : nthT [x, y, z, u] 3 = u := rfl

theorem mode47 : acfg.mode 47 = .scalar := by kernel_rfl
theorem mode48 : acfg.mode 48 = .scalar := by kernel_rfl
theorem mode51 : acfg.mode 51 = .scalar := by kernel_rfl
theorem mode52 : acfg.mode 52 = .scalar := by kernel_rfl

/-! Something is so of all elements. -/
theorem allInts_spec {x f : T} {l : List Int} (hx : IsSl (ints l) x) (hl : l.length < 1000000) {p : Nat → Bool} (hf : ∀ i, i < l.length → callT acfg f [.int .i64 i, .int .i64 (l.getD i 0)] = some (.bool (p i))) :
    fnO acfg 53 [x, f] = some (.bool ((upto 0 l.length).all p)) := by
  have key : ∀ i, i ≤ l.length → L53_1 f x (l.length : Int) (i : Int) = some (.bool ((upto i l.length).all p)) := by
    refine upto_induct ?_ fun i hi ih => ?_
    · apply L53_1_step
      simp only [iLt_end, cond_false, upto_end (Nat.le_refl _), List.all_nil]
    · apply L53_1_step
      simp only [iLt_len hi, cond_true, hx.idxD 0 hi, Option.bind_some, deref_int, int?_int, hf i hi, bool?_bool, iAdd_nat (show i < 1000000 by omega), ih, upto_step hi, List.all_cons]
      cases p i <;> simp [bNot]
  apply fn53
  simp only [hx.lenD, Option.bind_some]
  exact key 0 (by omega)
theorem allStrs_spec {x f : T} {l : List (List UInt8)} (hx : IsSl (l.map .str) x) (hl : l.length < 1000000) {p : Nat → Bool} (hf : ∀ i, i < l.length → callT acfg f [.int .i64 i, .str (l.getD i [])] = some (.bool (p i))) :
    fnO acfg 55 [x, f] = some (.bool ((upto 0 l.length).all p)) := by
  have key : ∀ i, i ≤ l.length → L55_1 f x (l.length : Int) (i : Int) = some (.bool ((upto i l.length).all p)) := by
    refine upto_induct ?_ fun i hi ih => ?_
    · apply L55_1_step
      simp only [iLt_end, cond_false, upto_end (Nat.le_refl _), List.all_nil]
    · apply L55_1_step
      simp only [iLt_len hi, cond_true, hx.idxD [] hi, Option.bind_some, deref_str, str?_str, hf i hi, bool?_bool, iAdd_nat (show i < 1000000 by omega), ih, upto_step hi, List.all_cons]
      cases p i <;> simp [bNot]
  apply fn55
  simp only [hx.lenD, Option.bind_some]
  exact key 0 (by omega)
theorem allRows_spec {t : Tbl} {n : List UInt8} {e a w f : T} (hx : IsTbl t n e a w) (hl : t.above.length < 1000000) {p : Nat → Bool}
    (hf : ∀ i r, i < t.above.length → IsSl (ints (t.above.getD i [])) r → callT acfg f [.int .i64 i, r] = some (.bool (p i))) :
    fnO acfg 56 [a, f] = some (.bool ((upto 0 t.above.length).all p)) := by
  have key : ∀ i, i ≤ t.above.length → L56_1 f a (t.above.length : Int) (i : Int) = some (.bool ((upto i t.above.length).all p)) := by
    refine upto_induct ?_ fun i hi ih => ?_
    · apply L56_1_step
      simp only [iLt_end, cond_false, upto_end (Nat.le_refl _), List.all_nil]
    · apply L56_1_step
      obtain ⟨r, h1, h2, h3⟩ := hx.row hi
      simp only [iLt_len hi, cond_true, h1, Option.bind_some, h2, hf i r hi h3, bool?_bool, iAdd_nat (show i < 1000000 by omega), ih, upto_step hi, List.all_cons]
      cases p i <;> simp [bNot]
  apply fn56
  simp only [hx.len2, Option.bind_some]
  exact key 0 (by omega)

/-! The error of a table. -/
def freshB (l : List (List UInt8)) (i : Nat) : Bool := isNameB (l.getD i []) && !decide (l.getD i [] ∈ l.take i)
def elemB (n : Nat) (l : List Int) (i : Nat) : Bool := decide (0 ≤ l.getD i 0) && decide (l.getD i 0 < n)
def greaterB (l : List Int) (i : Nat) : Bool := decide (i = 0) || decide (l.getD (i - 1) 0 < l.getD i 0)
def listB (n : Nat) (l : List Int) : Bool := (upto 0 l.length).all (elemB n l) && (upto 0 l.length).all (greaterB l)
def wordsL : List (List UInt8) := [[102, 108, 97, 103], [109, 97, 120], [115, 101, 116], [111, 110, 99, 101], [109, 97, 112], [112, 97, 105, 114]]
def tableNameB (s : List UInt8) : Bool := isNameB s && !decide (s ∈ wordsL)
def checkB (t : Tbl) : Bool :=
  tableNameB t.name && decide (1 ≤ t.elems.length) && decide (t.elems.length ≤ 12) && decide (t.above.length = t.elems.length) && decide (t.wrong.length = t.elems.length) &&
  (upto 0 t.elems.length).all (freshB t.elems) && (upto 0 t.above.length).all (fun i => listB t.elems.length (t.above.getD i []))

theorem isElem_spec (i b : Int) (n : Nat) : fnO acfg 47 [.int .i64 i, .int .i64 b, .ptr (.int .i64 (n : Int))] = some (.bool (decide (0 ≤ b) && decide (b < n))) := by
  apply fn47
  simp only [deref_int, Option.bind_some, int?_int, bif_eq, iLe_iff, iLt]
  by_cases h : 0 ≤ b <;> simp [h]
theorem isFresh_spec {t : Tbl} {n : List UInt8} {e a w : T} (h : IsTbl t n e a w) (hs : Small t) {i : Nat} (hi : i < t.elems.length) :
    fnO acfg 48 [.int .i64 i, .str (t.elems.getD i []), .ptr (tblT n e a w)] = some (.bool (freshB t.elems i)) := by
  apply fn48
  have hm : t.elems.getD i [] ∈ t.elems := by
    rw [List.getD_eq_getElem?_getD, List.getElem?_eq_getElem hi]
    exact List.getElem_mem hi
  obtain ⟨y, hy, hy2⟩ := h.e.takeD (i := i) (by omega)
  have hc := contains_spec hy2 (t.elems.getD i []) (by rw [List.length_take]; have := hs.e; omega)
  simp only [isName_spec _ (hs.es _ hm), Option.bind_some, scalar_bool, bool?_bool, cond_true, h.f1, h.d1, hy, hc, freshB]
  cases isNameB (t.elems.getD i []) <;> simp [bNot]
theorem isGreater_spec {x : T} {l : List Int} (hx : IsSl (ints l) x) (hl : l.length < 1000000) {i : Nat} (hi : i < l.length) : fnO acfg 52 [.int .i64 i, .int .i64 (l.getD i 0), .ptr x] = some (.bool (greaterB l i)) := by
  apply fn52
  by_cases h0 : i = 0
  · subst h0
    simp [iEq, greaterB]
  · have h1 : iEq (i : Int) 0 = false := by simp [iEq]; omega
    have h2 : iSub .i64 (i : Int) 1 = ((i - 1 : Nat) : Int) := by
      show IntKind.wrap .i64 ((i : Int) - 1) = _
      have := iAdd_i64 (a := (i : Int)) (b := -1) (by omega) (by omega)
      unfold iAdd at this
      rw [show (i : Int) - 1 = i + -1 from by omega, this]
      omega
    simp only [h1, cond_false, deref_one hx.one, Option.bind_some, h2, hx.idxD 0 (show i - 1 < l.length by omega), deref_int, int?_int]
    simp [greaterB, h0, iLt]
theorem isList_spec {x : T} {l : List Int} (hx : IsSl (ints l) x) (hl : l.length < 1000000) (i n : Nat) : fnO acfg 51 [.int .i64 i, x, .ptr (.fn (.func 47) [] [.ptr (.int .i64 (n : Int))])] = some (.bool (listB n l)) := by
  apply fn51
  have h1 : fnO acfg 53 [x, .fn (.func 47) [] [.ptr (.int .i64 (n : Int))]] = some (.bool ((upto 0 l.length).all (elemB n l))) :=
    allInts_spec hx hl fun i hi => callT_scalar mode47 (isElem_spec i _ n) rfl
  have h2 : fnO acfg 53 [x, .fn (.func 52) [] [.ptr x]] = some (.bool ((upto 0 l.length).all (greaterB l))) :=
    allInts_spec hx hl fun i hi => callT_scalar mode52 (isGreater_spec hx hl hi) rfl
  simp only [vfits_one hx.one, cond_true, deref_one hx.one, Option.bind_some, deref_fn, h1, scalar_bool, bool?_bool, h2, listB]
  cases (upto 0 l.length).all (elemB n l) <;> simp
theorem findKey_str (s : List UInt8) : ∀ (l : List (List UInt8)) (i : Nat), ∃ r, findKey (.str s) (l.map .str) i = some r ∧ r.isSome = decide (s ∈ l) ∧ ∀ j, r = some j → i ≤ j ∧ j < i + l.length
  | [], i => ⟨none, rfl, by simp, fun j h => by cases h⟩
  | k :: l, i => by
    obtain ⟨r, h1, h2, h3⟩ := findKey_str s l (i + 1)
    by_cases e : s = k
    · refine ⟨some i, ?_, by simp [e], fun j hj => by cases hj; simp⟩
      simp [findKey, keyEq, e]
    · refine ⟨r, ?_, by rw [h2]; simp [e], fun j hj => by have := h3 j hj; simp only [List.length_cons]; omega⟩
      simp [findKey, keyEq, e, h1]
def wordsT : T := .mp (wordsL.map .str) [.int .u8 1, .int .u8 2, .int .u8 3, .int .u8 4, .int .u8 6, .int .u8 7]
theorem words_eq : fnO acfg 90 [] = some wordsT := fnO_some.2 ⟨60, by kernel_rfl⟩
theorem words_look (s : List UInt8) : ∃ v b, lookT (some (T.int .u8 0)) wordsT (T.str s) = some (.int .u8 v, b) ∧ b = decide (s ∈ wordsL) := by
  obtain ⟨r, h1, h2, h3⟩ := findKey_str s wordsL 0
  simp only [wordsT, lookT, h1, Option.bind_some]
  cases r with
  | none => exact ⟨0, false, rfl, h2⟩
  | some j =>
    have hj : j < 6 := by have := (h3 j rfl).2; simpa [wordsL] using this
    match j, hj with
    | 0, _ => exact ⟨1, true, rfl, h2⟩
    | 1, _ => exact ⟨2, true, rfl, h2⟩
    | 2, _ => exact ⟨3, true, rfl, h2⟩
    | 3, _ => exact ⟨4, true, rfl, h2⟩
    | 4, _ => exact ⟨6, true, rfl, h2⟩
    | 5, _ => exact ⟨7, true, rfl, h2⟩
theorem tableName_spec (s : List UInt8) (hs : s.length < 1000000) : fnO acfg 54 [.str s] = some (.bool (tableNameB s)) := by
  apply fn54
  obtain ⟨v, b, h3, h4⟩ := words_look s
  simp only [words_eq, h3, Option.bind_some, int?_int, isName_spec s hs, scalar_bool, bool?_bool, cond_true, tableNameB, h4]
  cases isNameB s <;> simp [bNot]
theorem check_spec {t : Tbl} {n : List UInt8} {e a w : T} (h : IsTbl t n e a w) (hs : Small t) : fnO acfg 16 [tblT n e a w] = some (.int .i64 (bif checkB t then 0 else 4)) := by
  apply fn16
  have hn := h.n
  subst hn
  have h55 : fnO acfg 55 [e, .fn (.func 48) [] [.ptr (tblT t.name e a w)]] = some (.bool ((upto 0 t.elems.length).all (freshB t.elems))) :=
    allStrs_spec h.e hs.e fun i hi => callT_scalar mode48 (isFresh_spec h hs hi) rfl
  have h56 : fnO acfg 56 [a, .fn (.func 51) [] [.ptr (.fn (.func 47) [] [.ptr (.int .i64 (t.elems.length : Int))])]] = some (.bool ((upto 0 t.above.length).all (fun i => listB t.elems.length (t.above.getD i [])))) :=
    allRows_spec h hs.a fun i r hi hr => callT_scalar mode51 (isList_spec hr (hs.al _ (by
      rw [List.getD_eq_getElem?_getD, List.getElem?_eq_getElem hi]; exact List.getElem_mem hi)) i _) rfl
  have v47 : vfits (.t (T.fn (Fn.func 47) [] [T.ptr (T.int IntKind.i64 (t.elems.length : Int))])) none = true := rfl
  have o47 : oneT (T.fn (Fn.func 47) [] [T.ptr (T.int IntKind.i64 (t.elems.length : Int))]) = true := rfl
  have oi : oneT (T.int IntKind.i64 (t.elems.length : Int)) = true := rfl
  simp only [h.v4, cond_true, h.f1, h.d1, h.f0, h.f2, h.d2, h.f3, h.d3, Option.bind_some, h.e.lenD, oi, v47, o47, deref_str, str?_str, tableName_spec _ hs.n, scalar_bool, bool?_bool, deref_int, int?_int, h.len2, h.w.lenD, h55, h56]
  simp only [checkB]
  have e1 : iLt (t.elems.length : Int) 1 = !decide (1 ≤ t.elems.length) := by unfold iLt; by_cases h : 1 ≤ t.elems.length <;> simp [h] <;> omega
  have e2 : iLt 12 (t.elems.length : Int) = !decide (t.elems.length ≤ 12) := by unfold iLt; by_cases h : t.elems.length ≤ 12 <;> simp [h] <;> omega
  have e3 : iEq (t.above.length : Int) (t.elems.length : Int) = decide (t.above.length = t.elems.length) := by unfold iEq; rw [Bool.eq_iff_iff]; simp; omega
  have e4 : iEq (t.wrong.length : Int) (t.elems.length : Int) = decide (t.wrong.length = t.elems.length) := by unfold iEq; rw [Bool.eq_iff_iff]; simp; omega
  rw [e1, e2, e3, e4]
  cases tableNameB t.name <;> cases decide (1 ≤ t.elems.length) <;> cases decide (t.elems.length ≤ 12) <;> cases decide (t.above.length = t.elems.length) <;> cases decide (t.wrong.length = t.elems.length) <;>
    cases (upto 0 t.elems.length).all (freshB t.elems) <;> cases (upto 0 t.above.length).all (fun i => listB t.elems.length (t.above.getD i [])) <;> rfl
end Go.Proofs.Try


/- The reference's check of a table, copies, sameness. -/
open Go Go.Apex
namespace Go.Proofs.Try
theorem wordsSl : IsSl (wordsL.map .str) (T.sl true 1 [(T.str [102, 108, 97, 103]), (T.str [109, 97, 120]), (T.str [115, 101, 116]), (T.str [111, 110, 99, 101]), (T.str [109, 97, 112]), (T.str [112, 97, 105, 114])]) := .sl true
theorem findI_neg {p : Nat → Bool} {n : Nat} : decide (findI p 0 n < 0) = (upto 0 n).all fun j => !p j := by
  unfold findI
  cases hf : (upto 0 n).find? p with
  | none =>
    have := List.find?_eq_none.1 hf
    rw [show (decide ((-1 : Int) < 0)) = true from rfl]
    exact (List.all_eq_true.2 fun j hj => by simpa using this j hj).symm
  | some j =>
    have h1 := List.find?_some hf
    have h2 := List.mem_of_find?_eq_some hf
    have e : decide ((j : Int) < 0) = false := by simp
    simp only [e]
    refine Eq.symm ?_
    rw [List.all_eq_false]
    exact ⟨j, h2, by simp [h1]⟩
theorem refTableName_spec (s : List UInt8) (hs : s.length < 1000000) : fnO acfg 60 [.str s] = some (.bool (tableNameB s)) := by
  apply fn60
  have hw : fnO acfg 100 [] = some _ := fn100 _ rfl
  have hf := find_spec wordsSl s (by decide)
  simp only [refName_spec s hs, hw, hf, Option.bind_some, scalar_bool, bool?_bool, cond_true, scalar_int, int?_int, tableNameB]
  have : iLt (findI (fun j => wordsL[j]? == some s) 0 wordsL.length) 0 = !decide (s ∈ wordsL) := by
    show decide (_ < _) = _
    rw [findI_neg]
    rw [Bool.eq_iff_iff]
    simp only [List.all_eq_true, mem_upto, Bool.not_eq_true', beq_eq_false_iff_ne, decide_eq_false_iff_not]
    constructor
    · intro h hm
      obtain ⟨j, hj, he⟩ := List.getElem_of_mem hm
      exact h j ⟨by omega, hj⟩ (by simp [hj, he])
    · intro h j hj he
      exact h (List.mem_of_getElem? he)
  rw [this]
  cases isNameB s <;> rfl
/-- No error is found from a place on in a list of numbers. -/
def refListB (n : Nat) (l : List Int) (k : Nat) : Bool := decide (0 ≤ l.getD k 0) && decide (l.getD k 0 ≤ (n : Int) - 1) && (decide (k = 0) || decide (l.getD (k - 1) 0 < l.getD k 0))
def refElemB (t : Tbl) (i : Nat) : Bool := isNameB (t.elems.getD i []) && decide (findI (fun j => t.elems[j]? == some (t.elems.getD i [])) 0 t.elems.length = (i : Int)) && (upto 0 (t.above.getD i []).length).all (refListB t.elems.length (t.above.getD i []))
theorem iSub_nat {i : Nat} (h : i < 1000000) (h0 : 1 ≤ i) : iSub .i64 (i : Int) 1 = ((i - 1 : Nat) : Int) := by
  have := iAdd_i64 (a := (i : Int)) (b := -1) (by omega) (by omega)
  unfold iAdd at this
  show IntKind.wrap .i64 ((i : Int) - 1) = _
  rw [show (i : Int) - 1 = i + -1 from by omega, this]
  omega
theorem getD_mem {α : Type} {l : List α} {i : Nat} (d : α) (h : i < l.length) : l.getD i d ∈ l := by
  rw [List.getD_eq_getElem?_getD, List.getElem?_eq_getElem h]; exact List.getElem_mem h
theorem refCheck_loop {t : Tbl} {n : List UInt8} {e a w : T} (h : IsTbl t n e a w) (hs : Small t) (hn : 1 ≤ t.elems.length) (ha : t.above.length = t.elems.length) :
    ∀ i, i ≤ t.elems.length → L19_1 n e a w (t.elems.length : Int) (i : Int) = some (.int .i64 (bif (upto i t.elems.length).all (refElemB t) then 0 else 4)) := by
  refine upto_induct ?_ fun i hi ih => ?_
  · apply L19_1_step
    simp only [iLt_end, cond_false, upto_end (Nat.le_refl _), List.all_nil, cond_true]
  · obtain ⟨r, r1, r2, r3⟩ := h.row (i := i) (by omega)
    have hel := hs.e
    have hal := hs.al _ (getD_mem [] (show i < t.above.length by omega))
    have inner : ∀ k, k ≤ (t.above.getD i []).length → L19_2 n e a w (t.elems.length : Int) (i : Int) (k : Int) =
        some (.int .i64 (bif (upto k (t.above.getD i []).length).all (refListB t.elems.length (t.above.getD i [])) then (bif (upto (i + 1) t.elems.length).all (refElemB t) then 0 else 4) else 4)) := by
      refine upto_induct ?_ fun k hk ihk => ?_
      · apply L19_2_step
        simp only [h.f2, h.d2, Option.bind_some, r1, r2, r3.lenD, iLt_end, cond_false, upto_end (Nat.le_refl _), List.all_nil, cond_true, iAdd_nat (show i < 1000000 by omega), ih]
      · apply L19_2_step
        simp only [h.f2, h.d2, Option.bind_some, r1, r2, r3.lenD, iLt_len hk, cond_true, r3.idxD 0 hk, deref_int, int?_int, in_spec, scalar_bool, bool?_bool, iAdd_nat (show k < 1000000 by omega), ihk, iSub_nat (show t.elems.length < 1000000 by omega) hn, upto_step hk, List.all_cons]
        have e1 : (((t.elems.length - 1 : Nat) : Int)) = (t.elems.length : Int) - 1 := by omega
        simp only [e1, refListB]
        by_cases h0 : k = 0
        · subst h0
          have e2 : iLt 0 ((0 : Nat) : Int) = false := rfl
          simp only [e2, cond_false]
          cases (decide (0 ≤ (t.above.getD i []).getD 0 0) && decide ((t.above.getD i []).getD 0 0 ≤ (t.elems.length : Int) - 1)) <;> simp [bNot]
        · have e2 : iLt 0 (k : Int) = true := by simp [iLt]; omega
          simp only [e2, cond_true, iSub_nat (show k < 1000000 by omega) (by omega), r3.idxD 0 (show k - 1 < _ by omega), deref_int, int?_int, Option.bind_some]
          have e3 : iLe ((t.above.getD i []).getD k 0) ((t.above.getD i []).getD (k - 1) 0) = !decide ((t.above.getD i []).getD (k - 1) 0 < (t.above.getD i []).getD k 0) := by
            unfold iLe
            rw [Bool.eq_iff_iff]
            simp
          rw [e3]
          cases (decide (0 ≤ (t.above.getD i []).getD k 0) && decide ((t.above.getD i []).getD k 0 ≤ (t.elems.length : Int) - 1)) <;> cases decide ((t.above.getD i []).getD (k - 1) 0 < (t.above.getD i []).getD k 0) <;> simp [bNot, h0]
    apply L19_1_step
    have hf := find_spec h.e (t.elems.getD i []) hs.e
    have := inner 0 (by omega)
    simp only [Int.ofNat_zero, Int.natCast_zero] at this
    simp only [iLt_len hi, cond_true, h.f1, h.d1, Option.bind_some, h.e.idxD [] hi, deref_str, str?_str, refName_spec _ (hs.es _ (getD_mem [] hi)), scalar_bool, bool?_bool, hf, scalar_int, int?_int, this, upto_step hi, List.all_cons]
    have e4 : iEq (findI (fun j => t.elems[j]? == some (t.elems.getD i [])) 0 t.elems.length) (i : Int) = decide (findI (fun j => t.elems[j]? == some (t.elems.getD i [])) 0 t.elems.length = (i : Int)) := by
      unfold iEq
      rw [Bool.eq_iff_iff]
      simp
    rw [e4]
    simp only [refElemB]
    cases isNameB (t.elems.getD i []) <;> cases decide (findI (fun j => t.elems[j]? == some (t.elems.getD i [])) 0 t.elems.length = (i : Int)) <;> cases (upto 0 (t.above.getD i []).length).all (refListB t.elems.length (t.above.getD i [])) <;> simp [bNot]
theorem fresh_find {l : List (List UInt8)} {i : Nat} (hi : i < l.length) : decide (findI (fun j => l[j]? == some (l.getD i [])) 0 l.length = (i : Int)) = !decide (l.getD i [] ∈ l.take i) := by
  have hg : l[i]? = some (l.getD i []) := by rw [List.getD_eq_getElem?_getD, List.getElem?_eq_getElem hi]; rfl
  unfold findI
  cases hf : (upto 0 l.length).find? (fun j => l[j]? == some (l.getD i [])) with
  | none =>
    have := List.find?_eq_none.1 hf i (mem_upto.2 ⟨by omega, hi⟩)
    rw [hg] at this
    exact absurd (beq_self_eq_true _) this
  | some j =>
    have h1 := List.find?_some hf
    simp only [beq_iff_eq] at h1
    obtain ⟨_, l1, l2, h2, h3⟩ := List.find?_eq_some_iff_append.1 hf
    have hlt : ∀ k, k < j → l[k]? ≠ some (l.getD i []) := by
      intro k hk he
      have hjn := (mem_upto.1 (List.mem_of_find?_eq_some hf)).2
      have hk2 : k ∈ l1 := by
        have hm : k ∈ upto 0 l.length := mem_upto.2 ⟨by omega, by omega⟩
        rw [h2] at hm
        have hsort : (upto 0 l.length).Pairwise (· < ·) := by
          unfold upto
          exact List.pairwise_lt_range'
        rw [h2, List.pairwise_append] at hsort
        rcases List.mem_append.1 hm with hm | hm
        · exact hm
        · rcases List.mem_cons.1 hm with rfl | hm
          · omega
          · have := (List.pairwise_cons.1 hsort.2.1).1 k hm
            omega
      have := h3 k hk2
      rw [he] at this
      simp at this
    have hji : j ≤ i := Nat.le_of_not_lt fun hij => hlt i hij hg
    by_cases e : j = i
    · subst e
      have : l.getD j [] ∉ l.take j := fun hm => by
        obtain ⟨k, hk, hke⟩ := List.getElem_of_mem hm
        rw [List.length_take] at hk
        rw [List.getElem_take] at hke
        exact hlt k (by omega) (by rw [List.getElem?_eq_getElem (by omega), hke])
      rw [decide_eq_false this]
      exact decide_eq_true rfl
    · have : l.getD i [] ∈ l.take i := List.mem_of_getElem? (i := j) (by rw [List.getElem?_take, if_pos (by omega)]; exact h1)
      have e2 : ¬ ((j : Int) = (i : Int)) := by omega
      rw [decide_eq_true this]
      exact decide_eq_false e2
theorem listB_eq (n : Nat) (l : List Int) : listB n l = (upto 0 l.length).all (refListB n l) := by
  unfold listB
  rw [Bool.eq_iff_iff]
  simp only [Bool.and_eq_true, List.all_eq_true, mem_upto, elemB, greaterB, refListB, Bool.or_eq_true, decide_eq_true_eq]
  constructor
  · rintro ⟨h1, h2⟩ k hk
    exact ⟨⟨(h1 k hk).1, by have := (h1 k hk).2; omega⟩, h2 k hk⟩
  · intro h
    exact ⟨fun k hk => ⟨(h k hk).1.1, by have := (h k hk).1.2; omega⟩, fun k hk => (h k hk).2⟩
theorem refCheck_spec {t : Tbl} {n : List UInt8} {e a w : T} (h : IsTbl t n e a w) (hs : Small t) : fnO acfg 19 [tblT n e a w] = some (.int .i64 (bif checkB t then 0 else 4)) := by
  apply fn19
  have hn := h.n
  subst hn
  simp only [h.v4, cond_true, h.f1, h.d1, h.f0, h.f2, h.d2, h.f3, h.d3, Option.bind_some, h.e.lenD, deref_str, str?_str, refTableName_spec _ hs.n, scalar_bool, bool?_bool, in_spec, h.len2, h.w.lenD]
  have e1 : (decide ((1 : Int) ≤ t.elems.length) && decide ((t.elems.length : Int) ≤ 12)) = (decide (1 ≤ t.elems.length) && decide (t.elems.length ≤ 12)) := by
    congr 1 <;> exact decide_eq_decide.2 (by omega)
  have e3 : iEq (t.above.length : Int) (t.elems.length : Int) = decide (t.above.length = t.elems.length) := by unfold iEq; rw [Bool.eq_iff_iff]; simp; omega
  have e4 : iEq (t.wrong.length : Int) (t.elems.length : Int) = decide (t.wrong.length = t.elems.length) := by unfold iEq; rw [Bool.eq_iff_iff]; simp; omega
  rw [e1, e3, e4]
  by_cases hh : 1 ≤ t.elems.length ∧ t.above.length = t.elems.length
  · have hl := refCheck_loop h hs hh.1 hh.2 0 (by omega)
    simp only [Int.ofNat_zero, Int.natCast_zero] at hl
    rw [hl]
    have e5 : (upto 0 t.elems.length).all (refElemB t) = ((upto 0 t.elems.length).all (freshB t.elems) && (upto 0 t.above.length).all (fun i => listB t.elems.length (t.above.getD i []))) := by
      rw [hh.2, Bool.eq_iff_iff]
      simp only [Bool.and_eq_true, List.all_eq_true, refElemB, freshB, ← listB_eq]
      constructor
      · intro h
        exact ⟨fun i hi => by have := h i hi; rw [fresh_find (mem_upto.1 hi).2] at this; exact this.1, fun i hi => (h i hi).2⟩
      · rintro ⟨h1, h2⟩ i hi
        rw [fresh_find (mem_upto.1 hi).2]
        exact ⟨h1 i hi, h2 i hi⟩
    rw [e5]
    simp only [checkB]
    cases tableNameB t.name <;> cases decide (1 ≤ t.elems.length) <;> cases decide (t.elems.length ≤ 12) <;> cases decide (t.above.length = t.elems.length) <;> cases decide (t.wrong.length = t.elems.length) <;>
      cases (upto 0 t.elems.length).all (freshB t.elems) <;> cases (upto 0 t.above.length).all (fun i => listB t.elems.length (t.above.getD i [])) <;> rfl
  · have hc : checkB t = false := by
      simp only [checkB]
      by_cases h1 : 1 ≤ t.elems.length
      · have h2 : ¬ t.above.length = t.elems.length := fun h2 => hh ⟨h1, h2⟩
        simp [h2]
      · simp [h1]
    rw [hc]
    by_cases h1 : 1 ≤ t.elems.length
    · have h2 : decide (t.above.length = t.elems.length) = false := decide_eq_false fun h2 => hh ⟨h1, h2⟩
      rw [h2]
      cases tableNameB t.name <;> cases (decide (1 ≤ t.elems.length) && decide (t.elems.length ≤ 12)) <;> rfl
    · rw [decide_eq_false h1]
      cases tableNameB t.name <;> rfl
end Go.Proofs.Try


/- Thin tables, copies, sameness. -/
open Go Go.Apex
namespace Go.Proofs.Try
def thinB (t : Tbl) : Bool :=
  decide (t.elems.length ≤ 20) && decide (t.above.length ≤ 20) && decide (t.wrong.length ≤ 20) && decide (t.name.length ≤ 30) && (upto 0 t.elems.length).all (fun i => decide ((t.elems.getD i []).length ≤ 30)) && (upto 0 t.above.length).all (fun i => decide ((t.above.getD i []).length ≤ 20))
theorem iLt_dec (a b : Nat) : iLt (a : Int) (b : Int) = !decide (b ≤ a) := by unfold iLt; by_cases h : b ≤ a <;> simp [h] <;> omega
theorem thin_spec {t : Tbl} {n : List UInt8} {e a w : T} (h : IsTbl t n e a w) : fnO acfg 13 [tblT n e a w] = some (.bool (thinB t)) := by
  have hn := h.n
  subst hn
  apply fn13
  have l20 : ∀ k : Nat, iLt 20 (k : Int) = !decide (k ≤ 20) := fun k => iLt_dec 20 k |>.trans (by by_cases h : k ≤ 20 <;> simp [h] <;> omega)
  have l30 : ∀ k : Nat, iLt 30 (k : Int) = !decide (k ≤ 30) := fun k => iLt_dec 30 k |>.trans (by by_cases h : k ≤ 30 <;> simp [h] <;> omega)
  simp only [h.v4, cond_true, h.f1, h.d1, h.f0, h.f2, h.d2, h.f3, h.d3, Option.bind_some, h.e.lenD, h.len2, h.w.lenD, deref_str, str?_str, sLen]
  by_cases h1 : t.elems.length ≤ 20 ∧ t.above.length ≤ 20
  · have two : ∀ i, i ≤ t.above.length → L13_2 t.name e a w (i : Int) = some (.bool ((upto i t.above.length).all (fun i => decide ((t.above.getD i []).length ≤ 20)))) := by
      refine upto_induct ?_ fun i hi ih => ?_
      · apply L13_2_step
        simp only [h.f2, h.d2, Option.bind_some, h.len2, iLt_end, cond_false, upto_end (Nat.le_refl _), List.all_nil]
      · apply L13_2_step
        obtain ⟨r, r1, r2, r3⟩ := h.row hi
        simp only [h.f2, h.d2, Option.bind_some, h.len2, iLt_len hi, cond_true, r1, r2, r3.lenD, l20, iAdd_nat (show i < 1000000 by omega), ih, upto_step hi, List.all_cons]
        cases decide ((t.above.getD i []).length ≤ 20) <;> simp
    have h20 := two 0 (by omega)
    simp only [Int.ofNat_zero, Int.natCast_zero] at h20
    have one : ∀ i, i ≤ t.elems.length → L13_1 t.name e a w (i : Int) = some (.bool ((upto i t.elems.length).all (fun i => decide ((t.elems.getD i []).length ≤ 30)) && (upto 0 t.above.length).all (fun i => decide ((t.above.getD i []).length ≤ 20)))) := by
      refine upto_induct ?_ fun i hi ih => ?_
      · apply L13_1_step
        simp only [h.f1, h.d1, Option.bind_some, h.e.lenD, iLt_end, cond_false, upto_end (Nat.le_refl _), List.all_nil, h20, Bool.true_and]
      · apply L13_1_step
        simp only [h.f1, h.d1, Option.bind_some, h.e.lenD, iLt_len hi, cond_true, h.e.idxD [] hi, deref_str, str?_str, sLen, l30, iAdd_nat (show i < 1000000 by omega), ih, upto_step hi, List.all_cons]
        cases decide ((t.elems.getD i []).length ≤ 30) <;> simp
    have h10 := one 0 (by omega)
    simp only [Int.ofNat_zero, Int.natCast_zero] at h10
    simp only [l20, l30, h10, thinB]
    rw [decide_eq_true h1.1, decide_eq_true h1.2]
    cases decide (t.wrong.length ≤ 20) <;> cases decide (t.name.length ≤ 30) <;> simp
  · simp only [l20, l30, thinB]
    by_cases h2 : t.elems.length ≤ 20
    · have h3 : ¬ t.above.length ≤ 20 := fun h3 => h1 ⟨h2, h3⟩
      rw [decide_eq_true h2, decide_eq_false h3]
      simp
    · rw [decide_eq_false h2]
      simp
theorem small_of_thin {t : Tbl} (h : thinB t = true) : Small t := by
  simp only [thinB, Bool.and_eq_true, decide_eq_true_eq, List.all_eq_true, mem_upto] at h
  obtain ⟨⟨⟨⟨⟨h1, h2⟩, h3⟩, h4⟩, h5⟩, h6⟩ := h
  refine ⟨by omega, by omega, fun s hs => ?_, by omega, fun l hl => ?_, by omega⟩
  · obtain ⟨i, hi, he⟩ := List.getElem_of_mem hs
    have := h5 i ⟨by omega, hi⟩
    rw [List.getD_eq_getElem?_getD, List.getElem?_eq_getElem hi, he] at this
    simp only [Option.getD_some] at this
    omega
  · obtain ⟨i, hi, he⟩ := List.getElem_of_mem hl
    have := h6 i ⟨by omega, hi⟩
    rw [List.getD_eq_getElem?_getD, List.getElem?_eq_getElem hi, he] at this
    simp only [Option.getD_some] at this
    omega

/-! Copies. -/
theorem one_int (l : List Int) : OneL (ints l) := OneL.map (fun _ => rfl) l
theorem one_str (l : List (List UInt8)) : OneL (l.map T.str) := OneL.map (fun _ => rfl) l
theorem one_bool (l : List Bool) : OneL (l.map T.bool) := OneL.map (fun _ => rfl) l
/-- Rows that read as the first lists of a table. -/
structure RowsTo (t : Tbl) (rs : List T) : Prop where
  le : rs.length ≤ t.above.length
  r : ∀ i, i < rs.length → IsSl (ints (t.above.getD i [])) (rs.getD i .nils)
theorem RowsTo.one {t : Tbl} {rs : List T} (h : RowsTo t rs) : OneL rs := fun x hx => by
  obtain ⟨i, hi, he⟩ := List.getElem_of_mem hx
  have := (h.r i hi).one
  rw [List.getD_eq_getElem?_getD, List.getElem?_eq_getElem hi, he] at this
  exact this
theorem RowsTo.snoc {t : Tbl} {rs : List T} (h : RowsTo t rs) (hl : rs.length < t.above.length) {y : T} (hy : IsSl (ints (t.above.getD rs.length [])) y) : RowsTo t (rs ++ [y]) := by
  refine ⟨by simp; omega, fun i hi => ?_⟩
  have e : (rs ++ [y]).getD i .nils = if i < rs.length then rs.getD i .nils else y := by
    rw [List.getD_eq_getElem?_getD, List.getElem?_append]
    split
    · rw [List.getD_eq_getElem?_getD]
    · have : i = rs.length := by simp at hi; omega
      subst this
      simp
  rw [e]
  split
  · rename_i h1
    exact h.r i h1
  · have : i = rs.length := by simp at hi; omega
    subst this
    exact hy
theorem copy_spec {t : Tbl} {n : List UInt8} {e a w : T} (h : IsTbl t n e a w) (hs : Small t) : ∃ e' a' w', fnO acfg 15 [tblT n e a w] = some (tblT n e' a' w') ∧ IsTbl t n e' a' w' := by
  have hsA := hs.a
  obtain ⟨e', e1, e2⟩ := appT_nil (one_str t.elems) (bytes := 16) (by have := hs.e; rw [List.length_map, maxB]; omega)
  obtain ⟨w', w1, w2⟩ := appT_nil (one_bool t.wrong) (bytes := 1) (by have := hs.w; rw [List.length_map, maxB]; omega)
  have v4 : ∀ y : T, y.one = true → vfits (.t (T.agg [.str n, e', y, w'])) (some 4) = true := fun y hy => by
    show (true && (4 == 4) && ((T.str n).one && (e'.one && (y.one && (w'.one && true))))) = true
    rw [e2.one, hy, w2.one]
    rfl
  have vm : ∀ (i g o l : Nat), vfits (.agg [.t (T.str n), .t e', .msl i g o l none, .t w']) (some 4) = true := fun i g o l => by
    show (true && (4 == 4) && ((T.str n).one && (e'.one && (true && (w'.one && true))))) = true
    rw [e2.one, w2.one]
    rfl
  have rowc : ∀ i, i < t.above.length → ∃ r x9, idxT 1 a (i : Int) = some (.ptr r) ∧ derefT none (.ptr r) = some r ∧ elemsT none r = some (cellsT (ints (t.above.getD i []))) ∧ appT none 1 8 (T.sl true 1 []) (cellsT (ints (t.above.getD i []))) = some x9 ∧ IsSl (ints (t.above.getD i [])) x9 := fun i hi => by
    obtain ⟨r, r1, r2, r3⟩ := h.row hi
    obtain ⟨y, y1, y2⟩ := appT_nil (one_int (t.above.getD i [])) (bytes := 8) (by have := hs.al _ (getD_mem [] hi); rw [List.length_map, maxB]; omega)
    exact ⟨r, y, r1, r2, elemsT_sl r3 (one_int _), y1, y2⟩
  have two : ∀ i, i ≤ t.above.length → ∀ (rs : List T) (g : Nat), rs.length = i → 1 ≤ i → RowsTo t rs → ∃ a', L15_2 n e a w (i : Int) [] n e' g 0 i w' g (cellsT rs) = some (tblT n e' a' w') ∧ IsTbl t n e' a' w' := by
    refine upto_induct ?_ fun i hi ih => ?_
    · intro rs g hl h1 hr
      refine ⟨.sl false 1 rs, ?_, h.n, e2, ⟨rs, .sl _, hl, fun i hi => hr.r i (by omega)⟩, w2⟩
      apply L15_2_step
      have hrow := rowT_all hr.one
      rw [hl] at hrow
      simp only [h.f2, h.d2, Option.bind_some, h.len2, iLt_end, cond_false, vm, cond_true, natEq_self, hrow]
    · intro rs g hl h1 hr
      obtain ⟨r, y, r1, r2, r3, y1, y2⟩ := rowc i hi
      obtain ⟨a', ha, hb⟩ := ih (rs ++ [y]) (g + 1) (by simp [hl]) (by omega) (hr.snoc (by omega) (by rw [hl]; exact y2))
      refine ⟨a', ?_, hb⟩
      apply L15_2_step
      have hok : appOK (cellsT rs) 0 i 1 [V.t y] 24 = true := appOK_row (ys := [y]) (by omega) (by rw [maxB]; simp; omega)
      have hcs : appCs (cellsT rs) 0 [V.t y] = cellsT (rs ++ [y]) := by
        have := appCs_one (cs := rs) (ys := [y]) (off := 0) (OneL.cons y2.one OneL.nil) (by simp)
        simpa using this
      have vmsl : ∀ g o l, vfits (V.msl 31 g o l none) none = true := fun _ _ _ => rfl
      have hobj : ∀ g, objBd 32 (Go.Apex.Obj.cells g 38 false (cellsT (rs ++ [y]))) = true := fun g => objBd_cells _ _ _ _ _
      simp only [h.f2, h.d2, Option.bind_some, h.len2, iLt_len hi, cond_true, r1, r2, r3, y1, vfits_one y2.one, natEq_self, hok, vmsl, hcs, hobj, iAdd_nat (show i < 1000000 by omega), appGen_one, appLen_one, ha]
  have res : ∃ a', L15_1 n e a w 0 [] n e' w' = some (tblT n e' a' w') ∧ IsTbl t n e' a' w' := by
    by_cases h0 : t.above.length = 0
    · refine ⟨.nils, ?_, h.n, e2, ⟨[], .nil rfl, by simp [h0], fun i hi => by omega⟩, w2⟩
      apply L15_1_step
      have hz : iLt 0 (t.above.length : Int) = false := by rw [h0]; rfl
      simp only [h.f2, h.d2, Option.bind_some, h.len2, hz, cond_false, v4 T.nils rfl, cond_true]
    · obtain ⟨r, y, r1, r2, r3, y1, y2⟩ := rowc 0 (by omega)
      have hr0 : RowsTo t ([] : List T) := ⟨by simp, fun i hi => by simp at hi⟩
      obtain ⟨a', ha, hb⟩ := two 1 (by omega) [y] 1 rfl (Nat.le_refl _) (hr0.snoc (by simp; omega) y2)
      refine ⟨a', ?_, hb⟩
      apply L15_1_step
      have hz : iLt 0 (t.above.length : Int) = true := by simp [iLt]; omega
      have hnew : newOK ([] : List T).length [V.t y].length 24 = true := rfl
      have hb1 : baseT none 1 T.nils = some [] := rfl
      have hrow : rowNew [] [V.t y] = cellsT [y] := rowNew_one (xs := []) (ys := [y]) OneL.nil (OneL.cons y2.one OneL.nil)
      have vmsl : ∀ g o l, vfits (V.msl 31 g o l none) none = true := fun _ _ _ => rfl
      have hobj : objBd 32 (Go.Apex.Obj.cells 1 38 false (cellsT [y])) = true := objBd_cells _ _ _ _ _
      have hi1 : iAdd IntKind.i64 0 1 = ((1 : Nat) : Int) := by decide
      have hl1 : lenNew ([] : List T) [V.t y] = 1 := rfl
      simp only [Int.ofNat_zero, Int.natCast_zero] at r1
      simp only [h.f2, h.d2, Option.bind_some, h.len2, hz, cond_true, r1, r2, r3, y1, vfits_one y2.one, hb1, hnew, vmsl, hrow, hobj, hi1, hl1, ha]
  obtain ⟨a', r1, r2⟩ := res
  refine ⟨e', a', w', ?_, r2⟩
  apply fn15
  simp only [h.v4, cond_true, h.f0, deref_str, str?_str, h.f1, h.d1, h.f3, h.d3, Option.bind_some, elemsT_sl h.e (one_str _), e1, elemsT_sl h.w (one_bool _), w1, vfits_one e2.one, vfits_one w2.one, v4 T.nils rfl, r1]

/-! The same. -/
end Go.Proofs.Try


/- What is reached by steps: two ways to look for it. No program. -/
namespace Go.StepsTo
variable {adj : Nat → List Nat} {n : Nat}
inductive R (adj : Nat → List Nat) : Nat → Nat → Prop
  | one {a b : Nat} (h : b ∈ adj a) : R adj a b
  | step {a b c : Nat} (h : R adj a b) (h2 : c ∈ adj b) : R adj a c
def falses (l : List Bool) : Nat := (l.filter fun b => !b).length
theorem falses_set : ∀ (l : List Bool) (k : Nat), l[k]? = some false → falses (l.set k true) + 1 = falses l
  | [], k, h => by simp at h
  | b :: l, 0, h => by
    simp only [List.getElem?_cons_zero, Option.some.injEq] at h
    subst h
    simp [falses]
  | b :: l, k + 1, h => by
    have ih := falses_set l k (by simpa using h)
    unfold falses at ih ⊢
    simp only [List.set_cons_succ, List.filter_cons]
    cases b <;> simp <;> omega
theorem falses_le (l : List Bool) : falses l ≤ l.length := List.length_filter_le _ _
def has (l : List Bool) (k : Nat) : Bool := l.getD k false
theorem has_set {l : List Bool} {k j : Nat} (hk : k < l.length) : has (l.set k true) j = (decide (j = k) || has l j) := by
  unfold has
  simp only [List.getD_eq_getElem?_getD, List.getElem?_set]
  by_cases e : k = j
  · subst e; simp [hk]
  · rw [if_neg e]; simp [Ne.symm e]
theorem has_false {l : List Bool} {k : Nat} (hk : k < l.length) (h : has l k = false) : l[k]? = some false := by
  unfold has at h
  rw [List.getD_eq_getElem?_getD, List.getElem?_eq_getElem hk] at h
  rw [List.getElem?_eq_getElem hk]
  exact congrArg some h
/-- First way: what is taken out is looked at, then. -/
def bfs1 (adj : Nat → List Nat) : Nat → List Bool → List Nat → List Bool
  | 0, been, _ => been
  | _ + 1, been, [] => been
  | f + 1, been, k :: todo => if has been k = true then bfs1 adj f been todo else bfs1 adj f (been.set k true) (todo ++ adj k)
structure Inv1 (adj : Nat → List Nat) (n a : Nat) (been : List Bool) (todo : List Nat) : Prop where
  len : been.length = n
  itd : ∀ k ∈ todo, k < n ∧ R adj a k
  ibn : ∀ k, k < n → has been k = true → R adj a k
  closed : ∀ k, k < n → has been k = true → ∀ c ∈ adj k, has been c = true ∨ c ∈ todo
  first : ∀ c ∈ adj a, has been c = true ∨ c ∈ todo
theorem has_lt {l : List Bool} {k : Nat} (h : has l k = true) : k < l.length := by
  rcases Nat.lt_or_ge k l.length with h1 | h1
  · exact h1
  · unfold has at h
    rw [List.getD_eq_getElem?_getD, List.getElem?_eq_none h1] at h
    cases h
theorem Inv1.done {a : Nat} {been : List Bool} (I : Inv1 adj n a been []) : ∀ k, has been k = true ↔ R adj a k := by
  intro k
  constructor
  · intro h
    exact I.ibn k (by have := has_lt h; rw [I.len] at this; exact this) h
  · intro h
    induction h with
    | one h => exact (I.first _ h).resolve_right (by simp)
    | step h h2 ih => exact (I.closed _ (by have := has_lt ih; rw [I.len] at this; exact this) ih _ h2).resolve_right (by simp)
theorem bfs1_ok {a D : Nat} (hadj : ∀ k, k < n → ∀ c ∈ adj k, c < n) (hD : ∀ k, (adj k).length ≤ D) : ∀ (f : Nat) (been : List Bool) (todo : List Nat), Inv1 adj n a been todo → falses been * (D + 1) + todo.length ≤ f →
    (bfs1 adj f been todo).length = n ∧ ∀ k, has (bfs1 adj f been todo) k = true ↔ R adj a k
  | 0, been, todo, I, hf => by
    have h0 : todo = [] := List.eq_nil_of_length_eq_zero (by omega)
    subst h0
    exact ⟨I.len, I.done⟩
  | f + 1, been, [], I, hf => ⟨I.len, I.done⟩
  | f + 1, been, k :: todo, I, hf => by
    simp only [List.length_cons] at hf
    unfold bfs1
    by_cases hb : has been k = true
    · rw [if_pos hb]
      refine bfs1_ok hadj hD f been todo ⟨I.len, fun j hj => I.itd j (by simp [hj]), I.ibn, fun j h1 h2 c hc => ?_, fun c hc => ?_⟩ (by omega)
      · rcases I.closed j h1 h2 c hc with h | h
        · exact .inl h
        · rcases List.mem_cons.1 h with rfl | h
          · exact .inl hb
          · exact .inr h
      · rcases I.first c hc with h | h
        · exact .inl h
        · rcases List.mem_cons.1 h with rfl | h
          · exact .inl hb
          · exact .inr h
    · rw [if_neg hb]
      obtain ⟨hk, hr⟩ := I.itd k (by simp)
      have hkl : k < been.length := by rw [I.len]; exact hk
      have hfs := falses_set been k (has_false hkl (by simpa using hb))
      refine bfs1_ok hadj hD f (been.set k true) (todo ++ adj k) ⟨by rw [List.length_set]; exact I.len, fun j hj => ?_, fun j h1 h2 => ?_, fun j h1 h2 c hc => ?_, fun c hc => ?_⟩ ?_
      · rcases List.mem_append.1 hj with h | h
        · exact I.itd j (by simp [h])
        · exact ⟨hadj k hk j h, .step hr h⟩
      · rw [has_set hkl] at h2
        by_cases e : j = k
        · subst e; exact hr
        · exact I.ibn j h1 (by simpa [e] using h2)
      · rw [has_set hkl] at h2
        by_cases e : j = k
        · subst e; exact .inr (by simp [hc])
        · rcases I.closed j h1 (by simpa [e] using h2) c hc with h | h
          · exact .inl (by rw [has_set hkl, h]; simp)
          · rcases List.mem_cons.1 h with rfl | h
            · exact .inl (by rw [has_set hkl]; simp)
            · exact .inr (by simp [h])
      · rcases I.first c hc with h | h
        · exact .inl (by rw [has_set hkl, h]; simp)
        · rcases List.mem_cons.1 h with rfl | h
          · exact .inl (by rw [has_set hkl]; simp)
          · exact .inr (by simp [h])
      · have h2 := hD k
        rw [List.length_append]
        have : falses been * (D + 1) = falses (been.set k true) * (D + 1) + (D + 1) := by rw [← hfs, Nat.succ_mul]
        omega
/-- Second way: what comes next is looked at when it is put in. -/
def push (seen : List Bool) (todo : List Nat) : List Nat → List Bool × List Nat
  | [] => (seen, todo)
  | k :: l => if has seen k = true then push seen todo l else push (seen.set k true) (todo ++ [k]) l
def bfs2 (adj : Nat → List Nat) : Nat → List Bool → List Nat → List Bool
  | 0, seen, _ => seen
  | _ + 1, seen, [] => seen
  | f + 1, seen, k :: todo => bfs2 adj f (push seen todo (adj k)).1 (push seen todo (adj k)).2
structure Inv2 (adj : Nat → List Nat) (n a : Nat) (seen : List Bool) (todo : List Nat) : Prop where
  len : seen.length = n
  itd : ∀ k ∈ todo, k < n ∧ (k = a ∨ has seen k = true)
  isn : ∀ k, k < n → has seen k = true → R adj a k
  closed : ∀ k, k < n → (k = a ∨ has seen k = true) → k ∈ todo ∨ ∀ c ∈ adj k, has seen c = true
theorem push_spec {a : Nat} (ha : a < n) : ∀ (l : List Nat) (seen : List Bool) (todo : List Nat) (P : Nat → Prop), seen.length = n → (∀ k ∈ l, k < n ∧ R adj a k) → (∀ k ∈ todo, k < n ∧ (k = a ∨ has seen k = true)) → (∀ k, k < n → has seen k = true → R adj a k) →
      (∀ k, k < n → (k = a ∨ has seen k = true) → P k ∨ k ∈ todo ∨ ∀ c ∈ adj k, has seen c = true) →
      (push seen todo l).1.length = n ∧ (∀ k ∈ (push seen todo l).2, k < n ∧ (k = a ∨ has (push seen todo l).1 k = true)) ∧ (∀ k, k < n → has (push seen todo l).1 k = true → R adj a k) ∧
      (∀ k, k < n → (k = a ∨ has (push seen todo l).1 k = true) → P k ∨ k ∈ (push seen todo l).2 ∨ ∀ c ∈ adj k, has (push seen todo l).1 c = true) ∧ (∀ k, has seen k = true → has (push seen todo l).1 k = true) ∧ (∀ k ∈ l, has (push seen todo l).1 k = true) ∧
      falses (push seen todo l).1 + (push seen todo l).2.length = falses seen + todo.length
  | [], seen, todo, P, h1, h2, h3, h4, h5 => ⟨h1, h3, h4, h5, fun _ h => h, fun _ h => (by cases h), rfl⟩
  | k :: l, seen, todo, P, h1, h2, h3, h4, h5 => by
    unfold push
    by_cases hk : has seen k = true
    · rw [if_pos hk]
      obtain ⟨a1, a2, a3, a4, a5, a6, a7⟩ := push_spec ha l seen todo P h1 (fun j hj => h2 j (by simp [hj])) h3 h4 h5
      exact ⟨a1, a2, a3, a4, a5, fun j hj => by
        rcases List.mem_cons.1 hj with rfl | hj
        · exact a5 _ hk
        · exact a6 j hj, a7⟩
    · rw [if_neg hk]
      obtain ⟨hkn, hkr⟩ := h2 k (by simp)
      have hkl : k < seen.length := by rw [h1]; exact hkn
      have hfs := falses_set seen k (has_false hkl (by simpa using hk))
      have mono : ∀ j, has seen j = true → has (seen.set k true) j = true := fun j h => by rw [has_set hkl, h]; simp
      obtain ⟨a1, a2, a3, a4, a5, a6, a7⟩ := push_spec ha l (seen.set k true) (todo ++ [k]) P (by rw [List.length_set]; exact h1) (fun j hj => h2 j (by simp [hj]))
        (fun j hj => by
          rcases List.mem_append.1 hj with h | h
          · exact ⟨(h3 j h).1, (h3 j h).2.imp id (mono j)⟩
          · have : j = k := by simpa using h
            subst this
            exact ⟨hkn, .inr (by rw [has_set hkl]; simp)⟩)
        (fun j hj h => by
          rw [has_set hkl] at h
          by_cases e : j = k
          · subst e; exact hkr
          · exact h4 j hj (by simpa [e] using h))
        (fun j hj h => by
          by_cases e : j = k
          · subst e; exact .inr (.inl (by simp))
          · rcases h5 j hj (h.imp id fun h => by rw [has_set hkl] at h; simpa [e] using h) with h | h | h
            · exact .inl h
            · exact .inr (.inl (by simp [h]))
            · exact .inr (.inr fun c hc => mono c (h c hc)))
      refine ⟨a1, a2, a3, a4, fun j h => a5 j (mono j h), fun j hj => ?_, ?_⟩
      · rcases List.mem_cons.1 hj with rfl | hj
        · exact a5 _ (by rw [has_set hkl]; simp)
        · exact a6 j hj
      · rw [a7, List.length_append]
        simp only [List.length_cons, List.length_nil]
        omega
theorem bfs2_ok {a : Nat} (ha : a < n) (hadj : ∀ k, k < n → ∀ c ∈ adj k, c < n) : ∀ (f : Nat) (seen : List Bool) (todo : List Nat), Inv2 adj n a seen todo → falses seen + todo.length ≤ f →
    (bfs2 adj f seen todo).length = n ∧ ∀ k, has (bfs2 adj f seen todo) k = true ↔ R adj a k := by
  have done : ∀ seen : List Bool, Inv2 adj n a seen [] → seen.length = n ∧ ∀ k, has seen k = true ↔ R adj a k := fun seen I => by
    refine ⟨I.len, fun k => ⟨fun h => I.isn k (by have := has_lt h; rw [I.len] at this; exact this) h, fun h => ?_⟩⟩
    induction h with
    | one h => exact (I.closed a ha (.inl rfl)).resolve_left (by simp) _ h
    | step h h2 ih => exact (I.closed _ (by have := has_lt ih; rw [I.len] at this; exact this) (.inr ih)).resolve_left (by simp) _ h2
  intro f
  induction f with
  | zero =>
    intro seen todo I hf
    have h0 : todo = [] := List.eq_nil_of_length_eq_zero (by omega)
    subst h0
    exact done seen I
  | succ f ih =>
    intro seen todo I hf
    cases todo with
    | nil => exact done seen I
    | cons k todo =>
      obtain ⟨hkn, hka⟩ := I.itd k (by simp)
      have hr : ∀ c ∈ adj k, c < n ∧ R adj a c := fun c hc => ⟨hadj k hkn c hc, by
        rcases hka with rfl | h
        · exact .one hc
        · exact .step (I.isn k hkn h) hc⟩
      obtain ⟨a1, a2, a3, a4, a5, a6, a7⟩ := push_spec (adj := adj) (n := n) ha (adj k) seen todo (fun j => j = k) I.len hr (fun j hj => I.itd j (by simp [hj])) I.isn (fun j hj h => by
        rcases I.closed j hj h with h | h
        · rcases List.mem_cons.1 h with rfl | h
          · exact .inl rfl
          · exact .inr (.inl h)
        · exact .inr (.inr h))
      show (bfs2 adj f _ _).length = n ∧ _
      refine ih _ _ ⟨a1, a2, a3, fun j hj h => ?_⟩ (by simp only [List.length_cons] at hf; omega)
      rcases a4 j hj h with h | h | h
      · subst h; exact .inr a6
      · exact .inl h
      · exact .inr h
/-- Both ways find the same. -/
theorem both {a D : Nat} (ha : a < n) (hadj : ∀ k, k < n → ∀ c ∈ adj k, c < n) (hD : ∀ k, (adj k).length ≤ D) {f g : Nat} (hf : n * (D + 1) + D ≤ f) (hg : n + 1 ≤ g) :
    (bfs1 adj f (List.replicate n false) (adj a)).length = n ∧ (bfs2 adj g (List.replicate n false) [a]).length = n ∧
    (∀ k, has (bfs1 adj f (List.replicate n false) (adj a)) k = true ↔ R adj a k) ∧ ∀ k, has (bfs2 adj g (List.replicate n false) [a]) k = true ↔ R adj a k := by
  have h0 : ∀ k, has (List.replicate n false) k = false := fun k => by
    unfold has
    rw [List.getD_eq_getElem?_getD, List.getElem?_replicate]
    split <;> rfl
  have hfl : falses (List.replicate n false) ≤ n := by have := falses_le (List.replicate n false); rw [List.length_replicate] at this; exact this
  have h1 := bfs1_ok (a := a) hadj hD f (List.replicate n false) (adj a) ⟨List.length_replicate, fun k hk => ⟨hadj a ha k hk, .one hk⟩, fun k _ h => (by rw [h0] at h; cases h), fun k _ h => (by rw [h0] at h; cases h), fun c hc => .inr hc⟩
    (by have := hD a; have := Nat.mul_le_mul_right (D + 1) hfl; omega)
  have h2 := bfs2_ok ha hadj g (List.replicate n false) [a] ⟨List.length_replicate, fun k hk => (by
      have : k = a := by simpa using hk
      subst this
      exact ⟨ha, .inl rfl⟩), fun k _ h => (by rw [h0] at h; cases h), fun k _ h => by
      rcases h with rfl | h
      · exact .inl (by simp)
      · rw [h0] at h; cases h⟩ (by simp only [List.length_cons, List.length_nil]; omega)
  exact ⟨h1.1, h2.1, h1.2, h2.2⟩
end Go.StepsTo


/- From an element, by steps: the first way. -/
open Go Go.Apex Go.StepsTo
namespace Go.Proofs.Try
structure Good (t : Tbl) : Prop where
  e1 : 1 ≤ t.elems.length
  e12 : t.elems.length ≤ 12
  a : t.above.length = t.elems.length
  w : t.wrong.length = t.elems.length
  lt : ∀ k, k < t.elems.length → ∀ z ∈ t.above.getD k [], 0 ≤ z ∧ z < t.elems.length
  al : ∀ k, k < t.elems.length → (t.above.getD k []).length ≤ 20
theorem mem_getD {α : Type} {l : List α} {z d : α} (h : z ∈ l) : ∃ i, i < l.length ∧ l.getD i d = z := by
  obtain ⟨i, hi, he⟩ := List.getElem_of_mem h
  exact ⟨i, hi, by rw [List.getD_eq_getElem?_getD, List.getElem?_eq_getElem hi, he]; rfl⟩
theorem good_of {t : Tbl} (hc : checkB t = true) (ht : thinB t = true) : Good t := by
  simp only [checkB, Bool.and_eq_true, decide_eq_true_eq, List.all_eq_true, mem_upto] at hc
  obtain ⟨⟨⟨⟨⟨⟨h1, h2⟩, h3⟩, h4⟩, h5⟩, h6⟩, h7⟩ := hc
  simp only [thinB, Bool.and_eq_true, decide_eq_true_eq, List.all_eq_true, mem_upto] at ht
  refine ⟨h2, h3, h4, h5, fun k hk z hz => ?_, fun k hk => ht.2 k ⟨by omega, by omega⟩⟩
  have h8 := h7 k ⟨by omega, by omega⟩
  simp only [listB, Bool.and_eq_true, List.all_eq_true, mem_upto, elemB, decide_eq_true_eq] at h8
  obtain ⟨i, hi, he⟩ := mem_getD (d := 0) hz
  have h9 := h8.1 i ⟨by omega, hi⟩
  rw [he] at h9
  exact h9
def adjN (t : Tbl) (k : Nat) : List Nat := (t.above.getD k []).map Int.toNat
abbrev natsT (l : List Nat) : List T := l.map fun k : Nat => T.int .i64 (k : Int)
abbrev boolsT (l : List Bool) : List T := l.map T.bool
section
variable {t : Tbl} (hg : Good t)
include hg
theorem Good.row {k : Nat} (hk : k < t.elems.length) : ints (t.above.getD k []) = natsT (adjN t k) := by
  unfold ints natsT adjN
  rw [List.map_map]
  refine List.map_congr_left fun z hz => ?_
  have := hg.lt k hk z hz
  simp only [Function.comp]
  rw [Int.toNat_of_nonneg this.1]
theorem Good.adj_lt : ∀ k, k < t.elems.length → ∀ c ∈ adjN t k, c < t.elems.length := fun k hk c hc => by
  obtain ⟨z, hz, rfl⟩ := List.mem_map.1 hc
  have := hg.lt k hk z hz
  omega
theorem Good.adj_len (k : Nat) : (adjN t k).length ≤ 20 := by
  unfold adjN
  rw [List.length_map]
  by_cases hk : k < t.elems.length
  · exact hg.al k hk
  · have : t.above.length ≤ k := by have := hg.a; omega
    rw [List.getD_eq_getElem?_getD, List.getElem?_eq_none this]
    simp
end
theorem one_nats (l : List Nat) : OneL (natsT l) := OneL.map (fun _ => rfl) l
theorem one_bools (l : List Bool) : OneL (boolsT l) := OneL.map (fun _ => rfl) l
theorem has_at {l : List Bool} {k : Nat} (hk : k < l.length) : (boolsT l)[k]? = some (.bool (has l k)) := by
  unfold has
  rw [List.getElem?_map, List.getD_eq_getElem?_getD, List.getElem?_eq_getElem hk]
  rfl
theorem set_at (l : List Bool) (k : Nat) : (boolsT l).set k (.bool true) = boolsT (l.set k true) := by simp [boolsT, List.map_set]
/-- A struct of a table and one more. -/
abbrev ordT (n : List UInt8) (e a w s : T) : T := .agg [.str n, e, a, w, s]
theorem ord_fld {t : Tbl} {n : List UInt8} {e a w s : T} (h : IsTbl t n e a w) : fldT 0 (some 4) (.ptr (ordT n e a w s)) = some (.ptr (tblT n e a w)) := by
  show (if (tblT n e a w).fits (some 4) = true then some (T.ptr (tblT n e a w)) else none) = _
  rw [if_pos h.fits]
/-- What an append leaves of a row in memory. -/
theorem app_row {ts : List T} {off : Nat} {td l : List Nat} (h : ts.drop off = natsT td) (hl : off + td.length = ts.length) :
    ∃ off' ts', appOff off (cellsT (natsT l)) = off' ∧ appCs (cellsT ts) off (cellsT (natsT l)) = cellsT ts' ∧ ts'.drop off' = natsT (td ++ l) ∧ off' + (td ++ l).length = ts'.length := by
  cases l with
  | nil => exact ⟨off, ts, rfl, rfl, by simpa using h, by simpa using hl⟩
  | cons c l =>
    refine ⟨0, ts.drop off ++ natsT (c :: l), rfl, appCs_one (one_nats _) (by simp), ?_, ?_⟩
    · rw [h, List.drop_zero, ← List.map_append]
    · rw [h, ← List.map_append, List.length_map]
      omega
theorem appLen_cells (len : Nat) (l : List Nat) : appLen len (cellsT (natsT l)) = len + l.length := by simp [appLen]
theorem iLt_pos (k : Nat) : iLt 0 (nInt (k + 1)) = true := by unfold iLt nInt; exact decide_eq_true (by omega)
theorem rowIn_lt {k n : Nat} (h : k < n) : rowIn (k : Int) n = true := decide_eq_true (by omega)
theorem rowOff_1 (off k : Nat) : rowOff off (k : Int) 1 = off + k := by simp [rowOff]
theorem rowSetOK_lt {cs : List T} {k : Nat} (h : k < cs.length) : rowSetOK (cellsT cs) (0 + k) 1 = true := decide_eq_true (by rw [List.length_map]; omega)
theorem from_loop {t : Tbl} (hg : Good t) {n : List UInt8} {e a w s : T} (h : IsTbl t n e a w) : ∀ (f : Nat) (been : List Bool) (td : List Nat) (g g2 off : Nat) (ts : List T),
    been.length = t.elems.length → (∀ k ∈ td, k < t.elems.length) → falses been * 21 + td.length ≤ f → f < 1000000 → ts.drop off = natsT td → off + td.length = ts.length →
    R91_2 (.ptr (ordT n e a w s)) g 0 t.elems.length g2 off td.length g (cellsT (boolsT been)) g2 (cellsT ts) =
      some (.tup [.nili, .int .i64 4, .int .i64 0, .int .i64 (t.elems.length : Int), .nils, .tup (boolsT (bfs1 (adjN t) f been td))]) := by
  have fin : ∀ (been : List Bool) (g g2 off : Nat) (ts : List T), R91_2 (.ptr (ordT n e a w s)) g 0 t.elems.length g2 off 0 g (cellsT (boolsT been)) g2 (cellsT ts) =
      some (.tup [.nili, .int .i64 4, .int .i64 0, .int .i64 (t.elems.length : Int), .nils, .tup (boolsT been)]) := fun been g g2 off ts => by
    apply R91_2_step
    have h0 : iLt 0 (nInt 0) = false := rfl
    simp only [h0, cond_false, Nat.beq_refl, cond_true, allT_cells, Option.bind_some]
    rfl
  intro f
  induction f with
  | zero =>
    intro been td g g2 off ts hb htd hf hf2 hts hlen
    have : td = [] := List.eq_nil_of_length_eq_zero (by omega)
    subst this
    exact fin been g g2 off ts
  | succ f ih =>
    intro been td g g2 off ts hb htd hf hf2 hts hlen
    cases td with
    | nil => exact fin been g g2 off ts
    | cons k td =>
      have hk := htd k (by simp)
      have hkl : k < been.length := by omega
      simp only [List.length_cons] at hf hlen ⊢
      have hoff : ts[off + 0]? = some (.int .i64 (k : Int)) := by
        have : (ts.drop off)[0]? = some (.int .i64 (k : Int)) := by rw [hts]; rfl
        rwa [List.getElem?_drop] at this
      have htail : ts.drop (off + 1) = natsT td := by
        rw [← List.drop_drop, hts]
        rfl
      have hsub : subOK 1 (Int.ofNat (td.length + 1)) (td.length + 1) = true := decide_eq_true (by simp only [Int.ofNat_eq_natCast]; omega)
      have hrl : rowLen 1 (Int.ofNat (td.length + 1)) = td.length := by unfold rowLen; simp
      have ro1 : rowOff off 1 1 = off + 1 := by simp [rowOff]
      have ro0 : rowOff off 0 1 = off + 0 := by simp [rowOff]
      have ri0 : rowIn 0 (td.length + 1) = true := decide_eq_true (by omega)
      apply R91_2_step
      by_cases hbk : has been k = true
      · have := ih been td g g2 (off + 1) ts hb (fun j hj => htd j (by simp [hj])) (by omega) (by omega) htail (by omega)
        simp only [iLt_pos, cond_true, ri0, natEq_self, ro0, rowS_cells hoff, Option.bind_some, int?_int, hsub, rowIn_lt hk, rowOff_1, rowS_cells (show (boolsT been)[0 + k]? = _ by rw [Nat.zero_add]; exact has_at hkl),
          bool?_bool, hbk, bNot, Bool.not_true, cond_false, objBd_cells, ro1, hrl, this, bfs1, if_true]
      · obtain ⟨r, r1, r2, r3⟩ := h.row (show k < t.above.length by rw [hg.a]; exact hk)
        rw [hg.row hk] at r3
        obtain ⟨off', ts', p1, p2, p3, p4⟩ := app_row (l := adjN t k) htail (by omega)
        have hfs := falses_set been k (has_false hkl (by simpa using hbk))
        have hal := hg.adj_len k
        have := ih (been.set k true) (td ++ adjN t k) g (appGen g2 (cellsT (natsT (adjN t k)))) off' ts' (by rw [List.length_set]; exact hb) (fun j hj => by
          rcases List.mem_append.1 hj with hj | hj
          · exact htd j (by simp [hj])
          · exact hg.adj_lt k hk j hj) (by rw [List.length_append]; omega) (by omega) p3 p4
        have hok : appOK (cellsT ts) (off + 1) td.length 1 (cellsT (natsT (adjN t k))) 8 = true := appOK_row (by omega) (by rw [List.length_map, maxB]; omega)
        have hb2 : has been k = false := by simpa using hbk
        rw [List.length_append] at this
        have hset : rowSet (cellsT (boolsT been)) (0 + k) [V.t (T.bool true)] = cellsT (boolsT (been.set k true)) := by
          rw [rowSet_cells (by rw [List.length_map]; omega), Nat.zero_add, set_at]
        have hsok : rowSetOK (cellsT (boolsT been)) (0 + k) [V.t (T.bool true)].length = true := rowSetOK_lt (by rw [List.length_map]; exact hkl)
        have hp : isPtrT (.ptr (ordT n e a w s)) = true := rfl
        simp only [iLt_pos, cond_true, ri0, natEq_self, ro0, rowS_cells hoff, Option.bind_some, int?_int, hsub, rowIn_lt hk, rowOff_1, rowS_cells (show (boolsT been)[0 + k]? = _ by rw [Nat.zero_add]; exact has_at hkl),
          bool?_bool, hb2, bNot, Bool.not_false, hsok, hp, ord_fld h, h.f2, h.d2, r1, r2, elemsT_sl r3 (one_nats _), ro1, hrl, hok, hset, p1, p2, objBd_cells, appLen_cells, this, bfs1, if_neg, Bool.false_eq_true, if_false]
theorem zerosV_bools (n : Nat) : zerosV (n : Int) (.bool false) = cellsT (boolsT (List.replicate n false)) := by
  unfold zerosV zeros
  rw [Int.toNat_natCast]
  induction n with
  | zero => rfl
  | succ n ih => simp only [List.replicate_succ, List.flatten_cons, ih, List.map_cons]; rfl
theorem rowOf_nil : rowO acfg 108 [.nils] = some (.tup [.nilp, .nils]) := by
  apply row108
  rfl
theorem rowOf_sl (ex : Bool) (l : List Nat) (hl : l.length ≤ 20) : rowO acfg 108 [.sl ex 1 (natsT l)] = some (.tup [.nili, .int .i64 3, .int .i64 0, .int .i64 (l.length : Int), .nils, .tup (natsT l)]) := by
  apply row108
  have h1 : nilT (D.slice 3) (.sl ex 1 (natsT l)) = some false := rfl
  have h2 : appOK [] 0 0 1 (cellsT (natsT l)) 8 = true := appOK_row (cs := []) rfl (by rw [List.length_map, maxB]; omega)
  have h3 : elemsT none (.sl ex 1 (natsT l)) = some (cellsT (natsT l)) := elemsT_sl (.sl ex) (one_nats l)
  have h4 : appCs [] 0 (cellsT (natsT l)) = cellsT (natsT l) := by
    cases l with
    | nil => rfl
    | cons c l => exact appCs_one (cs := []) (off := 0) (one_nats _) (by simp)
  have h5 : appOff 0 (cellsT (natsT l)) = 0 := by cases l <;> rfl
  have h6 : appLen 0 (cellsT (natsT l)) = l.length := by rw [appLen_cells]; simp
  simp only [h1, Option.bind_some, cond_false, h3, cond_true, h2, Nat.beq_refl, h4, allT_cells, h5, h6]
  rfl
theorem from_spec {t : Tbl} (hg : Good t) {n : List UInt8} {e a w s : T} (h : IsTbl t n e a w) {k : Nat} (hk : k < t.elems.length) :
    rowO acfg 91 [.ptr (ordT n e a w s), .int .i64 (k : Int)] =
      some (.tup [.nili, .int .i64 4, .int .i64 0, .int .i64 (t.elems.length : Int), .nils, .tup (boolsT (bfs1 (adjN t) 1000 (List.replicate t.elems.length false) (adjN t k)))]) := by
  apply row91
  obtain ⟨r, r1, r2, r3⟩ := h.row (show k < t.above.length by rw [hg.a]; exact hk)
  rw [hg.row hk] at r3
  have hp : isPtrT (.ptr (ordT n e a w s)) = true := rfl
  have h12 := hg.e12
  have hmk : makeOK (t.elems.length : Int) (t.elems.length : Int) 1 = true := decide_eq_true (by rw [show maxBytes = 140737488355328 from rfl]; omega)
  have hfl : falses (List.replicate t.elems.length false) ≤ t.elems.length := by have := falses_le (List.replicate t.elems.length false); rw [List.length_replicate] at this; exact this
  have hnat : natOf (t.elems.length : Int) = t.elems.length := Int.toNat_natCast _
  simp only [hp, cond_true, ord_fld h, h.f1, h.d1, Option.bind_some, h.e.lenD, hmk, h.f2, h.d2, r1, r2, zerosV_bools, objBd_cells, hnat]
  have hal := hg.adj_len k
  cases r3 with
  | nil h0 =>
    obtain ⟨hh, hc⟩ := row_tree rowOf_nil
    have h00 : adjN t k = [] := List.map_eq_nil_iff.1 h0
    have hz : iLt 0 0 = false := rfl
    rw [hc, h00]
    simp only [Option.bind_some, treeV, cond_true, freshTree, Bool.true_or, if_true]
    apply R91_1_step
    simp only [lenT, Option.bind_some, hz, cond_false, Nat.beq_refl, cond_true, allT_cells]
    rfl
  | sl ex =>
    obtain ⟨p, p1, p2, p3⟩ := row_fresh (sh := none) (rowOf_sl ex (adjN t k) hal)
    rw [p1]
    simp only [Option.bind_some, p2, cond_false, p3 true (.inl rfl)]
    have := from_loop hg h (s := s) 1000 (List.replicate t.elems.length false) (adjN t k) 0 1 0 (natsT (adjN t k)) List.length_replicate (hg.adj_lt k hk) (by omega) (by omega) rfl (by simp)
    simp only [objBd_cells, cond_true, this]
end Go.Proofs.Try


/- From an element, by steps: the second way; both are the same. -/
open Go Go.Apex Go.StepsTo
namespace Go.Proofs.Try
/-- One more at the end of a row in memory. -/
theorem app_one {ts : List T} {off : Nat} {td : List Nat} (h : ts.drop off = natsT td) (hl : off + td.length = ts.length) (k : Nat) :
    appCs (cellsT ts) off [V.t (.int .i64 (k : Int))] = cellsT (natsT (td ++ [k])) := by
  have := appCs_one (cs := ts) (ys := natsT [k]) (off := off) (one_nats _) (by simp)
  rw [h, ← List.map_append] at this
  exact this
section
variable {t : Tbl} (hg : Good t) {n : List UInt8} {e a w : T} (h : IsTbl t n e a w)
include hg h
end
/-- Whether one is reached from another. -/
def belowB (t : Tbl) (c b : Nat) : Bool := has (bfs1 (adjN t) 1000 (List.replicate t.elems.length false) (adjN t c)) b
/-- The same or reached. -/
def leB (t : Tbl) (c b : Nat) : Bool := decide (c = b) || belowB t c b
end Go.Proofs.Try


/- An order that is opened; where, first, bounds, join. -/
open Go Go.Apex Go.StepsTo
namespace Go.Proofs.Try
def reach (t : Tbl) (k : Nat) : List Bool := bfs1 (adjN t) 1000 (List.replicate t.elems.length false) (adjN t k)
theorem bfs1_len (adj : Nat → List Nat) : ∀ (f : Nat) (been : List Bool) (td : List Nat), (bfs1 adj f been td).length = been.length
  | 0, _, _ => rfl
  | f + 1, _, [] => rfl
  | f + 1, been, k :: td => by
    unfold bfs1
    split
    · exact bfs1_len adj f been td
    · rw [bfs1_len adj f, List.length_set]
theorem reach_len (t : Tbl) (k : Nat) : (reach t k).length = t.elems.length := by rw [reach, bfs1_len, List.length_replicate]
def rowOfK (t : Tbl) (k : Nat) : T := .sl false 1 (boolsT (reach t k))
def rowsK (t : Tbl) : List T := (upto 0 t.elems.length).map (rowOfK t)
theorem one_rows (l : List Nat) (t : Tbl) : OneL (l.map (rowOfK t)) := OneL.map (fun _ => rfl) l
/-- An order that is opened. -/
def ordP (t : Tbl) (n : List UInt8) (e a w : T) : T := .ptr (ordT n e a w (.sl false 1 (rowsK t)))
theorem upto_get {n k : Nat} (h : k < n) : (upto 0 n)[k]? = some k := by
  unfold upto
  rw [List.getElem?_range' (by omega)]
  simp
theorem treeOf_cells {ts : List T} (h : OneL ts) : treeOf none (cellsT ts) 0 ts.length = some (.sl false 1 ts) := by
  unfold treeOf rowTree
  rw [elemsFrom_cells _ 0 _ (by simp)]
  simp only [Option.bind_some, allT_cells, List.drop_zero, List.take_length]
  have hall : (ts.all fun x => x.fits none) = true := List.all_eq_true.2 fun x hx => h x hx
  rw [if_pos hall]
  rfl
theorem upto_snoc {i : Nat} : upto 0 (i + 1) = upto 0 i ++ [i] := by
  unfold upto
  simp only [Nat.sub_zero]
  rw [List.range'_concat]
  simp
section
variable {t : Tbl} (hg : Good t) {n : List UInt8} {e a w : T} (h : IsTbl t n e a w)
include hg h
theorem from_row (s : T) {k : Nat} (hk : k < t.elems.length) : ∃ p, callO acfg 91 [.ptr (ordT n e a w s), .int .i64 (k : Int)] = some p ∧ treeV p.1 = false ∧ freshRow false 4 none p = some (0, t.elems.length, cellsT (boolsT (reach t k))) := by
  have h1 := from_spec hg h (s := s) hk
  obtain ⟨p, p1, p2, p3⟩ := row_fresh (sh := none) (off := 0) h1
  exact ⟨p, p1, p2, p3 false (.inr (List.all_eq_true.2 fun x hx => by
    obtain ⟨b, _, rfl⟩ := List.mem_map.1 hx
    rfl))⟩
theorem open_loop : ∀ i, i ≤ t.elems.length → ∀ g, 1 ≤ i → L57_2 (t.elems.length : Int) (i : Int) n e a w g 0 i g (cellsT ((upto 0 i).map (rowOfK t))) = some (.tup [ordP t n e a w, .int .i64 0]) := by
  have h12 := hg.e12
  have hlen : ∀ i, ((upto 0 i).map (rowOfK t)).length = i := fun i => by simp [upto]
  have hro : ∀ i, rowT none (cellsT ((upto 0 i).map (rowOfK t))) 0 i = some ((upto 0 i).map (rowOfK t)) := fun i => by
    have := rowT_all (one_rows (upto 0 i) t)
    rwa [hlen] at this
  refine upto_induct ?_ fun i hi ih => ?_
  · intro g _
    apply L57_2_step
    simp only [iLt_end, cond_false, natEq_self, cond_true, hro, Option.bind_some]
    rfl
  · intro g h1
    obtain ⟨p, p1, p2, p3⟩ := from_row hg h (.sl false 1 ((upto 0 i).map (rowOfK t))) hi
    have htr : treeOf none (cellsT (boolsT (reach t i))) 0 t.elems.length = some (rowOfK t i) := by
      have := treeOf_cells (one_bools (reach t i))
      rw [List.length_map, reach_len] at this
      exact this
    have vf : vfits (V.t (rowOfK t i)) none = true := rfl
    have hok : appOK (cellsT ((upto 0 i).map (rowOfK t))) 0 i 1 [V.t (rowOfK t i)] 24 = true := appOK_row (ys := [rowOfK t i]) (by rw [hlen]; omega) (by simp only [List.length_cons, List.length_nil, maxB]; omega)
    have hcs : appCs (cellsT ((upto 0 i).map (rowOfK t))) 0 [V.t (rowOfK t i)] = cellsT ((upto 0 (i + 1)).map (rowOfK t)) := by
      have := appCs_one (cs := (upto 0 i).map (rowOfK t)) (ys := [rowOfK t i]) (off := 0) (OneL.cons rfl OneL.nil) (by simp)
      rw [upto_snoc, List.map_append]
      simpa using this
    have vm : ∀ g o l, vfits (V.msl 28 g o l none) none = true := fun _ _ _ => rfl
    have := ih (g + 1) (by omega)
    apply L57_2_step
    simp only [iLt_len hi, cond_true, natEq_self, hro, Option.bind_some, p1, p2, cond_false, p3, htr, vf, hok, vm, hcs, objBd_cells, appGen_one, appLen_one, iAdd_nat (show i < 1000000 by omega), this]
theorem open_spec (hs : Small t) : fnO acfg 57 [tblT n e a w] = some (bif checkB t then .tup [ordP t n e a w, .int .i64 0] else .tup [.nilp, .int .i64 4]) := by
  have h12 := hg.e12
  apply fn57
  have i0 : iEq 0 0 = true := rfl
  have i4 : iEq 4 0 = false := rfl
  cases hc : checkB t with
  | false =>
    simp only [h.v4, cond_true, h.d4, Option.bind_some, agg4, nth0, nth1, nth2, nth3, str?_str, check_spec h hs, hc, scalar_int, int?_int, cond_false, i4, bNot, Bool.not_false]
  | true =>
    have v5 : vfits (.t (T.agg [.str n, e, a, w, .nils])) (some 5) = true := by
      show (true && (5 == 5) && ((T.str n).one && (e.one && (a.one && (w.one && (true && true)))))) = true
      rw [h.e.one, h.a1, h.w.one]
      rfl
    have hpos : 0 < t.elems.length := hg.e1
    obtain ⟨p, p1, p2, p3⟩ := from_row hg h .nils hpos
    have htr : treeOf none (cellsT (boolsT (reach t 0))) 0 t.elems.length = some (rowOfK t 0) := by
      have := treeOf_cells (one_bools (reach t 0))
      rw [List.length_map, reach_len] at this
      exact this
    have vf : vfits (V.t (rowOfK t 0)) none = true := rfl
    have vm : ∀ g o l, vfits (V.msl 28 g o l none) none = true := fun _ _ _ => rfl
    have hbase : baseT none 1 .nils = some [] := rfl
    have hnew : newOK ([] : List T).length [V.t (rowOfK t 0)].length 24 = true := rfl
    have hrow : rowNew [] [V.t (rowOfK t 0)] = cellsT ((upto 0 1).map (rowOfK t)) := rowNew_one (xs := []) (ys := [rowOfK t 0]) OneL.nil (OneL.cons rfl OneL.nil)
    have hln : lenNew ([] : List T) [V.t (rowOfK t 0)] = 1 := rfl
    have hadd : iAdd .i64 0 1 = ((1 : Nat) : Int) := by decide
    have hz : iLt 0 (t.elems.length : Int) = true := decide_eq_true (by omega)
    have := open_loop hg h 1 (by omega) 1 (by omega)
    simp only [Int.natCast_zero] at p1
    simp only [h.v4, cond_true, h.d4, Option.bind_some, agg4, nth0, nth1, nth2, nth3, str?_str, check_spec h hs, hc, scalar_int, int?_int, cond_false, i0, bNot, Bool.not_true, v5, h.f1, h.d1, h.e.lenD]
    apply L57_1_step
    simp only [hz, cond_true, p1, Option.bind_some, p2, cond_false, p3, htr, vf, hbase, hnew, hrow, hln, vm, hadd, objBd_cells, this]
end
/-! Of an order that is opened. -/
section
variable {t : Tbl} (hg : Good t) {n : List UInt8} {e a w : T} (h : IsTbl t n e a w)
omit hg in
theorem ord_isPtr : isPtrT (ordP t n e a w) = true := rfl
theorem ord_f4 : fldT 4 none (ordP t n e a w) = some (.ptr (.sl false 1 (rowsK t))) := fld_at rfl rfl
theorem ord_d4 : derefT none (.ptr (.sl false 1 (rowsK t))) = some (.sl false 1 (rowsK t)) := rfl
theorem ord_row {k : Nat} (hk : k < t.elems.length) : idxT 1 (.sl false 1 (rowsK t)) (k : Int) = some (.ptr (rowOfK t k)) :=
  (IsSl.sl false).idx (by unfold rowsK; rw [List.getElem?_map, upto_get hk]; rfl)
theorem ord_rowd (k : Nat) : derefT none (.ptr (rowOfK t k)) = some (rowOfK t k) := rfl
theorem row_at {k b : Nat} (hb : b < t.elems.length) : idxT 1 (rowOfK t k) (b : Int) = some (.ptr (.bool (belowB t k b))) :=
  (IsSl.sl false).idx (has_at (by rw [reach_len]; exact hb))
theorem isBelow_spec {c b : Nat} (hc : c < t.elems.length) (hb : b < t.elems.length) : fnO acfg 70 [ordP t n e a w, .int .i64 (c : Int), .int .i64 (b : Int)] = some (.bool (leB t c b)) := by
  apply fn70
  by_cases hcb : c = b
  · subst hcb
    have he : iEq (c : Int) (c : Int) = true := by simp [iEq]
    simp only [he, cond_true, leB, decide_true, Bool.true_or]
  · have he : iEq (c : Int) (b : Int) = false := by simp [iEq]; omega
    simp only [he, cond_false, ord_isPtr, cond_true, ord_f4, Option.bind_some, ord_d4, ord_row hc, ord_rowd, row_at hb, deref_bool, bool?_bool, leB, hcb, decide_false, Bool.false_or]
include h in
theorem ord_f0 : fldT 0 (some 4) (ordP t n e a w) = some (.ptr (tblT n e a w)) := ord_fld h
include hg h in
theorem where_spec {f : T} {p : Nat → Bool} (hf : ∀ i, i < t.elems.length → callT acfg f [.int .i64 (i : Int)] = some (.bool (p i))) :
    ∃ y, fnO acfg 66 [ordP t n e a w, f] = some y ∧ IsSl (natsT ((upto 0 t.elems.length).filter p)) y := by
  have h12 := hg.e12
  have two : ∀ i, i ≤ t.elems.length → ∀ (acc : List Nat) (g : Nat), acc.length ≤ i → L66_2 f g 0 acc.length (t.elems.length : Int) (i : Int) g (cellsT (natsT acc)) = some (.sl false 1 (natsT (acc ++ (upto i t.elems.length).filter p))) := by
    refine upto_induct ?_ fun i hi ih => ?_
    · intro acc g hl
      have := rowT_all (one_nats acc)
      rw [List.length_map] at this
      apply L66_2_step
      simp only [iLt_end, cond_false, natEq_self, cond_true, this, Option.bind_some, upto_end (Nat.le_refl _), List.filter_nil, List.append_nil]
    · intro acc g hl
      apply L66_2_step
      cases hp : p i with
      | false =>
        have := ih acc g (by omega)
        simp only [iLt_len hi, cond_true, hf i hi, Option.bind_some, bool?_bool, hp, cond_false, objBd_cells, iAdd_nat (show i < 1000000 by omega), this, upto_step hi, List.filter_cons, Bool.false_eq_true, if_false]
      | true =>
        have := ih (acc ++ [i]) (g + 1) (by rw [List.length_append]; simp only [List.length_cons, List.length_nil]; omega)
        rw [List.length_append] at this
        have hl1 : acc.length + [i].length = acc.length + 1 := rfl
        rw [hl1] at this
        have hok : appOK (cellsT (natsT acc)) 0 acc.length 1 [V.t (T.int .i64 (i : Int))] 8 = true := appOK_row (ys := [T.int .i64 (i : Int)]) (by simp) (by simp only [List.length_cons, List.length_nil, maxB]; omega)
        simp only [iLt_len hi, cond_true, hf i hi, Option.bind_some, bool?_bool, hp, natEq_self, hok, app_one (ts := natsT acc) (off := 0) (td := acc) rfl (by simp), objBd_cells, appGen_one, appLen_one, iAdd_nat (show i < 1000000 by omega), this,
          upto_step hi, List.filter_cons, if_true, List.append_assoc, List.cons_append, List.nil_append]
  have one : ∀ i, i ≤ t.elems.length → ∃ y, L66_1 f (t.elems.length : Int) (i : Int) = some y ∧ IsSl (natsT ((upto i t.elems.length).filter p)) y := by
    refine upto_induct ?_ fun i hi ih => ?_
    · refine ⟨.nils, ?_, .nil (by rw [upto_end (Nat.le_refl _)]; rfl)⟩
      apply L66_1_step
      simp only [iLt_end, cond_false]
    · cases hp : p i with
      | false =>
        obtain ⟨y, y1, y2⟩ := ih
        refine ⟨y, ?_, by rw [upto_step hi, List.filter_cons, hp]; exact y2⟩
        apply L66_1_step
        simp only [iLt_len hi, cond_true, hf i hi, Option.bind_some, bool?_bool, hp, cond_false, iAdd_nat (show i < 1000000 by omega), y1]
      | true =>
        by_cases h0 : i = i
        · have := two (i + 1) (by omega) [i] 1 (by simp)
          refine ⟨.sl false 1 (natsT ([i] ++ (upto (i + 1) t.elems.length).filter p)), ?_, by rw [upto_step hi, List.filter_cons, hp]; exact .sl _⟩
          have hbase : baseT none 1 .nils = some [] := rfl
          have hnew : newOK ([] : List T).length [V.t (T.int .i64 (i : Int))].length 8 = true := rfl
          have hrow : rowNew [] [V.t (T.int .i64 (i : Int))] = cellsT (natsT [i]) := rowNew_one (xs := []) (ys := natsT [i]) OneL.nil (one_nats _)
          have hln : lenNew ([] : List T) [V.t (T.int .i64 (i : Int))] = 1 := rfl
          have hl1 : [i].length = 1 := rfl
          rw [hl1] at this
          apply L66_1_step
          simp only [iLt_len hi, cond_true, hf i hi, Option.bind_some, bool?_bool, hp, hbase, hnew, hrow, hln, objBd_cells, iAdd_nat (show i < 1000000 by omega), this]
        · exact absurd rfl h0
  obtain ⟨y, y1, y2⟩ := one 0 (by omega)
  refine ⟨y, ?_, y2⟩
  apply fn66
  simp only [ord_isPtr, cond_true, ord_f0 h, Option.bind_some, h.f1, h.d1, h.e.lenD]
  exact y1
end
end Go.Proofs.Try


/- First, bounds, join; what breaks an order. -/
open Go Go.Apex Go.StepsTo
namespace Go.Proofs.Try
theorem mode93 : acfg.mode 93 = .scalar := by kernel_rfl
theorem mode94 : acfg.mode 94 = .scalar := by kernel_rfl
theorem mode110 : acfg.mode 110 = .scalar := by kernel_rfl
theorem mode111 : acfg.mode 111 = .scalar := by kernel_rfl
theorem mode101 : acfg.mode 101 = .scalar := by kernel_rfl
theorem mode102 : acfg.mode 102 = .scalar := by kernel_rfl
def firstB (t : Tbl) (p : Nat → Bool) : Option Nat := ((upto 0 t.elems.length).filter p).head?
def ubs (t : Tbl) (i j : Nat) : List Nat := (upto 0 t.elems.length).filter fun k => leB t i k && leB t j k
/-- Whether one of these is below them all. -/
def lubB (t : Tbl) (us : List Nat) : Bool := us.any fun m => us.all fun k => leB t m k
theorem ubs_lt {t : Tbl} {i j k : Nat} (h : k ∈ ubs t i j) : k < t.elems.length := (mem_upto.1 (List.mem_filter.1 h).1).2
theorem ubs_len (t : Tbl) (i j : Nat) : (ubs t i j).length ≤ t.elems.length := by
  refine Nat.le_trans (List.length_filter_le _ _) ?_
  simp [upto]
theorem all_getD (l : List Nat) (q : Nat → Bool) : (upto 0 l.length).all (fun i => q (l.getD i 0)) = l.all q := by
  rw [Bool.eq_iff_iff, List.all_eq_true, List.all_eq_true]
  constructor
  · intro h x hx
    obtain ⟨i, hi, he⟩ := mem_getD (d := 0) hx
    have := h i (mem_upto.2 ⟨by omega, hi⟩)
    rwa [he] at this
  · intro h i hi
    exact h _ (getD_mem 0 (mem_upto.1 hi).2)
theorem ints_nats (l : List Nat) : ints (l.map Int.ofNat) = natsT l := by unfold ints natsT; rw [List.map_map]; rfl
theorem getD_ofNat (l : List Nat) (i : Nat) : (l.map Int.ofNat).getD i 0 = ((l.getD i 0 : Nat) : Int) := by
  simp only [List.getD_eq_getElem?_getD, List.getElem?_map]
  cases l[i]? <;> rfl
theorem index_spec2 {x f : T} {l : List Nat} (hx : IsSl (natsT l) x) (hl : l.length < 1000000) {q : Nat → Bool} (hf : ∀ k ∈ l, callT acfg f [.int .i64 (k : Int)] = some (.bool (q k))) :
    fnO acfg 103 [x, f] = some (.int .i64 (findI (fun i => q (l.getD i 0)) 0 l.length)) := by
  have key : ∀ i, i ≤ l.length → L103_1 x f (l.length : Int) (i : Int) = some (.int .i64 (findI (fun i => q (l.getD i 0)) i l.length)) := by
    refine upto_induct ?_ fun i hi ih => ?_
    · apply L103_1_step
      simp only [iLt_end, cond_false, findI_end (Nat.le_refl _)]
    · apply L103_1_step
      have hk := hf (l.getD i 0) (getD_mem 0 hi)
      simp only [iLt_len hi, cond_true, hx.idxD 0 hi, Option.bind_some, deref_int, int?_int, hk, bool?_bool, iAdd_nat (show i < 1000000 by omega), ih, findI_step hi]
      cases q (l.getD i 0) <;> simp
  apply fn103
  simp only [hx.lenD, Option.bind_some]
  exact key 0 (by omega)
section
variable {t : Tbl} (hg : Good t) {n : List UInt8} {e a w : T} (h : IsTbl t n e a w)
include hg h
theorem first_spec {f : T} {p : Nat → Bool} (hf : ∀ i, i < t.elems.length → callT acfg f [.int .i64 (i : Int)] = some (.bool (p i))) :
    fnO acfg 92 [ordP t n e a w, f] = some (.tup [.int .i64 (((firstB t p).getD 0 : Nat) : Int), .bool (firstB t p).isSome]) := by
  obtain ⟨y, y1, y2⟩ := where_spec hg h hf
  apply fn92
  rw [y1]
  unfold firstB
  cases hl : (upto 0 t.elems.length).filter p with
  | nil =>
    rw [hl] at y2
    have hL : lenT y = some 0 := y2.len
    have : iEq 0 0 = true := rfl
    simp only [Option.bind_some, hL, this, cond_true]
    rfl
  | cons k l =>
    rw [hl] at y2
    have he : iEq ((k :: l).length : Int) 0 = false := by simp [iEq]; omega
    have hx := y2.idxD (α := Nat) 0 (show 0 < (k :: l).length by simp)
    have hgd : (k :: l).getD 0 0 = k := rfl
    rw [hgd] at hx
    simp only [Int.natCast_zero] at hx
    simp only [Option.bind_some, y2.lenD, he, cond_false, hx, deref_int, int?_int]
    rfl
theorem clo93 {i : Nat} (hi : i < t.elems.length) : callT acfg (.fn (.func 93) [] [.ptr (ordP t n e a w)]) [.int .i64 (i : Int)] = some (.bool (belowB t i i)) := by
  refine callT_scalar mode93 ?_ rfl
  apply fn93
  have hd : derefT none (.ptr (ordP t n e a w)) = some (ordP t n e a w) := rfl
  simp only [hd, Option.bind_some, ord_isPtr, cond_true, ord_f4, ord_d4, ord_row hi, ord_rowd, row_at hi, deref_bool, bool?_bool]
theorem clo94 {i : Nat} (hi : i < t.elems.length) : callT acfg (.fn (.func 94) [] [.ptr (ordP t n e a w)]) [.int .i64 (i : Int)] = some (.bool (!leB t 0 i)) := by
  refine callT_scalar mode94 ?_ rfl
  apply fn94
  have hd : derefT none (.ptr (ordP t n e a w)) = some (ordP t n e a w) := rfl
  have := isBelow_spec (t := t) (n := n) (e := e) (a := a) (w := w) (show 0 < t.elems.length from hg.e1) hi
  simp only [Int.natCast_zero] at this
  simp only [hd, Option.bind_some, this, scalar_bool, cond_true, bool?_bool, bNot]
theorem clo111 {k x : Nat} (z : Int) (hk : k < t.elems.length) (hx : x < t.elems.length) : callT acfg (.fn (.func 111) [] [.ptr (ordP t n e a w), .ptr (.int .i64 (x : Int))]) [.int .i64 z, .int .i64 (k : Int)] = some (.bool (leB t k x)) := by
  refine callT_scalar mode111 ?_ rfl
  apply fn111
  have hd : derefT none (.ptr (ordP t n e a w)) = some (ordP t n e a w) := rfl
  simp only [hd, Option.bind_some, deref_int, int?_int, isBelow_spec hk hx, scalar_bool, cond_true, bool?_bool]
theorem clo102 {k x : Nat} (z : Int) (hk : k < t.elems.length) (hx : x < t.elems.length) : callT acfg (.fn (.func 102) [] [.ptr (ordP t n e a w), .ptr (.int .i64 (x : Int))]) [.int .i64 z, .int .i64 (k : Int)] = some (.bool (leB t x k)) := by
  refine callT_scalar mode102 ?_ rfl
  apply fn102
  have hd : derefT none (.ptr (ordP t n e a w)) = some (ordP t n e a w) := rfl
  simp only [hd, Option.bind_some, deref_int, int?_int, isBelow_spec hx hk, scalar_bool, cond_true, bool?_bool]
theorem all110 {us : T} {l : List Nat} (hu : IsSl (natsT l) us) (hl : ∀ k ∈ l, k < t.elems.length) (hl2 : l.length < 1000000) {x : Nat} (hx : x < t.elems.length) :
    fnO acfg 53 [us, .fn (.func 111) [] [.ptr (ordP t n e a w), .ptr (.int .i64 (x : Int))]] = some (.bool (l.all fun k => leB t k x)) := by
  rw [← ints_nats] at hu
  have := allInts_spec (p := fun i => leB t (l.getD i 0) x) hu (by simpa using hl2) fun i hi => by
    rw [getD_ofNat]
    exact clo111 hg h _ (hl _ (getD_mem 0 (by simpa using hi))) hx
  rw [List.length_map, all_getD l fun k => leB t k x] at this
  exact this
theorem all101 {us : T} {l : List Nat} (hu : IsSl (natsT l) us) (hl : ∀ k ∈ l, k < t.elems.length) (hl2 : l.length < 1000000) {x : Nat} (hx : x < t.elems.length) :
    fnO acfg 53 [us, .fn (.func 102) [] [.ptr (ordP t n e a w), .ptr (.int .i64 (x : Int))]] = some (.bool (l.all fun k => leB t x k)) := by
  rw [← ints_nats] at hu
  have := allInts_spec (p := fun i => leB t x (l.getD i 0)) hu (by simpa using hl2) fun i hi => by
    rw [getD_ofNat]
    exact clo102 hg h _ (hl _ (getD_mem 0 (by simpa using hi))) hx
  rw [List.length_map, all_getD l fun k => leB t x k] at this
  exact this
theorem bounds_spec {i j : Nat} (hi : i < t.elems.length) (hj : j < t.elems.length) : ∃ y, fnO acfg 77 [ordP t n e a w, .sl true 1 [.int .i64 (i : Int), .int .i64 (j : Int)]] = some y ∧ IsSl (natsT (ubs t i j)) y := by
  have hu : IsSl (natsT [i, j]) (.sl true 1 [.int .i64 (i : Int), .int .i64 (j : Int)]) := .sl true
  have hd : derefT none (.ptr (ordP t n e a w)) = some (ordP t n e a w) := rfl
  obtain ⟨y, y1, y2⟩ := where_spec hg h (f := .fn (.func 110) [] [.ptr (.sl true 1 [.int .i64 (i : Int), .int .i64 (j : Int)]), .ptr (ordP t n e a w)]) (p := fun k => leB t i k && leB t j k) fun k hk => by
    refine callT_scalar mode110 ?_ rfl
    apply fn110
    have hd2 : derefT none (.ptr (.sl true 1 [.int .i64 (i : Int), .int .i64 (j : Int)])) = some (.sl true 1 [.int .i64 (i : Int), .int .i64 (j : Int)]) := rfl
    have := all110 hg h hu (fun q hq => by
      rcases List.mem_cons.1 hq with rfl | hq
      · exact hi
      · have : q = j := by simpa using hq
        subst this; exact hj) (by simp) hk
    simp only [hd2, Option.bind_some, this, scalar_bool, cond_true, bool?_bool, List.all_cons, List.all_nil, Bool.and_true]
  refine ⟨y, ?_, y2⟩
  apply fn77
  have v1 : vfits (V.t (ordP t n e a w)) none = true := rfl
  have v2 : vfits (V.t (T.sl true 1 [.int .i64 (i : Int), .int .i64 (j : Int)])) none = true := rfl
  simp only [v1, v2, cond_true, hd, Option.bind_some, y1]
omit hg h in
theorem findI_any {l : List Nat} {q : Nat → Bool} : (findI (fun i => q (l.getD i 0)) 0 l.length = -1 ∧ l.any q = false) ∨ ∃ i, i < l.length ∧ findI (fun i => q (l.getD i 0)) 0 l.length = (i : Int) ∧ l.any q = true := by
  unfold findI
  cases hf : (upto 0 l.length).find? (fun i => q (l.getD i 0)) with
  | none =>
    refine .inl ⟨rfl, ?_⟩
    rw [List.find?_eq_none] at hf
    rw [List.any_eq_false]
    intro x hx
    obtain ⟨i, hi, he⟩ := mem_getD (d := 0) hx
    have := hf i (mem_upto.2 ⟨by omega, hi⟩)
    rwa [he] at this
  | some i =>
    have h1 := List.mem_of_find?_eq_some hf
    have h2 := List.find?_some hf
    have hi := (mem_upto.1 h1).2
    exact .inr ⟨i, hi, rfl, List.any_eq_true.2 ⟨_, getD_mem 0 hi, h2⟩⟩
theorem join_spec {i j : Nat} (hi : i < t.elems.length) (hj : j < t.elems.length) : ∃ z : Int, fnO acfg 65 [ordP t n e a w, .int .i64 (i : Int), .int .i64 (j : Int)] = some (.tup [.int .i64 z, .bool (lubB t (ubs t i j))]) := by
  have h12 := hg.e12
  obtain ⟨y, y1, y2⟩ := bounds_spec hg h hi hj
  have hd : derefT none (.ptr (ordP t n e a w)) = some (ordP t n e a w) := rfl
  have hul := ubs_len t i j
  have hix := index_spec2 (f := .fn (.func 101) [] [.ptr y, .ptr (ordP t n e a w)]) (q := fun m => (ubs t i j).all fun k => leB t m k) y2 (by omega) fun m hm => by
    refine callT_scalar mode101 ?_ rfl
    apply fn101
    have hm2 := ubs_lt hm
    simp only [deref_one y2.one, Option.bind_some, all101 hg h y2 (fun k hk => ubs_lt hk) (by omega) hm2, scalar_bool, cond_true, bool?_bool]
  have v1 : vfits (V.t (ordP t n e a w)) none = true := rfl
  rcases findI_any (l := ubs t i j) (q := fun m => (ubs t i j).all fun k => leB t m k) with ⟨h1, h2⟩ | ⟨q, hq, h1, h2⟩
  · refine ⟨0, ?_⟩
    apply fn65
    have hz : iLt (-1) 0 = true := rfl
    simp only [v1, cond_true, hd, Option.bind_some, y1, vfits_one y2.one, oneT_one y2.one, deref_one y2.one, hix, h1, scalar_int, int?_int, hz, lubB, h2]
  · refine ⟨((ubs t i j).getD q 0 : Nat), ?_⟩
    apply fn65
    have hz : iLt (q : Int) 0 = false := decide_eq_false (by omega)
    simp only [v1, cond_true, hd, Option.bind_some, y1, vfits_one y2.one, oneT_one y2.one, deref_one y2.one, hix, h1, scalar_int, int?_int, hz, cond_false, y2.idxD 0 hq, deref_int, lubB, h2]
end
end Go.Proofs.Try


/- What breaks an order: the program. -/
open Go Go.Apex Go.StepsTo
namespace Go.Proofs.Try
abbrev Br := Nat × Nat × Nat
def tripT (b : Br) : T := .agg [.int .u8 (b.1 : Int), .int .i64 (b.2.1 : Int), .int .i64 (b.2.2 : Int)]
def pairB (t : Tbl) (i j : Nat) : Option Br := if (ubs t i j).isEmpty = true then some (3, i, j) else if lubB t (ubs t i j) = true then none else some (4, i, j)
def pairsB (t : Tbl) : Option Br := (upto 0 t.elems.length).findSome? fun i => (upto (i + 1) t.elems.length).findSome? fun j => pairB t i j
def badB (t : Tbl) (i j : Nat) : Option Br := if t.wrong.getD i false = true ∧ t.wrong.getD j false = false ∧ leB t i j = true then some (5, i, j) else none
def wrongsB (t : Tbl) : Option Br := if t.wrong.getD 0 false = true then some (5, 0, 0) else (upto 0 t.elems.length).findSome? fun i => (upto 0 t.elems.length).findSome? fun j => badB t i j
def brk (t : Tbl) : Option Br :=
  match firstB t (fun k => belowB t k k) with
  | some k => some (1, k, 0)
  | none => match firstB t (fun k => !leB t 0 k) with
    | some k => some (2, k, 0)
    | none => match pairsB t with
      | some b => some b
      | none => wrongsB t
/-- What is told of a break. -/
def outT (b : Option Br) : T := .tup [tripT (b.getD (0, 0, 0)), .bool b.isSome]
def orR (b : Option Br) (R : T) : T := match b with
  | some b => .tup [tripT b, .bool true]
  | none => R
theorem tripfits (k i j : Int) : vfits (.t (T.agg [.int .u8 k, .int .i64 i, .int .i64 j])) (some 3) = true := rfl
theorem findSome_step {g : Nat → Option Br} {i n : Nat} (h : i < n) : (upto i n).findSome? g = (g i).or ((upto (i + 1) n).findSome? g) := by
  rw [upto_step h, List.findSome?_cons]
  cases g i <;> rfl
section
variable {t : Tbl} (hg : Good t) {n : List UInt8} {e a w : T} (h : IsTbl t n e a w)
include hg h
theorem wrongs_in {i : Nat} (hi : i < t.elems.length) {R : T} (v0 : T) (v1 : T) (v2 : T) (v3 : T) (v4 : T) (v5 : T) (v6 : T) (v7 : T) (v8 : Bool) (v9 : T) (v10 : T) (v11 : T) (v17 : Int) (v18 : Int) (v19 : Int) (v20 : Bool) (v21 : T) (v23 : T) (v24 : T) (v25 : T) (v26 : T) (v27 : T) (v28 : T) (v29 : Bool) (v30 : T) (v31 : T) (hR : L96_1 v0 v1 v2 v3 v4 v5 v6 v7 v8 v9 v10 v11 (t.elems.length : Int) (iAdd .i64 (i : Int) 1) v17 v18 v19 v20 v21 (.ptr (ordP t n e a w)) v23 v24 v25 v26 v27 v28 v29 v30 v31 = some R) :
    ∀ j, j ≤ t.elems.length → L96_2 v0 v1 v2 v3 v4 v5 v6 v7 v8 v9 v10 v11 (i : Int) (t.elems.length : Int) (i : Int) (t.elems.length : Int) (j : Int) v17 v18 v19 v20 v21 (.ptr (ordP t n e a w)) v23 v24 v25 v26 v27 v28 v29 v30 v31 = some (orR ((upto j t.elems.length).findSome? (badB t i)) R) := by
  have h12 := hg.e12
  have hd : derefT none (.ptr (ordP t n e a w)) = some (ordP t n e a w) := rfl
  have hwl := hg.w
  refine upto_induct ?_ fun j hj ih => ?_
  · apply L96_2_step
    simp only [iLt_end, cond_false, upto_end (Nat.le_refl _), List.findSome?_nil, orR]
    exact hR
  · apply L96_2_step
    have w1 := h.w.idxD false (show i < t.wrong.length by omega)
    have w2 := h.w.idxD false (show j < t.wrong.length by omega)
    rw [findSome_step hj]
    simp only [iLt_len hj, cond_true, hd, Option.bind_some, ord_isPtr, ord_f0 h, h.f3, h.d3, w1, w2, deref_bool, bool?_bool, isBelow_spec hi hj, scalar_bool, iAdd_nat (show j < 1000000 by omega), ih, tripfits, badB]
    cases t.wrong.getD i false <;> cases t.wrong.getD j false <;> cases leB t i j <;> simp [bNot, orR, tripT]
theorem wrongs_out : ∀ i, i ≤ t.elems.length → ∀ (v0 : T) (v1 : T) (v2 : T) (v3 : T) (v4 : T) (v5 : T) (v6 : T) (v7 : T) (v8 : Bool) (v9 : T) (v10 : T) (v14 : Int) (v15 : Int) (v16 : Int) (v17 : Bool) (v18 : T) (v20 : T) (v21 : T) (v22 : T) (v23 : T) (v24 : T) (v25 : T) (v26 : Bool) (v27 : T) (v28 : T), L96_1 v0 v1 v2 v3 v4 v5 v6 v7 v8 v9 v10 (ordP t n e a w) (t.elems.length : Int) (i : Int) v14 v15 v16 v17 v18 (.ptr (ordP t n e a w)) v20 v21 v22 v23 v24 v25 v26 v27 v28 =
    some (outT ((upto i t.elems.length).findSome? fun i => (upto 0 t.elems.length).findSome? fun j => badB t i j)) := by
  have h12 := hg.e12
  refine upto_induct ?_ fun i hi ih => ?_
  · intros
    apply L96_1_step
    simp only [iLt_end, cond_false, upto_end (Nat.le_refl _), List.findSome?_nil, tripfits, cond_true]
    rfl
  · intro v0 v1 v2 v3 v4 v5 v6 v7 v8 v9 v10 v14 v15 v16 v17 v18 v20 v21 v22 v23 v24 v25 v26 v27 v28
    apply L96_1_step
    have := wrongs_in hg h hi (R := outT ((upto (i + 1) t.elems.length).findSome? fun i => (upto 0 t.elems.length).findSome? fun j => badB t i j)) v0 v1 v2 v3 v4 v5 v6 v7 v8 v9 v10 (ordP t n e a w) v14 v15 v16 v17 v18 v20 v21 v22 v23 v24 v25 v26 v27 v28 (by rw [iAdd_nat (show i < 1000000 by omega)]; exact ih _ _ _ _ _ _ _ _ _ _ _ _ _ _ _ _ _ _ _ _ _ _ _ _ _) 0 (by omega)
    simp only [Int.natCast_zero] at this
    simp only [iLt_len hi, cond_true, ord_isPtr, ord_f0 h, Option.bind_some, h.f1, h.d1, h.e.lenD, this, findSome_step hi]
    cases (upto 0 t.elems.length).findSome? (badB t i) <;> rfl
theorem wrongs_spec : fnO acfg 96 [ordP t n e a w] = some (outT (wrongsB t)) := by
  have h12 := hg.e12
  have h1 := hg.e1
  have hwl := hg.w
  have hd : derefT none (.ptr (ordP t n e a w)) = some (ordP t n e a w) := rfl
  have v1 : vfits (V.t (ordP t n e a w)) none = true := rfl
  have w1 := h.w.idxD false (show 0 < t.wrong.length by omega)
  simp only [Int.natCast_zero] at w1
  apply fn96
  simp only [v1, cond_true, hd, Option.bind_some, ord_isPtr, ord_f0 h, h.f3, h.d3, w1, deref_bool, bool?_bool, tripfits, h.f1, h.d1, h.e.lenD, wrongsB]
  cases hw : t.wrong.getD 0 false with
  | true => rfl
  | false =>
    simp only [cond_false, Bool.false_eq_true, if_false]
    exact wrongs_out hg h 0 (by omega) _ _ _ _ _ _ _ _ _ _ _ _ _ _ _ _ _ _ _ _ _ _ _ _ _
omit hg h in
theorem skip_pairs (g : Nat → Option Br) (n i : Nat) (hi : i < n) : (upto 0 n).findSome? (fun j => if j ≤ i then none else g j) = (upto (i + 1) n).findSome? g := by
  have h1 : ∀ k, k ≤ i + 1 → (upto k n).findSome? (fun j => if j ≤ i then none else g j) = (upto (i + 1) n).findSome? g := by
    refine upto_induct ?_ fun k hk ih => ?_
    · have : ∀ l : List Nat, (∀ j ∈ l, i + 1 ≤ j) → l.findSome? (fun j => if j ≤ i then none else g j) = l.findSome? g := by
        intro l
        induction l with
        | nil => intro _; rfl
        | cons x l ih =>
          intro hl
          have := hl x (by simp)
          rw [List.findSome?_cons, List.findSome?_cons, if_neg (by omega), ih fun j hj => hl j (by simp [hj])]
      exact this _ fun j hj => (mem_upto.1 hj).1
    · rw [findSome_step (by omega), if_pos (by omega), ih]
      rfl
  exact h1 0 (by omega)
theorem pairs_in {i : Nat} (hi : i < t.elems.length) {R : T} (v0 : T) (v1 : T) (v2 : Int) (v3 : Bool) (v4 : Int) (v5 : Bool) (v6 : Int) (v7 : Bool) (v8 : T) (v9 : T) (v10 : Int) (v11 : Bool) (v12 : Int) (v13 : Bool) (v14 : Bool) (v15 : Int) (v16 : Bool) (v17 : T) (v18 : T) (v19 : Int) (v20 : Bool) (v21 : Int) (v22 : Bool) (v23 : Bool) (v24 : T) (v25 : T) (v26 : T) (v32 : Int) (v33 : Int) (v34 : Int) (v35 : Bool) (v36 : T) (v38 : Int) (v39 : Bool) (v40 : Int) (v41 : Bool) (v42 : Int) (v43 : Bool) (v44 : T) (v45 : T) (v46 : Int) (v47 : Bool) (v48 : Int) (v49 : Bool) (v50 : Bool) (v51 : Int) (v52 : Bool) (v53 : T) (v54 : T) (v55 : Int) (v56 : Bool) (v57 : Int) (v58 : Bool) (v59 : Bool) (v60 : T) (v61 : T) (hR : L58_1 v0 v1 v2 v3 v4 v5 v6 v7 v8 v9 v10 v11 v12 v13 v14 v15 v16 v17 v18 v19 v20 v21 v22 v23 v24 v25 v26 (t.elems.length : Int) (iAdd .i64 (i : Int) 1) v32 v33 v34 v35 v36 (.ptr (ordP t n e a w)) v38 v39 v40 v41 v42 v43 v44 v45 v46 v47 v48 v49 v50 v51 v52 v53 v54 v55 v56 v57 v58 v59 v60 v61 = some R) :
    ∀ j, j ≤ t.elems.length → L58_2 v0 v1 v2 v3 v4 v5 v6 v7 v8 v9 v10 v11 v12 v13 v14 v15 v16 v17 v18 v19 v20 v21 v22 v23 v24 v25 v26 (i : Int) (t.elems.length : Int) (i : Int) (t.elems.length : Int) (j : Int) v32 v33 v34 v35 v36 (.ptr (ordP t n e a w)) v38 v39 v40 v41 v42 v43 v44 v45 v46 v47 v48 v49 v50 v51 v52 v53 v54 v55 v56 v57 v58 v59 v60 v61 = some (orR ((upto j t.elems.length).findSome? fun j => if j ≤ i then none else pairB t i j) R) := by
  have h12 := hg.e12
  have hd : derefT none (.ptr (ordP t n e a w)) = some (ordP t n e a w) := rfl
  have nt1 : ∀ x y : T, nthT [x, y] 1 = y := fun _ _ => rfl
  have nt0 : ∀ x y : T, nthT [x, y] 0 = x := fun _ _ => rfl
  have tup2 : ∀ x y : T, T.tup? (List.length [3, 4]) (.tup [x, y]) = some [x, y] := fun _ _ => rfl
  refine upto_induct ?_ fun j hj ih => ?_
  · apply L58_2_step
    simp only [iLt_end, cond_false, upto_end (Nat.le_refl _), List.findSome?_nil, orR]
    exact hR
  · apply L58_2_step
    obtain ⟨z, hz⟩ := join_spec hg h hi hj
    have hsc : T.scalar (.tup [.int .i64 z, .bool (lubB t (ubs t i j))]) = true := rfl
    obtain ⟨y, y1, y2⟩ := bounds_spec hg h hi hj
    rw [findSome_step hj]
    simp only [iLt_len hj, cond_true, hd, Option.bind_some, hz, hsc, tup2, nt0, nt1, int?_int, bool?_bool, iAdd_nat (show j < 1000000 by omega), ih, y1, y2.lenD, tripfits]
    cases hl : lubB t (ubs t i j) with
    | true =>
      have hne : (ubs t i j).isEmpty = false := by
        cases hu : ubs t i j with
        | nil => rw [hu] at hl; cases hl
        | cons => rfl
      simp only [cond_true, pairB, hne, hl, Bool.false_eq_true, if_false, if_true]
      split <;> rfl
    | false =>
      by_cases hji : j ≤ i
      · have : iLe (j : Int) (i : Int) = true := decide_eq_true (by omega)
        simp only [cond_false, this, cond_true, if_pos hji]
        rfl
      · have : iLe (j : Int) (i : Int) = false := decide_eq_false (by omega)
        simp only [cond_false, this, if_neg hji, pairB, hl, Bool.false_eq_true, if_false]
        cases hu : ubs t i j with
        | nil => rfl
        | cons k l =>
          have he : iEq ((k :: l).length : Int) 0 = false := by simp [iEq]; omega
          simp only [he, cond_false]
          rfl
theorem pairs_out : ∀ i, i ≤ t.elems.length → ∀ (v0 : T) (v2 : Int) (v3 : Bool) (v4 : Int) (v5 : Bool) (v6 : Int) (v7 : Bool) (v8 : T) (v9 : T) (v10 : Int) (v11 : Bool) (v12 : Int) (v13 : Bool) (v14 : Bool) (v15 : Int) (v16 : Bool) (v17 : T) (v18 : T) (v19 : Int) (v20 : Bool) (v21 : Int) (v22 : Bool) (v23 : Bool) (v24 : T) (v25 : T) (v29 : Int) (v30 : Int) (v31 : Int) (v32 : Bool) (v33 : T) (v35 : Int) (v36 : Bool) (v37 : Int) (v38 : Bool) (v39 : Int) (v40 : Bool) (v41 : T) (v42 : T) (v43 : Int) (v44 : Bool) (v45 : Int) (v46 : Bool) (v47 : Bool) (v48 : Int) (v49 : Bool) (v50 : T) (v51 : T) (v52 : Int) (v53 : Bool) (v54 : Int) (v55 : Bool) (v56 : Bool) (v57 : T) (v58 : T), L58_1 v0 (.ptr (ordP t n e a w)) v2 v3 v4 v5 v6 v7 v8 v9 v10 v11 v12 v13 v14 v15 v16 v17 v18 v19 v20 v21 v22 v23 v24 v25 (ordP t n e a w) (t.elems.length : Int) (i : Int) v29 v30 v31 v32 v33 (.ptr (ordP t n e a w)) v35 v36 v37 v38 v39 v40 v41 v42 v43 v44 v45 v46 v47 v48 v49 v50 v51 v52 v53 v54 v55 v56 v57 v58 =
    some (orR ((upto i t.elems.length).findSome? fun i => (upto (i + 1) t.elems.length).findSome? fun j => pairB t i j) (outT (wrongsB t))) := by
  have h12 := hg.e12
  have hd : derefT none (.ptr (ordP t n e a w)) = some (ordP t n e a w) := rfl
  refine upto_induct ?_ fun i hi ih => ?_
  · intros
    apply L58_1_step
    have hsc : T.scalar (outT (wrongsB t)) = true := rfl
    have t2 : T.tup? (List.length [33, 4]) (outT (wrongsB t)) = some [tripT ((wrongsB t).getD (0, 0, 0)), .bool (wrongsB t).isSome] := rfl
    simp only [iLt_end, cond_false, upto_end (Nat.le_refl _), List.findSome?_nil, hd, Option.bind_some, wrongs_spec hg h, hsc, cond_true, t2]
    rfl
  · intro v0 v2 v3 v4 v5 v6 v7 v8 v9 v10 v11 v12 v13 v14 v15 v16 v17 v18 v19 v20 v21 v22 v23 v24 v25 v29 v30 v31 v32 v33 v35 v36 v37 v38 v39 v40 v41 v42 v43 v44 v45 v46 v47 v48 v49 v50 v51 v52 v53 v54 v55 v56 v57 v58
    apply L58_1_step
    have := pairs_in hg h hi (R := orR ((upto (i + 1) t.elems.length).findSome? fun i => (upto (i + 1) t.elems.length).findSome? fun j => pairB t i j) (outT (wrongsB t))) v0 (.ptr (ordP t n e a w)) v2 v3 v4 v5 v6 v7 v8 v9 v10 v11 v12 v13 v14 v15 v16 v17 v18 v19 v20 v21 v22 v23 v24 v25 (ordP t n e a w) v29 v30 v31 v32 v33 v35 v36 v37 v38 v39 v40 v41 v42 v43 v44 v45 v46 v47 v48 v49 v50 v51 v52 v53 v54 v55 v56 v57 v58 (by rw [iAdd_nat (show i < 1000000 by omega)]; exact ih _ _ _ _ _ _ _ _ _ _ _ _ _ _ _ _ _ _ _ _ _ _ _ _ _ _ _ _ _ _ _ _ _ _ _ _ _ _ _ _ _ _ _ _ _ _ _ _ _ _ _ _ _ _) 0 (by omega)
    simp only [Int.natCast_zero] at this
    rw [skip_pairs _ _ _ hi] at this
    simp only [iLt_len hi, cond_true, ord_isPtr, ord_f0 h, Option.bind_some, h.f1, h.d1, h.e.lenD, this, findSome_step hi]
    cases (upto (i + 1) t.elems.length).findSome? (pairB t i) <;> rfl
theorem broken_spec : fnO acfg 58 [ordP t n e a w] = some (outT (brk t)) := by
  have h12 := hg.e12
  have v1 : vfits (V.t (ordP t n e a w)) none = true := rfl
  have hd : derefT none (.ptr (ordP t n e a w)) = some (ordP t n e a w) := rfl
  have nt1 : ∀ x y : T, nthT [x, y] 1 = y := fun _ _ => rfl
  have nt0 : ∀ x y : T, nthT [x, y] 0 = x := fun _ _ => rfl
  have tup2 : ∀ x y : T, T.tup? (List.length [3, 4]) (.tup [x, y]) = some [x, y] := fun _ _ => rfl
  have hsc : ∀ (z : Int) (b : Bool), T.scalar (.tup [.int .i64 z, .bool b]) = true := fun _ _ => rfl
  have f1 := first_spec hg h (f := .fn (.func 93) [] [.ptr (ordP t n e a w)]) (p := fun k => belowB t k k) fun k hk => clo93 hg h hk
  have f2 := first_spec hg h (f := .fn (.func 94) [] [.ptr (ordP t n e a w)]) (p := fun k => !leB t 0 k) fun k hk => clo94 hg h hk
  apply fn58
  simp only [v1, cond_true, hd, Option.bind_some, f1, f2, hsc, tup2, nt0, nt1, int?_int, bool?_bool, tripfits, ord_isPtr, ord_f0 h, h.f1, h.d1, h.e.lenD, brk]
  cases firstB t (fun k => belowB t k k) with
  | some k => rfl
  | none =>
    simp only [Option.isSome_none, cond_false]
    cases firstB t (fun k => !leB t 0 k) with
    | some k => rfl
    | none =>
      simp only [Option.isSome_none, cond_false]
      refine Eq.trans (pairs_out hg h 0 (by omega) _ _ _ _ _ _ _ _ _ _ _ _ _ _ _ _ _ _ _ _ _ _ _ _ _ _ _ _ _ _ _ _ _ _ _ _ _ _ _ _ _ _ _ _ _ _ _ _ _ _ _ _ _ _) ?_
      show some (orR (pairsB t) _) = _
      cases pairsB t <;> rfl
omit hg in
theorem open_bad (hs : Small t) (hc : checkB t = false) : fnO acfg 57 [tblT n e a w] = some (.tup [.nilp, .int .i64 4]) := by
  apply fn57
  have i4 : iEq 4 0 = false := rfl
  simp only [h.v4, cond_true, h.d4, Option.bind_some, agg4, nth0, nth1, nth2, nth3, str?_str, check_spec h hs, hc, scalar_int, int?_int, cond_false, i4, bNot, Bool.not_false]
theorem prove_good (hs : Small t) (hc : checkB t = true) : fnO acfg 17 [tblT n e a w] = some (.tup [tripT ((brk t).getD (0, 0, 0)), .int .i64 (bif (brk t).isSome then 12 else 0)]) := by
  have i0 : iEq 0 0 = true := rfl
  have t2 : ∀ x y : T, T.tup? (List.length [74, 30]) (.tup [x, y]) = some [x, y] := fun _ _ => rfl
  have t3 : T.tup? (List.length [33, 4]) (outT (brk t)) = some [tripT ((brk t).getD (0, 0, 0)), .bool (brk t).isSome] := rfl
  have nt1 : ∀ x y : T, nthT [x, y] 1 = y := fun _ _ => rfl
  have nt0 : ∀ x y : T, nthT [x, y] 0 = x := fun _ _ => rfl
  have hsc : T.scalar (outT (brk t)) = true := rfl
  have ag : ∀ x y z : T, T.agg? (List.length [(D.int IntKind.u8), (D.int IntKind.i64), (D.int IntKind.i64)]) (.agg [x, y, z]) = some [x, y, z] := fun _ _ _ => rfl
  have n30 : ∀ x y z : T, nthT [x, y, z] 0 = x := fun _ _ _ => rfl
  have n31 : ∀ x y z : T, nthT [x, y, z] 1 = y := fun _ _ _ => rfl
  have n32 : ∀ x y z : T, nthT [x, y, z] 2 = z := fun _ _ _ => rfl
  have d3 : ∀ k i j : Int, derefT (some 3) (.ptr (.agg [.int .u8 k, .int .i64 i, .int .i64 j])) = some (.agg [.int .u8 k, .int .i64 i, .int .i64 j]) := fun _ _ _ => rfl
  have ho := open_spec hg h hs
  rw [hc] at ho
  apply fn17
  simp only [h.v4, cond_true, h.d4, Option.bind_some, agg4, nth0, nth1, nth2, nth3, str?_str, ho, t2, nt1, nt0, int?_int, i0, bNot, Bool.not_true, cond_false, broken_spec hg h, hsc, t3, ag, n30, n31, n32, tripT, tripfits, bool?_bool, d3]
  cases brk t <;> rfl
end
end Go.Proofs.Try


/- What breaks an order: the reference. -/
open Go Go.Apex Go.StepsTo
namespace Go.Proofs.Try
section
variable {t : Tbl} (hg : Good t)
include hg
end
section
variable {t : Tbl} (hg : Good t) {n : List UInt8} {e a w : T} (h : IsTbl t n e a w)
include hg h
end
end Go.Proofs.Try


/- The whole of it. -/
open Go Go.Apex Go.StepsTo
namespace Go.Proofs.Try
theorem checkR {t : Tbl} {n : List UInt8} {e a w : T} (h : IsTbl t n e a w) (hs : Small t) : fnO acfg 19 [tblT n e a w] = some (.int .i64 (bif checkB t then 0 else 4)) := refCheck_spec h hs
end Go.Proofs.Try


/- The reference's relation; all of it. -/
open Go Go.Apex Go.StepsTo
namespace Go.Proofs.Try
section
variable {t : Tbl} (hg : Good t) {n : List UInt8} {e a w : T} (h : IsTbl t n e a w)
include hg h
end
end Go.Proofs.Try


/- OrderReaches: what is above an element. -/
open Go Go.Apex Go.StepsTo
namespace Go.Proofs.Try
theorem mode109 : acfg.mode 109 = .scalar := by kernel_rfl
def inB (t : Tbl) (z : Int) : Bool := decide (0 ≤ z) && decide (z < t.elems.length)
theorem inB_nat {t : Tbl} {z : Int} (h : inB t z = true) : ∃ k : Nat, z = (k : Int) ∧ k < t.elems.length := by
  simp only [inB, Bool.and_eq_true, decide_eq_true_eq] at h
  exact ⟨z.toNat, by omega, by omega⟩
theorem all_int (l : List Int) (q : Int → Bool) : (upto 0 l.length).all (fun i => q (l.getD i 0)) = l.all q := by
  rw [Bool.eq_iff_iff, List.all_eq_true, List.all_eq_true]
  constructor
  · intro h x hx
    obtain ⟨i, hi, he⟩ := mem_getD (d := 0) hx
    have := h i (mem_upto.2 ⟨by omega, hi⟩)
    rwa [he] at this
  · intro h i hi
    exact h _ (getD_mem 0 (mem_upto.1 hi).2)
section
variable {t : Tbl} {n : List UInt8} {e a w : T} (h : IsTbl t n e a w)
include h
theorem clo109 (i z : Int) : callT acfg (.fn (.func 109) [] [.ptr (ordP t n e a w)]) [.int .i64 i, .int .i64 z] = some (.bool (inB t z)) := by
  refine callT_scalar mode109 ?_ rfl
  apply fn109
  have hd : derefT none (.ptr (ordP t n e a w)) = some (ordP t n e a w) := rfl
  by_cases h0 : 0 ≤ z
  · have : iLe 0 z = true := decide_eq_true h0
    simp only [this, cond_true, hd, Option.bind_some, ord_isPtr, ord_f0 h, h.f1, h.d1, h.e.lenD, inB, h0, decide_true, Bool.true_and]
    rfl
  · have : iLe 0 z = false := decide_eq_false h0
    simp only [this, cond_false, inB, h0, decide_false, Bool.false_and]
theorem has_spec {us : T} {l : List Int} (hu : IsSl (ints l) us) (hl : l.length < 1000000) : fnO acfg 76 [ordP t n e a w, us] = some (.int .i64 (bif l.all (inB t) then 0 else 7)) := by
  have := allInts_spec (f := .fn (.func 109) [] [.ptr (ordP t n e a w)]) (p := fun i => inB t (l.getD i 0)) hu hl fun i _ => clo109 h _ _
  rw [all_int l (inB t)] at this
  have v1 : vfits (V.t (ordP t n e a w)) none = true := rfl
  apply fn76
  simp only [v1, cond_true, this, Option.bind_some, scalar_bool, bool?_bool]
  cases l.all (inB t) <;> rfl
theorem isElemR {z : Int} (hn : 1 ≤ t.elems.length) (hn2 : t.elems.length < 1000000) : fnO acfg 34 [tblT n e a w, .int .i64 z] = some (.bool (inB t z)) := by
  apply fn34
  have hs : iSub .i64 (t.elems.length : Int) 1 = ((t.elems.length - 1 : Nat) : Int) := iSub_nat hn2 hn
  have : (decide (z ≤ ((t.elems.length - 1 : Nat) : Int))) = decide (z < t.elems.length) := by
    by_cases hz : z < t.elems.length
    · rw [decide_eq_true hz, decide_eq_true (by omega)]
    · rw [decide_eq_false hz, decide_eq_false (by omega)]
  simp only [h.v4, cond_true, h.f1, h.d1, Option.bind_some, h.e.lenD, hs, in_spec, scalar_bool, bool?_bool, inB, this]
end
section
variable {t : Tbl} (hg : Good t) {n : List UInt8} {e a w : T} (h : IsTbl t n e a w)
include hg h
def up (t : Tbl) (k : Nat) : List Nat := (upto 0 t.elems.length).filter fun x => leB t k x
end
def belowE (t : Tbl) (y z : Int) : Bool × Int := if checkB t = true then if inB t y = true ∧ inB t z = true then (leB t y.toNat z.toNat, 0) else (false, 7) else (false, 4)
section
variable {t : Tbl} {n : List UInt8} {e a w : T} (h : IsTbl t n e a w) (hs : Small t) (ht : thinB t = true)
include h hs ht
theorem belowP_spec (y z : Int) : fnO acfg 36 [tblT n e a w, .int .i64 y, .int .i64 z] = some (.tup [.bool (belowE t y z).1, .int .i64 (belowE t y z).2]) := by
  have i0 : iEq 0 0 = true := rfl
  have i4 : iEq 4 0 = false := rfl
  have i7 : iEq 7 0 = false := rfl
  have t2 : ∀ x y : T, T.tup? (List.length [74, 30]) (.tup [x, y]) = some [x, y] := fun _ _ => rfl
  have nt1 : ∀ x y : T, nthT [x, y] 1 = y := fun _ _ => rfl
  have nt0 : ∀ x y : T, nthT [x, y] 0 = x := fun _ _ => rfl
  apply fn36
  cases hc : checkB t with
  | false =>
    simp only [h.v4, cond_true, h.d4, Option.bind_some, agg4, nth0, nth1, nth2, nth3, str?_str, open_bad h hs hc, t2, nt1, int?_int, i4, cond_false, belowE, hc, Bool.false_eq_true, if_false]
  | true =>
    have hg := good_of hc ht
    have ho := open_spec hg h hs
    rw [hc] at ho
    have hh := has_spec h (us := .sl true 1 [.int .i64 y, .int .i64 z]) (l := [y, z]) (.sl true) (by simp)
    simp only [List.all_cons, List.all_nil, Bool.and_true] at hh
    cases hyz : (inB t y && inB t z) with
    | false =>
      rw [hyz] at hh
      have hn : ¬ (inB t y = true ∧ inB t z = true) := by rw [← Bool.and_eq_true, hyz]; simp
      simp only [h.v4, cond_true, h.d4, Option.bind_some, agg4, nth0, nth1, nth2, nth3, str?_str, ho, t2, nt0, nt1, int?_int, i0, hh, scalar_int, cond_false, i7, belowE, hc, if_neg hn, if_true]
    | true =>
      rw [hyz] at hh
      rw [Bool.and_eq_true] at hyz
      obtain ⟨k, rfl, hk⟩ := inB_nat hyz.1
      obtain ⟨m, rfl, hm⟩ := inB_nat hyz.2
      simp only [h.v4, cond_true, h.d4, Option.bind_some, agg4, nth0, nth1, nth2, nth3, str?_str, ho, t2, nt0, nt1, int?_int, i0, hh, scalar_int, isBelow_spec hk hm, scalar_bool, bool?_bool, belowE, hc, if_pos hyz, if_true, Int.toNat_natCast]
end
end Go.Proofs.Try


/- Joins: which one it is. -/
open Go Go.Apex Go.StepsTo
namespace Go.Proofs.Try
/-- The first that is below all. -/
def leastOf (t : Tbl) (us : List Nat) : Option Nat := us.find? fun m => us.all fun k => leB t m k
def joinN (t : Tbl) (i j : Nat) : Nat := (leastOf t (ubs t i j)).getD 0
theorem least_lub (t : Tbl) (us : List Nat) : (leastOf t us).isSome = lubB t us := by
  unfold leastOf lubB
  rw [Bool.eq_iff_iff, List.find?_isSome, List.any_eq_true]
theorem find_upto {l : List Nat} {q : Nat → Bool} : ∀ (k : Nat), ((upto k l.length).find? fun i => q (l.getD i 0)).map (fun i => l.getD i 0) = (l.drop k).find? q := by
  intro k
  by_cases hk : k ≤ l.length
  · refine upto_induct (n := l.length) (P := fun k => ((upto k l.length).find? fun i => q (l.getD i 0)).map (fun i => l.getD i 0) = (l.drop k).find? q) ?_ (fun i hi ih => ?_) k hk
    · rw [upto_end (Nat.le_refl _), List.drop_length]; rfl
    · rw [upto_step hi, List.drop_eq_getElem_cons hi, List.find?_cons, List.find?_cons]
      have e : l.getD i 0 = l[i] := by rw [List.getD_eq_getElem?_getD, List.getElem?_eq_getElem hi]; rfl
      rw [e]
      cases q l[i] with
      | true => simp only [Option.map_some, e]
      | false => exact ih
  · rw [upto_end (by omega), List.drop_eq_nil_of_le (by omega)]; rfl
theorem findI_find {l : List Nat} {q : Nat → Bool} : (findI (fun i => q (l.getD i 0)) 0 l.length = -1 ∧ l.find? q = none) ∨ ∃ i, i < l.length ∧ findI (fun i => q (l.getD i 0)) 0 l.length = (i : Int) ∧ l.find? q = some (l.getD i 0) := by
  have h := find_upto (l := l) (q := q) 0
  rw [List.drop_zero] at h
  unfold findI
  cases hf : (upto 0 l.length).find? (fun i => q (l.getD i 0)) with
  | none => rw [hf] at h; exact .inl ⟨rfl, h.symm⟩
  | some i =>
    rw [hf] at h
    exact .inr ⟨i, (mem_upto.1 (List.mem_of_find?_eq_some hf)).2, rfl, h.symm⟩
section
variable {t : Tbl} (hg : Good t) {n : List UInt8} {e a w : T} (h : IsTbl t n e a w)
include hg h
theorem join_spec2 {i j : Nat} (hi : i < t.elems.length) (hj : j < t.elems.length) : fnO acfg 65 [ordP t n e a w, .int .i64 (i : Int), .int .i64 (j : Int)] = some (.tup [.int .i64 (joinN t i j : Int), .bool (leastOf t (ubs t i j)).isSome]) := by
  have h12 := hg.e12
  obtain ⟨y, y1, y2⟩ := bounds_spec hg h hi hj
  have hd : derefT none (.ptr (ordP t n e a w)) = some (ordP t n e a w) := rfl
  have hul := ubs_len t i j
  have hix := index_spec2 (f := .fn (.func 101) [] [.ptr y, .ptr (ordP t n e a w)]) (q := fun m => (ubs t i j).all fun k => leB t m k) y2 (by omega) fun m hm => by
    refine callT_scalar mode101 ?_ rfl
    apply fn101
    have hm2 := ubs_lt hm
    simp only [deref_one y2.one, Option.bind_some, all101 hg h y2 (fun k hk => ubs_lt hk) (by omega) hm2, scalar_bool, cond_true, bool?_bool]
  have v1 : vfits (V.t (ordP t n e a w)) none = true := rfl
  rcases findI_find (l := ubs t i j) (q := fun m => (ubs t i j).all fun k => leB t m k) with ⟨h1, h2⟩ | ⟨q, hq, h1, h2⟩
  · have hlo : leastOf t (ubs t i j) = none := h2
    apply fn65
    have hz : iLt (-1) 0 = true := rfl
    simp only [v1, cond_true, hd, Option.bind_some, y1, vfits_one y2.one, oneT_one y2.one, deref_one y2.one, hix, h1, scalar_int, int?_int, hz, joinN, hlo]
    rfl
  · have hlo : leastOf t (ubs t i j) = some ((ubs t i j).getD q 0) := h2
    apply fn65
    have hz : iLt (q : Int) 0 = false := decide_eq_false (by omega)
    simp only [v1, cond_true, hd, Option.bind_some, y1, vfits_one y2.one, oneT_one y2.one, deref_one y2.one, hix, h1, scalar_int, int?_int, hz, cond_false, y2.idxD 0 hq, deref_int, joinN, hlo]
    rfl
end
/-! What is meant by a table that is a lattice. -/
theorem le_refl (t : Tbl) (k : Nat) : leB t k k = true := by simp [leB]
end Go.Proofs.Try


/- Lattices on the first numbers: joins, primes, parts, chains. No program. -/
namespace Go.Lat
/-- A lattice on the numbers below n: least element 0, all pairs have a least upper bound. -/
structure Lat (n : Nat) (le : Nat → Nat → Bool) : Prop where
  pos : 0 < n
  refl : ∀ a, le a a = true
  trans : ∀ a b c, a < n → b < n → c < n → le a b = true → le b c = true → le a c = true
  anti : ∀ a b, a < n → b < n → le a b = true → le b a = true → a = b
  bot : ∀ a, a < n → le 0 a = true
  ex : ∀ a b, a < n → b < n → ∃ m, m < n ∧ le a m = true ∧ le b m = true ∧ ∀ k, k < n → le a k = true → le b k = true → le m k = true
variable {n : Nat} {le : Nat → Nat → Bool}
/-- A join. -/
structure IsJ (n : Nat) (le : Nat → Nat → Bool) (a b m : Nat) : Prop where
  lt : m < n
  l : le a m = true
  r : le b m = true
  least : ∀ k, k < n → le a k = true → le b k = true → le m k = true
theorem IsJ.uniq (L : Lat n le) {a b m k : Nat} (h : IsJ n le a b m) (h2 : IsJ n le a b k) : m = k :=
  L.anti _ _ h.lt h2.lt (h.least _ h2.lt h2.l h2.r) (h2.least _ h.lt h.l h.r)
theorem Lat.ge (L : Lat n le) {a b : Nat} (_ : a < n) (hb : b < n) (h : le a b = true) : IsJ n le a b b := ⟨hb, h, L.refl b, fun _ _ _ h2 => h2⟩
/-- Strictly below. -/
def lt (le : Nat → Nat → Bool) (a b : Nat) : Prop := a ≠ b ∧ le a b = true
theorem Lat.lt_trans (L : Lat n le) {a b c : Nat} (ha : a < n) (hb : b < n) (hc : c < n) (h1 : lt le a b) (h2 : lt le b c) : lt le a c :=
  ⟨fun e => by subst e; exact h1.1 (L.anti _ _ ha hb h1.2 h2.2), L.trans _ _ _ ha hb hc h1.2 h2.2⟩
end Go.Lat


/- Covers: what is right above; the same is reached by them. No program. -/
namespace Go.StepsTo
theorem R.trans {adj : Nat → List Nat} {a b c : Nat} (h : R adj a b) (h2 : R adj b c) : R adj a c := by
  induction h2 with
  | one h2 => exact .step h h2
  | step _ h3 ih => exact .step ih h3
theorem R.mono {adj adj' : Nat → List Nat} (hm : ∀ a, ∀ b ∈ adj a, R adj' a b) {a b : Nat} (h : R adj a b) : R adj' a b := by
  induction h with
  | one h => exact hm _ _ h
  | step _ h2 ih => exact ih.trans (hm _ _ h2)
theorem R.lt {adj : Nat → List Nat} {n : Nat} (hadj : ∀ k, k < n → ∀ c ∈ adj k, c < n) {a b : Nat} (ha : a < n) (h : R adj a b) : b < n := by
  induction h with
  | one h => exact hadj _ ha _ h
  | step _ h2 ih => exact hadj _ ih _ h2
/-- What is right above. -/
structure Cov (adj : Nat → List Nat) (a b : Nat) : Prop where
  r : R adj a b
  no : ∀ c, R adj a c → R adj c b → False
variable {adj cov : Nat → List Nat} {n : Nat}
end Go.StepsTo


/- Tables that are lattices. -/
open Go Go.Apex Go.StepsTo Go.Lat
namespace Go.Proofs.Try
structure GL (t : Tbl) : Prop where
  acy : ∀ k, k < t.elems.length → belowB t k k = false
  bot : ∀ k, k < t.elems.length → leB t 0 k = true
  jn : ∀ i j, i < t.elems.length → j < t.elems.length → (leastOf t (ubs t i j)).isSome = true
  w0 : t.wrong.getD 0 false = false
  wup : ∀ i j, i < t.elems.length → j < t.elems.length → t.wrong.getD i false = true → leB t i j = true → t.wrong.getD j false = true
theorem ubs_comm (t : Tbl) (i j : Nat) : ubs t i j = ubs t j i := by
  unfold ubs
  congr 1
  funext k
  exact Bool.and_comm _ _
theorem first_none {t : Tbl} {p : Nat → Bool} : firstB t p = none ↔ ∀ k, k < t.elems.length → p k = false := by
  unfold firstB
  rw [List.head?_filter, List.find?_eq_none]
  constructor
  · intro h k hk
    simpa using h k (mem_upto.2 ⟨by omega, hk⟩)
  · intro h k hk
    simpa using h k (mem_upto.1 hk).2
theorem mem_ubs {t : Tbl} {i j k : Nat} : k ∈ ubs t i j ↔ k < t.elems.length ∧ leB t i k = true ∧ leB t j k = true := by
  unfold ubs
  rw [List.mem_filter, mem_upto, Bool.and_eq_true]
  constructor
  · rintro ⟨⟨_, h⟩, h2⟩; exact ⟨h, h2⟩
  · rintro ⟨h, h2⟩; exact ⟨⟨by omega, h⟩, h2⟩
theorem least_some {t : Tbl} {us : List Nat} {m : Nat} (h : leastOf t us = some m) : m ∈ us ∧ ∀ k ∈ us, leB t m k = true := by
  unfold leastOf at h
  have h1 := List.find?_some h
  exact ⟨List.mem_of_find?_eq_some h, List.all_eq_true.1 h1⟩
theorem least_self (t : Tbl) {i : Nat} (hi : i < t.elems.length) : (leastOf t (ubs t i i)).isSome = true := by
  unfold leastOf
  rw [List.find?_isSome]
  exact ⟨i, mem_ubs.2 ⟨hi, le_refl t i, le_refl t i⟩, List.all_eq_true.2 fun k hk => (mem_ubs.1 hk).2.1⟩
theorem find_none_iff {α : Type} {g : Nat → Option α} {i n : Nat} : (upto i n).findSome? g = none ↔ ∀ k, i ≤ k → k < n → g k = none := by
  rw [List.findSome?_eq_none_iff]
  constructor
  · intro h k h1 h2; exact h k (mem_upto.2 ⟨h1, h2⟩)
  · intro h k hk; exact h k (mem_upto.1 hk).1 (mem_upto.1 hk).2
theorem pair_none {t : Tbl} {i j : Nat} : pairB t i j = none ↔ (leastOf t (ubs t i j)).isSome = true := by
  rw [least_lub]
  unfold pairB
  cases hl : lubB t (ubs t i j) with
  | true =>
    have hne : (ubs t i j).isEmpty = false := by
      cases hu : ubs t i j with
      | nil => rw [hu] at hl; cases hl
      | cons => rfl
    simp [hne]
  | false => split <;> simp
theorem bad_none {t : Tbl} {i j : Nat} : badB t i j = none ↔ (t.wrong.getD i false = true → leB t i j = true → t.wrong.getD j false = true) := by
  unfold badB
  cases t.wrong.getD i false <;> cases leB t i j <;> cases t.wrong.getD j false <;> simp
theorem brk_none (t : Tbl) (hpos : 0 < t.elems.length) : brk t = none ↔ GL t := by
  constructor
  · intro h
    unfold brk at h
    split at h
    · cases h
    rename_i h1
    split at h
    · cases h
    rename_i h2
    split at h
    · cases h
    rename_i h3
    rw [first_none] at h1 h2
    unfold pairsB at h3
    rw [find_none_iff] at h3
    have h3' : ∀ i j, i < j → j < t.elems.length → (leastOf t (ubs t i j)).isSome = true := fun i j hij hj => by
      have := h3 i (by omega) (by omega)
      rw [find_none_iff] at this
      exact pair_none.1 (this j (by omega) hj)
    unfold wrongsB at h
    split at h
    · cases h
    rename_i hw
    rw [find_none_iff] at h
    refine ⟨h1, fun k hk => by simpa using h2 k hk, fun i j hi hj => ?_, by simpa using hw, fun i j hi hj => ?_⟩
    · rcases Nat.lt_trichotomy i j with hij | hij | hij
      · exact h3' i j hij hj
      · subst hij; exact least_self t hi
      · rw [ubs_comm]; exact h3' j i hij hi
    · have := h i (by omega) hi
      rw [find_none_iff] at this
      exact bad_none.1 (this j (by omega) hj)
  · intro G
    have h1 : firstB t (fun k => belowB t k k) = none := first_none.2 G.acy
    have h2 : firstB t (fun k => !leB t 0 k) = none := first_none.2 fun k hk => by rw [G.bot k hk]; rfl
    have h3 : pairsB t = none := by
      unfold pairsB
      rw [find_none_iff]
      intro i _ hi
      rw [find_none_iff]
      intro j hij hj
      exact pair_none.2 (G.jn i j hi hj)
    have h4 : wrongsB t = none := by
      unfold wrongsB
      rw [G.w0]
      simp only [Bool.false_eq_true, if_false]
      rw [find_none_iff]
      intro i _ hi
      rw [find_none_iff]
      intro j _ hj
      exact bad_none.2 (G.wup i j hi hj)
    unfold brk
    simp only [h1, h2, h3, h4]
theorem below_R {t : Tbl} (hg : Good t) {c : Nat} (hc : c < t.elems.length) (b : Nat) : belowB t c b = true ↔ R (adjN t) c b := by
  have h12 := hg.e12
  obtain ⟨_, _, h1, _⟩ := both (n := t.elems.length) (adj := adjN t) (a := c) (D := 20) hc hg.adj_lt hg.adj_len (f := 1000) (g := 1000) (by omega) (by omega)
  exact h1 b
theorem below_trans {t : Tbl} (hg : Good t) {a b c : Nat} (ha : a < t.elems.length) (hb : b < t.elems.length) (h1 : belowB t a b = true) (h2 : belowB t b c = true) : belowB t a c = true :=
  (below_R hg ha c).2 (((below_R hg ha b).1 h1).trans ((below_R hg hb c).1 h2))
theorem le_iff {t : Tbl} {a b : Nat} : leB t a b = true ↔ a = b ∨ belowB t a b = true := by simp [leB]
theorem le_trans' {t : Tbl} (hg : Good t) {a b c : Nat} (ha : a < t.elems.length) (hb : b < t.elems.length) (h1 : leB t a b = true) (h2 : leB t b c = true) : leB t a c = true := by
  rcases le_iff.1 h1 with rfl | h1
  · exact h2
  · rcases le_iff.1 h2 with rfl | h2
    · exact le_iff.2 (.inr h1)
    · exact le_iff.2 (.inr (below_trans hg ha hb h1 h2))
theorem least_isJ {t : Tbl} {i j m : Nat} (h : leastOf t (ubs t i j) = some m) : IsJ t.elems.length (leB t) i j m := by
  obtain ⟨h1, h2⟩ := least_some h
  obtain ⟨a1, a2, a3⟩ := mem_ubs.1 h1
  exact ⟨a1, a2, a3, fun k hk b1 b2 => h2 k (mem_ubs.2 ⟨hk, b1, b2⟩)⟩
theorem least_of_isJ {t : Tbl} {i j m : Nat} (h : IsJ t.elems.length (leB t) i j m) : (leastOf t (ubs t i j)).isSome = true := by
  unfold leastOf
  rw [List.find?_isSome]
  exact ⟨m, mem_ubs.2 ⟨h.lt, h.l, h.r⟩, List.all_eq_true.2 fun k hk => h.least k (mem_ubs.1 hk).1 (mem_ubs.1 hk).2.1 (mem_ubs.1 hk).2.2⟩
section
variable {t : Tbl} (hg : Good t) (G : GL t)
include hg G
theorem gl_lat : Lat t.elems.length (leB t) := by
  refine ⟨hg.e1, le_refl t, fun a b c ha hb _ => le_trans' hg ha hb, fun a b ha hb h1 h2 => ?_, G.bot, fun a b ha hb => ?_⟩
  · rcases le_iff.1 h1 with h1 | h1
    · exact h1
    · rcases le_iff.1 h2 with h2 | h2
      · exact h2.symm
      · have := below_trans hg ha hb h1 h2
        rw [G.acy a ha] at this
        cases this
  · obtain ⟨m, hm⟩ := Option.isSome_iff_exists.1 (G.jn a b ha hb)
    have := least_isJ hm
    exact ⟨m, this.lt, this.l, this.r, this.least⟩
omit hg in
theorem join_isJ {i j : Nat} (hi : i < t.elems.length) (hj : j < t.elems.length) : IsJ t.elems.length (leB t) i j (joinN t i j) := by
  obtain ⟨m, hm⟩ := Option.isSome_iff_exists.1 (G.jn i j hi hj)
  unfold joinN
  rw [hm]
  exact least_isJ hm
omit hg in
theorem join_lt {i j : Nat} (hi : i < t.elems.length) (hj : j < t.elems.length) : joinN t i j < t.elems.length := (join_isJ G hi hj).lt
end
end Go.Proofs.Try


/- Heights: the longest ways from an element on. No program. -/
namespace Go.Lat
/-- What is known of heights. -/
structure IsHgt (n : Nat) (st : Nat → Nat → Bool) (h : Nat → Nat) : Prop where
  up : ∀ a b, a < n → b < n → st a b = true → h b + 1 ≤ h a
  some : ∀ a, a < n → h a = 0 ∨ ∃ b, b < n ∧ st a b = true ∧ h a = h b + 1
theorem IsHgt.le {n : Nat} {st : Nat → Nat → Bool} {h : Nat → Nat} (H : IsHgt n st h) {mu : Nat → Nat} (hmu : ∀ a b, a < n → b < n → st a b = true → mu b < mu a) : ∀ (d a : Nat), a < n → mu a ≤ d → h a ≤ mu a := by
  intro d
  induction d with
  | zero =>
    intro a ha hd
    rcases H.some a ha with h0 | ⟨b, hb, h1, h2⟩
    · omega
    · have := hmu a b ha hb h1
      omega
  | succ d ih =>
    intro a ha hd
    rcases H.some a ha with h0 | ⟨b, hb, h1, h2⟩
    · omega
    · have := hmu a b ha hb h1
      have := ih b hb (by omega)
      omega
/-- A longest way from an element on. -/
theorem IsHgt.chain {n : Nat} {st : Nat → Nat → Bool} {h : Nat → Nat} (H : IsHgt n st h) : ∀ (d a : Nat), a < n → h a = d → ∃ ch : Nat → Nat, ch 0 = a ∧ (∀ k, k ≤ d → ch k < n) ∧ ∀ k, k < d → st (ch k) (ch (k + 1)) = true := by
  intro d
  induction d with
  | zero => intro a ha _; exact ⟨fun _ => a, rfl, fun _ _ => ha, fun k hk => by omega⟩
  | succ d ih =>
    intro a ha hd
    rcases H.some a ha with h0 | ⟨b, hb, h1, h2⟩
    · omega
    · obtain ⟨ch, c0, c1, c2⟩ := ih b hb (by omega)
      refine ⟨fun k => match k with | 0 => a | k + 1 => ch k, rfl, fun k hk => ?_, fun k hk => ?_⟩
      · cases k with
        | zero => exact ha
        | succ k => exact c1 k (by omega)
      · cases k with
        | zero => simp only [c0]; exact h1
        | succ k => exact c2 k (by omega)
end Go.Lat


/- Primes, parts, height: the program. -/
open Go Go.Apex Go.StepsTo Go.Lat
namespace Go.Proofs.Try
theorem iEq_nat (a b : Nat) : iEq (a : Int) (b : Int) = decide (a = b) := by unfold iEq; rw [Bool.eq_iff_iff]; simp; omega
theorem mem_upto0 {n b : Nat} : b ∈ upto 0 n ↔ b < n := by rw [mem_upto]; omega
section
variable {t : Tbl} (hg : Good t) {n : List UInt8} {e a w : T} (h : IsTbl t n e a w)
include hg h
end
end Go.Proofs.Try


/- Heights; primes and parts: the reference. -/
open Go Go.Apex Go.StepsTo Go.Lat
namespace Go.Proofs.Try
section
variable {t : Tbl} (hg : Good t) (G : GL t) {n : List UInt8} {e a w : T} (h : IsTbl t n e a w)
include hg G h
end
/-! Primes. -/
section
variable {t : Tbl} (hg : Good t) (G : GL t)
include hg
include G
/-! Parts. -/
end
section
variable {t : Tbl} (hg : Good t) {ps : T} {l : List Nat} (hp : IsSl (natsT l) ps) (hl : l.length ≤ 12) (hlt : ∀ k ∈ l, k < t.elems.length) {z : Nat} (hz : z < t.elems.length)
include hg hp hl hlt hz
end
theorem upto_nodup (i n : Nat) : (upto i n).Nodup := by unfold upto; exact List.nodup_range'
end Go.Proofs.Try


/- Joins, primes, parts, height: all of it. -/
open Go Go.Apex Go.StepsTo Go.Lat
namespace Go.Proofs.Try
/-- The error of a table that must be a lattice with some elements. -/
def errL (t : Tbl) (l : List Int) : Int := if checkB t = true then if (brk t).isSome = true then 12 else if l.all (inB t) = true then 0 else 7 else 4
theorem errL_ok {t : Tbl} {l : List Int} (h : errL t l = 0) : checkB t = true ∧ brk t = none ∧ ∀ z ∈ l, inB t z = true := by
  unfold errL at h
  split at h
  · rename_i h1
    split at h
    · cases h
    · rename_i h2
      split at h
      · rename_i h3
        exact ⟨h1, by simpa using h2, List.all_eq_true.1 h3⟩
      · cases h
  · cases h
theorem errL_mk {t : Tbl} {l : List Int} (h1 : checkB t = true) (h2 : brk t = none) (h3 : ∀ z ∈ l, inB t z = true) : errL t l = 0 := by
  unfold errL
  rw [if_pos h1, h2, if_neg (by simp), if_pos (List.all_eq_true.2 h3)]
theorem t2a (x y : T) : T.tup? (List.length [74, 30]) (.tup [x, y]) = some [x, y] := rfl
theorem t2b (x y : T) : T.tup? (List.length [3, 30]) (.tup [x, y]) = some [x, y] := rfl
theorem t2d (x y : T) : T.tup? (List.length [3, 4]) (.tup [x, y]) = some [x, y] := rfl
theorem t2e (x y : T) : T.tup? (List.length [33, 4]) (.tup [x, y]) = some [x, y] := rfl
theorem t2f (x y : T) : T.tup? (List.length [33, 30]) (.tup [x, y]) = some [x, y] := rfl
theorem nt1 (x y : T) : nthT [x, y] 1 = y := rfl
theorem nt0 (x y : T) : nthT [x, y] 0 = x := rfl
theorem scib (z : Int) (b : Bool) : T.scalar (.tup [.int .i64 z, .bool b]) = true := rfl
theorem scii (z y : Int) : T.scalar (.tup [.int .i64 z, .int .i64 y]) = true := rfl
theorem ag3 (x y z : T) : T.agg? (List.length [(D.int IntKind.u8), (D.int IntKind.i64), (D.int IntKind.i64)]) (.agg [x, y, z]) = some [x, y, z] := rfl
theorem n30 (x y z : T) : nthT [x, y, z] 0 = x := rfl
theorem n31 (x y z : T) : nthT [x, y, z] 1 = y := rfl
theorem n32 (x y z : T) : nthT [x, y, z] 2 = z := rfl
theorem i00 : iEq 0 0 = true := rfl
theorem i40 : iEq 4 0 = false := rfl
theorem i70 : iEq 7 0 = false := rfl
theorem i120 : iEq 12 0 = false := rfl
theorem scbr (k i j m : Int) : T.scalar (.tup [.agg [.int .u8 k, .int .i64 i, .int .i64 j], .int .i64 m]) = true := rfl
section
variable {t : Tbl} {n : List UInt8} {e a w : T} (h : IsTbl t n e a w) (hs : Small t) (ht : thinB t = true)
include h hs ht
theorem lattice_spec {us : T} {l : List Int} (hu : IsSl (ints l) us) (hl : l.length < 1000000) : fnO acfg 64 [tblT n e a w, us] = some (.tup [if errL t l = 0 then ordP t n e a w else .nilp, .int .i64 (errL t l)]) := by
  apply fn64
  cases hc : checkB t with
  | false =>
    have he : errL t l = 4 := by simp [errL, hc]
    simp only [h.v4, cond_true, h.d4, Option.bind_some, agg4, nth0, nth1, nth2, nth3, str?_str, open_bad h hs hc, t2a, nt1, int?_int, i40, bNot, Bool.not_false, he]
    rfl
  | true =>
    have hg := good_of hc ht
    have ho := open_spec hg h hs
    rw [hc] at ho
    have hsc : T.scalar (outT (brk t)) = true := rfl
    cases hb : brk t with
    | some b =>
      have he : errL t l = 12 := by simp [errL, hc, hb]
      have hbr := broken_spec hg h
      rw [hb] at hbr hsc
      simp only [h.v4, cond_true, h.d4, Option.bind_some, agg4, nth0, nth1, nth2, nth3, str?_str, ho, t2a, nt0, nt1, int?_int, i00, bNot, Bool.not_true, cond_false, hbr, hsc, outT, t2e, tripT, ag3, n30, n31, n32, tripfits, bool?_bool, he, Option.isSome_some]
      rfl
    | none =>
      have hbr := broken_spec hg h
      rw [hb] at hbr hsc
      have hh := has_spec h hu hl
      cases hz : l.all (inB t) with
      | false =>
        have he : errL t l = 7 := by simp only [errL, hc, hb, hz]; rfl
        rw [hz] at hh
        simp only [h.v4, cond_true, h.d4, Option.bind_some, agg4, nth0, nth1, nth2, nth3, str?_str, ho, t2a, nt0, nt1, int?_int, i00, bNot, Bool.not_true, cond_false, hbr, hsc, outT, t2e, tripT, ag3, n30, n31, n32, tripfits, bool?_bool, he, Option.isSome_none, hh, scalar_int, i70, Bool.not_false]
        rfl
      | true =>
        have he : errL t l = 0 := by simp only [errL, hc, hb, hz]; rfl
        rw [hz] at hh
        simp only [h.v4, cond_true, h.d4, Option.bind_some, agg4, nth0, nth1, nth2, nth3, str?_str, ho, t2a, nt0, nt1, int?_int, i00, bNot, Bool.not_true, cond_false, hbr, hsc, outT, t2e, tripT, ag3, n30, n31, n32, tripfits, bool?_bool, he, Option.isSome_none, hh, scalar_int]
        rfl
def joinV (t : Tbl) (y z : Int) : Int := if errL t [y, z] = 0 then (joinN t y.toNat z.toNat : Int) else 0
omit h hs ht in
theorem iEq_errL {x : Int} : iEq x 0 = decide (x = 0) := by unfold iEq; rw [Bool.eq_iff_iff]; simp
theorem joinP_spec (y z : Int) : fnO acfg 23 [tblT n e a w, .int .i64 y, .int .i64 z] = some (.tup [.int .i64 (joinV t y z), .int .i64 (errL t [y, z])]) := by
  have hl := lattice_spec h hs ht (us := .sl true 1 [.int .i64 y, .int .i64 z]) (l := [y, z]) (.sl true) (by simp)
  apply fn23
  by_cases he : errL t [y, z] = 0
  · obtain ⟨hc, hb, hin⟩ := errL_ok he
    have hg := good_of hc ht
    obtain ⟨i, rfl, hi⟩ := inB_nat (hin y (by simp))
    obtain ⟨j, rfl, hj⟩ := inB_nat (hin z (by simp))
    rw [he] at hl
    simp only [h.v4, cond_true, h.d4, Option.bind_some, agg4, nth0, nth1, nth2, nth3, str?_str, hl, t2a, nt0, nt1, int?_int, if_true, i00, bNot, Bool.not_true, cond_false, join_spec2 hg h hi hj, scib, t2d, bool?_bool, joinV, he, Int.toNat_natCast]
  · have hd : decide (errL t [y, z] = 0) = false := decide_eq_false he
    simp only [h.v4, cond_true, h.d4, Option.bind_some, agg4, nth0, nth1, nth2, nth3, str?_str, hl, t2a, nt0, nt1, int?_int, if_neg he, iEq_errL, hd, bNot, Bool.not_false, joinV]
theorem elemsR {l : List Int} (he0 : errL t [] = 0) : errL t l = 0 ↔ ∀ z ∈ l, inB t z = true := by
  obtain ⟨hc, hb, _⟩ := errL_ok he0
  exact ⟨fun h => (errL_ok h).2.2, errL_mk hc hb⟩
end
end Go.Proofs.Try


/- What the laws of lattices call. -/
open Go Go.Apex Go.StepsTo Go.Lat
namespace Go.Proofs.Try
theorem inB_mk {t : Tbl} {k : Nat} (h : k < t.elems.length) : inB t (k : Int) = true := by
  simp only [inB, Bool.and_eq_true, decide_eq_true_eq]; omega
theorem t2g (x y : T) : T.tup? (List.length [4, 30]) (.tup [x, y]) = some [x, y] := rfl
theorem scbi (b : Bool) (y : Int) : T.scalar (.tup [.bool b, .int .i64 y]) = true := rfl
section
variable {t : Tbl} {n : List UInt8} {e a w : T} (h : IsTbl t n e a w) (hs : Small t) (ht : thinB t = true)
include h hs ht
theorem join22_spec {i j : Nat} (he : errL t [] = 0) (hi : i < t.elems.length) (hj : j < t.elems.length) : fnO acfg 22 [tblT n e a w, .int .i64 (i : Int), .int .i64 (j : Int)] = some (.int .i64 (joinN t i j : Int)) := by
  obtain ⟨e', a', w', c1, c2⟩ := copy_spec h hs
  obtain ⟨hc, hb, _⟩ := errL_ok he
  have hg := good_of hc ht
  have h12 := hg.e12
  have G := (brk_none t hg.e1).1 hb
  have hJ := joinP_spec c2 hs ht (i : Int) (j : Int)
  have he2 : errL t [(i : Int), (j : Int)] = 0 := errL_mk hc hb fun z hz => by
    rcases List.mem_cons.1 hz with rfl | hz
    · exact inB_mk hi
    · have : z = (j : Int) := by simpa using hz
      subst this; exact inB_mk hj
  have hE := isElemR h (z := (joinN t i j : Int)) hg.e1 (by omega)
  rw [inB_mk (join_lt G hi hj)] at hE
  simp only [joinV, he2, if_true, Int.toNat_natCast] at hJ
  apply fn22
  simp only [h.v4, cond_true, h.d4, Option.bind_some, agg4, nth0, nth1, nth2, nth3, str?_str, c1, hJ, scii, t2b, nt0, nt1, int?_int, i00, bNot, Bool.not_true, cond_false, hE, scalar_bool, bool?_bool]
theorem below33_spec {i j : Nat} (hc : checkB t = true) (hi : i < t.elems.length) (hj : j < t.elems.length) : fnO acfg 33 [tblT n e a w, .int .i64 (i : Int), .int .i64 (j : Int)] = some (.bool (leB t i j)) := by
  obtain ⟨e', a', w', c1, c2⟩ := copy_spec h hs
  have hb : belowE t (i : Int) (j : Int) = (leB t i j, 0) := by
    unfold belowE
    rw [if_pos hc, if_pos ⟨inB_mk hi, inB_mk hj⟩]
    simp
  have hB := belowP_spec c2 hs ht (i : Int) (j : Int)
  rw [hb] at hB
  apply fn33
  simp only [h.v4, cond_true, h.d4, Option.bind_some, agg4, nth0, nth1, nth2, nth3, str?_str, c1, hB, scbi, t2g, nt0, nt1, int?_int, i00, bool?_bool]
end
/-- What is known where a table is right. -/
structure Rt (t : Tbl) : Prop where
  th : thinB t = true
  er : errL t [] = 0
  hc : checkB t = true
  hb : brk t = none
section
variable {t : Tbl} {n : List UInt8} {e a w : T} (h : IsTbl t n e a w) (R : Rt t)
include h R
omit h in
theorem Rt.s : Small t := small_of_thin R.th
omit h in
theorem Rt.g : Good t := good_of R.hc R.th
omit h in
theorem Rt.l : GL t := (brk_none t (good_of R.hc R.th).e1).1 R.hb
theorem jn {i j : Nat} (hi : i < t.elems.length) (hj : j < t.elems.length) : fnO acfg 22 [tblT n e a w, .int .i64 (i : Int), .int .i64 (j : Int)] = some (.int .i64 (joinN t i j : Int)) := join22_spec h (small_of_thin R.th) R.th R.er hi hj
theorem bl {i j : Nat} (hi : i < t.elems.length) (hj : j < t.elems.length) : fnO acfg 33 [tblT n e a w, .int .i64 (i : Int), .int .i64 (j : Int)] = some (.bool (leB t i j)) := below33_spec h (small_of_thin R.th) R.th R.hc hi hj
end
theorem iEq_nn (z : Nat) : iEq (z : Int) (z : Int) = true := by simp [iEq]
theorem iLt_n0 (z : Nat) : iLt (z : Int) 0 = false := decide_eq_false (by omega)
/-! OrderLaws. -/
section
variable {t : Tbl} (hg : Good t) (G : GL t)
include hg G
end
section
variable {t : Tbl} {n : List UInt8} {e a w : T} (h : IsTbl t n e a w) (R : Rt t)
include h R
end
end Go.Proofs.Try


/- Steps up to each element, by rounds. No program. -/
namespace Go.Lat
def at0 (S : List Nat) (a : Nat) : Nat := S.getD a 0
theorem at0_set {S : List Nat} {a b v : Nat} (ha : a < S.length) : at0 (S.set a v) b = if b = a then v else at0 S b := by
  unfold at0
  simp only [List.getD_eq_getElem?_getD, List.getElem?_set]
  by_cases e : a = b
  · subst e; simp [ha]
  · rw [if_neg e, if_neg (Ne.symm e)]
def relax (st : Nat → Nat → Bool) (S : List Nat) (a c : Nat) : List Nat := bif st c a then S.set a (max (at0 S a) (at0 S c + 1)) else S
def relaxC (st : Nat → Nat → Bool) (l : List Nat) (S : List Nat) (a : Nat) : List Nat := l.foldl (fun S c => relax st S a c) S
def relaxA (st : Nat → Nat → Bool) (l : List Nat) (l2 : List Nat) (S : List Nat) : List Nat := l2.foldl (fun S a => relaxC st l S a) S
def relaxR (st : Nat → Nat → Bool) (l : List Nat) (l3 : List Nat) (S : List Nat) : List Nat := l3.foldl (fun S _ => relaxA st l l S) S
variable {st : Nat → Nat → Bool} {n : Nat}
theorem relax_len (S : List Nat) (a c : Nat) : (relax st S a c).length = S.length := by unfold relax; cases st c a <;> simp
theorem relaxC_len (a : Nat) : ∀ (l S : List Nat), (relaxC st l S a).length = S.length
  | [], _ => rfl
  | c :: l, S => (relaxC_len a l _).trans (relax_len S a c)
theorem relaxA_len (l : List Nat) : ∀ (l2 S : List Nat), (relaxA st l l2 S).length = S.length
  | [], _ => rfl
  | c :: l2, S => (relaxA_len l l2 _).trans (relaxC_len c l S)
theorem relax_ge (S : List Nat) {a : Nat} (c : Nat) (ha : a < S.length) (b : Nat) : at0 S b ≤ at0 (relax st S a c) b := by
  unfold relax
  cases st c a with
  | false => exact Nat.le_refl _
  | true =>
    simp only [cond_true, at0_set ha]
    by_cases e : b = a
    · subst e; rw [if_pos rfl]; exact Nat.le_max_left _ _
    · rw [if_neg e]; exact Nat.le_refl _
theorem relaxC_ge {a : Nat} (b : Nat) : ∀ (l S : List Nat), a < S.length → at0 S b ≤ at0 (relaxC st l S a) b
  | [], _, _ => Nat.le_refl _
  | c :: l, S, ha => Nat.le_trans (relax_ge S c ha b) (relaxC_ge b l _ (by rw [relax_len]; exact ha))
theorem relaxA_ge (l : List Nat) (b : Nat) : ∀ (l2 S : List Nat), (∀ a ∈ l2, a < S.length) → at0 S b ≤ at0 (relaxA st l l2 S) b
  | [], _, _ => Nat.le_refl _
  | a :: l2, S, ha => Nat.le_trans (relaxC_ge b l S (ha a (by simp))) (relaxA_ge l b l2 _ fun c hc => by rw [relaxC_len]; exact ha c (by simp [hc]))
theorem relaxC_mem {a c : Nat} (hst : st c a = true) : ∀ (l S : List Nat), a < S.length → c ∈ l → at0 S c + 1 ≤ at0 (relaxC st l S a) a
  | [], _, _, h => by cases h
  | d :: l, S, ha, h => by
    rcases List.mem_cons.1 h with rfl | h
    · refine Nat.le_trans ?_ (relaxC_ge a l (relax st S a c) (by rw [relax_len]; exact ha))
      unfold relax
      rw [hst]
      simp only [cond_true, at0_set ha, if_true]
      exact Nat.le_max_right _ _
    · refine Nat.le_trans ?_ (relaxC_mem hst l (relax st S a d) (by rw [relax_len]; exact ha) h)
      exact Nat.succ_le_succ (relax_ge S d ha c)
theorem relaxA_mem {l : List Nat} {a c : Nat} (hst : st c a = true) (hc : c ∈ l) : ∀ (l2 S : List Nat), (∀ a ∈ l2, a < S.length) → a ∈ l2 → at0 S c + 1 ≤ at0 (relaxA st l l2 S) a
  | [], _, _, h => by cases h
  | d :: l2, S, ha, h => by
    have hlen : ∀ x ∈ l2, x < (relaxC st l S d).length := fun x hx => by rw [relaxC_len]; exact ha x (by simp [hx])
    rcases List.mem_cons.1 h with rfl | h
    · exact Nat.le_trans (relaxC_mem hst l S (ha _ (by simp)) hc) (relaxA_ge l a l2 (relaxC st l S a) hlen)
    · refine Nat.le_trans ?_ (relaxA_mem hst hc l2 (relaxC st l S d) hlen h)
      exact Nat.succ_le_succ (relaxC_ge c l S (ha d (by simp)))
theorem relaxR_chain {l : List Nat} {ch : Nat → Nat} {H : Nat} (hl : ∀ b, b ∈ l ↔ b < n) (hch : ∀ k, k ≤ H → ch k < n) (hst : ∀ k, k < H → st (ch k) (ch (k + 1)) = true) : ∀ (l3 S : List Nat) (r : Nat), S.length = n → (∀ k, k ≤ r → k ≤ H → k ≤ at0 S (ch k)) →
    ∀ k, k ≤ r + l3.length → k ≤ H → k ≤ at0 (relaxR st l l3 S) (ch k)
  | [], S, r, _, h => fun k hk => h k (by simpa using hk)
  | x :: l3, S, r, hS, h => fun k hk hH => by
    refine relaxR_chain hl hch hst l3 (relaxA st l l S) (r + 1) ((relaxA_len l l S).trans hS) (fun j hj hjH => ?_) k (by simp only [List.length_cons] at hk; omega) hH
    cases j with
    | zero => omega
    | succ j =>
      have h1 := relaxA_mem (hst j (by omega)) ((hl _).2 (hch j (by omega))) l S (fun a ha => by rw [hS]; exact (hl a).1 ha) ((hl _).2 (hch (j + 1) hjH))
      have h2 := h j (by omega) (by omega)
      omega
/-- No more than what is left up to the top. -/
def Up1 (n : Nat) (h : Nat → Nat) (H : Nat) (S : List Nat) : Prop := S.length = n ∧ ∀ a, a < n → at0 S a + h a ≤ H
theorem relax_up {h : Nat → Nat} {H : Nat} (I : IsHgt n st h) {S : List Nat} (hS : Up1 n h H S) {a c : Nat} (ha : a < n) (hc : c < n) : Up1 n h H (relax st S a c) := by
  refine ⟨(relax_len S a c).trans hS.1, fun b hb => ?_⟩
  unfold relax
  cases hst : st c a with
  | false => exact hS.2 b hb
  | true =>
    simp only [cond_true, at0_set (show a < S.length by rw [hS.1]; exact ha)]
    by_cases e : b = a
    · subst e
      rw [if_pos rfl]
      have h1 := hS.2 b hb
      have h2 := hS.2 c hc
      have h3 := I.up c b hc ha hst
      rcases Nat.le_total (at0 S b) (at0 S c + 1) with h4 | h4
      · rw [Nat.max_eq_right h4]; omega
      · rw [Nat.max_eq_left h4]; omega
    · rw [if_neg e]; exact hS.2 b hb
theorem relaxC_up {h : Nat → Nat} {H : Nat} (I : IsHgt n st h) {a : Nat} (ha : a < n) : ∀ (l S : List Nat), (∀ c ∈ l, c < n) → Up1 n h H S → Up1 n h H (relaxC st l S a)
  | [], _, _, hS => hS
  | c :: l, S, hl, hS => relaxC_up I ha l (relax st S a c) (fun d hd => hl d (by simp [hd])) (relax_up I hS ha (hl c (by simp)))
theorem relaxA_up {h : Nat → Nat} {H : Nat} (I : IsHgt n st h) {l : List Nat} (hl : ∀ c ∈ l, c < n) : ∀ (l2 S : List Nat), (∀ c ∈ l2, c < n) → Up1 n h H S → Up1 n h H (relaxA st l l2 S)
  | [], _, _, hS => hS
  | a :: l2, S, hl2, hS => relaxA_up I hl l2 (relaxC st l S a) (fun d hd => hl2 d (by simp [hd])) (relaxC_up I (hl2 a (by simp)) l S hl hS)
theorem relaxR_up {h : Nat → Nat} {H : Nat} (I : IsHgt n st h) {l : List Nat} (hl : ∀ c ∈ l, c < n) : ∀ (l3 S : List Nat), Up1 n h H S → Up1 n h H (relaxR st l l3 S)
  | [], _, hS => hS
  | _ :: l3, S, hS => relaxR_up I hl l3 (relaxA st l l S) (relaxA_up I hl l S hl hS)
def most (S : List Nat) : Nat := S.foldl max 0
theorem foldl_max_ge : ∀ (l : List Nat) (m : Nat), m ≤ l.foldl max m
  | [], _ => Nat.le_refl _
  | x :: l, m => Nat.le_trans (Nat.le_max_left m x) (foldl_max_ge l (max m x))
theorem foldl_max_mem {x : Nat} : ∀ (l : List Nat) (m : Nat), x ∈ l → x ≤ l.foldl max m
  | [], _, h => by cases h
  | y :: l, m, h => by
    rcases List.mem_cons.1 h with rfl | h
    · exact Nat.le_trans (Nat.le_max_right m x) (foldl_max_ge l _)
    · exact foldl_max_mem l _ h
theorem foldl_max_le {H : Nat} : ∀ (l : List Nat) (m : Nat), m ≤ H → (∀ x ∈ l, x ≤ H) → l.foldl max m ≤ H
  | [], _, h, _ => h
  | y :: l, m, h, h2 => foldl_max_le l _ (Nat.max_le.2 ⟨h, h2 y (by simp)⟩) fun x hx => h2 x (by simp [hx])
/-- The rounds find the height. -/
theorem rounds {h : Nat → Nat} (I : IsHgt n st h) {l : List Nat} (hl : ∀ b, b ∈ l ↔ b < n) (hn : 0 < n) (hbot : ∀ a, a < n → h a ≤ h 0) (hlt : h 0 < n) (l3 : List Nat) (hl3 : l3.length = n) :
    most (relaxR st l l3 (List.replicate n 0)) = h 0 := by
  have hrep : ∀ a, at0 (List.replicate n 0) a = 0 := fun a => by
    unfold at0
    rw [List.getD_eq_getElem?_getD, List.getElem?_replicate]
    split <;> rfl
  have hU := relaxR_up (H := h 0) I (fun c hc => (hl c).1 hc) l3 (List.replicate n 0) ⟨List.length_replicate, fun a ha => by rw [hrep]; have := hbot a ha; omega⟩
  refine Nat.le_antisymm (foldl_max_le _ _ (Nat.zero_le _) fun x hx => ?_) ?_
  · obtain ⟨i, hi, he⟩ := List.getElem_of_mem hx
    have := hU.2 i (by rw [← hU.1]; exact hi)
    have h2 : at0 (relaxR st l l3 (List.replicate n 0)) i = x := by unfold at0; rw [List.getD_eq_getElem?_getD, List.getElem?_eq_getElem hi, he]; rfl
    omega
  · obtain ⟨ch, c0, c1, c2⟩ := I.chain (h 0) 0 hn rfl
    have := relaxR_chain (n := n) hl c1 c2 l3 (List.replicate n 0) 0 List.length_replicate (fun k hk _ => by omega) (h 0) (by omega) (Nat.le_refl _)
    refine Nat.le_trans this ?_
    have hlen : ch (h 0) < (relaxR st l l3 (List.replicate n 0)).length := by rw [hU.1]; exact c1 _ (Nat.le_refl _)
    refine foldl_max_mem _ _ ?_
    unfold at0
    rw [List.getD_eq_getElem?_getD, List.getElem?_eq_getElem hlen]
    exact List.getElem_mem hlen
end Go.Lat


/- From a caller's memory to the evaluator's words: slices of one cell each, tables. -/
open Go Go.Apex Go.ChangeShapes Go.WideShapes Go.Deep
namespace Go.Apex
section
variable {H : Type} {enc : TypeId × Value → H} {P : Program} {w : World} {base : Nat} {spare : Nat → Bool} {held : Bool}
theorem cell_blk {w : World} {b o : Nat} {v : Value} (h : w.cell? ⟨b, o, none⟩ = some v) : b < w.heap.size := by
  rcases Nat.lt_or_ge b w.heap.size with h1 | h1
  · exact h1
  · simp only [World.cell?] at h
    rw [Array.getElem?_eq_none h1] at h
    cases h
theorem open_sl {t e : TypeId} {fuel : Nat} {v : Value} {x : DataW H × List MemPlace} (ht : P.underlying t = some (.slice e)) (hc : P.cellsOf e = 1) (h : DataW.trod enc P w base spare held fuel t [v] = some x) {Q : T → Prop}
    (hel : ∀ (n : Nat) (u : Value) (d : DataW H × List MemPlace), DataW.trod enc P w base spare held n e [u] = some d → ∃ y : T, y.one = true ∧ RepT w (fun b => b < w.heap.size) y u ∧ Q y) :
    ∃ (ys : List T) (y : T), IsSl ys y ∧ RepT w (fun b => b < w.heap.size) y v ∧ ∀ z ∈ ys, Q z := by
  rcases open_slice1 ht hc h with ⟨h0, _⟩ | ⟨a, len, cap, m, n, V, D, Pl, h0, _, hl, _, hm, _, hx⟩
  · obtain rfl : v = .slice none 0 0 := by simpa using h0
    exact ⟨[], .nils, .nil rfl, .nils, fun z hz => by cases hz⟩
  · obtain rfl : v = .slice (some a) len cap := by simpa using h0
    have hlm : len ≤ m := by rw [hm]; split <;> omega
    have hch : ∀ i : Nat, ∃ y : T, i < len → y.one = true ∧ RepT w (fun b => b < w.heap.size) y (V i) ∧ Q y := fun i => by
      by_cases hi : i < len
      · obtain ⟨y, hy⟩ := hel n (V i) _ (hx i (by omega)).2
        exact ⟨y, fun _ => hy⟩
      · exact ⟨.nils, fun h => absurd h hi⟩
    let Y : Nat → T := fun i => Classical.choose (hch i)
    have hY : ∀ i, i < len → (Y i).one = true ∧ RepT w (fun b => b < w.heap.size) (Y i) (V i) ∧ Q (Y i) := fun i hi => Classical.choose_spec (hch i) hi
    let ys : List T := (List.range len).map Y
    have hlen : ys.length = len := by simp [ys]
    have hget : ∀ (i : Nat) (z : T), ys[i]? = some z → i < len ∧ z = Y i := fun i z hz => by
      have hi : i < len := by rw [← hlen]; exact (List.getElem?_eq_some_iff.1 hz).1
      refine ⟨hi, ?_⟩
      simp only [ys, List.getElem?_map, List.getElem?_range hi, Option.map_some, Option.some.injEq] at hz
      exact hz.symm
    obtain ⟨b, o, sp⟩ := a
    have hsp : sp = none ∨ ys = [] := by
      rcases Nat.eq_zero_or_pos len with h1 | h1
      · exact .inr (List.eq_nil_of_length_eq_zero (by rw [hlen]; exact h1))
      · have := (hx 0 (by omega)).1
        exact .inl (World.cell?_spot (by simpa [Addr.add] using this))
    have hcell : ∀ i, i < len → w.cell? ⟨b, o + i, none⟩ = some (V i) := fun i hi => by
      have h1 := (hx i (by omega)).1
      have h2 : sp = none := hsp.resolve_right (fun e => by rw [e] at hlen; simp at hlen; omega)
      subst h2
      rwa [addr_add] at h1
    refine ⟨ys, .sl false 1 ys, .sl _, ?_, fun z hz => ?_⟩
    · rw [← hlen]
      refine .sl false 1 ys b o cap (fun i _ => V i) (by omega) (fun h => by cases h) (fun i z hz => ?_) (fun i z j c hz hj => ?_) (fun i z j c hz hj => ?_) sp hsp
      · obtain ⟨hi, rfl⟩ := hget i z hz
        rw [one_cells (hY i hi).1]
        rfl
      · obtain ⟨hi, rfl⟩ := hget i z hz
        rw [one_cells (hY i hi).1] at hj
        cases j with
        | zero =>
          rw [Nat.mul_one, Nat.add_zero]
          exact ⟨cell_blk (hcell i hi), hcell i hi⟩
        | succ j => simp at hj
      · obtain ⟨hi, rfl⟩ := hget i z hz
        rw [one_cells (hY i hi).1] at hj
        cases j with
        | zero =>
          have : Y i = c := by simpa using hj
          rw [← this]
          exact (hY i hi).2.1
        | succ j => simp at hj
    · obtain ⟨i, hi, he⟩ := List.getElem_of_mem hz
      obtain ⟨hi2, rfl⟩ := hget i z (by rw [List.getElem?_eq_getElem hi, he])
      exact (hY i hi2).2.2
theorem list_of {α : Type} {g : α → T} : ∀ {ys : List T}, (∀ z ∈ ys, ∃ a, z = g a) → ∃ l : List α, ys = l.map g
  | [], _ => ⟨[], rfl⟩
  | y :: ys, h => by
    obtain ⟨a, rfl⟩ := h y (by simp)
    obtain ⟨l, rfl⟩ := list_of (ys := ys) fun z hz => h z (by simp [hz])
    exact ⟨a :: l, rfl⟩
theorem open_strsT {t e : TypeId} {fuel : Nat} {v : Value} {x : DataW H × List MemPlace} (ht : P.underlying t = some (.slice e)) (he : P.underlying e = some .string) (hc : P.cellsOf e = 1) (h : DataW.trod enc P w base spare held fuel t [v] = some x) :
    ∃ (l : List (List UInt8)) (y : T), IsSl (l.map .str) y ∧ RepT w (fun b => b < w.heap.size) y v := by
  obtain ⟨ys, y, h1, h2, h3⟩ := open_sl ht hc h (Q := fun z => ∃ s : List UInt8, z = .str s) fun n u d hd => by
    obtain ⟨s, h1, _, _⟩ := DataW.trod_string he hd
    obtain rfl : u = .string s := by simpa using h1
    exact ⟨.str s.data.toList, rfl, .str _ _ rfl, _, rfl⟩
  obtain ⟨l, rfl⟩ := list_of h3
  exact ⟨l, y, h1, h2⟩
theorem open_intsT {t e : TypeId} {fuel : Nat} {v : Value} {x : DataW H × List MemPlace} (ht : P.underlying t = some (.slice e)) (he : P.underlying e = some (.int .i64)) (hc : P.cellsOf e = 1) (h : DataW.trod enc P w base spare held fuel t [v] = some x) :
    ∃ (l : List Int) (y : T), IsSl (l.map (.int .i64)) y ∧ RepT w (fun b => b < w.heap.size) y v := by
  obtain ⟨ys, y, h1, h2, h3⟩ := open_sl ht hc h (Q := fun z => ∃ k : Int, z = .int .i64 k) fun n u d hd => by
    obtain ⟨k, h1, _, _⟩ := DataW.trod_int he hd
    obtain rfl : u = .int .i64 k := by simpa using h1
    exact ⟨.int .i64 k, rfl, .int _ _, _, rfl⟩
  obtain ⟨l, rfl⟩ := list_of h3
  exact ⟨l, y, h1, h2⟩
theorem open_boolsT {t e : TypeId} {fuel : Nat} {v : Value} {x : DataW H × List MemPlace} (ht : P.underlying t = some (.slice e)) (he : P.underlying e = some .bool) (hc : P.cellsOf e = 1) (h : DataW.trod enc P w base spare held fuel t [v] = some x) :
    ∃ (l : List Bool) (y : T), IsSl (l.map .bool) y ∧ RepT w (fun b => b < w.heap.size) y v := by
  obtain ⟨ys, y, h1, h2, h3⟩ := open_sl ht hc h (Q := fun z => ∃ k : Bool, z = .bool k) fun n u d hd => by
    obtain ⟨k, h1, _⟩ := DataW.trod_bool he hd
    obtain rfl : u = .bool k := by simpa using h1
    exact ⟨.bool k, rfl, .bool _, _, rfl⟩
  obtain ⟨l, rfl⟩ := list_of h3
  exact ⟨l, y, h1, h2⟩
theorem open_rowsT {t u e : TypeId} {fuel : Nat} {v : Value} {x : DataW H × List MemPlace} (ht : P.underlying t = some (.slice u)) (hu : P.underlying u = some (.slice e)) (he : P.underlying e = some (.int .i64)) (hcu : P.cellsOf u = 1) (hc : P.cellsOf e = 1)
    (h : DataW.trod enc P w base spare held fuel t [v] = some x) :
    ∃ (rows : List T) (y : T), IsSl rows y ∧ RepT w (fun b => b < w.heap.size) y v ∧ ∀ z ∈ rows, ∃ l : List Int, IsSl (l.map (.int .i64)) z :=
  open_sl ht hcu h fun n c d hd => by
    obtain ⟨l, y, h1, h2⟩ := open_intsT hu he hc hd
    exact ⟨y, h1.one, h2, l, h1⟩
end
end Go.Apex


/- What a caller hands over, read as the evaluator's words. -/
open Go Go.Apex Go.ChangeShapes Go.WideShapes Go.ChangeAt Go.RowKit
namespace Go.Proofs.Try
abbrev bytesL (bs : List UInt8) : List T := bs.map fun b => T.int .u8 (b.toNat : Int)
theorem open_bytesT {H : Type} {enc : TypeId × Value → H} {P : Program} {w : World} {base : Nat} {spare : Nat → Bool} {held : Bool} {t e : TypeId} {fuel : Nat} {v : Value} {x : DataW H × List MemPlace} (ht : P.underlying t = some (.slice e)) (he : P.underlying e = some (.int .u8)) (hc : P.cellsOf e = 1) (h : DataW.trod enc P w base spare held fuel t [v] = some x) :
    ∃ (l : List UInt8) (y : T), IsSl (bytesL l) y ∧ RepT w (fun b => b < w.heap.size) y v := by
  obtain ⟨ys, y, h1, h2, h3⟩ := open_sl ht hc h (Q := fun z => ∃ b : UInt8, z = .int .u8 (b.toNat : Int)) fun n u d hd => by
    obtain ⟨k, h1, _, hw⟩ := DataW.trod_int he hd
    obtain rfl : u = .int .u8 k := by simpa using h1
    have hr : 0 ≤ k ∧ k < 256 := by
      have e1 : IntKind.min .u8 = 0 := by decide
      have e2 : IntKind.max .u8 = 255 := by decide
      simp only [Lit.wf, Bool.and_eq_true, decide_eq_true_eq, e1, e2] at hw
      omega
    have hk : ((UInt8.ofNat k.toNat).toNat : Int) = k := by
      rw [UInt8.toNat_ofNat']
      omega
    exact ⟨.int .u8 k, rfl, .int _ _, UInt8.ofNat k.toNat, by rw [hk]⟩
  obtain ⟨l, rfl⟩ := list_of h3
  exact ⟨l, y, h1, h2⟩
set_option maxRecDepth 100000 in
theorem open_table {H : Type} {enc : TypeId × Value → H} {W : World} {base : Nat} {spare : Nat → Bool} {held : Bool} {fuel : Nat} {cs : Array Value} {x : DataW H × List MemPlace} (hsz : cs.size = 4) (h : DataW.trod enc Try.prog W base spare held fuel 26 cs.toList = some x) :
    ∃ (t : Tbl) (n : List UInt8) (e a w : T), IsTbl t n e a w ∧ RepT W (fun b => b < W.heap.size) (tblT n e a w) (.agg cs) := by
  obtain ⟨xs, m, _, _, _, hlen, hf⟩ := DataW.trod_struct Try.underlying26 h
  obtain ⟨v0, v1, v2, v3, rfl⟩ : ∃ v0 v1 v2 v3, cs = #[v0, v1, v2, v3] := by
    obtain ⟨l⟩ := cs
    match l, hsz with
    | [a, b, c, d], _ => exact ⟨a, b, c, d, rfl⟩
  match xs, hlen with
  | [y0, y1, y2, y3], _ =>
    have c9 : Try.prog.cellsOf 9 = 1 := by kernel_rfl
    have c22 : Try.prog.cellsOf 22 = 1 := by kernel_rfl
    have c23 : Try.prog.cellsOf 23 = 1 := by kernel_rfl
    have c24 : Try.prog.cellsOf 24 = 1 := by kernel_rfl
    have c38 : Try.prog.cellsOf 38 = 1 := by kernel_rfl
    have c3 : Try.prog.cellsOf 3 = 1 := by kernel_rfl
    have c4 : Try.prog.cellsOf 4 = 1 := by kernel_rfl
    have h0 := hf 0 _ rfl
    have h1 := hf 1 _ rfl
    have h2 := hf 2 _ rfl
    have h3 := hf 3 _ rfl
    simp only [c9, c22, c23, c24] at h0 h1 h2 h3
    have h0 : DataW.trod enc Try.prog W base spare held m 9 [v0] = some y0 := h0
    have h1 : DataW.trod enc Try.prog W base spare held m 22 [v1] = some y1 := h1
    have h2 : DataW.trod enc Try.prog W base spare held m 23 [v2] = some y2 := h2
    have h3 : DataW.trod enc Try.prog W base spare held m 24 [v3] = some y3 := h3
    obtain ⟨s, e0, _, _⟩ := DataW.trod_string Try.underlying9 h0
    obtain rfl : v0 = .string s := by simpa using e0
    obtain ⟨l1, e1, i1, r1⟩ := open_strsT Try.underlying22 Try.underlying9 c9 h1
    obtain ⟨rows, a1, i2, r2, hr⟩ := open_rowsT Try.underlying23 Try.underlying38 Try.underlying3 c38 c3 h2
    obtain ⟨l3, w1, i3, r3⟩ := open_boolsT Try.underlying24 Try.underlying4 c4 h3
    have hch : ∀ i : Nat, ∃ l : List Int, i < rows.length → IsSl (ints l) (rows.getD i .nils) := fun i => by
      by_cases hi : i < rows.length
      · obtain ⟨l, hl⟩ := hr _ (getD_mem .nils hi)
        exact ⟨l, fun _ => hl⟩
      · exact ⟨[], fun h => absurd h hi⟩
    let L : Nat → List Int := fun i => Classical.choose (hch i)
    have hL : ∀ i, i < rows.length → IsSl (ints (L i)) (rows.getD i .nils) := fun i hi => Classical.choose_spec (hch i) hi
    refine ⟨⟨s.data.toList, l1, (List.range rows.length).map L, l3⟩, s.data.toList, e1, a1, w1, ⟨rfl, i1, ⟨rows, i2, by simp, fun i hi => ?_⟩, i3⟩, ?_⟩
    · have hi2 : i < rows.length := by simpa using hi
      have e : ((List.range rows.length).map L).getD i [] = L i := by
        rw [List.getD_eq_getElem?_getD, List.getElem?_map, List.getElem?_range hi2]
        rfl
      show IsSl (ints (((List.range rows.length).map L).getD i [])) _
      rw [e]
      exact hL i hi2
    · refine .agg _ _ rfl fun i x v hx hv => ?_
      match i with
      | 0 => simp at hx hv; subst hx hv; exact .str _ _ rfl
      | 1 => simp at hx hv; subst hx hv; exact r1
      | 2 => simp at hx hv; subst hx hv; exact r2
      | 3 => simp at hx hv; subst hx hv; exact r3
      | i + 4 => simp at hx
theorem own : ownKnob Try.prog.godebug = none := by kernel_rfl
theorem laidOut : laidOutB Try.prog = true := by kernel_rfl
end Go.Proofs.Try
namespace Go.Proofs.Try
end Go.Proofs.Try


/- OrderHigh: joins one after the other; steps by rounds. -/
open Go Go.Apex Go.StepsTo Go.Lat
namespace Go.Proofs.Try
theorem wrap_sm {a : Int} (h1 : 0 ≤ a) (h2 : a < 1000000) : IntKind.wrap .i64 a = a := by
  have := iAdd_i64 (a := a) (b := 0) (by omega) (by omega)
  unfold iAdd at this
  simpa using this
theorem iOp_rem {b n : Nat} (hb : b < 256) (hn : 1 ≤ n) : iOp BinOp.rem IntKind.i64 (iWrap IntKind.i64 (b : Int)) IntKind.i64 (n : Int) = some ((b % n : Nat) : Int) := by
  unfold iOp iWrap
  rw [wrap_sm (by omega) (by omega)]
  have h0 : ¬ ((n : Int) = 0) := by omega
  have e : Int.tmod (b : Int) (n : Int) = ((b % n : Nat) : Int) := rfl
  simp only [Go.binOp, ne_eq, not_true_eq_false, if_false, Op.intDiv, if_neg h0, e]
  rfl
theorem deref_u8 (n : Int) : derefT none (.ptr (.int .u8 n)) = some (.int .u8 n) := rfl
theorem zerosV_nats (n : Nat) : zerosV (n : Int) (.int .i64 0) = cellsT (natsT (List.replicate n 0)) := by
  unfold zerosV zeros
  rw [Int.toNat_natCast]
  induction n with
  | zero => rfl
  | succ n ih => simp only [List.replicate_succ, List.flatten_cons, ih, List.map_cons]; rfl
theorem nat_cell {S : List Nat} {a : Nat} (ha : a < S.length) : rowS none (cellsT (natsT S)) (rowOff 0 (a : Int) 1) = some (.int .i64 (at0 S a : Int)) := by
  rw [rowOff_1, Nat.zero_add]
  refine rowS_cells ?_
  unfold at0
  rw [List.getElem?_map, List.getElem?_eq_getElem ha, List.getD_eq_getElem?_getD, List.getElem?_eq_getElem ha]
  rfl
theorem nat_set {S : List Nat} {a v : Nat} (ha : a < S.length) : rowSet (cellsT (natsT S)) (rowOff 0 (a : Int) 1) [V.t (T.int .i64 (v : Int))] = cellsT (natsT (S.set a v)) ∧ rowSetOK (cellsT (natsT S)) (rowOff 0 (a : Int) 1) [V.t (T.int .i64 (v : Int))].length = true := by
  rw [rowOff_1]
  refine ⟨?_, rowSetOK_lt (by rw [List.length_map]; exact ha)⟩
  rw [Nat.zero_add, rowSet_cells (by rw [List.length_map]; exact ha), natsT, natsT, List.map_set]
section
variable {t : Tbl} {n : List UInt8} {e a w : T} (h : IsTbl t n e a w) (R : Rt t)
include R
include h
end
end Go.Proofs.Try


/- A row in another order: what is collected; orders that are permutations. -/
open Go Go.Apex Go.StepsTo Go.Lat
namespace Go.Proofs.Try
def hitB (D q : List Nat) (c k : Nat) : Bool := decide (at0 q (D.getD k 0) = c)
def hits (m : Nat) (hit : Nat → Nat → Bool) (c k : Nat) : List Nat := ((upto k m).filter (hit c)).map fun _ => c
def rowLh (N m : Nat) (hit : Nat → Nat → Bool) (c : Nat) : List Nat := (upto c N).flatMap fun c => hits m hit c 0
def rowL (N : Nat) (D q : List Nat) (c : Nat) : List Nat := rowLh N D.length (hitB D q) c
theorem hits_step {m : Nat} {hit : Nat → Nat → Bool} {c k : Nat} (hk : k < m) : hits m hit c k = if hit c k = true then c :: hits m hit c (k + 1) else hits m hit c (k + 1) := by
  unfold hits
  rw [upto_step hk, List.filter_cons]
  split <;> rfl
theorem hits_end (m : Nat) (hit : Nat → Nat → Bool) (c : Nat) : hits m hit c m = [] := by unfold hits; rw [upto_end (Nat.le_refl _)]; rfl
theorem rowLh_step {N m : Nat} {hit : Nat → Nat → Bool} {c : Nat} (hc : c < N) : rowLh N m hit c = hits m hit c 0 ++ rowLh N m hit (c + 1) := by unfold rowLh; rw [upto_step hc]; rfl
theorem rowLh_end (N m : Nat) (hit : Nat → Nat → Bool) : rowLh N m hit N = [] := by unfold rowLh; rw [upto_end (Nat.le_refl _)]; rfl
/-- A loop in a loop that collects what is hit. -/
theorem turnRow {N m : Nat} {hit : Nat → Nat → Bool} {N9 : Nat → Option T} {N10 : Nat → Nat → Option T} {RA RB : List Nat → Nat → Nat → Nat → Option T} {R14 : List Nat → Nat → Nat → Option T} {Knil : Option T} {Krow : List Nat → Option T} {r : T}
    (hN : N ≤ 12) (hm : m ≤ 20)
    (a1 : Knil = some r → N9 N = some r) (a2 : ∀ c, c < N → N10 c 0 = some r → N9 c = some r)
    (a3 : ∀ c, c < N → N9 (c + 1) = some r → N10 c m = some r)
    (a4 : ∀ c k, c < N → k < m → hit c k = false → N10 c (k + 1) = some r → N10 c k = some r)
    (a5 : ∀ c k, c < N → k < m → hit c k = true → RA [c] 1 c (k + 1) = some r → N10 c k = some r)
    (b1 : ∀ acc g c, c < N → R14 acc g (c + 1) = some r → RA acc g c m = some r)
    (b2 : ∀ acc g c k, c < N → k < m → hit c k = false → RA acc g c (k + 1) = some r → RA acc g c k = some r)
    (b3 : ∀ acc g c k, c < N → k < m → hit c k = true → acc.length ≤ 1000 → RA (acc ++ [c]) (g + 1) c (k + 1) = some r → RA acc g c k = some r)
    (c1 : ∀ acc g c, c < N → R14 acc g (c + 1) = some r → RB acc g c m = some r)
    (c2 : ∀ acc g c k, c < N → k < m → hit c k = false → RB acc g c (k + 1) = some r → RB acc g c k = some r)
    (c3 : ∀ acc g c k, c < N → k < m → hit c k = true → acc.length ≤ 1000 → RB (acc ++ [c]) (g + 1) c (k + 1) = some r → RB acc g c k = some r)
    (d1 : ∀ acc g c, c < N → RB acc g c 0 = some r → R14 acc g c = some r) (d2 : ∀ acc g, Krow acc = some r → R14 acc g N = some r)
    (hn : rowLh N m hit 0 = [] → Knil = some r) (hr : ∀ ts, ts = rowLh N m hit 0 → ts ≠ [] → Krow ts = some r) : N9 0 = some r := by
  have rb : ∀ (R : List Nat → Nat → Nat → Nat → Option T) (_ : ∀ acc g c, c < N → R14 acc g (c + 1) = some r → R acc g c m = some r)
      (_ : ∀ acc g c k, c < N → k < m → hit c k = false → R acc g c (k + 1) = some r → R acc g c k = some r)
      (_ : ∀ acc g c k, c < N → k < m → hit c k = true → acc.length ≤ 1000 → R (acc ++ [c]) (g + 1) c (k + 1) = some r → R acc g c k = some r)
      (c : Nat), c < N → ∀ k, k ≤ m → ∀ acc g, acc.length ≤ c * 20 + k → (∀ g', R14 (acc ++ hits m hit c k) g' (c + 1) = some r) → R acc g c k = some r := by
    intro R r1 r2 r3 c hc
    refine upto_induct ?_ fun k hk ih => ?_
    · intro acc g _ h
      rw [hits_end, List.append_nil] at h
      exact r1 acc g c hc (h g)
    · intro acc g hal h
      rw [hits_step hk] at h
      cases hh : hit c k with
      | false =>
        rw [hh] at h
        exact r2 acc g c k hc hk hh (ih acc g (by omega) (by simpa using h))
      | true =>
        rw [hh] at h
        have := Nat.mul_le_mul_right 20 (show c ≤ 11 by omega)
        exact r3 acc g c k hc hk hh (by omega) (ih (acc ++ [c]) (g + 1) (by rw [List.length_append]; simp only [List.length_cons, List.length_nil]; omega) (by simpa using h))
  have r14 : ∀ c, c ≤ N → ∀ acc g, acc.length ≤ c * 20 → Krow (acc ++ rowLh N m hit c) = some r → R14 acc g c = some r := by
    refine upto_induct ?_ fun c hc ih => ?_
    · intro acc g _ h
      rw [rowLh_end, List.append_nil] at h
      exact d2 acc g h
    · intro acc g hal h
      rw [rowLh_step hc, ← List.append_assoc] at h
      have hlen : (hits m hit c 0).length ≤ 20 := by
        unfold hits
        rw [List.length_map]
        refine Nat.le_trans (List.length_filter_le _ _) ?_
        simp [upto]; omega
      refine d1 acc g c hc (rb RB c1 c2 c3 c hc 0 (by omega) acc g (by omega) fun g' => ?_)
      exact ih _ g' (by rw [List.length_append]; omega) h
  have n10 : ∀ c, c < N → ((∀ (_ : Krow (rowLh N m hit c) = some r ∨ (rowLh N m hit c = [] ∧ Knil = some r)), True)) → ∀ k, k ≤ m → (hits m hit c k = [] → N9 (c + 1) = some r) → (hits m hit c k ≠ [] → ∀ g', R14 (hits m hit c k) g' (c + 1) = some r) → N10 c k = some r := by
    intro c hc _
    refine upto_induct ?_ fun k hk ih => ?_
    · intro h1 _
      exact a3 c hc (h1 (hits_end m hit c))
    · intro h1 h2
      rw [hits_step hk] at h1 h2
      cases hh : hit c k with
      | false =>
        rw [hh] at h1 h2
        exact a4 c k hc hk hh (ih (by simpa using h1) (by simpa using h2))
      | true =>
        rw [hh] at h2
        exact a5 c k hc hk hh (rb RA b1 b2 b3 c hc (k + 1) (by omega) [c] 1 (by simp only [List.length_cons, List.length_nil]; omega) fun g' => by simpa using h2 (by simp) g')
  have main : ∀ c, c ≤ N → (rowLh N m hit c = [] → Knil = some r) → (rowLh N m hit c ≠ [] → Krow (rowLh N m hit c) = some r) → N9 c = some r := by
    refine upto_induct ?_ fun c hc ih => ?_
    · intro h1 _
      exact a1 (h1 (rowLh_end N m hit))
    · intro h1 h2
      rw [rowLh_step hc] at h1 h2
      refine a2 c hc (n10 c hc (fun _ => trivial) 0 (by omega) (fun h0 => ?_) fun h0 g' => ?_)
      · rw [h0] at h1 h2
        exact ih h1 h2
      · have hlen : (hits m hit c 0).length ≤ 20 := by
          unfold hits
          rw [List.length_map]
          refine Nat.le_trans (List.length_filter_le _ _) ?_
          simp [upto]; omega
        exact r14 (c + 1) (by omega) _ g' (by omega) (h2 (by simp [h0]))
  exact main 0 (by omega) hn fun h0 => hr _ rfl h0
/-! Permutations. -/
theorem upto_range (n : Nat) : upto 0 n = List.range n := by unfold upto; rw [List.range_eq_range']; rfl
section
variable {p : List Nat} {n : Nat} (P : p.Perm (List.range n))
include P
theorem perm_len : p.length = n := by rw [P.length_eq, List.length_range]
theorem perm_lt : ∀ i, i < n → at0 p i < n := fun i hi => by
  have : at0 p i ∈ p := getD_mem 0 (by rw [perm_len P]; exact hi)
  exact List.mem_range.1 (P.mem_iff.1 this)
theorem perm_inj {i j : Nat} (hi : i < n) (hj : j < n) (he : at0 p i = at0 p j) : i = j := by
  have hnd : p.Nodup := P.nodup_iff.2 List.nodup_range
  have hl := perm_len P
  unfold at0 at he
  simp only [List.getD_eq_getElem?_getD, List.getElem?_eq_getElem (show i < p.length by omega), List.getElem?_eq_getElem (show j < p.length by omega), Option.getD_some] at he
  rcases Nat.lt_trichotomy i j with h | h | h
  · exact absurd he (List.pairwise_iff_getElem.1 hnd i j (by omega) (by omega) h)
  · exact h
  · exact absurd he.symm (List.pairwise_iff_getElem.1 hnd j i (by omega) (by omega) h)
theorem perm_sur {a : Nat} (ha : a < n) : ∃ i, i < n ∧ at0 p i = a := by
  have : a ∈ p := P.mem_iff.2 (List.mem_range.2 ha)
  obtain ⟨i, hi, he⟩ := mem_getD (d := 0) this
  exact ⟨i, by rw [← perm_len P]; exact hi, he⟩
theorem swap_perm {i j : Nat} (hi : i < n) (hj : j < n) : ((p.set i (at0 p j)).set j (at0 p i)).Perm (List.range n) := by
  have hl := perm_len P
  have e1 : at0 p j = p[j]'(by omega) := by unfold at0; rw [List.getD_eq_getElem?_getD, List.getElem?_eq_getElem (by omega)]; rfl
  have e2 : at0 p i = p[i]'(by omega) := by unfold at0; rw [List.getD_eq_getElem?_getD, List.getElem?_eq_getElem (by omega)]; rfl
  rw [e1, e2]
  exact (List.set_set_perm (by omega) (by omega)).trans P
end
theorem iOp_rem2 {b n : Nat} (hn : 1 ≤ n) : iOp BinOp.rem IntKind.i64 (b : Int) IntKind.i64 (n : Int) = some ((b % n : Nat) : Int) := by
  unfold iOp
  have h0 : ¬ ((n : Int) = 0) := by omega
  have e : Int.tmod (b : Int) (n : Int) = ((b % n : Nat) : Int) := rfl
  simp only [Go.binOp, ne_eq, not_true_eq_false, if_false, Op.intDiv, if_neg h0, e]
  rfl
def elemsU (t : Tbl) (p : List Nat) (i : Nat) : List (List UInt8) := (upto 0 i).map fun k => t.elems.getD (at0 p k) []
def wrongU (t : Tbl) (p : List Nat) (i : Nat) : List Bool := (upto 0 i).map fun k => t.wrong.getD (at0 p k) false
theorem elemsU_len (t : Tbl) (p : List Nat) (i : Nat) : (elemsU t p i).length = i := by simp [elemsU, upto]
theorem wrongU_len (t : Tbl) (p : List Nat) (i : Nat) : (wrongU t p i).length = i := by simp [wrongU, upto]
theorem elemsU_snoc (t : Tbl) (p : List Nat) (i : Nat) : elemsU t p (i + 1) = elemsU t p i ++ [t.elems.getD (at0 p i) []] := by simp [elemsU, upto_snoc]
theorem wrongU_snoc (t : Tbl) (p : List Nat) (i : Nat) : wrongU t p (i + 1) = wrongU t p i ++ [t.wrong.getD (at0 p i) false] := by simp [wrongU, upto_snoc]
/-- The rows of what is above, so far. -/
structure CollU (t : Tbl) (p q : List Nat) (k : Nat) (xs : List T) : Prop where
  len : xs.length = k
  is : ∀ i, i < k → IsSl (natsT (rowL t.elems.length (adjN t (at0 p i)) q 0)) (xs.getD i .nils)
theorem CollU.one {t : Tbl} {p q : List Nat} {k : Nat} {xs : List T} (C : CollU t p q k xs) : OneL xs := fun x hx => by
  obtain ⟨i, hi, he⟩ := mem_getD (d := .nils) hx
  rw [← he]
  exact (C.is i (by rw [← C.len]; exact hi)).one
theorem CollU.snoc {t : Tbl} {p q : List Nat} {k : Nat} {xs : List T} (C : CollU t p q k xs) {x : T} (hx : IsSl (natsT (rowL t.elems.length (adjN t (at0 p k)) q 0)) x) : CollU t p q (k + 1) (xs ++ [x]) := by
  refine ⟨by rw [List.length_append, C.len]; rfl, fun i hi => ?_⟩
  by_cases e : i < k
  · have : (xs ++ [x]).getD i .nils = xs.getD i .nils := by
      rw [List.getD_eq_getElem?_getD, List.getElem?_append_left (by rw [C.len]; exact e), List.getD_eq_getElem?_getD]
    rw [this]
    exact C.is i e
  · have : i = k := by omega
    subst this
    have : (xs ++ [x]).getD i .nils = x := by
      rw [List.getD_eq_getElem?_getD, List.getElem?_append_right (by rw [C.len]; exact Nat.le_refl _), C.len, Nat.sub_self]
      rfl
    rw [this]
    exact hx
theorem CollU.zero (t : Tbl) (p q : List Nat) : CollU t p q 0 [] := ⟨rfl, fun i hi => by omega⟩
theorem CollU.next {t : Tbl} {p q : List Nat} {i : Nat} {xs : List T} (C : CollU t p q i xs) (_ : i < t.elems.length) : ∃ xn, CollU t p q (i + 1) xn ∧ ((rowL t.elems.length (adjN t (at0 p i)) q 0 = [] ∧ xn = xs ++ [T.nils]) ∨ (rowL t.elems.length (adjN t (at0 p i)) q 0 ≠ [] ∧ xn = xs ++ [.sl false 1 (natsT (rowL t.elems.length (adjN t (at0 p i)) q 0))])) := by
  by_cases h0 : rowL t.elems.length (adjN t (at0 p i)) q 0 = []
  · exact ⟨_, C.snoc (.nil (by rw [h0]; rfl)), .inl ⟨h0, rfl⟩⟩
  · exact ⟨_, C.snoc (.sl false), .inr ⟨h0, rfl⟩⟩
def resU (t : Tbl) (n : List UInt8) (p q : List Nat) (xs : List T) : T :=
  .tup [.agg [.str n, .sl false 1 ((elemsU t p t.elems.length).map .str), .sl false 1 xs, .sl false 1 (boolsT (wrongU t p t.elems.length))], .sl false 1 (natsT q)]
end Go.Proofs.Try

