import Derived.Test.YtcljaeknhmpecaaGreatApexA2
import Derived.Test.YtcljaeknhmpecaaGreatApexA1
set_option linter.all false
namespace Go.Apex
open Go Go.RowKit
variable [Globs]
structure CfgTI (cfg : Cfg) (P : Program) : Prop where
 ti : ∀ t i, cfg.ti t = some i -> tiOf P t = some i
theorem tiOf_spec {P : Program} {t : TypeId} {i : TI} (h : tiOf P t = some i) :
  ∃ info u, P.info? t = some info /\ P.underlying t = some u /\ i.size = info.size /\ i.bytes = info.bytes /\ i.agg = aggOf u /\ i.zero = info.zero.bind ofValue /\ i.d = dOf u ∧
   i.eqok = (!P.eqGuardType P.depth t && !P.stoodInHeld t) := by
 simp only [tiOf, oB] at h
 obtain ⟨info, h1, u, h2, h3⟩ := h
 split at h3
 . simp only [oI] at h3
   subst h3
   exact ⟨info, u, h1, h2, rfl, rfl, rfl, rfl, rfl, rfl⟩
 . cases h3
theorem tiOf_one {P : Program} {t : TypeId} {i : TI} (h : tiOf P t = some i) (ha : i.agg = false) : i.size = 1 := by
 simp only [tiOf, oB] at h
 obtain ⟨info, h1, u, h2, h3⟩ := h
 split at h3
 . rename_i hc
   simp only [oI] at h3
   subst h3
   simp only at ha
   simpa [ha] using hc
 . cases h3
def evalA (a : Array Value) : Operand -> Value
 | .tmp t => a.getD t undef
 | .const v => v
 | .global g => .pointer (some ⟨g, 0, none⟩)
 | .func f => .func (.func f) #[] #[]
theorem ofCell_rep {w : World} {S : Nat -> Prop} {v : Value} {x : T} (h : ofCell v = some x) : RepT w S x v := by
 unfold ofCell at h
 split at h <;> cases h
 . exact .bool _
 . exact .int _ _
 . exact .str _ _ rfl
 . exact .nilp
 . exact .nils
 . exact .nilm
 . exact .nilf
 . exact .nili
theorem mapO_spec {α β : Type} {g : α -> Option β} : ∀ {l : List α} {r : List β}, mapO g l = some r -> r.length = l.length /\ ∀ (i : Nat) (b : β), r[i]? = some b -> ∃ a, l[i]? = some a /\ g a = some b
 | [], r, h => by cases h; exact ⟨rfl, fun i b hb => by simp at hb⟩
 | a :: l, r, h => by
  simp only [mapO, oB, oI] at h
  obtain ⟨b, hb, bs, hbs, rfl⟩ := h
  obtain ⟨h1, h2⟩ := mapO_spec hbs
  refine ⟨by simp [h1], fun i b' hi => ?_⟩
  cases i with
  | zero => simp at hi; subst hi; exact ⟨a, rfl, hb⟩
  | succ i => simp at hi; obtain ⟨a', h3, h4⟩ := h2 i b' hi; exact ⟨a', by simpa using h3, h4⟩
theorem ofValue_rep {w : World} {S : Nat -> Prop} {v : Value} {x : T} (h : ofValue v = some x) : RepT w S x v := by
 unfold ofValue at h
 split at h
 . rename_i cs
   simp only [oM] at h
   obtain ⟨xs, h1, rfl⟩ := h
   obtain ⟨h2, h3⟩ := mapO_spec h1
   refine .agg _ _ (by simpa using h2) fun i x v hx hv => ?_
   obtain ⟨a, h4, h5⟩ := h3 i x hx
   have : a = v := by simp at h4; rw [h4] at hv; simpa using hv
   subst this
   exact ofCell_rep h5
 . rename_i vs
   split at h
   . rename_i h0
     cases h
     refine .tup _ _ (by simpa using h0.symm) fun i x v hx => by simp at hx
   . cases h
 . exact ofCell_rep h
theorem ev_rep {w : World} {S : Nat -> Prop} {M : MM} {ts : Ts} {a : Array Value} (ht : RepTs w S M ts a) {o : Operand} {v : V} (h : ev ts o = some v) : RepV w S M v (evalA a o) := by
 cases o with
 | tmp t =>
  obtain ⟨c, hc, hr⟩ := ht.get h
  have : evalA a (.tmp t) = c := by simp [evalA, Array.getD_eq_getD_getElem?, hc]
  rw [this]; exact hr
 | const v' =>
  simp only [ev, oM] at h
  obtain ⟨x, hx, rfl⟩ := h
  exact .t _ _ (ofValue_rep hx)
 | global g => cases h
 | func f =>
  simp only [ev, oI] at h
  subst h
  exact .t _ _ (.fn _ _ _ _ _ rfl rfl (fun i x v hx => by simp at hx) (fun i x v hx => by simp at hx))
theorem addr_add (b o j : Nat) : (⟨b, o, none⟩ : Addr).add j = ⟨b, o + j, none⟩ := by unfold Addr.add; split <;> simp_all
def RepVL (w : World) (S : Nat -> Prop) (M : MM) (vs : List V) (a : List Value) : Prop :=
 vs.length = a.length /\ ∀ (i : Nat) (x : V) (v : Value), vs[i]? = some x -> a[i]? = some v -> RepV w S M x v
theorem RepVL.nil {w : World} {S : Nat -> Prop} {M : MM} : RepVL w S M [] [] := ⟨rfl, fun i x v h => by simp at h⟩
theorem RepVL.cons {w : World} {S : Nat -> Prop} {M : MM} {x : V} {v : Value} {vs : List V} {a : List Value} (h : RepV w S M x v) (r : RepVL w S M vs a) : RepVL w S M (x :: vs) (v :: a) := by
 refine ⟨by simp [r.1], fun i y u h1 h2 => ?_⟩
 cases i with
 | zero => simp at h1 h2; subst h1 h2; exact h
 | succ i => simp at h1 h2; exact r.2 i y u h1 h2
theorem RepVL.tail {w : World} {S : Nat -> Prop} {M : MM} {x : V} {v : Value} {vs : List V} {a : List Value} (r : RepVL w S M (x :: vs) (v :: a)) : RepV w S M x v /\ RepVL w S M vs a :=
 ⟨r.2 0 x v rfl rfl, by have := r.1; simpa using this, fun i y u h1 h2 => r.2 (i + 1) y u (by simpa using h1) (by simpa using h2)⟩
theorem RepVL.mono {w w' : World} {S S' : Nat -> Prop} {M M' : MM} {vs : List V} {a : List Value} (hS : ∀ b, S b -> S' b /\ w'.heap[b]? = w.heap[b]?)
  (hM : ∀ id m, M id = some m -> ∃ m', M' id = some m' /\ (m' = m \/ (m.gen < m'.gen /\ m.ext <= m.tot))) (h : RepVL w S M vs a) : RepVL w' S' M' vs a :=
 ⟨h.1, fun i x v h1 h2 => (h.2 i x v h1 h2).mono hS hM⟩
theorem RepVL.append {w : World} {S : Nat -> Prop} {M : MM} {vs us : List V} {a b : List Value} (h : RepVL w S M vs a) (k : RepVL w S M us b) : RepVL w S M (vs ++ us) (a ++ b) := by
 refine ⟨by simp [h.1, k.1], fun i x v h1 h2 => ?_⟩
 rcases Nat.lt_or_ge i vs.length with hi | hi
 . rw [List.getElem?_append_left hi] at h1
   rw [List.getElem?_append_left (by rw [<- h.1]; exact hi)] at h2
   exact h.2 i x v h1 h2
 . rw [List.getElem?_append_right hi] at h1
   rw [List.getElem?_append_right (by rw [<- h.1]; exact hi)] at h2
   exact k.2 (i - vs.length) x v h1 (by rw [h.1]; exact h2)
theorem RepVL.take {w : World} {S : Nat -> Prop} {M : MM} {vs : List V} {a : List Value} (h : RepVL w S M vs a) (n : Nat) : RepVL w S M (vs.take n) (a.take n) := by
 refine ⟨by simp [h.1], fun i x v h1 h2 => ?_⟩
 rw [List.getElem?_take] at h1 h2
 split at h1
 . rename_i hi; rw [if_pos hi] at h2; exact h.2 i x v h1 h2
 . cases h1
theorem RepVL.drop {w : World} {S : Nat -> Prop} {M : MM} {vs : List V} {a : List Value} (h : RepVL w S M vs a) (n : Nat) : RepVL w S M (vs.drop n) (a.drop n) := by
 refine ⟨by simp [h.1], fun i x v h1 h2 => ?_⟩
 rw [List.getElem?_drop] at h1 h2
 exact h.2 (n + i) x v h1 h2
theorem RepVL.of_get {w : World} {S : Nat -> Prop} {M : MM} {vs : List V} {a : List Value} (h : ∀ (i : Nat) (x : V), vs[i]? = some x -> ∃ v, a[i]? = some v /\ RepV w S M x v) (hl : vs.length = a.length) : RepVL w S M vs a :=
 ⟨hl, fun i x v h1 h2 => by obtain ⟨u, h3, h4⟩ := h i x h1; rw [h2] at h3; cases h3; exact h4⟩
theorem RepVL.get {w : World} {S : Nat -> Prop} {M : MM} {vs : List V} {a : List Value} (h : RepVL w S M vs a) {i : Nat} {x : V} (hi : vs[i]? = some x) : ∃ v, a[i]? = some v /\ RepV w S M x v := by
 have hlt : i < a.length := by rw [<- h.1]; exact (gS.1 hi).1
 exact ⟨a[i], by simp [hlt], h.2 i x _ hi (by simp [hlt])⟩
theorem toT_t {v : V} {x : T} (h : toT v = some x) : v = .t x := by cases v <;> simp [toT] at h; subst h; rfl
theorem allT_spec {vs : List V} {xs : List T} (h : allT vs = some xs) : vs = xs.map .t := by
 obtain ⟨h1, h2⟩ := mapO_spec h
 apply List.ext_getElem?
 intro i
 rcases Nat.lt_or_ge i xs.length with hi | hi
 . obtain ⟨v, h3, h4⟩ := h2 i xs[i] (by simp [hi])
   rw [h3, toT_t h4]
   simp [hi]
 . rw [List.getElem?_eq_none (by omega), List.getElem?_eq_none (by simpa using hi)]
theorem repV_t {w : World} {S : Nat -> Prop} {M : MM} {x : T} {v : Value} (h : RepV w S M (.t x) v) : RepT w S x v := by cases h; assumption
theorem mkAgg_rep {w : World} {S : Nat -> Prop} {M : MM} {vs : List V} {a : List Value} (h : RepVL w S M vs a) : RepV w S M (mkAgg vs) (.agg a.toArray) := by
 unfold mkAgg
 split
 . rename_i xs hx
   have := allT_spec hx
   subst this
   refine .t _ _ (.agg _ _ (by have := h.1; simpa using this) fun i x v h1 h2 => repV_t (h.2 i (.t x) v (by simp [h1]) (by simpa using h2)))
 . exact .agg _ _ (by simpa using h.1) fun i x v h1 h2 => h.2 i x v h1 (by simpa using h2)
theorem mkTup_rep {w : World} {S : Nat -> Prop} {M : MM} {vs : List V} {a : List Value} (h : RepVL w S M vs a) : RepV w S M (mkTup vs) (.tuple a.toArray) := by
 unfold mkTup
 split
 . rename_i xs hx
   have := allT_spec hx
   subst this
   refine .t _ _ (.tup _ _ (by have := h.1; simpa using this) fun i x v h1 h2 => repV_t (h.2 i (.t x) v (by simp [h1]) (by simpa using h2)))
 . exact .tup _ _ (by simpa using h.1) fun i x v h1 h2 => h.2 i x v h1 (by simpa using h2)
theorem repVL_t {w : World} {S : Nat -> Prop} {M : MM} {xs : List T} {a : List Value} (h : RepVL w S M (xs.map .t) a) : xs.length = a.length /\ ∀ (i : Nat) (x : T) (v : Value), xs[i]? = some x -> a[i]? = some v -> RepT w S x v :=
 ⟨by have := h.1; simpa using this, fun i x v h1 h2 => repV_t (h.2 i (.t x) v (by simp [h1]) h2)⟩
theorem repVL_of_t {w : World} {S : Nat -> Prop} {M : MM} {xs : List T} {a : List Value} (hl : xs.length = a.length) (h : ∀ (i : Nat) (x : T) (v : Value), xs[i]? = some x -> a[i]? = some v -> RepT w S x v) : RepVL w S M (xs.map .t) a := by
 refine ⟨by simpa using hl, fun i x v h1 h2 => ?_⟩
 rw [List.getElem?_map, oM] at h1
 obtain ⟨y, h3, rfl⟩ := h1
 exact .t _ _ (h i y v h3 h2)
theorem mkFn_rep {w : World} {S : Nat -> Prop} {M : MM} {f : Fn} {a b : List V} {a' b' : List Value} (ha : RepVL w S M a a') (hb : RepVL w S M b b') : RepV w S M (mkFn f a b) (.func f a'.toArray b'.toArray) := by
 unfold mkFn
 split
 . rename_i xs ys hx hy
   have := allT_spec hx; subst this
   have := allT_spec hy; subst this
   obtain ⟨h1, h2⟩ := repVL_t ha
   obtain ⟨h3, h4⟩ := repVL_t hb
   exact .t _ _ (.fn _ _ _ _ _ (by simpa using h1) (by simpa using h3) (fun i x v p q => h2 i x v p (by simpa using q)) (fun i x v p q => h4 i x v p (by simpa using q)))
 . exact .fn _ _ _ _ _ (by simpa using ha.1) (by simpa using hb.1) (fun i x v p q => ha.2 i x v p (by simpa using q)) (fun i x v p q => hb.2 i x v p (by simpa using q))
theorem mkIface_rep {w : World} {S : Nat -> Prop} {M : MM} {t : TypeId} {x : V} {v : Value} (h : RepV w S M x v) : RepV w S M (mkIface t x) (.iface t v) := by
 unfold mkIface
 split
 . exact .t _ _ (.iface _ _ _ (repV_t h))
 . exact .iface _ _ _ h
theorem repT_cells {w : World} {S : Nat -> Prop} {x : T} {v : Value} (h : RepT w S x v) : x.cells.length = v.cells.size /\ ∀ (i : Nat) (c : T) (u : Value), x.cells[i]? = some c -> v.cells[i]? = some u -> RepT w S c u := by
 have one : ∀ {x : T} {v : Value}, RepT w S x v -> x.cells = [x] -> v.cells = #[v] -> x.cells.length = v.cells.size /\ ∀ (i : Nat) (c : T) (u : Value), x.cells[i]? = some c -> v.cells[i]? = some u -> RepT w S c u := by
  intro x v h e1 e2
  rw [e1, e2]
  refine ⟨rfl, fun i c u h1 h2 => ?_⟩
  cases i with
  | zero => simp at h1 h2; subst h1 h2; exact h
  | succ i => simp at h1
 cases h with
 | agg cs a hl hr => exact ⟨hl, hr⟩
 | bool b => exact one (.bool b) rfl rfl
 | int k n => exact one (.int k n) rfl rfl
 | str s v h => exact one (.str s v h) rfl rfl
 | nilp => exact one .nilp rfl rfl
 | ptr x b o g hc hr => exact one (.ptr x b o g hc hr) rfl rfl
 | nils => exact one .nils rfl rfl
 | sl ex sz xs b o cap g hl hx hz hc hr sp hsp => exact one (.sl ex sz xs b o cap g hl hx hz hc hr sp hsp) rfl rfl
 | nilm => exact one .nilm rfl rfl
 | mp ks vs b es clock hs hh hst hk hv hkr hvr => exact one (.mp ks vs b es clock hs hh hst hk hv hkr hvr) rfl rfl
 | nilf => exact one .nilf rfl rfl
 | fn f a b a' b' ha hb har hbr => exact one (.fn f a b a' b' ha hb har hbr) rfl rfl
 | nili => exact one .nili rfl rfl
 | iface t x v h => exact one (.iface t x v h) rfl rfl
 | tup cs a hl hr => exact one (.tup cs a hl hr) rfl rfl
theorem fits_junk {x : V} {sh : Option Nat} (h : x.fits sh = true) : x.isJunk = false := by
 cases x <;> first | rfl | (cases sh <;> simp [V.fits, V.one, V.isAgg] at h)
theorem isAgg_junk {x : V} (h : x.isAgg = true) : x.isJunk = false := by
 cases x <;> first | rfl | (simp [V.isAgg] at h)
theorem repV_cells {w : World} {S : Nat -> Prop} {M : MM} {x : V} {v : Value} (h : RepV w S M x v) (hj : x.isJunk = false) : RepVL w S M x.cells v.cells.toList := by
 have one : ∀ {x : V} {v : Value}, RepV w S M x v -> x.cells = [x] -> v.cells = #[v] -> RepVL w S M x.cells v.cells.toList := by
  intro x v h e1 e2
  rw [e1, e2]
  exact .cons h .nil
 cases h with
 | t x v h =>
  obtain ⟨h1, h2⟩ := repT_cells h
  have e : (V.t x).cells = x.cells.map .t := by cases x <;> rfl
  rw [e]
  exact repVL_of_t (by simpa using h1) fun i x u p q => h2 i x u p (by simpa using q)
 | ref id gen off sh b o m hm hg h => exact one (.ref id gen off sh b o m hm hg h) rfl rfl
 | msl id gen off len sh b o cap hl m hm hg h => exact one (.msl id gen off len sh b o cap hl m hm hg h) rfl rfl
 | mmp id b m hm h => exact one (.mmp id b m hm h) rfl rfl
 | it id cur b m hm hp h hc => exact one (.it id cur b m hm hp h hc) rfl rfl
 | yld id b m hm h => exact one (.yld id b m hm h) rfl rfl
 | agg cs a hl hr =>
  show RepVL w S M cs a.toList
  exact ⟨by simpa using hl, fun i x v h1 h2 => hr i x v h1 (by simpa using h2)⟩
 | tup cs a hl hr => exact one (.tup cs a hl hr) rfl rfl
 | fn f a b a' b' ha hb har hbr => exact one (.fn f a b a' b' ha hb har hbr) rfl rfl
 | iface t x v h => exact one (.iface t x v h) rfl rfl
 | junk v => cases hj
theorem repT_one {w : World} {S : Nat -> Prop} {x : T} {v : Value} (h : RepT w S x v) (h1 : x.one = true) : v.oneCell' = true /\ v.cells = #[v] := by
 cases h <;> first | exact ⟨rfl, rfl⟩ | (simp [T.one] at h1)
theorem repV_one {w : World} {S : Nat -> Prop} {M : MM} {x : V} {v : Value} (h : RepV w S M x v) (h1 : x.one = true) : v.oneCell' = true /\ v.cells = #[v] := by
 cases h <;> first | exact ⟨rfl, rfl⟩ | (exact repT_one (by assumption) h1) | (simp [V.one] at h1)
theorem repV_agg {w : World} {S : Nat -> Prop} {M : MM} {x : V} {v : Value} (h : RepV w S M x v) (h1 : x.isAgg = true) : v = .agg v.cells := by
 cases h with
 | t x v h => cases h <;> first | rfl | (simp [V.isAgg] at h1)
 | agg cs a hl hr => rfl
 | _ => simp [V.isAgg] at h1
theorem fits_cells {w : World} {S : Nat -> Prop} {M : MM} {x : V} {v : Value} {sh : Option Nat} (h : RepV w S M x v) (hf : x.fits sh = true) :
  x.cells.length = shSize sh /\ v.cells.size = shSize sh /\ (∀ u ∈ v.cells.toList, u.oneCell' = true) := by
 have hc := repV_cells h (fits_junk hf)
 cases sh with
 | none =>
  simp only [V.fits] at hf
  have h1 := repV_one h hf
  have e : x.cells = [x] := by
   cases x with
   | t y => cases y <;> first | rfl | (simp [V.one, T.one] at hf)
   | agg cs => simp [V.one] at hf
   | junk => simp [V.one] at hf
   | _ => rfl
  rw [e, h1.2]
  exact ⟨rfl, rfl, fun u hu => by simp at hu; subst hu; exact h1.1⟩
 | some n =>
  simp only [V.fits, Bool.and_eq_true, beq_iff_eq, List.all_eq_true] at hf
  have hl : v.cells.toList.length = n := by rw [<- hc.1]; exact hf.1.2
  refine ⟨hf.1.2, by show v.cells.size = n; simpa using hl, fun u hu => ?_⟩
  obtain ⟨i, hi⟩ := List.mem_iff_getElem?.1 hu
  have hlt : i < x.cells.length := by rw [hc.1]; exact (gS.1 hi).1
  exact (repV_one (hc.2 i x.cells[i] u (by simp [hlt]) hi) (hf.2 _ (List.getElem_mem hlt))).1
theorem T.fits_t {x : T} {sh : Option Nat} (h : x.fits sh = true) : (V.t x).fits sh = true := by
 cases sh with
 | none => exact h
 | some n =>
  simp only [T.fits, Bool.and_eq_true, beq_iff_eq, List.all_eq_true] at h
  cases x <;> simp [T.isAgg] at h
  rename_i cs
  simp only [V.fits, V.isAgg, V.cells, Bool.true_and, Bool.and_eq_true, beq_iff_eq, List.length_map, List.all_map, List.all_eq_true, Function.comp_apply, V.one]
  exact ⟨h.1, h.2⟩
omit [Globs] in
theorem str?_some {y : T} {n : List UInt8} (h : y.str? = some n) : y = .str n := by
 unfold T.str? at h
 split at h
 . cases h; rfl
 . cases h
end Go.Apex
