import Derived.Test.YtcljaeknhmpecaaGreatApexA24
import Derived.RangeFuncRecord
import Derived.RangeFuncNested
set_option linter.all false
namespace Go.Apex
open Go Go.RowKit
variable [Globs]
section
variable {cfg : Cfg} {P : Program} {B0 : Nat -> Prop} {n0 : Nat -> Prop} {w : World} {S : Nat -> Prop} {M : MM} {h : Heap} {ts : Ts} {slot : Nat}
def MarksOK (M : MM) : List Nat -> List Deferred -> Prop
 | [], [] => True
 | id :: r, d :: ds => (∃ b m, d = { target := .collected b, args := #[] } /\ M id = some m /\ (m.gen = 0 -> b = m.b)) /\ MarksOK M r ds
 | _, _ => False
theorem MarksOK.mono {M' : MM} (hM : ∀ id m, M id = some m -> ∃ m', M' id = some m' /\ (m' = m \/ (m.gen < m'.gen /\ m.ext <= m.tot))) : ∀ {l : List Nat} {ds : List Deferred}, MarksOK M l ds -> MarksOK M' l ds
 | [], [], _ => trivial
 | id :: r, d :: ds, ⟨⟨b, m, h1, h2, h3⟩, hr⟩ => by
  obtain ⟨m', h4, h5⟩ := hM id m h2
  refine ⟨⟨b, m', h1, h4, fun h => ?_⟩, hr.mono hM⟩
  rcases h5 with rfl | h5
  . exact h3 h
  . omega
 | [], _ :: _, h => h.elim
 | _ :: _, [], h => h.elim
def RoOK (M : MM) : Option Nat -> Option Nat -> Prop
 | none, none => True
 | some l, some b => ∃ m, M l = some m /\ (m.gen = 0 -> b = m.b)
 | _, _ => False
theorem RoOK.mono {M' : MM} (hM : ∀ id m, M id = some m -> ∃ m', M' id = some m' /\ (m' = m \/ (m.gen < m'.gen /\ m.ext <= m.tot))) : ∀ {rd ro : Option Nat}, RoOK M rd ro -> RoOK M' rd ro
 | none, none, _ => trivial
 | some l, some b, ⟨m, h2, h3⟩ => by
  obtain ⟨m', h4, h5⟩ := hM l m h2
  refine ⟨m', h4, fun h => ?_⟩
  rcases h5 with rfl | h5
  . exact h3 h
  . omega
 | none, some _, h => h.elim
 | some _, none, h => h.elim
def outOf : Out -> Exit
 | .norm => .normal
 | .ret => .ret
 | .exit id => .exit id
structure State (K : Code -> Prop) (B0 : Nat -> Prop) (rd ro : Option Nat) (w : World) (S : Nat -> Prop) (M : MM) (s : St) (a : Act) : Prop where
 k : HeapOK K s.h
 I : Inv B0 w S M s.h
 t : RepTs w S M s.ts a.tmps
 m : MarksOK M s.marks a.defers
 r : RoOK M rd ro
def Post (K : Code -> Prop) (B0 : Nat -> Prop) (rd ro : Option Nat) (n0 : Nat) (w : World) (S : Nat -> Prop) (M : MM) (o : Out) (s' : St) (e : Exit) (a' : Act) (w' : World) : Prop :=
 e = outOf o /\ ∃ S' M', State K B0 rd ro w' S' M' s' a' /\ Ext B0 (· < n0) w S M w' S' M'
theorem Post.trans {K : Code -> Prop} {rd ro : Option Nat} {n0 n1 : Nat} {w1 : World} {S1 : Nat -> Prop} {M1 : MM} {o : Out} {s' : St} {e : Exit} {a' : Act} {w' : World} (hE : Ext B0 (· < n0) w S M w1 S1 M1) (hn : n0 <= n1)
  (h : Post K B0 rd ro n1 w1 S1 M1 o s' e a' w') : Post K B0 rd ro n0 w S M o s' e a' w' := by
 obtain ⟨h1, S', M', h2, h3⟩ := h
 exact ⟨h1, S', M', h2, hE.trans h3 fun i hi => Nat.lt_of_lt_of_le hi hn⟩
theorem Tm.keepOnly_node {α : Type} (j : α) (v : Option α) (l r : Tm α) (p : Nat -> Bool) : (Tm.node v l r).keepOnly j p = .node (v.map fun x => cond (p 0) x j) (l.keepOnly j fun k => p (2 * k + 1)) (r.keepOnly j fun k => p (2 * k + 2)) := rfl
theorem Tm.get_keepOnly {α : Type} (j : α) : ∀ (t : Tm α) (p : Nat -> Bool) (n : Nat), (t.keepOnly j p).get n = (t.get n).map fun x => cond (p n) x j
 | .nil, _, _ => rfl
 | .node v l r, p, n => by
  rw [keepOnly_node]
  rcases index_cases n with rfl | ⟨k, rfl⟩ | ⟨k, rfl⟩
  . rfl
  . rw [get_odd, get_odd, get_keepOnly j l]
  . rw [get_even, get_even, get_keepOnly j r]
theorem Tm.all_node {α : Type} (p : α -> Bool) (v : Option α) (l r : Tm α) : (Tm.node v l r).all p = ((match v with | some x => p x | none => true) && (l.all p && r.all p)) := rfl
theorem Tm.all_get {α : Type} (p : α -> Bool) : ∀ (t : Tm α) (n : Nat) (x : α), t.all p = true -> t.get n = some x -> p x = true
 | .nil, _, _, _, h => by cases h
 | .node v l r, n, x, ha, h => by
  rw [all_node] at ha
  simp only [Bool.and_eq_true] at ha
  rcases index_cases n with rfl | ⟨k, rfl⟩ | ⟨k, rfl⟩
  . rw [get_zero] at h; subst h; exact ha.1
  . rw [get_odd] at h; exact all_get p l k x ha.2.1 h
  . rw [get_even] at h; exact all_get p r k x ha.2.2 h
theorem topOf_le : ∀ (ids : List Nat) (n : Nat), n <= topOf n ids /\ ∀ i ∈ ids, i < topOf n ids
 | [], n => ⟨Nat.le_refl _, fun _ h => by cases h⟩
 | j :: r, n => by
  obtain ⟨h1, h2⟩ := topOf_le r (cond (Nat.ble n j) (j + 1) n)
  have h3 : n <= cond (Nat.ble n j) (j + 1) n /\ j < cond (Nat.ble n j) (j + 1) n := by
   cases h : Nat.ble n j with
   | true => have := Nat.le_of_ble_eq_true h; simp only [cond_true]; omega
   | false =>
    have : ¬ n <= j := fun h' => by rw [Nat.ble_eq_true_of_le h'] at h; cases h
    simp only [cond_false]; omega
  refine ⟨Nat.le_trans h3.1 h1, fun i hi => ?_⟩
  rcases List.mem_cons.1 hi with rfl | hi
  . exact Nat.lt_of_lt_of_le h3.2 h1
  . exact h2 i hi
theorem gather_get (t : Tm Obj) (ok : Nat -> Bool) : ∀ (k n : Nat) (acc : Tm Obj) (i : Nat) (o : Obj), (gather t ok n k acc).get i = some o -> acc.get i = some o \/ (t.get i = some o /\ ok i = true)
 | 0, n, acc, i, o, h => .inl h
 | k + 1, n, acc, i, o, h => by
  rcases gather_get t ok k (n + 1) _ i o h with h1 | h1
  . cases hg : t.get n with
    | none => rw [hg] at h1; exact .inl h1
    | some p =>
     rw [hg] at h1
     simp only at h1
     cases hk : ok n with
     | false => rw [hk] at h1; exact .inl h1
     | true =>
      rw [hk] at h1
      simp only [cond_true] at h1
      rw [Tm.get_put] at h1
      split at h1
      . rename_i e
        subst e
        cases h1
        exact .inr ⟨hg, hk⟩
      . exact .inl h1
  . exact .inr h1
theorem allObjs_get (p : Obj -> Bool) (t : Tm Obj) : ∀ (k n i : Nat) (o : Obj), allObjs p t n k = true -> n <= i -> i < n + k -> t.get i = some o -> p o = true
 | 0, _, _, _, _, _, _, _ => by omega
 | k + 1, n, i, o, ha, h1, h2, h => by
  simp only [allObjs, Bool.and_eq_true] at ha
  by_cases e : i = n
  . subst e; rw [h] at ha; exact ha.1
  . exact allObjs_get p t k (n + 1) i o ha.2 (by omega) (by omega) h
theorem bdL_get {n : Nat} : ∀ {cs : List V}, V.bdL n cs = true -> ∀ (i : Nat) (x : V), cs[i]? = some x -> V.bd n x = true
 | [], _, _, _, h => by simp at h
 | c :: cs, hb, i, x, h => by
  simp only [V.bdL, Bool.and_eq_true] at hb
  cases i with
  | zero => simp at h; subst h; exact hb.1
  | succ i => exact bdL_get hb.2 i x (by simpa using h)
def MM.cut (M : MM) (n : Nat) : MM := fun id => if id < n then M id else none
theorem MM.cut_lt {M : MM} {n id : Nat} (h : id < n) : M.cut n id = M id := by simp [MM.cut, h]
theorem MM.cut_some {M : MM} {n id : Nat} {m : MI} (h : M.cut n id = some m) : id < n /\ M id = some m := by
 unfold MM.cut at h
 split at h
 . exact ⟨by assumption, h⟩
 . cases h
theorem RepV.cut {n : Nat} {x : V} {v : Value} (hb : x.bd n = true) (h : RepV w S M x v) : RepV w S (M.cut n) x v := by
 induction h with
 | t x v h => exact .t x v h
 | junk v => exact .junk v
 | ref id gen off sh b o m hm hg h =>
  simp only [V.bd] at hb
  have := Nat.le_of_ble_eq_true hb
  exact .ref id gen off sh b o m (by rw [MM.cut_lt (by omega)]; exact hm) hg h
 | msl id gen off len sh b o cap hl m hm hg h =>
  simp only [V.bd] at hb
  have := Nat.le_of_ble_eq_true hb
  exact .msl id gen off len sh b o cap hl m (by rw [MM.cut_lt (by omega)]; exact hm) hg h
 | mmp id b m hm h =>
  simp only [V.bd] at hb
  have := Nat.le_of_ble_eq_true hb
  exact .mmp id b m (by rw [MM.cut_lt (by omega)]; exact hm) h
 | it id cur b m hm hp h hc =>
  simp only [V.bd, Bool.and_eq_true] at hb
  have := Nat.le_of_ble_eq_true hb.2
  exact .it id cur b m (by rw [MM.cut_lt (by omega)]; exact hm) hp h hc
 | yld id b m hm h =>
  simp only [V.bd] at hb
  have := Nat.le_of_ble_eq_true hb
  exact .yld id b m (by rw [MM.cut_lt (by omega)]; exact hm) h
 | agg cs a hl hr ih =>
  simp only [V.bd] at hb
  exact .agg cs a hl fun i x v h1 h2 => ih i x v h1 h2 (bdL_get hb i x h1)
 | tup cs a hl hr ih =>
  simp only [V.bd] at hb
  exact .tup cs a hl fun i x v h1 h2 => ih i x v h1 h2 (bdL_get hb i x h1)
 | fn f a b a' b' ha hb' har hbr iha ihb =>
  simp only [V.bd, Bool.and_eq_true] at hb
  exact .fn f a b a' b' ha hb' (fun i x v h1 h2 => iha i x v h1 h2 (bdL_get hb.1 i x h1)) fun i x v h1 h2 => ihb i x v h1 h2 (bdL_get hb.2 i x h1)
 | iface t x v h ih =>
  simp only [V.bd] at hb
  exact .iface t x v (ih hb)
theorem RepO.cut {n : Nat} {m : MI} {o : Obj} (hb : o.bd n = true) (h : RepO w S M m o) : RepO w S (M.cut n) m o := by
 cases o with
 | cells gen e fz cs =>
  obtain ⟨h1, h2, hw, arr, fr, h3, h4, h5, h6, h7⟩ := h
  exact ⟨h1, h2, hw, arr, fr, h3, h4, h5, h6, fun j c hj => by obtain ⟨v, hv, hr⟩ := h7 j c hj; exact ⟨v, hv, hr.cut (bdL_get hb j c hj)⟩⟩
 | map ks vs =>
  obtain ⟨h1, es, clock, hst, h3, h4, h5, h6, h7⟩ := h
  exact ⟨h1, es, clock, hst, h3, h4, h5, h6, fun i k e a b => (h7 i k e a b).cut (bdL_get hb i k a)⟩
 | mit ks vs => exact h
 | sit s pos => exact h
 | loop st pend f ts ps asg body =>
  obtain ⟨h1, L, h3, h4, h5, h7, h8, h9, h10⟩ := h
  refine ⟨h1, L, h3, h4, h5, h7, h8, h9, fun i => ?_⟩
  have := h10 i
  split at this
  . rename_i v hv
    obtain ⟨c, hc, hr⟩ := this
    exact ⟨c, hc, hr.cut (Tm.all_get _ _ _ _ hb hv)⟩
  . exact this
 | defer o => exact h
 | nest gen e cs fc =>
  obtain ⟨h1, h2, hw, arr, h3, h5, h6, h7, h8⟩ := h
  simp only [Obj.bd, Bool.and_eq_true, List.all_eq_true] at hb
  refine ⟨h1, h2, hw, arr, h3, h5, h6, fun j c hj => ?_, fun p fs hp => ⟨(h8 p fs hp).1, (h8 p fs hp).2.1, fun j x hj => ?_⟩⟩
  . obtain ⟨v, hv, hr⟩ := h7 j c hj
    exact ⟨v, hv, hr.cut (hb.1 _ (List.mem_of_getElem? hj))⟩
  . obtain ⟨v, hv, hr⟩ := (h8 p fs hp).2.2 j x hj
    subst hp
    exact ⟨v, hv, hr.cut (bdL_get hb.2 j x hj)⟩
theorem resetH_sub {n0 : Nat} {ids : List Nat} {h' : Heap} (hq : resetH n0 ids h = some h') : n0 <= h'.next /\ h'.next <= h.next /\ (∀ id o, h'.obj id = some o -> h.obj id = some o /\ (id < h'.next \/ h.next <= id) /\ (id < h'.next -> o.bd h'.next = true)) := by
 unfold resetH at hq
 simp only at hq
 split at hq
 case isFalse => cases hq
 rename_i hc
 cases hq
 obtain ⟨h1, h2⟩ := topOf_le ids n0
 refine ⟨h1, hc.1, fun id o ho => ?_⟩
 obtain ⟨h3, h4⟩ : h.tr.get id = some o /\ (Nat.ble (id + 1) n0 || ids.contains id) = true := by
  rcases gather_get _ _ _ _ _ _ _ ho with h | h
  . cases h
  . exact h
 refine ⟨h3, .inl ?_, fun hlt => allObjs_get _ _ _ 0 id o hc.2 (Nat.zero_le _) (by simpa using hlt) ho⟩
 show id < topOf n0 ids
 simp only [Bool.or_eq_true] at h4
 rcases h4 with h4 | h4
 . have := Nat.le_of_ble_eq_true h4
   omega
 . exact h2 id (by simpa using h4)
theorem resetH_run (I : Inv B0 w S M h) {n0 : Nat} {ids : List Nat} {h' : Heap} (hq : resetH n0 ids h = some h') : Inv B0 w S (M.cut h'.next) h' := by
 obtain ⟨h1, h2, h3⟩ := resetH_sub hq
 have key : ∀ id o, h'.obj id = some o -> h.obj id = some o /\ id < h'.next /\ o.bd h'.next = true := fun id o ho => by
  obtain ⟨a, b, c⟩ := h3 id o ho
  obtain ⟨m, hm, _⟩ := I.obj id o a
  have := (I.at_ id m hm).2.2
  have hlt : id < h'.next := by omega
  exact ⟨a, hlt, c hlt⟩
 refine ⟨fun id o ho => ?_, fun id m hm => ?_, fun id id' o o' m m' ho ho' hm hm' => I.inj id id' o o' m m' (key id o ho).1 (key id' o' ho').1 (MM.cut_some hm).2 (MM.cut_some hm').2, fun id o m ho hm => I.stable id o m (key id o ho).1 (MM.cut_some hm).2, I.lt, I.base,
  I.own.imp fun O K => K.step (Nat.le_refl _) (fun b hb => ⟨hb, rfl⟩) (fun b hb => ⟨(K.free b hb).1, rfl⟩) (fun i o m hi hm => K.obj i o m (key i o hi).1 (MM.cut_some hm).2) fun i g e cs fc m hi hm j e2 sh xs hj => ⟨i, g, e, cs, fc, m, j, (key i _ hi).1, (MM.cut_some hm).2, hj, rfl, rfl, rfl⟩⟩
 . obtain ⟨a, b, c⟩ := key id o ho
   obtain ⟨m, hm, hr⟩ := I.obj id o a
   exact ⟨m, by rw [MM.cut_lt b]; exact hm, hr.cut c⟩
 . obtain ⟨a, b⟩ := MM.cut_some hm
   exact ⟨(I.at_ id m b).1, (I.at_ id m b).2.1, a⟩
theorem Ext.cut {w0 : World} {S0 : Nat -> Prop} {M0 : MM} {k n : Nat} (E : Ext B0 (· < k) w0 S0 M0 w S M) (hk : k <= n) (h0 : ∀ id m, M0 id = some m -> id < k) : Ext B0 (· < k) w0 S0 M0 w S (M.cut n) :=
 ⟨E.os, E.tape, E.output, E.size, E.below, E.keep, fun id m hm => by rw [MM.cut_lt (Nat.lt_of_lt_of_le (h0 id m hm) hk)]; exact E.map id m hm, fun id hi hm => by
  rw [MM.cut_lt (Nat.lt_of_lt_of_le hi hk)]; exact E.low id hi hm, E.new⟩
theorem MarksOK.cut {n : Nat} : ∀ {l : List Nat} {ds : List Deferred}, l.all (fun i => Nat.ble (i + 1) n) = true -> MarksOK M l ds -> MarksOK (M.cut n) l ds
 | [], [], _, _ => trivial
 | id :: r, d :: ds, ha, ⟨⟨b, m, h1, h2, h3⟩, hr⟩ => by
  simp only [List.all_cons, Bool.and_eq_true] at ha
  have := Nat.le_of_ble_eq_true ha.1
  exact ⟨⟨b, m, h1, by rw [MM.cut_lt (by omega)]; exact h2, h3⟩, hr.cut ha.2⟩
 | [], _ :: _, _, h => h.elim
 | _ :: _, [], _, h => h.elim
theorem resetRound_sub {f : FuncId} {cd : Code} {n0 : Nat} {h' : Heap} (hq : resetRound cfg f cd n0 ts h = some h') (hn : n0 <= h.next) : n0 <= h'.next /\ ∀ id o, h'.obj id = some o -> h.obj id = some o := by
 unfold resetRound at hq
 split at hq
 . cases hq; exact ⟨hn, fun _ _ h => h⟩
 . obtain ⟨a, _, c⟩ := resetH_sub hq
   exact ⟨a, fun id o ho => (c id o ho).1⟩
theorem resetRound_run (I : Inv B0 w S M h) {w0 : World} {S0 : Nat -> Prop} {M0 : MM} {n0 : Nat} (E : Ext B0 (· < n0) w0 S0 M0 w S M) (h0 : ∀ id m, M0 id = some m -> id < n0) {f : FuncId} {cd : Code} {h' : Heap} (hn : n0 <= h.next) (hq : resetRound cfg f cd n0 ts h = some h') :
  ∃ M', Inv B0 w S M' h' /\ Ext B0 (· < n0) w0 S0 M0 w S M' := by
 have hs := resetRound_sub hq hn
 unfold resetRound at hq
 split at hq
 . cases hq; exact ⟨M, I, E⟩
 . exact ⟨_, resetH_run I hq, E.cut hs.1 h0⟩
theorem reset_good {K : Code -> Prop} {s1 s2 s3 : St} {f : FuncId} {cd : Code} (g : Good K s1.h s2.h) (hq : resetAt cfg f cd s1.h.next s2 = some s3) : Good K s1.h s3.h := by
 unfold resetAt at hq
 split at hq
 . cases hq; exact g
 . simp only [reset, oB] at hq
   obtain ⟨h', h1, h2⟩ := hq
   split at h2
   case isFalse => cases h2
   cases h2
   obtain ⟨a1, _, a3⟩ := resetH_sub h1
   exact fun hk => ⟨a1, fun id st pend f ts ps asg bd ho => (g hk).2 id st pend f ts ps asg bd (a3 id _ ho).1⟩
theorem reset_state {K : Code -> Prop} {rd ro : Option Nat} {w1 w2 : World} {S1 S2 : Nat -> Prop} {M1 M2 : MM} {s1 s2 s3 : St} {a1 a2 : Act} {f : FuncId} {cd : Code} (X1 : State K B0 rd ro w1 S1 M1 s1 a1) (X2 : State K B0 rd ro w2 S2 M2 s2 a2)
  (E : Ext B0 (· < s1.h.next) w1 S1 M1 w2 S2 M2) (g : Good K s1.h s2.h) (hq : resetAt cfg f cd s1.h.next s2 = some s3) :
  ∃ M3, State K B0 rd ro w2 S2 M3 s3 a2 /\ Ext B0 (· < s1.h.next) w1 S1 M1 w2 S2 M3 /\ (M3 = M2 \/ M3 = M2.cut s3.h.next) /\ s1.h.next <= s3.h.next := by
 have hg := (reset_good g hq X1.k)
 unfold resetAt at hq
 split at hq
 . cases hq
   exact ⟨M2, X2, E, .inl rfl, hg.1⟩
 . simp only [reset, oB] at hq
   obtain ⟨h', h1, h2⟩ := hq
   split at h2
   case isFalse => cases h2
   rename_i hc
   cases h2
   simp only [Bool.and_eq_true] at hc
   have E3 := E.cut hg.1 fun id m hm => (X1.I.at_ id m hm).2.2
   refine ⟨M2.cut h'.next, ⟨hg.2, resetH_run X2.I h1, fun i => ?_, X2.m.cut hc.2, X1.r.mono E3.map⟩, E3, .inr rfl, hg.1⟩
   show match (Tm.keepOnly V.junk s2.ts _).get i with | some v => _ | none => _
   have := X2.t i
   have ha := fun v hv => Tm.all_get _ _ i v hc.1 hv
   rw [Tm.get_keepOnly] at ha ⊢
   split at this
   . rename_i v hv
     obtain ⟨c, hcc, hr⟩ := this
     rw [hv] at ha ⊢
     exact ⟨c, hcc, (by
      cases hp : List.contains _ i with
      | false => exact .junk c
      | true =>
       rw [hp] at ha
       exact hr.cut (ha v rfl))⟩
   . rename_i hv
     rw [hv]
     exact this
theorem cell_iter {b o : Nat} {v : Value} {mo : Option Nat} {si cl : Nat} {sn : Array Nat} (hb : w.heap[b]? = some (.mapIter mo si sn cl)) (h : w.cell? ⟨b, o, none⟩ = some v) : False := by
 simp only [World.cell?, hb] at h
 cases h
theorem RepT.drop {b : Nat} {mo : Option Nat} {si cl : Nat} {sn : Array Nat} (hb : w.heap[b]? = some (.mapIter mo si sn cl)) {x : T} {v : Value} (h : RepT w S x v) : RepT w (fun c => S c /\ c ≠ b) x v := by
 induction h with
 | bool b => exact .bool b
 | int k n => exact .int k n
 | str s v h => exact .str s v h
 | nilp => exact .nilp
 | ptr x b' o g hc hr ih => exact .ptr x b' o g (fun j c hj => ⟨⟨(hc j c hj).1, fun e => cell_iter hb (e ▸ (hc j c hj).2)⟩, (hc j c hj).2⟩) (fun j c hj => ih j c hj)
 | nils => exact .nils
 | sl ex sz xs b' o cap g hl hx hz hc hr sp hsp ih =>
  exact .sl ex sz xs b' o cap g hl hx hz (fun i x j c hi hj => ⟨⟨(hc i x j c hi hj).1, fun e => cell_iter hb (e ▸ (hc i x j c hi hj).2)⟩, (hc i x j c hi hj).2⟩) (fun i x j c hi hj => ih i x j c hi hj) sp hsp
 | nilm => exact .nilm
 | mp ks vs b' es clock hs hh hst hk hv hkr hvr ihk ihv => exact .mp ks vs b' es clock ⟨hs, fun e => by rw [e, hb] at hh; cases hh⟩ hh hst hk hv (fun i k e h1 h2 => ihk i k e h1 h2) (fun i v e h1 h2 => ihv i v e h1 h2)
 | nilf => exact .nilf
 | fn f a b a' b' ha hb har hbr iha ihb => exact .fn f a b a' b' ha hb (fun i x v h1 h2 => iha i x v h1 h2) (fun i x v h1 h2 => ihb i x v h1 h2)
 | nili => exact .nili
 | iface t x v h ih => exact .iface t x v ih
 | agg cs a hl hr ih => exact .agg cs a hl (fun i x v h1 h2 => ih i x v h1 h2)
 | tup cs a hl hr ih => exact .tup cs a hl (fun i x v h1 h2 => ih i x v h1 h2)
theorem RepV.drop {b : Nat} {mo : Option Nat} {si cl : Nat} {sn : Array Nat} (hb : w.heap[b]? = some (.mapIter mo si sn cl)) {n : Nat} {x : V} {v : Value} (hx : x.bd n = true) (h : RepV w S M x v) : RepV w (fun c => S c /\ c ≠ b) M x v := by
 induction h with
 | t x v h => exact .t x v (h.drop hb)
 | junk v => exact .junk v
 | ref id gen off sh b o m hm hg h => exact .ref id gen off sh b o m hm hg h
 | msl id gen off len sh b o cap hl m hm hg h => exact .msl id gen off len sh b o cap hl m hm hg h
 | mmp id b m hm h => exact .mmp id b m hm h
 | it id cur b m hm hp h hc =>
  simp only [V.bd, Bool.and_eq_true] at hx
  cases cur with
  | none => exact .it id none b m hm hp h fun _ _ e => by cases e
  | some p => cases hx.1
 | yld id b m hm h => exact .yld id b m hm h
 | agg cs a hl hr ih =>
  simp only [V.bd] at hx
  exact .agg cs a hl fun i x v h1 h2 => ih i x v h1 h2 (bdL_get hx i x h1)
 | tup cs a hl hr ih =>
  simp only [V.bd] at hx
  exact .tup cs a hl fun i x v h1 h2 => ih i x v h1 h2 (bdL_get hx i x h1)
 | fn f a b a' b' ha hb' har hbr iha ihb =>
  simp only [V.bd, Bool.and_eq_true] at hx
  exact .fn f a b a' b' ha hb' (fun i x v h1 h2 => iha i x v h1 h2 (bdL_get hx.1 i x h1)) fun i x v h1 h2 => ihb i x v h1 h2 (bdL_get hx.2 i x h1)
 | iface t x v h ih =>
  simp only [V.bd] at hx
  exact .iface t x v (ih hx)
theorem RepO.drop {b : Nat} {mo : Option Nat} {si cl : Nat} {sn : Array Nat} (hb : w.heap[b]? = some (.mapIter mo si sn cl)) {n : Nat} {m : MI} {o : Obj} (hx : o.bd n = true) (h : RepO w S M m o) : RepO w (fun c => S c /\ c ≠ b) M m o := by
 cases o with
 | cells gen e fz cs =>
  obtain ⟨h1, h2, hw, arr, fr, h3, h4, h5, h6, h7⟩ := h
  exact ⟨h1, h2, hw, arr, fr, h3, h4, h5, h6, fun j c hj => by obtain ⟨v, hv, hr⟩ := h7 j c hj; exact ⟨v, hv, hr.drop hb (bdL_get hx j c hj)⟩⟩
 | map ks vs =>
  obtain ⟨h1, es, clock, hst, h3, h4, h5, h6, h7⟩ := h
  exact ⟨h1, es, clock, hst, h3, h4, h5, fun i k e a1 a2 => (h6 i k e a1 a2).drop hb, fun i k e a1 a2 => (h7 i k e a1 a2).drop hb (bdL_get hx i k a1)⟩
 | mit ks vs =>
  obtain ⟨h1, mb, es, clock, h3, h4, h5, h6, h7, h8, h9, h10⟩ := h
  exact ⟨h1, mb, es, clock, h3, ⟨h4, fun e => by rw [e, hb] at h5; cases h5⟩, h5, h6, h7, h8, fun i k e a1 a2 => (h9 i k e a1 a2).drop hb, fun i k e a1 a2 => (h10 i k e a1 a2).drop hb⟩
 | sit s pos => exact h
 | loop st pend f ts ps asg body =>
  obtain ⟨h1, L, h3, h4, h5, h7, h8, h9, h10⟩ := h
  refine ⟨h1, L, h3, h4, h5, h7, h8, h9, fun i => ?_⟩
  have := h10 i
  split at this
  . rename_i v hv
    obtain ⟨c, hc, hr⟩ := this
    exact ⟨c, hc, hr.drop hb (Tm.all_get _ _ _ _ hx hv)⟩
  . exact this
 | defer o => exact h
 | nest gen e cs fc =>
  obtain ⟨h1, h2, hw, arr, h3, h5, h6, h7, h8⟩ := h
  simp only [Obj.bd, Bool.and_eq_true, List.all_eq_true] at hx
  refine ⟨h1, h2, hw, arr, h3, h5, h6, fun j c hj => ?_, fun p fs hp => ⟨(h8 p fs hp).1, (h8 p fs hp).2.1, fun j x hj => ?_⟩⟩
  . obtain ⟨v, hv, hr⟩ := h7 j c hj
    exact ⟨v, hv, hr.drop hb (hx.1 _ (List.mem_of_getElem? hj))⟩
  . obtain ⟨v, hv, hr⟩ := (h8 p fs hp).2.2 j x hj
    subst hp
    exact ⟨v, hv, hr.drop hb (bdL_get hx.2 j x hj)⟩
theorem bdL_map (n : Nat) : ∀ xs : List T, V.bdL n (xs.map .t) = true
 | [] => rfl
 | x :: r => by rw [List.map_cons, V.bdL, bdL_map n r]; rfl
theorem RepOwn.drop {b : Nat} {mo : Option Nat} {si cl : Nat} {sn : Array Nat} (hb : w.heap[b]? = some (.mapIter mo si sn cl)) {F : Nat -> Prop} {e : TypeId} {sh : Option Nat} {xs : List T} {v : Value} (h : RepOwn w S F e sh xs v) : RepOwn w (fun c => S c /\ c ≠ b) F e sh xs v := by
 obtain ⟨m, h1, h2, h3, h4, h5⟩ := h
 exact ⟨m, h1, h2, h3, h4.drop hb (n := 1) rfl, h5.drop hb (n := 1) (bdL_map 1 _)⟩
theorem State.drop {K : Code -> Prop} {rd ro : Option Nat} {s : St} {a : Act} {b : Nat} {mo : Option Nat} {si cl : Nat} {sn : Array Nat} (hb : w.heap[b]? = some (.mapIter mo si sn cl)) (hc : s.clean = true) (X : State K B0 rd ro w S M s a) :
  State K B0 rd ro w (fun c => S c /\ c ≠ b) M s a := by
 simp only [St.clean, Bool.and_eq_true] at hc
 refine ⟨X.k, ⟨fun id o ho => ?_, X.I.at_, X.I.inj, fun id o m ho hm hs => X.I.stable id o m ho hm hs.1, fun b hb => X.I.lt b hb.1, X.I.base,
  X.I.own.imp fun O KO => ⟨fun c hc => ⟨fun hs => (KO.free c hc).1 hs.1, (KO.free c hc).2⟩, KO.obj, fun id g e cs fc m hi hm j e2 sh xs hj => by
   obtain ⟨v, hv, hr⟩ := KO.rep id g e cs fc m hi hm j e2 sh xs hj
   exact ⟨v, hv, hr.drop hb⟩, KO.cel⟩⟩, fun i => ?_, X.m, X.r⟩
 . obtain ⟨m, hm, hr⟩ := X.I.obj id o ho
   have hlt := (X.I.at_ id m hm).2.2
   exact ⟨m, hm, hr.drop hb (allObjs_get _ _ _ 0 id o hc.2 (Nat.zero_le _) (by simpa using hlt) ho)⟩
 . have := X.t i
   split at this
   . rename_i v hv
     obtain ⟨c, hcc, hr⟩ := this
     exact ⟨c, hcc, hr.drop hb (Tm.all_get _ _ _ _ hc.1 hv)⟩
   . exact this
section machine
variable {b : Frame} {a : Act} {k : List Item} {cs : List Frame}
theorem stepR_scope {c : Code} : step P (lone (b.atR a (.code (.scope c) :: k)) cs w) = .next (lone (b.atR a (.code c :: .inScope c :: k)) cs w) :=
 step_lone_go (by simp [stepG, stepG.exec, Frame.atR])
theorem stepR_inScope {c : Code} : step P (lone (b.atR a (.inScope c :: k)) cs w) = .next (lone (b.atR a k) cs w) :=
 step_lone_go (by simp [stepG, stepG.exec, Frame.atR])
end machine
theorem wpIn_scope {F : Fence} {n : Nat} {c : Code} {Q : Exit -> Act -> World -> Prop} {a : Act} (h : c.wpIn F n P (fun e a w => (match e with | .goto _ => False | .panic _ => False | .outgrown => False | _ => True) /\ Q e a w) a w) : (Code.scope c).wpIn F n P Q a w := by
 intro b k cs hro hb hr
 have h0 : (lone (b.atR a (.code (.scope c) :: k)) cs w).fenced P F := fenced_calm hb hr rfl
 obtain ⟨e, a₁, w₁, ⟨hne, hq⟩, harr⟩ := h b (.inScope c :: k) cs hro hb hr
 cases e with
 | normal => exact ⟨.normal, a₁, w₁, hq, .head h0 stepR_scope (StepsIn.trans harr (.one (fenced_calm hb hr rfl) stepR_inScope))⟩
 | exit id =>
  have hx : exitTo id (.inScope c :: k) = exitTo id k := by simp [exitTo]
  exact ⟨_, a₁, w₁, hq, fun k' hk => .head h0 stepR_scope (harr.1 k' (by rw [hx]; exact hk)),
   fun hr' hk => let ⟨k₁, h1, h2⟩ := harr.2 hr' (by rw [hx]; exact hk); ⟨k₁, h1, .head h0 stepR_scope h2⟩⟩
 | ret => exact ⟨_, a₁, w₁, hq, .of_steps (.one h0 stepR_scope) harr⟩
 | goto l => exact hne.elim
 | panic ch => exact hne.elim
 | outgrown => exact hne.elim
theorem wpIn_loop_iter {F : Fence} {n : Nat} {c : Code} {Q : Exit -> Act -> World -> Prop} (J : Nat -> Act -> World -> Prop) (round : ∀ i a w, J i a w -> c.wpIn F n P (Exit.then (fun a' w' => ∃ j, j < i /\ J j a' w') Q) a w) {i : Nat} {a : Act}
  (h0 : J i a w) : (Code.loop c).wpIn F n P Q a w := by
 intro b k cs hro hb hr
 have key : ∀ i a w, J i a w -> ∃ e a' w', Q e a' w' /\ ArrivesIn (Machine.fenced P F) P (lone (b.atR a (.code c :: .inLoop c :: k)) cs w) b k cs e a' w' := by
  intro i
  induction i using Nat.strongRecOn with
  | _ i ih =>
   intro a w hJ
   obtain ⟨e, a₁, w₁, hq, harr⟩ := round i a w hJ b (.inLoop c :: k) cs hro hb hr
   cases e with
   | normal =>
    obtain ⟨j, hj, hJ'⟩ := hq
    obtain ⟨e₂, a₂, w₂, hq₂, harr₂⟩ := ih j hj a₁ w₁ hJ'
    exact ⟨e₂, a₂, w₂, hq₂, .of_steps (StepsIn.trans harr (.one (fenced_calm hb hr rfl) stepR_inLoop)) harr₂⟩
   | exit id => exact ⟨_, a₁, w₁, hq, .pass (x := .inLoop c) rfl (fun _ _ => .inl (by simp)) harr⟩
   | goto l => exact ⟨_, a₁, w₁, hq, .pass (x := .inLoop c) rfl (fun _ _ => .inl (by simp)) harr⟩
   | ret => exact ⟨_, a₁, w₁, hq, .pass (x := .inLoop c) rfl (fun _ _ => .inl (by simp)) harr⟩
   | panic ch => exact ⟨_, a₁, w₁, hq, .pass (x := .inLoop c) rfl (fun _ _ => .inl (by simp)) harr⟩
   | outgrown => exact ⟨_, a₁, w₁, hq, .pass (x := .inLoop c) rfl (fun _ _ => .inl (by simp)) harr⟩
 obtain ⟨e, a', w', hq, harr⟩ := key i a w h0
 exact ⟨e, a', w', hq, .of_steps (.one (fenced_calm hb hr rfl) stepR_loop) harr⟩
structure KOK (cfg : Cfg) (P : Program) (K : Code -> Prop) : Prop where
 seq : ∀ a b, K (.seq a b) -> K a /\ K b
 cond : ∀ c a b, K (.cond c a b) -> K a /\ K b
 block : ∀ id c, K (.block id c) -> K c
 loop : ∀ c, K (.loop c) -> K c
 scope : ∀ c, K (.scope c) -> K c
 range : ∀ f ps asg bd, K (.rangeFunc f ps asg bd) -> K asg /\ K bd
 draw : ∀ {id : Nat} {ops : Array Oper}, K (.region id ops true) -> ∀ {E : Env} (_ : EnvOK K P E) {f : FuncId} {B0 : Nat -> Prop} {w : World} {S : Nat -> Prop} {M : MM} {s s' : St} {a : Act}, HeapOK K s.h -> Inv B0 w S M s.h -> RepTs w S M s.ts a.tmps -> region cfg E f id true ops.toList s = some s' →
  ∀ {Q : Exit -> Act -> World -> Prop} {ro : Option Nat} {n : Nat}, (∀ a' w' S' M', Inv B0 w' S' M' s'.h -> Ext B0 (· < s.h.next) w S M w' S' M' -> RepTs w' S' M' s'.ts a'.tmps -> a'.defers = a.defers -> Q .normal a' w') -> (Code.region id ops true).wpIn (FR ro) n P Q a w
end
end Go.Apex
