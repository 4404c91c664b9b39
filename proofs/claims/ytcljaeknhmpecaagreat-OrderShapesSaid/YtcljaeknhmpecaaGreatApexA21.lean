import Derived.Test.YtcljaeknhmpecaaGreatApexA20
set_option linter.all false
namespace Go.Apex
open Go Go.RowKit
variable [Globs]
section
variable {cfg : Cfg} {P : Program} {B0 : Nat -> Prop} {n0 : Nat -> Prop} {w : World} {S : Nat -> Prop} {M : MM} {h : Heap} {ts : Ts} {a : Array Value} {slot : Nat}
theorem Inv.free (I : Inv B0 w S M h) {id : Nat} {o : Obj} {m : MI} (ho : h.obj id = some o) (hm : M id = some m) :
  let S' : Nat -> Prop := fun b => S b \/ b = m.b
  Inv B0 w S' M (h.set id none) /\ Ext B0 n0 w S M w S' M := by
 intro S'
 have hS : ∀ b, S b -> S' b /\ w.heap[b]? = w.heap[b]? := fun b hb => ⟨.inl hb, rfl⟩
 have hM : ∀ i m, M i = some m -> ∃ m2, M i = some m2 /\ (m2 = m \/ (m.gen < m2.gen /\ m.ext <= m.tot)) := fun i m hm => ⟨m, hm, .inl rfl⟩
 have hold : ∀ i o', (h.set id none).obj i = some o' -> i ≠ id /\ h.obj i = some o' := fun i o' hi => by
  rw [Heap.obj_set] at hi
  split at hi
  . cases hi
  . rename_i hne; exact ⟨hne, hi⟩
 refine ⟨⟨?_, ?_, ?_, ?_, ?_, I.base, ?_⟩, ⟨rfl, rfl, rfl, Nat.le_refl _, fun _ _ => rfl, hS, hM, fun _ _ h => h, fun b hb => hb.elim .inl fun h => .inr (h ▸ (I.at_ id m hm).1)⟩⟩
 . intro i o' hi
   obtain ⟨m', hm', hr⟩ := I.obj i o' (hold i o' hi).2
   exact ⟨m', hm', hr.mono hS hM rfl⟩
 . exact fun i m hm => I.at_ i m hm
 . intro i i' o1 o2 m1 m2 hi hi' h1 h2 e
   exact I.inj i i' o1 o2 m1 m2 (hold i o1 hi).2 (hold i' o2 hi').2 h1 h2 e
 . intro i o' m' hi hm' hs
   obtain ⟨hne, hi⟩ := hold i o' hi
   rcases hs with hs | hs
   . exact I.stable i o' m' hi hm' hs
   . exact hne (I.inj i id o' o m' m hi ho hm' hm hs)
 . intro b hb
   rcases hb with hb | rfl
   . exact I.lt b hb
   . exact (I.at_ id m hm).2.1
 . obtain ⟨O, K⟩ := I.own
   refine ⟨O, K.step (Nat.le_refl _) hS (fun b hb => ⟨fun hs => hs.elim (K.free b hb).1 fun e => hb (e ▸ K.obj id o m ho hm), rfl⟩) (fun i o1 m1 hi hm1 => K.obj i o1 m1 (hold i o1 hi).2 hm1)
    fun i g e cs fc m1 hi hm1 j e2 sh xs hj => ⟨i, g, e, cs, fc, m1, j, (hold i _ hi).2, hm1, hj, rfl, rfl, rfl⟩⟩
theorem RepTs.upd_same (ht : RepTs w S M ts a) {d : Nat} {u v : V} {c : Value} (hu : ts.get d = some u) (hc : a[d]? = some c) (hv : RepV w S M v c) : RepTs w S M (ts.upd v d) a := by
 have := ht.upd d hv
 have e : a.setIfInBounds d c = a := by
  apply Array.ext_getElem?
  intro i
  rw [Array.getElem?_setIfInBounds]
  split
  . rename_i e; subst e
    have hlt := (Array.getElem?_eq_some_iff.1 hc).1
    rw [if_pos hlt, hc]
  . rfl
 rw [e] at this
 exact this
theorem flatAt_rep (I : Inv B0 w S M h) {id g : Nat} {e : TypeId} {fz : Bool} {cs : List V} (ho : h.obj id = some (.cells g e fz cs)) {off : Nat} {sh : Option Nat} {x : T} (hf : flatAt cs off sh = some x) {m : MI} (hm : M id = some m) :
  RepT w (fun b => S b \/ b = m.b) (.ptr x) (.pointer (some ⟨m.b, m.s + off, none⟩)) := by
 obtain ⟨m', arr, fr, hm', hmg, hext, hheap, hfr, hsz, hle, hcell, hlist⟩ := obj_cells I ho
 rw [hm] at hm'
 cases hm'
 have hmono : ∀ {y : T} {v : Value}, RepT w S y v -> RepT w (fun b => S b \/ b = m.b) y v := fun h => h.mono fun b hb => ⟨.inl hb, rfl⟩
 unfold flatAt at hf
 split at hf
 . simp only [oB] at hf
   obtain ⟨y, ⟨u, hu, hy⟩, hf⟩ := hf
   split at hf
   case isFalse => cases hf
   rename_i hone
   cases hf
   have hut := toT_t hy
   rw [hut] at hu
   obtain ⟨v, hv, hrv⟩ := hcell off _ hu
   refine .ptr x m.b (m.s + off) (fun _ => v) (fun j c hj => ?_) (fun j c hj => ?_)
   . rw [one_cells hone] at hj
     cases j with
     | zero => exact ⟨.inr rfl, by simpa using hv⟩
     | succ j => simp at hj
   . rw [one_cells hone] at hj
     cases j with
     | zero => simp at hj; subst hj; exact hmono (repV_t hrv)
     | succ j => simp at hj
 . rename_i k
   split at hf
   case isFalse => cases hf
   rename_i hk
   simp only [oM] at hf
   obtain ⟨xs, hxs, rfl⟩ := hf
   have hx := allT_spec hxs
   have key : ∀ (j : Nat) (c : T), xs[j]? = some c -> ∃ v, arr[m.s + off + j]? = some v /\ RepT w S c v := by
    intro j c hj
    have hu : ((cs.drop off).take k)[j]? = some (.t c) := by rw [hx]; simp [hj]
    rw [List.getElem?_take] at hu
    split at hu
    case isFalse => cases hu
    rw [List.getElem?_drop] at hu
    obtain ⟨v, hv, hrv⟩ := hcell _ _ hu
    rw [cell_of hheap, <- Nat.add_assoc] at hv
    exact ⟨v, hv, repV_t hrv⟩
   refine .ptr (.agg xs) m.b (m.s + off) (fun j => (arr[m.s + off + j]?).getD undef) (fun j c hj => ?_) (fun j c hj => ?_)
   . obtain ⟨v, hv, hr⟩ := key j c hj
     refine ⟨.inr rfl, ?_⟩
     rw [cell_of hheap, hv]; rfl
   . obtain ⟨v, hv, hr⟩ := key j c hj
     rw [hv]
     exact hmono hr
theorem Inv.sub (I : Inv B0 w S M h) {h' : Heap} (hn : h'.next = h.next) (ho : ∀ id o, h'.obj id = some o -> h.obj id = some o) : Inv B0 w S M h' :=
 ⟨fun id o h1 => I.obj id o (ho id o h1), fun id m hm => by rw [hn]; exact I.at_ id m hm, fun id id' o o' m m' h1 h2 => I.inj id id' o o' m m' (ho id o h1) (ho id' o' h2), fun id o m h1 => I.stable id o m (ho id o h1), I.lt, I.base,
  I.own.imp fun O K => K.step (Nat.le_refl _) (fun b hb => ⟨hb, rfl⟩) (fun b hb => ⟨(K.free b hb).1, rfl⟩) (fun i o m hi => K.obj i o m (ho i o hi)) fun i g e cs fc m hi hm j e2 sh xs hj => ⟨i, g, e, cs, fc, m, j, ho i _ hi, hm, hj, rfl, rfl, rfl⟩⟩
theorem rowTree_rep (I : Inv B0 w S M h) {id g off len : Nat} {e : TypeId} {fz : Bool} {cs : List V} {sh : Option Nat} {x : T} (ho : h.obj id = some (.cells g e fz cs)) {m : MI} (hm : M id = some m) (hx : rowTree sh cs off len = some x) {c : Value} (hr : RepV w S M (.msl id g off len sh) c) :
  RepT w (fun b => S b \/ b = m.b) x c := by
 have I2 : Inv B0 w S M ⟨h.next, Tm.nil.put id (some (.cells g e fz cs))⟩ := I.sub rfl fun i o hi => by
  have : (Tm.nil.put id (some (.cells g e fz cs))).get i = some o := hi
  rw [Tm.get_put] at this
  split at this
  . rename_i e; subst e; cases this; exact ho
  . cases this
 refine snap_rep I2 (rd := (⟨h.next, Tm.nil.put id (some (.cells g e fz cs))⟩ : Heap).obj) (fun _ _ h => h) (fun b hb => .inl hb) (fun i o m' hi hm' => ?_) ?_ 2 (.msl id g off len sh) x c ?_ hr
 . have : (Tm.nil.put id (some (.cells g e fz cs))).get i = some o := hi
   rw [Tm.get_put] at this
   split at this
   . rename_i e; subst e; rw [hm] at hm'; cases hm'; exact .inr rfl
   . cases this
 . refine .inl fun i g1 e1 cs1 fc1 hi => ?_
   have : (Tm.nil.put id (some (Obj.cells g e fz cs))).get i = some (Obj.nest g1 e1 cs1 fc1) := hi
   rw [Tm.get_put] at this
   split at this <;> cases this
 . simp only [rowTree, oB] at hx
   obtain ⟨es, hes, xs, hxs, hx⟩ := hx
   split at hx
   case isFalse => cases hx
   rename_i hall
   cases hx
   have ho2 : (⟨h.next, Tm.nil.put id (some (.cells g e fz cs))⟩ : Heap).obj id = some (.cells g e fz cs) := by
    show ((Tm.nil : Tm Obj).put id (some (.cells g e fz cs))).get id = _
    rw [Tm.get_put, if_pos rfl]
   have key : ∀ (rd : Rd), rd id = some (.cells g e fz cs) -> snap rd 2 (.msl id g off len sh) = some (.sl false (shSize sh) xs) := by
    intro rd hrd
    have hs : ∀ ys : List T, mapO (snap rd 1) (ys.map .t) = some ys := by
     intro ys
     induction ys with
     | nil => rfl
     | cons y ys ih =>
      have h1 : snap rd 1 (.t y) = some y := rfl
      simp only [List.map_cons, mapO, h1, oS, ih]
    unfold snap
    simp only [hrd, if_true, hes, oS]
    rw [allT_spec hxs, hs]
    simp only [oS, hall, if_true]
   exact key _ ho2
theorem shutOne_run (I : Inv B0 w S M h) (ht : RepTs w S M ts a) {d : Tmp} {ts' : Ts} {h' : Heap} (hq : shutOne ts h d = some (ts', h')) :
  ∃ S', Inv B0 w S' M h' /\ Ext B0 n0 w S M w S' M /\ RepTs w S' M ts' a := by
 have same : ts' = ts /\ h' = h -> ∃ S', Inv B0 w S' M h' /\ Ext B0 n0 w S M w S' M /\ RepTs w S' M ts' a := by
  rintro ⟨rfl, rfl⟩
  exact ⟨S, I, Ext.refl .., ht⟩
 unfold shutOne at hq
 split at hq
 . rename_i id g off sh hd
   split at hq
   . rename_i g' e fz cs ho
     split at hq
     . rename_i hg
       subst hg
       split at hq
       . rename_i x hf
         simp only [oI, Prod.mk.injEq] at hq
         obtain ⟨rfl, rfl⟩ := hq
         obtain ⟨m, arr, fr, hm, hmg, _⟩ := obj_cells I ho
         obtain ⟨hI, hE⟩ := I.free (n0 := n0) ho hm
         obtain ⟨c, hc, hr⟩ := ht.get hd
         obtain ⟨b, o, m2, rfl, hm2, _, hat⟩ := repV_ref hr
         rw [hm] at hm2
         cases hm2
         obtain ⟨rfl, rfl⟩ := hat hmg
         exact ⟨_, hI, hE, (ht.mono hE.keep hE.map).upd_same hd hc (.t _ _ (flatAt_rep I ho hf hm))⟩
       . exact same (by simpa [eq_comm] using hq)
     . exact same (by simpa [eq_comm] using hq)
   . exact same (by simpa [eq_comm] using hq)
 . rename_i id g off len sh hd
   split at hq
   . rename_i g' e fz cs ho
     split at hq
     . rename_i hg
       subst hg
       split at hq
       . rename_i x hx
         simp only [oI, Prod.mk.injEq] at hq
         obtain ⟨rfl, rfl⟩ := hq
         obtain ⟨m, hm, _⟩ := I.obj id _ ho
         obtain ⟨hI, hE⟩ := I.free (n0 := n0) ho hm
         obtain ⟨c, hc, hr⟩ := ht.get hd
         exact ⟨_, hI, hE, (ht.mono hE.keep hE.map).upd_same hd hc (.t _ _ (rowTree_rep I ho hm hx hr))⟩
       . exact same (by simpa [eq_comm] using hq)
     . exact same (by simpa [eq_comm] using hq)
   . exact same (by simpa [eq_comm] using hq)
 . exact same (by simpa [eq_comm] using hq)
 . cases hq
theorem unrow_run {k : Nat} (I : Inv B0 w S M h) (ht : RepTs w S M ts a) {d : Tmp} {ts' : Ts} {h' : Heap} (hq : unrow k ts h d = some (ts', h')) :
  ∃ S', Inv B0 w S' M h' /\ Ext B0 n0 w S M w S' M /\ RepTs w S' M ts' a := by
 have same : ts' = ts /\ h' = h -> ∃ S', Inv B0 w S' M h' /\ Ext B0 n0 w S M w S' M /\ RepTs w S' M ts' a := by
  rintro ⟨rfl, rfl⟩
  exact ⟨S, I, Ext.refl .., ht⟩
 unfold unrow at hq
 split at hq
 . rename_i id _ _ _ hd
   split at hq
   . rename_i g' e fz cs ho
     split at hq
     . rename_i id2 g off len sh hk
       split at hq
       . rename_i g2 e2 fz2 cs2 ho2
         split at hq
         . rename_i hg
           obtain ⟨rfl, hne⟩ := hg
           split at hq
           . rename_i x hx
             simp only [oI, Prod.mk.injEq] at hq
             obtain ⟨rfl, rfl⟩ := hq
             obtain ⟨m2, hm2, _⟩ := I.obj id2 _ ho2
             obtain ⟨m1, hm1, _⟩ := I.obj id _ ho
             obtain ⟨hI, hE⟩ := I.free (n0 := n0) ho2 hm2
             refine ⟨_, ⟨?_, hI.at_, ?_, ?_, hI.lt, hI.base, ?_⟩, hE, ht.mono hE.keep hE.map⟩
             . intro i o hi
               rw [Heap.obj_set] at hi
               by_cases ei : i = id
               . subst ei
                 rw [if_pos rfl] at hi
                 cases hi
                 obtain ⟨m, hm, h1, h2, h3, arr, fr, h4, h5, h6, h7, h8⟩ := I.obj i _ ho
                 refine ⟨m, hm, h1, by rw [List.length_set]; exact h2, by rw [List.length_set]; exact h3, arr, fr, h4, h5, h6, by rw [List.length_set]; exact h7, fun j c hj => ?_⟩
                 by_cases ej : k = j
                 . subst ej
                   obtain ⟨v, hv, hr⟩ := h8 k _ hk
                   rw [List.getElem?_set_self (by rw [gS] at hk; exact hk.1)] at hj
                   cases hj
                   exact ⟨v, hv, .t _ _ (rowTree_rep I ho2 hm2 hx hr)⟩
                 . rw [List.getElem?_set_ne ej] at hj
                   obtain ⟨v, hv, hr⟩ := h8 j c hj
                   exact ⟨v, hv, hr.mono hE.keep hE.map⟩
               . rw [if_neg ei] at hi
                 exact hI.obj i o hi
             . intro i j o1 o2 n1 n2 hi hj
               rw [Heap.obj_set] at hi hj
               have pass : ∀ {i : Nat} {o1 : Obj}, (if i = id then some (Obj.cells g' e fz (cs.set k (.t x))) else (h.set id2 none).obj i) = some o1 -> ∃ o, (h.set id2 none).obj i = some o := by
                intro i o1 hi
                by_cases ei : i = id
                . subst ei
                  exact ⟨_, by rw [Heap.obj_set, if_neg hne]; exact ho⟩
                . rw [if_neg ei] at hi; exact ⟨_, hi⟩
               obtain ⟨p1, q1⟩ := pass hi
               obtain ⟨p2, q2⟩ := pass hj
               exact hI.inj i j p1 p2 n1 n2 q1 q2
             . intro i o n1 hi
               rw [Heap.obj_set] at hi
               by_cases ei : i = id
               . subst ei
                 exact hI.stable i _ n1 (by rw [Heap.obj_set, if_neg hne]; exact ho)
               . rw [if_neg ei] at hi; exact hI.stable i o n1 hi
             . obtain ⟨O, K⟩ := hI.own
               refine ⟨O, K.step (Nat.le_refl _) (fun b hb => ⟨hb, rfl⟩) (fun b hb => ⟨(K.free b hb).1, rfl⟩) (fun i o n1 hi => ?_) fun i g e cs fc m hi hm j e2 sh xs hj => ?_⟩
               . rw [Heap.obj_set] at hi
                 by_cases ei : i = id
                 . subst ei
                   exact K.obj i _ n1 (by rw [Heap.obj_set, if_neg hne]; exact ho)
                 . rw [if_neg ei] at hi; exact K.obj i o n1 hi
               . rw [Heap.obj_set] at hi
                 by_cases ei : i = id
                 . subst ei
                   rw [if_pos rfl] at hi
                   cases hi
                 . rw [if_neg ei] at hi
                   exact ⟨i, g, e, cs, fc, m, j, hi, hm, hj, rfl, rfl, rfl⟩
           . exact same (by simpa [eq_comm] using hq)
         . exact same (by simpa [eq_comm] using hq)
       . exact same (by simpa [eq_comm] using hq)
     . exact same (by simpa [eq_comm] using hq)
   . exact same (by simpa [eq_comm] using hq)
 . exact same (by simpa [eq_comm] using hq)
 . cases hq
theorem dropAll_run : ∀ (ids : List Nat) {S : Nat -> Prop} {h : Heap} (_ : Inv B0 w S M h), ∃ S', Inv B0 w S' M (dropAll ids h) /\ Ext B0 n0 w S M w S' M /\ ∀ id ∈ ids, ∀ o m, h.obj id = some o -> M id = some m -> S' m.b
 | [], S, h, I => ⟨S, I, Ext.refl .., fun _ h => by cases h⟩
 | id :: r, S, h, I => by
  obtain ⟨S1, I1, E1, k1⟩ : ∃ S1, Inv B0 w S1 M (h.set id none) /\ Ext B0 n0 w S M w S1 M /\ ∀ o m, h.obj id = some o -> M id = some m -> S1 m.b := by
   cases ho : h.obj id with
   | none =>
    refine ⟨S, I.sub rfl fun i o hi => ?_, Ext.refl .., fun o m h => by cases h⟩
    rw [Heap.obj_set] at hi
    split at hi
    . cases hi
    . exact hi
   | some o =>
    obtain ⟨m, hm, _⟩ := I.obj id o ho
    obtain ⟨hI, hE⟩ := I.free (n0 := n0) ho hm
    exact ⟨_, hI, hE, fun o' m' _ hm' => by rw [hm] at hm'; cases hm'; exact .inr rfl⟩
  obtain ⟨S2, I2, E2, k2⟩ := dropAll_run r I1
  refine ⟨S2, I2, E1.trans E2 fun i h => h, fun i hi o m ho hm => ?_⟩
  by_cases e : i = id
  . subst e
    exact (E2.keep _ (k1 o m ho hm)).1
  . rcases List.mem_cons.1 hi with h1 | h1
    . exact absurd h1 e
    . exact k2 i h1 o m (by rw [Heap.obj_set, if_neg e]; exact ho) hm
theorem only_heap (h : Heap) : ∀ ids : List Nat, ∃ h2 : Heap, h2.next = h.next /\ ∀ i, h2.obj i = cond (ids.contains i) (h.obj i) none
 | [] => ⟨⟨h.next, .nil⟩, rfl, fun i => rfl⟩
 | id :: r => by
  obtain ⟨h2, h3, h4⟩ := only_heap h r
  refine ⟨h2.set id (h.obj id), h3, fun i => ?_⟩
  rw [Heap.obj_set, List.contains_cons]
  by_cases e : i = id
  . subst e; simp
  . rw [if_neg e, h4, show (i == id) = false by simpa using e, Bool.false_or]
theorem deep_rep (I : Inv B0 w S M h) {v : V} {x : T} (hx : snap (fun id => cond ((scan true h.obj scanFuel [v] []).contains id) (noNest (h.obj id)) none) snapFuel v = some x) :
  ∃ S', Inv B0 w S' M (dropAll (scan true h.obj scanFuel [v] []) h) /\ Ext B0 n0 w S M w S' M /\ ∀ c, RepV w S M v c -> RepT w S' x c := by
 obtain ⟨S', hI, hE, hk⟩ := dropAll_run (n0 := n0) (scan true h.obj scanFuel [v] []) I
 refine ⟨S', hI, hE, fun c hr => ?_⟩
 obtain ⟨h2, n2, o2⟩ := only_heap h (scan true h.obj scanFuel [v] [])
 have sub2 : ∀ i o, h2.obj i = some o -> (scan true h.obj scanFuel [v] []).contains i = true /\ h.obj i = some o := fun i o hi => by
  rw [o2] at hi
  cases hcn : (scan true h.obj scanFuel [v] []).contains i with
  | false => rw [hcn] at hi; cases hi
  | true => rw [hcn] at hi; exact ⟨rfl, hi⟩
 have I2 := I.sub n2 fun i o hi => (sub2 i o hi).2
 refine snap_rep I2 (rd := fun id => cond ((scan true h.obj scanFuel [v] []).contains id) (noNest (h.obj id)) none) (fun i o hi => ?_) (fun b hb => (hE.keep b hb).1) (fun i o m hi hm => ?_) (.inl fun i g e cs fc hi => ?_) snapFuel v x c hx hr
 . rw [o2]
   cases hcn : (scan true h.obj scanFuel [v] []).contains i with
   | false => rw [hcn] at hi; cases hi
   | true =>
    rw [hcn] at hi
    cases hob : h.obj i with
    | none => rw [hob] at hi; cases hi
    | some ob => rw [hob] at hi; cases ob <;> first | exact hi | cases hi
 . obtain ⟨c1, c2⟩ := sub2 i o hi
   exact hk i (by simpa using c1) o m c2 hm
 . cases hcn : (scan true h.obj scanFuel [v] []).contains i with
   | false => rw [hcn] at hi; cases hi
   | true =>
    rw [hcn] at hi
    cases hob : h.obj i with
    | none => rw [hob] at hi; cases hi
    | some ob => rw [hob] at hi; cases ob <;> cases hi
theorem shutDeep_run (I : Inv B0 w S M h) (ht : RepTs w S M ts a) {d : Tmp} {ts' : Ts} {h' : Heap} (hq : shutDeep ts h d = some (ts', h')) :
  ∃ S', Inv B0 w S' M h' /\ Ext B0 n0 w S M w S' M /\ RepTs w S' M ts' a := by
 unfold shutDeep at hq
 split at hq
 . rename_i v hd
   simp only at hq
   split at hq
   . rename_i x hx
     simp only [oI, Prod.mk.injEq] at hq
     obtain ⟨rfl, rfl⟩ := hq
     obtain ⟨S', hI, hE, hk⟩ := deep_rep (n0 := n0) I hx
     obtain ⟨c, hc, hr⟩ := ht.get hd
     exact ⟨S', hI, hE, (ht.mono hE.keep hE.map).upd_same hd hc (.t _ _ (hk c hr))⟩
   . simp only [oI, Prod.mk.injEq] at hq
     obtain ⟨rfl, rfl⟩ := hq
     exact ⟨S, I, Ext.refl .., ht⟩
 . cases hq
theorem shutOld_run (I : Inv B0 w S M h) (ht : RepTs w S M ts a) {d : Tmp} {ts' : Ts} {h' : Heap} (hq : shutOld ts h d = some (ts', h')) :
  ∃ S', Inv B0 w S' M h' /\ Ext B0 n0 w S M w S' M /\ RepTs w S' M ts' a := by
 unfold shutOld at hq
 cases hc : Nat.ble 100000 d with
 | true => rw [hc] at hq; exact unrow_run I ht hq
 | false =>
  rw [hc] at hq
  cases hc2 : Nat.ble 50000 d with
  | true => rw [hc2] at hq; exact shutDeep_run I ht hq
  | false => rw [hc2] at hq; exact shutOne_run I ht hq
theorem ownCells_map : ∀ xs : List T, (xs.map V.t).flatMap V.cells = ownCells xs
 | [] => rfl
 | y :: ys => by
  have := ownCells_map ys
  unfold ownCells at this ⊢
  rw [List.map_cons, List.flatMap_cons, List.flatMap_cons, List.map_append, this, cells_t]
theorem set_get {α : Type} {cs : List α} {c j : Nat} {y x : α} (h : (cs.set c y)[j]? = some x) : (j = c /\ c < cs.length /\ x = y) \/ (j ≠ c /\ cs[j]? = some x) := by
 by_cases e : c = j
 . subst e
   have hlt : c < cs.length := by have := (gS.1 h).1; simpa using this
   rw [List.getElem?_set_self hlt] at h
   cases h
   exact .inl ⟨rfl, hlt, rfl⟩
 . rw [List.getElem?_set_ne e] at h
   exact .inr ⟨fun k => e k.symm, h⟩
theorem Inv.nest (I : Inv B0 w S M h) {id g : Nat} {e : TypeId} {cs cs' : List C} {fc fc' : Option (Nat × List V)} {m : MI} (ho : h.obj id = some (.nest g e cs fc)) (hm : M id = some m) (hl : cs'.length = cs.length)
  (hown : ∀ (j : Nat) (e2 : TypeId) (sh : Option Nat) (xs : List T), cs'[j]? = some (C.own e2 sh xs) -> cs[j]? = some (C.own e2 sh xs))
  (hcell : ∀ (j : Nat) (x : V), cs'[j]? = some (.v x) -> ∃ v, w.cell? ⟨m.b, m.s + j, none⟩ = some v /\ RepV w S M x v)
  (hfoc : ∀ (p : Nat) (fs : List V), fc' = some (p, fs) -> p + fs.length <= cs.length /\ (∀ j, j < fs.length -> cs'[p + j]? = some (.v .junk)) /\ ∀ (j : Nat) (x : V), fs[j]? = some x -> ∃ v, w.cell? ⟨m.b, m.s + p + j, none⟩ = some v /\ RepV w S M x v) :
  Inv B0 w S M (h.set id (some (.nest g e cs' fc'))) /\ ∀ O, OwnOK B0 w S M h O -> OwnOK B0 w S M (h.set id (some (.nest g e cs' fc'))) O := by
 have hb := (I.at_ id m hm).2.1
 constructor
 . have := I.put (n0 := fun _ => False) (w' := w) id (.nest g e cs' fc') m (fun m1 h1 => by rw [hm] at h1; cases h1; exact ⟨by rw [ho]; simp, .inl rfl⟩) (fun hn => by rw [hm] at hn; cases hn) rfl rfl rfl (Nat.le_refl _)
    (fun b _ hb => rfl) (.inr ⟨m, hm, rfl⟩) hb
    (by
     rw [MM.set_self hm]
     obtain ⟨m1, hm1, h1, h2, h3, arr, h4, h5, h6, _⟩ := I.obj id _ ho
     rw [hm] at hm1
     cases hm1
     refine ⟨h1, by rw [hl]; exact h2, by rw [hl]; exact h3, arr, h4, h5, by rw [hl]; exact h6, fun j y hj => ?_, fun p fs hp => ?_⟩
     . obtain ⟨v, hv, hr⟩ := hcell j y hj
       exact ⟨v, by simpa [World.cell?, h4] using hv, hr⟩
     . obtain ⟨k1, k2, k3⟩ := hfoc p fs hp
       refine ⟨by rw [hl]; exact k1, k2, fun j x hj => ?_⟩
       obtain ⟨v, hv, hr⟩ := k3 j x hj
       exact ⟨v, by simpa [World.cell?, h4] using hv, hr⟩)
    (fun g1 e1 cs1 fc1 ho1 j e2 sh xs hj => by
     cases ho1
     exact ⟨g, e, cs, fc, m, j, ho, hm, hown j e2 sh xs hj, rfl, rfl, rfl⟩)
   rw [MM.set_self hm] at this
   exact this.1
 . intro O K
   refine K.step (Nat.le_refl _) (fun b hb => ⟨hb, rfl⟩) (fun b hb => ⟨(K.free b hb).1, rfl⟩) (fun i o1 m1 hi hm1 => ?_) fun i g1 e1 cs1 fc1 m1 hi hm1 j e2 sh xs hj => ?_
   . rw [Heap.obj_set] at hi
     by_cases ei : i = id
     . subst ei; exact K.obj i _ m1 ho hm1
     . rw [if_neg ei] at hi; exact K.obj i o1 m1 hi hm1
   . rw [Heap.obj_set] at hi
     by_cases ei : i = id
     . subst ei
       rw [if_pos rfl] at hi
       cases hi
       exact ⟨i, g, e, cs, fc, m1, j, ho, hm1, hown j e2 sh xs hj, rfl, rfl, rfl⟩
     . rw [if_neg ei] at hi
       exact ⟨i, g1, e1, cs1, fc1, m1, j, hi, hm1, hj, rfl, rfl, rfl⟩
theorem Inv.ownOut (I : Inv B0 w S M h) {id g : Nat} {e : TypeId} {cs : List C} {fc : Option (Nat × List V)} {c : Nat} {e2 : TypeId} {sh : Option Nat} {xs : List T} (ho : h.obj id = some (.nest g e cs fc)) (hc : cs[c]? = some (.own e2 sh xs)) :
  ∃ m m2 v O, M id = some m /\ m.gen = g /\ w.cell? ⟨m.b, m.s + c, none⟩ = some v /\ m2.gen = 1 /\ (∀ x ∈ xs, x.fits sh = true) /\ RepV w S (fun _ => some m2) (.msl 0 1 0 xs.length sh) v /\ RepO w S (fun _ => none) m2 (.cells 1 e2 false (ownCells xs)) ∧
   ¬ S m2.b /\ ¬ B0 m2.b /\ m2.b < w.heap.size /\ (∀ i o m1, h.obj i = some o -> M i = some m1 -> m1.b ≠ m2.b) ∧
   Inv B0 w S M (h.set id (some (.nest g e (cs.set c (.v .junk)) fc))) /\ OwnOK B0 w S M (h.set id (some (.nest g e (cs.set c (.v .junk)) fc))) O /\ O m2.b = none := by
 obtain ⟨O, K⟩ := I.own
 obtain ⟨m, arr, hm, hg, _, hheap, _, _, hcell, hfoc⟩ := nest_cells I ho
 obtain ⟨v, hv, m2, k1, k2, k3, k4, k5⟩ := K.rep id g e cs fc m ho hm c e2 sh xs hc
 have hclt : c < cs.length := (gS.1 hc).1
 have hne : O m2.b ≠ none := by rw [k2]; exact fun h => by cases h
 obtain ⟨f1, f2, f3⟩ := K.free _ hne
 obtain ⟨I1, _⟩ := I.nest ho hm (cs' := cs.set c (.v .junk)) (fc' := fc) (by simp) (fun j e3 sh3 xs3 hj => by
   rcases set_get hj with ⟨_, _, h⟩ | ⟨_, h⟩
   . cases h
   . exact h) (fun j x hj => by
   rcases set_get hj with ⟨rfl, _, h⟩ | ⟨_, h⟩
   . cases h; exact ⟨v, hv, .junk v⟩
   . exact hcell j x h) (fun p fs hp => by
   obtain ⟨q1, q2, q3⟩ := hfoc p fs hp
   refine ⟨q1, fun j hj => ?_, q3⟩
   by_cases ej : c = p + j
   . rw [ej, List.getElem?_set_self (by omega)]
   . rw [List.getElem?_set_ne ej]; exact q2 j hj)
 refine ⟨m, m2, v, fun b => if b = m2.b then none else O b, hm, hg, hv, k1, k3, k4, k5, f1, f2, f3, fun i o m1 hi hm1 e1 => hne (e1 ▸ K.obj i o m1 hi hm1), I1, ⟨fun b hb => ?_, fun i o m1 hi hm1 => ?_, fun i g1 e1 cs1 fc1 m1 hi hm1 j e3 sh3 xs3 hj => ?_, fun b hb => ?_⟩, if_pos rfl⟩
 . by_cases eb : b = m2.b
   . rw [if_pos eb] at hb; exact absurd rfl hb
   . rw [if_neg eb] at hb; exact K.free b hb
 . have : O m1.b = none := by
    rw [Heap.obj_set] at hi
    by_cases ei : i = id
    . subst ei; exact K.obj i _ m1 ho hm1
    . rw [if_neg ei] at hi; exact K.obj i o m1 hi hm1
   show (if m1.b = m2.b then none else O m1.b) = none
   rw [this]; split <;> rfl
 . rw [Heap.obj_set] at hi
   have fin : ∀ (v3 : Value), RepOwn w S (fun b => O b = some (m1.b, m1.s + j)) e3 sh3 xs3 v3 -> (m1.b, m1.s + j) ≠ (m.b, m.s + c) -> RepOwn w S (fun b => (if b = m2.b then none else O b) = some (m1.b, m1.s + j)) e3 sh3 xs3 v3 := fun v3 h3 hne3 =>
    h3.mono (fun b hb => ⟨hb, rfl⟩) fun b hb => ⟨by
     have : b ≠ m2.b := fun e => hne3 (by rw [e, k2] at hb; exact (Option.some.inj hb).symm)
     rw [if_neg this]; exact hb, rfl⟩
   by_cases ei : i = id
   . subst ei
     rw [if_pos rfl] at hi
     cases hi
     rw [hm] at hm1
     cases hm1
     rcases set_get hj with ⟨_, _, h⟩ | ⟨hjc, h⟩
     . cases h
     . obtain ⟨v3, hv3, hr3⟩ := K.rep i g e cs fc m ho hm j e3 sh3 xs3 h
       exact ⟨v3, hv3, fin v3 hr3 fun e => hjc (by have := (Prod.mk.inj e).2; omega)⟩
   . rw [if_neg ei] at hi
     obtain ⟨v3, hv3, hr3⟩ := K.rep i g1 e1 cs1 fc1 m1 hi hm1 j e3 sh3 xs3 hj
     exact ⟨v3, hv3, fin v3 hr3 fun e => ei (I.inj i id _ _ m1 m hi ho hm1 hm (Prod.mk.inj e).1)⟩
 . by_cases eb : b = m2.b
   . rw [if_pos eb] at hb; exact absurd rfl hb
   . rw [if_neg eb] at hb; exact K.cel b hb
theorem Inv.addS (I : Inv B0 w S M h) {O : Own} (K : OwnOK B0 w S M h O) {b0 : Nat} (h1 : ¬ B0 b0) (h2 : b0 < w.heap.size) (h3 : ∀ i o m1, h.obj i = some o -> M i = some m1 -> m1.b ≠ b0) (h4 : O b0 = none) :
  Inv B0 w (fun b => S b \/ b = b0) M h /\ Ext B0 n0 w S M w (fun b => S b \/ b = b0) M := by
 have hS : ∀ b, S b -> (S b \/ b = b0) /\ w.heap[b]? = w.heap[b]? := fun b hb => ⟨.inl hb, rfl⟩
 have hM : ∀ i m, M i = some m -> ∃ m2, M i = some m2 /\ (m2 = m \/ (m.gen < m2.gen /\ m.ext <= m.tot)) := fun i m hm => ⟨m, hm, .inl rfl⟩
 refine ⟨⟨fun i o hi => ?_, I.at_, I.inj, fun i o m hi hm hs => ?_, fun b hb => hb.elim (I.lt b) fun e => e ▸ h2, I.base, O, ?_⟩, ⟨rfl, rfl, rfl, Nat.le_refl _, fun _ _ => rfl, hS, hM, fun _ _ h => h, fun b hb => hb.elim .inl fun (e : b = b0) => .inr fun k => h1 (e ▸ k)⟩⟩
 . obtain ⟨m, hm, hr⟩ := I.obj i o hi
   exact ⟨m, hm, hr.mono hS hM rfl⟩
 . exact hs.elim (I.stable i o m hi hm) (h3 i o m hi hm)
 . exact K.step (Nat.le_refl _) hS (fun b hb => ⟨fun hs => hs.elim (K.free b hb).1 fun e => hb (e ▸ h4), rfl⟩) K.obj fun i g e cs fc m hi hm j e2 sh xs hj => ⟨i, g, e, cs, fc, m, j, hi, hm, hj, rfl, rfl, rfl⟩
theorem Inv.addObj (I : Inv B0 w S M h) {O : Own} (K : OwnOK B0 w S M h O) (hn : ∀ i, n0 i -> i < h.next) {m2 : MI} {o2 : Obj} (hnn : ∀ g e cs fc, o2 ≠ .nest g e cs fc) (h0 : ¬ S m2.b) (h1 : ¬ B0 m2.b) (h2 : m2.b < w.heap.size) (h3 : ∀ i o m1, h.obj i = some o -> M i = some m1 -> m1.b ≠ m2.b) (h4 : O m2.b = none)
  (hO : RepO w S (M.set h.next m2) m2 o2) : M h.next = none /\ Inv B0 w S (M.set h.next m2) (h.push o2) /\ Ext B0 n0 w S M w S (M.set h.next m2) := by
 have hMn : M h.next = none := by
  cases hm : M h.next with
  | none => rfl
  | some m => exact absurd (I.at_ _ m hm).2.2 (Nat.lt_irrefl _)
 have hM : ∀ i m, M i = some m -> ∃ m', (M.set h.next m2) i = some m' /\ (m' = m \/ (m.gen < m'.gen /\ m.ext <= m.tot)) := fun i m hm => by
  have : i ≠ h.next := fun e => by rw [e, hMn] at hm; cases hm
  exact ⟨m, by simp [MM.set, this, hm], .inl rfl⟩
 have hobj : ∀ i, (h.push o2).obj i = if i = h.next then some o2 else h.obj i := fun i => Tm.get_put h.tr h.next i (some o2)
 have old : ∀ i o1, i ≠ h.next -> (h.push o2).obj i = some o1 -> h.obj i = some o1 := fun i o1 hne hi => by rw [hobj, if_neg hne] at hi; exact hi
 have oldM : ∀ i m, i ≠ h.next -> (M.set h.next m2) i = some m -> M i = some m := fun i m hne hm => by simpa only [MM.set, if_neg hne] using hm
 have newM : ∀ m, (M.set h.next m2) h.next = some m -> m = m2 := fun m hm => by simp only [MM.set, if_true, oI] at hm; exact hm.symm
 refine ⟨hMn, ⟨fun i o hi => ?_, fun i m hm => ?_, fun i j o1 o3 m1 m3 hi hj hm1 hm3 he => ?_, fun i o m hi hm => ?_, I.lt, I.base, O, ?_⟩, ⟨rfl, rfl, rfl, Nat.le_refl _, fun _ _ => rfl, fun b hb => ⟨hb, rfl⟩, hM, fun i hi hm => ?_, fun b hb => .inl hb⟩⟩
 . by_cases e : i = h.next
   . subst e
     rw [hobj, if_pos rfl] at hi
     cases hi
     exact ⟨m2, by simp [MM.set], hO⟩
   . obtain ⟨m, hm, hr⟩ := I.obj i o (old i o e hi)
     exact ⟨m, by simp [MM.set, e, hm], hr.mono (fun b hb => ⟨hb, rfl⟩) hM rfl⟩
 . by_cases e : i = h.next
   . subst e
     rw [newM m hm]
     exact ⟨h1, h2, Nat.lt_succ_self _⟩
   . have := I.at_ i m (oldM i m e hm)
     exact ⟨this.1, this.2.1, Nat.lt_succ_of_lt this.2.2⟩
 . by_cases e1 : i = h.next <;> by_cases e2 : j = h.next
   . rw [e1, e2]
   . subst e1
     rw [newM m1 hm1] at he
     exact absurd he.symm (h3 j o3 m3 (old j o3 e2 hj) (oldM j m3 e2 hm3))
   . subst e2
     rw [newM m3 hm3] at he
     exact absurd he (h3 i o1 m1 (old i o1 e1 hi) (oldM i m1 e1 hm1))
   . exact I.inj i j o1 o3 m1 m3 (old i o1 e1 hi) (old j o3 e2 hj) (oldM i m1 e1 hm1) (oldM j m3 e2 hm3) he
 . by_cases e : i = h.next
   . subst e; rw [newM m hm]; exact h0
   . exact I.stable i o m (old i o e hi) (oldM i m e hm)
 . refine K.step (Nat.le_refl _) (fun b hb => ⟨hb, rfl⟩) (fun b hb => ⟨(K.free b hb).1, rfl⟩) (fun i o m hi hm => ?_) fun i g e cs fc m hi hm j e2 sh xs hj => ?_
   . by_cases e : i = h.next
     . subst e; rw [newM m hm]; exact h4
     . exact K.obj i o m (old i o e hi) (oldM i m e hm)
   . by_cases ei : i = h.next
     . subst ei
       rw [hobj, if_pos rfl] at hi
       cases hi
       exact absurd rfl (hnn g e cs fc)
     . exact ⟨i, g, e, cs, fc, m, j, old i _ ei hi, oldM i m ei hm, hj, rfl, rfl, rfl⟩
 . have : i ≠ h.next := fun e => Nat.lt_irrefl _ (e ▸ hn i hi)
   simpa only [MM.set, if_neg this] using hm
theorem nestCells_some {id gen : Nat} {p : TypeId × List C} (h1 : nestCells h id gen = some p) : h.obj id = some (.nest gen p.1 p.2 none) := by
 unfold nestCells at h1
 split at h1
 . rename_i g e cs ho
   cases hg : Nat.beq g gen with
   | false => rw [hg] at h1; cases h1
   | true => rw [hg] at h1; cases h1; rw [ho, Nat.eq_of_beq_eq_true hg]
 . cases h1
def Ghost (B0 : Nat -> Prop) (n0 : Nat -> Prop) (w : World) (S : Nat -> Prop) (M : MM) (h h' : Heap) : Prop :=
 h.next <= h'.next /\ ∃ S' M', Inv B0 w S' M' h' /\ Ext B0 n0 w S M w S' M'
theorem Ghost.refl (I : Inv B0 w S M h) : Ghost B0 n0 w S M h h := ⟨Nat.le_refl _, S, M, I, Ext.refl ..⟩
theorem openAt_run (I : Inv B0 w S M h) (hn : ∀ i, n0 i -> i < h.next) {id gen c : Nat} {h' : Heap} (hq : openAt id gen c h = some h') : Ghost B0 n0 w S M h h' := by
 simp only [openAt, oB] at hq
 obtain ⟨⟨e, cs⟩, h1, hq⟩ := hq
 have ho := nestCells_some h1
 split at hq
 . rename_i e2 sh xs hc
   cases hq
   obtain ⟨m, m2, v, O, hm, hg, hv, g2, hfit, hrv, hro, f1, f2, f3, f4, I1, K1, o1⟩ := I.ownOut ho hc
   have hclt : c < cs.length := (gS.1 hc).1
   have live : ∀ i o m1, (h.set id (some (.nest gen e (cs.set c (.v .junk)) none))).obj i = some o -> M i = some m1 -> m1.b ≠ m2.b := fun i o m1 hi hm1 => by
    rw [Heap.obj_set] at hi
    by_cases ei : i = id
    . subst ei; exact f4 i _ m1 ho hm1
    . rw [if_neg ei] at hi; exact f4 i o m1 hi hm1
   obtain ⟨hMn, I2, E2⟩ := I1.addObj (n0 := n0) K1 hn (o2 := .cells 1 e2 false (ownCells xs)) (fun _ _ _ _ h => by cases h) f1 f2 f3 live o1 (hro.mono (fun b hb => ⟨hb, rfl⟩) (fun i m h => by cases h) rfl)
   have hne : id ≠ h.next := fun e => by have := (I.at_ id m hm).2.2; omega
   have ho2 : ((h.set id (some (.nest gen e (cs.set c (.v .junk)) none))).push (.cells 1 e2 false (ownCells xs))).obj id = some (.nest gen e (cs.set c (.v .junk)) none) := by
    show (Tm.put _ _ _).get id = _
    rw [Tm.get_put, Heap.next_set, if_neg hne]
    exact (Heap.obj_set ..).trans (if_pos rfl)
   have hm2 : (M.set h.next m2) id = some m := by simp [MM.set, hne, hm]
   obtain ⟨m3, arr3, hm3, _, _, _, _, _, hcell3, _⟩ := nest_cells I2 ho2
   rw [show (M.set (h.set id (some (.nest gen e (cs.set c (.v .junk)) none))).next m2) id = some m from hm2] at hm3
   cases hm3
   obtain ⟨I3, _⟩ := I2.nest ho2 hm2 (cs' := cs.set c (.v .junk)) (fc' := some (c, [.msl h.next 1 0 xs.length sh])) rfl (fun j e3 sh3 xs3 hj => hj) hcell3 (fun p fs hp => by
    cases hp
    refine ⟨by simp; omega, fun j hj => ?_, fun j x hj => ?_⟩
    . have : j = 0 := by simpa using hj
      subst this
      rw [Nat.add_zero, List.getElem?_set_self hclt]
    . cases j with
      | succ j => simp at hj
      | zero =>
       simp at hj
       subst hj
       refine ⟨v, by simpa using hv, ?_⟩
       cases hrv with
       | msl _ _ _ _ _ b o cap hl m3 hm3 hgl hat =>
        cases hm3
        exact .msl _ _ _ _ _ b o cap hl m2 (by show (if h.next = h.next then some m2 else M h.next) = _; simp) (Nat.le_of_eq g2.symm) fun _ => hat g2)
   refine ⟨Nat.le_succ _, S, _, ?_, E2⟩
   refine I3.sub rfl fun i o hi => ?_
   rw [Heap.obj_set] at hi ⊢
   by_cases ei : i = id
   . rw [if_pos ei] at hi ⊢
     exact hi
   . rw [if_neg ei] at hi ⊢
     show (Tm.put _ _ _).get i = _
     have : (Tm.put h.tr h.next (some (.cells 1 e2 false (ownCells xs)))).get i = some o := hi
     rw [Tm.get_put] at this ⊢
     rw [Heap.next_set]
     split at this
     . rename_i e1; rw [if_pos e1]; exact this
     . rename_i e1; rw [if_neg e1]; exact ((Heap.obj_set ..).trans (if_neg ei)).trans this
 . cases hq; exact .refl I
 . cases hq
theorem freeze1_run (I : Inv B0 w S M h) {id gen c : Nat} {e : TypeId} {cs : List C} (ho : h.obj id = some (.nest gen e cs none)) {x : C} (hc : cs[c]? = some x) :
  ∃ S', Inv B0 w S' M (h.set id (some (.nest gen e (cs.set c (freezeC x)) none))) /\ Ext B0 n0 w S M w S' M := by
 have hclt : c < cs.length := (gS.1 hc).1
 cases x with
 | v x =>
  have : cs.set c (freezeC (.v x)) = cs := by
   apply List.ext_getElem?
   intro j
   by_cases ej : c = j
   . subst ej; rw [List.getElem?_set_self hclt, hc]; rfl
   . rw [List.getElem?_set_ne ej]
  rw [this]
  refine ⟨S, I.sub rfl fun i o hi => ?_, Ext.refl ..⟩
  rw [Heap.obj_set] at hi
  split at hi
  . rename_i ei; rw [ei, ho, <- hi]
  . exact hi
 | own e2 sh xs =>
  obtain ⟨m, m2, v, O, hm, hg, hv, g2, hfit, hrv, hro, f1, f2, f3, f4, I1, K1, o1⟩ := I.ownOut ho hc
  have live : ∀ i o m1, (h.set id (some (.nest gen e (cs.set c (.v .junk)) none))).obj i = some o -> M i = some m1 -> m1.b ≠ m2.b := fun i o m1 hi hm1 => by
   rw [Heap.obj_set] at hi
   by_cases ei : i = id
   . subst ei; exact f4 i _ m1 ho hm1
   . rw [if_neg ei] at hi; exact f4 i o m1 hi hm1
  obtain ⟨I2, E2⟩ := I1.addS (n0 := n0) K1 f2 f3 live o1
  have ho2 : (h.set id (some (.nest gen e (cs.set c (.v .junk)) none))).obj id = some (.nest gen e (cs.set c (.v .junk)) none) := (Heap.obj_set ..).trans (if_pos rfl)
  obtain ⟨m3, arr3, hm3, _, _, _, _, _, hcell3, _⟩ := nest_cells I2 ho2
  rw [hm] at hm3
  cases hm3
  obtain ⟨I3, _⟩ := I2.nest ho2 hm (cs' := cs.set c (.v (.t (.sl false (shSize sh) xs)))) (fc' := none) (by simp) (fun j e3 sh3 xs3 hj => by
    rcases set_get hj with ⟨_, _, h⟩ | ⟨hne, h⟩
    . cases h
    . rw [List.getElem?_set_ne fun k => hne k.symm]; exact h) (fun j y hj => by
    rcases set_get hj with ⟨rfl, _, h⟩ | ⟨hne, h⟩
    . cases h
      exact ⟨v, hv, .t _ _ (own_tree (S := S) (F := fun b => b = m2.b) (fun b hb => .inl hb) (fun b hb => .inr hb) ⟨m2, g2, rfl, hfit, hrv, hro⟩)⟩
    . exact hcell3 j y (by rw [List.getElem?_set_ne fun k => hne k.symm]; exact h)) (fun p fs hp => by cases hp)
  refine ⟨_, ?_, E2⟩
  refine I3.sub rfl fun i o hi => ?_
  rw [Heap.obj_set] at hi ⊢
  by_cases ei : i = id
  . rw [if_pos ei] at hi ⊢; exact hi
  . rw [if_neg ei] at hi ⊢
    rw [Heap.obj_set, if_neg ei]; exact hi
theorem freezeN_run {id gen : Nat} {e : TypeId} : ∀ (n c : Nat) {S : Nat -> Prop} {h : Heap} {cs : List C} (_ : Inv B0 w S M h), h.obj id = some (.nest gen e cs none) -> c + n <= cs.length →
  ∃ S', Inv B0 w S' M (h.set id (some (.nest gen e (setRange cs c (((cs.drop c).take n).map freezeC)) none))) /\ Ext B0 n0 w S M w S' M
 | 0, c, S, h, cs, I, ho, hl => by
  have : setRange cs c (((cs.drop c).take 0).map freezeC) = cs := by simp [setRange]
  rw [this]
  refine ⟨S, I.sub rfl fun i o hi => ?_, Ext.refl ..⟩
  rw [Heap.obj_set] at hi
  split at hi
  . rename_i ei; rw [ei, ho, <- hi]
  . exact hi
 | n + 1, c, S, h, cs, I, ho, hl => by
  have hclt : c < cs.length := by omega
  obtain ⟨S1, I1, E1⟩ := freeze1_run (n0 := n0) I ho (c := c) (x := cs[c]) (by simp [hclt])
  obtain ⟨S2, I2, E2⟩ := freezeN_run n (c + 1) I1 ((Heap.obj_set ..).trans (if_pos rfl)) (by simp; omega)
  refine ⟨S2, I2.sub rfl fun i o hi => ?_, E1.trans E2 fun i h => h⟩
  rw [Heap.obj_set] at hi ⊢
  by_cases ei : i = id
  . rw [if_pos ei] at hi ⊢
    rw [<- hi]
    congr 2
    apply List.ext_getElem?
    intro j
    have e1 : (cs.set c (freezeC cs[c])).drop (c + 1) = cs.drop (c + 1) := by rw [List.drop_set_of_lt (by omega)]
    have l1 : (((cs.drop (c + 1)).take n).map freezeC).length = n := by simp; omega
    have l2 : (((cs.drop c).take (n + 1)).map freezeC).length = n + 1 := by simp; omega
    rw [e1, setRange_get _ _ _ _ (by rw [l1]; simp; omega), setRange_get _ _ _ _ (by rw [l2]; omega), l1, l2]
    by_cases c1 : j < c
    . rw [if_pos (by omega), if_pos c1, List.getElem?_set_ne (by omega)]
    . by_cases c2 : j = c
      . subst c2
        rw [if_pos (by omega), if_neg (by omega), if_pos (by omega), List.getElem?_set_self hclt]
        simp [hclt]
      . rw [if_neg (by omega), if_neg c1]
        by_cases c3 : j < c + (n + 1)
        . rw [if_pos (by omega), if_pos c3]
          simp only [List.getElem?_map, List.getElem?_take, List.getElem?_drop]
          rw [if_pos (by omega), if_pos (by omega)]
          congr 2; omega
        . rw [if_neg (by omega), if_neg c3, List.getElem?_set_ne (by omega)]
  . rw [if_neg ei] at hi ⊢
    rw [Heap.obj_set, if_neg ei]; exact hi
theorem freezeAt_run (I : Inv B0 w S M h) {id gen c n : Nat} {h' : Heap} (hq : freezeAt id gen c n h = some h') : Ghost B0 n0 w S M h h' := by
 simp only [freezeAt, oB] at hq
 obtain ⟨⟨e, cs⟩, h1, hq⟩ := hq
 have ho := nestCells_some h1
 simp only at hq ho
 cases hb : Nat.ble (c + n) cs.length with
 | false => rw [hb] at hq; cases hq
 | true =>
  rw [hb] at hq
  cases hq
  obtain ⟨S', I', E'⟩ := freezeN_run (n0 := n0) n c I ho (Nat.le_of_ble_eq_true hb)
  exact ⟨Nat.le_refl _, S', M, I', E'⟩
theorem nestRow_run (I : Inv B0 w S M h) {v : V} {h' : Heap} (hq : nestRow h v = some h') : Ghost B0 n0 w S M h h' := by
 unfold nestRow at hq
 split at hq
 . rename_i id gen off len sh
   split at hq
   . rename_i g e cs ho
     cases hg : Nat.beq g gen with
     | false => rw [hg] at hq; cases hq
     | true =>
      rw [hg] at hq
      cases hq
      obtain ⟨m, hm, h1, h2, h3, arr, fr, h4, h5, h6, h7, h8⟩ := I.obj id _ ho
      have hfr := h5 rfl
      subst hfr
      have := I.put (n0 := n0) (w' := w) id (.nest g e (cs.map .v) none) m (fun m1 k1 => by rw [hm] at k1; cases k1; exact ⟨by rw [ho]; simp, .inl rfl⟩) (fun hn => by rw [hm] at hn; cases hn) rfl rfl rfl (Nat.le_refl _)
       (fun b _ hb => rfl) (.inr ⟨m, hm, rfl⟩) (I.at_ id m hm).2.1
       (by
        rw [MM.set_self hm]
        refine ⟨h1, by simpa using h2, by simpa using h3, arr, h4, h6, by simpa using h7, fun j x hj => ?_, fun p fs hp => by cases hp⟩
        rw [List.getElem?_map, oM] at hj
        obtain ⟨y, hy, hyx⟩ := hj
        cases hyx
        exact h8 j _ hy)
       (fun g1 e1 cs1 fc1 ho1 j e2 sh xs hj => by
        cases ho1
        rw [List.getElem?_map, oM] at hj
        obtain ⟨y, hy, hyx⟩ := hj
        cases hyx)
      rw [MM.set_self hm] at this
      exact ⟨Nat.le_refl _, S, M, this.1, this.2⟩
   . cases hq; exact .refl I
   . cases hq
 . cases hq; exact .refl I
 . cases hq
theorem close1_run (I : Inv B0 w S M h) {id g : Nat} {e : TypeId} {cs : List C} {p : Nat} {v : V} {fs : List V} (ho : h.obj id = some (.nest g e cs (some (p, v :: fs)))) :
  (∀ x, v = .t x -> Inv B0 w S M (h.set id (some (.nest g e (cs.set p (.v (.t x))) (some (p + 1, fs)))))) ∧
  ∀ id2 g2 off len sh e2 cs2 xs, v = .msl id2 g2 off len sh -> h.obj id2 = some (.cells g2 e2 false cs2) -> id ≠ id2 -> rowOf sh cs2 off len = some xs →
   Inv B0 w S M ((h.set id2 none).set id (some (.nest g e (cs.set p (.own e2 sh xs)) (some (p + 1, fs))))) := by
 obtain ⟨m, arr, hm, hmg, hext, hheap, hsz, hle, hcell, hfoc⟩ := nest_cells I ho
 obtain ⟨f1, f2, f3⟩ := hfoc p (v :: fs) rfl
 simp only [List.length_cons] at f1 f2
 obtain ⟨v0, hv0, hr0⟩ := f3 0 v rfl
 have hrest : ∀ (j : Nat) (x : V), fs[j]? = some x -> ∃ v, w.cell? ⟨m.b, m.s + (p + 1) + j, none⟩ = some v /\ RepV w S M x v := fun j x hj => by
  obtain ⟨v1, h1, h2⟩ := f3 (j + 1) x (by simpa using hj)
  exact ⟨v1, by rw [<- h1]; congr 2; omega, h2⟩
 have hjr : ∀ (c : C) (j : Nat), j < fs.length -> (cs.set p c)[p + 1 + j]? = some (.v .junk) := fun c j hj => by
  rw [List.getElem?_set_ne (by omega), <- f2 (j + 1) (by omega)]
  congr 1; omega
 have hplt : p < cs.length := by omega
 have hpj : cs[p]? = some (.v .junk) := by simpa using f2 0 (by omega)
 constructor
 . rintro x rfl
   exact (I.nest ho hm (cs' := cs.set p (.v (.t x))) (fc' := some (p + 1, fs)) (by simp) (fun j e3 sh3 xs3 hj => by
     rcases set_get hj with ⟨_, _, h⟩ | ⟨_, h⟩
     . cases h
     . exact h) (fun j y hj => by
     rcases set_get hj with ⟨rfl, _, h⟩ | ⟨_, h⟩
     . cases h; exact ⟨v0, by simpa using hv0, hr0⟩
     . exact hcell j y h) (fun q gs hq => by
     cases hq
     exact ⟨by omega, hjr _, hrest⟩)).1
 . rintro id2 g2 off len sh e2 cs2 xs rfl ho2 hne hxs
   obtain ⟨m2, arr2, fr2, hm2, hmg2, hext2, hheap2, hfr2, hsz2, hle2, hcell2, hlist2⟩ := obj_cells I ho2
   have := hfr2 rfl
   subst this
   obtain ⟨O, K⟩ := I.own
   simp only [rowOf, oB] at hxs
   obtain ⟨es, hes, ys, hys, hx⟩ := hxs
   split at hx
   case isFalse => cases hx
   rename_i hall
   cases hx
   simp only [List.all_eq_true] at hall
   have hesm := allT_spec hys
   obtain ⟨el, _⟩ := elemsFrom_spec hes
   have hlen : xs.length = len := by rw [<- el, hesm]; simp
   have hmb := I.at_ id2 m2 hm2
   have hOn : O m2.b = none := K.obj id2 _ m2 ho2 hm2
   have hnS : ¬ S m2.b := I.stable id2 _ m2 ho2 hm2
   have hother : ∀ i o m1, i ≠ id2 -> h.obj i = some o -> M i = some m1 -> m1.b ≠ m2.b := fun i o m1 hi h1 h3 e1 => hi (I.inj i id2 o _ m1 m2 h1 ho2 h3 hm2 e1)
   have hnest : ∀ i, ((h.set id2 none).set id (some (Obj.nest g e (cs.set p (.own e2 sh xs)) (some (p + 1, fs))))).obj i = if i = id then some (.nest g e (cs.set p (.own e2 sh xs)) (some (p + 1, fs))) else if i = id2 then none else h.obj i := fun i => by
    rw [Heap.obj_set, Heap.obj_set]
   have back : ∀ i o, ((h.set id2 none).set id (some (Obj.nest g e (cs.set p (.own e2 sh xs)) (some (p + 1, fs))))).obj i = some o -> i ≠ id2 /\ ∃ o', h.obj i = some o' /\ (i ≠ id -> o' = o) := fun i o hi => by
    rw [hnest] at hi
    by_cases e1 : i = id
    . subst e1
      exact ⟨hne, _, ho, fun k => absurd rfl k⟩
    . rw [if_neg e1] at hi
      by_cases e3 : i = id2
      . rw [if_pos e3] at hi; cases hi
      . rw [if_neg e3] at hi; exact ⟨e3, o, hi, fun _ => rfl⟩
   refine ⟨fun i o hi => ?_, I.at_, fun i j o1 o3 m1 m3 hi hj hm1 hm3 he => ?_, fun i o m1 hi hm1 => ?_, I.lt, I.base, fun b => if b = m2.b then some (m.b, m.s + p) else O b, fun b hb => ?_, fun i o m1 hi hm1 => ?_, fun i g1 e1 cs1 fc1 m1 hi hm1 j e3 sh3 xs3 hj => ?_, fun b hb => ?_⟩
   . obtain ⟨hi2, o', ho', hoo⟩ := back i o hi
     by_cases e1 : i = id
     . subst e1
       rw [hnest, if_pos rfl] at hi
       cases hi
       obtain ⟨m', hm', k1, k2, k3, arr', k4, k5, k6, k7, k8⟩ := I.obj i _ ho
       rw [hm] at hm'
       cases hm'
       refine ⟨m, hm, k1, by rw [List.length_set]; exact k2, by rw [List.length_set]; exact k3, arr', k4, k5, by rw [List.length_set]; exact k6, fun j y hj => ?_, fun q gs hq => ?_⟩
       . rcases set_get hj with ⟨_, _, hy⟩ | ⟨_, hy⟩
         . cases hy
         . exact k7 j y hy
       . cases hq
         refine ⟨by rw [List.length_set]; omega, hjr _, fun j x hj => ?_⟩
         obtain ⟨v1, h1, h2⟩ := hrest j x hj
         exact ⟨v1, by simpa [World.cell?, k4] using h1, h2⟩
     . cases hoo e1
       exact I.obj i _ ho'
   . obtain ⟨_, o', ho', _⟩ := back i o1 hi
     obtain ⟨_, o'', ho'', _⟩ := back j o3 hj
     exact I.inj i j o' o'' m1 m3 ho' ho'' hm1 hm3 he
   . obtain ⟨_, o', ho', _⟩ := back i o hi
     exact I.stable i o' m1 ho' hm1
   . by_cases eb : b = m2.b
     . rw [eb]; exact ⟨hnS, hmb.1, hmb.2.1⟩
     . rw [if_neg eb] at hb; exact K.free b hb
   . obtain ⟨hi2, o', ho', _⟩ := back i o hi
     show (if m1.b = m2.b then some (m.b, m.s + p) else O m1.b) = none
     rw [if_neg (hother i o' m1 hi2 ho' hm1)]
     exact K.obj i o' m1 ho' hm1
   . have fin : ∀ (v3 : Value), RepOwn w S (fun b => O b = some (m1.b, m1.s + j)) e3 sh3 xs3 v3 -> RepOwn w S (fun b => (if b = m2.b then some (m.b, m.s + p) else O b) = some (m1.b, m1.s + j)) e3 sh3 xs3 v3 := fun v3 h3 =>
      h3.mono (fun b hb => ⟨hb, rfl⟩) fun b hb => ⟨by
       have : b ≠ m2.b := fun e => by rw [e, hOn] at hb; cases hb
       rw [if_neg this]; exact hb, rfl⟩
     by_cases e1 : i = id
     . subst e1
       rw [hnest, if_pos rfl] at hi
       cases hi
       rw [hm] at hm1
       cases hm1
       rcases set_get hj with ⟨rfl, _, hy⟩ | ⟨_, hy⟩
       . cases hy
         obtain ⟨ef, ele⟩ := elemsFrom_flat hes (fun u hu => by
          rw [hesm] at hu
          obtain ⟨y, hy, rfl⟩ := List.mem_map.1 hu
          exact T.fits_t (hall y hy))
         have hoc : ownCells xs = (cs2.drop off).take (len * shSize sh) := by
          rw [<- ef, hesm, ownCells_map]
         have hocl : (ownCells xs).length = len * shSize sh := by
          rw [hoc]
          rcases Nat.eq_zero_or_pos len with h0 | h0
          . rw [h0]; simp
          . have := ele h0; simp; omega
         cases hr0 with
         | msl _ _ _ _ _ b o cap hl m3 hm3 hgl hat =>
          rw [hm2] at hm3
          cases hm3
          obtain ⟨rfl, a2, a3, a4⟩ := hat hmg2
          have hmul := Nat.mul_le_mul_right (shSize sh) hl
          refine ⟨_, by simpa using hv0, ⟨m2.b, m2.s + off, 1, (ownCells xs).length, m2.tot⟩, rfl, if_pos rfl, hall, ?_, rfl, rfl, (fun h => by cases h), arr2, (0, 0), hheap2, fun _ => rfl, hsz2, ?_, fun q x hq => ?_⟩
          . rw [hlen]
            refine .msl _ _ _ _ _ m2.b o cap hl _ rfl (Nat.le_refl _) fun _ => ⟨rfl, by simpa using a2, ?_, ?_⟩
            . show (ownCells xs).length <= _; omega
            . show m2.s + off + 0 + cap * shSize sh <= m2.tot; omega
          . show m2.s + off + (ownCells xs).length <= m2.tot; omega
          . rw [hoc] at hq
            have hql : q < len * shSize sh := by rw [<- hocl, hoc]; exact (gS.1 hq).1
            rw [List.getElem?_take, if_pos hql, List.getElem?_drop] at hq
            obtain ⟨u, hu, hr⟩ := hcell2 _ _ hq
            refine ⟨u, ?_, ?_⟩
            . show arr2[m2.s + off + q]? = some u
              simpa [World.cell?, hheap2, Nat.add_assoc] using hu
            . have hxt : ∃ y, x = .t y := by
               have : x ∈ ownCells xs := by
                rw [hoc]
                exact List.mem_of_getElem? (i := q) (by rw [List.getElem?_take, if_pos hql, List.getElem?_drop]; exact hq)
               obtain ⟨y, _, rfl⟩ := List.mem_map.1 this
               exact ⟨y, rfl⟩
              obtain ⟨y, rfl⟩ := hxt
              exact .t _ _ (repV_t hr)
       . obtain ⟨v3, hv3, hr3⟩ := K.rep i _ _ cs _ m ho hm j e3 sh3 xs3 hy
         exact ⟨v3, hv3, fin v3 hr3⟩
     . rw [hnest, if_neg e1] at hi
       split at hi
       . cases hi
       . obtain ⟨v3, hv3, hr3⟩ := K.rep i g1 _ cs1 fc1 m1 hi hm1 j e3 sh3 xs3 hj
         exact ⟨v3, hv3, fin v3 hr3⟩
   . by_cases eb : b = m2.b
     . rw [eb]; exact ⟨arr2, e2, (0, 0), hheap2⟩
     . rw [if_neg eb] at hb; exact K.cel b hb
theorem setRange_cons {α : Type} (cs : List α) (p : Nat) (c : α) (r : List α) (h : p + (r.length + 1) <= cs.length) : setRange (cs.set p c) (p + 1) r = setRange cs p (c :: r) := by
 apply List.ext_getElem?
 intro j
 rw [setRange_get _ _ _ _ (by simp; omega), setRange_get _ _ _ _ (by simp; omega), List.length_cons]
 by_cases c1 : j < p
 . rw [if_pos (by omega), if_pos c1, List.getElem?_set_ne (by omega)]
 . by_cases c2 : j = p
   . subst c2
     rw [if_pos (by omega), if_neg (by omega), if_pos (by omega), List.getElem?_set_self (by omega)]
     simp
   . rw [if_neg (by omega), if_neg c1]
     by_cases c3 : j < p + (r.length + 1)
     . rw [if_pos (by omega), if_pos c3, show j - p = (j - (p + 1)) + 1 by omega, List.getElem?_cons_succ]
     . rw [if_neg (by omega), if_neg c3, List.getElem?_set_ne (by omega)]
theorem closeCells_set (id : Nat) (ob : Option Obj) : ∀ (fs : List V) (h : Heap), closeCells id fs (h.set id ob) = (closeCells id fs h).map fun p => (p.1, p.2.set id ob)
 | [], h => rfl
 | v :: fs, h => by
  cases v with
  | t x =>
   simp only [closeCells, closeCells_set id ob fs h]
   cases closeCells id fs h <;> rfl
  | msl id2 g2 off len sh =>
   simp only [closeCells]
   cases hne : Nat.beq id id2 with
   | true => rfl
   | false =>
    have hneq : id2 ≠ id := fun e => by rw [e] at hne; simp at hne
    simp only [cond_false, Heap.obj_set, if_neg hneq]
    split
    . rename_i g3 e3 cs3 ho3
      cases Nat.beq g3 g2 with
      | false => rfl
      | true =>
       simp only [cond_true]
       cases rowOf sh cs3 off len with
       | none => rfl
       | some xs =>
        have hcomm : (h.set id ob).set id2 none = (h.set id2 none).set id ob := by
         show (⟨h.next, (h.tr.put id ob).put id2 none⟩ : Heap) = ⟨h.next, (h.tr.put id2 none).put id ob⟩
         rw [Tm.put_comm _ _ _ _ _ hneq.symm]
        simp only [oS, hcomm, closeCells_set id ob fs (h.set id2 none)]
        cases closeCells id fs (h.set id2 none) <;> rfl
    . rfl
  | _ => rfl
theorem close_run {id g : Nat} {e : TypeId} : ∀ (fs : List V) (p : Nat) {cs : List C} {h h1 : Heap} {q : List C} (_ : Inv B0 w S M h), h.obj id = some (.nest g e cs (some (p, fs))) -> closeCells id fs h = some (q, h1) →
  q.length = fs.length /\ h1.next = h.next /\ Inv B0 w S M (h1.set id (some (.nest g e (setRange cs p q) none)))
 | [], p, cs, h, h1, q, I, ho, hq => by
  cases hq
  refine ⟨rfl, rfl, ?_⟩
  obtain ⟨m, arr, hm, _, _, _, _, _, hcell, _⟩ := nest_cells I ho
  have : setRange cs p ([] : List C) = cs := by simp [setRange]
  rw [this]
  exact (I.nest ho hm (cs' := cs) (fc' := none) rfl (fun _ _ _ _ h => h) hcell (fun _ _ h => by cases h)).1
 | v :: fs, p, cs, h, h1, q, I, ho, hq => by
  obtain ⟨m, arr, hm, _, _, _, _, _, _, hfoc⟩ := nest_cells I ho
  have hfl := (hfoc p (v :: fs) rfl).1
  simp only [List.length_cons] at hfl
  obtain ⟨k1, k2⟩ := close1_run I ho
  have fin : ∀ (c : C) (h2 : Heap) (r : List C) (h3 : Heap), Inv B0 w S M (h2.set id (some (.nest g e (cs.set p c) (some (p + 1, fs))))) -> h2.next = h.next -> closeCells id fs h2 = some (r, h3) →
    (c :: r).length = (v :: fs).length /\ h3.next = h.next /\ Inv B0 w S M (h3.set id (some (.nest g e (setRange cs p (c :: r)) none))) := by
   intro c h2 r h3 I2 hn hc
   have hc2 := closeCells_set id (some (Obj.nest g e (cs.set p c) (some (p + 1, fs)))) fs h2
   rw [hc] at hc2
   obtain ⟨l1, n1, I3⟩ := close_run fs (p + 1) I2 ((Heap.obj_set ..).trans (if_pos rfl)) hc2
   refine ⟨by simp [l1], by rw [<- hn]; exact n1, ?_⟩
   rw [<- setRange_cons cs p c r (by rw [l1]; exact hfl)]
   refine I3.sub rfl fun i o hi => ?_
   rw [Heap.obj_set] at hi ⊢
   by_cases ei : i = id
   . rw [if_pos ei] at hi ⊢; exact hi
   . rw [if_neg ei] at hi ⊢
     rw [Heap.obj_set, if_neg ei]; exact hi
  cases v with
  | t x =>
   simp only [closeCells, oM, Prod.mk.injEq] at hq
   obtain ⟨⟨r, h3⟩, hc, rfl, rfl⟩ := hq
   exact fin _ h r h3 (k1 x rfl) rfl hc
  | msl id2 g2 off len sh =>
   simp only [closeCells] at hq
   cases hne : Nat.beq id id2 with
   | true => rw [hne] at hq; cases hq
   | false =>
    rw [hne] at hq
    simp only [cond_false] at hq
    split at hq
    . rename_i g3 e3 cs3 ho3
      cases hg : Nat.beq g3 g2 with
      | false => rw [hg] at hq; cases hq
      | true =>
       rw [hg] at hq
       have := Nat.eq_of_beq_eq_true hg
       subst this
       simp only [cond_true, oB, oM, Prod.mk.injEq] at hq
       obtain ⟨xs, hxs, ⟨r, h3⟩, hc, rfl, rfl⟩ := hq
       have hneq : id ≠ id2 := fun e => by rw [e] at hne; simp at hne
       exact fin _ _ r h3 (k2 id2 _ off len sh e3 cs3 xs rfl ho3 hneq hxs) rfl hc
    . cases hq
  | _ => cases hq
theorem closeRow_run (I : Inv B0 w S M h) {v : V} {h' : Heap} (hq : closeRow h v = some h') : Ghost B0 n0 w S M h h' := by
 have key : ∀ (id g : Nat) (e : TypeId) (cs : List C) (p : Nat × List V), h.obj id = some (.nest g e cs (some p)) -> (closeCells id p.2 h).map (fun q => q.2.set id (some (.nest g e (setRange cs p.1 q.1) none))) = some h' -> Ghost B0 n0 w S M h h' := by
  intro id g e cs p ho hq
  simp only [oM] at hq
  obtain ⟨⟨q, h1⟩, hc, rfl⟩ := hq
  obtain ⟨_, n1, I1⟩ := close_run p.2 p.1 I ho hc
  exact ⟨Nat.le_of_eq n1.symm, S, M, I1, Ext.refl ..⟩
 unfold closeRow at hq
 split at hq
 . split at hq
   . rename_i g e cs fc ho
     split at hq
     . exact key _ _ _ _ _ ho hq
     . cases hq; exact .refl I
   . cases hq
 . split at hq
   . rename_i g e cs fc ho
     split at hq
     . exact key _ _ _ _ _ ho hq
     . cases hq; exact .refl I
   . cases hq
 . cases hq; exact .refl I
 . cases hq
theorem shutNest_run {k : Nat} {s : Spot} (I : Inv B0 w S M h) (hn : ∀ i, n0 i -> i < h.next) {h' : Heap} (hq : shutNest k s ts h = some h') : Ghost B0 n0 w S M h h' := by
 unfold shutNest at hq
 cases h1 : Nat.beq k 1 with
 | true =>
  rw [h1] at hq
  simp only [cond_true, oB] at hq
  obtain ⟨v, _, hq⟩ := hq
  exact nestRow_run I hq
 | false =>
  rw [h1] at hq
  cases h3 : Nat.beq k 3 with
  | true =>
   rw [h3] at hq
   simp only [cond_true, cond_false, oB] at hq
   obtain ⟨v, _, hq⟩ := hq
   exact closeRow_run I hq
  | false =>
   rw [h3] at hq
   simp only [cond_false, oB] at hq
   obtain ⟨p, _, hq⟩ := hq
   cases h2 : Nat.beq k 2 with
   | true => rw [h2] at hq; exact openAt_run I hn hq
   | false => rw [h2] at hq; exact freezeAt_run I hq
theorem shutDeep_cases {ts : Ts} {h : Heap} {d : Tmp} {ts' : Ts} {h' : Heap} (h2 : shutDeep ts h d = some (ts', h')) : h' = h \/ ∃ ids, h' = dropAll ids h := by
 unfold shutDeep at h2
 split at h2
 . simp only at h2
   split at h2
   . cases h2; exact .inr ⟨_, rfl⟩
   . cases h2; exact .inl rfl
 . cases h2
theorem dropAll_next : ∀ (ids : List Nat) (h : Heap), (dropAll ids h).next = h.next
 | [], h => rfl
 | id :: r, h => (dropAll_next r _).trans rfl
theorem shutOne_next {ts : Ts} {h : Heap} {d : Tmp} {ts' : Ts} {h' : Heap} (h2 : shutOne ts h d = some (ts', h')) : h'.next = h.next := by
 unfold shutOne at h2
 split at h2
 . split at h2
   . split at h2
     . split at h2
       . cases h2; rfl
       . cases h2; rfl
     . cases h2; rfl
   . cases h2; rfl
 . split at h2
   . split at h2
     . split at h2
       . cases h2; rfl
       . cases h2; rfl
     . cases h2; rfl
   . cases h2; rfl
 . cases h2; rfl
 . cases h2
theorem unrow_next {k : Nat} {ts : Ts} {h : Heap} {d : Tmp} {ts' : Ts} {h' : Heap} (h2 : unrow k ts h d = some (ts', h')) : h'.next = h.next := by
 unfold unrow at h2
 split at h2
 . split at h2
   . split at h2
     . split at h2
       . split at h2
         . split at h2
           . cases h2; rfl
           . cases h2; rfl
         . cases h2; rfl
       . cases h2; rfl
     . cases h2; rfl
   . cases h2; rfl
 . cases h2; rfl
 . cases h2
theorem shutOld_next {ts : Ts} {h : Heap} {d : Tmp} {ts' : Ts} {h' : Heap} (h2 : shutOld ts h d = some (ts', h')) : h'.next = h.next := by
 unfold shutOld at h2
 cases hc : Nat.ble 100000 d with
 | true => rw [hc] at h2; exact unrow_next h2
 | false =>
  rw [hc] at h2
  cases hc2 : Nat.ble 50000 d with
  | true =>
   rw [hc2] at h2
   rcases shutDeep_cases h2 with rfl | ⟨ids, rfl⟩
   . rfl
   . exact dropAll_next _ _
  | false => rw [hc2] at h2; exact shutOne_next h2
theorem shutAny_run (I : Inv B0 w S M h) (hn : ∀ i, n0 i -> i < h.next) (ht : RepTs w S M ts a) {d : Tmp} {ts' : Ts} {h' : Heap} (hq : shutAny ts h d = some (ts', h')) :
  h.next <= h'.next /\ ∃ S' M', Inv B0 w S' M' h' /\ Ext B0 n0 w S M w S' M' /\ RepTs w S' M' ts' a := by
 unfold shutAny at hq
 cases hc : Nat.ble nestNo d with
 | true =>
  rw [hc] at hq
  simp only [cond_true, oM, Prod.mk.injEq] at hq
  obtain ⟨h1, h2, rfl, rfl⟩ := hq
  obtain ⟨k, S', M', I', E'⟩ := shutNest_run (n0 := n0) I hn h2
  exact ⟨k, S', M', I', E', ht.mono E'.keep E'.map⟩
 | false =>
  rw [hc] at hq
  obtain ⟨S', I', E', t'⟩ := shutOld_run (n0 := n0) I ht hq
  exact ⟨Nat.le_of_eq (shutOld_next hq).symm, S', M, I', E', t'⟩
theorem shutAll_run : ∀ (ds : List Tmp) {S : Nat -> Prop} {M : MM} {h : Heap} {ts ts' : Ts} {h' : Heap} (_ : Inv B0 w S M h) (_ : ∀ i, n0 i -> i < h.next) (_ : RepTs w S M ts a), shutAll ds ts h = some (ts', h') →
  h.next <= h'.next /\ ∃ S' M', Inv B0 w S' M' h' /\ Ext B0 n0 w S M w S' M' /\ RepTs w S' M' ts' a
 | [], S, M, h, ts, ts', h', I, hn, ht, hq => by
  simp only [shutAll, oI, Prod.mk.injEq] at hq
  obtain ⟨rfl, rfl⟩ := hq
  exact ⟨Nat.le_refl _, S, M, I, Ext.refl .., ht⟩
 | d :: ds, S, M, h, ts, ts', h', I, hn, ht, hq => by
  simp only [shutAll, oB] at hq
  obtain ⟨⟨ts1, h1⟩, h2, h3⟩ := hq
  obtain ⟨l1, S1, M1, I1, E1, t1⟩ := shutAny_run (n0 := n0) I hn ht h2
  obtain ⟨l2, S2, M2, I2, E2, t2⟩ := shutAll_run ds I1 (fun i hi => Nat.lt_of_lt_of_le (hn i hi) l1) t1 h3
  exact ⟨Nat.le_trans l1 l2, S2, M2, I2, E1.trans E2 fun i h => h, t2⟩
theorem freeze_state {w0 : World} {S0 : Nat -> Prop} {M0 : MM} (I : Inv B0 w S M h) (E : Ext B0 n0 w0 S0 M0 w S M) {d : Option Tmp} {id g off len : Nat} {e : TypeId} {fz : Bool} {cs : List V} {sh : Option Nat} {x : T} (t : RepTs w S M (setDst ts d (.msl id g off len sh)) a)
  (ho : h.obj id = some (.cells g e fz cs)) (hx : rowTree sh cs off len = some x) : ∃ S', Inv B0 w S' M (h.set id none) /\ Ext B0 n0 w0 S0 M0 w S' M /\ RepTs w S' M (setDst ts d (.t x)) a := by
 obtain ⟨m, hm, _⟩ := I.obj id _ ho
 obtain ⟨hI, hE⟩ := I.free (n0 := n0) ho hm
 refine ⟨_, hI, E.trans hE fun i h => h, ?_⟩
 have t2 := t.mono hE.keep hE.map
 cases d with
 | none => exact t2
 | some d =>
  intro i
  have h2 := t2 i
  have h1 := t i
  simp only [setDst] at h1 h2 ⊢
  rw [Tm.get_upd] at h1 h2 ⊢
  by_cases hi : i = d
  . subst hi
    simp only [if_true] at h1 h2 ⊢
    cases hg : ts.get i with
    | none => rw [hg] at h2; exact h2
    | some u =>
     rw [hg] at h1
     obtain ⟨c, hc, hr⟩ := h1
     exact ⟨c, hc, .t _ _ (rowTree_rep I ho hm hx hr)⟩
  . simp only [if_neg hi] at h2 ⊢
    exact h2
end
end Go.Apex
