import Derived.Test.YtcljaeknhmpecaaGreatApexA19
set_option linter.all false
namespace Go.Apex
open Go Go.RowKit
variable [Globs]
section
variable {cfg : Cfg} {P : Program} {B0 : Nat -> Prop} {n0 : Nat -> Prop} {w : World} {S : Nat -> Prop} {M : MM} {h : Heap} {ts : Ts} {a : Array Value} {slot : Nat}
theorem mapO_get {α β : Type} {g : α -> Option β} : ∀ {l : List α} {r : List β}, mapO g l = some r -> ∀ (i : Nat) (a : α), l[i]? = some a -> ∃ b, r[i]? = some b /\ g a = some b
 | [], r, h, i, a, ha => by simp at ha
 | x :: l, r, h, i, a, ha => by
  simp only [mapO, oB, oI] at h
  obtain ⟨b, hb, bs, hbs, rfl⟩ := h
  cases i with
  | zero => simp at ha; subst ha; exact ⟨b, by simp, hb⟩
  | succ i => simp at ha; obtain ⟨b', h1, h2⟩ := mapO_get hbs i a ha; exact ⟨b', by simpa using h1, h2⟩
theorem snapL {g : V -> Option T} {Sx : Nat -> Prop} (ih : ∀ v x cv, g v = some x -> RepV w S M v cv -> RepT w Sx x cv) {vs : List V} {xs : List T} {a : List Value} (hm : mapO g vs = some xs) (hr : RepVL w S M vs a) :
  xs.length = a.length /\ ∀ (i : Nat) (x : T) (v : Value), xs[i]? = some x -> a[i]? = some v -> RepT w Sx x v := by
 obtain ⟨h1, h2⟩ := mapO_spec hm
 refine ⟨h1.trans hr.1, fun i x v hx hv => ?_⟩
 obtain ⟨u, hu, hg⟩ := h2 i x hx
 exact ih u x v hg (hr.2 i u v hu hv)
theorem elemsFrom_rep {sh : Option Nat} {cs : List V} : ∀ {n off : Nat} {es : List V}, elemsFrom sh cs off n = some es -> ∀ (i : Nat) (v : V), es[i]? = some v -> shPart sh cs (off + i * shSize sh) = some v
 | 0, off, es, he, i, v, hi => by cases he; simp at hi
 | n + 1, off, es, he, i, v, hi => by
  simp only [elemsFrom, oB, oI] at he
  obtain ⟨u, hu, r, hr, rfl⟩ := he
  cases i with
  | zero => simp at hi; subst hi; simpa using hu
  | succ i =>
   have := elemsFrom_rep hr i v (by simpa using hi)
   rw [Nat.add_mul, Nat.one_mul, Nat.add_comm (i * shSize sh), <- Nat.add_assoc]
   exact this
theorem own_tree {F : Nat -> Prop} {Sx : Nat -> Prop} (hS : ∀ b, S b -> Sx b) (hF : ∀ b, F b -> Sx b) {e : TypeId} {sh : Option Nat} {xs : List T} {v : Value} (h : RepOwn w S F e sh xs v) : RepT w Sx (.sl false (shSize sh) xs) v := by
 obtain ⟨m, hg, hf, hfit, hv, _, hext, _, arr, fr, hheap, hfr, hsz, hle, hcell⟩ := h
 have hmono : ∀ {y : T} {v : Value}, RepT w S y v -> RepT w Sx y v := fun h => h.mono fun b hb => ⟨hS b hb, rfl⟩
 have hlen : ∀ x ∈ xs, x.cells.length = shSize sh := fun x hx => by
  have := fits_length (T.fits_t (hfit x hx))
  rw [cells_t, List.length_map] at this
  exact this
 have key : ∀ (i : Nat) (y : T) (j : Nat) (c : T), xs[i]? = some y -> y.cells[j]? = some c -> ∃ v, arr[m.s + (i * shSize sh + j)]? = some v /\ RepT w Sx c v := by
  intro i y j c hy hc
  have hjl : j < shSize sh := by rw [<- hlen y (List.mem_of_getElem? hy)]; exact (gS.1 hc).1
  have : (ownCells xs)[i * shSize sh + j]? = some (.t c) := by
   unfold ownCells
   rw [List.getElem?_map, getElem?_flatMap_uniform T.cells (shSize sh) (by omega) xs hlen]
   have e1 : (i * shSize sh + j) / shSize sh = i := by rw [Nat.mul_comm, Nat.mul_add_div (by omega), Nat.div_eq_of_lt hjl]; omega
   have e2 : (i * shSize sh + j) % shSize sh = j := by rw [Nat.mul_comm, Nat.mul_add_mod, Nat.mod_eq_of_lt hjl]
   rw [e1, e2, hy]
   simp [hc]
  obtain ⟨v, hv, hr⟩ := hcell _ _ this
  exact ⟨v, hv, hmono (repV_t hr)⟩
 cases hv with
 | msl _ _ _ _ _ b o cap hl m2 hm2 _ hat =>
  cases hm2
  obtain ⟨rfl, a2, a3, a4⟩ := hat hg
  have ho2 : 0 < xs.length -> o = m.s := fun h0 => by
   rcases a2 with a2 | a2
   . omega
   . omega
  refine .sl false (shSize sh) xs m.b o cap (fun i j => (arr[m.s + (i * shSize sh + j)]?).getD undef) hl (fun h => by cases h) (fun i y hy => hlen y (List.mem_of_getElem? hy)) (fun i y j c hy hc => ?_) (fun i y j c hy hc => ?_) none (.inl rfl)
  . obtain ⟨v, hv, _⟩ := key i y j c hy hc
    have hpos : 0 < xs.length := by have := (gS.1 hy).1; omega
    refine ⟨hF _ hf, ?_⟩
    rw [ho2 hpos, hv, Nat.add_assoc]
    simpa [World.cell?, hheap] using hv
  . obtain ⟨v, hv, hr⟩ := key i y j c hy hc
    rw [hv]; exact hr
theorem nest_view (I : Inv B0 w S M h) {Sx : Nat -> Prop} (hS : ∀ b, S b -> Sx b) (hN : ∀ O, OwnOK B0 w S M h O -> ∀ b, O b ≠ none -> Sx b) {id gen : Nat} {e : TypeId} {cs : List C} (ho : h.obj id = some (.nest gen e cs none)) :
  ∃ m arr, M id = some m /\ m.gen = gen /\ m.ext = (cs.map C.toV).length /\ w.heap[m.b]? = some (.cells arr e (0, 0)) /\ arr.size = m.tot /\ m.s + (cs.map C.toV).length <= m.tot ∧
   (∀ (j : Nat) (c : V), (cs.map C.toV)[j]? = some c -> ∃ v, w.cell? ⟨m.b, m.s + j, none⟩ = some v /\ RepV w Sx M c v) /\ RepVL w Sx M (cs.map C.toV) ((arr.toList.drop m.s).take (cs.map C.toV).length) := by
 obtain ⟨m, arr, hm, h1, h2, h3, h5, h6, h7, _⟩ := nest_cells I ho
 obtain ⟨O, K⟩ := I.own
 have hle : m.s + (cs.map C.toV).length <= m.tot := by simpa using h6
 have key : ∀ (j : Nat) (c : V), (cs.map C.toV)[j]? = some c -> ∃ v, w.cell? ⟨m.b, m.s + j, none⟩ = some v /\ RepV w Sx M c v := fun j c hj => by
  rw [List.getElem?_map, oM] at hj
  obtain ⟨d, hd, rfl⟩ := hj
  cases d with
  | v x =>
   obtain ⟨v, hv, hr⟩ := h7 j x hd
   exact ⟨v, hv, hr.mono (fun b hb => ⟨hS b hb, rfl⟩) fun i m h => ⟨m, h, .inl rfl⟩⟩
  | own e2 sh xs =>
   obtain ⟨v, hv, hr⟩ := K.rep id gen e cs none m ho hm j e2 sh xs hd
   exact ⟨v, hv, .t _ _ (own_tree hS (fun b hb => hN O K b (by rw [hb]; exact fun h => by cases h)) hr)⟩
 refine ⟨m, arr, hm, h1, by simpa using h2, h3, h5, hle, key, RepVL.of_get (fun j c hj => ?_) (by simp; omega)⟩
 obtain ⟨v, hv, hr⟩ := key j c hj
 have hlt : j < (cs.map C.toV).length := (gS.1 hj).1
 refine ⟨v, ?_, hr⟩
 rw [List.getElem?_take, if_pos hlt, List.getElem?_drop]
 simpa [World.cell?, h3] using hv
theorem snap_repx (I : Inv B0 w S M h) {rd : Rd} (hrd : ∀ id o, rd id = some o -> h.obj id = some o) {Sx : Nat -> Prop} (hS : ∀ b, S b -> Sx b) (hO : ∀ id o m, h.obj id = some o -> M id = some m -> Sx m.b)
  (hN : (∀ id g e cs fc, rd id ≠ some (.nest g e cs fc)) \/ ∀ O, OwnOK B0 w S M h O -> ∀ b, O b ≠ none -> Sx b) :
  ∀ (n : Nat) (v : V) (x : T) (cv : Value), snap rd n v = some x -> RepV w Sx M v cv -> RepT w Sx x cv
 | 0, _, _, _, hs, _ => by cases hs
 | n + 1, v, x, cv, hs, hr => by
  have ih := snap_repx I hrd hS hO hN n
  have hmono : ∀ {y : T} {v : Value}, RepT w S y v -> RepT w Sx y v := fun h => h.mono fun b hb => ⟨hS b hb, rfl⟩
  have hmonoV : ∀ {y : V} {v : Value}, RepV w S M y v -> RepV w Sx M y v := fun h => h.mono (fun b hb => ⟨hS b hb, rfl⟩) fun i m h => ⟨m, h, .inl rfl⟩
  cases hr with
  | t y _ h =>
   simp only [snap, oI] at hs
   subst hs
   exact h
  | ref id gen off sh b o m hm hg hat =>
   revert hs
   have core : ∀ (o1 : Obj) (e : TypeId) (fr : Nat × Nat) (cs : List V) (arr : Array Value), h.obj id = some o1 -> m.gen = gen -> w.heap[m.b]? = some (.cells arr e fr) -> arr.size = m.tot -> m.s + cs.length <= m.tot →
     (∀ (j : Nat) (c : V), cs[j]? = some c -> ∃ v, w.cell? ⟨m.b, m.s + j, none⟩ = some v /\ RepV w Sx M c v) →
     (match (generalizing := false) sh with
      | none => ((cs[off]?).bind (snap rd n)).bind fun x => if x.one then some (.ptr x) else none
      | some k => if off + k <= cs.length then (mapO (snap rd n) ((cs.drop off).take k)).map fun xs => .ptr (.agg xs) else none) = some x -> RepT w Sx x (.pointer (some ⟨b, o, none⟩)) := by
    intro o1 e fr cs arr ho hmg hheap hsz hle hcell hs
    obtain ⟨rfl, rfl⟩ := hat hmg
    have hSx := hO id _ m ho hm
    split at hs
    . simp only [oB] at hs
      obtain ⟨y, ⟨u, hu, hy⟩, hs⟩ := hs
      split at hs
      case isFalse => cases hs
      rename_i hone
      cases hs
      obtain ⟨v, hv, hrv⟩ := hcell off u hu
      have hry := ih u y v hy hrv
      have hcx := one_cells hone
      refine .ptr y m.b (m.s + off) (fun _ => v) (fun j c hj => ?_) (fun j c hj => ?_)
      . rw [hcx] at hj
        cases j with
        | zero => exact ⟨hSx, by simpa using hv⟩
        | succ j => simp at hj
      . rw [hcx] at hj
        cases j with
        | zero => simp at hj; subst hj; exact hry
        | succ j => simp at hj
    . rename_i k
      split at hs
      case isFalse => cases hs
      rename_i hk
      simp only [oM] at hs
      obtain ⟨xs, hxs, rfl⟩ := hs
      obtain ⟨l1, l2⟩ := mapO_spec hxs
      have hkl : ((cs.drop off).take k).length = k := by simp; omega
      refine .ptr (.agg xs) m.b (m.s + off) (fun j => (arr[m.s + off + j]?).getD undef) (fun j c hj => ?_) (fun j c hj => ?_)
      . obtain ⟨u, hu, hc⟩ := l2 j c hj
        rw [List.getElem?_take] at hu
        split at hu
        case isFalse => cases hu
        rw [List.getElem?_drop] at hu
        obtain ⟨v, hv, hrv⟩ := hcell _ u hu
        refine ⟨hSx, ?_⟩
        rw [<- Nat.add_assoc] at hv
        rw [hv]
        rw [cell_of hheap] at hv
        rw [hv]; rfl
      . obtain ⟨u, hu, hc⟩ := l2 j c hj
        rw [List.getElem?_take] at hu
        split at hu
        case isFalse => cases hu
        rw [List.getElem?_drop] at hu
        obtain ⟨v, hv, hrv⟩ := hcell _ u hu
        rw [<- Nat.add_assoc] at hv
        rw [cell_of hheap] at hv
        rw [hv]
        exact ih u c v hc hrv
   intro hs
   simp only [snap] at hs
   split at hs
   case h_3 => cases hs
   . rename_i g e fz cs ho
     split at hs
     case isFalse => cases hs
     rename_i hgg
     subst hgg
     obtain ⟨m', arr, fr, hm', hmg, hext, hheap, hfr, hsz, hle, hcell, hlist⟩ := obj_cells I (hrd _ _ ho)
     rw [hm] at hm'
     cases hm'
     exact core _ e fr cs arr (hrd _ _ ho) hmg hheap hsz hle (fun j c hj => by obtain ⟨v, h1, h2⟩ := hcell j c hj; exact ⟨v, h1, hmonoV h2⟩) hs
   . rename_i g e cs ho
     split at hs
     case isFalse => cases hs
     rename_i hgg
     subst hgg
     obtain ⟨m', arr, hm', hmg, hext, hheap, hsz, hle, hcell, hlist⟩ := nest_view I hS (hN.resolve_left fun k => k _ _ _ _ _ ho) (hrd _ _ ho)
     rw [hm] at hm'
     cases hm'
     exact core _ e _ _ arr (hrd _ _ ho) hmg hheap hsz hle hcell hs
  | msl id gen off len sh b o cap hl m hm hg hat =>
   revert hs
   have core : ∀ (o1 : Obj) (e : TypeId) (fr : Nat × Nat) (cs : List V) (arr : Array Value), h.obj id = some o1 -> m.gen = gen -> w.heap[m.b]? = some (.cells arr e fr) -> arr.size = m.tot -> m.s + cs.length <= m.tot →
     (∀ (j : Nat) (c : V), cs[j]? = some c -> ∃ v, w.cell? ⟨m.b, m.s + j, none⟩ = some v /\ RepV w Sx M c v) -> RepVL w Sx M cs ((arr.toList.drop m.s).take cs.length) →
     ((elemsFrom sh cs off len).bind fun es => (mapO (snap rd n) es).bind fun xs => if xs.all (·.fits sh) then some (.sl false (shSize sh) xs) else none) = some x -> RepT w Sx x (.slice (some ⟨b, o, none⟩) len cap) := by
    intro o1 e fr cs arr ho hmg hheap hsz hle hcell hlist hs
    simp only [oB] at hs
    obtain ⟨es, hes, xs, hxs, hs⟩ := hs
    split at hs
    case isFalse => cases hs
    rename_i hall
    cases hs
    simp only [List.all_eq_true] at hall
    obtain ⟨rfl, a2, a3, a4⟩ := hat hmg
    have hSx := hO id _ m ho hm
    obtain ⟨l1, l2⟩ := mapO_spec hxs
    obtain ⟨el, _⟩ := elemsFrom_spec hes
    have hlen : xs.length = len := l1.trans el
    have key : ∀ (i : Nat) (y : T) (j : Nat) (c : T), xs[i]? = some y -> y.cells[j]? = some c -> i < len /\ ∃ v, arr[m.s + off + i * shSize sh + j]? = some v /\ RepT w Sx c v := by
     intro i y j c hy hc
     obtain ⟨u, hu, hsn⟩ := l2 i y hy
     have hil : i < len := by rw [<- el]; exact (gS.1 hu).1
     have hfit := hall y (List.mem_of_getElem? hy)
     have hp := elemsFrom_rep hes i u hu
     refine ⟨hil, ?_⟩
     rcases shPart_spec hp with ⟨k, rfl, hk, rfl⟩ | ⟨rfl, hget⟩
     . have hrep : RepVL w Sx M ((cs.drop (off + i * k)).take k) ((((arr.toList.drop m.s).take cs.length).drop (off + i * k)).take k) := (hlist.drop _).take _
       have hyr := ih _ y _ hsn (mkAgg_rep hrep)
       cases y <;> simp [T.fits, T.isAgg] at hfit
       rename_i ys
       have hjk : j < k := by
        have := (gS.1 hc).1
        simp only [T.cells] at this hfit
        omega
       cases hyr with
       | agg _ _ hla hra =>
        have hlt : m.s + off + i * k + j < arr.size := by
         have hk' : off + i * k + k <= cs.length := hk
         omega
        refine ⟨arr[m.s + off + i * k + j], by simp [shSize, hlt], hra j c _ hc ?_⟩
        have hk' : off + i * k + k <= cs.length := hk
        simp only [List.getElem?_toArray]
        rw [List.getElem?_take, if_pos hjk, List.getElem?_drop, List.getElem?_take, if_pos (by omega), List.getElem?_drop]
        have : m.s + (off + i * k + j) = m.s + off + i * k + j := by omega
        rw [this]
        simp [hlt]
     . have hone : y.one = true := hfit
       rw [one_cells hone] at hc
       cases j with
       | succ j => simp at hc
       | zero =>
        simp at hc
        subst hc
        obtain ⟨v, hv, hrv⟩ := hcell _ u hget
        rw [cell_of hheap] at hv
        exact ⟨v, by rw [<- hv]; congr 1; simp [shSize]; omega, ih u y v hsn hrv⟩
    have ho2 : 0 < len -> o = m.s + off := fun h0 => by
     rcases a2 with a2 | a2
     . omega
     . exact a2
    rw [<- hlen]
    refine .sl false (shSize sh) xs m.b o cap (fun i j => (arr[m.s + off + i * shSize sh + j]?).getD undef) (by omega) (fun h => by cases h) (fun i y hy => ?_) (fun i y j c hy hc => ?_) (fun i y j c hy hc => ?_) none (.inl rfl)
    . have hf := T.fits_t (hall y (List.mem_of_getElem? hy))
      have := fits_length hf
      rw [cells_t, List.length_map] at this
      exact this
    . obtain ⟨hil, v, hv, hrv⟩ := key i y j c hy hc
      refine ⟨hSx, ?_⟩
      rw [ho2 (by omega), hv, cell_of hheap]
      exact hv
    . obtain ⟨hil, v, hv, hrv⟩ := key i y j c hy hc
      rw [hv]; exact hrv
   intro hs
   simp only [snap] at hs
   split at hs
   case h_3 => cases hs
   . rename_i g e fz cs ho
     split at hs
     case isFalse => cases hs
     rename_i hgg
     subst hgg
     obtain ⟨m', arr, fr, hm', hmg, hext, hheap, hfr, hsz, hle, hcell, hlist⟩ := obj_cells I (hrd _ _ ho)
     rw [hm] at hm'
     cases hm'
     have hcx : ∀ (j : Nat) (c : V), cs[j]? = some c -> ∃ v, w.cell? ⟨m.b, m.s + j, none⟩ = some v /\ RepV w Sx M c v := fun j c hj => by obtain ⟨v, h1, h2⟩ := hcell j c hj; exact ⟨v, h1, hmonoV h2⟩
     exact core _ e fr cs arr (hrd _ _ ho) hmg hheap hsz hle hcx ⟨hlist.1, fun i y v h1 h2 => hmonoV (hlist.2 i y v h1 h2)⟩ hs
   . rename_i g e cs ho
     split at hs
     case isFalse => cases hs
     rename_i hgg
     subst hgg
     obtain ⟨m', arr, hm', hmg, hext, hheap, hsz, hle, hcell, hlist⟩ := nest_view I hS (hN.resolve_left fun k => k _ _ _ _ _ ho) (hrd _ _ ho)
     rw [hm] at hm'
     cases hm'
     exact core _ e _ _ arr (hrd _ _ ho) hmg hheap hsz hle hcell hlist hs
  | mmp id b m hm hat =>
   simp only [snap] at hs
   split at hs
   case h_2 => cases hs
   rename_i ks vs ho
   have ho := hrd _ _ ho
   simp only [oM] at hs
   obtain ⟨xs, hxs, rfl⟩ := hs
   obtain ⟨m', hm', hg, es, clock, hst, e1, e2, e3, e4, e5⟩ := I.obj id _ ho
   rw [hm] at hm'
   cases hm'
   have := hat hg; subst this
   obtain ⟨l1, l2⟩ := mapO_spec hxs
   refine .mp ks xs m.b es clock (hO id _ m ho hm) e1 hst e2 (l1.trans e3) (fun i k e p q => hmono (e4 i k e p q)) (fun i y e p q => ?_)
   obtain ⟨u, hu, hsn⟩ := l2 i y p
   exact ih u y e.val hsn (hmonoV (e5 i u e hu q))
  | junk => cases hs
  | it id b m hm hat => cases hs
  | yld id b m hm hat => cases hs
  | agg cs a hl hra =>
   simp only [snap, oM] at hs
   obtain ⟨xs, hxs, rfl⟩ := hs
   obtain ⟨p1, p2⟩ := snapL (a := a.toList) ih hxs ⟨by simpa using hl, fun i x v q1 q2 => hra i x v q1 (by simpa using q2)⟩
   exact .agg _ _ (by simpa using p1) fun i x v q1 q2 => p2 i x v q1 (by simpa using q2)
  | tup cs a hl hra =>
   simp only [snap, oM] at hs
   obtain ⟨xs, hxs, rfl⟩ := hs
   obtain ⟨p1, p2⟩ := snapL (a := a.toList) ih hxs ⟨by simpa using hl, fun i x v q1 q2 => hra i x v q1 (by simpa using q2)⟩
   exact .tup _ _ (by simpa using p1) fun i x v q1 q2 => p2 i x v q1 (by simpa using q2)
  | fn f a1 b1 a' b' ha hb har hbr =>
   simp only [snap, oB, oM] at hs
   obtain ⟨xs, hxs, ys, hys, rfl⟩ := hs
   obtain ⟨p1, p2⟩ := snapL (a := a'.toList) ih hxs ⟨by simpa using ha, fun i x v q1 q2 => har i x v q1 (by simpa using q2)⟩
   obtain ⟨p3, p4⟩ := snapL (a := b'.toList) ih hys ⟨by simpa using hb, fun i x v q1 q2 => hbr i x v q1 (by simpa using q2)⟩
   exact .fn _ _ _ _ _ (by simpa using p1) (by simpa using p3) (fun i x v q1 q2 => p2 i x v q1 (by simpa using q2)) (fun i x v q1 q2 => p4 i x v q1 (by simpa using q2))
  | iface t y v h =>
   simp only [snap, oM] at hs
   obtain ⟨z, hz, rfl⟩ := hs
   exact .iface _ _ _ (ih y z v hz h)
theorem snap_rep (I : Inv B0 w S M h) {rd : Rd} (hrd : ∀ id o, rd id = some o -> h.obj id = some o) {Sx : Nat -> Prop} (hS : ∀ b, S b -> Sx b) (hO : ∀ id o m, h.obj id = some o -> M id = some m -> Sx m.b)
  (hN : (∀ id g e cs fc, rd id ≠ some (.nest g e cs fc)) \/ ∀ O, OwnOK B0 w S M h O -> ∀ b, O b ≠ none -> Sx b)
  (n : Nat) (v : V) (x : T) (cv : Value) (hs : snap rd n v = some x) (hr : RepV w S M v cv) : RepT w Sx x cv :=
 snap_repx I hrd hS hO hN n v x cv hs (hr.mono (fun b hb => ⟨hS b hb, rfl⟩) fun i m h => ⟨m, h, .inl rfl⟩)
end
end Go.Apex
