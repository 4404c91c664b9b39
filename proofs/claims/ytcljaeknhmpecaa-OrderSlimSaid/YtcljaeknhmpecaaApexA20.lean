import Derived.Test.YtcljaeknhmpecaaApexA19
set_option linter.all false
set_option linter.unusedVariables false
set_option linter.unusedSimpArgs false
set_option linter.unusedSectionVars false
set_option linter.deprecated false
/- Values read as trees; variables that are written no more. -/
namespace Go.Apex
open Go Go.RowKit
variable [Globs]
section
variable {cfg : Cfg} {P : Program} {B0 : Nat} {n0 : Nat → Prop} {w : World} {S : Nat → Prop} {M : MM} {h : Heap} {ts : Ts} {a : Array Value} {slot : Nat}

theorem snapL {g : V → Option T} {Sx : Nat → Prop} (ih : ∀ v x cv, g v = some x → RepV w S M v cv → RepT w Sx x cv) {vs : List V} {xs : List T} {a : List Value} (hm : mapO g vs = some xs) (hr : RepVL w S M vs a) :
    xs.length = a.length ∧ ∀ (i : Nat) (x : T) (v : Value), xs[i]? = some x → a[i]? = some v → RepT w Sx x v := by
  obtain ⟨h1, h2⟩ := mapO_spec hm
  refine ⟨h1.trans hr.1, fun i x v hx hv => ?_⟩
  obtain ⟨u, hu, hg⟩ := h2 i x hx
  exact ih u x v hg (hr.2 i u v hu hv)

theorem elemsFrom_rep {sh : Option Nat} {cs : List V} : ∀ {n off : Nat} {es : List V}, elemsFrom sh cs off n = some es → ∀ (i : Nat) (v : V), es[i]? = some v → shPart sh cs (off + i * shSize sh) = some v
  | 0, off, es, he, i, v, hi => by cases he; simp at hi
  | n + 1, off, es, he, i, v, hi => by
    simp only [elemsFrom, Option.bind_eq_some_iff, Option.some.injEq] at he
    obtain ⟨u, hu, r, hr, rfl⟩ := he
    cases i with
    | zero => simp at hi; subst hi; simpa using hu
    | succ i =>
      have := elemsFrom_rep hr i v (by simpa using hi)
      rw [Nat.add_mul, Nat.one_mul, Nat.add_comm (i * shSize sh), ← Nat.add_assoc]
      exact this

theorem snap_rep (I : Inv B0 w S M h) {rd : Rd} (hrd : ∀ id o, rd id = some o → h.obj id = some o) {Sx : Nat → Prop} (hS : ∀ b, S b → Sx b) (hO : ∀ id o m, h.obj id = some o → M id = some m → Sx m.b) :
    ∀ (n : Nat) (v : V) (x : T) (cv : Value), snap rd n v = some x → RepV w S M v cv → RepT w Sx x cv
  | 0, _, _, _, hs, _ => by cases hs
  | n + 1, v, x, cv, hs, hr => by
    have ih := snap_rep I hrd hS hO n
    have hmono : ∀ {y : T} {v : Value}, RepT w S y v → RepT w Sx y v := fun h => h.mono fun b hb => ⟨hS b hb, rfl⟩
    cases hr with
    | t y _ h =>
      simp only [snap, Option.some.injEq] at hs
      subst hs
      exact hmono h
    | ref id gen off sh b o m hm hg hat =>
      simp only [snap] at hs
      split at hs
      case h_2 => cases hs
      rename_i g e fz cs ho
      have ho := hrd _ _ ho
      split at hs
      case isFalse => cases hs
      rename_i hgg
      subst hgg
      obtain ⟨m', arr, fr, hm', hmg, hext, hheap, hfr, hsz, hle, hcell, hlist⟩ := obj_cells I ho
      rw [hm] at hm'
      cases hm'
      obtain ⟨rfl, rfl⟩ := hat hmg
      have hSx := hO id _ m ho hm
      split at hs
      · simp only [Option.bind_eq_some_iff] at hs
        obtain ⟨y, ⟨u, hu, hy⟩, hs⟩ := hs
        split at hs
        case isFalse => cases hs
        rename_i hone
        cases hs
        obtain ⟨v, hv, hrv⟩ := hcell off u hu
        have hry := ih u y v hy hrv
        have hcx := one_cells hone
        refine .ptr y m.b (m.s + off) (fun _ => v) (fun j c hj => ?_) (fun j c hj => ?_)
        · rw [hcx] at hj
          cases j with
          | zero => exact ⟨hSx, by simpa using hv⟩
          | succ j => simp at hj
        · rw [hcx] at hj
          cases j with
          | zero => simp at hj; subst hj; exact hry
          | succ j => simp at hj
      · rename_i k
        split at hs
        case isFalse => cases hs
        rename_i hk
        simp only [Option.map_eq_some_iff] at hs
        obtain ⟨xs, hxs, rfl⟩ := hs
        obtain ⟨l1, l2⟩ := mapO_spec hxs
        have hkl : ((cs.drop off).take k).length = k := by simp; omega
        refine .ptr (.agg xs) m.b (m.s + off) (fun j => (arr[m.s + off + j]?).getD undef) (fun j c hj => ?_) (fun j c hj => ?_)
        · obtain ⟨u, hu, hc⟩ := l2 j c hj
          rw [List.getElem?_take] at hu
          split at hu
          case isFalse => cases hu
          rw [List.getElem?_drop] at hu
          obtain ⟨v, hv, hrv⟩ := hcell _ u hu
          refine ⟨hSx, ?_⟩
          rw [← Nat.add_assoc] at hv
          rw [hv]
          rw [cell_of hheap] at hv
          rw [hv]; rfl
        · obtain ⟨u, hu, hc⟩ := l2 j c hj
          rw [List.getElem?_take] at hu
          split at hu
          case isFalse => cases hu
          rw [List.getElem?_drop] at hu
          obtain ⟨v, hv, hrv⟩ := hcell _ u hu
          rw [← Nat.add_assoc] at hv
          rw [cell_of hheap] at hv
          rw [hv]
          exact ih u c v hc hrv
    | msl id gen off len sh b o cap hl m hm hg hat =>
      simp only [snap] at hs
      split at hs
      case h_2 => cases hs
      rename_i g e fz cs ho
      have ho := hrd _ _ ho
      split at hs
      case isFalse => cases hs
      rename_i hgg
      subst hgg
      simp only [Option.bind_eq_some_iff] at hs
      obtain ⟨es, hes, xs, hxs, hs⟩ := hs
      split at hs
      case isFalse => cases hs
      rename_i hall
      cases hs
      simp only [List.all_eq_true] at hall
      obtain ⟨m', arr, fr, hm', hmg, hext, hheap, hfr, hsz, hle, hcell, hlist⟩ := obj_cells I ho
      rw [hm] at hm'
      cases hm'
      obtain ⟨rfl, a2, a3, a4⟩ := hat hmg
      have hSx := hO id _ m ho hm
      obtain ⟨l1, l2⟩ := mapO_spec hxs
      obtain ⟨el, _⟩ := elemsFrom_spec hes
      have hlen : xs.length = len := l1.trans el
      -- each cell
      have key : ∀ (i : Nat) (y : T) (j : Nat) (c : T), xs[i]? = some y → y.cells[j]? = some c → i < len ∧ ∃ v, arr[m.s + off + i * shSize sh + j]? = some v ∧ RepT w Sx c v := by
        intro i y j c hy hc
        obtain ⟨u, hu, hsn⟩ := l2 i y hy
        have hil : i < len := by rw [← el]; exact (List.getElem?_eq_some_iff.1 hu).1
        have hfit := hall y (List.mem_of_getElem? hy)
        have hp := elemsFrom_rep hes i u hu
        refine ⟨hil, ?_⟩
        rcases shPart_spec hp with ⟨k, rfl, hk, rfl⟩ | ⟨rfl, hget⟩
        · have hrep : RepVL w S M ((cs.drop (off + i * k)).take k) ((((arr.toList.drop m.s).take cs.length).drop (off + i * k)).take k) := (hlist.drop _).take _
          have hyr := ih _ y _ hsn (mkAgg_rep hrep)
          cases y <;> simp [T.fits, T.isAgg] at hfit
          rename_i ys
          have hjk : j < k := by
            have := (List.getElem?_eq_some_iff.1 hc).1
            simp only [T.cells] at this hfit
            omega
          cases hyr with
          | agg _ _ hla hra =>
            have hlt : m.s + off + i * k + j < arr.size := by
              have hk' : off + i * k + k ≤ cs.length := hk
              omega
            refine ⟨arr[m.s + off + i * k + j], by simp [shSize, hlt], hra j c _ hc ?_⟩
            have hk' : off + i * k + k ≤ cs.length := hk
            simp only [List.getElem?_toArray]
            rw [List.getElem?_take, if_pos hjk, List.getElem?_drop, List.getElem?_take, if_pos (by omega), List.getElem?_drop]
            have : m.s + (off + i * k + j) = m.s + off + i * k + j := by omega
            rw [this]
            simp [hlt]
        · have hone : y.one = true := hfit
          rw [one_cells hone] at hc
          cases j with
          | succ j => simp at hc
          | zero =>
            simp at hc
            subst hc
            obtain ⟨v, hv, hrv⟩ := hcell _ u hget
            rw [cell_of hheap] at hv
            exact ⟨v, by rw [← hv]; congr 1; simp [shSize]; omega, ih u y v hsn hrv⟩
      have ho2 : 0 < len → o = m.s + off := fun h0 => by
        rcases a2 with a2 | a2
        · omega
        · exact a2
      rw [← hlen]
      refine .sl false (shSize sh) xs m.b o cap (fun i j => (arr[m.s + off + i * shSize sh + j]?).getD undef) (by omega) (fun h => by cases h) (fun i y hy => ?_) (fun i y j c hy hc => ?_) (fun i y j c hy hc => ?_) none (.inl rfl)
      · have hf := T.fits_t (hall y (List.mem_of_getElem? hy))
        have := fits_length hf
        rw [cells_t, List.length_map] at this
        exact this
      · obtain ⟨hil, v, hv, hrv⟩ := key i y j c hy hc
        refine ⟨hSx, ?_⟩
        rw [ho2 (by omega), hv, cell_of hheap]
        exact hv
      · obtain ⟨hil, v, hv, hrv⟩ := key i y j c hy hc
        rw [hv]; exact hrv
    | mmp id b m hm hat =>
      simp only [snap] at hs
      split at hs
      case h_2 => cases hs
      rename_i ks vs ho
      have ho := hrd _ _ ho
      simp only [Option.map_eq_some_iff] at hs
      obtain ⟨xs, hxs, rfl⟩ := hs
      obtain ⟨m', hm', hg, es, clock, hst, e1, e2, e3, e4, e5⟩ := I.obj id _ ho
      rw [hm] at hm'
      cases hm'
      have := hat hg; subst this
      obtain ⟨l1, l2⟩ := mapO_spec hxs
      refine .mp ks xs m.b es clock (hO id _ m ho hm) e1 hst e2 (l1.trans e3) (fun i k e p q => hmono (e4 i k e p q)) (fun i y e p q => ?_)
      obtain ⟨u, hu, hsn⟩ := l2 i y p
      exact ih u y e.val hsn (e5 i u e hu q)
    | junk => cases hs
    | it id b m hm hat => cases hs
    | yld id b m hm hat => cases hs
    | agg cs a hl hra =>
      simp only [snap, Option.map_eq_some_iff] at hs
      obtain ⟨xs, hxs, rfl⟩ := hs
      obtain ⟨p1, p2⟩ := snapL (a := a.toList) ih hxs ⟨by simpa using hl, fun i x v q1 q2 => hra i x v q1 (by simpa using q2)⟩
      exact .agg _ _ (by simpa using p1) fun i x v q1 q2 => p2 i x v q1 (by simpa using q2)
    | tup cs a hl hra =>
      simp only [snap, Option.map_eq_some_iff] at hs
      obtain ⟨xs, hxs, rfl⟩ := hs
      obtain ⟨p1, p2⟩ := snapL (a := a.toList) ih hxs ⟨by simpa using hl, fun i x v q1 q2 => hra i x v q1 (by simpa using q2)⟩
      exact .tup _ _ (by simpa using p1) fun i x v q1 q2 => p2 i x v q1 (by simpa using q2)
    | fn f a1 b1 a' b' ha hb har hbr =>
      simp only [snap, Option.bind_eq_some_iff, Option.map_eq_some_iff] at hs
      obtain ⟨xs, hxs, ys, hys, rfl⟩ := hs
      obtain ⟨p1, p2⟩ := snapL (a := a'.toList) ih hxs ⟨by simpa using ha, fun i x v q1 q2 => har i x v q1 (by simpa using q2)⟩
      obtain ⟨p3, p4⟩ := snapL (a := b'.toList) ih hys ⟨by simpa using hb, fun i x v q1 q2 => hbr i x v q1 (by simpa using q2)⟩
      exact .fn _ _ _ _ _ (by simpa using p1) (by simpa using p3) (fun i x v q1 q2 => p2 i x v q1 (by simpa using q2)) (fun i x v q1 q2 => p4 i x v q1 (by simpa using q2))
    | iface t y v h =>
      simp only [snap, Option.map_eq_some_iff] at hs
      obtain ⟨z, hz, rfl⟩ := hs
      exact .iface _ _ _ (ih y z v hz h)
end
end Go.Apex

