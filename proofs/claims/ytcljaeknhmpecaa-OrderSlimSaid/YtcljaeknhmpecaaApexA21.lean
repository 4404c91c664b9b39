import Derived.Test.YtcljaeknhmpecaaApexA20
set_option linter.all false
set_option linter.unusedVariables false
set_option linter.unusedSimpArgs false
set_option linter.unusedSectionVars false
set_option linter.deprecated false
/- Variables that are written no more. -/
namespace Go.Apex
open Go Go.RowKit
variable [Globs]
section
variable {cfg : Cfg} {P : Program} {B0 : Nat} {n0 : Nat → Prop} {w : World} {S : Nat → Prop} {M : MM} {h : Heap} {ts : Ts} {a : Array Value} {slot : Nat}

/-- An object is let go: its block lies as it lies from now on. -/
theorem Inv.free (I : Inv B0 w S M h) {id : Nat} {o : Obj} {m : MI} (ho : h.obj id = some o) (hm : M id = some m) :
    let S' : Nat → Prop := fun b => S b ∨ b = m.b
    Inv B0 w S' M (h.set id none) ∧ Ext B0 n0 w S M w S' M := by
  intro S'
  have hS : ∀ b, S b → S' b ∧ w.heap[b]? = w.heap[b]? := fun b hb => ⟨.inl hb, rfl⟩
  have hM : ∀ i m, M i = some m → ∃ m2, M i = some m2 ∧ (m2 = m ∨ (m.gen < m2.gen ∧ m.ext ≤ m.tot)) := fun i m hm => ⟨m, hm, .inl rfl⟩
  have hold : ∀ i o', (h.set id none).obj i = some o' → i ≠ id ∧ h.obj i = some o' := fun i o' hi => by
    rw [Heap.obj_set] at hi
    split at hi
    · cases hi
    · rename_i hne; exact ⟨hne, hi⟩
  refine ⟨⟨?_, ?_, ?_, ?_, ?_, I.base⟩, ⟨rfl, rfl, rfl, Nat.le_refl _, fun _ _ => rfl, hS, hM, fun _ _ h => h, fun b hb => hb.elim .inl fun h => .inr (h ▸ (I.at_ id m hm).1)⟩⟩
  · intro i o' hi
    obtain ⟨m', hm', hr⟩ := I.obj i o' (hold i o' hi).2
    exact ⟨m', hm', hr.mono hS hM rfl⟩
  · exact fun i m hm => I.at_ i m hm
  · intro i i' o1 o2 m1 m2 hi hi' h1 h2 e
    exact I.inj i i' o1 o2 m1 m2 (hold i o1 hi).2 (hold i' o2 hi').2 h1 h2 e
  · intro i o' m' hi hm' hs
    obtain ⟨hne, hi⟩ := hold i o' hi
    rcases hs with hs | hs
    · exact I.stable i o' m' hi hm' hs
    · exact hne (I.inj i id o' o m' m hi ho hm' hm hs)
  · intro b hb
    rcases hb with hb | rfl
    · exact I.lt b hb
    · exact (I.at_ id m hm).2.1

theorem RepTs.upd_same (ht : RepTs w S M ts a) {d : Nat} {u v : V} {c : Value} (hu : ts.get d = some u) (hc : a[d]? = some c) (hv : RepV w S M v c) : RepTs w S M (ts.upd v d) a := by
  have := ht.upd d hv
  have e : a.setIfInBounds d c = a := by
    apply Array.ext_getElem?
    intro i
    rw [Array.getElem?_setIfInBounds]
    split
    · rename_i e; subst e
      have hlt := (Array.getElem?_eq_some_iff.1 hc).1
      rw [if_pos hlt, hc]
    · rfl
  rw [e] at this
  exact this

theorem flatAt_rep (I : Inv B0 w S M h) {id g : Nat} {e : TypeId} {fz : Bool} {cs : List V} (ho : h.obj id = some (.cells g e fz cs)) {off : Nat} {sh : Option Nat} {x : T} (hf : flatAt cs off sh = some x) {m : MI} (hm : M id = some m) :
    RepT w (fun b => S b ∨ b = m.b) (.ptr x) (.pointer (some ⟨m.b, m.s + off, none⟩)) := by
  obtain ⟨m', arr, fr, hm', hmg, hext, hheap, hfr, hsz, hle, hcell, hlist⟩ := obj_cells I ho
  rw [hm] at hm'
  cases hm'
  have hmono : ∀ {y : T} {v : Value}, RepT w S y v → RepT w (fun b => S b ∨ b = m.b) y v := fun h => h.mono fun b hb => ⟨.inl hb, rfl⟩
  unfold flatAt at hf
  split at hf
  · simp only [Option.bind_eq_some_iff] at hf
    obtain ⟨y, ⟨u, hu, hy⟩, hf⟩ := hf
    split at hf
    case isFalse => cases hf
    rename_i hone
    cases hf
    have hut := toT_t hy
    rw [hut] at hu
    obtain ⟨v, hv, hrv⟩ := hcell off _ hu
    refine .ptr x m.b (m.s + off) (fun _ => v) (fun j c hj => ?_) (fun j c hj => ?_)
    · rw [one_cells hone] at hj
      cases j with
      | zero => exact ⟨.inr rfl, by simpa using hv⟩
      | succ j => simp at hj
    · rw [one_cells hone] at hj
      cases j with
      | zero => simp at hj; subst hj; exact hmono (repV_t hrv)
      | succ j => simp at hj
  · rename_i k
    split at hf
    case isFalse => cases hf
    rename_i hk
    simp only [Option.map_eq_some_iff] at hf
    obtain ⟨xs, hxs, rfl⟩ := hf
    have hx := allT_spec hxs
    have key : ∀ (j : Nat) (c : T), xs[j]? = some c → ∃ v, arr[m.s + off + j]? = some v ∧ RepT w S c v := by
      intro j c hj
      have hu : ((cs.drop off).take k)[j]? = some (.t c) := by rw [hx]; simp [hj]
      rw [List.getElem?_take] at hu
      split at hu
      case isFalse => cases hu
      rw [List.getElem?_drop] at hu
      obtain ⟨v, hv, hrv⟩ := hcell _ _ hu
      rw [cell_of hheap, ← Nat.add_assoc] at hv
      exact ⟨v, hv, repV_t hrv⟩
    refine .ptr (.agg xs) m.b (m.s + off) (fun j => (arr[m.s + off + j]?).getD undef) (fun j c hj => ?_) (fun j c hj => ?_)
    · obtain ⟨v, hv, hr⟩ := key j c hj
      refine ⟨.inr rfl, ?_⟩
      rw [cell_of hheap, hv]; rfl
    · obtain ⟨v, hv, hr⟩ := key j c hj
      rw [hv]
      exact hmono hr

/-! Slices that become trees. -/
theorem Inv.sub (I : Inv B0 w S M h) {h' : Heap} (hn : h'.next = h.next) (ho : ∀ id o, h'.obj id = some o → h.obj id = some o) : Inv B0 w S M h' :=
  ⟨fun id o h1 => I.obj id o (ho id o h1), fun id m hm => by rw [hn]; exact I.at_ id m hm, fun id id' o o' m m' h1 h2 => I.inj id id' o o' m m' (ho id o h1) (ho id' o' h2), fun id o m h1 => I.stable id o m (ho id o h1), I.lt, I.base⟩
theorem rowTree_rep (I : Inv B0 w S M h) {id g off len : Nat} {e : TypeId} {fz : Bool} {cs : List V} {sh : Option Nat} {x : T} (ho : h.obj id = some (.cells g e fz cs)) {m : MI} (hm : M id = some m) (hx : rowTree sh cs off len = some x) {c : Value} (hr : RepV w S M (.msl id g off len sh) c) :
    RepT w (fun b => S b ∨ b = m.b) x c := by
  have I2 : Inv B0 w S M ⟨h.next, Tm.nil.put id (some (.cells g e fz cs))⟩ := I.sub rfl fun i o hi => by
    have : (Tm.nil.put id (some (.cells g e fz cs))).get i = some o := hi
    rw [Tm.get_put] at this
    split at this
    · rename_i e; subst e; cases this; exact ho
    · cases this
  refine snap_rep I2 (rd := (⟨h.next, Tm.nil.put id (some (.cells g e fz cs))⟩ : Heap).obj) (fun _ _ h => h) (fun b hb => .inl hb) (fun i o m' hi hm' => ?_) 2 (.msl id g off len sh) x c ?_ hr
  · have : (Tm.nil.put id (some (.cells g e fz cs))).get i = some o := hi
    rw [Tm.get_put] at this
    split at this
    · rename_i e; subst e; rw [hm] at hm'; cases hm'; exact .inr rfl
    · cases this
  · simp only [rowTree, Option.bind_eq_some_iff] at hx
    obtain ⟨es, hes, xs, hxs, hx⟩ := hx
    split at hx
    case isFalse => cases hx
    rename_i hall
    cases hx
    have ho2 : (⟨h.next, Tm.nil.put id (some (.cells g e fz cs))⟩ : Heap).obj id = some (.cells g e fz cs) := by
      show ((Tm.nil : Tm Obj).put id (some (.cells g e fz cs))).get id = _
      rw [Tm.get_put, if_pos rfl]
    have key : ∀ (rd : Rd), rd id = some (.cells g e fz cs) → snap rd 2 (.msl id g off len sh) = some (.sl false (shSize sh) xs) := by
      intro rd hrd
      have hs : ∀ ys : List T, mapO (snap rd 1) (ys.map .t) = some ys := by
        intro ys
        induction ys with
        | nil => rfl
        | cons y ys ih =>
          have h1 : snap rd 1 (.t y) = some y := rfl
          simp only [List.map_cons, mapO, h1, Option.bind_some, ih]
      unfold snap
      simp only [hrd, if_true, hes, Option.bind_some]
      rw [allT_spec hxs, hs]
      simp only [Option.bind_some, hall, if_true]
    exact key _ ho2
theorem shutOne_run (I : Inv B0 w S M h) (ht : RepTs w S M ts a) {d : Tmp} {ts' : Ts} {h' : Heap} (hq : shutOne ts h d = some (ts', h')) :
    ∃ S', Inv B0 w S' M h' ∧ Ext B0 n0 w S M w S' M ∧ RepTs w S' M ts' a := by
  have same : ts' = ts ∧ h' = h → ∃ S', Inv B0 w S' M h' ∧ Ext B0 n0 w S M w S' M ∧ RepTs w S' M ts' a := by
    rintro ⟨rfl, rfl⟩
    exact ⟨S, I, Ext.refl .., ht⟩
  unfold shutOne at hq
  split at hq
  · rename_i id g off sh hd
    split at hq
    · rename_i g' e fz cs ho
      split at hq
      · rename_i hg
        subst hg
        split at hq
        · rename_i x hf
          simp only [Option.some.injEq, Prod.mk.injEq] at hq
          obtain ⟨rfl, rfl⟩ := hq
          obtain ⟨m, arr, fr, hm, hmg, _⟩ := obj_cells I ho
          obtain ⟨hI, hE⟩ := I.free (n0 := n0) ho hm
          obtain ⟨c, hc, hr⟩ := ht.get hd
          obtain ⟨b, o, m2, rfl, hm2, _, hat⟩ := repV_ref hr
          rw [hm] at hm2
          cases hm2
          obtain ⟨rfl, rfl⟩ := hat hmg
          exact ⟨_, hI, hE, (ht.mono hE.keep hE.map).upd_same hd hc (.t _ _ (flatAt_rep I ho hf hm))⟩
        · exact same (by simpa [eq_comm] using hq)
      · exact same (by simpa [eq_comm] using hq)
    · exact same (by simpa [eq_comm] using hq)
  · rename_i id g off len sh hd
    split at hq
    · rename_i g' e fz cs ho
      split at hq
      · rename_i hg
        subst hg
        split at hq
        · rename_i x hx
          simp only [Option.some.injEq, Prod.mk.injEq] at hq
          obtain ⟨rfl, rfl⟩ := hq
          obtain ⟨m, hm, _⟩ := I.obj id _ ho
          obtain ⟨hI, hE⟩ := I.free (n0 := n0) ho hm
          obtain ⟨c, hc, hr⟩ := ht.get hd
          exact ⟨_, hI, hE, (ht.mono hE.keep hE.map).upd_same hd hc (.t _ _ (rowTree_rep I ho hm hx hr))⟩
        · exact same (by simpa [eq_comm] using hq)
      · exact same (by simpa [eq_comm] using hq)
    · exact same (by simpa [eq_comm] using hq)
  · exact same (by simpa [eq_comm] using hq)
  · cases hq
theorem unrow_run {k : Nat} (I : Inv B0 w S M h) (ht : RepTs w S M ts a) {d : Tmp} {ts' : Ts} {h' : Heap} (hq : unrow k ts h d = some (ts', h')) :
    ∃ S', Inv B0 w S' M h' ∧ Ext B0 n0 w S M w S' M ∧ RepTs w S' M ts' a := by
  have same : ts' = ts ∧ h' = h → ∃ S', Inv B0 w S' M h' ∧ Ext B0 n0 w S M w S' M ∧ RepTs w S' M ts' a := by
    rintro ⟨rfl, rfl⟩
    exact ⟨S, I, Ext.refl .., ht⟩
  unfold unrow at hq
  split at hq
  · rename_i id _ _ _ hd
    split at hq
    · rename_i g' e fz cs ho
      split at hq
      · rename_i id2 g off len sh hk
        split at hq
        · rename_i g2 e2 fz2 cs2 ho2
          split at hq
          · rename_i hg
            obtain ⟨rfl, hne⟩ := hg
            split at hq
            · rename_i x hx
              simp only [Option.some.injEq, Prod.mk.injEq] at hq
              obtain ⟨rfl, rfl⟩ := hq
              obtain ⟨m2, hm2, _⟩ := I.obj id2 _ ho2
              obtain ⟨m1, hm1, _⟩ := I.obj id _ ho
              obtain ⟨hI, hE⟩ := I.free (n0 := n0) ho2 hm2
              refine ⟨_, ⟨?_, hI.at_, ?_, ?_, hI.lt, hI.base⟩, hE, ht.mono hE.keep hE.map⟩
              · intro i o hi
                rw [Heap.obj_set] at hi
                by_cases ei : i = id
                · subst ei
                  rw [if_pos rfl] at hi
                  cases hi
                  obtain ⟨m, hm, h1, h2, h3, arr, fr, h4, h5, h6, h7, h8⟩ := I.obj i _ ho
                  refine ⟨m, hm, h1, by rw [List.length_set]; exact h2, by rw [List.length_set]; exact h3, arr, fr, h4, h5, h6, by rw [List.length_set]; exact h7, fun j c hj => ?_⟩
                  by_cases ej : k = j
                  · subst ej
                    obtain ⟨v, hv, hr⟩ := h8 k _ hk
                    rw [List.getElem?_set_self (by rw [List.getElem?_eq_some_iff] at hk; exact hk.1)] at hj
                    cases hj
                    exact ⟨v, hv, .t _ _ (rowTree_rep I ho2 hm2 hx hr)⟩
                  · rw [List.getElem?_set_ne ej] at hj
                    obtain ⟨v, hv, hr⟩ := h8 j c hj
                    exact ⟨v, hv, hr.mono hE.keep hE.map⟩
                · rw [if_neg ei] at hi
                  exact hI.obj i o hi
              · intro i j o1 o2 n1 n2 hi hj
                rw [Heap.obj_set] at hi hj
                have pass : ∀ {i : Nat} {o1 : Obj}, (if i = id then some (Obj.cells g' e fz (cs.set k (.t x))) else (h.set id2 none).obj i) = some o1 → ∃ o, (h.set id2 none).obj i = some o := by
                  intro i o1 hi
                  by_cases ei : i = id
                  · subst ei
                    exact ⟨_, by rw [Heap.obj_set, if_neg hne]; exact ho⟩
                  · rw [if_neg ei] at hi; exact ⟨_, hi⟩
                obtain ⟨p1, q1⟩ := pass hi
                obtain ⟨p2, q2⟩ := pass hj
                exact hI.inj i j p1 p2 n1 n2 q1 q2
              · intro i o n1 hi
                rw [Heap.obj_set] at hi
                by_cases ei : i = id
                · subst ei
                  exact hI.stable i _ n1 (by rw [Heap.obj_set, if_neg hne]; exact ho)
                · rw [if_neg ei] at hi; exact hI.stable i o n1 hi
            · exact same (by simpa [eq_comm] using hq)
          · exact same (by simpa [eq_comm] using hq)
        · exact same (by simpa [eq_comm] using hq)
      · exact same (by simpa [eq_comm] using hq)
    · exact same (by simpa [eq_comm] using hq)
  · exact same (by simpa [eq_comm] using hq)
  · cases hq
theorem shutAny_run (I : Inv B0 w S M h) (ht : RepTs w S M ts a) {d : Tmp} {ts' : Ts} {h' : Heap} (hq : shutAny ts h d = some (ts', h')) :
    ∃ S', Inv B0 w S' M h' ∧ Ext B0 n0 w S M w S' M ∧ RepTs w S' M ts' a := by
  unfold shutAny at hq
  cases hc : Nat.ble 100000 d with
  | true => rw [hc] at hq; exact unrow_run I ht hq
  | false => rw [hc] at hq; exact shutOne_run I ht hq
theorem shutAll_run : ∀ (ds : List Tmp) {S : Nat → Prop} {h : Heap} {ts ts' : Ts} {h' : Heap} (_ : Inv B0 w S M h) (_ : RepTs w S M ts a), shutAll ds ts h = some (ts', h') →
    ∃ S', Inv B0 w S' M h' ∧ Ext B0 n0 w S M w S' M ∧ RepTs w S' M ts' a
  | [], S, h, ts, ts', h', I, ht, hq => by
    simp only [shutAll, Option.some.injEq, Prod.mk.injEq] at hq
    obtain ⟨rfl, rfl⟩ := hq
    exact ⟨S, I, Ext.refl .., ht⟩
  | d :: ds, S, h, ts, ts', h', I, ht, hq => by
    simp only [shutAll, Option.bind_eq_some_iff] at hq
    obtain ⟨⟨ts1, h1⟩, h2, h3⟩ := hq
    obtain ⟨S1, I1, E1, t1⟩ := shutAny_run (n0 := n0) I ht h2
    obtain ⟨S2, I2, E2, t2⟩ := shutAll_run ds I1 t1 h3
    exact ⟨S2, I2, E1.trans E2 fun i h => h, t2⟩

theorem freeze_state {w0 : World} {S0 : Nat → Prop} {M0 : MM} (I : Inv B0 w S M h) (E : Ext B0 n0 w0 S0 M0 w S M) {d : Option Tmp} {id g off len : Nat} {e : TypeId} {fz : Bool} {cs : List V} {sh : Option Nat} {x : T} (t : RepTs w S M (setDst ts d (.msl id g off len sh)) a)
    (ho : h.obj id = some (.cells g e fz cs)) (hx : rowTree sh cs off len = some x) : ∃ S', Inv B0 w S' M (h.set id none) ∧ Ext B0 n0 w0 S0 M0 w S' M ∧ RepTs w S' M (setDst ts d (.t x)) a := by
  obtain ⟨m, hm, _⟩ := I.obj id _ ho
  obtain ⟨hI, hE⟩ := I.free (n0 := n0) ho hm
  refine ⟨_, hI, E.trans hE fun i h => h, ?_⟩
  have t2 := t.mono hE.keep hE.map
  cases d with
  | none => exact t2
  | some d =>
    intro i
    have h2 := t2 i
    have h1 := t i
    simp only [setDst] at h1 h2 ⊢
    rw [Tm.get_upd] at h1 h2 ⊢
    by_cases hi : i = d
    · subst hi
      simp only [if_true] at h1 h2 ⊢
      cases hg : ts.get i with
      | none => rw [hg] at h2; exact h2
      | some u =>
        rw [hg] at h1
        obtain ⟨c, hc, hr⟩ := h1
        exact ⟨c, hc, .t _ _ (rowTree_rep I ho hm hx hr)⟩
    · simp only [if_neg hi] at h2 ⊢
      exact h2
end
end Go.Apex

