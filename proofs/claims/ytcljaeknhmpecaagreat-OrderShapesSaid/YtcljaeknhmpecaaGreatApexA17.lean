import Derived.Test.YtcljaeknhmpecaaGreatApexA16
import Derived.RangeFuncRecord
set_option linter.all false
namespace Go.Apex
open Go Go.RowKit
variable [Globs]
section
variable {cfg : Cfg} {P : Program} {B0 : Nat -> Prop} {n0 : Nat -> Prop} {w : World} {S : Nat -> Prop} {M : MM} {h : Heap} {ts : Ts} {a : Array Value} {slot : Nat}
def LDone (P : Program) (B0 : Nat -> Prop) (n0 : Nat -> Prop) (w : World) (S : Nat -> Prop) (M : MM) (h' : Heap) (s : Sem Next) (v : V) : Prop :=
 ∃ nx cv w' S' M', s.run P w = .ok nx w' /\ (nx = .value cv \/ (nx = .skip /\ cv = undef)) /\ Inv B0 w' S' M' h' /\ Ext B0 n0 w S M w' S' M' /\ RepV w' S' M' v cv
theorem setRange_get {α : Type} (cs new : List α) (off j : Nat) (hl : off + new.length <= cs.length) : (setRange cs off new)[j]? = if j < off then cs[j]? else if j < off + new.length then new[j - off]? else cs[j]? := by
 have hto : (cs.take off).length = off := by simp; omega
 unfold setRange
 by_cases h1 : j < off
 . rw [if_pos h1, List.append_assoc, List.getElem?_append_left (by omega), List.getElem?_take, if_pos h1]
 . rw [if_neg h1]
   by_cases h2 : j < off + new.length
   . rw [if_pos h2, List.append_assoc, List.getElem?_append_right (by omega), List.getElem?_append_left (by omega), hto]
   . rw [if_neg h2, List.append_assoc, List.getElem?_append_right (by omega), List.getElem?_append_right (by omega), hto, List.getElem?_drop]
     congr 1
     omega
theorem undef_rep : RepV w S M undefV undef := .t _ _ (.tup _ _ rfl fun i x v h => by simp at h)
theorem MM.set_self {id : Nat} {m : MI} (hm : M id = some m) : M.set id m = M := by
 funext i
 unfold MM.set
 split
 . rename_i e; rw [e, hm]
 . rfl
theorem Inv.rewrite (I : Inv B0 w S M h) {id : Nat} {o : Obj} {m : MI} (ho : h.obj id = some o) (hm : M id = some m) (blk : Go.Obj) (o' : Obj)
  (hO : ∀ w', (∀ b, S b -> S b /\ w'.heap[b]? = w.heap[b]?) -> w'.heap[m.b]? = some blk -> RepO w' S M m o') (hnn : ∀ g e cs fc, o' ≠ .nest g e cs fc := by intro _ _ _ _ h; cases h) :
  Inv B0 (w.putObj m.b blk) S M (h.set id (some o')) /\ Ext B0 n0 w S M (w.putObj m.b blk) S M := by
 have hb := (I.at_ id m hm).2.1
 have hblk : ∀ b, b ≠ m.b -> (w.putObj m.b blk).heap[b]? = w.heap[b]? := fun b hb => by
  show (w.heap.setIfInBounds m.b blk)[b]? = _
  rw [Array.getElem?_setIfInBounds, if_neg (Ne.symm hb)]
 have hS : ∀ b, S b -> S b /\ (w.putObj m.b blk).heap[b]? = w.heap[b]? := fun b hb => ⟨hb, hblk b fun e => I.stable id _ m ho hm (e ▸ hb)⟩
 have hat : (w.putObj m.b blk).heap[m.b]? = some blk := by
  show (w.heap.setIfInBounds m.b blk)[m.b]? = _
  simp [hb]
 have := I.put (n0 := n0) (w' := w.putObj m.b blk) id o' m (fun m1 hm1 => by rw [hm] at hm1; cases hm1; exact ⟨by rw [ho]; simp, .inl rfl⟩) (fun hn => by rw [hm] at hn; cases hn) rfl rfl rfl
  (by show _ <= (w.heap.setIfInBounds m.b blk).size; simp) (fun b _ hb => hblk b (hb m hm)) (.inr ⟨m, hm, rfl⟩) (by show _ < (w.heap.setIfInBounds m.b blk).size; simpa using hb)
  (by rw [MM.set_self hm]; exact hO _ hS hat) (fun g e cs fc ho' => absurd ho' (hnn g e cs fc))
 rw [MM.set_self hm] at this
 exact this
theorem cells_le (I : Inv B0 w S M h) {id g : Nat} {e : TypeId} {fz : Bool} {cs : List V} {m : MI} (ho : h.obj id = some (.cells g e fz cs)) (hm : M id = some m) : m.ext <= m.tot := by
 obtain ⟨m1, h1, h2, h3, hw, arr, fr, h4, h5, h6, h7, h8⟩ := I.obj id _ ho
 rw [hm] at h1
 cases h1
 omega
theorem store_put (I : Inv B0 w S M h) {id g : Nat} {e : TypeId} {cs : List V} {m : MI} {arr : Array Value} (ho : h.obj id = some (.cells g e false cs)) (hm : M id = some m) (hg : m.gen = g) (hext : m.ext = cs.length)
  (hheap : w.heap[m.b]? = some (.cells arr e (0, 0))) (hsz : arr.size = m.tot) {p : Nat} {nv : List Value} (hfit : m.s + p + nv.length <= m.tot) (h1 : ∀ v ∈ nv, v.oneCell' = true) {g' s' : Nat} {cs' : List V}
  (hg' : (g' = g /\ s' = m.s /\ cs'.length = cs.length) \/ g < g') (hle : s' + cs'.length <= m.tot)
  (hcs : ∀ (j : Nat) (c : V), cs'[j]? = some c -> ∃ v, (setRange arr.toList (m.s + p) nv)[s' + j]? = some v /\ RepV w S M c v) :
  ∃ w', (storeCells ⟨m.b, m.s + p, none⟩ nv).run P w = .ok () w' /\ Inv B0 w' S (M.set id ⟨m.b, s', g', cs'.length, m.tot⟩) (h.set id (some (.cells g' e false cs'))) /\ Ext B0 n0 w S M w' S (M.set id ⟨m.b, s', g', cs'.length, m.tot⟩) := by
 refine ⟨_, run_storeCells_at P m.b (m.s + p) e nv 0 arr w hheap (by omega) h1, ?_⟩
 have hsr : (arr.toList.take (m.s + p + 0) ++ nv ++ arr.toList.drop (m.s + p + 0 + nv.length)) = setRange arr.toList (m.s + p) nv := by simp [setRange]
 rw [hsr]
 have hb := (I.at_ id m hm).2.1
 have hblk : ∀ b, b ≠ m.b -> (w.setRow m.b (setRange arr.toList (m.s + p) nv).toArray).heap[b]? = w.heap[b]? := fun b hb => setRow_other _ _ _ _ hb
 have hS : ∀ b, S b -> S b /\ (w.setRow m.b (setRange arr.toList (m.s + p) nv).toArray).heap[b]? = w.heap[b]? := fun b hb => ⟨hb, hblk b fun e => I.stable id _ m ho hm (e ▸ hb)⟩
 have hle0 := cells_le I ho hm
 have hmm : (⟨m.b, s', g', cs'.length, m.tot⟩ : MI) = m \/ (m.gen < g' /\ m.ext <= m.tot) := by
  rcases hg' with ⟨e1, e2, e3⟩ | e1
  . left
    cases m
    simp_all
  . right; omega
 have hM : ∀ i m1, M i = some m1 -> ∃ m2, (M.set id ⟨m.b, s', g', cs'.length, m.tot⟩) i = some m2 /\ (m2 = m1 \/ (m1.gen < m2.gen /\ m1.ext <= m1.tot)) := fun i m1 h1 => by
  by_cases e : i = id
  . subst e
    rw [hm] at h1
    cases h1
    exact ⟨_, by simp only [MM.set, if_true], hmm⟩
  . exact ⟨m1, by simp [MM.set, e, h1], .inl rfl⟩
 refine I.put id (.cells g' e false cs') ⟨m.b, s', g', cs'.length, m.tot⟩ (fun m1 h1 => ?_) (fun hn => by rw [hm] at hn; cases hn) rfl rfl rfl (by simp) (fun b _ hb => hblk b (hb m hm)) (.inr ⟨m, hm, rfl⟩) (by simpa using hb) ?_
 . rw [hm] at h1
   cases h1
   exact ⟨by rw [ho]; simp, hmm⟩
 . have hwh : g' = 0 -> s' = 0 /\ m.tot = cs'.length := fun e0 => by
    rcases hg' with ⟨e1, e2, e3⟩ | e1
    . obtain ⟨m2, hm2, _, _, hw, _⟩ := I.obj id _ ho
      rw [hm] at hm2
      cases hm2
      have := hw (by omega)
      exact ⟨by omega, by omega⟩
    . omega
   refine ⟨rfl, rfl, hwh, (setRange arr.toList (m.s + p) nv).toArray, (0, 0), setRow_heap _ _ _ _ _ _ hheap, fun _ => rfl, ?_, hle, fun j c hj => ?_⟩
   . have := setRange_length arr.toList (m.s + p) nv (by simp [hsz]; omega)
     simp only [List.size_toArray, this]
     simpa using hsz
   . obtain ⟨v, hv, hr⟩ := hcs j c hj
     exact ⟨v, by simpa using hv, hr.mono hS hM⟩
theorem write_run (I : Inv B0 w S M h) {id g : Nat} {e : TypeId} {cs : List V} (ho : h.obj id = some (.cells g e false cs)) {off : Nat} {new : List V} {nv : List Value} (hr : RepVL w S M new nv) (h1 : ∀ v ∈ nv, v.oneCell' = true)
  (hfit : off + new.length <= cs.length) : ∃ m w', M id = some m /\ m.gen = g /\ (storeCells ⟨m.b, m.s + off, none⟩ nv).run P w = .ok () w' /\ Inv B0 w' S M (h.set id (some (.cells g e false (setRange cs off new)))) /\ Ext B0 n0 w S M w' S M := by
 obtain ⟨m, arr, fr, hm, hmg, hext, hheap, hfr, hsz, hle, hcell, hlist⟩ := obj_cells I ho
 have := hfr rfl
 subst this
 have hcl := setRange_length cs off new hfit
 have hnl : nv.length = new.length := hr.1.symm
 obtain ⟨w', k1, k2, k3⟩ := store_put (P := P) (n0 := n0) I ho hm hmg hext hheap hsz (p := off) (nv := nv) (by omega) h1 (g' := g) (s' := m.s) (cs' := setRange cs off new) (.inl ⟨rfl, rfl, hcl⟩) (by omega) (fun j c hj => by
  have hjl : j < cs.length := by rw [<- hcl]; exact (gS.1 hj).1
  rw [setRange_get _ _ _ _ hfit] at hj
  rw [setRange_get _ _ _ _ (by simp [hsz]; omega)]
  by_cases c1 : j < off
  . rw [if_pos c1] at hj
    rw [if_pos (by omega)]
    obtain ⟨v, hv, hrv⟩ := hcell j c hj
    exact ⟨v, by simpa [World.cell?, hheap] using hv, hrv⟩
  . rw [if_neg c1] at hj
    rw [if_neg (by omega)]
    by_cases c2 : j < off + new.length
    . rw [if_pos c2] at hj
      rw [if_pos (by omega)]
      obtain ⟨v, hv, hrv⟩ := hr.get hj
      exact ⟨v, by rw [<- hv]; congr 1; omega, hrv⟩
    . rw [if_neg c2] at hj
      rw [if_neg (by omega)]
      obtain ⟨v, hv, hrv⟩ := hcell j c hj
      exact ⟨v, by simpa [World.cell?, hheap] using hv, hrv⟩)
 have hself : M.set id ⟨m.b, m.s, g, (setRange cs off new).length, m.tot⟩ = M := by
  have : (⟨m.b, m.s, g, (setRange cs off new).length, m.tot⟩ : MI) = m := by cases m; simp_all
  rw [this]; exact MM.set_self hm
 rw [hself] at k2 k3
 exact ⟨m, w', hm, hmg, k1, k2, k3⟩
theorem focOf_some {fc : Option (Nat × List V)} {off n : Nat} {b : Bool} (hf : focOf fc off n = some b) : (b = false /\ fc = none) \/ (b = true /\ ∃ fs, fc = some (off, fs) /\ fs.length = n) := by
 unfold focOf at hf
 split at hf
 . cases hf; exact .inl ⟨rfl, rfl⟩
 . rename_i p
   split at hf
   . rename_i hc
     cases hf
     obtain ⟨h1, h2⟩ := hc
     exact .inr ⟨rfl, p.2, by rw [<- h1], h2⟩
   . cases hf
theorem nest_write (I : Inv B0 w S M h) {id g : Nat} {e : TypeId} {cs : List C} {fc : Option (Nat × List V)} (ho : h.obj id = some (.nest g e cs fc)) {off : Nat} {new : List V} {nv : List Value} (hr : RepVL w S M new nv) (h1 : ∀ v ∈ nv, v.oneCell' = true)
  (hfit : off + new.length <= cs.length) {b : Bool} (hfo : focOf fc off new.length = some b) : ∃ m w', M id = some m /\ m.gen = g /\ (storeCells ⟨m.b, m.s + off, none⟩ nv).run P w = .ok () w' ∧
   Inv B0 w' S M (h.set id (some (.nest g e (cond b cs (setRange cs off (List.replicate new.length (.v .junk)))) (some (off, new))))) /\ Ext B0 n0 w S M w' S M := by
 obtain ⟨m, hm, hmg, hext, hw, arr, hheap, hsz, hle, hcell, hfoc⟩ := I.obj id _ ho
 have hnl : nv.length = new.length := hr.1.symm
 generalize hcs : (cond b cs (setRange cs off (List.replicate new.length (C.v V.junk)))) = cs'
 have hfit2 : off + (List.replicate new.length (C.v V.junk)).length <= cs.length := by simpa using hfit
 have hcl : cs'.length = cs.length := by
  rw [<- hcs]
  cases b with
  | true => rfl
  | false => exact setRange_length cs off _ hfit2
 have hcase : ∀ (j : Nat) (c : C), cs'[j]? = some c -> (off <= j /\ j < off + new.length /\ c = .v .junk) \/ ((j < off \/ off + new.length <= j) /\ cs[j]? = some c) := fun j c hj => by
  rcases focOf_some hfo with ⟨rfl, rfl⟩ | ⟨rfl, fs, rfl, hfl⟩
  . rw [<- hcs] at hj
    simp only [cond_false] at hj
    rw [setRange_get _ _ _ _ hfit2, List.length_replicate] at hj
    by_cases c1 : j < off
    . rw [if_pos c1] at hj; exact .inr ⟨.inl c1, hj⟩
    . rw [if_neg c1] at hj
      by_cases c2 : j < off + new.length
      . rw [if_pos c2, List.getElem?_replicate] at hj
        split at hj
        . cases hj; exact .inl ⟨by omega, c2, rfl⟩
        . cases hj
      . rw [if_neg c2] at hj; exact .inr ⟨.inr (by omega), hj⟩
  . rw [<- hcs] at hj
    simp only [cond_true] at hj
    obtain ⟨_, hjunk, _⟩ := hfoc off fs rfl
    by_cases c1 : j < off
    . exact .inr ⟨.inl c1, hj⟩
    . by_cases c2 : j < off + new.length
      . have := hjunk (j - off) (by omega)
        rw [show off + (j - off) = j by omega, hj] at this
        exact .inl ⟨by omega, c2, Option.some.inj this⟩
      . exact .inr ⟨.inr (by omega), hj⟩
 have hjunk2 : ∀ j, j < new.length -> cs'[off + j]? = some (.v .junk) := fun j hj => by
  have hlt : off + j < cs'.length := by omega
  rcases hcase (off + j) cs'[off + j] (by simp [hlt]) with ⟨_, _, e1⟩ | ⟨h2, _⟩
  . rw [gE hlt, e1]
  . omega
 have hfit3 : m.s + off + nv.length <= arr.toList.length := by simp [hsz]; omega
 have hb := (I.at_ id m hm).2.1
 have hblk : ∀ b, b ≠ m.b -> (w.setRow m.b (setRange arr.toList (m.s + off) nv).toArray).heap[b]? = w.heap[b]? := fun b hb => setRow_other _ _ _ _ hb
 have hS : ∀ b, S b -> S b /\ (w.setRow m.b (setRange arr.toList (m.s + off) nv).toArray).heap[b]? = w.heap[b]? := fun b hb => ⟨hb, hblk b fun e => I.stable id _ m ho hm (e ▸ hb)⟩
 have hM : ∀ i m, M i = some m -> ∃ m2, M i = some m2 /\ (m2 = m \/ (m.gen < m2.gen /\ m.ext <= m.tot)) := fun i m h => ⟨m, h, .inl rfl⟩
 have hnew : (w.setRow m.b (setRange arr.toList (m.s + off) nv).toArray).heap[m.b]? = some (.cells (setRange arr.toList (m.s + off) nv).toArray e (0, 0)) := setRow_heap _ _ _ _ _ _ hheap
 have hsr : (arr.toList.take (m.s + off + 0) ++ nv ++ arr.toList.drop (m.s + off + 0 + nv.length)) = setRange arr.toList (m.s + off) nv := by simp [setRange]
 have hout : ∀ j, (j < off \/ off + new.length <= j) -> (setRange arr.toList (m.s + off) nv)[m.s + j]? = arr[m.s + j]? := fun j hj => by
  rw [setRange_get _ _ _ _ hfit3]
  rcases hj with c1 | c2
  . rw [if_pos (show m.s + j < m.s + off by omega)]; simp
  . rw [if_neg (show ¬ m.s + j < m.s + off by omega), if_neg (show ¬ m.s + j < m.s + off + nv.length by omega)]; simp
 refine ⟨m, _, hm, hmg, by rw [run_storeCells_at P m.b (m.s + off) e nv 0 arr w hheap (by omega) h1, hsr], ?_⟩
 have := I.put (n0 := n0) (w' := w.setRow m.b (setRange arr.toList (m.s + off) nv).toArray) id (.nest g e cs' (some (off, new))) m (fun m1 h1 => by rw [hm] at h1; cases h1; exact ⟨by rw [ho]; simp, .inl rfl⟩) (fun hn => by rw [hm] at hn; cases hn) rfl rfl rfl (by simp)
  (fun b _ hb => hblk b (hb m hm)) (.inr ⟨m, hm, rfl⟩) (by simpa using hb)
  (by
   rw [MM.set_self hm]
   refine ⟨hmg, by rw [hcl]; exact hext, by rw [hcl]; exact hw, _, hnew, ?_, by rw [hcl]; exact hle, fun j x hj => ?_, fun p fs hp => ?_⟩
   . have := setRange_length arr.toList (m.s + off) nv hfit3
     simp only [List.size_toArray, this]
     simpa using hsz
   . simp only [List.getElem?_toArray]
     rcases hcase j _ hj with ⟨h2, h3, h4⟩ | ⟨h2, h3⟩
     . cases h4
       have hlt : m.s + j < (setRange arr.toList (m.s + off) nv).length := by rw [setRange_length arr.toList (m.s + off) nv hfit3]; omega
       exact ⟨_, gE hlt, .junk _⟩
     . obtain ⟨v, hv, hrv⟩ := hcell j x h3
       exact ⟨v, by rw [hout j h2]; exact hv, hrv.mono hS hM⟩
   . cases hp
     refine ⟨by rw [hcl]; exact hfit, hjunk2, fun j x hj => ?_⟩
     obtain ⟨v, hv, hrv⟩ := hr.get hj
     have hjl : j < nv.length := (gS.1 hv).1
     refine ⟨v, ?_, hrv.mono hS hM⟩
     simp only [List.getElem?_toArray]
     rw [setRange_get _ _ _ _ hfit3, if_neg (by omega), if_pos (by omega), <- hv]
     congr 1; omega)
  (fun g1 e1 cs1 fc1 ho1 j e2 sh xs hj => by
   cases ho1
   rcases hcase j _ hj with ⟨_, _, h4⟩ | ⟨h2, h3⟩
   . cases h4
   . refine ⟨g, e, cs, fc, m, j, ho, hm, h3, rfl, rfl, ?_⟩
     simp only [World.cell?, hnew, hheap, List.getElem?_toArray, hout j h2])
 rw [MM.set_self hm] at this
 exact this
theorem store_run (X : Ctx cfg P B0 n0 w S M h ts a h.obj slot) {t : TypeId} {x y : Operand} {v : V} {h' : Heap} (hq : lStore cfg ts h t x y = some (v, h')) :
  LDone P B0 n0 w S M h' (do Instr.storeAt t (evalA a x) (evalA a y); pure .skip) v := by
 simp only [lStore, oB] at hq
 obtain ⟨i, hi, p, hp, u, hu, hq⟩ := hq
 obtain ⟨info, ud, i1, i2, i3, _⟩ := ti_spec X hi
 split at hq
 case h_2 => cases hq
 rename_i id gen off sh
 split at hq
 case h_3 => cases hq
 case h_2 =>
  rename_i g e cs fc ho
  split at hq
  case isFalse => cases hq
  rename_i hc
  obtain ⟨rfl, hf, hle⟩ := hc
  simp only [oB, oI, Prod.mk.injEq] at hq
  obtain ⟨b0, hfo, rfl, rfl⟩ := hq
  have rp := ev_rep X.t hp
  have ru := ev_rep X.t hu
  obtain ⟨f1, f2, f3⟩ := fits_cells ru hf
  obtain ⟨m, w', hm, hmg, hrun, hI, hE⟩ := nest_write (P := P) (n0 := n0) X.I ho (repV_cells ru (fits_junk hf)) f3 hle hfo
  obtain ⟨b, o, m2, hpv, hm2, _, hat⟩ := repV_ref rp
  rw [hm] at hm2
  cases hm2
  obtain ⟨rfl, rfl⟩ := hat hmg
  refine ⟨.skip, undef, w', S, M, ?_, .inr ⟨rfl, rfl⟩, hI, hE, undef_rep⟩
  have hsize : (evalA a y).cells.size = info.size := by rw [f2, shSize_sh X.c hi, i3]
  simp only [Instr.storeAt, Instr.sureAddr, storeVar, hpv, Sem.run_bind, Sem.run_pure, Result.andThen_ok, run_sizeOf' i1, hsize, ne_eq, not_true_eq_false, if_false, hrun]
 rename_i g e fz cs ho
 split at hq
 case isFalse => cases hq
 rename_i hc
 obtain ⟨rfl, rfl, hf, hle⟩ := hc
 simp only [oI, Prod.mk.injEq] at hq
 obtain ⟨rfl, rfl⟩ := hq
 have rp := ev_rep X.t hp
 have ru := ev_rep X.t hu
 obtain ⟨f1, f2, f3⟩ := fits_cells ru hf
 obtain ⟨m, w', hm, hmg, hrun, hI, hE⟩ := write_run (P := P) (n0 := n0) X.I ho (repV_cells ru (fits_junk hf)) f3 hle
 obtain ⟨b, o, m2, hpv, hm2, _, hat⟩ := repV_ref rp
 rw [hm] at hm2
 cases hm2
 obtain ⟨rfl, rfl⟩ := hat hmg
 refine ⟨.skip, undef, w', S, M, ?_, .inr ⟨rfl, rfl⟩, hI, hE, undef_rep⟩
 have hsize : (evalA a y).cells.size = info.size := by rw [f2, shSize_sh X.c hi, i3]
 simp only [Instr.storeAt, Instr.sureAddr, storeVar, hpv, Sem.run_bind, Sem.run_pure, Result.andThen_ok, run_sizeOf' i1, hsize, ne_eq, not_true_eq_false, if_false, hrun]
theorem keyEq_true {k e : T} (hk : keyEq k e = some true) : k = e := by
 unfold keyEq at hk
 split at hk
 . split at hk
   . rename_i hkk; simp only [oI, beq_iff_eq] at hk; rw [hkk, hk]
   . cases hk
 . simp only [oI, beq_iff_eq] at hk; rw [hk]
 . simp only [oI, beq_iff_eq] at hk; rw [hk]
 . cases hk
theorem findKey_at {k : T} : ∀ {ks : List T} {i j : Nat}, Apex.findKey k ks i = some (some j) -> i <= j /\ ks[j - i]? = some k
 | [], i, j, h => by simp [Apex.findKey] at h
 | e :: ks, i, j, h => by
  simp only [Apex.findKey, oB] at h
  obtain ⟨b, hb, h⟩ := h
  cases b with
  | true =>
   simp only [if_true, oI] at h
   subst h
   exact ⟨Nat.le_refl _, by simp [keyEq_true hb]⟩
  | false =>
   simp only [Bool.false_eq_true, if_false] at h
   obtain ⟨h1, h2⟩ := findKey_at h
   refine ⟨by omega, ?_⟩
   have : j - i = (j - (i + 1)) + 1 := by omega
   rw [this]; simpa using h2
theorem keyStays_run {u : TypeDesc} {k : T} {kv ov : Value} (hf : keyFits (dOf u) k = true) (rk : RepT w S k kv) (ro : RepT w S k ov) (n : Nat) (w' : World) : (do if Instr.sameBits n ov kv then pure kv else pure (if (<- choose (.extern "map.whichKeyStays" 2)) = 0 then kv else ov) : Sem Value).run P w' = .ok kv w' := by
 have : Instr.sameBits n ov kv = true := by
  rcases keyFits_desc hf rk with ⟨i, m, rfl, i', rfl, rfl⟩ | ⟨rfl, s, rfl, rfl⟩ | ⟨rfl, b, rfl, rfl⟩
  . have := repT_int ro; subst this
    cases n <;> simp [Instr.sameBits]
  . obtain ⟨ba, rfl, h2⟩ := repT_str ro
    have : (ba == s) = true := by rw [bytes_beq, h2]; simp
    cases n <;> simpa [Instr.sameBits] using this
  . have := repT_bool ro; subst this
    cases n <;> simp [Instr.sameBits]
 rw [if_pos this]; rfl
theorem setObj_map {b : Nat} {es : Array MapEntry} {clock : Nat} (o : Go.Obj) (hb : w.heap[b]? = some (.map es clock)) : (setObj b o).run P w = .ok () { w with heap := w.heap.setIfInBounds b o } := by
 simp [setObj, Sem.run, hb]
theorem born_push {es : Array MapEntry} {clock : Nat} (h : Born es clock) {k v : Value} : Born (es.push { key := k, val := v, born := clock }) (clock + 1) := by
 obtain ⟨h1, h2⟩ := h
 refine ⟨fun x hx => ?_, ?_⟩
 . simp only [Array.toList_push, List.mem_append, List.mem_singleton] at hx
   rcases hx with hx | rfl
   . have := h1 x hx; omega
   . show clock < clock + 1; omega
 . simp only [Array.toList_push, List.map_append, List.map_cons, List.map_nil]
   rw [List.nodup_append]
   refine ⟨h2, by simp, ?_⟩
   intro a ha b hb
   simp only [List.mem_singleton] at hb
   subst hb
   obtain ⟨x, hx, rfl⟩ := List.mem_map.1 ha
   have := h1 x hx
   omega
theorem born_modify {es : Array MapEntry} {clock : Nat} (h : Born es clock) (j : Nat) {k v : Value} : Born (es.modify j fun e => { e with key := k, val := v }) clock := by
 have hm : (es.modify j fun e => { e with key := k, val := v }).toList.map (·.born) = es.toList.map (·.born) := by
  apply List.ext_getElem?
  intro i
  simp only [List.getElem?_map, Array.getElem?_toList, Array.getElem?_modify]
  split
  . cases es[i]? <;> rfl
  . rfl
 refine ⟨fun x hx => ?_, by rw [hm]; exact h.2⟩
 have : x.born ∈ (es.modify j fun e => { e with key := k, val := v }).toList.map (·.born) := List.mem_map.2 ⟨x, hx, rfl⟩
 rw [hm] at this
 obtain ⟨y, hy, e⟩ := List.mem_map.1 this
 rw [<- e]
 exact h.1 y hy
theorem mapUpdate_run (X : Ctx cfg P B0 n0 w S M h ts a h.obj slot) {t : TypeId} {x y z : Operand} {v : V} {h' : Heap} (hq : lMapUpdate cfg ts h t x y z = some (v, h')) :
  LDone P B0 n0 w S M h' (do Instr.mapUpdate t (evalA a x) (evalA a y) (evalA a z); pure .skip) v := by
 simp only [lMapUpdate, oB] at hq
 obtain ⟨i, hi, hq⟩ := hq
 obtain ⟨info, u, h1, h2, h3, h4, h5, h6, h7, _⟩ := ti_spec X hi
 split at hq
 case h_2 => cases hq
 rename_i kt et hd
 rw [h7] at hd
 have := dOf_map hd; subst this
 simp only [oB] at hq
 obtain ⟨ki, hki, mv, hmv, k0, ⟨kV, hkV, hk0⟩, xv, hxv, hq⟩ := hq
 have := toT_t hk0; subst this
 obtain ⟨_, ku, _, k2, _, _, _, _, k7, _⟩ := ti_spec X hki
 split at hq
 case isFalse => cases hq
 rename_i hkf
 rw [k7] at hkf
 have rm := ev_rep X.t hmv
 have rk := repV_t (ev_rep X.t hkV)
 have rx := ev_rep X.t hxv
 split at hq
 case h_2 => cases hq
 rename_i id
 split at hq
 case h_2 => cases hq
 rename_i ks vs ho
 simp only [oB] at hq
 obtain ⟨r, hfk, hq⟩ := hq
 obtain ⟨m, hm, hg, es, clock, hst, e1, e2, e3, e4, e5⟩ := X.I.obj id _ ho
 have hxm : evalA a x = .map (some m.b) := by
  cases he : evalA a x <;> rw [he] at rm <;> cases rm
  rename_i b m2 hb hm2
  rw [hm] at hm2
  cases hm2
  rw [hb hg]
 have hck : ∀ e, (Instr.checkKey e 10000 kt (evalA a y)).run P w = .ok () w := fun e => checkKey_run k2 hkf rk e 9999 w
 have hfr := findKey_run (P := P) k2 hkf rk (es := es.toList) (by simpa using e2) (fun i k e p q => e4 i k e p (by simpa using q)) hfk w
 have hb := (X.I.at_ id m hm).2.1
 have put : ∀ (es' : Array MapEntry) (clock' : Nat) (ks' : List T) (vs' : List V), Born es' clock' -> ks'.length = es'.size -> vs'.length = es'.size -> (∀ (i : Nat) (k : T) (e : MapEntry), ks'[i]? = some k -> es'[i]? = some e -> RepT w S k e.key) →
   (∀ (i : Nat) (v : V) (e : MapEntry), vs'[i]? = some v -> es'[i]? = some e -> RepV w S M v e.val) -> (Instr.mapUpdate t (evalA a x) (evalA a y) (evalA a z)).run P w = .ok () { w with heap := w.heap.setIfInBounds m.b (.map es' clock') } →
   LDone P B0 n0 w S M (h.set id (some (.map ks' vs'))) (do Instr.mapUpdate t (evalA a x) (evalA a y) (evalA a z); pure .skip) undefV := by
  intro es' clock' ks' vs' p0 p1 p2 p3 p4 hrun
  have hblk : ∀ b, b ≠ m.b -> (w.heap.setIfInBounds m.b (.map es' clock'))[b]? = w.heap[b]? := fun b hb => by rw [Array.getElem?_setIfInBounds, if_neg (Ne.symm hb)]
  have hS : ∀ b, S b -> S b /\ ({ w with heap := w.heap.setIfInBounds m.b (.map es' clock') } : World).heap[b]? = w.heap[b]? := fun b hb => ⟨hb, hblk b fun e => X.I.stable id _ m ho hm (e ▸ hb)⟩
  have := X.I.put (n0 := n0) (w' := { w with heap := w.heap.setIfInBounds m.b (.map es' clock') }) id (.map ks' vs') m (fun m1 hm1 => by rw [hm] at hm1; cases hm1; exact ⟨by rw [ho]; simp, .inl rfl⟩) (fun hn => by rw [hm] at hn; cases hn) rfl rfl rfl (by simp)
   (fun b _ hb => hblk b (hb m hm)) (.inr ⟨m, hm, rfl⟩) (by simpa using hb)
   ⟨hg, es', clock', p0, by show (w.heap.setIfInBounds m.b _)[m.b]? = _; simp [hb], p1, p2, fun i k e q1 q2 => (p3 i k e q1 q2).mono hS, fun i v e q1 q2 => (p4 i v e q1 q2).mono hS (fun i m1 h1 => by rw [MM.set_self hm]; exact ⟨m1, h1, .inl rfl⟩)⟩
  rw [MM.set_self hm] at this
  exact ⟨.skip, undef, _, S, M, by simp only [Sem.run_bind, hrun, Result.andThen_ok, Sem.run_pure], .inr ⟨rfl, rfl⟩, this.1, this.2, undef_rep⟩
 cases r with
 | none =>
  simp only [oI, Prod.mk.injEq] at hq
  obtain ⟨rfl, rfl⟩ := hq
  simp only at hfr
  refine put (es.push { key := evalA a y, val := evalA a z, born := clock }) (clock + 1) _ _ (born_push hst) (by simp [e2]) (by simp [e3]) (fun i k e q1 q2 => ?_) (fun i v e q1 q2 => ?_) ?_
  . rw [Array.getElem?_push] at q2
    split at q2
    . rename_i hi; subst hi; cases q2
      rw [<- e2, List.getElem?_append_right (Nat.le_refl _)] at q1
      simp at q1; subst q1; exact rk
    . rename_i hi
      have hlt : i < es.size := (Array.getElem?_eq_some_iff.1 q2).1
      rw [List.getElem?_append_left (by omega)] at q1
      exact e4 i k e q1 q2
  . rw [Array.getElem?_push] at q2
    split at q2
    . rename_i hi; subst hi; cases q2
      rw [<- e3, List.getElem?_append_right (Nat.le_refl _)] at q1
      simp at q1; subst q1; exact rx
    . rename_i hi
      have hlt : i < es.size := (Array.getElem?_eq_some_iff.1 q2).1
      rw [List.getElem?_append_left (by omega)] at q1
      exact e5 i v e q1 q2
  . simp only [Instr.mapUpdate, hxm, Sem.run_bind, run_underlying h2, Result.andThen_ok, getObj_map e1, hck, hfr, setObj_map _ e1]
 | some j =>
  simp only [oI, Prod.mk.injEq] at hq
  obtain ⟨rfl, rfl⟩ := hq
  simp only at hfr
  obtain ⟨e, he, hfr⟩ := hfr
  have he' : es[j]? = some e := by simpa using he
  obtain ⟨_, hkj⟩ := findKey_at hfk
  rw [Nat.sub_zero] at hkj
  have rke := e4 j k0 e hkj he'
  have hstay := keyStays_run (P := P) hkf rk rke 10000 w
  refine put (es.modify j fun e => { e with key := evalA a y, val := evalA a z }) clock _ _ (born_modify hst j) (by simp [e2]) (by simp [e3]) (fun i k e' q1 q2 => ?_) (fun i v e' q1 q2 => ?_) ?_
  . rw [Array.getElem?_modify] at q2
    split at q2
    . rename_i hi; subst hi
      rw [he'] at q2
      cases q2
      rw [hkj] at q1
      cases q1
      exact rk
    . exact e4 i k e' q1 q2
  . rw [Array.getElem?_modify] at q2
    split at q2
    . rename_i hi; subst hi
      rw [he'] at q2
      cases q2
      have hlt : j < vs.length := by rw [e3]; exact (Array.getElem?_eq_some_iff.1 he').1
      rw [List.getElem?_set_self hlt] at q1
      cases q1
      exact rx
    . rename_i hi
      rw [List.getElem?_set_ne hi] at q1
      exact e5 i v e' q1 q2
  . have hks : (Instr.keyThatStays (((es[j]?).map (·.key)).getD (evalA a y)) (evalA a y)).run P w = .ok (evalA a y) w := by
     rw [he']; exact hstay
    simp only [Instr.mapUpdate, hxm, Sem.run_bind, run_underlying h2, Result.andThen_ok, getObj_map e1, hck, hfr, hks, setObj_map _ e1]
end
end Go.Apex
