import Derived.Test.YtcljaeknhmpecaaGreatApexA4
set_option linter.all false
namespace Go.Apex
open Go Go.RowKit
variable [Globs]
section
variable {cfg : Cfg} {P : Program} {B0 : Nat -> Prop} {n0 : Nat -> Prop} {w : World} {S : Nat -> Prop} {M : MM} {h : Heap} {ts : Ts} {a : Array Value} {rd : Rd} {slot : Nat}
theorem cell_of {w : World} {b : Nat} {arr : Array Value} {e : TypeId} {fr : Nat × Nat} (hb : w.heap[b]? = some (.cells arr e fr)) (o : Nat) : w.cell? ⟨b, o, none⟩ = arr[o]? := by
 simp [World.cell?, hb]
theorem cells_t (x : T) : (V.t x).cells = x.cells.map .t := by cases x <;> rfl
theorem repV_zero {w : World} {S : Nat -> Prop} {M : MM} {z : T} {zv : Value} (h : RepT w S z zv) : RepVL w S M (z.cells.map .t) zv.cells.toList := by
 have := repV_cells (RepV.t (M := M) z zv h) rfl
 rwa [cells_t] at this
theorem alloc_run (X : Ctx cfg P B0 n0 w S M h ts a rd slot) {e : TypeId} {v : V} {ob : Option Obj} (hq : qAlloc cfg slot e = some (v, ob)) :
  QDone P B0 n0 w S M h slot (Instr.alloc e true (.tuple #[])) v ob := by
 simp only [qAlloc, oB] at hq
 obtain ⟨i, hi, z, hz, hq⟩ := hq
 split at hq
 . cases hq
   obtain ⟨info, u, h1, h2, h3, h4, h5, h6, h7, _⟩ := ti_spec X hi
   rw [h6] at hz
   obtain ⟨zv, hzv, hrep⟩ := zero_spec hz
   refine done_cells X (vals := zv.cells) (cv := .pointer (some ⟨w.heap.size, 0, none⟩)) (repV_zero (hrep w S)) ?_ fun M' hM => .ref _ _ _ _ _ _ _ hM (Nat.le_refl _) fun _ => ⟨rfl, rfl⟩
   simp only [Instr.alloc, Sem.run_bind, run_zeroValue' h1 hzv, Result.andThen_ok, newVar, newRow, run_newObj, Sem.run_pure]
   rfl
 . cases hq
theorem box_run (X : Ctx cfg P B0 n0 w S M h ts a rd slot) {imm : Bool} {e : TypeId} {x : Operand} {v : V} {ob : Option Obj} (hq : qBox cfg imm slot ts e x = some (v, ob)) :
  QDone P B0 n0 w S M h slot (Instr.box e (evalA a x)) v ob := by
 simp only [qBox, oB] at hq
 obtain ⟨i, hi, y, hy, hq⟩ := hq
 have hv := ev_rep X.t hy
 split at hq
 . rename_i hf
   have hrun : (Instr.box e (evalA a x)).run P w = .ok (.pointer (some ⟨w.heap.size, 0, none⟩)) (w.alloc (.cells (evalA a x).cells e)) := by
    simp only [Instr.box, Sem.run_bind, newVar, newRow, run_newObj, Result.andThen_ok, Sem.run_pure]
    rfl
   split at hq
   . rename_i z hz
     cases hq
     have hyz : y = .t z := by
      split at hz
      . exact toT_t hz
      . cases hz
     subst hyz
     refine done_grow X hrun rfl rfl rfl (by show _ <= (w.heap.push _).size; simp) (fun b hb => Below.heap_alloc _ _ _ hb) fun S' hk hn => ?_
     obtain ⟨c1, c2⟩ := repT_cells (repV_t hv)
     refine .t _ _ (.ptr z w.heap.size 0 (fun j => (evalA a x).cells.getD j undef) (fun j c hj => ⟨hn _ (Nat.le_refl _) (by show _ < (w.heap.push _).size; simp), ?_⟩) fun j c hj => ?_)
     . have hlt : j < (evalA a x).cells.size := by rw [<- c1]; exact (gS.1 hj).1
       have : (w.alloc (.cells (evalA a x).cells e)).heap[w.heap.size]? = some (.cells (evalA a x).cells e) := by show (w.heap.push _)[w.heap.size]? = _; simp
       rw [cell_of this, Nat.zero_add]; simp [hlt]
     . have hlt : j < (evalA a x).cells.size := by rw [<- c1]; exact (gS.1 hj).1
       exact (c2 j c _ hj (by simp [hlt])).mono hk
   . cases hq
     exact done_cells X (repV_cells hv (fits_junk hf)) hrun fun M' hM => .ref _ _ _ _ _ _ _ hM (Nat.le_refl _) fun _ => ⟨rfl, rfl⟩
 . cases hq
theorem setRange_rep {cs new : List V} {vals nv : List Value} (h1 : RepVL w S M cs vals) (h2 : RepVL w S M new nv) (off : Nat) : RepVL w S M (setRange cs off new) (setRange vals off nv) := by
 unfold setRange
 rw [h2.1]
 exact ((h1.take off).append h2).append (h1.drop _)
theorem setRange_length {α : Type} (cs : List α) (off : Nat) (new : List α) (h : off + new.length <= cs.length) : (setRange cs off new).length = cs.length := by
 simp [setRange]; omega
theorem foldl_setRange : ∀ (l : List Value) (k : Nat) (off : Nat) (cs : Array Value), off + k + l.length <= cs.size →
  ((l.zipIdx k).foldl (fun (cs : Array Value) (p : Value × Nat) => cs.setIfInBounds (off + p.2) p.1) cs).toList = setRange cs.toList (off + k) l
 | [], k, off, cs, _ => by simp [setRange]
 | v :: l, k, off, cs, h => by
  simp only [List.zipIdx_cons, List.foldl_cons]
  rw [foldl_setRange l (k + 1) off _ (by simp at h ⊢; omega)]
  have hlt : off + k < cs.size := by simp at h; omega
  simp only [setRange, Array.toList_setIfInBounds, List.length_cons]
  rw [<- Nat.add_assoc]
  have e1 : (cs.toList.set (off + k) v).take (off + k + 1) = cs.toList.take (off + k) ++ [v] := by
   rw [List.take_succ_eq_append_getElem (by simpa using hlt), List.take_set_of_le (Nat.le_refl _)]
   simp
  rw [e1]
  have e2 : (cs.toList.set (off + k) v).drop (off + k + 1 + l.length) = cs.toList.drop (off + k + (l.length + 1)) := by
   rw [List.drop_set_of_lt (by omega)]
   congr 1
   omega
  rw [e2]
  simp
theorem fill_run {place : Nat -> Option (Nat × Option Nat)} {place' : Nat -> Option (Nat × Nat)} (hpl : ∀ i off sh, place i = some (off, sh) -> place' i = some (off, shSize sh)) :
  ∀ (parts : List (Nat × V)) (parts' : List (Nat × Value)) (cells : List V) (vals : Array Value) (r : List V), fill place cells parts = some r -> RepVL w S M cells vals.toList →
   parts'.length = parts.length -> (∀ (k : Nat) (p : Nat × V) (q : Nat × Value), parts[k]? = some p -> parts'[k]? = some q -> p.1 = q.1 /\ RepV w S M p.2 q.2) →
   ∃ vals', Instr.fill place' vals parts' = some vals' /\ RepVL w S M r vals'.toList
 | [], [], cells, vals, r, hf, hr, _, _ => by cases hf; exact ⟨vals, rfl, hr⟩
 | [], _ :: _, _, _, _, _, _, hl, _ => by simp at hl
 | _ :: _, [], _, _, _, _, _, hl, _ => by simp at hl
 | (i, v) :: rest, (i', u) :: rest', cells, vals, r, hf, hr, hl, hp => by
  obtain ⟨e1, hvu⟩ := hp 0 (i, v) (i', u) rfl rfl
  simp only at e1 hvu
  subst e1
  simp only [fill, oB] at hf
  obtain ⟨⟨off, sh⟩, hpi, hf⟩ := hf
  simp only at hf
  split at hf
  . rename_i hc
    simp only [Bool.and_eq_true, decide_eq_true_eq] at hc
    obtain ⟨f1, f2, _⟩ := fits_cells hvu hc.1
    have hsz : vals.size = cells.length := by have := hr.1; simpa using this.symm
    have hcond : ¬ (u.cells.size ≠ shSize sh \/ off + u.cells.size > vals.size) := by rw [f2, <- f1, hsz]; omega
    have hstep : Instr.fill place' vals ((i, u) :: rest') = Instr.fill place' (u.cells.zipIdx.foldl (fun cs (c, j) => cs.setIfInBounds (off + j) c) vals) rest' := by
     simp only [Instr.fill, hpl i off sh hpi, Bool.decide_or, if_neg hcond]
     rw [if_neg (by simpa using hcond)]
    have hfold : (u.cells.zipIdx.foldl (fun (cs : Array Value) (p : Value × Nat) => cs.setIfInBounds (off + p.2) p.1) vals).toList = setRange vals.toList off u.cells.toList := by
     rw [<- Array.foldl_toList, Array.toList_zipIdx]
     have := foldl_setRange u.cells.toList 0 off vals (by simp; rw [f2, <- f1, hsz]; omega)
     simpa using this
    obtain ⟨vals', h1, h2⟩ := fill_run hpl rest rest' (setRange cells off v.cells) (u.cells.zipIdx.foldl (fun cs (c, j) => cs.setIfInBounds (off + j) c) vals) r hf
     (by rw [hfold]; exact setRange_rep hr (repV_cells hvu (fits_junk hc.1)) off) (by simpa using hl) (fun k p q h1 h2 => hp (k + 1) p q (by simpa using h1) (by simpa using h2))
    exact ⟨vals', hstep.trans h1, h2⟩
  . cases hf
theorem evParts_rep (ht : RepTs w S M ts a) {parts : List (Nat × Operand)} {ps : List (Nat × V)} (he : evParts ts parts = some ps) :
  (parts.map fun p => (p.1, evalA a p.2)).length = ps.length /\ ∀ (k : Nat) (p : Nat × V) (q : Nat × Value), ps[k]? = some p -> (parts.map fun p => (p.1, evalA a p.2))[k]? = some q -> p.1 = q.1 /\ RepV w S M p.2 q.2 := by
 obtain ⟨h1, h2⟩ := mapO_spec he
 refine ⟨by simp [h1], fun k p q hp hq => ?_⟩
 obtain ⟨b, hb, hb2⟩ := h2 k p hp
 simp only [oM] at hb2
 obtain ⟨v, hv, rfl⟩ := hb2
 rw [List.getElem?_map, hb] at hq
 simp only [Option.map_some, oI] at hq
 subst hq
 exact ⟨rfl, ev_rep ht hv⟩
theorem evL_rep (ht : RepTs w S M ts a) {xs : List Operand} {vs : List V} (he : mapO (ev ts) xs = some vs) : RepVL w S M vs (xs.map (evalA a)) := by
 obtain ⟨h1, h2⟩ := mapO_spec he
 refine ⟨by simp [h1], fun k p q hp hq => ?_⟩
 obtain ⟨b, hb, hb2⟩ := h2 k p hp
 rw [List.getElem?_map, hb] at hq
 simp only [Option.map_some, oI] at hq
 subst hq
 exact ev_rep ht hb2
theorem run_mapM_list {α : Type} {P : Program} {g : α -> Sem (Nat × Nat)} {g' : α -> Nat × Nat} (w : World) : ∀ (l : List α), (∀ x ∈ l, (g x).run P w = .ok (g' x) w) -> (l.mapM g).run P w = .ok (l.map g') w
 | [], _ => by simp
 | x :: l, hl => by
  rw [List.mapM_cons]
  simp only [Sem.run_bind, hl x (by simp), Result.andThen_ok, run_mapM_list w l fun y hy => hl y (by simp [hy]), Sem.run_pure, List.map_cons]
theorem run_mapM_array {α : Type} {P : Program} {g : α -> Sem (Nat × Nat)} {g' : α -> Nat × Nat} (w : World) (l : Array α) (hl : ∀ x ∈ l.toList, (g x).run P w = .ok (g' x) w) : (l.mapM g).run P w = .ok (l.map g') w := by
 rw [Array.mapM_eq_mapM_toList, map_eq_pure_bind]
 have hb : (Sem.bind (List.mapM g l.toList) fun a => Sem.pure a.toArray).run P w = .ok (l.map g') w := by
  rw [Sem.run_bind', run_mapM_list w l.toList hl, Result.andThen_ok]
  show Result.ok (l.toList.map g').toArray w = _
  have : (l.toList.map g').toArray = l.map g' := by rw [<- Array.toList_map]
  rw [this]
 exact hb
theorem fields_of (X : Ctx cfg P B0 n0 w S M h ts a rd slot) {t : TypeId} {i : TI} {fs : List (TypeId × Nat × Bool)} (hi : cfg.ti t = some i) (hd : i.d = .struct fs) :
  ∃ F, P.underlying t = some (.struct F) /\ fs = F.toList.map (fun f => (f.type, f.offset, f.name == "_")) := by
 obtain ⟨info, u, h1, h2, h3, h4, h5, h6, h7, _⟩ := ti_spec X hi
 rw [h7] at hd
 cases u <;> simp [dOf] at hd
 rename_i F
 exact ⟨F, h2, hd.symm⟩
theorem shSize_sh (c : CfgTI cfg P) {t : TypeId} {i : TI} (hi : cfg.ti t = some i) : shSize i.sh = i.size := by
 unfold TI.sh shSize
 split
 . rfl
 . rename_i hf
   rw [tiOf_one (c.ti t i hi) (by simpa using hf)]
   rfl
end
end Go.Apex
