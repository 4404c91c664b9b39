import Derived.Test.YtcljaeknhmpecaaGreatApexA3
set_option linter.all false
namespace Go.Apex
open Go Go.RowKit
variable [Globs]
def QDone (P : Program) (B0 : Nat -> Prop) (n0 : Nat -> Prop) (w : World) (S : Nat -> Prop) (M : MM) (h : Heap) (slot : Nat) (s : Sem Value) (v : V) (ob : Option Obj) : Prop :=
 ∃ cv w' S' M', s.run P w = .ok cv w' /\ Inv B0 w' S' M' (putObj h slot ob) /\ Ext B0 n0 w S M w' S' M' /\ RepV w' S' M' v cv
structure Ctx (cfg : Cfg) (P : Program) (B0 : Nat -> Prop) (n0 : Nat -> Prop) (w : World) (S : Nat -> Prop) (M : MM) (h : Heap) (ts : Ts) (a : Array Value) (rd : Rd) (slot : Nat) : Prop where
 c : CfgTI cfg P
 I : Inv B0 w S M h
 t : RepTs w S M ts a
 rd : ∀ id o, rd id = some o -> h.obj id = some o
 sl : M slot = none
 s1 : ¬ n0 slot
 s2 : slot < h.next
section
variable {cfg : Cfg} {P : Program} {B0 : Nat -> Prop} {n0 : Nat -> Prop} {w : World} {S : Nat -> Prop} {M : MM} {h : Heap} {ts : Ts} {a : Array Value} {rd : Rd} {slot : Nat}
theorem done_same (X : Ctx cfg P B0 n0 w S M h ts a rd slot) {s : Sem Value} {cv : Value} {v : V} (hr : s.run P w = .ok cv w) (hv : RepV w S M v cv) : QDone P B0 n0 w S M h slot s v none :=
 ⟨cv, w, S, M, hr, X.I, Ext.refl .., hv⟩
theorem done_grow (X : Ctx cfg P B0 n0 w S M h ts a rd slot) {s : Sem Value} {cv : Value} {v : V} {w' : World} (hr : s.run P w = .ok cv w')
  (hos : w'.os = w.os) (htape : w'.tape = w.tape) (hout : w'.output = w.output) (hsz : w.heap.size <= w'.heap.size) (hblk : ∀ b, b < w.heap.size -> w'.heap[b]? = w.heap[b]?)
  (hv : ∀ S' : Nat -> Prop, (∀ b, S b -> S' b /\ w'.heap[b]? = w.heap[b]?) -> (∀ b, w.heap.size <= b -> b < w'.heap.size -> S' b) -> RepV w' S' M v cv) : QDone P B0 n0 w S M h slot s v none := by
 obtain ⟨h1, h2⟩ := X.I.grow (n0 := n0) hos htape hout hsz hblk
 exact ⟨cv, w', _, M, hr, h1, h2, hv _ h2.keep fun b hb hb2 => .inr ⟨hb, hb2⟩⟩
theorem done_cells (X : Ctx cfg P B0 n0 w S M h ts a rd slot) {s : Sem Value} {cv : Value} {v : V} {e : TypeId} {cs : List V} {vals : Array Value} (hcs : RepVL w S M cs vals.toList)
  (hr : s.run P w = .ok cv (w.alloc (.cells vals e)))
  (hv : ∀ M' : MM, M' slot = some ⟨w.heap.size, 0, 0, cs.length, cs.length⟩ -> RepV (w.alloc (.cells vals e)) S M' v cv) : QDone P B0 n0 w S M h slot s v (some (.cells 0 e false cs)) := by
 have hold : ∀ b, b < w.heap.size -> (w.alloc (.cells vals e)).heap[b]? = w.heap[b]? := fun b hb => Below.heap_alloc _ _ _ hb
 have hext : ∀ b, S b -> S b /\ (w.alloc (.cells vals e)).heap[b]? = w.heap[b]? := fun b hb => ⟨hb, hold b (X.I.lt b hb)⟩
 have hM : ∀ i m, M i = some m -> ∃ m2, (M.set slot ⟨w.heap.size, 0, 0, cs.length, cs.length⟩) i = some m2 /\ (m2 = m \/ (m.gen < m2.gen /\ m.ext <= m.tot)) := fun i m hm => by
  have : i ≠ slot := fun e => by rw [e, X.sl] at hm; cases hm
  exact ⟨m, by simp [MM.set, this, hm], .inl rfl⟩
 have hsize : (w.alloc (.cells vals e)).heap.size = w.heap.size + 1 := by show (w.heap.push _).size = _; simp
 obtain ⟨h1, h2⟩ := X.I.put (n0 := n0) (w' := w.alloc (.cells vals e)) slot (.cells 0 e false cs) ⟨w.heap.size, 0, 0, cs.length, cs.length⟩ (fun m hm => by rw [X.sl] at hm; cases hm) (fun _ => ⟨X.s1, X.s2⟩)
  rfl rfl rfl (by omega) (fun b hb _ => hold b hb) (.inl (Nat.le_refl _)) (by show w.heap.size < _; omega)
  ⟨rfl, rfl, fun _ => ⟨rfl, rfl⟩, vals, (0, 0), by show (w.heap.push _)[w.heap.size]? = _; simp, fun _ => rfl, by have := hcs.1; simpa using this.symm, by simp, fun j c hj => by
   obtain ⟨u, hu, hr⟩ := hcs.get hj
   exact ⟨u, by simpa using hu, hr.mono hext hM⟩⟩
 exact ⟨cv, _, S, _, hr, h1, h2, hv _ (by simp [MM.set])⟩
theorem ti_spec (X : Ctx cfg P B0 n0 w S M h ts a rd slot) {t : TypeId} {i : TI} (hi : cfg.ti t = some i) :
  ∃ info u, P.info? t = some info /\ P.underlying t = some u /\ i.size = info.size /\ i.bytes = info.bytes /\ i.agg = aggOf u /\ i.zero = info.zero.bind ofValue /\ i.d = dOf u ∧
   i.eqok = (!P.eqGuardType P.depth t && !P.stoodInHeld t) := tiOf_spec (X.c.ti t i hi)
theorem run_sizeOf' {t : TypeId} {info : TypeInfo} (hi : P.info? t = some info) (w : World) : (sizeOf t).run P w = .ok info.size w := by
 simp [sizeOf, typeInfo, hi]
theorem run_zeroValue' {t : TypeId} {info : TypeInfo} {z : Value} (hi : P.info? t = some info) (hz : info.zero = some z) (w : World) : (zeroValue t).run P w = .ok z w := by
 simp [zeroValue, typeInfo, hi, hz]
theorem run_typeInfo' {t : TypeId} {info : TypeInfo} (hi : P.info? t = some info) (w : World) : (typeInfo t).run P w = .ok info w := by
 simp [typeInfo, hi]
theorem run_isAgg {t : TypeId} {u : TypeDesc} (hu : P.underlying t = some u) (w : World) : (isAgg t).run P w = .ok (aggOf u) w := by
 cases u <;> simp [isAgg, run_underlying hu, aggOf]
theorem zero_spec {info : TypeInfo} {z : T} (hz : info.zero.bind ofValue = some z) : ∃ zv, info.zero = some zv /\ ∀ (w : World) (S : Nat -> Prop), RepT w S z zv := by
 obtain ⟨zv, h1, h2⟩ := oB.1 hz
 exact ⟨zv, h1, fun w S => ofValue_rep h2⟩
theorem run_loadVar_agg {t : TypeId} {info : TypeInfo} {u : TypeDesc} (hi : P.info? t = some info) (hu : P.underlying t = some u) (ha : aggOf u = true) (w : World) (b o : Nat) (vals : List Value)
  (hl : vals.length = info.size) (hc : ∀ (j : Nat) (v : Value), vals[j]? = some v -> w.cell? ⟨b, o + j, none⟩ = some v) : (loadVar t ⟨b, o, none⟩).run P w = .ok (.agg vals.toArray) w := by
 have h1 := run_loadCells_list (P := P) w ⟨b, o, none⟩ vals (fun j v hj => by rw [addr_add]; exact hc j v hj)
 simp only [loadVar, Sem.run_bind, run_isAgg hu, Result.andThen_ok, ha, if_true, run_sizeOf' hi]
 rw [<- hl, h1]
 rfl
theorem run_loadVar_one {t : TypeId} {u : TypeDesc} (hu : P.underlying t = some u) (ha : aggOf u = false) (w : World) (b o : Nat) (v : Value)
  (hc : w.cell? ⟨b, o, none⟩ = some v) : (loadVar t ⟨b, o, none⟩).run P w = .ok v w := by
 simp only [loadVar, Sem.run_bind, run_isAgg hu, Result.andThen_ok, ha, Bool.false_eq_true, if_false, run_load, hc]
theorem partV_spec {i : TI} {cs : List V} {off : Nat} {v : V} (hp : partV i cs off = some v) :
  (i.agg = true /\ off + i.size <= cs.length /\ v = mkAgg ((cs.drop off).take i.size)) \/ (i.agg = false /\ cs[off]? = some v) := by
 unfold partV at hp
 split at hp
 . rename_i h1
   split at hp
   . rename_i h2; cases hp; exact .inl ⟨h1, h2, rfl⟩
   . cases hp
 . rename_i h1; exact .inr ⟨by simpa using h1, hp⟩
theorem obj_cells (I : Inv B0 w S M h) {id gen : Nat} {e : TypeId} {fz : Bool} {cs : List V} (ho : h.obj id = some (.cells gen e fz cs)) :
  ∃ m arr fr, M id = some m /\ m.gen = gen /\ m.ext = cs.length /\ w.heap[m.b]? = some (.cells arr e fr) /\ (fz = false -> fr = (0, 0)) /\ arr.size = m.tot /\ m.s + cs.length <= m.tot ∧
   (∀ (j : Nat) (c : V), cs[j]? = some c -> ∃ v, w.cell? ⟨m.b, m.s + j, none⟩ = some v /\ RepV w S M c v) /\ RepVL w S M cs ((arr.toList.drop m.s).take cs.length) := by
 obtain ⟨m, hm, h1, h2, hw, arr, fr, h3, h4, h5, h6, h7⟩ := I.obj id _ ho
 refine ⟨m, arr, fr, hm, h1, h2, h3, h4, h5, h6, fun j c hj => ?_, RepVL.of_get (fun j c hj => ?_) (by simp; omega)⟩
 . obtain ⟨v, hv, hr⟩ := h7 j c hj
   exact ⟨v, by simp [World.cell?, h3, hv], hr⟩
 . obtain ⟨v, hv, hr⟩ := h7 j c hj
   have hlt : j < cs.length := (gS.1 hj).1
   exact ⟨v, by rw [List.getElem?_take, if_pos hlt, List.getElem?_drop]; simpa using hv, hr⟩
theorem nest_cells (I : Inv B0 w S M h) {id gen : Nat} {e : TypeId} {cs : List C} {fc : Option (Nat × List V)} (ho : h.obj id = some (.nest gen e cs fc)) :
  ∃ m arr, M id = some m /\ m.gen = gen /\ m.ext = cs.length /\ w.heap[m.b]? = some (.cells arr e (0, 0)) /\ arr.size = m.tot /\ m.s + cs.length <= m.tot ∧
   (∀ (j : Nat) (x : V), cs[j]? = some (.v x) -> ∃ v, w.cell? ⟨m.b, m.s + j, none⟩ = some v /\ RepV w S M x v) ∧
   ∀ (p : Nat) (fs : List V), fc = some (p, fs) -> p + fs.length <= cs.length /\ (∀ j, j < fs.length -> cs[p + j]? = some (.v .junk)) /\ ∀ (j : Nat) (x : V), fs[j]? = some x -> ∃ v, w.cell? ⟨m.b, m.s + p + j, none⟩ = some v /\ RepV w S M x v := by
 obtain ⟨m, hm, h1, h2, hw, arr, h3, h5, h6, h7, h8⟩ := I.obj id _ ho
 refine ⟨m, arr, hm, h1, h2, h3, h5, h6, fun j c hj => ?_, fun p fs hf => ⟨(h8 p fs hf).1, (h8 p fs hf).2.1, fun j c hj => ?_⟩⟩
 . obtain ⟨v, hv, hr⟩ := h7 j c hj
   exact ⟨v, by simp [World.cell?, h3, hv], hr⟩
 . obtain ⟨v, hv, hr⟩ := (h8 p fs hf).2.2 j c hj
   exact ⟨v, by simp [World.cell?, h3, hv], hr⟩
theorem val?_some {c : C} {x : V} (h : c.val? = some x) : c = .v x := by cases c <;> simp [C.val?] at h; rw [h]
theorem partN_spec {i : TI} {cs : List C} {off : Nat} {v : V} (hp : partN i cs off = some v) :
  (i.agg = true /\ off + i.size <= cs.length /\ ∃ xs, mapO C.val? ((cs.drop off).take i.size) = some xs /\ v = mkAgg xs) \/ (i.agg = false /\ cs[off]? = some (.v v)) := by
 unfold partN at hp
 split at hp
 . rename_i h1
   split at hp
   . rename_i h2
     simp only [oM] at hp
     obtain ⟨xs, h3, rfl⟩ := hp
     exact .inl ⟨h1, h2, xs, h3, rfl⟩
   . cases hp
 . rename_i h1
   simp only [oB] at hp
   obtain ⟨c, h2, h3⟩ := hp
   rw [val?_some h3] at h2
   exact .inr ⟨by simpa using h1, h2⟩
theorem loadV_run (c : CfgTI cfg P) (I : Inv B0 w S M h) (hrd : ∀ id o, rd id = some o -> h.obj id = some o) {t : TypeId} {i : TI} (hi : cfg.ti t = some i) {p v : V} {pv : Value}
  (hp : RepV w S M p pv) (hl : loadV i rd p = some v) : ∃ cv, (Instr.loadAt t pv).run P w = .ok cv w /\ RepV w S M v cv := by
 obtain ⟨info, u, h1, h2, h3, h4, h5, h6, h7, _⟩ := tiOf_spec (c.ti t i hi)
 cases p with
 | t x =>
  cases x <;> simp only [loadV] at hl <;> try (cases hl; done)
  rename_i x
  split at hl
  . rename_i hf
    cases hl
    have hx := repV_t hp
    cases hx with
    | ptr _ b o g hc hr =>
     cases hag : i.agg with
     | true =>
      have hsh : i.sh = some i.size := by simp [TI.sh, hag]
      rw [hsh] at hf
      simp only [T.fits, Bool.and_eq_true, beq_iff_eq, List.all_eq_true] at hf
      cases x <;> simp [T.isAgg] at hf
      rename_i cs
      have hlen : cs.length = info.size := by rw [<- h3]; exact hf.1
      refine ⟨.agg ((List.range info.size).map g).toArray, ?_, .t _ _ (.agg _ _ (by simpa using hlen) fun j c v hj hv => ?_)⟩
      . simp only [Instr.loadAt, Instr.sureAddr, Sem.run_bind, Sem.run_pure, Result.andThen_ok]
        refine run_loadVar_agg h1 h2 (by rw [<- h5]; exact hag) w b o _ (by simp) fun j v hj => ?_
        simp only [List.getElem?_map, oM] at hj
        obtain ⟨k, hk, rfl⟩ := hj
        have hjl : j < info.size := by have := (gS.1 hk).1; simpa using this
        have : k = j := by simp [hjl] at hk; exact hk.symm
        subst this
        exact (hc k cs[k] (by simp [T.cells])).2
      . have hjl : j < info.size := by rw [<- hlen]; exact (gS.1 hj).1
        have : v = g j := by simp [hjl] at hv; exact hv.symm
        subst this
        exact hr j c hj
     | false =>
      have hsh : i.sh = none := by simp [TI.sh, hag]
      rw [hsh] at hf
      have hcx : x.cells = [x] := by cases x <;> first | rfl | (simp [T.fits, T.one] at hf)
      refine ⟨g 0, ?_, .t _ _ (hr 0 x (by rw [hcx]; rfl))⟩
      simp only [Instr.loadAt, Instr.sureAddr, Sem.run_bind, Sem.run_pure, Result.andThen_ok]
      exact run_loadVar_one h2 (by rw [<- h5]; exact hag) w b o _ (hc 0 x (by rw [hcx]; rfl)).2
  . cases hl
 | ref id gen off sh =>
  simp only [loadV] at hl
  split at hl
  . rename_i g e fz cs ho
    split at hl
    . rename_i hg
      subst hg
      obtain ⟨m, arr, fr, hm, hmg, hext, hheap, _, _, hle, hcell, hlist⟩ := obj_cells I (hrd _ _ ho)
      cases hp with
      | ref _ _ _ _ b o m2 hm2 _ hat =>
       rw [hm] at hm2
       cases hm2
       obtain ⟨rfl, rfl⟩ := hat hmg
       rcases partV_spec hl with ⟨hag, hsz, rfl⟩ | ⟨hag, hget⟩
       . have hrep : RepVL w S M ((cs.drop off).take i.size) ((((arr.toList.drop m.s).take cs.length).drop off).take i.size) := (hlist.drop off).take i.size
         refine ⟨.agg ((((arr.toList.drop m.s).take cs.length).drop off).take i.size).toArray, ?_, mkAgg_rep hrep⟩
         simp only [Instr.loadAt, Instr.sureAddr, Sem.run_bind, Sem.run_pure, Result.andThen_ok]
         refine run_loadVar_agg h1 h2 (by rw [<- h5]; exact hag) w _ _ _ (by rw [<- hrep.1]; simp; omega) fun j v hj => ?_
         have hjl : j < i.size := by
          have := (gS.1 hj).1
          rw [<- hrep.1] at this
          simp at this
          omega
         rw [List.getElem?_take, if_pos hjl, List.getElem?_drop, List.getElem?_take, if_pos (by omega), List.getElem?_drop] at hj
         simp only [World.cell?, hheap]
         simpa [Nat.add_assoc] using hj
       . obtain ⟨v0, hv0, hr0⟩ := hcell off v hget
         refine ⟨v0, ?_, hr0⟩
         simp only [Instr.loadAt, Instr.sureAddr, Sem.run_bind, Sem.run_pure, Result.andThen_ok]
         exact run_loadVar_one h2 (by rw [<- h5]; exact hag) w _ _ _ hv0
    . cases hl
  . rename_i g e cs fc ho
    split at hl
    case isFalse => cases hl
    rename_i hg
    subst hg
    obtain ⟨m, arr, hm, hmg, hext, hheap, hsz, hle, hcell, _⟩ := nest_cells I (hrd _ _ ho)
    cases hp with
    | ref _ _ _ _ b o m2 hm2 _ hat =>
     rw [hm] at hm2
     cases hm2
     obtain ⟨rfl, rfl⟩ := hat hmg
     rcases partN_spec hl with ⟨hag, hlt, xs, hxs, rfl⟩ | ⟨hag, hget⟩
     . obtain ⟨l1, l2⟩ := mapO_spec hxs
       have hlen : xs.length = i.size := by rw [l1]; simp; omega
       have key : ∀ (j : Nat) (x : V), xs[j]? = some x -> ∃ v, arr[m.s + off + j]? = some v /\ RepV w S M x v := fun j x hx => by
        obtain ⟨c0, hc0, hv0⟩ := l2 j x hx
        have hjl : j < i.size := by rw [<- hlen]; exact (gS.1 hx).1
        rw [List.getElem?_take, if_pos hjl, List.getElem?_drop, val?_some hv0] at hc0
        obtain ⟨v, hv, hr⟩ := hcell _ _ hc0
        refine ⟨v, ?_, hr⟩
        simpa [World.cell?, hheap, Nat.add_assoc] using hv
       have hrep : RepVL w S M xs ((arr.toList.drop (m.s + off)).take i.size) := RepVL.of_get (fun j x hx => by
        obtain ⟨v, hv, hr⟩ := key j x hx
        have hjl : j < i.size := by rw [<- hlen]; exact (gS.1 hx).1
        exact ⟨v, by rw [List.getElem?_take, if_pos hjl, List.getElem?_drop]; simpa using hv, hr⟩) (by simp; omega)
       refine ⟨.agg ((arr.toList.drop (m.s + off)).take i.size).toArray, ?_, mkAgg_rep hrep⟩
       simp only [Instr.loadAt, Instr.sureAddr, Sem.run_bind, Sem.run_pure, Result.andThen_ok]
       refine run_loadVar_agg h1 h2 (by rw [<- h5]; exact hag) w _ _ _ (by rw [<- hrep.1]; omega) fun j v hj => ?_
       have hjl : j < i.size := by
        have := (gS.1 hj).1
        rw [<- hrep.1] at this
        omega
       rw [List.getElem?_take, if_pos hjl, List.getElem?_drop] at hj
       simp only [World.cell?, hheap]
       simpa [Nat.add_assoc] using hj
     . obtain ⟨v0, hv0, hr0⟩ := hcell off v hget
       refine ⟨v0, ?_, hr0⟩
       simp only [Instr.loadAt, Instr.sureAddr, Sem.run_bind, Sem.run_pure, Result.andThen_ok]
       exact run_loadVar_one h2 (by rw [<- h5]; exact hag) w _ _ _ hv0
  . cases hl
 | _ => cases hl
theorem focLoad_run (c : CfgTI cfg P) (I : Inv B0 w S M h) (hrd : ∀ id o, rd id = some o -> h.obj id = some o) {t : TypeId} {i : TI} (hi : cfg.ti t = some i) {p v : V} {pv : Value}
  (hp : RepV w S M p pv) (hl : focLoad i rd p = some v) : ∃ cv, (Instr.loadAt t pv).run P w = .ok cv w /\ RepV w S M v cv := by
 unfold focLoad at hl
 split at hl
 case h_2 => exact loadV_run c I hrd hi hp hl
 rename_i id gen off sh
 split at hl
 case h_2 => exact loadV_run c I hrd hi hp hl
 rename_i g e cs q ho
 split at hl
 case isFalse => cases hl
 rename_i hc
 obtain ⟨rfl, hq, hsz⟩ := hc
 obtain ⟨info, u, h1, h2, h3, h4, h5, h6, h7, _⟩ := tiOf_spec (c.ti t i hi)
 obtain ⟨m, arr, hm, hmg, hext, hheap, has, hle, hcell, hfoc⟩ := nest_cells I (hrd _ _ ho)
 obtain ⟨hlen, _, hf⟩ := hfoc q.1 q.2 rfl
 rw [hq] at hlen hf
 cases hp with
 | ref _ _ _ _ b o m2 hm2 _ hat =>
  rw [hm] at hm2
  cases hm2
  obtain ⟨rfl, rfl⟩ := hat hmg
  rcases partV_spec hl with ⟨hag, hlt, rfl⟩ | ⟨hag, hget⟩
  . have hrep : RepVL w S M ((q.2.drop 0).take i.size) ((arr.toList.drop (m.s + off)).take i.size) := RepVL.of_get (fun j x hx => by
     have hjl : j < i.size := by have := (gS.1 hx).1; simp at this; omega
     rw [List.getElem?_take, if_pos hjl, List.getElem?_drop, Nat.zero_add] at hx
     obtain ⟨v, hv, hr⟩ := hf j x hx
     exact ⟨v, by rw [List.getElem?_take, if_pos hjl, List.getElem?_drop]; simpa [World.cell?, hheap] using hv, hr⟩) (by simp; omega)
    refine ⟨.agg ((arr.toList.drop (m.s + off)).take i.size).toArray, ?_, mkAgg_rep hrep⟩
    simp only [Instr.loadAt, Instr.sureAddr, Sem.run_bind, Sem.run_pure, Result.andThen_ok]
    refine run_loadVar_agg h1 h2 (by rw [<- h5]; exact hag) w _ _ _ (by rw [<- hrep.1]; simp; omega) fun j v hj => ?_
    have hjl : j < i.size := by
     have := (gS.1 hj).1
     rw [<- hrep.1] at this
     simp at this
     omega
    rw [List.getElem?_take, if_pos hjl, List.getElem?_drop] at hj
    simp only [World.cell?, hheap]
    simpa [Nat.add_assoc] using hj
  . obtain ⟨v0, hv0, hr0⟩ := hf 0 v hget
    refine ⟨v0, ?_, hr0⟩
    simp only [Instr.loadAt, Instr.sureAddr, Sem.run_bind, Sem.run_pure, Result.andThen_ok]
    exact run_loadVar_one h2 (by rw [<- h5]; exact hag) w _ _ _ hv0
end
end Go.Apex
