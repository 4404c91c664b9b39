import Derived.Test.YtcljaeknhmpecaaGreatApexA25
import Derived.Maps.RangeRun
set_option linter.all false
namespace Go.Apex
open Go Go.RowKit
variable [Globs]
section
variable {cfg : Cfg} {P : Program} {B0 : Nat -> Prop} {n0 : Nat -> Prop} {w : World} {S : Nat -> Prop} {M : MM} {h : Heap} {ts : Ts} {slot : Nat} {K : Code -> Prop}
theorem Inv.push (I : Inv B0 w S M h) (o : Obj) (blk : Go.Obj) (hO : RepO (w.alloc blk) S (M.set h.next ⟨w.heap.size, 0, 0, 0, 0⟩) ⟨w.heap.size, 0, 0, 0, 0⟩ o) (hnn : ∀ g e cs fc, o ≠ .nest g e cs fc := by intro _ _ _ _ h; cases h) :
  Inv B0 (w.alloc blk) S (M.set h.next ⟨w.heap.size, 0, 0, 0, 0⟩) (h.push o) /\ Ext B0 (· < h.next) w S M (w.alloc blk) S (M.set h.next ⟨w.heap.size, 0, 0, 0, 0⟩) := by
 have hnone : M h.next = none := by
  cases hm : M h.next with
  | none => rfl
  | some m => have := (I.at_ _ m hm).2.2; omega
 have hsize : (w.alloc blk).heap.size = w.heap.size + 1 := by show (w.heap.push _).size = _; simp
 have := (I.more (k := h.next + 1) (Nat.le_succ _)).put (n0 := (· < h.next)) (w' := w.alloc blk) h.next o ⟨w.heap.size, 0, 0, 0, 0⟩ (fun m hm => by rw [hnone] at hm; cases hm) (fun _ => ⟨Nat.lt_irrefl _, Nat.lt_succ_self _⟩)
  rfl rfl rfl (by omega) (fun b hb _ => Below.heap_alloc _ _ _ hb) (.inl (Nat.le_refl _)) (by show w.heap.size < _; omega) hO (fun g e cs fc h => absurd h (hnn g e cs fc))
 exact this
theorem HeapOK.push (hk : HeapOK K h) {o : Obj} (ho : ∀ st pend f ts ps asg bd, o = .loop st pend f ts ps asg bd -> K asg /\ K bd) : HeapOK K (h.push o) := by
 intro i st pend f ts ps asg bd hi
 have : (h.push o).obj i = if i = h.next then some o else h.obj i := Tm.get_put h.tr h.next i (some o)
 rw [this] at hi
 split at hi
 . cases hi; exact ho _ _ _ _ _ _ _ rfl
 . exact hk i st pend f ts ps asg bd hi
theorem HeapOK.set (hk : HeapOK K h) {id : Nat} {o : Obj} (ho : ∀ st pend f ts ps asg bd, o = .loop st pend f ts ps asg bd -> K asg /\ K bd) : HeapOK K (h.set id (some o)) := by
 intro i st pend f ts ps asg bd hi
 rw [Heap.obj_set] at hi
 split at hi
 . cases hi; exact ho _ _ _ _ _ _ _ rfl
 . exact hk i st pend f ts ps asg bd hi
theorem loop_obj (I : Inv B0 w S M h) {l : Nat} {st : LoopState} {pend : Option Code} {f : FuncId} {ts : Ts} {ps : List Tmp} {asg bd : Code} (ho : h.obj l = some (.loop st pend f ts ps asg bd)) {m : MI} (hm : M l = some m) :
  m.gen = 0 /\ ∃ L : Loop, w.heap[m.b]? = some (.loop L) /\ L.state = st /\ L.pending = pend /\ L.params.toList = ps /\ L.assign = asg /\ L.body = bd /\ RepTs w S M ts L.tmps := by
 obtain ⟨m', hm', hr⟩ := I.obj l _ ho
 rw [hm] at hm'
 cases hm'
 exact hr
theorem enter_loop {rd ro : Option Nat} {s : St} {a : Act} (X : State K B0 rd ro w S M s a) (f : FuncId) (ps : Array Tmp) {asg bd : Code} (hka : K asg) (hkb : K bd) (hin : inLoop rd s.h = true) (fn : FuncId) :
  ∃ lb mark w1 M1, (Instr.enterLoop fn a.tmps ps asg bd ro).run P w = .ok (lb, mark) w1 ∧
   let pre : Heap := if rd.isSome then s.h else s.h.push (.defer true)
   let marks := if rd.isSome then s.marks else s.h.next :: s.marks
   let h1 := pre.push (.loop .ready none f s.ts ps.toList asg bd)
   HeapOK K h1 /\ Inv B0 w1 S M1 h1 /\ Ext B0 (· < s.h.next) w S M w1 S M1 /\ MarksOK M1 marks (mark ++ a.defers) /\ s.h.next <= pre.next /\ M1 pre.next = some ⟨lb, 0, 0, 0, 0⟩ := by
 have htd : ∀ {w' : World} {M' : MM} {D : Nat}, RepTs w' S M' s.ts a.tmps -> ∀ {blk : Go.Obj}, blk = .loop { state := .ready, pending := none, fn := fn, tmps := a.tmps, params := ps, assign := asg, body := bd, defers := D } →
   ∀ {b : Nat}, w'.heap[b]? = some blk -> RepO w' S M' ⟨b, 0, 0, 0, 0⟩ (.loop .ready none f s.ts ps.toList asg bd) := by
  intro w' M' D ht blk hblk b hb
  subst hblk
  exact ⟨rfl, _, hb, rfl, rfl, rfl, rfl, rfl, ht⟩
 cases rd with
 | none =>
  cases ro with
  | some b => exact X.r.elim
  | none =>
   have e1 : Ext B0 (· < s.h.next) w S M (w.alloc (.deferred (some []))) S (M.set s.h.next ⟨w.heap.size, 0, 0, 0, 0⟩) := (X.I.push (.defer true) (.deferred (some [])) ⟨rfl, by show (w.heap.push _)[w.heap.size]? = _; simp⟩).2
   have i1 := (X.I.push (.defer true) (.deferred (some [])) ⟨rfl, by show (w.heap.push _)[w.heap.size]? = _; simp⟩).1
   have t1 := X.t.mono e1.keep e1.map
   have hsz : (w.alloc (.deferred (some []))).heap.size = w.heap.size + 1 := by show (w.heap.push _).size = _; simp
   let blk : Go.Obj := .loop { state := .ready, pending := none, fn := fn, tmps := a.tmps, params := ps, assign := asg, body := bd, defers := w.heap.size }
   have hk1 : ∀ b, S b -> S b /\ ((w.alloc (.deferred (some []))).alloc blk).heap[b]? = (w.alloc (.deferred (some []))).heap[b]? := fun b hb => ⟨hb, Below.heap_alloc _ _ _ (i1.lt b hb)⟩
   have hnone : (M.set s.h.next ⟨w.heap.size, 0, 0, 0, 0⟩) (s.h.push (.defer true)).next = none := by
    cases hm : (M.set s.h.next ⟨w.heap.size, 0, 0, 0, 0⟩) (s.h.push (.defer true)).next with
    | none => rfl
    | some m => have := (i1.at_ _ m hm).2.2; omega
   have hM2 : ∀ i m, (M.set s.h.next ⟨w.heap.size, 0, 0, 0, 0⟩) i = some m -> ∃ m2, ((M.set s.h.next ⟨w.heap.size, 0, 0, 0, 0⟩).set (s.h.push (.defer true)).next ⟨(w.alloc (.deferred (some []))).heap.size, 0, 0, 0, 0⟩) i = some m2 /\ (m2 = m \/ (m.gen < m2.gen /\ m.ext <= m.tot)) := fun i m hm => by
    by_cases e : i = (s.h.push (.defer true)).next
    . subst e; rw [hnone] at hm; cases hm
    . exact ⟨m, by simp only [MM.set, if_neg e]; exact hm, .inl rfl⟩
   obtain ⟨i2, e2⟩ := i1.push (.loop .ready none f s.ts ps.toList asg bd) blk (htd (D := w.heap.size) (t1.mono hk1 hM2) (blk := blk) rfl (by show ((w.alloc (.deferred (some []))).heap.push blk)[(w.alloc (.deferred (some []))).heap.size]? = some blk; exact Array.getElem?_push_size))
   refine ⟨w.heap.size + 1, _, _, _, run_enterLoop_outer fn a.tmps ps asg bd, ?_, i2, e1.trans e2 fun i hi => Nat.lt_succ_of_lt hi, ?_, Nat.le_succ _, ?_⟩
   . exact (X.k.push fun _ _ _ _ _ _ _ h => by cases h).push fun _ _ _ _ _ _ _ h => by cases h; exact ⟨hka, hkb⟩
   . refine ⟨⟨w.heap.size, ⟨w.heap.size, 0, 0, 0, 0⟩, rfl, ?_, fun _ => rfl⟩, (X.m.mono e1.map).mono e2.map⟩
     have hne : s.h.next ≠ (s.h.push (.defer true)).next := by show s.h.next ≠ s.h.next + 1; omega
     simp only [MM.set, if_neg hne, if_true]
   . rw [hsz]
     simp [MM.set]
 | some lid =>
  cases ro with
  | none => exact X.r.elim
  | some b =>
   obtain ⟨m, hm, hb⟩ := X.r
   simp only [inLoop] at hin
   split at hin
   case h_2 => cases hin
   rename_i st pend f' ts' ps' asg' bd' ho
   obtain ⟨hg, L, hL, _⟩ := loop_obj X.I ho hm
   have := hb hg
   subst this
   let blk : Go.Obj := .loop { state := .ready, pending := none, fn := fn, tmps := a.tmps, params := ps, assign := asg, body := bd, defers := L.defers }
   have hk1 : ∀ b, S b -> S b /\ (w.alloc blk).heap[b]? = w.heap[b]? := fun b hb => ⟨hb, Below.heap_alloc _ _ _ (X.I.lt b hb)⟩
   have hnone : M s.h.next = none := by
    cases hm : M s.h.next with
    | none => rfl
    | some m => have := (X.I.at_ _ m hm).2.2; omega
   have hM2 : ∀ i m, M i = some m -> ∃ m2, (M.set s.h.next ⟨w.heap.size, 0, 0, 0, 0⟩) i = some m2 /\ (m2 = m \/ (m.gen < m2.gen /\ m.ext <= m.tot)) := fun i m hm => by
    by_cases e : i = s.h.next
    . subst e; rw [hnone] at hm; cases hm
    . exact ⟨m, by simp only [MM.set, if_neg e]; exact hm, .inl rfl⟩
   obtain ⟨i2, e2⟩ := X.I.push (.loop .ready none f s.ts ps.toList asg bd) blk (htd (D := L.defers) (X.t.mono hk1 hM2) (blk := blk) rfl (by show (w.heap.push blk)[w.heap.size]? = some blk; exact Array.getElem?_push_size))
   refine ⟨w.heap.size, _, _, _, run_enterLoop_inner hL fn a.tmps ps asg bd, ?_, i2, e2, X.m.mono e2.map, Nat.le_refl _, ?_⟩
   . exact X.k.push fun _ _ _ _ _ _ _ h => by cases h; exact ⟨hka, hkb⟩
   . simp [MM.set]
theorem mrOf_spec {c : Code} {it d1 d2 : Tmp} (h : mrOf c = some (it, d1, d2)) : ∃ rid o1 o2 rest, c = .seq (.region rid #[o1, o2] false) rest /\ o1.op = .next (.tmp it) false /\ o1.dst = some d1 /\ o2.op = .extract (.tmp d1) 0 /\ o2.dst = some d2 ∧
  it ≠ d1 /\ it ≠ d2 /\ d1 ≠ d2 /\ o1.guard = none /\ o2.guard = none := by
 unfold mrOf at h
 split at h
 case h_2 => cases h
 rename_i rid ops rest
 split at h
 case h_2 => cases h
 rename_i o1 o2 hops
 split at h
 case h_2 => cases h
 rename_i it' d1' t' d2' e1 e2 e3 e4
 cases hc : (Nat.beq t' d1' && !Nat.beq it' d1' && !Nat.beq it' d2' && !Nat.beq d1' d2' && o1.guard.isNone && o2.guard.isNone) <;> rw [hc] at h
 . cases h
 simp only [cond_true, oI, Prod.mk.injEq] at h
 obtain ⟨rfl, rfl, rfl⟩ := h
 simp only [Bool.and_eq_true, Bool.not_eq_eq_eq_not, Bool.not_true, Option.isNone_iff_eq_none] at hc
 obtain ⟨⟨⟨⟨⟨h1, h2⟩, h3⟩, h4⟩, h5⟩, h6⟩ := hc
 cases Nat.eq_of_beq_eq_true h1
 have hne : ∀ {a b : Nat}, Nat.beq a b = false -> a ≠ b := fun h e => by subst e; simp at h
 refine ⟨rid, o1, o2, rest, ?_, e1, e2, e3, e4, hne h2, hne h3, hne h4, h5, h6⟩
 have : ops = #[o1, o2] := by
  cases ops
  simp only at hops
  rw [hops]
 rw [this]
theorem none_good {id : Nat} : Good K h (h.set id none) := fun hk => ⟨Nat.le_refl _, fun i st pend f ts ps asg bd hi => by
 rw [Heap.obj_set] at hi
 split at hi
 . cases hi
 . exact hk i st pend f ts ps asg bd hi⟩
theorem mrBack_good {f : FuncId} {c : Code} {it : Tmp} {id : Nat} {h1 : Heap} {s2 s3 : St} (g : Good K h1 s2.h) (hq : mrBack cfg f c it id h1.next s2 = some s3) : Good K h1 s3.h := by
 unfold mrBack at hq
 split at hq
 case h_2 => cases hq
 rename_i id' c' hg
 cases hc : Nat.beq id' id <;> rw [hc] at hq
 . cases hq
 simp only [cond_true, oB] at hq
 obtain ⟨s4, h4, hq⟩ := hq
 cases hcl : s4.clean <;> rw [hcl] at hq
 . cases hq
 simp only [cond_true, oI] at hq
 subst hq
 exact reset_good (s1 := ⟨.nil, h1, []⟩) (s2 := { s2 with ts := s2.ts.upd (.it id none) it }) g h4
theorem mrRound_some {f : FuncId} {c : Code} {it d1 d2 : Tmp} {id : Nat} {g : St -> Option (Out × St)} {k v : T} {s s' : St} (hq : mrRound cfg f c it d1 d2 id g k v s = some s') :
  mrReady it d1 id s = true /\ ∃ s1, g (mrHead it d1 d2 id k v s) = some (.norm, s1) /\ mrBack cfg f c it id s.h.next s1 = some s' := by
 unfold mrRound at hq
 cases hr : mrReady it d1 id s <;> rw [hr] at hq
 . cases hq
 simp only [cond_true, oB] at hq
 obtain ⟨⟨o, s1⟩, h1, hq⟩ := hq
 cases o with
 | norm => exact ⟨rfl, s1, h1, hq⟩
 | ret => cases hq
 | exit id => cases hq
theorem mrEnd_some {it d1 d2 : Tmp} {id : Nat} {g : St -> Option (Out × St)} {s s' : St} {o : Out} (hq : mrEnd it d1 d2 id g s = some (o, s')) :
  mrReady it d1 id s = true /\ g (mrLast d1 d2 s) = some (o, s') /\ o ≠ .norm := by
 unfold mrEnd at hq
 cases hr : mrReady it d1 id s <;> rw [hr] at hq
 . cases hq
 simp only [cond_true, oB] at hq
 obtain ⟨⟨o1, s1⟩, h1, hq⟩ := hq
 cases o1 with
 | norm => cases hq
 | ret => cases hq; exact ⟨rfl, h1, by simp⟩
 | exit id => cases hq; exact ⟨rfl, h1, by simp⟩
theorem mrReady_spec {it d1 : Tmp} {id : Nat} {s : St} (h : mrReady it d1 id s = true) : s.ts.get it = some (.it id none) /\ ∃ v, s.ts.get d1 = some v := by
 unfold mrReady at h
 rw [Bool.and_eq_true] at h
 refine ⟨?_, Option.isSome_iff_exists.1 h.2⟩
 have h1 := h.1
 split at h1
 . rename_i id' hg
   rw [hg, Nat.eq_of_beq_eq_true h1]
 . cases h1
theorem mrFind_spec {rnd : T -> T -> St -> Option St} {s0 : St} : ∀ (kv : List (T × T)) (i : Nat) (q : Option (Nat × St)), mrFind rnd s0 i kv = some q -> match q with
  | none => ∀ (j : Nat) (k v : T), kv[j]? = some (k, v) -> rnd k v s0 = some s0
  | some (j0, sk) => i <= j0 /\ (∃ k v : T, kv[j0 - i]? = some (k, v) /\ rnd k v s0 = some sk) /\ ∀ (j : Nat) (k v : T), kv[j]? = some (k, v) -> i + j ≠ j0 -> rnd k v s0 = some s0
 | [], i, q, h => by
  cases h
  intro j k v hj
  simp at hj
 | (k, v) :: r, i, q, h => by
  simp only [mrFind, oB] at h
  obtain ⟨s1, h1, q1, hq1, h⟩ := h
  have ih := mrFind_spec r (i + 1) q1 hq1
  cases hb : St.eqb s1 s0 <;> rw [hb] at h
  . cases q1 with
    | some p => cases h
    | none =>
     cases h
     refine ⟨Nat.le_refl _, ⟨k, v, by simp, h1⟩, fun j k' v' hj hne => ?_⟩
     cases j with
     | zero => exact absurd rfl hne
     | succ j => exact ih j k' v' (by simpa using hj)
  . simp only [cond_true, oI] at h
    subst h
    have hs := St.eqb_eq _ _ hb
    subst hs
    cases q1 with
    | none =>
     intro j k' v' hj
     cases j with
     | zero => simp only [List.getElem?_cons_zero, oI, Prod.mk.injEq] at hj; obtain ⟨rfl, rfl⟩ := hj; exact h1
     | succ j => exact ih j k' v' (by simpa using hj)
    | some p =>
     obtain ⟨j0, sk⟩ := p
     obtain ⟨a1, ⟨k2, v2, a2, a3⟩, a4⟩ := ih
     refine ⟨by omega, ⟨k2, v2, ?_, a3⟩, fun j k' v' hj hne => ?_⟩
     . have : j0 - i = (j0 - (i + 1)) + 1 := by omega
       rw [this]
       simpa using a2
     . cases j with
       | zero => simp only [List.getElem?_cons_zero, oI, Prod.mk.injEq] at hj; obtain ⟨rfl, rfl⟩ := hj; exact h1
       | succ j => exact a4 j k' v' (by simpa using hj) (by omega)
theorem mrStay_spec {rnd : T -> T -> St -> Option St} {sk : St} {j0 : Nat} : ∀ (kv : List (T × T)) (i : Nat), mrStay rnd sk j0 i kv = true -> ∀ (j : Nat) (k v : T), kv[j]? = some (k, v) -> i + j ≠ j0 -> rnd k v sk = some sk
 | [], i, h, j, k, v, hj, hne => by simp at hj
 | (k0, v0) :: r, i, h, j, k, v, hj, hne => by
  simp only [mrStay, Bool.and_eq_true] at h
  cases j with
  | succ j => exact mrStay_spec r (i + 1) h.2 j k v (by simpa using hj) (by omega)
  | zero =>
   simp only [List.getElem?_cons_zero, oI, Prod.mk.injEq] at hj
   obtain ⟨rfl, rfl⟩ := hj
   have h1 := h.1
   have : Nat.beq i j0 = false := by
    cases hb : Nat.beq i j0 with
    | false => rfl
    | true => exact absurd (Nat.eq_of_beq_eq_true hb) hne
   rw [this] at h1
   simp only [cond_false] at h1
   split at h1
   . rename_i s1 hs
     rw [hs, St.eqb_eq _ _ h1]
   . cases h1
def MRAt (es : Array MapEntry) (q : Option (Nat × St)) (s0 : St) (seen : Array Nat) (st : St) : Prop :=
 match q with
 | none => st = s0
 | some (j0, sk) => ∃ e0, es[j0]? = some e0 /\ ((st = s0 /\ e0.born ∉ seen) \/ (st = sk /\ e0.born ∈ seen))
theorem born_inj {es : Array MapEntry} {clock : Nat} (hB : Born es clock) {i j : Nat} {e e' : MapEntry} (hi : es[i]? = some e) (hj : es[j]? = some e') (h : e.born = e'.born) : i = j := by
 have hn := hB.2
 have h1 : (es.toList.map (·.born))[i]? = some e.born := by simp [hi]
 have h2 : (es.toList.map (·.born))[j]? = some e.born := by simp [hj, h]
 have l1 := (gS.1 h1)
 have l2 := (gS.1 h2)
 obtain ⟨b1, c1⟩ := l1
 obtain ⟨b2, c2⟩ := l2
 have hp := List.pairwise_iff_getElem.1 hn
 rcases Nat.lt_trichotomy i j with h | h | h
 . exact absurd (c1.trans c2.symm) (hp i j b1 b2 h)
 . exact h
 . exact absurd (c2.trans c1.symm) (hp j i b2 b1 h)
theorem mrAt_step {rnd : T -> T -> St -> Option St} {s0 : St} {kv : List (T × T)} {q : Option (Nat × St)} (hf : mrFind rnd s0 0 kv = some q) (hs : ∀ j0 sk, q = some (j0, sk) -> mrStay rnd sk j0 0 kv = true) {es : Array MapEntry} {clock : Nat} (hB : Born es clock)
  {seen : Array Nat} {st : St} (hA : MRAt es q s0 seen st) {i : Nat} {e : MapEntry} (hi : es[i]? = some e) (hn : e.born ∉ seen) {k v : T} (hkv : kv[i]? = some (k, v)) : ∃ st', rnd k v st = some st' /\ MRAt es q s0 (seen.push e.born) st' := by
 have F := mrFind_spec kv 0 q hf
 cases q with
 | none =>
  have hA : st = s0 := hA
  subst hA
  exact ⟨st, F i k v hkv, rfl⟩
 | some p =>
  obtain ⟨j0, sk⟩ := p
  obtain ⟨_, ⟨k0, v0, f1, f2⟩, f3⟩ := F
  obtain ⟨e0, he0, hA⟩ := hA
  by_cases hij : i = j0
  . subst hij
    rw [hi] at he0
    cases he0
    rcases hA with ⟨rfl, _⟩ | ⟨_, hm⟩
    . simp only [Nat.sub_zero] at f1
      rw [hkv] at f1
      cases f1
      exact ⟨sk, f2, e, hi, .inr ⟨rfl, by simp⟩⟩
    . exact absurd hm hn
  . have hb : e0.born ≠ e.born := fun h => hij (born_inj hB hi he0 h.symm)
    rcases hA with ⟨rfl, h0⟩ | ⟨rfl, h0⟩
    . exact ⟨st, f3 i k v hkv (by omega), e0, he0, .inl ⟨rfl, by simp [h0, hb]⟩⟩
    . exact ⟨st, mrStay_spec kv 0 (hs _ _ rfl) i k v hkv (by omega), e0, he0, .inr ⟨rfl, by simp [h0]⟩⟩
theorem leftOf_mem {es : Array MapEntry} {seen : Array Nat} {e : MapEntry} (h : e ∈ (leftOf es seen).toList) : (∃ i : Nat, es[i]? = some e) /\ e.born ∉ seen := by
 simp only [leftOf, Array.toList_filter, List.mem_filter, Array.mem_toList_iff, Bool.not_eq_eq_eq_not, Bool.not_true] at h
 obtain ⟨h1, h2⟩ := h
 obtain ⟨i, hi, he⟩ := Array.getElem_of_mem h1
 exact ⟨⟨i, by simp [hi, he]⟩, fun hm => by simp [hm] at h2⟩
theorem leftOf_zero {es : Array MapEntry} {seen : Array Nat} (h : (leftOf es seen).size = 0) {i : Nat} {e : MapEntry} (hi : es[i]? = some e) : e.born ∈ seen := by
 have h0 : leftOf es seen = #[] := Array.eq_empty_of_size_eq_zero h
 unfold leftOf at h0
 rw [Array.filter_eq_empty_iff] at h0
 have := h0 e (Array.mem_of_getElem? hi)
 simpa using this
theorem leftOf_lt {es : Array MapEntry} {seen : Array Nat} {e : MapEntry} (h : e ∈ (leftOf es seen).toList) : (leftOf es (seen.push e.born)).size < (leftOf es seen).size := by
 have key : leftOf es (seen.push e.born) = (leftOf es seen).filter fun x => x.born != e.born := by
  unfold leftOf
  rw [Array.filter_filter]
  congr 1
  funext x
  simp only [Array.contains_push, Bool.not_or, bne]
  first | rfl | (rw [Bool.and_comm]) | skip
 rw [key]
 have h2 : ((leftOf es seen).filter fun x => x.born != e.born).size <= (leftOf es seen).size := Array.size_filter_le
 rcases Nat.lt_or_eq_of_le h2 with h3 | h3
 . exact h3
 . have := (Array.filter_size_eq_size.1 h3) e (by simpa using h)
   simp at this
theorem mr_head_wp {o1 o2 : Oper} {it d1 d2 : Tmp} {rid : Nat} {ro : Option Nat} {n : Nat} {a : Act} {Q : Exit -> Act -> World -> Prop} (h1 : o1.op = .next (.tmp it) false) (h1d : o1.dst = some d1) (h2 : o2.op = .extract (.tmp d1) 0) (h2d : o2.dst = some d2)
  (g1 : o1.guard = none) (g2 : o2.guard = none) {w1 w2 : World} {ptr u : Value} {arr : Array Value} (hit : a.tmps[it]? = some ptr) (hd1 : d1 < a.tmps.size) (hnext : (Instr.next ptr false o1.type).run P w1 = .ok (.tuple arr) w2) (hu : arr[0]? = some u)
  (hQ : Q .normal { a with tmps := (a.tmps.setIfInBounds d1 (.tuple arr)).setIfInBounds d2 u } w2) : (Code.region rid #[o1, o2] false).wpIn (FR ro) n P Q a w1 := by
 refine wpIn_region ?_
 obtain ⟨dst1, op1, ty1, pos1, af1, gu1⟩ := o1
 obtain ⟨dst2, op2, ty2, pos2, af2, gu2⟩ := o2
 simp only at h1 h1d h2 h2d g1 g2 hnext
 subst h1 h1d h2 h2d g1 g2
 have hr : List.range (#[(⟨some d1, .next (.tmp it) false, ty1, pos1, af1, none⟩ : Oper), ⟨some d2, .extract (.tmp d1) 0, ty2, pos2, af2, none⟩] : Array Oper).size = [0, 1] := rfl
 rw [hr]
 simp only [wpOpsIn, List.getElem?_toArray, List.getElem?_cons_zero, List.getElem?_cons_succ, Region.wanted, if_true]
 have e1 : a.eval (.tmp it) = ptr := by simp only [Act.eval]; simp [Array.getD_eq_getD_getElem?, hit]
 refine ⟨fun _ _ => trivial, ?_⟩
 rw [Oper.semAt_eq _ _ _ (fun c h => by cases h)]
 simp only [execOp, e1, Sem.run_bind, hnext, Result.andThen_ok, Sem.run_pure, Oper.uponIn_value]
 refine ⟨fun _ _ => trivial, ?_⟩
 rw [Oper.semAt_eq _ _ _ (fun c h => by cases h)]
 have e2 : (a.put (some d1) (.tuple arr)).eval (.tmp d1) = .tuple arr := by
  simp only [Act.eval, Act.put]
  simp [Array.getD_eq_getD_getElem?, hd1]
 simp only [execOp, e2, Instr.extract, hu, Sem.run_bind, Result.andThen_ok, Sem.run_pure, Oper.uponIn_value]
 exact hQ
theorem RepTs.lt {a : Array Value} (h : RepTs w S M ts a) {i : Nat} {v : V} (hi : ts.get i = some v) : i < a.size := by
 obtain ⟨c, hc, _⟩ := h.get hi
 exact (Array.getElem?_eq_some_iff.1 hc).1
section
variable {rd ro : Option Nat} {f : FuncId} {c : Code} {it d1 d2 : Tmp} {id : Nat} {g : St -> Option (Out × St)} {rest : Code}
structure MRHead (K : Code -> Prop) (B0 : Nat -> Prop) (rd ro : Option Nat) (id : Nat) (m : MI) (mb clock : Nat) (seen : Array Nat) (w : World) (S : Nat -> Prop) (M : MM) (st : St) (a : Act) : Prop where
 X : State K B0 rd ro w S M st a
 mi : M id = some m
 p : m.tot < m.ext
 n : ¬ S m.b
 h : w.heap[m.b]? = some (.mapIter (some mb) clock seen clock)
 s : S mb
 o : ∀ id' o' m', st.h.obj id' = some o' -> M id' = some m' -> m'.b ≠ m.b
theorem Ext.pin {w' : World} {S' : Nat -> Prop} {M' : MM} (E : Ext B0 n0 w S M w' S' M') {m : MI} (hm : M id = some m) (hp : m.tot < m.ext) : M' id = some m := by
 obtain ⟨m', h1, h2⟩ := E.map id m hm
 rcases h2 with rfl | ⟨_, h2⟩
 . exact h1
 . omega
theorem mr_round (hrest : ∀ (s : St) (o : Out) (s' : St), g s = some (o, s') -> Good K s.h s'.h /\ ∀ (B0 : Nat -> Prop) (ro : Option Nat) (w : World) (S : Nat -> Prop) (M : MM) (a : Act) (n : Nat), State K B0 rd ro w S M s a -> rest.wpIn (FR ro) n P (Post K B0 rd ro s.h.next w S M o s') a w)
  {o1 o2 : Oper} {rid : Nat} (h1 : o1.op = .next (.tmp it) false) (h1d : o1.dst = some d1) (h2 : o2.op = .extract (.tmp d1) 0) (h2d : o2.dst = some d2) (ne1 : it ≠ d1) (ne2 : it ≠ d2) (ne3 : d1 ≠ d2) (g1 : o1.guard = none) (g2 : o2.guard = none)
  {m : MI} {mb clock : Nat} {seen : Array Nat} {es : Array MapEntry} {st : St} {a : Act} (H : MRHead K B0 rd ro id m mb clock seen w S M st a) (hes : w.heap[mb]? = some (.map es clock)) (hB : Born es clock) {kv : List (T × T)} (hready : mrReady it d1 id st = true)
  (hkv : ∀ (i : Nat) (e : MapEntry), es[i]? = some e -> ∃ k v, kv[i]? = some (k, v) /\ RepT w S k e.key /\ RepT w S v e.val)
  (hround : ∀ (i : Nat) (e : MapEntry) (k v : T), es[i]? = some e -> e.born ∉ seen -> kv[i]? = some (k, v) -> ∃ st', mrRound cfg f c it d1 d2 id g k v st = some st')
  {Q : Exit -> Act -> World -> Prop} {n : Nat}
  (hnext : ∀ (i : Nat) (e : MapEntry) (k v : T) (st' : St), es[i]? = some e -> e ∈ (leftOf es seen).toList -> kv[i]? = some (k, v) -> mrRound cfg f c it d1 d2 id g k v st = some st' →
   ∀ (w' : World) (S' : Nat -> Prop) (M' : MM) (a' : Act), MRHead K B0 rd ro id m mb clock (seen.push e.born) w' S' M' st' a' -> Ext B0 (· < st.h.next) w S M w' S' M' -> st.h.next <= st'.h.next -> Q .normal a' w')
  (hend : (leftOf es seen).size = 0 -> ∃ o s', mrEnd it d1 d2 id g st = some (o, s') /\ ∀ e a' w', Post K B0 rd ro st.h.next w S M o s' e a' w' -> Q e a' w') :
  (Code.seq (.region rid #[o1, o2] false) rest).wpIn (FR ro) n P Q a w := by
 obtain ⟨hit, vd, hd1⟩ := mrReady_spec hready
 have hd1s := H.X.t.lt hd1
 obtain ⟨cit, hcit, rit⟩ := H.X.t.get hit
 have hptr : cit = .pointer (some ⟨m.b, 0, none⟩) := by
  cases rit with
  | it _ _ b m' hm' hp' hb hc =>
   rw [H.mi] at hm'
   cases hm'
   rw [hb]
 subst hptr
 have hmlt := H.X.I.at_ id m H.mi
 have hB0 : ¬ B0 m.b := hmlt.1
 have hBne : ∀ b, B0 b -> b ≠ m.b := fun b hb e => hB0 (e ▸ hb)
 refine wpIn_seq ?_
 rcases run_next_at (P := P) w o1.type m.b mb clock clock seen es clock H.h hes hB.1 (Nat.le_refl _) with ⟨hz, hrun⟩ | ⟨e, he, w1, hw1, hrun⟩
 . 
   obtain ⟨o, s', hme, hfin⟩ := hend hz
   obtain ⟨_, hge, hno⟩ := mrEnd_some hme
   refine mr_head_wp h1 h1d h2 h2d g1 g2 hcit hd1s hrun (u := .bool false) rfl ?_
   show rest.wpIn _ _ _ _ _ _
   have X2 : State K B0 rd ro w S M (mrLast d1 d2 st) { a with tmps := (a.tmps.setIfInBounds d1 (.tuple #[.bool false])).setIfInBounds d2 (.bool false) } :=
    ⟨H.X.k, H.X.I, (H.X.t.upd d1 (.t _ _ (.tup _ _ rfl fun i y u h1 h2 => by
     match i with
     | 0 => cases h1; cases h2; exact .bool false
     | i + 1 => simp at h1))).upd d2 (.t _ _ (.bool false)), H.X.m, H.X.r⟩
   exact wpIn_mono ((hrest _ _ _ hge).2 B0 ro w S M _ n X2) fun e a' w' hp => hfin e a' w' hp
 . 
   obtain ⟨⟨i, hi⟩, hnm⟩ := leftOf_mem he
   obtain ⟨k, v, hkvi, rk, rv⟩ := hkv i e hi
   obtain ⟨st', hst'⟩ := hround i e k v hi hnm hkvi
   obtain ⟨_, s1, hg1, hback⟩ := mrRound_some hst'
   refine mr_head_wp h1 h1d h2 h2d g1 g2 hcit hd1s hrun (u := .bool true) rfl ?_
   show rest.wpIn _ _ _ _ _ _
   let blk : Go.Obj := .mapIter (some mb) clock (seen.push e.born) clock
   have hheap1 : w1.heap = w.heap := by rcases hw1 with rfl | rfl <;> rfl
   have hw2o : ∀ b, b ≠ m.b -> (ChangeMaps.setBlock w1 m.b blk).heap[b]? = w.heap[b]? := fun b hb => by
    show (w1.heap.setIfInBounds m.b blk)[b]? = _
    rw [hheap1, Array.getElem?_setIfInBounds, if_neg (Ne.symm hb)]
   have hw2s : (ChangeMaps.setBlock w1 m.b blk).heap.size = w.heap.size := by
    show (w1.heap.setIfInBounds m.b blk).size = _
    rw [Array.size_setIfInBounds, hheap1]
   have hw2b : (ChangeMaps.setBlock w1 m.b blk).heap[m.b]? = some blk := by
    show (w1.heap.setIfInBounds m.b blk)[m.b]? = _
    rw [hheap1]
    simp [hmlt.2.1]
   have hmne : mb ≠ m.b := fun e => H.n (e ▸ H.s)
   have hk2 : ∀ b, S b -> (S b \/ b = m.b) /\ (ChangeMaps.setBlock w1 m.b blk).heap[b]? = w.heap[b]? := fun b hb => ⟨.inl hb, hw2o b fun e => H.n (e ▸ hb)⟩
   have hM2 : ∀ id m, M id = some m -> ∃ m', M id = some m' /\ (m' = m \/ (m.gen < m'.gen /\ m.ext <= m.tot)) := fun id m hm => ⟨m, hm, .inl rfl⟩
   have E2 : Ext B0 (· < st.h.next) w S M (ChangeMaps.setBlock w1 m.b blk) (fun b => S b \/ b = m.b) M :=
    ⟨by rcases hw1 with rfl | rfl <;> rfl, by rcases hw1 with rfl | rfl <;> rfl, by rcases hw1 with rfl | rfl <;> rfl, by rw [hw2s]; exact Nat.le_refl _, fun b hb => hw2o b (hBne b hb), hk2, hM2, fun _ _ h => h, fun b hb => hb.elim .inl fun h => .inr (by rw [h]; exact hB0)⟩
   have I2 : Inv B0 (ChangeMaps.setBlock w1 m.b blk) (fun b => S b \/ b = m.b) M st.h :=
    ⟨fun id' o' ho' => by
     obtain ⟨m', hm', hr⟩ := H.X.I.obj id' o' ho'
     exact ⟨m', hm', hr.mono hk2 hM2 (hw2o _ (H.o id' o' m' ho' hm'))⟩,
     fun id' m' hm' => by rw [hw2s]; exact H.X.I.at_ id' m' hm', H.X.I.inj,
     fun id' o' m' ho' hm' hs => hs.elim (H.X.I.stable id' o' m' ho' hm') (H.o id' o' m' ho' hm'),
     fun b hb => by rw [hw2s]; exact hb.elim (H.X.I.lt b) fun h => h ▸ hmlt.2.1, H.X.I.base.step (by rw [hw2s]; exact Nat.le_refl _) fun b hb => hw2o b (hBne b hb),
     H.X.I.own.imp fun O KO => by
      have hOm : ∀ b, O b ≠ none -> b ≠ m.b := fun b hb e => by
       obtain ⟨arr, e1, fr, h1⟩ := KO.cel b hb
       have h2 := H.h
       rw [e, h2] at h1
       cases h1
      exact KO.step (by rw [hw2s]; exact Nat.le_refl _) hk2 (fun b hb => ⟨fun hs => hs.elim (KO.free b hb).1 (hOm b hb), hw2o b (hOm b hb)⟩) KO.obj fun i g e cs fc m1 hi hm1 j e2 sh xs hj => ⟨i, g, e, cs, fc, m1, j, hi, hm1, hj, rfl, rfl, cell_keep (hw2o _ (H.o i _ m1 hi hm1)) _⟩⟩
   have hm2 : (ChangeMaps.setBlock w1 m.b blk).heap[mb]? = some (.map es clock) := by rw [hw2o mb hmne]; exact hes
   have rit2 : RepV (ChangeMaps.setBlock w1 m.b blk) (fun b => S b \/ b = m.b) M (.it id (some (k, v))) (.pointer (some ⟨m.b, 0, none⟩)) :=
    .it id _ m.b m H.mi H.p rfl fun k' v' hkv' => by
     cases hkv'
     exact ⟨.inr rfl, mb, clock, seen, clock, es, e, hw2b, .inl H.s, hm2, by simpa using Array.mem_of_getElem? hi, hB, rk.mono hk2, rv.mono hk2⟩
   have X2 : State K B0 rd ro (ChangeMaps.setBlock w1 m.b blk) (fun b => S b \/ b = m.b) M (mrHead it d1 d2 id k v st) { a with tmps := (a.tmps.setIfInBounds d1 (.tuple #[.bool true, e.key, e.val])).setIfInBounds d2 (.bool true) } := by
    have t1 := (H.X.t.mono hk2 hM2).upd it rit2
    have hsame : a.tmps.setIfInBounds it (.pointer (some ⟨m.b, 0, none⟩)) = a.tmps := by
     apply Array.ext_getElem?
     intro j
     rw [Array.getElem?_setIfInBounds]
     split
     . rename_i e
       subst e
       rw [hcit]
       simp [(Array.getElem?_eq_some_iff.1 hcit).1]
     . rfl
    rw [hsame] at t1
    refine ⟨H.X.k, I2, (t1.upd d1 (.t _ _ (.tup _ _ rfl fun i y u h1 h2 => ?_))).upd d2 (.t _ _ (.bool true)), H.X.m, H.X.r⟩
    match i with
    | 0 => cases h1; cases h2; exact .bool true
    | 1 => cases h1; cases h2; exact rk.mono hk2
    | 2 => cases h1; cases h2; exact rv.mono hk2
    | i + 3 => simp at h1
   obtain ⟨gg, hwp⟩ := hrest _ _ _ hg1
   refine wpIn_mono (hwp B0 ro _ _ M _ n X2) ?_
   rintro e3 a3 w3 ⟨rfl, S3, M3, X3, E3⟩
   have hback2 := hback
   unfold mrBack at hback
   split at hback
   case h_2 => cases hback
   rename_i id' c' hg3
   cases hc : Nat.beq id' id <;> rw [hc] at hback
   . cases hback
   cases Nat.eq_of_beq_eq_true hc
   simp only [cond_true, oB] at hback
   obtain ⟨s4, h4, hback⟩ := hback
   cases hcl : s4.clean <;> rw [hcl] at hback
   . cases hback
   simp only [cond_true, oI] at hback
   subst hback
   have hm3 : M3 id = some m := E3.pin H.mi H.p
   obtain ⟨c3, hc3, r3⟩ := X3.t.get hg3
   have hc3p : c3 = .pointer (some ⟨m.b, 0, none⟩) := by
    cases r3 with
    | it _ _ b m' hm' hp' hb hc =>
     rw [hm3] at hm'
     cases hm'
     rw [hb]
   subst hc3p
   have X3' : State K B0 rd ro w3 S3 M3 { s1 with ts := s1.ts.upd (.it id none) it } a3 := by
    have t3 := X3.t.upd it (v := .it id none) (c := .pointer (some ⟨m.b, 0, none⟩)) (.it id none m.b m hm3 H.p rfl fun _ _ h => by cases h)
    have hsame : a3.tmps.setIfInBounds it (.pointer (some ⟨m.b, 0, none⟩)) = a3.tmps := by
     apply Array.ext_getElem?
     intro j
     rw [Array.getElem?_setIfInBounds]
     split
     . rename_i e
       subst e
       rw [hc3]
       simp [(Array.getElem?_eq_some_iff.1 hc3).1]
     . rfl
    rw [hsame] at t3
    exact ⟨X3.k, X3.I, t3, X3.m, X3.r⟩
   have E03 : Ext B0 (· < st.h.next) w S M w3 S3 M3 := E2.trans E3 fun i hi => hi
   obtain ⟨M4, X4, E4, hM4, hle⟩ := reset_state (s1 := st) (s2 := { s1 with ts := s1.ts.upd (.it id none) it }) H.X X3' E03 gg h4
   have hs3 : S3 m.b := (E3.keep m.b (.inr rfl)).1
   have hb3 : w3.heap[m.b]? = some (.mapIter (some mb) clock (seen.push e.born) clock) := by rw [(E3.keep m.b (.inr rfl)).2]; exact hw2b
   have X5 := X4.drop hb3 hcl
   have hm4 : M4 id = some m := E4.pin H.mi H.p
   refine hnext i e k v s4 hi he hkvi hst' w3 (fun c => S3 c /\ c ≠ m.b) M4 a3 ⟨X5, hm4, H.p, fun h => h.2 rfl, hb3, ⟨(E3.keep mb (.inl H.s)).1, hmne⟩, fun i2 o2 m2 ho2 hm2' e2 => X4.I.stable i2 o2 m2 ho2 hm2' (e2 ▸ hs3)⟩ ?_ hle
   exact ⟨E4.os, E4.tape, E4.output, E4.size, E4.below, fun b hb => ⟨⟨(E4.keep b hb).1, fun e => H.n (e ▸ hb)⟩, (E4.keep b hb).2⟩, E4.map, E4.low, fun b hb => E4.new b hb.1⟩
theorem mr_good (hgood : ∀ (s : St) (o : Out) (s' : St), g s = some (o, s') -> Good K s.h s'.h) {s s' : St} {o : Out} (hq : mrLoop cfg f c it d1 d2 g s = some (o, s')) : Good K s.h s'.h := by
 unfold mrLoop at hq
 split at hq
 case h_2 => cases hq
 rename_i id hit
 split at hq
 case h_2 => cases hq
 rename_i ks vs ho
 simp only [oB] at hq
 obtain ⟨s0, h0, hq⟩ := hq
 have g0 : Good K s.h s0.h := Good.trans none_good (reset_good (s1 := { s with h := s.h.set id none }) (s2 := { s with h := s.h.set id none }) (Good.refl K _) h0)
 have hE : ∀ {st : St} {o : Out} {s' : St}, mrEnd it d1 d2 id g st = some (o, s') -> Good K st.h s'.h := fun h => by
  have := hgood _ _ _ (mrEnd_some h).2.1
  exact this
 have hR : ∀ {st st' : St} {k v : T}, mrRound cfg f c it d1 d2 id g k v st = some st' -> Good K st.h st'.h := fun h => by
  obtain ⟨_, s1, h1, h2⟩ := mrRound_some h
  have := hgood _ _ _ h1
  exact mrBack_good (h1 := _) this h2
 unfold mapRun at hq
 simp only [oB] at hq
 obtain ⟨q, hf, hq⟩ := hq
 have F := mrFind_spec _ 0 q hf
 cases q with
 | none => exact g0.trans (hE hq)
 | some p =>
  obtain ⟨j0, sk⟩ := p
  obtain ⟨_, ⟨k, v, _, f2⟩, _⟩ := F
  simp only at hq
  cases hst : mrStay (mrRound cfg f c it d1 d2 id g) sk j0 0 (ks.zip vs) with
  | false => rw [hst] at hq; cases hq
  | true => rw [hst] at hq; exact g0.trans ((hR f2).trans (hE hq))
theorem mr_wp (hrest : ∀ (s : St) (o : Out) (s' : St), g s = some (o, s') -> Good K s.h s'.h /\ ∀ (B0 : Nat -> Prop) (ro : Option Nat) (w : World) (S : Nat -> Prop) (M : MM) (a : Act) (n : Nat), State K B0 rd ro w S M s a -> rest.wpIn (FR ro) n P (Post K B0 rd ro s.h.next w S M o s') a w)
  {o1 o2 : Oper} {rid : Nat} (h1 : o1.op = .next (.tmp it) false) (h1d : o1.dst = some d1) (h2 : o2.op = .extract (.tmp d1) 0) (h2d : o2.dst = some d2) (ne1 : it ≠ d1) (ne2 : it ≠ d2) (ne3 : d1 ≠ d2) (g1 : o1.guard = none) (g2 : o2.guard = none)
  {s s' : St} {o : Out} {a : Act} (X : State K B0 rd ro w S M s a) (hq : mrLoop cfg f c it d1 d2 g s = some (o, s')) (n : Nat) :
  (Code.loop (.seq (.region rid #[o1, o2] false) rest)).wpIn (FR ro) n P (Post K B0 rd ro s.h.next w S M o s') a w := by
 unfold mrLoop at hq
 split at hq
 case h_2 => cases hq
 rename_i id hit
 split at hq
 case h_2 => cases hq
 rename_i ks vs ho
 simp only [oB] at hq
 obtain ⟨s0, h0, hq⟩ := hq
 unfold mapRun at hq
 simp only [oB] at hq
 obtain ⟨q, hf, hq⟩ := hq
 obtain ⟨m, hm, hp, mb, es, clock, r1, r2, r3, r4, r5, r6, r7, r8⟩ := X.I.obj id _ ho
 have hnb : ¬ S m.b := X.I.stable id _ m ho hm
 have X1 : State K B0 rd ro w S M { s with h := s.h.set id none } a := by
  refine ⟨(none_good X.k).2, ⟨fun i o' hi => ?_, X.I.at_, fun i j o1 o2 m1 m2 hi hj => ?_, fun i o' m' hi => ?_, X.I.lt, X.I.base, X.I.own.imp fun O KO => ?_⟩, X.t, X.m, X.r⟩
  . rw [Heap.obj_set] at hi
    split at hi
    . cases hi
    . exact X.I.obj i o' hi
  . rw [Heap.obj_set] at hi hj
    split at hi
    . cases hi
    . split at hj
      . cases hj
      . exact X.I.inj i j o1 o2 m1 m2 hi hj
  . rw [Heap.obj_set] at hi
    split at hi
    . cases hi
    . exact X.I.stable i o' m' hi
  . have old : ∀ i o, ({ s with h := s.h.set id none } : St).h.obj i = some o -> s.h.obj i = some o := fun i o hi => by
     have hi : (s.h.set id none).obj i = some o := hi
     rw [Heap.obj_set] at hi
     split at hi
     . cases hi
     . exact hi
    exact KO.step (Nat.le_refl _) (fun b hb => ⟨hb, rfl⟩) (fun b hb => ⟨(KO.free b hb).1, rfl⟩) (fun i o m hi => KO.obj i o m (old i o hi)) fun i g e cs fc m1 hi hm1 j e2 sh xs hj => ⟨i, g, e, cs, fc, m1, j, old i _ hi, hm1, hj, rfl, rfl, rfl⟩
 have hno1 : ∀ id' o' m', ({ s with h := s.h.set id none } : St).h.obj id' = some o' -> M id' = some m' -> m'.b ≠ m.b := by
  intro i o' m' hi hm' e
  have hi : (s.h.set id none).obj i = some o' := hi
  rw [Heap.obj_set] at hi
  split at hi
  . cases hi
  . rename_i hne
    exact hne (X.I.inj i id o' _ m' m hi ho hm' hm e)
 obtain ⟨M0, X0, E0, hM0, hle0⟩ := reset_state (s1 := { s with h := s.h.set id none }) (s2 := { s with h := s.h.set id none }) X1 X1 (Ext.refl ..) (Good.refl K _) h0
 have hm0 : M0 id = some m := E0.pin hm hp
 have hno0 : ∀ id' o' m', s0.h.obj id' = some o' -> M0 id' = some m' -> m'.b ≠ m.b := by
  intro i o' m' hi hm'
  have hm1 : M i = some m' := by
   rcases hM0 with e | e
   . rw [e] at hm'; exact hm'
   . rw [e] at hm'; exact (MM.cut_some hm').2
  refine hno1 i o' m' ?_ hm1
  unfold resetAt at h0
  split at h0
  . cases h0; exact hi
  . simp only [reset, oB] at h0
    obtain ⟨h', hh, h0⟩ := h0
    split at h0
    case isFalse => cases h0
    cases h0
    exact ((resetH_sub hh).2.2 i o' hi).1
 have hkv : ∀ (i : Nat) (e : MapEntry), es[i]? = some e -> ∃ k v, (ks.zip vs)[i]? = some (k, v) /\ RepT w S k e.key /\ RepT w S v e.val := by
  intro i e hi
  have hlt := (Array.getElem?_eq_some_iff.1 hi).1
  have hk : ks[i]? = some (ks[i]'(by omega)) := by simp
  have hv : vs[i]? = some (vs[i]'(by omega)) := by simp
  exact ⟨_, _, by rw [List.getElem?_zip_eq_some]; exact ⟨hk, hv⟩, r7 i _ e hk hi, r8 i _ e hv hi⟩
 have hstay : ∀ j0 sk, q = some (j0, sk) -> mrStay (mrRound cfg f c it d1 d2 id g) sk j0 0 (ks.zip vs) = true := by
  intro j0 sk e
  subst e
  simp only at hq
  cases hs : mrStay (mrRound cfg f c it d1 d2 id g) sk j0 0 (ks.zip vs) with
  | true => rfl
  | false => rw [hs] at hq; cases hq
 have hlast : ∀ seen st, MRAt es q s0 seen st -> (leftOf es seen).size = 0 -> mrEnd it d1 d2 id g st = some (o, s') := by
  intro seen st hA hz
  cases q with
  | none =>
   have hA : st = s0 := hA
   subst hA
   exact hq
  | some p =>
   obtain ⟨j0, sk⟩ := p
   obtain ⟨e0, he0, hA⟩ := hA
   rcases hA with ⟨_, hn⟩ | ⟨rfl, _⟩
   . exact absurd (leftOf_zero hz he0) hn
   . simp only [hstay _ _ rfl, cond_true] at hq
     exact hq
 have hstart : MRAt es q s0 #[] s0 := by
  cases q with
  | none => rfl
  | some p =>
   obtain ⟨j0, sk⟩ := p
   obtain ⟨_, ⟨k, v, f1, _⟩, _⟩ := mrFind_spec _ 0 _ hf
   simp only [Nat.sub_zero, List.getElem?_zip_eq_some] at f1
   have hlt : j0 < es.size := by rw [<- r5]; exact (gS.1 f1.1).1
   exact ⟨es[j0], by simp [hlt], .inl ⟨rfl, by simp⟩⟩
 refine wpIn_loop_iter (fun i a1 w1 => ∃ st S1 M1 seen, i = (leftOf es seen).size /\ MRAt es q s0 seen st /\ MRHead K B0 rd ro id m mb clock seen w1 S1 M1 st a1 /\ Ext B0 (· < s.h.next) w S M w1 S1 M1 /\ s.h.next <= st.h.next) ?_ (i := (leftOf es #[]).size)
  ⟨s0, S, M0, #[], rfl, hstart, ⟨X0, hm0, hp, hnb, r1, r2, hno0⟩, E0, hle0⟩
 rintro i a1 w1 ⟨st, S1, M1, seen, rfl, hA, H, E1, hle1⟩
 have hes1 : w1.heap[mb]? = some (.map es clock) := by rw [(E1.keep mb r2).2]; exact r3
 have hrd : mrReady it d1 id st = true := by
  by_cases hz : (leftOf es seen).size = 0
  . exact (mrEnd_some (hlast seen st hA hz)).1
  . have hpos : 0 < (leftOf es seen).size := Nat.pos_of_ne_zero hz
    obtain ⟨⟨i, hi⟩, hnm⟩ := leftOf_mem (es := es) (seen := seen) (e := (leftOf es seen)[0]) (by simp)
    obtain ⟨k, v, hkvi, _, _⟩ := hkv i _ hi
    obtain ⟨st', h', _⟩ := mrAt_step hf hstay r4 hA hi hnm hkvi
    exact (mrRound_some h').1
 refine mr_round (cfg := cfg) (f := f) (c := c) hrest h1 h1d h2 h2d ne1 ne2 ne3 g1 g2 H hes1 r4 (kv := ks.zip vs) hrd ?_ ?_ ?_ ?_
 . intro i e hi
   obtain ⟨k, v, a1, a2, a3⟩ := hkv i e hi
   exact ⟨k, v, a1, a2.mono E1.keep, a3.mono E1.keep⟩
 . intro i e k v hi hnm hkvi
   obtain ⟨st', h', _⟩ := mrAt_step hf hstay r4 hA hi hnm hkvi
   exact ⟨st', h'⟩
 . intro i e k v st' hi he hkvi hst' w' S' M' a' H' E' hle'
   obtain ⟨st2, h2', hA'⟩ := mrAt_step hf hstay r4 hA hi (leftOf_mem he).2 hkvi
   rw [hst'] at h2'
   cases h2'
   exact ⟨_, leftOf_lt he, st', S', M', seen.push e.born, rfl, hA', H', E1.trans E' fun i hi => Nat.lt_of_lt_of_le hi hle1, Nat.le_trans hle1 hle'⟩
 . intro hz
   refine ⟨o, s', hlast seen st hA hz, fun e a' w' hp => ?_⟩
   have hno := (mrEnd_some (hlast seen st hA hz)).2.2
   have hp' := hp.trans E1 hle1
   cases o with
   | norm => exact absurd rfl hno
   | ret => have := hp'.1; subst this; exact hp'
   | exit id => have := hp'.1; subst this; exact hp'
end
end
end Go.Apex
