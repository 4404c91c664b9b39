import Derived.Test.YtcljaeknhmpecaaGreatApexA13
set_option linter.all false
namespace Go.Apex
open Go Go.RowKit
variable [Globs]
section
variable {cfg : Cfg} {P : Program} {B0 : Nat -> Prop} {n0 : Nat -> Prop} {w : World} {S : Nat -> Prop} {M : MM} {h : Heap} {ts : Ts} {a : Array Value} {rd : Rd} {slot : Nat}
theorem put_cells (I : Inv B0 w S M h) (hs0 : M slot = none) (hs1 : ¬ n0 slot) (hs2 : slot < h.next) {e : TypeId} {cs : List V} {vals : Array Value} {w' : World}
  (hheap : w'.heap = w.heap.push (.cells vals e)) (hos : w'.os = w.os) (htape : w'.tape = w.tape) (hout : w'.output = w.output) (hle : cs.length <= vals.size)
  (hcs : ∀ (j : Nat) (c : V), cs[j]? = some c -> ∃ v, vals[j]? = some v /\ RepV w S M c v) :
  Inv B0 w' S (M.set slot ⟨w.heap.size, 0, 1, cs.length, vals.size⟩) (h.set slot (some (.cells 1 e false cs))) /\ Ext B0 n0 w S M w' S (M.set slot ⟨w.heap.size, 0, 1, cs.length, vals.size⟩) := by
 have hold : ∀ b, b < w.heap.size -> w'.heap[b]? = w.heap[b]? := fun b hb => by rw [hheap, Array.getElem?_push, if_neg (by omega)]
 have hext : ∀ b, S b -> S b /\ w'.heap[b]? = w.heap[b]? := fun b hb => ⟨hb, hold b (I.lt b hb)⟩
 have hsize : w'.heap.size = w.heap.size + 1 := by rw [hheap]; simp
 have hM : ∀ i m, M i = some m -> ∃ m2, (M.set slot ⟨w.heap.size, 0, 1, cs.length, vals.size⟩) i = some m2 /\ (m2 = m \/ (m.gen < m2.gen /\ m.ext <= m.tot)) := fun i m hm => by
  have : i ≠ slot := fun e => by rw [e, hs0] at hm; cases hm
  exact ⟨m, by simp [MM.set, this, hm], .inl rfl⟩
 exact I.put slot (.cells 1 e false cs) ⟨w.heap.size, 0, 1, cs.length, vals.size⟩ (fun m hm => by rw [hs0] at hm; cases hm) (fun _ => ⟨hs1, hs2⟩)
  hos htape hout (by omega) (fun b hb _ => hold b hb) (.inl (Nat.le_refl _)) (by show w.heap.size < _; omega)
  ⟨rfl, rfl, (fun h => by cases h), vals, (0, 0), by rw [hheap]; simp, fun _ => rfl, rfl, by simpa using hle, fun j c hj => by
   obtain ⟨u, hu, hr⟩ := hcs j c hj
   exact ⟨u, by simpa using hu, hr.mono hext hM⟩⟩
theorem append_grow_run {t xt ty e : TypeId} {info : TypeInfo} {zv : Value} {ux : TypeDesc} {base : Option Addr} {sLen sCap n : Nat} {x : Value} {argTypes : Array TypeId}
  (ht : argTypes[0]? = some t) (hxt : argTypes[1]? = some xt) (hu : P.underlying t = some (.slice e)) (hxu : P.underlying xt = some ux) (hnx : (dOf ux).isInt = false) (hi : P.info? e = some info) (hz : info.zero = some zv)
  (hn : ∀ w', (Builtin.lenOf x).run P w' = .ok n w') {old new : Array Value} (hold : (Builtin.firstCells info.size sLen (.slice base sLen sCap)).run P w.drew = .ok old w.drew)
  (hnew : (Builtin.firstCells info.size n x).run P w.drew = .ok new w.drew) (hgt : sCap < sLen + n) (hle : sLen + n <= maxBytes) (hb : (sLen + n) * info.bytes <= maxBytes) :
  ∃ cap', sLen + n <= cap' /\ (Builtin.append_ argTypes ty #[.slice base sLen sCap, x]).run P w =
   .ok (.slice (some ⟨w.heap.size, 0, none⟩) (sLen + n) cap') (w.drew.alloc (.cells (old ++ new ++ Builtin.zeroCells zv.cells (cap' - (sLen + n))) e)) := by
 refine ⟨Question.cut (.appendCap (sLen + n) sCap e) (w.tape w.drawn (.appendCap (sLen + n) sCap e)), by simp only [Question.cut]; omega, ?_⟩
 have h1 : ¬ (sLen + n <= sCap) := by omega
 have h2 : ¬ (((sLen + n : Nat) : Int) > IntKind.i64.max /\ info.bytes = 0) := by
  rintro ⟨hg, _⟩
  have e1 : IntKind.i64.max = 9223372036854775807 := rfl
  have e2 : maxBytes = 140737488355328 := rfl
  rw [e1] at hg
  rw [e2] at hle
  omega
 have h3 : ¬ (Builtin.nextslicecap (sLen + n) sCap * info.bytes > 2 ^ 48) := by
  have k := nextslicecap_le hgt
  have e2 : maxBytes = 140737488355328 := rfl
  rw [e2] at hb
  have : Builtin.nextslicecap (sLen + n) sCap * info.bytes <= 2 * ((sLen + n) * info.bytes) := by
   rw [<- Nat.mul_assoc]; exact Nat.mul_le_mul_right _ k
  omega
 have hdrew : ({ w with drawn := w.drawn + 1 } : World) = w.drew := rfl
 cases ux <;> first | (simp [dOf, D.isInt] at hnx; done) | skip
 all_goals
  simp only [Builtin.append_, ht, hxt, List.getElem?_toArray, List.getElem?_cons_zero, List.getElem?_cons_succ, Sem.run_bind, run_underlying hu, run_underlying hxu, Result.andThen_ok, run_sizeOf' hi, Sem.run_pure, Bool.false_eq_true, if_false, hn,
   if_neg h1, run_typeInfo' hi, false_or, if_neg h2, if_neg h3, run_choose, Question.forced, run_askRoom, hdrew, hold, hnew, Bool.not_false, if_true, run_zeroValue' hi hz, Go.newRow, run_newObj]
  rfl
theorem toList_pair {α : Type} {x : Array α} {p q : α} (h : x.toList = [p, q]) : x = #[p, q] := by
 apply Array.toList_inj.1
 simpa using h
theorem append_empty_run {t xt ty e : TypeId} {info : TypeInfo} {ux : TypeDesc} {base : Option Addr} {sLen sCap : Nat} {x : Value} {argTypes : Array TypeId}
  (ht : argTypes[0]? = some t) (hxt : argTypes[1]? = some xt) (hu : P.underlying t = some (.slice e)) (hxu : P.underlying xt = some ux) (hnx : (dOf ux).isInt = false) (hi : P.info? e = some info)
  (hn : ∀ w', (Builtin.lenOf x).run P w' = .ok 0 w') (hnew : ∀ w', w'.heap = w.heap -> (Builtin.firstCells info.size 0 x).run P w' = .ok #[] w') (hle : sLen <= sCap) :
  (Builtin.append_ argTypes ty #[.slice base sLen sCap, x]).run P w = .ok (.slice base sLen sCap) w := by
 have hnew' := hnew w rfl
 cases ux <;> first | (simp [dOf, D.isInt] at hnx; done) | skip
 all_goals
  cases base <;>
  simp only [Builtin.append_, ht, hxt, List.getElem?_toArray, List.getElem?_cons_zero, List.getElem?_cons_succ, Sem.run_bind, run_underlying hu, run_underlying hxu, Result.andThen_ok, run_sizeOf' hi, Sem.run_pure, Bool.false_eq_true, if_false, hn,
   Nat.add_zero, if_pos hle, Bool.not_false, if_true, hnew', storeCells]
theorem appendNew_run (c : CfgTI cfg P) (I : Inv B0 w S M h) (hs0 : M slot = none) (hs1 : ¬ n0 slot) (hs2 : slot < h.next) (hrd : ∀ id o, rd id = some o -> h.obj id = some o)
  {t xt ty e : TypeId} {j xi : TI} {argTypes : Array TypeId} (ht : argTypes[0]? = some t) (hxt : argTypes[1]? = some xt) (hse : sliceElem cfg t = some (e, j)) (hxi : cfg.ti xt = some xi) (hnx : xi.d.isInt = false) (hj0 : 0 < j.size) (hjz : (j.zero.any fun z => z.fits j.sh) = true)
  {sv xv : V} {sc xc : Value} (rs : RepV w S M sv sc) (rx : RepV w S M xv xc) {v : V} {ob : Option Obj} (hq : appendNew slot e j rd sv xv = some (v, ob)) :
  QDone P B0 n0 w S M h slot (Builtin.append_ argTypes ty #[sc, xc]) v ob := by
 have hu : P.underlying t = some (.slice e) /\ cfg.ti e = some j := by
  simp only [sliceElem, oB] at hse
  obtain ⟨u, hu, hs⟩ := hse
  obtain ⟨info, ud, h1, h2, h3, h4, h5, h6, h7, _⟩ := tiOf_spec (c.ti _ _ hu)
  split at hs
  . rename_i e' hd
    simp only [oM, Prod.mk.injEq] at hs
    obtain ⟨j', hj, rfl, rfl⟩ := hs
    rw [h7] at hd
    have := dOf_slice hd; subst this
    exact ⟨h2, hj⟩
  . cases hs
 obtain ⟨hu, hj⟩ := hu
 obtain ⟨info, _, j1, j2, j3, j4, j5, j6, j7, _⟩ := tiOf_spec (c.ti _ _ hj)
 obtain ⟨xinfo, ux, _, x2, _, _, _, _, x7, _⟩ := tiOf_spec (c.ti _ _ hxi)
 rw [x7] at hnx
 have hsh : shSize j.sh = j.size := by
  unfold TI.sh shSize
  split
  . rfl
  . rename_i hf; rw [tiOf_one (c.ti _ _ hj) (by simpa using hf)]; rfl
 obtain ⟨z, hz, hzf⟩ : ∃ z, j.zero = some z /\ z.fits j.sh = true := by
  cases hjj : j.zero with
  | none => rw [hjj] at hjz; cases hjz
  | some z => rw [hjj] at hjz; exact ⟨z, rfl, hjz⟩
 rw [j6] at hz
 obtain ⟨zv, hzv, hzrep⟩ := zero_spec hz
 have hzsz : zv.cells.size = j.size := by
  rw [<- hsh]; exact (fits_cells (.t z zv (hzrep w S) : RepV w S M (.t z) zv) (T.fits_t hzf)).2.1
 have same : ∀ {es : List V}, elems j.sh rd xv = some es -> es.isEmpty = true -> ∀ {base : Option Addr} {sl sc' : Nat}, sc = .slice base sl sc' -> sl <= sc' -> QDone P B0 n0 w S M h slot (Builtin.append_ argTypes ty #[sc, xc]) sv none := by
  intro es he hemp base sl sc' hsc hle
  obtain ⟨_, hlen, arr, hfc, hrep⟩ := elems_run (P := P) I hrd (by rw [hsh]; exact hj0) rx he
  have hes : es = [] := List.isEmpty_iff.1 hemp
  subst hes
  have harr : arr = #[] := by
   have := hrep.1
   simp at this
   exact Array.eq_empty_of_size_eq_zero (by omega)
  subst harr
  rw [hsh, j3] at hfc
  refine ⟨sc, w, S, M, ?_, I, Ext.refl .., rs⟩
  rw [hsc]
  exact append_empty_run ht hxt hu x2 hnx j1 hlen hfc hle
 have grow : ∀ {es olds : List V}, elems j.sh rd xv = some es -> es ≠ [] -> (∀ y ∈ olds, y.fits j.sh = true) -> ∀ {base : Option Addr} {sl sc' : Nat} {oarr : Array Value}, sc = .slice base sl sc' -> sl = olds.length -> sc' = sl →
   (∀ w', w'.heap = w.heap -> (Builtin.firstCells info.size sl (.slice base sl sc')).run P w' = .ok oarr w') -> RepVL w S M (olds.flatMap V.cells) oarr.toList -> olds.length + es.length <= maxBytes -> (olds.length + es.length) * j.bytes <= maxBytes →
   QDone P B0 n0 w S M h slot (Builtin.append_ argTypes ty #[sc, xc]) (newRow e slot j.sh (olds ++ es)).1 (newRow e slot j.sh (olds ++ es)).2 := by
  intro es olds he hne hof base sl sc' oarr hsc hsl hcap hold horep hm1 hm2
  obtain ⟨hef, hlen, arr, hfc, hrep⟩ := elems_run (P := P) I hrd (by rw [hsh]; exact hj0) rx he
  rw [hsh, j3] at hfc
  have hpos : 0 < es.length := List.length_pos_iff.2 hne
  rw [j4] at hm2
  subst hsl
  subst hcap
  obtain ⟨cap', hge, hrun⟩ := append_grow_run (P := P) (w := w) (ty := ty) ht hxt hu x2 hnx j1 hzv hlen (hold w.drew rfl) (hfc w.drew rfl) (by omega) hm1 hm2
  have hol : oarr.size = olds.length * j.size := by
   have := horep.1
   rw [length_flatMap_uniform V.cells (shSize j.sh) olds fun y hy => fits_length (hof y hy), hsh] at this
   simpa using this.symm
  have hnl : arr.size = es.length * j.size := by
   have := hrep.1
   rw [length_flatMap_uniform V.cells (shSize j.sh) es fun y hy => fits_length (hef y hy), hsh] at this
   simpa using this.symm
  have hboth : RepVL w S M ((olds ++ es).flatMap V.cells) (oarr.toList ++ arr.toList) := by
   rw [List.flatMap_append]
   exact horep.append hrep
  have hcl : ((olds ++ es).flatMap V.cells).length = (olds.length + es.length) * j.size := by
   rw [hboth.1]; simp [hol, hnl, Nat.add_mul]
  have hzs : (Builtin.zeroCells zv.cells (cap' - (olds.length + es.length))).size = (cap' - (olds.length + es.length)) * zv.cells.size := by simp [Builtin.zeroCells]
  obtain ⟨hI', hE'⟩ := put_cells (B0 := B0) (n0 := n0) I hs0 hs1 hs2 (e := e) (cs := (olds ++ es).flatMap V.cells) (vals := oarr ++ arr ++ Builtin.zeroCells zv.cells (cap' - (olds.length + es.length)))
   (w' := w.drew.alloc (.cells (oarr ++ arr ++ Builtin.zeroCells zv.cells (cap' - (olds.length + es.length))) e)) rfl rfl rfl rfl
   (by rw [hcl]; simp only [Array.size_append, hol, hnl, Nat.add_mul]; omega)
   (fun q c hq => by
    obtain ⟨u, hu1, hu2⟩ := hboth.get hq
    have hlt : q < (oarr ++ arr).size := by
     have := (gS.1 hu1).1
     simpa using this
    refine ⟨u, ?_, hu2⟩
    rw [Array.getElem?_append_left hlt, <- Array.getElem?_toList, Array.toList_append]
    exact hu1)
  have hlenes : (olds ++ es).length = olds.length + es.length := by simp
  refine ⟨_, _, S, _, by rw [hsc]; exact hrun, hI', hE', ?_⟩
  show RepV _ S _ (.msl slot 1 0 (olds ++ es).length j.sh) _
  rw [hlenes]
  refine .msl _ _ _ _ _ _ _ _ hge ⟨w.heap.size, 0, 1, ((olds ++ es).flatMap V.cells).length, (oarr ++ arr ++ Builtin.zeroCells zv.cells (cap' - (olds.length + es.length))).size⟩ (by simp only [MM.set, if_true]) (Nat.le_refl _) fun _ => ⟨rfl, .inr rfl, ?_, ?_⟩
  . show ((olds ++ es).flatMap V.cells).length <= 0 + cap' * shSize j.sh
    rw [hcl, hsh]
    have := Nat.mul_le_mul_right j.size hge
    omega
  . show 0 + 0 + cap' * shSize j.sh <= (oarr ++ arr ++ Builtin.zeroCells zv.cells (cap' - (olds.length + es.length))).size
    simp only [Array.size_append, hol, hnl, hzs, hsh, hzsz]
    rw [<- Nat.add_mul, <- Nat.add_mul, Nat.add_sub_cancel' hge]
    omega
 unfold appendNew at hq
 split at hq
 . simp only [oB] at hq
   obtain ⟨es, he, hq⟩ := hq
   have hsc := repT_nils (repV_t rs)
   split at hq
   . rename_i hemp
     cases hq
     exact same he hemp hsc (Nat.le_refl _)
   . rename_i hemp
     split at hq
     case isFalse => cases hq
     rename_i hc
     cases hq
     exact grow (olds := []) he (by simpa using hemp) (by simp) (oarr := #[]) hsc rfl rfl (fun w' _ => by rfl) .nil (by simpa using hc.1) (by simpa using hc.2)
 . rename_i ex sz xs
   simp only [oB] at hq
   obtain ⟨es, he, hq⟩ := hq
   obtain ⟨b, o, cap, sp, hsc, hle, hex, _⟩ := repT_sl (repV_t rs)
   split at hq
   . rename_i hemp
     cases hq
     exact same he hemp hsc hle
   . rename_i hemp
     split at hq
     case isFalse => cases hq
     rename_i hc
     obtain ⟨rfl, rfl, hall, hm1, hm2⟩ := hc
     cases hq
     have hself : elems j.sh rd (.t (.sl true j.size xs)) = some (xs.map .t) := by
      simp only [elems]
      rw [if_pos ⟨hsh.symm, hall⟩]
     obtain ⟨hof, _, oarr, hfc, hrep⟩ := elems_run (P := P) I hrd (by rw [hsh]; exact hj0) rs hself
     rw [hsh, j3] at hfc
     refine grow (olds := xs.map .t) he (by simpa using hemp) hof (oarr := oarr) hsc (by simp) (hex rfl) (fun w' hw => ?_) hrep (by simpa using hm1) (by simpa using hm2)
     have := hfc w' hw
     rw [hsc] at this
     simpa using this
 . cases hq
end
end Go.Apex
