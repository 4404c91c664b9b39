import Derived.Test.YtcljaeknhmpecaaGreatApexA17
set_option linter.all false
namespace Go.Apex
open Go Go.RowKit
variable [Globs]
section
variable {cfg : Cfg} {P : Program} {B0 : Nat -> Prop} {n0 : Nat -> Prop} {w : World} {S : Nat -> Prop} {M : MM} {h : Heap} {ts : Ts} {a : Array Value} {slot : Nat}
def VDone (P : Program) (B0 : Nat -> Prop) (n0 : Nat -> Prop) (w : World) (S : Nat -> Prop) (M : MM) (h' : Heap) (s : Sem Value) (v : V) : Prop :=
 ∃ cv w' S' M', s.run P w = .ok cv w' /\ Inv B0 w' S' M' h' /\ Ext B0 n0 w S M w' S' M' /\ RepV w' S' M' v cv
theorem VDone.loud {h' : Heap} {s : Sem Value} {v : V} (hd : VDone P B0 n0 w S M h' s v) : LDone P B0 n0 w S M h' (do pure (.value (<- s))) v := by
 obtain ⟨cv, w', S', M', h1, h2, h3, h4⟩ := hd
 exact ⟨.value cv, cv, w', S', M', by simp only [Sem.run_bind, h1, Result.andThen_ok, Sem.run_pure], .inl rfl, h2, h3, h4⟩
theorem QDone.v {ob : Option Obj} {s : Sem Value} {v : V} (hd : QDone P B0 n0 w S M h slot s v ob) : VDone P B0 n0 w S M (putObj h slot ob) s v := hd
theorem append_place_run {t xt ty e : TypeId} {info : TypeInfo} {ux : TypeDesc} {base : Addr} {sLen sCap n : Nat} {x : Value} {argTypes : Array TypeId} {w' : World}
  (ht : argTypes[0]? = some t) (hxt : argTypes[1]? = some xt) (hu : P.underlying t = some (.slice e)) (hxu : P.underlying xt = some ux) (hnx : (dOf ux).isInt = false) (hi : P.info? e = some info)
  (hn : ∀ w', (Builtin.lenOf x).run P w' = .ok n w') {new : Array Value} (hnew : (Builtin.firstCells info.size n x).run P w = .ok new w) (hle : sLen + n <= sCap)
  (hst : (storeCells (base.add (sLen * info.size)) new.toList).run P w = .ok () w') :
  (Builtin.append_ argTypes ty #[.slice (some base) sLen sCap, x]).run P w = .ok (.slice (some base) (sLen + n) sCap) w' := by
 cases ux <;> first | (simp [dOf, D.isInt] at hnx; done) | skip
 all_goals
  simp only [Builtin.append_, ht, hxt, List.getElem?_toArray, List.getElem?_cons_zero, List.getElem?_cons_succ, Sem.run_bind, run_underlying hu, run_underlying hxu, Result.andThen_ok, run_sizeOf' hi, Sem.run_pure, Bool.false_eq_true, if_false, hn,
   if_pos hle, Bool.not_false, if_true, hnew, hst]
theorem cells_one {sh : Option Nat} {es : List V} (hf : ∀ u ∈ es, u.fits sh = true) {arr : List Value} (hr : RepVL w S M (es.flatMap V.cells) arr) : ∀ v ∈ arr, v.oneCell' = true := by
 intro v hv
 obtain ⟨q, hq⟩ := List.mem_iff_getElem?.1 hv
 have hlt : q < (es.flatMap V.cells).length := by rw [hr.1]; exact (gS.1 hq).1
 have hm := List.getElem_mem hlt
 obtain ⟨u, hu, hc⟩ := List.mem_flatMap.1 hm
 exact (repV_one (hr.2 q _ v (gE hlt) hq) (fits_one (hf u hu) _ hc)).1
theorem move_cells (I : Inv B0 w S M h) {id g : Nat} {e0 : TypeId} {fz : Bool} {cs0 : List V} {m : MI} (ho : h.obj id = some (.cells g e0 fz cs0)) (hm : M id = some m) (hg : m.gen = g) {e : TypeId} {cs : List V} {vals : Array Value} {w' : World}
  (hheap : w'.heap = w.heap.push (.cells vals e)) (hos : w'.os = w.os) (htape : w'.tape = w.tape) (hout : w'.output = w.output) (hle : cs.length <= vals.size)
  (hcs : ∀ (j : Nat) (c : V), cs[j]? = some c -> ∃ v, vals[j]? = some v /\ RepV w S M c v) :
  Inv B0 w' S (M.set id ⟨w.heap.size, 0, g + 1, cs.length, vals.size⟩) (h.set id (some (.cells (g + 1) e false cs))) /\ Ext B0 n0 w S M w' S (M.set id ⟨w.heap.size, 0, g + 1, cs.length, vals.size⟩) := by
 have hold : ∀ b, b < w.heap.size -> w'.heap[b]? = w.heap[b]? := fun b hb => by rw [hheap, Array.getElem?_push, if_neg (by omega)]
 have hext : ∀ b, S b -> S b /\ w'.heap[b]? = w.heap[b]? := fun b hb => ⟨hb, hold b (I.lt b hb)⟩
 have hsize : w'.heap.size = w.heap.size + 1 := by rw [hheap]; simp
 have hle0 := cells_le I ho hm
 have hM : ∀ i m1, M i = some m1 -> ∃ m2, (M.set id ⟨w.heap.size, 0, g + 1, cs.length, vals.size⟩) i = some m2 /\ (m2 = m1 \/ (m1.gen < m2.gen /\ m1.ext <= m1.tot)) := fun i m1 h1 => by
  by_cases e : i = id
  . subst e
    rw [hm] at h1
    cases h1
    exact ⟨⟨w.heap.size, 0, g + 1, cs.length, vals.size⟩, by simp only [MM.set, if_true], .inr ⟨by show m.gen < g + 1; omega, hle0⟩⟩
  . exact ⟨m1, by simp [MM.set, e, h1], .inl rfl⟩
 exact I.put id (.cells (g + 1) e false cs) ⟨w.heap.size, 0, g + 1, cs.length, vals.size⟩ (fun m1 h1 => by rw [hm] at h1; cases h1; exact ⟨by rw [ho]; simp, .inr ⟨by show m.gen < g + 1; omega, hle0⟩⟩) (fun hn => by rw [hm] at hn; cases hn)
  hos htape hout (by omega) (fun b hb _ => hold b hb) (.inl (Nat.le_refl _)) (by show w.heap.size < _; omega)
  ⟨rfl, rfl, (fun h => by cases h), vals, (0, 0), by rw [hheap]; simp, fun _ => rfl, rfl, by simpa using hle, fun j c hj => by
   obtain ⟨u, hu, hr⟩ := hcs j c hj
   exact ⟨u, by simpa using hu, hr.mono hext hM⟩⟩
theorem appendV_run (c : CfgTI cfg P) (I : Inv B0 w S M h) {rd : Rd} (hrd : ∀ id o, rd id = some o -> h.obj id = some o) (hs0 : M slot = none) (hs1 : ¬ n0 slot) (hs2 : slot < h.next)
  {t xt ty e : TypeId} {j xi : TI} {argTypes : Array TypeId} (ht : argTypes[0]? = some t) (hxt : argTypes[1]? = some xt) (hse : sliceElem cfg t = some (e, j)) (hxi : cfg.ti xt = some xi) (hnx : xi.d.isInt = false) (hj0 : 0 < j.size) (hjz : (j.zero.any fun z => z.fits j.sh) = true)
  {sv xv : V} {sc xc : Value} (rs : RepV w S M sv sc) (rx : RepV w S M xv xc) {v : V} {h' : Heap} (hq : appendV slot e j h rd sv xv = some (v, h')) :
  VDone P B0 n0 w S M h' (Builtin.append_ argTypes ty #[sc, xc]) v := by
 have new : (appendNew slot e j rd sv xv).map (fun (v, o) => match o with | some o => (v, h.set slot (some o)) | none => (v, h)) = some (v, h') -> VDone P B0 n0 w S M h' (Builtin.append_ argTypes ty #[sc, xc]) v := by
  intro hq
  simp only [oM] at hq
  obtain ⟨⟨v0, ob⟩, hq, he⟩ := hq
  have := (appendNew_run (P := P) (ty := ty) c I hs0 hs1 hs2 hrd ht hxt hse hxi hnx hj0 hjz rs rx hq).v
  cases ob <;> simp only [Prod.mk.injEq] at he <;> obtain ⟨rfl, rfl⟩ := he <;> exact this
 unfold appendV at hq
 split at hq
 case h_2 => exact new hq
 clear new
 rename_i id gen off len sh
 split at hq
 case isTrue => cases hq
 rename_i hsh0
 have hsh0 : sh = j.sh := by simpa using hsh0
 subst hsh0
 simp only [oB] at hq
 obtain ⟨es, he, hq⟩ := hq
 have hu : P.underlying t = some (.slice e) /\ cfg.ti e = some j := by
  simp only [sliceElem, oB] at hse
  obtain ⟨u, hu, hs⟩ := hse
  obtain ⟨info, ud, h1, h2, h3, h4, h5, h6, h7, _⟩ := tiOf_spec (c.ti _ _ hu)
  split at hs
  . rename_i e' hd
    simp only [oM, Prod.mk.injEq] at hs
    obtain ⟨j', hj, rfl, rfl⟩ := hs
    rw [h7] at hd
    have := dOf_slice hd; subst this
    exact ⟨h2, hj⟩
  . cases hs
 obtain ⟨hu, hj⟩ := hu
 obtain ⟨info, _, j1, j2, j3, j4, j5, j6, j7, _⟩ := tiOf_spec (c.ti _ _ hj)
 obtain ⟨xinfo, ux, _, x2, _, _, _, _, x7, _⟩ := tiOf_spec (c.ti _ _ hxi)
 rw [x7] at hnx
 have hsh : shSize j.sh = j.size := shSize_sh c hj
 obtain ⟨hef, hlen, arr, hfc, hrep⟩ := elems_run (P := P) I hrd (by rw [hsh]; exact hj0) rx he
 rw [hsh, j3] at hfc
 obtain ⟨b, o, cap, m, rfl, hlc, hm, hgle, hat⟩ := repV_msl rs
 split at hq
 . rename_i hemp
   have hes : es = [] := List.isEmpty_iff.1 hemp
   subst hes
   cases hq
   have harr : arr = #[] := by
    have := hrep.1
    simp at this
    exact Array.eq_empty_of_size_eq_zero (by omega)
   subst harr
   exact ⟨_, w, S, M, append_empty_run ht hxt hu x2 hnx j1 hlen hfc hlc, I, Ext.refl .., rs⟩
 rename_i hemp
 have hpos : 0 < es.length := List.length_pos_iff.2 (by simpa using hemp)
 split at hq
 case h_2 => cases hq
 rename_i g e' fz cs ho
 split at hq
 case isTrue => cases hq
 rename_i hc
 simp only [ne_eq, not_or, Decidable.not_not, Bool.not_eq_true] at hc
 obtain ⟨rfl, rfl⟩ := hc
 obtain ⟨m', arr0, fr, hm', hmg, hext, hheap, hfr, hsz, hle, hcell, hlist⟩ := obj_cells I ho
 rw [hm] at hm'
 cases hm'
 have := hfr rfl
 subst this
 obtain ⟨rfl, a2, a3, a4⟩ := hat hmg
 have honec := cells_one hef hrep
 have hcl : (es.flatMap V.cells).length = es.length * j.size := by rw [length_flatMap_uniform V.cells (shSize j.sh) es fun y hy => fits_length (hef y hy), hsh]
 have hal : arr.toList.length = es.length * j.size := by rw [<- hrep.1, hcl]
 rw [hsh] at hq a3 a4
 split at hq
 . 
   rename_i hin
   simp only [oI, Prod.mk.injEq] at hq
   obtain ⟨rfl, rfl⟩ := hq
   have hcap : len + es.length <= cap := by
    rcases Nat.lt_or_ge cap (len + es.length) with hlt | hge
    . have := Nat.mul_le_mul_right j.size (show cap + 1 <= len + es.length from hlt)
      rw [Nat.add_mul] at this
      omega
    . exact hge
   have ho2 : o = m.s + off := by
    rcases a2 with a2 | a2
    . omega
    . exact a2
   subst ho2
   have hmul : (len + es.length) * j.size = len * j.size + es.length * j.size := Nat.add_mul ..
   obtain ⟨m2, w', hm2, _, hrun, hI, hE⟩ := write_run (P := P) (n0 := n0) I ho (off := off + len * j.size) hrep honec (by rw [hcl]; omega)
   rw [hm] at hm2
   cases hm2
   refine ⟨_, w', S, M, append_place_run ht hxt hu x2 hnx j1 hlen (hfc w rfl) hcap ?_, hI, hE, ?_⟩
   . rw [addr_add, <- j3, Nat.add_assoc]; exact hrun
   . exact .msl _ _ _ _ _ _ _ _ hcap m hm (by omega) fun _ => ⟨rfl, .inr rfl, by rw [hsh]; omega, by rw [hsh]; omega⟩
 . split at hq
   case isFalse => cases hq
   rename_i hin hfro
   obtain ⟨rfl, hf1, hf2, hf3⟩ := hfro
   simp only [oI, Prod.mk.injEq] at hq
   obtain ⟨rfl, rfl⟩ := hq
   have hmul : (len + es.length) * j.size = len * j.size + es.length * j.size := Nat.add_mul ..
   have hdl : (cs.drop off ++ es.flatMap V.cells).length = (len + es.length) * j.size := by
    rw [List.length_append, List.length_drop, hcl, hmul]; omega
   have hrepAll : ∀ (q : Nat) (x : V), (cs.drop off ++ es.flatMap V.cells)[q]? = some x -> (q < len * j.size /\ ∃ v, arr0[m.s + off + q]? = some v /\ RepV w S M x v) \/ (len * j.size <= q /\ ∃ v, arr.toList[q - len * j.size]? = some v /\ RepV w S M x v) := by
    intro q x hq
    have hdr : (cs.drop off).length = len * j.size := by rw [List.length_drop]; omega
    rcases Nat.lt_or_ge q (len * j.size) with hlt | hge
    . left
      rw [List.getElem?_append_left (by omega), List.getElem?_drop] at hq
      obtain ⟨v, hv, hr⟩ := hcell _ _ hq
      exact ⟨hlt, v, by simpa [World.cell?, hheap, Nat.add_assoc] using hv, hr⟩
    . right
      rw [List.getElem?_append_right (by omega), hdr] at hq
      obtain ⟨v, hv, hr⟩ := hrep.get hq
      exact ⟨hge, v, hv, hr⟩
   rcases Nat.lt_or_ge cap (len + es.length) with hlt | hge
   . 
     have hfold : ∃ oarr : Array Value, oarr.size = len * j.size /\ (∀ w', w'.heap = w.heap -> (Builtin.firstCells info.size len (.slice (some ⟨m.b, o, none⟩) len cap)).run P w' = .ok oarr w') /\ ∀ q, q < len * j.size -> oarr[q]? = arr0[m.s + off + q]? := by
      rcases Nat.eq_zero_or_pos len with rfl | hl0
      . exact ⟨#[], by simp, fun w' _ => by simp [Builtin.firstCells, loadCells, loadCellsFrom], fun q hq => by omega⟩
      . have ho2 : o = m.s + off := by
         rcases a2 with a2 | a2
         . omega
         . exact a2
        subst ho2
        let L := (arr0.toList.drop (m.s + off)).take (len * j.size)
        have hLl : L.length = len * j.size := by simp [L]; omega
        have hLg : ∀ q, q < len * j.size -> L[q]? = arr0[m.s + off + q]? := fun q hq => by
         simp only [L]; rw [List.getElem?_take, if_pos hq, List.getElem?_drop]; simp
        refine ⟨L.toArray, by simp [hLl], fun w' hw => ?_, fun q hq => by simpa using hLg q hq⟩
        have := run_loadCells_list (P := P) w' ⟨m.b, m.s + off, none⟩ L (fun q v hv => by
         have hjl : q < len * j.size := by rw [<- hLl]; exact (gS.1 hv).1
         rw [hLg q hjl] at hv
         rw [addr_add]
         simpa [World.cell?, hw, hheap] using hv)
        rw [hLl] at this
        rw [<- j3]
        simpa [Builtin.firstCells] using this
     obtain ⟨oarr, hol, hold, hog⟩ := hfold
     obtain ⟨z, hz, hzf⟩ : ∃ z, j.zero = some z /\ z.fits j.sh = true := by
      cases hjj : j.zero with
      | none => rw [hjj] at hjz; cases hjz
      | some z => rw [hjj] at hjz; exact ⟨z, rfl, hjz⟩
     rw [j6] at hz
     obtain ⟨zv, hzv, hzrep⟩ := zero_spec hz
     have hzsz : zv.cells.size = j.size := by
      rw [<- hsh]; exact (fits_cells (.t z zv (hzrep w S) : RepV w S M (.t z) zv) (T.fits_t hzf)).2.1
     rw [j4] at hf3
     obtain ⟨cap', hge, hrun⟩ := append_grow_run (P := P) (w := w) (ty := ty) ht hxt hu x2 hnx j1 hzv hlen (hold w.drew rfl) (hfc w.drew rfl) hlt hf2 hf3
     have hnl : arr.size = es.length * j.size := by simpa using hal
     have hzs : (Builtin.zeroCells zv.cells (cap' - (len + es.length))).size = (cap' - (len + es.length)) * j.size := by simp [Builtin.zeroCells, hzsz]
     have htot : (oarr ++ arr ++ Builtin.zeroCells zv.cells (cap' - (len + es.length))).size = cap' * j.size := by
      simp only [Array.size_append, hol, hnl, hzs]
      rw [<- Nat.add_mul, <- Nat.add_mul, Nat.add_sub_cancel' hge]
     obtain ⟨hI', hE'⟩ := move_cells (B0 := B0) (n0 := n0) I ho hm hmg (cs := cs.drop off ++ es.flatMap V.cells) (vals := oarr ++ arr ++ Builtin.zeroCells zv.cells (cap' - (len + es.length)))
      (w' := w.drew.alloc (.cells (oarr ++ arr ++ Builtin.zeroCells zv.cells (cap' - (len + es.length))) e')) rfl rfl rfl rfl
      (by rw [hdl, htot]; exact Nat.mul_le_mul_right _ hge)
      (fun q x hq => by
       rcases hrepAll q x hq with ⟨hlt, v, hv, hr⟩ | ⟨hge, v, hv, hr⟩
       . refine ⟨v, ?_, hr⟩
         rw [Array.append_assoc, Array.getElem?_append_left (by omega), hog q hlt]; exact hv
       . refine ⟨v, ?_, hr⟩
         have hlt2 : q - len * j.size < arr.size := by
          have := (gS.1 hv).1
          simpa using this
         rw [Array.append_assoc, Array.getElem?_append_right (by omega), hol, Array.getElem?_append_left hlt2, <- Array.getElem?_toList]; exact hv)
     refine ⟨_, _, S, _, hrun, by rw [<- hmg]; exact hmg ▸ hI', hE', ?_⟩
     refine .msl _ _ _ _ _ _ _ _ hge ⟨w.heap.size, 0, g + 1, (cs.drop off ++ es.flatMap V.cells).length, (oarr ++ arr ++ Builtin.zeroCells zv.cells (cap' - (len + es.length))).size⟩ (by simp only [MM.set, if_true]) (Nat.le_refl _) fun _ => ⟨rfl, .inr rfl, ?_, ?_⟩
     . show (cs.drop off ++ es.flatMap V.cells).length <= 0 + cap' * shSize j.sh
       rw [hdl, hsh]
       have := Nat.mul_le_mul_right j.size hge
       omega
     . show 0 + 0 + cap' * shSize j.sh <= (oarr ++ arr ++ Builtin.zeroCells zv.cells (cap' - (len + es.length))).size
       rw [htot, hsh]; omega
   . 
     have ho2 : o = m.s + off := by
      rcases a2 with a2 | a2
      . omega
      . exact a2
     subst ho2
     have hmc := Nat.mul_le_mul_right j.size hge
     have hcapmul : cap * j.size = cap * j.size := rfl
     have hoffle : off + len * j.size = cs.length := hf1
     obtain ⟨w', hrun, hI, hE⟩ := store_put (P := P) (n0 := n0) I ho hm hmg hext hheap hsz (p := off + len * j.size) (nv := arr.toList) (by rw [hal]; omega) honec (g' := g + 1) (s' := m.s + off) (cs' := cs.drop off ++ es.flatMap V.cells) (.inr (by omega)) (by rw [hdl]; omega)
      (fun q x hq => by
       have hql : q < (len + es.length) * j.size := by rw [<- hdl]; exact (gS.1 hq).1
       rw [setRange_get _ _ _ _ (by have := hsz; simp only [hal, Array.length_toList]; omega)]
       rcases hrepAll q x hq with ⟨hlt, v, hv, hr⟩ | ⟨hge2, v, hv, hr⟩
       . exact ⟨v, by rw [if_pos (by omega)]; simpa using hv, hr⟩
       . refine ⟨v, ?_, hr⟩
         rw [if_neg (by omega), if_pos (by rw [hal]; omega), <- hv]
         congr 1; omega)
     refine ⟨_, w', S, _, append_place_run ht hxt hu x2 hnx j1 hlen (hfc w rfl) hge ?_, hI, hE, ?_⟩
     . rw [addr_add, <- j3, Nat.add_assoc]; exact hrun
     . refine .msl _ _ _ _ _ _ _ _ hge ⟨m.b, m.s + off, g + 1, (cs.drop off ++ es.flatMap V.cells).length, m.tot⟩ (by simp only [MM.set, if_true]) (Nat.le_refl _) fun _ => ⟨rfl, .inr rfl, ?_, ?_⟩
       . show (cs.drop off ++ es.flatMap V.cells).length <= 0 + cap * shSize j.sh
         rw [hdl, hsh]; omega
       . show m.s + off + 0 + cap * shSize j.sh <= m.tot
         rw [hsh]; omega
end
end Go.Apex
