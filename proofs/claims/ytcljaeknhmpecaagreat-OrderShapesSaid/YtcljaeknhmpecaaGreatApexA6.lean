import Derived.Test.YtcljaeknhmpecaaGreatApexA5
set_option linter.all false
namespace Go.Apex
open Go Go.RowKit
variable [Globs]
section
variable {cfg : Cfg} {P : Program} {B0 : Nat -> Prop} {n0 : Nat -> Prop} {w : World} {S : Nat -> Prop} {M : MM} {h : Heap} {ts : Ts} {a : Array Value} {rd : Rd} {slot : Nat}
theorem one_some {x : Option V} {v : V} {ob : Option Obj} (h : one x = some (v, ob)) : x = some v /\ ob = none := by
 cases x with
 | none => cases h
 | some y => simp [one] at h; exact ⟨by rw [h.1], h.2.symm⟩
theorem build_run (X : Ctx cfg P B0 n0 w S M h ts a rd slot) {t : TypeId} {parts : Array (Nat × Operand)} {v : V} {ob : Option Obj} (hq : qBuild cfg ts t parts.toList = some (v, ob)) :
  QDone P B0 n0 w S M h slot (Instr.build t (parts.map fun (i, x) => (i, evalA a x))) v ob := by
 simp only [qBuild, oB] at hq
 obtain ⟨i, hi, z, hz, hq⟩ := hq
 split at hq
 . rename_i fs hd
   split at hq
   . rename_i hf
     simp only [Bool.and_eq_true, List.all_eq_true] at hf
     simp only [oB, oM] at hq
     obtain ⟨ps, hps, cs, hfill, hq⟩ := hq
     cases hq
     obtain ⟨info, u, h1, h2, h3, h4, h5, h6, h7, _⟩ := ti_spec X hi
     obtain ⟨F, hF, rfl⟩ := fields_of X hi hd
     rw [h6] at hz
     obtain ⟨zv, hzv, hrep⟩ := zero_spec hz
     obtain ⟨e1, e2⟩ := evParts_rep X.t hps
     have hg : ∀ f ∈ F.toList, (do pure (f.offset, <- sizeOf f.type) : Sem (Nat × Nat)).run P w = .ok (f.offset, ((P.info? f.type).map (·.size)).getD 0) w := by
      intro f hf'
      obtain ⟨j, hj⟩ := Option.isSome_iff_exists.1 (hf.2 (f.type, f.offset, f.name == "_") (by simp only [List.mem_map]; exact ⟨f, hf', rfl⟩))
      obtain ⟨inf, _, k1, _⟩ := ti_spec X hj
      simp [run_sizeOf' k1, k1]
     obtain ⟨vals, hv1, hv2⟩ := fill_run (w := w) (S := S) (M := M) (place := fieldPlace cfg (F.toList.map fun f => (f.type, f.offset, f.name == "_")))
      (place' := fun i => (F.map fun f => (f.offset, ((P.info? f.type).map (·.size)).getD 0))[i]?) (fun k off sh hk => by
       simp only [fieldPlace, fieldOf, oB, oM, List.getElem?_map] at hk
       obtain ⟨⟨ft, fo⟩, ⟨q, ⟨f, hf1, rfl⟩, hq2⟩, j, hj, hk2⟩ := hk
       simp only [Prod.mk.injEq] at hq2 hk2
       obtain ⟨rfl, rfl⟩ := hq2
       obtain ⟨rfl, rfl⟩ := hk2
       obtain ⟨inf, _, k1, _, k3, _⟩ := ti_spec X hj
       simp only [Array.getElem?_map]
       rw [show F[k]? = some f by simpa using hf1]
       simp [k1, shSize_sh X.c hj, k3]) ps ((parts.toList.map fun p => (p.1, evalA a p.2))) _ zv.cells cs hfill (repV_zero (hrep w S)) (by rw [e1]) (fun k p q hp hq => e2 k p q hp hq)
     refine done_same X (cv := .agg vals) ?_ (by simpa using mkAgg_rep hv2)
     simp only [Instr.build, Sem.run_bind, run_zeroValue' h1 hzv, Result.andThen_ok, run_underlying hF, run_mapM_array w F hg]
     have : (parts.map fun (i, x) => (i, evalA a x)).toList = parts.toList.map fun p => (p.1, evalA a p.2) := by simp
     rw [this, hv1]
     rfl
   . cases hq
 . cases hq
theorem getElem?_flatten_replicate {α : Type} (l : List α) : ∀ (n i : Nat), ((List.replicate n l).flatten)[i]? = if i < n * l.length then l[i % l.length]? else none
 | 0, i => by simp
 | n + 1, i => by
  rw [List.replicate_succ, List.flatten_cons]
  rcases Nat.lt_or_ge i l.length with hi | hi
  . rw [List.getElem?_append_left hi, if_pos (by rw [Nat.add_mul]; omega), Nat.mod_eq_of_lt hi]
  . rw [List.getElem?_append_right hi, getElem?_flatten_replicate l n]
    have e : i % l.length = (i - l.length) % l.length := by rw [<- Nat.mod_eq_sub_mod hi]
    rw [e]
    by_cases hc : i - l.length < n * l.length
    . rw [if_pos hc, if_pos (by rw [Nat.add_mul]; omega)]
    . rw [if_neg hc, if_neg (by rw [Nat.add_mul]; omega)]
theorem length_flatten_replicate {α : Type} (l : List α) (n : Nat) : ((List.replicate n l).flatten).length = n * l.length := by simp
theorem zeros_rep {z : T} {zv : Value} (hr : RepT w S z zv) (n size : Nat) (hs : zv.cells.size = size) (h0 : 0 < size) :
  RepVL w S M (zeros n z) ((Array.range (n * size)).map (zv.cells[· % zv.cells.size]!)).toList := by
 have hz := repV_zero (M := M) hr
 have hlen : (z.cells.map V.t).length = size := by rw [hz.1]; simpa using hs
 refine ⟨by simp only [zeros, length_flatten_replicate, hlen]; simp, fun i x v h1 h2 => ?_⟩
 simp only [zeros, getElem?_flatten_replicate] at h1
 rw [hlen] at h1
 split at h1
 . rename_i hi
   simp only [Array.toList_map, Array.toList_range, List.getElem?_map] at h2
   rw [List.getElem?_range hi] at h2
   simp only [Option.map_some, oI] at h2
   subst h2
   rw [hs]
   have hm : i % size < zv.cells.size := by rw [hs]; exact Nat.mod_lt _ h0
   refine hz.2 (i % size) x _ h1 ?_
   rw [getElem!_pos zv.cells (i % size) hm]
   simp [hm]
 . cases h1
theorem slice_elem (X : Ctx cfg P B0 n0 w S M h ts a rd slot) {t : TypeId} {e : TypeId} {j : TI} (hs : sliceElem cfg t = some (e, j)) :
  P.underlying t = some (.slice e) /\ cfg.ti e = some j := by
 simp only [sliceElem, oB] at hs
 obtain ⟨u, hu, hs⟩ := hs
 obtain ⟨info, ud, h1, h2, h3, h4, h5, h6, h7, _⟩ := ti_spec X hu
 split at hs
 . rename_i e' hd
   simp only [oM, Prod.mk.injEq] at hs
   obtain ⟨j', hj, rfl, rfl⟩ := hs
   rw [h7] at hd
   cases ud <;> simp [dOf] at hd
   subst hd
   exact ⟨h2, hj⟩
 . cases hs
theorem elemsFrom_spec {sh : Option Nat} {cs : List V} : ∀ {n off : Nat} {es : List V}, elemsFrom sh cs off n = some es →
  es.length = n /\ (∀ i x, es[i]? = some x -> shPart sh cs (off + i * shSize sh) = some x)
 | 0, off, es, he => by cases he; exact ⟨rfl, fun i x hx => by simp at hx⟩
 | n + 1, off, es, he => by
  simp only [elemsFrom, oB, oI] at he
  obtain ⟨v, hv, r, hr, rfl⟩ := he
  obtain ⟨h1, h2⟩ := elemsFrom_spec hr
  refine ⟨by simp [h1], fun i x hx => ?_⟩
  cases i with
  | zero => simp at hx; subst hx; simpa using hv
  | succ i =>
   have := h2 i x (by simpa using hx)
   rw [<- this]
   congr 1
   rw [Nat.add_mul]; omega
theorem shPart_spec {sh : Option Nat} {cs : List V} {off : Nat} {x : V} (hp : shPart sh cs off = some x) :
  (∃ n, sh = some n /\ off + n <= cs.length /\ x = mkAgg ((cs.drop off).take n)) \/ (sh = none /\ cs[off]? = some x) := by
 unfold shPart at hp
 split at hp
 . rename_i n
   split at hp
   . rename_i hn; cases hp; exact .inl ⟨n, rfl, hn, rfl⟩
   . cases hp
 . exact .inr ⟨rfl, hp⟩
theorem mkAgg_cells (vs : List V) : (mkAgg vs).cells = vs := by
 unfold mkAgg
 split
 . rename_i xs hx
   rw [allT_spec hx]
   rfl
 . rfl
theorem mkAgg_t {vs : List V} {y : T} (hy : mkAgg vs = .t y) : ∃ xs, vs = xs.map .t /\ y = .agg xs := by
 unfold mkAgg at hy
 split at hy
 . rename_i xs hx
   cases hy
   exact ⟨xs, allT_spec hx, rfl⟩
 . cases hy
theorem buildSlice_run (X : Ctx cfg P B0 n0 w S M h ts a rd slot) {imm : Bool} {t : TypeId} {len : Nat} {parts : Array (Nat × Operand)} {v : V} {ob : Option Obj}
  (hq : qBuildSlice cfg imm slot ts t len parts.toList = some (v, ob)) : QDone P B0 n0 w S M h slot (Instr.buildSlice t len (parts.map fun (i, x) => (i, evalA a x))) v ob := by
 simp only [qBuildSlice, oB] at hq
 obtain ⟨⟨e, j⟩, hs, z, hz, hq⟩ := hq
 obtain ⟨hu, hj⟩ := slice_elem X hs
 simp only at hz hq
 split at hq
 . rename_i hf
   obtain ⟨hf1, hf2, hf3⟩ := hf
   simp only [oB] at hq
   obtain ⟨ps, hps, cs, hfill, hq⟩ := hq
   obtain ⟨info, u, h1, h2, h3, h4, h5, h6, h7, _⟩ := ti_spec X hj
   rw [h6] at hz
   obtain ⟨zv, hzv, hrep⟩ := zero_spec hz
   have hzr := hrep w S
   have hsh := shSize_sh X.c hj
   have hzs : zv.cells.size = j.size := by
    have := (fits_cells (RepV.t (M := M) z zv hzr) (T.fits_t hf1)).2.1
    rw [this, hsh]
   obtain ⟨e1, e2⟩ := evParts_rep X.t hps
   have hrow : ∃ zc : Array Value, (if len * info.size = 0 then pure #[] else do pure (<- zeroValue e).cells : Sem (Array Value)).run P w = .ok zc w ∧
     RepVL w S M (zeros len z) ((Array.range (len * info.size)).map (zc[· % zc.size]!)).toList := by
    by_cases hl0 : len * info.size = 0
    . refine ⟨#[], by simp [hl0], ?_⟩
      have : len = 0 := by
       rcases Nat.mul_eq_zero.1 hl0 with h | h
       . exact h
       . omega
      subst this
      simp [zeros]
      exact .nil
    . refine ⟨zv.cells, by simp only [if_neg hl0, Sem.run_bind, run_zeroValue' h1 hzv, Result.andThen_ok, Sem.run_pure], ?_⟩
      rw [<- h3]
      exact zeros_rep hzr len j.size hzs hf2
   obtain ⟨zc, hzc, hz0⟩ := hrow
   obtain ⟨vals, hv1, hv2⟩ := fill_run (w := w) (S := S) (M := M) (place := elemPlace j len) (place' := fun i => some (i * info.size, info.size)) (fun k off sh hk => by
     simp only [elemPlace] at hk
     split at hk
     . cases hk; rw [hsh, h3]
     . cases hk) ps (parts.toList.map fun p => (p.1, evalA a p.2)) (zeros len z) _ cs hfill hz0 (by rw [e1]) (fun k p q hp hq => e2 k p q hp hq)
   have hrun : (Instr.buildSlice t len (parts.map fun (i, x) => (i, evalA a x))).run P w = .ok (.slice (some ⟨w.heap.size, 0, none⟩) len len) (w.alloc (.cells vals e)) := by
    have hle : ¬ (len * info.size > 2 ^ 24) := by rw [<- h3]; omega
    have hpl : (parts.map fun (i, x) => (i, evalA a x)).toList = parts.toList.map fun p => (p.1, evalA a p.2) := by simp
    simp only [Instr.buildSlice, Sem.run_bind, run_underlying hu, Result.andThen_ok, run_sizeOf' h1, if_neg hle, hpl]
    by_cases hl0 : len * info.size = 0
    . simp only [if_pos hl0, Sem.run_pure, Result.ok.injEq, and_true] at hzc
      subst hzc
      simp only [if_pos hl0, Sem.run_bind, Sem.run_pure, Result.andThen_ok, hv1, newRow, run_newObj]
      rfl
    . simp only [if_neg hl0, Sem.run_bind, run_zeroValue' h1 hzv, Result.andThen_ok, Sem.run_pure, Result.ok.injEq, and_true] at hzc
      subst hzc
      simp only [if_neg hl0, Sem.run_bind, run_zeroValue' h1 hzv, Sem.run_pure, Result.andThen_ok, hv1, newRow, run_newObj]
      rfl
   have hcl : cs.length = len * j.size := by
    have k1 := hv2.1
    have k2 : cs.length = (zeros len z).length := by
     clear hv2 k1 hv1
     have : ∀ (parts : List (Nat × V)) (c0 r : List V), fill (elemPlace j len) c0 parts = some r -> r.length = c0.length := by
      intro parts
      induction parts with
      | nil => intro c0 r hr; cases hr; rfl
      | cons p rest ih =>
       intro c0 r hr
       obtain ⟨i, x⟩ := p
       simp only [fill, oB] at hr
       obtain ⟨⟨off, sh⟩, _, hr⟩ := hr
       simp only at hr
       split at hr
       . rename_i hc
         simp only [Bool.and_eq_true, decide_eq_true_eq] at hc
         rw [ih _ _ hr, setRange_length _ _ _ hc.2]
       . cases hr
     exact this ps _ _ hfill
    rw [k2, hz0.1]
    simp [h3]
   split at hq
   . rename_i xs hxs
     cases hq
     split at hxs
     . simp only [immRow, oB] at hxs
       obtain ⟨es, hes, xs', hxs, hif⟩ := hxs
       have hall := allT_spec hxs
       subst hall
       split at hif
       case isFalse => cases hif
       rename_i hfit
       simp only [oI] at hif
       have hif := hif.symm
       subst hif
       simp only [List.all_eq_true] at hfit
       obtain ⟨hel, heg⟩ := elemsFrom_spec hes
       have hxl : xs.length = len := by simpa using hel
       refine done_grow X hrun rfl rfl rfl (by show _ <= (w.heap.push _).size; simp) (fun b hb => Below.heap_alloc _ _ _ hb) fun S' hk hn => ?_
       have hblk : (w.alloc (.cells vals e)).heap[w.heap.size]? = some (.cells vals e) := by show (w.heap.push _)[w.heap.size]? = _; simp
       have hS' : S' w.heap.size := hn _ (Nat.le_refl _) (by show _ < (w.heap.push _).size; simp)
       have key : ∀ (i : Nat) (x : T), xs[i]? = some x -> x.cells.length = j.size /\ ∀ (k : Nat) (c : T), x.cells[k]? = some c -> ∃ u, vals[i * j.size + k]? = some u /\ RepT w S c u := by
        intro i x hx
        have hp := heg i (.t x) (by simp [hx])
        rw [hsh, Nat.zero_add] at hp
        rcases shPart_spec hp with ⟨n, hn1, hn2, hn3⟩ | ⟨hn1, hn2⟩
        . obtain ⟨ys, hy1, hy2⟩ := mkAgg_t hn3.symm
          have hn : n = j.size := by rw [<- hsh, hn1]; rfl
          subst hn
          subst hy2
          have hyl : ys.length = j.size := by have := congrArg List.length hy1; simp at this; omega
          refine ⟨hyl, fun k c hk => ?_⟩
          have hkl : k < j.size := by rw [<- hyl]; exact (gS.1 hk).1
          have : cs[i * j.size + k]? = some (.t c) := by
           have h9 : ((cs.drop (i * j.size)).take j.size)[k]? = some (.t c) := by rw [hy1]; simp [show ys[k]? = some c from hk]
           rw [List.getElem?_take, if_pos hkl, List.getElem?_drop] at h9
           exact h9
          obtain ⟨u, hu1, hu2⟩ := hv2.get this
          exact ⟨u, by simpa using hu1, repV_t hu2⟩
        . have hn : j.size = 1 := by rw [<- hsh, hn1]; rfl
          obtain ⟨u, hu1, hu2⟩ := hv2.get hn2
          have hone : x.cells = [x] := by
           have := hfit x (List.mem_of_getElem? hx)
           rw [hn1] at this
           cases x <;> first | rfl | (simp [T.fits, T.one] at this)
          rw [hone]
          refine ⟨hn.symm, fun k c hk => ?_⟩
          cases k with
          | zero => simp at hk; subst hk; exact ⟨u, by simpa using hu1, repV_t hu2⟩
          | succ k => simp at hk
       refine .t _ _ ?_
       have := RepT.sl (w := w.alloc (.cells vals e)) (S := S') true j.size xs w.heap.size 0 len (fun i k => vals.getD (i * j.size + k) undef) (by omega) (fun _ => hxl.symm) (fun i x hx => (key i x hx).1)
        (fun i x k c hx hk => by
         obtain ⟨u, hu1, _⟩ := (key i x hx).2 k c hk
         refine ⟨hS', ?_⟩
         rw [cell_of hblk, Nat.zero_add, hu1]
         simp [Array.getD_eq_getD_getElem?, hu1])
        (fun i x k c hx hk' => by
         obtain ⟨u, hu1, hu2⟩ := (key i x hx).2 k c hk'
         have : vals.getD (i * j.size + k) undef = u := by simp [Array.getD_eq_getD_getElem?, hu1]
         rw [this]
         exact hu2.mono hk) none (.inl rfl)
       rw [hxl] at this
       exact this
     . cases hxs
   . cases hq
     refine done_cells X hv2 hrun fun M' hM => .msl _ _ _ _ _ _ _ _ (Nat.le_refl _) _ hM (Nat.le_refl _) fun _ => ⟨rfl, .inr rfl, ?_, ?_⟩
     . show cs.length <= _
       rw [hsh, hcl]; omega
     . show 0 + 0 + _ <= cs.length
       rw [hsh, hcl]; omega
 . cases hq
end
end Go.Apex
