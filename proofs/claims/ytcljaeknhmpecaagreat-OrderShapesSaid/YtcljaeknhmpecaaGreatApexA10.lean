import Derived.Test.YtcljaeknhmpecaaGreatApexA9
import Derived.IntWalk
set_option linter.all false
namespace Go.Apex
open Go Go.RowKit
variable [Globs]
section
variable {cfg : Cfg} {P : Program} {B0 : Nat -> Prop} {n0 : Nat -> Prop} {w : World} {S : Nat -> Prop} {M : MM} {h : Heap} {ts : Ts} {a : Array Value} {rd : Rd} {slot : Nat}
theorem makeMap_run (X : Ctx cfg P B0 n0 w S M h ts a rd slot) {t : TypeId} {r : Option Operand} {v : V} {ob : Option Obj} (hq : qMakeMap cfg slot ts t r = some (v, ob)) :
  QDone P B0 n0 w S M h slot (Instr.makeMap t (r.map (evalA a))) v ob := by
 simp only [qMakeMap, oB] at hq
 obtain ⟨i, hi, hq⟩ := hq
 obtain ⟨info, u, _, h2, _, _, _, _, h7, _⟩ := ti_spec X hi
 split at hq
 case h_2 => cases hq
 rename_i k e hd
 rw [h7] at hd
 have := dOf_map hd; subst this
 have main : v = .mmp slot /\ ob = some (.map [] []) /\ (Instr.makeMap t (r.map (evalA a))).run P w = .ok (.map (some w.heap.size)) (w.alloc (.map #[] 0)) := by
  split at hq
  . cases hq
    refine ⟨rfl, rfl, ?_⟩
    simp only [Option.map_none, Instr.makeMap, Sem.run_bind, Sem.run_pure, Result.andThen_ok, run_newObj]
    rfl
  . simp only [oM, oB, Prod.mk.injEq] at hq
    obtain ⟨n, ⟨y, hy, hn⟩, rfl, rfl⟩ := hq
    refine ⟨rfl, rfl, ?_⟩
    obtain ⟨kk, hk, _⟩ := asI_rep hn (ev_rep X.t hy)
    simp only [Option.map_some, hk, Instr.makeMap, Sem.run_bind, run_underlying h2, asInt, asIntOf, Sem.run_pure, Result.andThen_ok, run_newObj]
    rfl
 obtain ⟨rfl, rfl, hrun⟩ := main
 have hold : ∀ b, b < w.heap.size -> (w.alloc (.map #[] 0)).heap[b]? = w.heap[b]? := fun b hb => Below.heap_alloc _ _ _ hb
 have hsize : (w.alloc (.map #[] 0)).heap.size = w.heap.size + 1 := by show (w.heap.push _).size = _; simp
 obtain ⟨h1, h2⟩ := X.I.put (n0 := n0) (w' := w.alloc (.map #[] 0)) slot (.map [] []) ⟨w.heap.size, 0, 0, 0, 0⟩ (fun m hm => by rw [X.sl] at hm; cases hm) (fun _ => ⟨X.s1, X.s2⟩)
  rfl rfl rfl (by omega) (fun b hb _ => hold b hb) (.inl (Nat.le_refl _)) (by show w.heap.size < _; omega)
  ⟨rfl, #[], 0, ⟨by simp, by simp⟩, by show (w.heap.push _)[w.heap.size]? = _; simp, rfl, rfl, fun i k e hk => by simp at hk, fun i k e hk => by simp at hk⟩
 exact ⟨_, _, S, _, hrun, h1, h2, .mmp _ _ ⟨w.heap.size, 0, 0, 0, 0⟩ (by simp [MM.set]) fun _ => rfl⟩
theorem wrap_in {n : Int} (h0 : 0 <= n) (h1 : n <= 9223372036854775807) : IntKind.i64.wrap n = n := IntWalk.i64_in _ (by omega)
theorem makeSlice_run (X : Ctx cfg P B0 n0 w S M h ts a rd slot) {t : TypeId} {l c : Operand} {v : V} {ob : Option Obj} (hq : qMakeSlice cfg slot ts t l c = some (v, ob)) :
  QDone P B0 n0 w S M h slot (Instr.makeSlice t (evalA a l) (evalA a c)) v ob := by
 simp only [qMakeSlice, oB] at hq
 obtain ⟨⟨e, j⟩, hs, z, hz, ln, ⟨lv, hlv, hln⟩, cn, ⟨cv, hcv, hcn⟩, hq⟩ := hq
 obtain ⟨hu, hj⟩ := slice_elem X hs
 simp only at hz hq
 split at hq
 case isFalse => cases hq
 rename_i hf
 obtain ⟨hf1, hf2, hf3, hf4, hf5, hf6⟩ := hf
 cases hq
 obtain ⟨info, u, h1, h2, h3, h4, h5, h6, h7, _⟩ := ti_spec X hj
 rw [h6] at hz
 obtain ⟨zv, hzv, hrep⟩ := zero_spec hz
 have hzr := hrep w S
 have hsh := shSize_sh X.c hj
 have hzs : zv.cells.size = j.size := by
  have := (fits_cells (RepV.t (M := M) z zv hzr) (T.fits_t hf1)).2.1
  rw [this, hsh]
 obtain ⟨k1, e1, _⟩ := asI_rep hln (ev_rep X.t hlv)
 obtain ⟨k2, e2, _⟩ := asI_rep hcn (ev_rep X.t hcv)
 obtain ⟨cN, rfl⟩ := Int.eq_ofNat_of_zero_le (show 0 <= cn by omega)
 obtain ⟨lN, rfl⟩ := Int.eq_ofNat_of_zero_le hf3
 simp only [Int.toNat_natCast] at *
 have hrow : ∃ vals : Array Value, (do
    let zero <- if cN * info.size = 0 then pure #[] else do pure (<- zeroValue e).cells
    let x <- Go.newRow e ((Array.range (cN * info.size)).map (zero[· % zero.size]!))
    pure (Value.slice (some x) lN cN) : Sem Value).run P w = .ok (.slice (some ⟨w.heap.size, 0, none⟩) lN cN) (w.alloc (.cells vals e)) /\ RepVL w S M (zeros cN z) vals.toList := by
  by_cases hl0 : cN * info.size = 0
  . have : cN = 0 := by
     rcases Nat.mul_eq_zero.1 hl0 with h | h
     . exact h
     . omega
    subst this
    refine ⟨(Array.range (0 * info.size)).map ((#[] : Array Value)[· % (#[] : Array Value).size]!), ?_, by simp [zeros]; exact .nil⟩
    simp only [if_pos hl0, Sem.run_bind, Sem.run_pure, Result.andThen_ok, Go.newRow, run_newObj]
    rfl
  . refine ⟨(Array.range (cN * info.size)).map (zv.cells[· % zv.cells.size]!), ?_, by rw [<- h3]; exact zeros_rep hzr cN j.size hzs hf2⟩
    simp only [if_neg hl0, Sem.run_bind, run_zeroValue' h1 hzv, Result.andThen_ok, Sem.run_pure, Go.newRow, run_newObj]
    rfl
 obtain ⟨vals, hrun, hvr⟩ := hrow
 have hcl : (zeros cN z).length = cN * j.size := by
  have : (z.cells.map V.t).length = j.size := by rw [(repV_zero (M := M) hzr).1]; simpa using hzs
  simp only [zeros, length_flatten_replicate, this]
 refine done_cells X hvr (cv := .slice (some ⟨w.heap.size, 0, none⟩) lN cN) ?_ fun M' hM => .msl _ _ _ _ _ _ _ _ (by omega) _ hM (Nat.le_refl _) fun _ => ⟨rfl, .inr rfl, ?_, ?_⟩
 . have w1 : IntKind.i64.wrap (cN : Int) = cN := wrap_in (by omega) hf5
   have w2 : IntKind.i64.wrap (lN : Int) = lN := wrap_in (by omega) (by omega)
   have hb : ¬ ((info.bytes : Int) * (cN : Int) > 2 ^ 48) := by
    rw [h4] at hf6
    have : ((cN : Int) * (info.bytes : Int)) <= 140737488355328 := hf6
    rw [Int.mul_comm]
    omega
   have hneg : ¬ ((cN : Int) < 0) := by omega
   have hneg2 : ¬ ((lN : Int) < 0) := by omega
   have hgt : ¬ ((lN : Int) > (cN : Int)) := by omega
   simp only [Instr.makeSlice, Sem.run_bind, run_underlying hu, Result.andThen_ok, e1, e2, asInt, asIntOf, Sem.run_pure, run_typeInfo' h1, w1, w2, hb, hneg, hneg2, hgt, decide_false, Bool.or_false, Bool.false_eq_true, if_false, run_askRoom,
    run_sizeOf' h1, Int.toNat_natCast]
   simp only [Sem.run_bind] at hrun
   exact hrun
 . rw [hsh, hcl]; show cN * j.size <= 0 + cN * j.size; omega
 . rw [hsh, hcl]; show 0 + 0 + cN * j.size <= cN * j.size; omega
end
end Go.Apex
