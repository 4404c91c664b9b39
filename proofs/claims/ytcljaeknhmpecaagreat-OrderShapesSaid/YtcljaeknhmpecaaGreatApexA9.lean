import Derived.Test.YtcljaeknhmpecaaGreatApexA8
set_option linter.all false
namespace Go.Apex
open Go Go.RowKit
variable [Globs]
section
variable {cfg : Cfg} {P : Program} {B0 : Nat -> Prop} {n0 : Nat -> Prop} {w : World} {S : Nat -> Prop} {M : MM} {h : Heap} {ts : Ts} {a : Array Value} {rd : Rd} {slot : Nat}
theorem dOf_bool {u : TypeDesc} (h : dOf u = .bool) : u = .bool := by cases u <;> simp [dOf] at h; rfl
theorem dOf_int {u : TypeDesc} {k : IntKind} (h : dOf u = .int k) : u = .int k := by cases u <;> simp [dOf] at h; subst h; rfl
theorem dOf_str {u : TypeDesc} (h : dOf u = .str) : u = .string := by cases u <;> simp [dOf] at h; rfl
theorem dOf_ptr {u : TypeDesc} {e : TypeId} (h : dOf u = .ptr e) : u = .pointer e := by cases u <;> simp [dOf] at h; subst h; rfl
theorem dOf_slice {u : TypeDesc} {e : TypeId} (h : dOf u = .slice e) : u = .slice e := by cases u <;> simp [dOf] at h; subst h; rfl
theorem dOf_map {u : TypeDesc} {k e : TypeId} (h : dOf u = .map k e) : u = .map k e := by cases u <;> simp [dOf] at h; obtain ⟨rfl, rfl⟩ := h; rfl
theorem dOf_struct {u : TypeDesc} {fs : List (TypeId × Nat × Bool)} (h : dOf u = .struct fs) : ∃ F, u = .struct F /\ fs = F.toList.map (fun f => (f.type, f.offset, f.name == "_")) := by
 cases u <;> simp [dOf] at h
 exact ⟨_, rfl, h.symm⟩
theorem un_run (X : Ctx cfg P B0 n0 w S M h ts a rd slot) {op : UnOp} {x : Operand} {v : V} {ob : Option Obj} (hq : one ((ev ts x).bind fun a => unV op a) = some (v, ob)) :
  QDone P B0 n0 w S M h slot (Op.unary op (evalA a x)) v ob := by
 obtain ⟨hb, hob⟩ := one_some hq
 clear hq
 subst hob
 simp only [oB] at hb
 obtain ⟨xa, hx, hq⟩ := hb
 have rx := ev_rep X.t hx
 unfold unV at hq
 split at hq
 . simp only [oM, oB] at hq
   obtain ⟨z, ⟨rv, hs, hz⟩, rfl⟩ := hq
   rw [repT_int (repV_t rx)]
   exact done_same X (semPure_run hs w) (.t _ _ (ofCell_rep hz))
 . split at hq
   . cases hq
     rw [repT_bool (repV_t rx)]
     exact done_same X (by rfl) (.t _ _ (.bool _))
   . cases hq
 . cases hq
theorem cell_freeze (w : World) (x : Addr) (n b o : Nat) : (w.freeze x n).cell? ⟨b, o, none⟩ = w.cell? ⟨b, o, none⟩ := by
 unfold World.freeze
 split
 . rfl
 . by_cases e : x.block = b
   . subst e
     cases hb : w.heap[x.block]? with
     | none => simp [World.cell?, Array.getElem?_modify, hb]
     | some ob => cases ob <;> simp [World.cell?, Array.getElem?_modify, hb]
   . simp [World.cell?, Array.getElem?_modify, e]
theorem freeze_other (w : World) (x : Addr) (n b : Nat) (hb : b ≠ x.block) : (w.freeze x n).heap[b]? = w.heap[b]? := by
 unfold World.freeze
 split
 . rfl
 . have : x.block ≠ b := fun e => hb e.symm
   simp [Array.getElem?_modify, this]
theorem convert_run (X : Ctx cfg P B0 n0 w S M h ts a rd slot) {src dst : TypeId} {x : Operand} {v : V} {ob : Option Obj} (hq : qConvert cfg ts src dst x = some (v, ob)) :
  QDone P B0 n0 w S M h slot (convert src dst (evalA a x)) v ob := by
 simp only [qConvert, oB] at hq
 obtain ⟨i, hi, j, hj, xa, hx, hq⟩ := hq
 obtain ⟨hb, hob⟩ := one_some hq
 clear hq
 subst hob
 have hq := hb
 clear hb
 have rx := ev_rep X.t hx
 obtain ⟨info, u, _, h2, _, _, _, _, h7, _⟩ := ti_spec X hi
 obtain ⟨info', u', _, k2, _, _, _, _, k7, _⟩ := ti_spec X hj
 unfold convV at hq
 rw [h7, k7] at hq
 split at hq
 . rename_i hd hd'
   have := dOf_int hd; subst this
   have := dOf_int hd'; subst this
   cases hq
   rw [repT_int (repV_t rx)]
   exact done_same X (by simp [convert, run_underlying h2, run_underlying k2, Conv.intToInt]) (.t _ _ (.int _ _))
 . rename_i hd hd'
   have := dOf_str hd; subst this
   have := dOf_str hd'; subst this
   cases hq
   obtain ⟨p, hp, _⟩ := repT_str (repV_t rx)
   refine done_same X (cv := .string p) (by rw [hp]; simp [convert, run_underlying h2, run_underlying k2]) (by rw [<- hp]; exact rx)
 . rename_i e s hd hd'
   have := dOf_str hd; subst this
   have := dOf_slice hd'; subst this
   simp only [oB] at hq
   obtain ⟨ei, he, hq⟩ := hq
   obtain ⟨einfo, eu, _, e2, _, _, _, _, e7, _⟩ := ti_spec X he
   rw [e7] at hq
   split at hq
   . rename_i hde
     have := dOf_int hde; subst this
     cases hq
     obtain ⟨p, hp, hps⟩ := repT_str (repV_t rx)
     rw [hp]
     let cap := Question.cut (.appendCap p.size 0 e) (w.tape w.drawn (.appendCap p.size 0 e))
     have hcap : p.size <= cap := by simp only [cap, Question.cut]; omega
     let row : Array Value := (p.data.map fun b => Value.int .u8 b.toNat) ++ Array.replicate (cap - p.size) (.int .u8 0)
     have hrow : row.size = cap := by simp only [row, Array.size_append, Array.size_map, Array.size_replicate]; show p.size + _ = _; omega
     let w1 : World := (({ w with drawn := w.drawn + 1 } : World).alloc (.cells row e))
     let w2 := w1.freeze { block := w.heap.size, off := cap } 1
     have hw1 : w1.heap[w.heap.size]? = some (.cells row e) := by show (w.heap.push _)[w.heap.size]? = _; simp
     have hrun : (convert src dst (.string p)).run P w = .ok (.slice (some ⟨w.heap.size, 0, none⟩) p.size cap) w2 := by
      have hsh : w1.shape? w.heap.size = some (e, row.size) := by simp [World.shape?, hw1]
      simp only [convert, Sem.run_bind, run_underlying h2, run_underlying k2, Result.andThen_ok, run_underlying e2, Conv.stringToBytes, run_choose, Question.forced, Bool.false_eq_true, if_false, newRow, run_newObj, Sem.run_pure]
      show ((markStringish ⟨w.heap.size, 0, none⟩).run P w1).andThen _ = _
      simp only [markStringish, Sem.run_bind, run_shape, hsh, Result.andThen_ok, run_freeze, Sem.run_pure, hrow]
      rfl
     have hother : ∀ b, b < w.heap.size -> w2.heap[b]? = w.heap[b]? := fun b hb => by
      show (w1.freeze _ 1).heap[b]? = _
      rw [freeze_other _ _ _ _ (by show b ≠ w.heap.size; omega)]
      exact Below.heap_alloc _ _ _ hb
     have hsize : w2.heap.size = w.heap.size + 1 := by
      show (w1.freeze _ 1).heap.size = _
      unfold World.freeze
      simp only [Nat.one_ne_zero, if_false, Array.size_modify]
      show (w.heap.push _).size = _
      simp
     have hos : w2.os = w.os /\ w2.tape = w.tape /\ w2.output = w.output := by
      show (w1.freeze _ 1).os = _ /\ (w1.freeze _ 1).tape = _ /\ (w1.freeze _ 1).output = _
      unfold World.freeze
      simp only [Nat.one_ne_zero, if_false]
      exact ⟨rfl, rfl, rfl⟩
     refine done_grow X hrun hos.1 hos.2.1 hos.2.2 (by omega) hother fun S' hk hn => .t _ _ ?_
     have hlen : (s.map fun b => T.int .u8 b.toNat).length = p.size := by rw [List.length_map, <- hps]; exact (size_data p).symm
     have := RepT.sl (w := w2) (S := S') false 1 (s.map fun b => T.int .u8 b.toNat) w.heap.size 0 cap (fun i _ => row.getD i undef) (by omega) (fun e => by cases e)
      (fun i x hx => by simp only [List.getElem?_map, oM] at hx; obtain ⟨b, _, rfl⟩ := hx; rfl)
      (fun i x k c hx hk => by
       have hi : i < p.size := by rw [<- hlen]; exact (gS.1 hx).1
       have hk0 : k = 0 := by
        simp only [List.getElem?_map, oM] at hx
        obtain ⟨b, _, rfl⟩ := hx
        cases k with
        | zero => rfl
        | succ k => simp [T.cells] at hk
       subst hk0
       refine ⟨hn _ (Nat.le_refl _) (by omega), ?_⟩
       show (w1.freeze _ 1).cell? _ = _
       rw [cell_freeze, cell_of hw1]
       have : i < row.size := by omega
       simp [this])
      (fun i x k c hx hk => by
       have hi : i < p.size := by rw [<- hlen]; exact (gS.1 hx).1
       simp only [List.getElem?_map, oM] at hx
       obtain ⟨b, hb, rfl⟩ := hx
       have hk0 : c = .int .u8 b.toNat := by
        cases k with
        | zero => simp [T.cells] at hk; exact hk.symm
        | succ k => simp [T.cells] at hk
       subst hk0
       rw [<- hps] at hb
       have hbi : p.data[i]? = some b := by simpa using hb
       have hi2 : i < p.data.size := hi
       have : row.getD i undef = .int .u8 b.toNat := by
        simp only [row, Array.getD_eq_getD_getElem?]
        rw [Array.getElem?_append_left (by simpa using hi2)]
        simp only [Array.getElem?_map, hbi, Option.map_some, Option.getD_some]
       rw [this]
       exact .int _ _) none (.inl rfl)
     rw [hlen] at this
     exact this
   . cases hq
 . cases hq
theorem makeInterface_run (X : Ctx cfg P B0 n0 w S M h ts a rd slot) {xt : TypeId} {x : Operand} {v : V} {ob : Option Obj} (hq : qMakeInterface cfg ts xt x = some (v, ob)) :
  QDone P B0 n0 w S M h slot (Instr.makeInterface xt (evalA a x)) v ob := by
 simp only [qMakeInterface, oB] at hq
 obtain ⟨i, hi, xa, hx, hq⟩ := hq
 obtain ⟨info, u, _, h2, _, _, _, _, h7, _⟩ := ti_spec X hi
 have hrun : (Instr.makeInterface xt (evalA a x)).run P w = .ok (.iface xt (evalA a x)) w /\ v = mkIface xt xa /\ ob = none := by
  rw [h7] at hq
  cases u <;> simp only [dOf] at hq <;> first
   | (cases hq; done)
   | (simp only [oI, Prod.mk.injEq] at hq
      exact ⟨by simp [Instr.makeInterface, run_underlying h2], hq.1.symm, hq.2.symm⟩)
 obtain ⟨h1, rfl, rfl⟩ := hrun
 exact done_same X h1 (mkIface_rep (ev_rep X.t hx))
theorem makeFunc_run (X : Ctx cfg P B0 n0 w S M h ts a rd slot) {fn : Fn} {first cap : Array Operand} {v : V} {ob : Option Obj} (hq : qMakeFunc ts fn first.toList cap.toList = some (v, ob)) :
  QDone P B0 n0 w S M h slot (Instr.makeFunc fn (first.map (evalA a)) (cap.map (evalA a))) v ob := by
 simp only [qMakeFunc, oB, oM, Prod.mk.injEq] at hq
 obtain ⟨fa, hf, ca, hc, rfl, rfl⟩ := hq
 have := mkFn_rep (f := fn) (evL_rep X.t hf) (evL_rep X.t hc)
 have e : ∀ l : Array Operand, (l.toList.map (evalA a)).toArray = l.map (evalA a) := fun l => by rw [<- Array.toList_map]
 rw [e, e] at this
 exact done_same X (cv := .func fn (first.map (evalA a)) (cap.map (evalA a))) rfl this
end
end Go.Apex
