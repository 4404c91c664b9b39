import Derived.Test.YtcljaeknhmpecaaGreatApexA12
import Derived.Laws.Append
set_option linter.all false
namespace Go.Apex
open Go Go.RowKit
variable [Globs]
section
variable {cfg : Cfg} {P : Program} {B0 : Nat -> Prop} {n0 : Nat -> Prop} {w : World} {S : Nat -> Prop} {M : MM} {h : Heap} {ts : Ts} {a : Array Value} {rd : Rd} {slot : Nat}
theorem getElem?_flatMap_uniform {α β : Type} (f : α -> List β) (sz : Nat) (h0 : 0 < sz) : ∀ (l : List α), (∀ x ∈ l, (f x).length = sz) -> ∀ q, (l.flatMap f)[q]? = (l[q / sz]?).bind fun x => (f x)[q % sz]?
 | [], _, q => by simp
 | x :: l, hl, q => by
  rw [List.flatMap_cons]
  have hx := hl x (by simp)
  rcases Nat.lt_or_ge q sz with hq | hq
  . rw [List.getElem?_append_left (by omega), Nat.div_eq_of_lt hq, Nat.mod_eq_of_lt hq]
    rfl
  . rw [List.getElem?_append_right (by omega), getElem?_flatMap_uniform f sz h0 l (fun y hy => hl y (by simp [hy])), hx]
    have e1 : q / sz = (q - sz) / sz + 1 := by rw [Nat.div_eq_sub_div h0 hq]
    have e2 : q % sz = (q - sz) % sz := Nat.mod_eq_sub_mod hq
    rw [e1, e2]
    rfl
theorem length_flatMap_uniform {α β : Type} (f : α -> List β) (sz : Nat) : ∀ (l : List α), (∀ x ∈ l, (f x).length = sz) -> (l.flatMap f).length = l.length * sz
 | [], _ => by simp
 | x :: l, hl => by
  rw [List.flatMap_cons, List.length_append, hl x (by simp), length_flatMap_uniform f sz l fun y hy => hl y (by simp [hy]), List.length_cons, Nat.add_mul]
  omega
theorem fits_length {x : V} {sh : Option Nat} (h : x.fits sh = true) : x.cells.length = shSize sh := by
 cases sh with
 | none =>
  simp only [V.fits] at h
  cases x with
  | t y => cases y <;> first | rfl | (simp [V.one, T.one] at h)
  | agg cs => simp [V.one] at h
  | tup cs => simp [V.one] at h
  | _ => rfl
 | some n =>
  simp only [V.fits, Bool.and_eq_true, beq_iff_eq] at h
  exact h.1.2
theorem fits_one {x : V} {sh : Option Nat} (h : x.fits sh = true) : ∀ c ∈ x.cells, c.one = true := by
 cases sh with
 | none =>
  simp only [V.fits] at h
  have e : x.cells = [x] := by
   cases x with
   | t y => cases y <;> first | rfl | (simp [V.one, T.one] at h)
   | agg cs => simp [V.one] at h
   | tup cs => simp [V.one] at h
   | _ => rfl
  rw [e]
  intro c hc
  simp at hc
  rw [hc]; exact h
 | some n =>
  simp only [V.fits, Bool.and_eq_true, List.all_eq_true] at h
  exact h.2
theorem elemsFrom_flat {sh : Option Nat} {cs : List V} : ∀ {n off : Nat} {es : List V}, elemsFrom sh cs off n = some es -> (∀ x ∈ es, x.fits sh = true) -> es.flatMap V.cells = (cs.drop off).take (n * shSize sh) /\ (0 < n -> off + n * shSize sh <= cs.length)
 | 0, off, es, he, _ => by cases he; simp
 | n + 1, off, es, he, hf => by
  simp only [elemsFrom, oB, oI] at he
  obtain ⟨v, hv, r, hr, rfl⟩ := he
  obtain ⟨ih, ih2⟩ := elemsFrom_flat hr fun x hx => hf x (by simp [hx])
  have hvl := fits_length (hf v (by simp))
  have hcell : v.cells = (cs.drop off).take (shSize sh) /\ off + shSize sh <= cs.length := by
   rcases shPart_spec hv with ⟨k, rfl, hk, rfl⟩ | ⟨rfl, hk⟩
   . exact ⟨mkAgg_cells _, hk⟩
   . have hlt := (gS.1 hk).1
     refine ⟨?_, hlt⟩
     have e : v.cells = [v] := by
      have := hf v (by simp)
      simp only [V.fits] at this
      cases v with
      | t y => cases y <;> first | rfl | (simp [V.one, T.one] at this)
      | agg cs => simp [V.one] at this
      | tup cs => simp [V.one] at this
      | _ => rfl
     rw [e]
     show [v] = (cs.drop off).take 1
     rw [List.take_one, List.head?_drop, hk]
     rfl
  refine ⟨?_, fun _ => ?_⟩
  . rw [List.flatMap_cons, ih, hcell.1, Nat.add_mul, Nat.one_mul, Nat.add_comm (n * shSize sh), List.take_add, List.drop_drop]
  . rcases Nat.eq_zero_or_pos n with rfl | h0
    . have := hcell.2; omega
    . have := ih2 h0; rw [Nat.add_mul]; omega
theorem elems_run (I : Inv B0 w S M h) (hrd : ∀ id o, rd id = some o -> h.obj id = some o) {sh : Option Nat} (h0 : 0 < shSize sh) {x : V} {xv : Value} {es : List V} (rx : RepV w S M x xv) (he : elems sh rd x = some es) :
  (∀ u ∈ es, u.fits sh = true) /\ (∀ w', (Builtin.lenOf xv).run P w' = .ok es.length w') /\ ∃ arr : Array Value, (∀ w', w'.heap = w.heap -> (Builtin.firstCells (shSize sh) es.length xv).run P w' = .ok arr w') /\ RepVL w S M (es.flatMap V.cells) arr.toList := by
 unfold elems at he
 split at he
 . cases he
   have := repT_nils (repV_t rx)
   subst this
   exact ⟨fun u hu => by simp at hu, fun w' => rfl, #[], fun w' _ => rfl, .nil⟩
 . rename_i ex sz xs
   split at he
   case isFalse => cases he
   rename_i hc
   obtain ⟨rfl, hall⟩ := hc
   cases he
   simp only [List.all_eq_true] at hall
   have hfit : ∀ u ∈ xs.map V.t, u.fits sh = true := fun u hu => by
    simp only [List.mem_map] at hu
    obtain ⟨y, hy, rfl⟩ := hu
    exact T.fits_t (hall y hy)
   have hx := repV_t rx
   obtain ⟨b, o, cap, sp, hv, _, _, hsp⟩ := repT_sl hx
   subst hv
   refine ⟨hfit, fun w' => by simp [Builtin.lenOf], ?_⟩
   rcases hsp with rfl | rfl
   case inr =>
    refine ⟨#[], fun w' _ => ?_, .nil⟩
    have := run_loadCells_list (P := P) w' ⟨b, o, sp⟩ ([] : List Value) (fun j v hj => by simp at hj)
    simpa [Builtin.firstCells] using this
   cases hx with
   | sl _ _ _ _ _ _ g hle hex hz hcc hrr _ _ =>
    let L : List Value := (List.range (xs.length * shSize sh)).map fun q => g (q / shSize sh) (q % shSize sh)
    have hLl : L.length = xs.length * shSize sh := by simp [L]
    have hLg : ∀ (q : Nat) (v : Value), L[q]? = some v -> q < xs.length * shSize sh /\ v = g (q / shSize sh) (q % shSize sh) := by
     intro q v hq
     have hlt : q < xs.length * shSize sh := by rw [<- hLl]; exact (gS.1 hq).1
     refine ⟨hlt, ?_⟩
     simp only [L, List.getElem?_map, List.getElem?_range hlt, Option.map_some, oI] at hq
     exact hq.symm
    have hcell : ∀ (q : Nat) (v : Value), L[q]? = some v -> w.cell? ⟨b, o + q, none⟩ = some v := by
     intro q v hq
     obtain ⟨hlt, rfl⟩ := hLg q v hq
     have hi : q / shSize sh < xs.length := Nat.div_lt_of_lt_mul (by rw [Nat.mul_comm]; exact hlt)
     have hxl := hz (q / shSize sh) xs[q / shSize sh] (by simp [hi])
     have hj : q % shSize sh < (xs[q / shSize sh]).cells.length := by rw [hxl]; exact Nat.mod_lt _ h0
     have := (hcc (q / shSize sh) _ (q % shSize sh) _ (by simp [hi]) (gE hj)).2
     rw [<- this]
     congr 2
     have := Nat.div_add_mod q (shSize sh)
     rw [Nat.mul_comm] at this
     omega
    refine ⟨L.toArray, fun w' hw => ?_, ?_⟩
    . have := run_loadCells_list (P := P) w' ⟨b, o, none⟩ L (fun j v hj => by
       rw [addr_add]
       have := hcell j v hj
       simp only [World.cell?] at this ⊢
       rw [hw]; exact this)
      rw [hLl] at this
      simpa [Builtin.firstCells] using this
    . refine ⟨?_, fun q x v h1 h2 => ?_⟩
      . rw [length_flatMap_uniform V.cells (shSize sh) _ fun u hu => fits_length (hfit u hu)]
        simp [hLl]
      . obtain ⟨hlt, rfl⟩ := hLg q v (by simpa using h2)
        rw [getElem?_flatMap_uniform V.cells (shSize sh) h0 _ (fun u hu => fits_length (hfit u hu))] at h1
        simp only [List.getElem?_map, oB, oM] at h1
        obtain ⟨u, ⟨y, hy, rfl⟩, hc⟩ := h1
        rw [cells_t, List.getElem?_map, oM] at hc
        obtain ⟨c, hc, rfl⟩ := hc
        exact .t _ _ (hrr _ _ _ _ hy hc)
 . rename_i s
   split at he
   case isFalse => cases he
   rename_i hsh
   subst hsh
   cases he
   obtain ⟨p, rfl, hps⟩ := repT_str (repV_t rx)
   have hlen : (s.map fun b => V.t (.int .u8 b.toNat)).length = p.size := by rw [List.length_map, size_data, hps]
   refine ⟨fun u hu => by simp only [List.mem_map] at hu; obtain ⟨b, _, rfl⟩ := hu; rfl, fun w' => by rw [hlen]; rfl, (p.data.map fun b => Value.int .u8 b.toNat), fun w' _ => ?_, ?_⟩
   . rw [hlen]
     have : (p.extract 0 p.size).data = p.data := by
      apply Array.toList_inj.1
      rw [Lib.extract_data, List.drop_zero, Nat.sub_zero, Go.Apex.size_data, List.take_length]
     simp only [Builtin.firstCells, this, Sem.run_pure]
   . have : (s.map fun b => V.t (.int .u8 b.toNat)).flatMap V.cells = s.map fun b => V.t (.int .u8 b.toNat) := by
      clear hps hlen rx
      induction s with
      | nil => rfl
      | cons b s ih => simp only [List.map_cons, List.flatMap_cons, ih]; rfl
     rw [this]
     refine ⟨by simp [<- hps], fun i x v h1 h2 => ?_⟩
     simp only [List.getElem?_map, oM] at h1
     obtain ⟨b, hb, rfl⟩ := h1
     rw [<- hps] at hb
     simp only [Array.toList_map, List.getElem?_map, hb, Option.map_some, oI] at h2
     subst h2
     exact .t _ _ (.int _ _)
 . rename_i id gen off len sh'
   split at he
   case h_2 => cases he
   rename_i g e fz cs ho
   split at he
   case isFalse => cases he
   rename_i hc
   obtain ⟨rfl, rfl⟩ := hc
   simp only [oB] at he
   obtain ⟨es', hes, hif⟩ := he
   split at hif
   case isFalse => cases hif
   rename_i hall
   simp only [oI] at hif
   have hif := hif.symm
   subst hif
   simp only [List.all_eq_true] at hall
   obtain ⟨hflat, hle⟩ := elemsFrom_flat hes hall
   obtain ⟨hel, _⟩ := elemsFrom_spec hes
   obtain ⟨b, o, cap, m, rfl, hlc, hm, hg, hat⟩ := repV_msl rx
   obtain ⟨m2, arr, fr, hm2, hmg, hext, hheap, _, hsz, hle2, hcell, hlist⟩ := obj_cells I (hrd _ _ ho)
   rw [hm] at hm2
   cases hm2
   obtain ⟨a1, a2, a3, a4⟩ := hat hmg
   subst a1
   refine ⟨hall, fun w' => by rw [hel]; rfl, ?_⟩
   have hrep : RepVL w S M ((cs.drop off).take (len * shSize sh')) ((((arr.toList.drop m.s).take cs.length).drop off).take (len * shSize sh')) := (hlist.drop off).take _
   rcases Nat.eq_zero_or_pos len with rfl | hpos
   . refine ⟨#[], fun w' hw => ?_, ?_⟩
     . rw [hel]
       simp [Builtin.firstCells, loadCells, loadCellsFrom]
     . rw [hflat]; simp; exact .nil
   . have ho2 : o = m.s + off := by
      rcases a2 with a2 | a2
      . omega
      . exact a2
     subst ho2
     have hle3 := hle hpos
     let L := (((arr.toList.drop m.s).take cs.length).drop off).take (len * shSize sh')
     have hLl : L.length = len * shSize sh' := by
      rw [<- hrep.1]; simp; omega
     refine ⟨L.toArray, fun w' hw => ?_, by rw [hflat]; simpa using hrep⟩
     have := run_loadCells_list (P := P) w' ⟨m.b, m.s + off, none⟩ L (fun j v hj => by
      have hjl : j < len * shSize sh' := by rw [<- hLl]; exact (gS.1 hj).1
      simp only [L] at hj
      rw [List.getElem?_take, if_pos hjl, List.getElem?_drop, List.getElem?_take, if_pos (by omega), List.getElem?_drop] at hj
      rw [addr_add]
      simp only [World.cell?, hw, hheap]
      simpa [Nat.add_assoc] using hj)
     rw [hLl] at this
     rw [hel]
     simpa [Builtin.firstCells] using this
 . cases he
end
end Go.Apex
