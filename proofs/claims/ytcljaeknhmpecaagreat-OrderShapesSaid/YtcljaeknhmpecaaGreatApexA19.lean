import Derived.Test.YtcljaeknhmpecaaGreatApexA18
set_option linter.all false
namespace Go.Apex
open Go Go.RowKit
variable [Globs]
section
variable {cfg : Cfg} {P : Program} {B0 : Nat -> Prop} {n0 : Nat -> Prop} {w : World} {S : Nat -> Prop} {M : MM} {h : Heap} {ts : Ts} {a : Array Value} {slot : Nat}
theorem liesAt_bytes_at {e : TypeId} (hc : P.cellsOf e = 1) (count off n : Nat) (hn : off + n <= count) : liesAt P P.depth e count off e n = true := by
 have hd : P.depth = (2 * (P.types.size + Made.depth) + 1) + 1 := rfl
 rw [hd]
 simp only [liesAt, Bool.or_eq_true]
 left
 rw [hd]
 simp [rowAt, hc, hn, sameLayout, Nat.mod_one]
theorem byteV_some {v : V} {x : UInt8} (h : byteV v = some x) : v = .t (.int .u8 x.toNat) := by
 unfold byteV at h
 split at h
 . split at h
   . rename_i y hy
     cases h
     rw [<- hy]
   . cases h
 . cases h
theorem ustr_row (w : World) {tys : Array TypeId} {ty pt e : TypeId} (ht : tys[0]? = some pt) (hp : P.underlying pt = some (.pointer e)) (hc : P.cellsOf e = 1) (b o cells : Nat) (hsh : w.shape? b = some (e, cells)) (l : List UInt8) (z : Int) (hz : z = l.length) (h0 : 0 < z) (hn : o + l.length <= cells) (h63 : z <= 9223372036854775807)
  (hcell : ∀ j x, l[j]? = some x -> w.cell? ⟨b, o + j, none⟩ = some (.int .u8 x.toNat)) :
  (Builtin.unsafeString_ tys ty #[.pointer (some ⟨b, o, none⟩), .int .i64 z]).run P w = .ok (.string ⟨l.toArray⟩) (w.freeze ⟨b, o, none⟩ l.length) := by
 subst hz
 have hl : l.length ≠ 0 := by omega
 have hlb := Lib.run_loadBytes (P := P) w l ⟨b, o, none⟩ .empty (fun j x hj => by
  have := hcell j x hj
  have e1 : (⟨b, o, none⟩ : Addr).add j = ⟨b, o + j, none⟩ := by
   unfold Addr.add
   by_cases hj : j = 0
   . subst hj; simp
   . simp [hj]
  rw [e1]; exact this)
 have hlies := liesAt_bytes_at (P := P) hc (cells / P.cellsOf e) o l.length (by rw [hc]; simpa using hn)
 have h63' : ¬ (9223372036854775807 : Int) < (l.length : Int) := by omega
 have hdef : Builtin.unsafeString_ tys ty #[.pointer (some ⟨b, o, none⟩), .int .i64 l.length] =
   (do
    let n <- asInt (.int .i64 l.length)
    let some pt := tys[0]? | stuck "unsafe.String: no argument types"
    if n < 0 then runtimePanic (.error "unsafe.String: len out of range")
    if n > IntKind.i64.max then unsupported (.unsafePointer "String: a length above the largest int")
    if n = 0 then pure (.string .empty)
    else if <- variablesAt ⟨b, o, none⟩ (<- elemOf pt) n.toNat then do
     let s <- loadBytes ⟨b, o, none⟩ .empty n.toNat
     freeze ⟨b, o, none⟩ n.toNat
     pure (.string s)
    else unsupported (.unsafePointer "String: not so many bytes at ptr")) := rfl
 rw [hdef, ht]
 have hmax : IntKind.i64.max = 9223372036854775807 := rfl
 have hneg : ¬ (l.length : Int) < 0 := by omega
 simp [asInt, asIntOf, hmax, h63', hneg, hl, variablesAt, hsh, elemOf, run_underlying hp, hlies, hlb]
theorem ustr_run (X : Ctx cfg P B0 n0 w S M h ts a h.obj slot) {args : Array Operand} {tys : Array TypeId} {ty : TypeId} {v : V} {h' : Heap} (hq : lUString cfg ts h args.toList tys.toList = some (v, h')) :
  VDone P B0 n0 w S M h' (Builtin.unsafeString_ tys ty (args.map (evalA a))) v := by
 unfold lUString at hq
 split at hq
 case h_2 => cases hq
 rename_i p n t tr hx ht
 simp only [oB] at hq
 obtain ⟨i, hi, hq⟩ := hq
 obtain ⟨info, u, h1, h2, h3, h4, h5, h6, h7, _⟩ := ti_spec X hi
 split at hq
 case h_2 => cases hq
 rename_i e hd
 rw [h7] at hd
 have hu : P.underlying t = some (.pointer e) := by rw [h2, dOf_ptr hd]
 simp only [oB] at hq
 obtain ⟨j, hj, pv, hpv, nv, hnv, hq⟩ := hq
 obtain ⟨info', u', j1, j2, j3, _⟩ := ti_spec X hj
 have rp := ev_rep X.t hpv
 have rn := ev_rep X.t hnv
 have et : tys[0]? = some t := by
  have : tys = (t :: tr).toArray := Array.toList_inj.1 (by simpa using ht)
  subst this; simp
 have ea : args.map (evalA a) = #[evalA a p, evalA a n] := by
  have : args = #[p, n] := Array.toList_inj.1 (by simpa using hx)
  subst this; simp
 rw [ea]
 split at hq
 case h_2 => cases hq
 rename_i z
 split at hq
 case isFalse => cases hq
 rename_i hj1
 have hcells : P.cellsOf e = 1 := by simp [Program.cellsOf, j1, <- j3, hj1]
 have hn : evalA a n = .int .i64 z := (fun (u : Value) (h : RepV w S M (.t (.int .i64 z)) u) => show u = .int .i64 z by have h := repV_t h; cases h; rfl) _ rn
 rw [hn]
 unfold uString at hq
 split at hq
 . split at hq
   case isFalse => cases hq
   rename_i hz
   subst hz
   cases hq
   have hp : evalA a p = .pointer none := (fun (u : Value) (h : RepV w S M (.t .nilp) u) => show u = .pointer none by have h := repV_t h; cases h; rfl) _ rp
   rw [hp]
   refine ⟨.string .empty, w, S, M, ?_, X.I, Ext.refl .., .t _ _ (.str _ _ rfl)⟩
   obtain ⟨tl⟩ := tys
   have hmax : IntKind.i64.max = 9223372036854775807 := rfl
   have hdef : Builtin.unsafeString_ ⟨tl⟩ ty #[.pointer none, .int .i64 0] =
     (do
      let n <- asInt (.int .i64 0)
      let some pt := (⟨tl⟩ : Array TypeId)[0]? | stuck "unsafe.String: no argument types"
      if n < 0 then runtimePanic (.error "unsafe.String: len out of range")
      if n > IntKind.i64.max then unsupported (.unsafePointer "String: a length above the largest int")
      if n = 0 then pure (.string .empty)
      else runtimePanic (.error "unsafe.String: ptr is nil and len is not zero")) := rfl
   rw [hdef, et]
   simp [asInt, asIntOf, hmax]
 . rename_i id gen off sh
   split at hq
   case h_2 => cases hq
   rename_i g e' fz cs ho
   split at hq
   case isFalse => cases hq
   rename_i hc
   obtain ⟨rfl, rfl⟩ := hc
   simp only [oM, Prod.mk.injEq] at hq
   obtain ⟨s, hs, rfl, rfl⟩ := hq
   unfold bytesV at hs
   split at hs
   case isFalse => cases hs
   rename_i hb
   obtain ⟨hz0, hz1, hzl⟩ := hb
   have I := X.I
   obtain ⟨m, hm, g1, g2, hw, arr, fr, g3, g4, g5, g6, g7⟩ := I.obj id _ ho
   generalize hev : evalA a p = u2 at rp
   cases rp with
   | ref _ _ _ _ b o m2 hm2 hg hxx =>
    rw [hm] at hm2
    cases hm2
    obtain ⟨rfl, rfl⟩ := hxx g1
    obtain ⟨k1, k2⟩ := mapO_spec hs
    have hslen : s.length = z.toNat := by rw [k1]; simp; omega
    have hzs : z = s.length := by omega
    have hbytes : ∀ j x, s[j]? = some x -> w.cell? ⟨m.b, m.s + off + j, none⟩ = some (.int .u8 x.toNat) := by
     intro j x hjx
     obtain ⟨c, hc, hcx⟩ := k2 j x hjx
     have hcx := byteV_some hcx
     subst hcx
     have hcj : cs[off + j]? = some (.t (.int .u8 x.toNat)) := by
      have hlt : j < z.toNat := by
       have := (gS.1 hjx).1
       omega
      rw [List.getElem?_take, if_pos hlt, List.getElem?_drop] at hc
      exact hc
     obtain ⟨u3, hu3, r3⟩ := g7 _ _ hcj
     have h := repV_t r3
     cases h
     rw [show m.s + off + j = m.s + (off + j) by omega]
     simp [World.cell?, g3, hu3]
    have hrun := ustr_row (P := P) w (ty := ty) et hu hcells m.b (m.s + off) arr.size (by simp [World.shape?, g3]) s z hzs hz0 (by omega) hz1 hbytes
    have hs0 : s.length ≠ 0 := by omega
    have hfz : ∃ fr', (w.freeze ⟨m.b, m.s + off, none⟩ s.length).heap[m.b]? = some (.cells arr e' fr') := by
     simp only [World.freeze, if_neg hs0]
     rw [Array.getElem?_modify, if_pos rfl, g3]
     exact ⟨_, rfl⟩
    obtain ⟨fr', hfr'⟩ := hfz
    have hoth : ∀ b, b ≠ m.b -> (w.freeze ⟨m.b, m.s + off, none⟩ s.length).heap[b]? = w.heap[b]? := fun b hb => by
     simp only [World.freeze, if_neg hs0]
     rw [Array.getElem?_modify, if_neg (fun e => hb e.symm)]
    have hsz : (w.freeze ⟨m.b, m.s + off, none⟩ s.length).heap.size = w.heap.size := by simp only [World.freeze, if_neg hs0]; simp
    have hbm := (I.at_ id m hm).2.1
    have hS : ∀ b, S b -> S b /\ (w.freeze ⟨m.b, m.s + off, none⟩ s.length).heap[b]? = w.heap[b]? := fun b hb => ⟨hb, hoth b fun e => I.stable id _ m ho hm (e ▸ hb)⟩
    have hM : ∀ i m1, M i = some m1 -> ∃ m2, (M.set id m) i = some m2 /\ (m2 = m1 \/ (m1.gen < m2.gen /\ m1.ext <= m1.tot)) := fun i m1 h1 => by
     by_cases e : i = id
     . subst e
       rw [hm] at h1
       cases h1
       exact ⟨_, by simp only [MM.set, if_true], .inl rfl⟩
     . exact ⟨m1, by simp [MM.set, e, h1], .inl rfl⟩
    obtain ⟨q1, q2⟩ := I.put (n0 := n0) (w' := w.freeze ⟨m.b, m.s + off, none⟩ s.length) id (.cells gen e' true cs) m (fun m1 h1 => by rw [hm] at h1; cases h1; exact ⟨by rw [ho]; simp, .inl rfl⟩) (fun hn => by rw [hm] at hn; cases hn)
     (by simp only [World.freeze, if_neg hs0]) (by simp only [World.freeze, if_neg hs0]) (by simp only [World.freeze, if_neg hs0]) (by rw [hsz]; omega) (fun b _ hb => hoth b (hb m hm)) (.inr ⟨m, hm, rfl⟩) (by rw [hsz]; exact hbm)
     ⟨g1, g2, hw, arr, fr', hfr', (fun h => by cases h), g5, g6, fun j c hj => by obtain ⟨u3, hu3, r3⟩ := g7 j c hj; exact ⟨u3, hu3, r3.mono hS hM⟩⟩
    exact ⟨_, _, S, _, hrun, q1, q2, .t _ _ (.str _ _ (by simp))⟩
 . cases hq
theorem clear_run (X : Ctx cfg P B0 n0 w S M h ts a h.obj slot) {args : Array Operand} {tys : Array TypeId} {ty : TypeId} {v : V} {h' : Heap} (hq : lClear cfg ts h args.toList tys.toList = some (v, h')) :
  VDone P B0 n0 w S M h' (Builtin.clear_ tys ty (args.map (evalA a))) v := by
 unfold lClear at hq
 split at hq
 case h_2 => cases hq
 rename_i x t hx ht
 simp only [oB] at hq
 obtain ⟨⟨e, j⟩, hse, z, hz, xv, hxv, hq⟩ := hq
 obtain ⟨hu, hj⟩ := slice_elem X hse
 obtain ⟨info, _, j1, j2, j3, j4, j5, j6, j7, _⟩ := ti_spec X hj
 have rx := ev_rep X.t hxv
 have ea : (args.map (evalA a))[0]? = some (evalA a x) := by
  have : args = #[x] := Array.toList_inj.1 (by simpa using hx)
  subst this; simp
 have et : tys[0]? = some t := by
  have : tys = #[t] := Array.toList_inj.1 (by simpa using ht)
  subst this; simp
 split at hq
 . cases hq
   have hp := repT_nils (repV_t rx)
   refine ⟨undef, w, S, M, ?_, X.I, Ext.refl .., undef_rep⟩
   simp only [Builtin.clear_, ea, et, hp, Sem.run_bind, run_underlying hu, Result.andThen_ok, Sem.run_pure]
   rfl
 . cases hq
   obtain ⟨b, o, cap, sp, hp, _⟩ := repT_sl (repV_t rx)
   refine ⟨undef, w, S, M, ?_, X.I, Ext.refl .., undef_rep⟩
   simp only [Builtin.clear_, ea, et, hp, Sem.run_bind, run_underlying hu, Result.andThen_ok, Sem.run_pure, List.length_nil]
   rfl
 . rename_i id gen off len sh
   split at hq
   case isTrue => cases hq
   rename_i hc
   simp only [ne_eq, not_or, Decidable.not_not, Bool.not_eq_eq_eq_not, Bool.not_true, Bool.not_eq_false] at hc
   obtain ⟨rfl, hzf, hj0⟩ := hc
   split at hq
   case h_2 => cases hq
   rename_i g e' fz cs ho
   split at hq
   case isFalse => cases hq
   rename_i hc
   obtain ⟨rfl, rfl, hle⟩ := hc
   simp only [oI, Prod.mk.injEq] at hq
   obtain ⟨rfl, rfl⟩ := hq
   have hsh : shSize j.sh = j.size := shSize_sh X.c hj
   rw [j6] at hz
   obtain ⟨zv, hzv, hzr⟩ := zero_spec hz
   obtain ⟨_, hzs, hz1⟩ := fits_cells (.t z zv (hzr w S) : RepV w S M (.t z) zv) (T.fits_t hzf)
   rw [hsh] at hzs
   have hrep : RepVL w S M (zeros len z) (Builtin.zeroCells zv.cells len).toList := by
    have := zeros_rep (M := M) (hzr w S) len j.size hzs (Nat.pos_of_ne_zero hj0)
    simpa [Builtin.zeroCells, hzs] using this
   have h1 : ∀ v ∈ (Builtin.zeroCells zv.cells len).toList, v.oneCell' = true := by
    intro v hv
    simp only [Builtin.zeroCells, Array.toList_map, Array.toList_range, List.mem_map, List.mem_range] at hv
    obtain ⟨i, hi, rfl⟩ := hv
    have hm : i % zv.cells.size < zv.cells.size := Nat.mod_lt _ (by omega)
    rw [getElem!_pos zv.cells _ hm]
    exact hz1 _ (by simp)
   obtain ⟨m, w', hm, hmg, hrun, hI, hE⟩ := write_run (P := P) (n0 := n0) X.I ho (off := off) hrep h1 hle
   obtain ⟨b, o, cap, m2, hp, hlc, hm2, _, hat⟩ := repV_msl rx
   rw [hm] at hm2
   cases hm2
   obtain ⟨rfl, a2, a3, a4⟩ := hat hmg
   refine ⟨undef, w', S, M, ?_, hI, hE, undef_rep⟩
   rcases Nat.eq_zero_or_pos len with rfl | hpos
   . have hw : w' = w := by
      have : (Builtin.zeroCells zv.cells 0).toList = [] := by simp [Builtin.zeroCells]
      rw [this] at hrun
      simp only [storeCells, Sem.run_pure, Result.ok.injEq, true_and] at hrun
      exact hrun.symm
     subst hw
     simp only [Builtin.clear_, ea, et, hp, Sem.run_bind, run_underlying hu, Result.andThen_ok, Sem.run_pure]
     rfl
   . have ho2 : o = m.s + off := by
      rcases a2 with a2 | a2
      . omega
      . exact a2
     subst ho2
     obtain ⟨len, rfl⟩ : ∃ k, len = k + 1 := ⟨len - 1, by omega⟩
     simp only [Builtin.clear_, ea, et, hp, Sem.run_bind, run_underlying hu, Result.andThen_ok, run_zeroValue' j1 hzv, hrun, Sem.run_pure]
     rfl
 . cases hq
theorem decodeL_eq (bs : ByteArray) (pos : Nat) (h : pos < bs.size) : decodeL bs.data.toList pos = Utf8.decode bs pos := by
 obtain ⟨⟨l⟩⟩ := bs
 have hl : pos < l.length := h
 unfold decodeL
 rw [gE hl]
 simp only
 cases hb : Nat.ble (l[pos].toNat + 1) 128 with
 | false => rfl
 | true =>
  have hlt := Nat.le_of_ble_eq_true hb
  have hg : (ByteArray.get! ⟨⟨l⟩⟩ (pos + 0)) = l[pos] := by
   show (Array.mk l)[pos + 0]! = _
   simp [hl]
  simp only [cond_true, Utf8.decode, hg]
  rw [if_pos (by omega)]
theorem next_run (X : Ctx cfg P B0 n0 w S M h ts a h.obj slot) {x : Operand} {v : V} {h' : Heap} {ty : TypeId} (hq : lNext ts h x = some (v, h')) :
  VDone P B0 n0 w S M h' (Instr.next (evalA a x) true ty) v := by
 simp only [lNext, oB] at hq
 obtain ⟨xv, hx, hq⟩ := hq
 split at hq
 case h_2 => cases hq
 rename_i id
 split at hq
 case h_2 => cases hq
 rename_i s pos ho
 have rx := ev_rep X.t hx
 obtain ⟨m, hm, hp, bs, hbs, hb⟩ := X.I.obj id _ ho
 have hev : evalA a x = .pointer (some ⟨m.b, 0, none⟩) := by
  generalize evalA a x = cx at rx
  cases rx with
  | it _ _ b m' hm' hp' hbb hc =>
   rw [hm] at hm'
   cases hm'
   rw [hbb]
 have hsz : bs.size = s.length := by rw [<- hbs]; rfl
 have hmlt := (X.I.at_ id m hm).2.1
 rw [hev]
 cases hc : Nat.ble (pos + 1) s.length <;> rw [hc] at hq <;> simp only [cond_true, cond_false, oI, Prod.mk.injEq] at hq <;> obtain ⟨rfl, rfl⟩ := hq
 . have hn : ¬ pos < bs.size := by
    rw [hsz]
    intro h
    rw [Nat.ble_eq_true_of_le h] at hc
    cases hc
   refine ⟨.tuple #[.bool false], w, S, M, ?_, X.I, Ext.refl .., .t _ _ (.tup _ _ rfl fun i y u h1 h2 => ?_)⟩
   . simp [Instr.next, getObj, Sem.run, hb, hn]
   . match i with
     | 0 => cases h1; cases h2; exact .bool false
     | i + 1 => simp at h1
 . have hlt : pos < bs.size := by rw [hsz]; exact Nat.le_of_ble_eq_true hc
   have hd := decodeL_eq bs pos hlt
   rw [hbs] at hd
   obtain ⟨I', E'⟩ := X.I.rewrite (n0 := n0) ho hm (.stringIter bs (pos + (decodeL s pos).2)) (.sit s (pos + (decodeL s pos).2)) (fun w' hS hat => ⟨hp, bs, hbs, hat⟩)
   refine ⟨.tuple #[.bool true, goInt pos, .int .i32 (decodeL s pos).1], w.putObj m.b (.stringIter bs (pos + (decodeL s pos).2)), S, M, ?_, I', E', .t _ _ (.tup _ _ rfl fun i y u h1 h2 => ?_)⟩
   . rw [hd]
     simp [Instr.next, getObj, setObj, Sem.run, hb, hlt, World.putObj]
   . match i with
     | 0 => cases h1; cases h2; exact .bool true
     | 1 => cases h1; cases h2; exact .int _ _
     | 2 => cases h1; cases h2; exact .int _ _
     | i + 3 => simp at h1
theorem loud_run (X : Ctx cfg P B0 n0 w S M h ts a h.obj slot) {E : Env} {o : Oper} (hn : noCall o.op = true) {v : V} {h' : Heap} (hq : loud cfg E o.op slot ts h = some (v, h')) :
  LDone P B0 n0 w S M h' (execOp (evalA a) o) v := by
 obtain ⟨dst, op, ty, x4, x5, x6⟩ := o
 cases op <;> simp only [loud] at hq <;> try (cases hq; done)
 case store t x y => exact store_run X hq
 case mapUpdate t m k x => exact mapUpdate_run X hq
 case insert t m k x => exact mapUpdate_run X hq
 case next x s =>
  cases s with
  | false => cases hq
  | true => exact (next_run X hq).loud
 case call c =>
  obtain ⟨callee, args, argTypes⟩ := c
  cases callee <;> simp only [noCall] at hn <;> try (cases hn; done)
  rename_i b
  have fin : ∀ {s : Sem Value}, VDone P B0 n0 w S M h' s v -> (∀ cs, Go.builtin b argTypes ty cs (args.map (evalA a)) = (do pure (.value (<- s)))) →
    LDone P B0 n0 w S M h' (execOp (evalA a) ⟨dst, .call { callee := .builtin b, args := args, argTypes := argTypes }, ty, x4, x5, x6⟩) v := by
   intro s hd hb
   obtain ⟨nx, cv, w', S', M', h1, h2⟩ := hd.loud
   exact ⟨nx, cv, w', S', M', by simp only [execOp, resolve, Sem.run_bind, Sem.run_pure, Result.andThen_ok, Go.invoke, hb]; simpa only [Sem.run_bind, Sem.run_pure] using h1, h2⟩
  cases b <;> simp only [lCall] at hq <;> try (cases hq; done)
  case append =>
   unfold lAppend at hq
   split at hq
   case h_2 => cases hq
   rename_i s x t xt r hx ht
   simp only [oB] at hq
   obtain ⟨⟨e, j⟩, hse, xi, hxi, sv, hsv, xv, hxv, hq⟩ := hq
   split at hq
   case isTrue => cases hq
   rename_i hc
   simp only [Bool.or_eq_true, not_or] at hc
   have ea : args.map (evalA a) = #[evalA a s, evalA a x] := by
    have := toList_pair hx
    subst this; simp
   have et : argTypes[0]? = some t /\ argTypes[1]? = some xt := by
    constructor <;> rw [<- Array.getElem?_toList, ht] <;> rfl
   have := appendV_run (P := P) (n0 := n0) (ty := ty) X.c X.I (fun id o h => h) X.sl X.s1 X.s2 et.1 et.2 hse hxi (by simpa using hc.1.1) (Nat.pos_of_ne_zero (by simpa using hc.1.2)) (by simpa using hc.2) (ev_rep X.t hsv) (ev_rep X.t hxv) hq
   rw [<- ea] at this
   exact fin this fun _ => rfl
  case clear => exact fin (clear_run (ty := ty) X hq) fun _ => rfl
  case unsafeString => exact fin (ustr_run (ty := ty) X hq) fun _ => rfl
end
end Go.Apex
