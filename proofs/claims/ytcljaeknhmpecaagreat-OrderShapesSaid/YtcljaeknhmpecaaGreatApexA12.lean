import Derived.Test.YtcljaeknhmpecaaGreatApexA11
set_option linter.all false
namespace Go.Apex
open Go Go.RowKit
variable [Globs]
section
variable {cfg : Cfg} {P : Program} {B0 : Nat -> Prop} {n0 : Nat -> Prop} {w : World} {S : Nat -> Prop} {M : MM} {h : Heap} {ts : Ts} {a : Array Value} {rd : Rd} {slot : Nat}
theorem partT_spec {i : TI} {cs : List T} {off : Nat} {y : T} (hp : partT i cs off = some y) :
  (i.agg = true /\ off + i.size <= cs.length /\ y = .agg ((cs.drop off).take i.size)) \/ (i.agg = false /\ cs[off]? = some y) := by
 unfold partT at hp
 split at hp
 . rename_i h1
   split at hp
   . rename_i h2; cases hp; exact .inl ⟨h1, h2, rfl⟩
   . cases hp
 . rename_i h1; exact .inr ⟨by simpa using h1, hp⟩
theorem one_cells {x : T} (h : x.one = true) : x.cells = [x] := by cases x <;> first | rfl | (simp [T.one] at h)
theorem fieldAddr_run (X : Ctx cfg P B0 n0 w S M h ts a rd slot) {s : TypeId} {x : Operand} {f : Nat} {v : V} {ob : Option Obj} (hq : qFieldAddr cfg ts s x f = some (v, ob)) :
  QDone P B0 n0 w S M h slot (Instr.fieldAt s (evalA a x) f) v ob := by
 obtain ⟨hb, hob⟩ := one_some hq
 clear hq
 subst hob
 simp only [oB] at hb
 obtain ⟨xa, hx, hb⟩ := hb
 have rx := ev_rep X.t hx
 simp only [fieldAddrV, oB] at hb
 obtain ⟨i, hi, hb⟩ := hb
 obtain ⟨info, u, _, h2, _, _, _, _, h7, _⟩ := ti_spec X hi
 split at hb
 case h_2 => cases hb
 rename_i fs hd
 rw [h7] at hd
 obtain ⟨F, rfl, rfl⟩ := dOf_struct hd
 simp only [oB, fieldOf, List.getElem?_map, oM] at hb
 obtain ⟨⟨t, off⟩, ⟨q, ⟨fl, hfl, rfl⟩, he⟩, j, hj, hb⟩ := hb
 simp only [Prod.mk.injEq] at he
 obtain ⟨rfl, rfl⟩ := he
 obtain ⟨jinfo, _, j1, _, j3, _⟩ := ti_spec X hj
 have hfl' : F[f]? = some fl := by simpa using hfl
 split at hb
 . cases hb
 rename_i hz
 have hz' : ¬ jinfo.size = 0 := by rw [<- j3]; exact hz
 have hrun : ∀ b o, evalA a x = .pointer (some ⟨b, o, none⟩) -> (Instr.fieldAt s (evalA a x) f).run P w = .ok (.pointer (some ⟨b, o + fl.offset, none⟩)) w := by
  intro b o e
  rw [e]
  simp only [Instr.fieldAt, Sem.run_bind, run_underlying h2, Result.andThen_ok, hfl', Instr.sureAddr, Sem.run_pure, Go.fieldPlace, run_sizeOf' j1, if_neg hz', addr_add]
 split at hb
 . rename_i cs
   simp only [oB] at hb
   obtain ⟨y, hy, hb⟩ := hb
   split at hb
   case isFalse => cases hb
   rename_i hfit
   cases hb
   have hp := repV_t rx
   cases hp' : evalA a x with
   | pointer ad =>
    rw [hp'] at hp
    cases hp with
    | ptr _ b o g hc hr =>
     rw [<- hp']
     refine done_same X (hrun b o hp') (.t _ _ ?_)
     rcases partT_spec hy with ⟨hag, hle, rfl⟩ | ⟨hag, hget⟩
     . have hgt : ∀ (k : Nat) (c : T), (T.agg ((cs.drop fl.offset).take j.size)).cells[k]? = some c -> cs[fl.offset + k]? = some c := by
        intro k c hk
        simp only [T.cells] at hk
        have hlt : k < j.size := by have := (gS.1 hk).1; simp at this; omega
        rwa [List.getElem?_take, if_pos hlt, List.getElem?_drop] at hk
       exact .ptr _ _ _ (fun k => g (fl.offset + k)) (fun k c hk => by have := hc (fl.offset + k) c (hgt k c hk); rwa [<- Nat.add_assoc] at this) (fun k c hk => hr (fl.offset + k) c (hgt k c hk))
     . have hone : y.one = true := by
        have : j.sh = none := by simp [TI.sh, hag]
        rw [this] at hfit
        exact hfit
       have hgt : ∀ (k : Nat) (c : T), y.cells[k]? = some c -> cs[fl.offset + k]? = some c := by
        intro k c hk
        rw [one_cells hone] at hk
        cases k with
        | zero => simp at hk; subst hk; exact hget
        | succ k => simp at hk
       exact .ptr _ _ _ (fun k => g (fl.offset + k)) (fun k c hk => by have := hc (fl.offset + k) c (hgt k c hk); rwa [<- Nat.add_assoc] at this) (fun k c hk => hr (fl.offset + k) c (hgt k c hk))
   | _ => rw [hp'] at hp; cases hp
 . cases hb
   obtain ⟨b, o, m, hv, hm, hg, hat⟩ := repV_ref rx
   exact done_same X (hrun b o hv) (.ref _ _ _ _ _ _ m hm hg fun e => ⟨(hat e).1, by rw [(hat e).2]; omega⟩)
 . cases hb
theorem partV_run (X : Ctx cfg P B0 n0 w S M h ts a rd slot) {t : TypeId} {j : TI} (hj : cfg.ti t = some j) {xs : List V} {xv : Array Value} (hx : RepVL w S M xs xv.toList) {off : Nat} {v : V} (hp : partV j xs off = some v) :
  ∃ cv, (part t xv off).run P w = .ok cv w /\ RepV w S M v cv := by
 obtain ⟨info, u, h1, h2, h3, h4, h5, h6, h7, _⟩ := ti_spec X hj
 rcases partV_spec hp with ⟨hag, hle, rfl⟩ | ⟨hag, hget⟩
 . refine ⟨.agg (xv.extract off (off + info.size)), ?_, ?_⟩
   . simp only [part, Sem.run_bind, run_isAgg h2, Result.andThen_ok, <- h5, hag, if_true, run_sizeOf' h1, Sem.run_pure]
   . have := mkAgg_rep ((hx.drop off).take j.size)
     rw [<- h3]
     have e : ((xv.toList.drop off).take j.size).toArray = xv.extract off (off + j.size) := by
      apply Array.toList_inj.1
      simp
     rwa [e] at this
 . exact part_run X.c hj hag hx hget
theorem field_run (X : Ctx cfg P B0 n0 w S M h ts a rd slot) {s : TypeId} {x : Operand} {f : Nat} {v : V} {ob : Option Obj} (hq : qField cfg ts s x f = some (v, ob)) :
  QDone P B0 n0 w S M h slot (Instr.field s (evalA a x) f) v ob := by
 obtain ⟨hb, hob⟩ := one_some hq
 clear hq
 subst hob
 simp only [oB] at hb
 obtain ⟨xa, hx, hb⟩ := hb
 have rx := ev_rep X.t hx
 simp only [fieldV, oB] at hb
 obtain ⟨i, hi, hb⟩ := hb
 obtain ⟨info, u, _, h2, _, _, _, _, h7, _⟩ := ti_spec X hi
 split at hb
 case h_2 => cases hb
 rename_i fs hd
 rw [h7] at hd
 obtain ⟨F, rfl, rfl⟩ := dOf_struct hd
 simp only [oB, fieldOf, List.getElem?_map, oM] at hb
 obtain ⟨⟨t, off⟩, ⟨q, ⟨fl, hfl, rfl⟩, he⟩, j, hj, hb⟩ := hb
 simp only [Prod.mk.injEq] at he
 obtain ⟨rfl, rfl⟩ := he
 have hfl' : F[f]? = some fl := by simpa using hfl
 split at hb
 case isFalse => cases hb
 rename_i hag
 have hv := repV_agg rx hag
 obtain ⟨cv, h1, h3⟩ := partV_run X hj (repV_cells rx (isAgg_junk hag)) hb
 refine done_same X (cv := cv) ?_ h3
 rw [hv]
 simp only [Instr.field, Sem.run_bind, run_underlying h2, Result.andThen_ok, hfl', asAgg, Sem.run_pure, h1]
theorem indexAddr_run (X : Ctx cfg P B0 n0 w S M h ts a rd slot) {t : TypeId} {x ix : Operand} {v : V} {ob : Option Obj} (hq : qIndexAddr cfg ts t x ix = some (v, ob)) :
  QDone P B0 n0 w S M h slot (Instr.indexAt t (evalA a x) (evalA a ix)) v ob := by
 obtain ⟨hb, hob⟩ := one_some hq
 clear hq
 subst hob
 simp only [oB] at hb
 obtain ⟨xa, hx, n, ⟨y, hy, hn⟩, hb⟩ := hb
 have rx := ev_rep X.t hx
 obtain ⟨k, hk, _⟩ := asI_rep hn (ev_rep X.t hy)
 simp only [indexAddrV, oB] at hb
 obtain ⟨i, hi, hb⟩ := hb
 obtain ⟨info, u, _, h2, _, _, _, _, h7, _⟩ := ti_spec X hi
 split at hb
 case h_2 => cases hb
 rename_i e hd
 rw [h7] at hd
 have := dOf_slice hd; subst this
 simp only [oB] at hb
 obtain ⟨j, hj, hb⟩ := hb
 obtain ⟨jinfo, _, j1, _, j3, _⟩ := ti_spec X hj
 have hrun : ∀ b o len cap, evalA a x = .slice (some ⟨b, o, none⟩) len cap -> 0 <= n -> n < (len : Int) -> (Instr.indexAt t (evalA a x) (evalA a ix)).run P w = .ok (.pointer (some ⟨b, o + n.toNat * jinfo.size, none⟩)) w := by
  intro b o len cap e1 h0 h1
  rw [e1, hk]
  simp only [Instr.indexAt, asIntOf, Sem.run_bind, Sem.run_pure, Result.andThen_ok, run_underlying h2, if_pos (And.intro h0 h1), run_sizeOf' j1, addr_add]
 split at hb
 . rename_i ex sz xs
   split at hb
   case isFalse => cases hb
   rename_i hc
   obtain ⟨hc1, rfl⟩ := hc
   simp only [oM] at hb
   obtain ⟨yt, hyt, rfl⟩ := hb
   have hlt : n.toNat < xs.length := (gS.1 hyt).1
   obtain ⟨b, o, cap, sp, hv, hlc, _, hsp⟩ := repT_sl (repV_t rx)
   obtain rfl : sp = none := hsp.resolve_right (by rintro rfl; simp at hlt)
   have hp := repV_t rx
   refine done_same X (hrun b o _ cap hv hc1 (by omega)) (.t _ _ ?_)
   rw [hv] at hp
   cases hp with
   | sl _ _ _ _ _ _ g hle hx hz hcc hrr _ _ =>
    rw [<- j3]
    exact .ptr _ _ _ (fun jj => g n.toNat jj) (fun jj c hj => hcc n.toNat yt jj c hyt hj) (fun jj c hj => hrr n.toNat yt jj c hyt hj)
 . rename_i id gen off len sh
   split at hb
   case isFalse => cases hb
   rename_i hc
   obtain ⟨hc1, hc2, rfl⟩ := hc
   cases hb
   obtain ⟨b, o, cap, m, hv, hlc, hm, hg, hat⟩ := repV_msl rx
   refine done_same X (hrun b o len cap hv hc1 hc2) (.ref _ _ _ _ _ _ m hm hg fun e => ?_)
   obtain ⟨a1, a2, a3, a4⟩ := hat e
   refine ⟨a1, ?_⟩
   rcases a2 with a2 | a2
   . omega
   . rw [a2, shSize_sh X.c hj, j3]; omega
 . cases hb
theorem index_run (X : Ctx cfg P B0 n0 w S M h ts a rd slot) {t : TypeId} {x ix : Operand} {v : V} {ob : Option Obj} (hq : qIndex cfg ts t x ix = some (v, ob)) :
  QDone P B0 n0 w S M h slot (Instr.index t (evalA a x) (evalA a ix)) v ob := by
 obtain ⟨hb, hob⟩ := one_some hq
 clear hq
 subst hob
 simp only [oB] at hb
 obtain ⟨xa, hx, n, ⟨y, hy, hn⟩, hb⟩ := hb
 have rx := ev_rep X.t hx
 obtain ⟨k, hk, _⟩ := asI_rep hn (ev_rep X.t hy)
 simp only [indexV, oB] at hb
 obtain ⟨i, hi, hb⟩ := hb
 obtain ⟨info, u, _, h2, _, _, _, _, h7, _⟩ := ti_spec X hi
 split at hb
 case h_2 => cases hb
 rename_i s hd
 rw [h7] at hd
 have := dOf_str hd; subst this
 split at hb
 case isFalse => cases hb
 rename_i hc
 simp only [oM] at hb
 obtain ⟨c, hc1, rfl⟩ := hb
 obtain ⟨p, hp, hps⟩ := repT_str (repV_t rx)
 have hg : p[n.toNat]? = some c := by
  rw [<- hps] at hc1
  have hlt : n.toNat < p.data.toList.length := (gS.1 hc1).1
  have hlt2 : n.toNat < p.size := by rw [size_data]; exact hlt
  rw [getElem?_pos p n.toNat hlt2]
  rw [gE hlt] at hc1
  rw [<- hc1]
  rfl
 refine done_same X (cv := .int .u8 c.toNat) ?_ (.t _ _ (.int _ _))
 rw [hp, hk]
 simp only [Instr.index, asIntOf, Sem.run_bind, Sem.run_pure, Result.andThen_ok, run_underlying h2, if_pos hc, hg]
theorem extract_run (X : Ctx cfg P B0 n0 w S M h ts a rd slot) {t : Operand} {ix : Nat} {v : V} {ob : Option Obj} (hq : qExtract ts t ix = some (v, ob)) :
  QDone P B0 n0 w S M h slot (Instr.extract (evalA a t) ix) v ob := by
 simp only [qExtract, oB] at hq
 obtain ⟨xa, hx, hq⟩ := hq
 have rx := ev_rep X.t hx
 have main : ∃ arr u, evalA a t = .tuple arr /\ arr[ix]? = some u /\ RepV w S M v u /\ ob = none := by
  split at hq
  . rename_i xs
    simp only [oM, Prod.mk.injEq] at hq
    obtain ⟨y, hy, rfl, rfl⟩ := hq
    have := repV_t rx
    cases he : evalA a t <;> rw [he] at this <;> cases this
    rename_i arr hl hr
    have hlt : ix < arr.size := by rw [<- hl]; exact (gS.1 hy).1
    exact ⟨_, arr[ix], rfl, by simp [hlt], .t _ _ (hr ix y _ hy (by simp [hlt])), rfl⟩
  . rename_i xs
    simp only [oM, Prod.mk.injEq] at hq
    obtain ⟨y, hy, rfl, rfl⟩ := hq
    cases he : evalA a t <;> rw [he] at rx <;> cases rx
    rename_i arr hl hr
    have hlt : ix < arr.size := by rw [<- hl]; exact (gS.1 hy).1
    exact ⟨_, arr[ix], rfl, by simp [hlt], hr ix y _ hy (by simp [hlt]), rfl⟩
  . cases hq
 obtain ⟨arr, u, h1, h2, h3, rfl⟩ := main
 exact done_same X (by rw [h1]; simp [Instr.extract, h2]) h3
end
end Go.Apex
