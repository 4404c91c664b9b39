import Derived.Test.YtcljaeknhmpecaaGreatApexA10
set_option linter.all false
namespace Go.Apex
open Go Go.RowKit
variable [Globs]
section
variable {cfg : Cfg} {P : Program} {B0 : Nat -> Prop} {n0 : Nat -> Prop} {w : World} {S : Nat -> Prop} {M : MM} {h : Heap} {ts : Ts} {a : Array Value} {rd : Rd} {slot : Nat}
theorem repT_nils {v : Value} (h : RepT w S .nils v) : v = .slice none 0 0 := by cases h; rfl
theorem repT_sl {ex : Bool} {sz : Nat} {xs : List T} {v : Value} (h : RepT w S (.sl ex sz xs) v) : ∃ b o cap sp, v = .slice (some ⟨b, o, sp⟩) xs.length cap /\ xs.length <= cap /\ (ex = true -> cap = xs.length) /\ (sp = none \/ xs = []) := by
 cases h with
 | sl _ _ _ b o cap g hl hx _ _ _ sp hsp => exact ⟨b, o, cap, sp, rfl, hl, hx, hsp⟩
theorem repV_msl {id gen off len : Nat} {sh : Option Nat} {v : Value} (h : RepV w S M (.msl id gen off len sh) v) : ∃ b o cap m, v = .slice (some ⟨b, o, none⟩) len cap /\ len <= cap /\ M id = some m /\ gen <= m.gen ∧
  (m.gen = gen -> b = m.b /\ (cap = 0 \/ o = m.s + off) /\ m.ext <= off + cap * shSize sh /\ m.s + off + cap * shSize sh <= m.tot) := by
 cases h with
 | msl _ _ _ _ _ b o cap hl m hm hg h => exact ⟨b, o, cap, m, rfl, hl, hm, hg, h⟩
theorem repV_ref {id gen off : Nat} {sh : Option Nat} {v : Value} (h : RepV w S M (.ref id gen off sh) v) : ∃ b o m, v = .pointer (some ⟨b, o, none⟩) /\ M id = some m /\ gen <= m.gen /\ (m.gen = gen -> b = m.b /\ o = m.s + off) := by
 cases h with
 | ref _ _ _ _ b o m hm hg h => exact ⟨b, o, m, rfl, hm, hg, h⟩
def RepB (x : Option Int) (v : Option Value) : Prop := (x = none /\ v = none) \/ ∃ n k, x = some n /\ v = some (.int k n)
theorem optInt_rep (ht : RepTs w S M ts a) {o : Option Operand} {x : Option Int} (h : optInt ts o = some x) : RepB x (o.map (evalA a)) := by
 cases o with
 | none => simp only [optInt, oI] at h; subst h; exact .inl ⟨rfl, rfl⟩
 | some o =>
  simp only [optInt, oM, oB] at h
  obtain ⟨n, ⟨v, hv, hn⟩, rfl⟩ := h
  obtain ⟨k, hk, _⟩ := asI_rep hn (ev_rep ht hv)
  exact .inr ⟨n, k, rfl, by simp [hk]⟩
theorem bound_run {n : Int} {k : IntKind} {y : Nat} {code : BoundsCode} (h0 : 0 <= n) (h1 : n <= y) : (Instr.sliceBound (.int k n) y code).run P w = .ok n.toNat w := by
 simp only [Instr.sliceBound, asIntOf, Sem.run_bind, Sem.run_pure, Result.andThen_ok, if_pos (And.intro h0 h1)]
theorem bounds_run {isSlice : Bool} {len cap : Nat} {lo hi mx : Option Int} {lov hiv mxv : Option Value} (rl : RepB lo lov) (rh : RepB hi hiv) (rm : RepB mx mxv)
  (hm0 : 0 <= mx.getD cap) (hm : mx.getD cap <= cap) (hmh : mx.isSome = true -> hi.isSome = true) (hh : hi.getD len <= mx.getD cap) (hl0 : 0 <= lo.getD 0) (hl : lo.getD 0 <= hi.getD len) :
  (Instr.sliceBounds isSlice len cap lov hiv mxv).run P w = .ok ((lo.getD 0).toNat, (hi.getD len).toNat, (mx.getD cap).toNat) w := by
 rcases rm with ⟨rfl, rfl⟩ | ⟨mn, mk, rfl, rfl⟩ <;> rcases rh with ⟨rfl, rfl⟩ | ⟨hn, hk, rfl, rfl⟩ <;> rcases rl with ⟨rfl, rfl⟩ | ⟨ln, lk, rfl, rfl⟩ <;>
  simp only [Option.getD_some, Option.getD_none, Option.isSome_some, Option.isSome_none, Bool.false_eq_true, false_implies, true_implies] at hm0 hm hmh hh hl0 hl ⊢ <;>
  simp only [Instr.sliceBounds, Sem.run_bind, Sem.run_pure, Result.andThen_ok, Int.toNat_natCast] <;>
  (try rw [bound_run hm0 hm]) <;> (try simp only [Result.andThen_ok, Sem.run_bind]) <;>
  (try rw [bound_run (show (0 : Int) <= hn by omega) (by omega)]) <;> (try simp only [Result.andThen_ok, Sem.run_bind]) <;>
  (try rw [bound_run hl0 (by omega)]) <;> (try simp only [Result.andThen_ok, Sem.run_bind, Sem.run_pure]) <;> rfl
theorem rep_sl_sub {ex : Bool} {sz : Nat} {xs : List T} {b o n cap : Nat} (hr : RepT w S (.sl ex sz xs) (.slice (some ⟨b, o, none⟩) n cap)) (ex' : Bool) (l hN cap' o' : Nat) (hl : l <= hN) (hh : hN <= xs.length)
  (hcap : hN - l <= cap') (hex : ex' = true -> cap' = hN - l) (ho : l < hN -> o' = o + l * sz) : RepT w S (.sl ex' sz ((xs.take hN).drop l)) (.slice (some ⟨b, o', none⟩) (hN - l) cap') := by
 cases hr with
 | sl _ _ _ _ _ _ g hle hx hz hc hrr _ _ =>
  have hlen : ((xs.take hN).drop l).length = hN - l := by simp; omega
  have hget : ∀ (i : Nat) (x : T), ((xs.take hN).drop l)[i]? = some x -> xs[l + i]? = some x /\ l < hN := by
   intro i x hi
   have hlt : i < hN - l := by rw [<- hlen]; exact (gS.1 hi).1
   rw [List.getElem?_drop, List.getElem?_take, if_pos (by omega)] at hi
   exact ⟨hi, by omega⟩
  have := RepT.sl (w := w) (S := S) ex' sz ((xs.take hN).drop l) b o' cap' (fun i j => g (l + i) j) (by omega) (fun e => by rw [hlen]; exact hex e)
   (fun i x hi => hz (l + i) x (hget i x hi).1)
   (fun i x j c hi hj => by
    obtain ⟨h1, h2⟩ := hget i x hi
    obtain ⟨h3, h4⟩ := hc (l + i) x j c h1 hj
    refine ⟨h3, ?_⟩
    rw [ho h2, <- h4]
    congr 2
    rw [Nat.add_mul]; omega)
   (fun i x j c hi hj => hrr (l + i) x j c (hget i x hi).1 hj) none (.inl rfl)
  rwa [hlen] at this
theorem slice_run (X : Ctx cfg P B0 n0 w S M h ts a rd slot) {xt : TypeId} {x : Operand} {lo hi mx : Option Operand} {v : V} {ob : Option Obj} (hq : qSlice cfg ts xt x lo hi mx = some (v, ob)) :
  QDone P B0 n0 w S M h slot (Instr.sliceAt xt (evalA a x) (lo.map (evalA a)) (hi.map (evalA a)) (mx.map (evalA a))) v ob := by
 simp only [qSlice, oB] at hq
 obtain ⟨i, hi1, xa, hx, l, hl, hh, hh1, m, hm, hq⟩ := hq
 have rx := ev_rep X.t hx
 have rl := optInt_rep X.t hl
 have rh := optInt_rep X.t hh1
 have rm := optInt_rep X.t hm
 obtain ⟨info, u, _, h2, _, _, _, _, h7, _⟩ := ti_spec X hi1
 split at hq
 case isFalse => cases hq
 rename_i hfit
 obtain ⟨hb, hob⟩ := one_some hq
 clear hq
 subst hob
 rw [h7] at hfit
 unfold sliceV at hb
 split at hb
 . 
   rename_i s
   simp only at hb
   split at hb
   case isFalse => cases hb
   rename_i hc
   obtain ⟨hc1, hc2, hc3, hc4⟩ := hc
   cases hb
   obtain ⟨p, hp, hps⟩ := repT_str (repV_t rx)
   have hu : u = .string := by cases u <;> simp [dOf, sliceFits] at hfit; rfl
   subst hu
   have hsz : p.size = s.length := by rw [size_data, hps]
   have hmn : mx.map (evalA a) = none /\ m = none := by
    rcases rm with ⟨h1, h2⟩ | ⟨n, k, rfl, _⟩
    . exact ⟨h2, h1⟩
    . simp at hc1
   rw [hp, hmn.1]
   have hbr := bounds_run (P := P) (w := w) (isSlice := false) (len := p.size) (cap := p.size) rl rh (.inl ⟨rfl, rfl⟩) (by simp) (by simp) (by simp) (by simp; rw [hsz]; exact hc4) hc2 (by rw [hsz]; exact hc3)
   refine done_same X (cv := .string (p.extract (l.getD 0).toNat (hh.getD p.size).toNat)) ?_ (.t _ _ (.str _ _ ?_))
   . simp only [Instr.sliceAt, Sem.run_bind, run_underlying h2, Result.andThen_ok, Instr.slice, Option.isSome_none, Bool.false_eq_true, if_false, hbr, Sem.run_pure]
   . rw [Lib.extract_data, hps, hsz, List.drop_take]
 . 
   split at hb
   case isFalse => cases hb
   rename_i hc
   obtain ⟨hc1, hc2, hc3, hc4⟩ := hc
   cases hb
   have hv : evalA a x = .slice none 0 0 := repT_nils (repV_t rx)
   have hu : ∃ e, u = .slice e /\ (cfg.ti e).isSome = true := by
    cases hd : dOf u <;> rw [hd] at hfit <;> simp [sliceFits] at hfit
    exact ⟨_, dOf_slice hd, hfit⟩
   obtain ⟨e, rfl, he⟩ := hu
   obtain ⟨j, hj⟩ := Option.isSome_iff_exists.1 he
   obtain ⟨jinfo, _, j1, _⟩ := ti_spec X hj
   rw [hv]
   have hbr := bounds_run (P := P) (w := w) (isSlice := true) (len := 0) (cap := 0) rl rh rm (by simpa using Int.le_of_eq hc3.symm) (by simpa using Int.le_of_eq hc3) (by
    intro hs; rcases hc4 with hc4 | hc4
    . rw [Option.isNone_iff_eq_none] at hc4; rw [hc4] at hs; cases hs
    . exact hc4) (by show hh.getD 0 <= m.getD 0; omega) (by omega) (by show l.getD 0 <= hh.getD 0; omega)
   refine done_same X (cv := .slice none 0 0) ?_ (.t _ _ .nils)
   have z1 : (l.getD 0).toNat = 0 := by omega
   have z2 : (hh.getD ((0 : Nat) : Int)).toNat = 0 := by show (hh.getD 0).toNat = 0; omega
   have z3 : (m.getD ((0 : Nat) : Int)).toNat = 0 := by show (m.getD 0).toNat = 0; omega
   rw [z1, z2, z3] at hbr
   simp only [Instr.sliceAt, Sem.run_bind, run_underlying h2, Result.andThen_ok, Instr.slice, hbr, run_sizeOf' j1, Sem.run_pure]
   rfl
 . 
   rename_i ex sz xs
   simp only at hb
   split at hb
   case isFalse => cases hb
   rename_i hc
   obtain ⟨hc1, hc2, hc3⟩ := hc
   have hrep := repV_t rx
   obtain ⟨b, o, cap, sp, hv, hlc, hexc, hsp⟩ := repT_sl hrep
   have hu : ∃ e, u = .slice e /\ ∃ j, cfg.ti e = some j /\ sz = j.size := by
    cases hd : dOf u <;> rw [hd] at hfit <;> simp [sliceFits] at hfit
    rename_i e
    cases he : cfg.ti e with
    | none => rw [he] at hfit; simp at hfit
    | some j => rw [he] at hfit; exact ⟨e, dOf_slice hd, j, he, by simpa using hfit⟩
   obtain ⟨e, rfl, j, hj, rfl⟩ := hu
   obtain ⟨jinfo, _, j1, _, j3, _⟩ := ti_spec X hj
   rw [hv] at hrep ⊢
   have hmv : 0 <= m.getD cap /\ m.getD cap <= cap /\ (m.isSome = true -> hh.isSome = true) /\ hh.getD xs.length <= m.getD cap ∧
     ∃ ex', v = .t (.sl ex' j.size ((xs.take (hh.getD xs.length).toNat).drop (l.getD 0).toNat)) /\ (ex' = true -> (m.getD cap).toNat = (hh.getD xs.length).toNat) := by
    split at hb
    . cases hb
      refine ⟨by simp, by simp, by simp, by simp; omega, _, rfl, fun e => ?_⟩
      simp only [Bool.and_eq_true, beq_iff_eq] at e
      rw [Option.getD_none, e.2, hexc e.1]
    . split at hb
      . rename_i hmh
        cases hb
        refine ⟨by simp; omega, by simp; omega, fun _ => hmh.2, by simp; omega, _, rfl, fun _ => ?_⟩
        rw [Option.getD_some, hmh.1]
      . cases hb
   obtain ⟨m0, m1, m2, m3, ex', rfl, m4⟩ := hmv
   have hbr := bounds_run (P := P) (w := w) (isSlice := true) (len := xs.length) (cap := cap) rl rh rm m0 m1 m2 m3 hc1 hc2
   rcases hsp with rfl | rfl
   case inr =>
    have hrun : (Instr.sliceAt xt (.slice (some ⟨b, o, sp⟩) ([] : List T).length cap) (lo.map (evalA a)) (hi.map (evalA a)) (mx.map (evalA a))).run P w =
      .ok (.slice (some (if (m.getD cap).toNat = (l.getD 0).toNat then ⟨b, o, sp⟩ else (⟨b, o, sp⟩ : Addr).add ((l.getD 0).toNat * j.size))) ((hh.getD ([] : List T).length).toNat - (l.getD 0).toNat) ((m.getD cap).toNat - (l.getD 0).toNat)) w := by
     simp only [Instr.sliceAt, Sem.run_bind, run_underlying h2, Result.andThen_ok, Instr.slice, hbr, run_sizeOf' j1, Sem.run_pure]
     split <;> simp_all
    refine done_same X hrun (.t _ _ ?_)
    obtain ⟨b', o', sp'⟩ := (if (m.getD cap).toNat = (l.getD 0).toNat then (⟨b, o, sp⟩ : Addr) else (⟨b, o, sp⟩ : Addr).add ((l.getD 0).toNat * j.size))
    simp only [List.length_nil, Int.natCast_zero] at hc1 hc2 hc3 m3 ⊢
    have z : (hh.getD 0).toNat - (l.getD 0).toNat = 0 := by omega
    have z2 : ((([] : List T).take (hh.getD 0).toNat).drop (l.getD 0).toNat) = [] := by simp
    rw [z2, z]
    exact RepT.sl ex' j.size [] b' o' _ (fun _ _ => undef) (Nat.zero_le _) (fun e => by
     have m5 := m4 e
     simp only [List.length_nil, Int.natCast_zero] at m5
     show _ - _ = 0
     omega) (fun i x hi => by simp at hi) (fun i x j c hi => by simp at hi) (fun i x j c hi => by simp at hi) sp' (.inr rfl)
   have hrun : (Instr.sliceAt xt (.slice (some ⟨b, o, none⟩) xs.length cap) (lo.map (evalA a)) (hi.map (evalA a)) (mx.map (evalA a))).run P w =
     .ok (.slice (some (if (m.getD cap).toNat = (l.getD 0).toNat then ⟨b, o, none⟩ else ⟨b, o + (l.getD 0).toNat * j.size, none⟩)) ((hh.getD xs.length).toNat - (l.getD 0).toNat) ((m.getD cap).toNat - (l.getD 0).toNat)) w := by
    simp only [Instr.sliceAt, Sem.run_bind, run_underlying h2, Result.andThen_ok, Instr.slice, hbr, run_sizeOf' j1, Sem.run_pure]
    split <;> simp [addr_add, j3]
   refine done_same X hrun (.t _ _ ?_)
   have hh2 : (hh.getD xs.length).toNat <= xs.length := by omega
   have hl2 : (l.getD 0).toNat <= (hh.getD xs.length).toNat := by omega
   have key := rep_sl_sub hrep ex' (l.getD 0).toNat (hh.getD xs.length).toNat ((m.getD cap).toNat - (l.getD 0).toNat)
    (if (m.getD cap).toNat = (l.getD 0).toNat then o else o + (l.getD 0).toNat * j.size) hl2 hh2 (by omega) (fun e => by rw [m4 e]) (fun hlt => by rw [if_neg (by omega)])
   by_cases hm : (m.getD cap).toNat = (l.getD 0).toNat
   . rw [if_pos hm] at key ⊢; exact key
   . rw [if_neg hm] at key ⊢; exact key
 . 
   rename_i id gen off len sh
   simp only at hb
   split at hb
   case isFalse => cases hb
   rename_i hc
   obtain ⟨hc1, hc2, hc3⟩ := hc
   obtain ⟨b, o, cap, m0, hv, hlc, hm0, hgen, hat⟩ := repV_msl rx
   have hu : ∃ e, u = .slice e /\ ∃ j, cfg.ti e = some j /\ sh = j.sh := by
    cases hd : dOf u <;> rw [hd] at hfit <;> simp [sliceFits] at hfit
    rename_i e
    cases he : cfg.ti e with
    | none => rw [he] at hfit; simp at hfit
    | some j => rw [he] at hfit; exact ⟨e, dOf_slice hd, j, he, by simpa using hfit⟩
   obtain ⟨e, rfl, j, hj, rfl⟩ := hu
   obtain ⟨jinfo, _, j1, _, j3, _⟩ := ti_spec X hj
   have hsh := shSize_sh X.c hj
   rw [hv]
   have hrun : 0 <= m.getD cap -> m.getD cap <= cap -> (m.isSome = true -> hh.isSome = true) -> hh.getD len <= m.getD cap -> (Instr.sliceAt xt (.slice (some ⟨b, o, none⟩) len cap) (lo.map (evalA a)) (hi.map (evalA a)) (mx.map (evalA a))).run P w =
     .ok (.slice (some (if (m.getD cap).toNat = (l.getD 0).toNat then ⟨b, o, none⟩ else ⟨b, o + (l.getD 0).toNat * j.size, none⟩)) ((hh.getD len).toNat - (l.getD 0).toNat) ((m.getD cap).toNat - (l.getD 0).toNat)) w := by
    intro m0 m1 m2 m3
    have hbr := bounds_run (P := P) (w := w) (isSlice := true) (len := len) (cap := cap) rl rh rm m0 m1 m2 m3 hc1 hc2
    simp only [Instr.sliceAt, Sem.run_bind, run_underlying h2, Result.andThen_ok, Instr.slice, hbr, run_sizeOf' j1, Sem.run_pure]
    split <;> simp [addr_add, j3]
   split at hb
   . cases hb
     simp only [Option.getD_none, Option.isSome_none, Bool.false_eq_true, false_implies, true_implies] at hrun
     have hr := hrun (by omega) (by omega) (by omega)
     have hl2 : (l.getD 0).toNat <= cap := by omega
     refine done_same X hr ?_
     have key : RepV w S M (.msl id gen (off + (l.getD 0).toNat * shSize j.sh) ((hh.getD len).toNat - (l.getD 0).toNat) j.sh)
       (.slice (some ⟨b, if ((cap : Int)).toNat = (l.getD 0).toNat then o else o + (l.getD 0).toNat * j.size, none⟩) ((hh.getD len).toNat - (l.getD 0).toNat) (((cap : Int)).toNat - (l.getD 0).toNat)) := by
      refine .msl _ _ _ _ _ _ _ _ (by omega) m0 hm0 hgen fun e => ?_
      obtain ⟨a1, a2, a3, a4⟩ := hat e
      have e1 : ((cap : Int)).toNat = cap := by simp
      have hsub : (cap - (l.getD 0).toNat) * shSize j.sh = cap * shSize j.sh - (l.getD 0).toNat * shSize j.sh := Nat.sub_mul _ _ _
      have hle : (l.getD 0).toNat * shSize j.sh <= cap * shSize j.sh := Nat.mul_le_mul_right _ hl2
      rw [e1]
      refine ⟨a1, ?_, by omega, by omega⟩
      by_cases hcl : cap = (l.getD 0).toNat
      . left; omega
      . right
        rw [if_neg hcl]
        rcases a2 with a2 | a2
        . omega
        . rw [a2, hsh]; omega
     by_cases hm : ((cap : Int)).toNat = (l.getD 0).toNat
     . rw [if_pos hm] at key ⊢; exact key
     . rw [if_neg hm] at key ⊢; exact key
   . rename_i mm
     split at hb
     case isFalse => cases hb
     rename_i hmh
     obtain ⟨q1, q2, q3⟩ := hmh
     cases hb
     subst q1
     simp only [Option.getD_some, Option.isSome_some, true_implies] at hrun
     have hr := hrun (by omega) (by omega) q3 (by omega)
     have z1 : (l.getD 0).toNat = 0 := by omega
     have z2 : (hh.getD len).toNat = 0 := by omega
     rw [z1, z2] at hr
     refine done_same X hr (.t _ _ ?_)
     have := RepT.sl (w := w) (S := S) true (shSize j.sh) [] b o 0 (fun _ _ => undef) (by simp) (fun _ => rfl) (fun i x hi => by simp at hi) (fun i x j c hi => by simp at hi) (fun i x j c hi => by simp at hi) none (.inl rfl)
     simpa using this
 . cases hb
end
end Go.Apex
