import Derived.Test.YtcljaeknhmpecaaGreatApexA6
import Derived.Lib.Strings
import Derived.Lib.SmallJoins
set_option linter.all false
namespace Go.Apex
open Go Go.RowKit
variable [Globs]
section
variable {cfg : Cfg} {P : Program} {B0 : Nat -> Prop} {n0 : Nat -> Prop} {w : World} {S : Nat -> Prop} {M : MM} {h : Heap} {ts : Ts} {a : Array Value} {rd : Rd} {slot : Nat}
theorem repT_int {k : IntKind} {n : Int} {v : Value} (h : RepT w S (.int k n) v) : v = .int k n := by cases h; rfl
theorem repT_bool {b : Bool} {v : Value} (h : RepT w S (.bool b) v) : v = .bool b := by cases h; rfl
theorem repT_str {s : List UInt8} {v : Value} (h : RepT w S (.str s) v) : ∃ ba : ByteArray, v = .string ba /\ ba.data.toList = s := by cases h; exact ⟨_, rfl, by assumption⟩
theorem asI_rep {v : V} {n : Int} {c : Value} (ha : asI v = some n) (h : RepV w S M v c) : ∃ k, c = .int k n /\ v = .t (.int k n) := by
 cases v with
 | t x => cases x <;> simp [asI] at ha; subst ha; exact ⟨_, repT_int (repV_t h), rfl⟩
 | _ => cases ha
theorem semPure_run {s : Sem Value} {v : Value} (hs : semPure s = some v) (w : World) : s.run P w = .ok v w := by
 cases s <;> simp [semPure] at hs
 subst hs
 rfl
theorem bytes_beq (p q : ByteArray) : (p == q) = (p.data.toList == q.data.toList) := by
 cases p; cases q
 rename_i a b
 show (a == b) = (a.toList == b.toList)
 rw [Bool.eq_iff_iff]; simp
theorem eqNil_spec {isNil isSome : V -> Bool} {x y : V} {e : Bool} (he : eqNil isNil isSome x y = some e) :
  (isNil x = true /\ isNil y = true /\ e = true) \/ (isNil x = true /\ isSome y = true /\ e = false) \/ (isSome x = true /\ isNil y = true /\ e = false) := by
 unfold eqNil at he
 split at he
 . rename_i h1
   split at he
   . rename_i h2; cases he; exact .inl ⟨h1, h2, rfl⟩
   . split at he
     . rename_i h3; cases he; exact .inr (.inl ⟨h1, h3, rfl⟩)
     . cases he
 . split at he
   . rename_i h3
     simp only [Bool.and_eq_true] at h3
     cases he; exact .inr (.inr ⟨h3.1, h3.2, rfl⟩)
   . cases he
theorem rep_nilp {x : V} {v : Value} (hx : RepV w S M x v) (hn : isNilp x = true) : v = .pointer none := by
 cases hx with
 | t x v h => cases h <;> first | rfl | (cases hn)
 | _ => cases hn
theorem rep_ptr {x : V} {v : Value} (hx : RepV w S M x v) (hn : isPtr x = true) : ∃ b o, v = .pointer (some ⟨b, o, none⟩) := by
 cases hx with
 | t x v h => cases h <;> first | exact ⟨_, _, rfl⟩ | (cases hn)
 | ref => exact ⟨_, _, rfl⟩
 | _ => cases hn
theorem rep_nils {x : V} {v : Value} (hx : RepV w S M x v) (hn : isNils x = true) : v = .slice none 0 0 := by
 cases hx with
 | t x v h => cases h <;> first | rfl | (cases hn)
 | _ => cases hn
theorem rep_sl {x : V} {v : Value} (hx : RepV w S M x v) (hn : isSl x = true) : ∃ b o n c sp, v = .slice (some ⟨b, o, sp⟩) n c := by
 cases hx with
 | t x v h => cases h <;> first | exact ⟨_, _, _, _, _, rfl⟩ | (cases hn)
 | msl => exact ⟨_, _, _, _, _, rfl⟩
 | _ => cases hn
theorem rep_nilm {x : V} {v : Value} (hx : RepV w S M x v) (hn : isNilm x = true) : v = .map none := by
 cases hx with
 | t x v h => cases h <;> first | rfl | (cases hn)
 | _ => cases hn
theorem rep_mp {x : V} {v : Value} (hx : RepV w S M x v) (hn : isMp x = true) : ∃ b, v = .map (some b) := by
 cases hx with
 | t x v h => cases h <;> first | exact ⟨_, rfl⟩ | (cases hn)
 | mmp => exact ⟨_, rfl⟩
 | _ => cases hn
theorem rep_nilf {x : V} {v : Value} (hx : RepV w S M x v) (hn : isNilf x = true) : v = .nilFunc := by
 cases hx with
 | t x v h => cases h <;> first | rfl | (cases hn)
 | _ => cases hn
theorem rep_fn {x : V} {v : Value} (hx : RepV w S M x v) (hn : isFn x = true) : ∃ f a b, v = .func f a b := by
 cases hx with
 | t x v h => cases h <;> first | exact ⟨_, _, _, rfl⟩ | (cases hn)
 | fn => exact ⟨_, _, _, rfl⟩
 | yld => exact ⟨_, _, _, rfl⟩
 | _ => cases hn
theorem rep_nili {x : V} {v : Value} (hx : RepV w S M x v) (hn : isNili x = true) : v = .nilIface := by
 cases hx with
 | t x v h => cases h <;> first | rfl | (cases hn)
 | _ => cases hn
theorem rep_if {x : V} {v : Value} (hx : RepV w S M x v) (hn : isIf x = true) : ∃ t u, v = .iface t u := by
 cases hx with
 | t x v h => cases h <;> first | exact ⟨_, _, rfl⟩ | (cases hn)
 | iface => exact ⟨_, _, rfl⟩
 | _ => cases hn
theorem eqCell_run {t : TypeId} {u : TypeDesc} (hu : P.underlying t = some u) (d : Nat) {x y : V} {xv yv : Value} {e : Bool} (hx : RepV w S M x xv) (hy : RepV w S M y yv) (he : eqCell (dOf u) x y = some e) :
  (Op.equalIn (d + 1) t xv yv).run P w = .ok e w := by
 unfold eqCell at he
 cases u <;> simp only [dOf] at he <;> try (cases he; done)
 case bool =>
  split at he
  . cases he
    rw [repT_bool (repV_t hx), repT_bool (repV_t hy)]
    simp [Op.equalIn, run_underlying hu]
  . cases he
 case int k0 =>
  split at he
  . rename_i k n k' n'
    split at he
    . rename_i hk
      cases he
      subst hk
      rw [repT_int (repV_t hx), repT_int (repV_t hy)]
      simp [Op.equalIn, run_underlying hu]
    . cases he
  . cases he
 case string =>
  split at he
  . cases he
    obtain ⟨p, rfl, hp⟩ := repT_str (repV_t hx)
    obtain ⟨q, rfl, hq⟩ := repT_str (repV_t hy)
    simp only [Op.equalIn, Sem.run_bind, run_underlying hu, Result.andThen_ok, Sem.run_pure, Result.ok.injEq, and_true]
    rw [<- hp, <- hq]; exact bytes_beq p q
  . cases he
 case pointer elem =>
  rcases eqNil_spec he with ⟨h1, h2, rfl⟩ | ⟨h1, h2, rfl⟩ | ⟨h1, h2, rfl⟩
  . rw [rep_nilp hx h1, rep_nilp hy h2]; simp [Op.equalIn, run_underlying hu]
  . obtain ⟨_, _, rfl⟩ := rep_ptr hy h2
    rw [rep_nilp hx h1]; simp [Op.equalIn, run_underlying hu]
  . obtain ⟨_, _, rfl⟩ := rep_ptr hx h1
    rw [rep_nilp hy h2]; simp [Op.equalIn, run_underlying hu]
 case slice elem =>
  rcases eqNil_spec he with ⟨h1, h2, rfl⟩ | ⟨h1, h2, rfl⟩ | ⟨h1, h2, rfl⟩
  . rw [rep_nils hx h1, rep_nils hy h2]; simp [Op.equalIn, run_underlying hu]
  . obtain ⟨_, _, _, _, _, rfl⟩ := rep_sl hy h2
    rw [rep_nils hx h1]; simp [Op.equalIn, run_underlying hu]
  . obtain ⟨_, _, _, _, _, rfl⟩ := rep_sl hx h1
    rw [rep_nils hy h2]; simp [Op.equalIn, run_underlying hu]
 case map k elem =>
  rcases eqNil_spec he with ⟨h1, h2, rfl⟩ | ⟨h1, h2, rfl⟩ | ⟨h1, h2, rfl⟩
  . rw [rep_nilm hx h1, rep_nilm hy h2]; simp [Op.equalIn, run_underlying hu]
  . obtain ⟨_, rfl⟩ := rep_mp hy h2
    rw [rep_nilm hx h1]; simp [Op.equalIn, run_underlying hu]
  . obtain ⟨_, rfl⟩ := rep_mp hx h1
    rw [rep_nilm hy h2]; simp [Op.equalIn, run_underlying hu]
 case func ps rs vd =>
  rcases eqNil_spec he with ⟨h1, h2, rfl⟩ | ⟨h1, h2, rfl⟩ | ⟨h1, h2, rfl⟩
  . rw [rep_nilf hx h1, rep_nilf hy h2]; simp [Op.equalIn, run_underlying hu]
  . obtain ⟨_, _, _, rfl⟩ := rep_fn hy h2
    rw [rep_nilf hx h1]; simp [Op.equalIn, run_underlying hu]
  . obtain ⟨_, _, _, rfl⟩ := rep_fn hx h1
    rw [rep_nilf hy h2]; simp [Op.equalIn, run_underlying hu]
 case interface ms =>
  rcases eqNil_spec he with ⟨h1, h2, rfl⟩ | ⟨h1, h2, rfl⟩ | ⟨h1, h2, rfl⟩
  . rw [rep_nili hx h1, rep_nili hy h2]; simp [Op.equalIn, run_underlying hu]
  . obtain ⟨_, _, rfl⟩ := rep_if hy h2
    rw [rep_nili hx h1]; simp [Op.equalIn, run_underlying hu]
  . obtain ⟨_, _, rfl⟩ := rep_if hx h1
    rw [rep_nili hy h2]; simp [Op.equalIn, run_underlying hu]
theorem part_run (c : CfgTI cfg P) {t : TypeId} {i : TI} (hi : cfg.ti t = some i) (ha : i.agg = false) {xs : List V} {xv : Array Value} (hx : RepVL w S M xs xv.toList) {off : Nat} {x : V} (hg : xs[off]? = some x) :
  ∃ v, (part t xv off).run P w = .ok v w /\ RepV w S M x v := by
 obtain ⟨info, u, h1, h2, h3, h4, h5, h6, h7, _⟩ := tiOf_spec (c.ti t i hi)
 obtain ⟨v, hv, hr⟩ := hx.get hg
 have hv' : xv[off]? = some v := by simpa using hv
 refine ⟨v, ?_, hr⟩
 simp only [part, Sem.run_bind, run_isAgg h2, Result.andThen_ok, <- h5, ha, Bool.false_eq_true, if_false, hv', Sem.run_pure]
theorem eqFields_run (c : CfgTI cfg P) (d : Nat) {xs ys : List V} {xv yv : Array Value} (hx : RepVL w S M xs xv.toList) (hy : RepVL w S M ys yv.toList) :
  ∀ (F : List Field) (e : Bool), eqFields cfg.ti xs ys (F.map fun f => (f.type, f.offset, f.name == "_")) = some e →
   Sem.run P (forIn F (none, ()) fun (f : Field) (__s : Option Bool × Unit) =>
      if f.name ≠ "_" then do
       let __do_lift <- part f.type xv f.offset
       let __do_lift_1 <- part f.type yv f.offset
       let __do_lift <- Op.equalIn (d + 1) f.type __do_lift __do_lift_1
       if (!__do_lift) = true then pure (ForInStep.done (some false, ())) else pure (ForInStep.yield (none, ()))
      else pure (ForInStep.yield (none, ()))) w = .ok (if e then (none, ()) else (some false, ())) w
 | [], e, he => by simp only [List.map_nil, eqFields, oI] at he; subst he; rfl
 | f :: F, e, he => by
  simp only [List.map_cons, eqFields] at he
  split at he
  . cases he
  . rename_i hb
    simp only [oB] at he
    obtain ⟨i, hi, he⟩ := he
    split at he
    . cases he
    . rename_i hag
      simp only [Bool.or_eq_true, not_or, Bool.not_eq_true] at hag
      simp only [oB] at he
      obtain ⟨x, hx1, y, hy1, b, hb1, he⟩ := he
      obtain ⟨info, u, h1, h2, h3, h4, h5, h6, h7, _⟩ := tiOf_spec (c.ti _ i hi)
      obtain ⟨v, hv, hvr⟩ := part_run c hi hag.1 hx hx1
      obtain ⟨v', hv', hvr'⟩ := part_run c hi hag.1 hy hy1
      rw [h7] at hb1
      have heq := eqCell_run h2 d hvr hvr' hb1
      have hnm : f.name ≠ "_" := by simpa using hb
      simp only [List.forIn_cons, Sem.run_bind, if_pos hnm, hv, Result.andThen_ok, hv', heq]
      cases b with
      | false =>
       simp only [Bool.false_eq_true, if_false, oI] at he
       subst he
       simp
      | true =>
       simp only [if_true] at he
       have ih := eqFields_run c d hx hy F e he
       simp only [Bool.not_true, Bool.false_eq_true, if_false, Sem.run_pure, Result.andThen_ok]
       exact ih
theorem eqV_run (c : CfgTI cfg P) {t : TypeId} {x y : V} {xv yv : Value} {e : Bool} (hx : RepV w S M x xv) (hy : RepV w S M y yv) (he : eqV cfg.ti t x y = some e) :
  (Op.equal t xv yv).run P w = .ok e w := by
 simp only [eqV, oB] at he
 obtain ⟨i, hi, he⟩ := he
 obtain ⟨info, u, h1, h2, h3, h4, h5, h6, h7, h8⟩ := tiOf_spec (c.ti t i hi)
 split at he
 . rename_i fs hd
   split at he
   . rename_i hc
     simp only [Bool.and_eq_true] at hc
     have ex := repV_agg hx hc.1.1
     have ey := repV_agg hy hc.1.2
     rw [h7] at hd
     cases u <;> simp only [dOf] at hd <;> cases hd
     rename_i F
     have hst : P.stoodInHeld t = false := by
      have := hc.2
      rw [h8] at this
      simp at this
      exact this.2
     rw [ex, ey]
     have gen : ∀ k d : Nat, k = d + 1 -> (Op.equalIn (k + 1) t (.agg xv.cells) (.agg yv.cells)).run P w = .ok e w := by
      intro k d hk
      have hrun := eqFields_run (P := P) c d (repV_cells hx (isAgg_junk hc.1.1)) (repV_cells hy (isAgg_junk hc.1.2)) F.toList e he
      rw [<- hk] at hrun
      simp only [Op.equalIn, Sem.run_bind, run_underlying h2, Result.andThen_ok, run_program, hst, Bool.false_eq_true, if_false]
      rw [<- Array.forIn_toList, hrun]
      cases e <;> rfl
     exact gen 9999 9998 rfl
   . cases he
 . rw [h7] at he
   exact eqCell_run h2 9999 hx hy he
end
end Go.Apex
