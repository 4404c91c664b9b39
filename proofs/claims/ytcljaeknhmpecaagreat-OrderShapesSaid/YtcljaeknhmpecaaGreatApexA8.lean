import Derived.Test.YtcljaeknhmpecaaGreatApexA7
set_option linter.all false
namespace Go.Apex
open Go Go.RowKit
variable [Globs]
section
variable {cfg : Cfg} {P : Program} {B0 : Nat -> Prop} {n0 : Nat -> Prop} {w : World} {S : Nat -> Prop} {M : MM} {h : Heap} {ts : Ts} {a : Array Value} {rd : Rd} {slot : Nat}
theorem size_data (s : ByteArray) : s.size = s.data.toList.length := by rw [Array.length_toList]; rfl
theorem strOp_run {op : BinOp} {p q : ByteArray} {r : T} (hr : strOp op p.data.toList q.data.toList = some r) : ∃ rv, (Op.stringOp op p q).run P w = .ok rv w /\ RepT w S r rv := by
 have e1 : p.toList = p.data.toList := Lib.toList_data p
 have e2 : q.toList = q.data.toList := Lib.toList_data q
 cases op <;> simp only [strOp] at hr <;> try (cases hr; done)
 case add =>
  split at hr
  . rename_i hle
    cases hr
    refine ⟨.string (p ++ q), ?_, .str _ _ (Joins.data_append p q)⟩
    have : ¬ (((p.size + q.size : Nat) : Int) > IntKind.i64.max) := by
     rw [size_data, size_data]
     have : IntKind.i64.max = 9223372036854775807 := rfl
     rw [this]; omega
    simp only [Op.stringOp, if_neg this, Sem.run_pure]
  . cases hr
 all_goals
  cases hr
  refine ⟨_, by simp only [Op.stringOp, e1, e2]; rfl, .bool _⟩
def plainEq : Value -> Prop
 | .int .. | .float .. | .complex .. | .string _ => False
 | _ => True
theorem binOp_eql {t : TypeId} {x y : Value} (h : plainEq x) : binOp .eql t x y = (do pure (.bool (<- Op.equal t x y))) := by
 cases x <;> first | (exact absurd h id) | rfl
theorem binOp_neq {t : TypeId} {x y : Value} (h : plainEq x) : binOp .neq t x y = (do pure (.bool (!(<- Op.equal t x y)))) := by
 cases x <;> first | (exact absurd h id) | rfl
theorem eqV_nojunk {t : TypeId} {xa ya : V} {e : Bool} (he : eqV cfg.ti t xa ya = some e) : xa.isJunk = false /\ ya.isJunk = false := by
 simp only [eqV, oB] at he
 obtain ⟨i, hi, he⟩ := he
 constructor
 . cases xa <;> first | rfl | skip
   exfalso
   revert he
   cases i.d <;> simp [eqCell, eqNil, isNilp, isPtr, isNils, isSl, isNilm, isMp, isNilf, isFn, isNili, isIf, V.isAgg]
 . cases ya <;> first | rfl | skip
   exfalso
   revert he
   cases i.d <;> simp [eqCell, eqNil, isNilp, isPtr, isNils, isSl, isNilm, isMp, isNilf, isFn, isNili, isIf, V.isAgg]
theorem eqV_plain {t : TypeId} {xa ya : V} {xv : Value} {e : Bool} (rx : RepV w S M xa xv) (he : eqV cfg.ti t xa ya = some e)
  (hni : ∀ (k : IntKind) (a : Int) (k' : IntKind) (b : Int), xa = V.t (T.int k a) -> ya = V.t (T.int k' b) -> False)
  (hns : ∀ (a b : List UInt8), xa = V.t (T.str a) -> ya = V.t (T.str b) -> False) : plainEq xv := by
 have hj := (eqV_nojunk he).1
 simp only [eqV, oB] at he
 obtain ⟨i, hi, he⟩ := he
 cases rx with
 | t x v hx =>
  cases hx <;> first
   | trivial
   | (exfalso
      revert he
      cases i.d <;> simp [eqCell, eqNil, isNilp, isPtr, isNils, isSl, isNilm, isMp, isNilf, isFn, isNili, isIf, V.isAgg]
      all_goals
       cases ya <;> simp
       rename_i y
       cases y <;> simp <;> intros <;> first | exact absurd rfl (hni _ _ _ _ rfl) | exact absurd rfl (hns _ _ rfl) | exact hni _ _ _ _ rfl rfl | exact hns _ _ rfl rfl)
 | junk => cases hj
 | _ => trivial
theorem guard_run (c : CfgTI cfg P) {op : BinOp} {t : TypeId} {x y : Operand} {xa ya : V} {xv yv : Value} {e : Bool} (rx : RepV w S M xa xv) (ry : RepV w S M ya yv) (he : eqV cfg.ti t xa ya = some e)
  (hg : (nilConst x || nilConst y || !((cfg.ti t).any fun i => i.d.isIface)) = true) : (eqGuard op t x y xv yv).run P w = .ok () w := by
 have main : (op = .eql \/ op = .neq) -> (eqGuard op t x y xv yv).run P w = .ok () w := by
  intro hop
  have he0 := he
  obtain ⟨jx, jy⟩ := eqV_nojunk he
  simp only [eqV, oB] at he
  obtain ⟨i, hi, he⟩ := he
  obtain ⟨info, u, h1, h2, h3, h4, h5, h6, h7, h8⟩ := tiOf_spec (c.ti t i hi)
  by_cases hnil : xv = .nilIface /\ yv = .nilIface
  . obtain ⟨rfl, rfl⟩ := hnil
    have k1 : ∀ {z : V}, RepV w S M z .nilIface -> z.isJunk = false -> z = .t .nili := by
     intro z hz hj
     cases hz with
     | t z _ hz => cases hz; rfl
     | junk => cases hj
    have := k1 rx jx; subst this
    have := k1 ry jy; subst this
    have hdi : i.d.isIface = true := by
     revert he
     cases i.d <;> simp [D.isIface, eqCell, eqNil, isNilp, isPtr, isNils, isSl, isNilm, isMp, isNilf, isFn, V.isAgg]
    rw [hi] at hg
    simp only [Option.any_some, hdi, Bool.not_true, Bool.or_false, Bool.or_eq_true] at hg
    have hc : (∃ v, x = .const v) \/ (∃ v, y = .const v) := by
     rcases hg with hg | hg
     . cases x <;> simp [nilConst] at hg; exact .inl ⟨_, rfl⟩
     . cases y <;> simp [nilConst] at hg; exact .inr ⟨_, rfl⟩
    rcases hc with ⟨_, rfl⟩ | ⟨_, rfl⟩ <;> rcases hop with rfl | rfl <;> simp [eqGuard]
  . by_cases hag : ∃ p q, xv = .agg p /\ yv = .agg q
    . obtain ⟨p, q, rfl, rfl⟩ := hag
      have k1 : ∀ {z : V} {zs : Array Value}, RepV w S M z (.agg zs) -> z.isJunk = false -> z.isAgg = true /\ ∀ d, (∀ fs, d ≠ D.struct fs) -> ∀ y, eqCell d z y = none := by
       intro z zs hz hj
       cases hz with
       | junk => cases hj
       | t z _ hz => cases hz; exact ⟨rfl, fun d hd y => by cases d <;> simp [eqCell, eqNil, isNilp, isPtr, isNils, isSl, isNilm, isMp, isNilf, isFn, isNili, isIf]⟩
       | agg => exact ⟨rfl, fun d hd y => by cases d <;> simp [eqCell, eqNil, isNilp, isPtr, isNils, isSl, isNilm, isMp, isNilf, isFn, isNili, isIf]⟩
      have hstr : i.eqok = true := by
       split at he
       . split at he
         . rename_i hc; simp only [Bool.and_eq_true] at hc; exact hc.2
         . cases he
       . rename_i hd
         rw [(k1 rx jx).2 i.d (fun fs e => hd fs e)] at he
         cases he
      rw [h8] at hstr
      simp only [Bool.and_eq_true, Bool.not_eq_true'] at hstr
      rcases hop with rfl | rfl <;> simp [eqGuard, hstr.1]
    . have : ∀ o : BinOp, (o = .eql \/ o = .neq) -> (eqGuard o t x y xv yv).run P w = .ok () w := by
       rintro o (rfl | rfl)
       all_goals
        unfold eqGuard
        simp only [Bool.not_true, Bool.false_eq_true, if_false]
        split
        . exact absurd ⟨rfl, rfl⟩ hnil
        . exact absurd ⟨_, _, rfl, rfl⟩ hag
        . rfl
      exact this op hop
 by_cases hop : op = .eql \/ op = .neq
 . exact main hop
 . cases op <;> first | rfl | (exact absurd (.inl rfl) hop) | (exact absurd (.inr rfl) hop)
theorem bin_run (X : Ctx cfg P B0 n0 w S M h ts a rd slot) {op : BinOp} {xt : TypeId} {x y : Operand} {v : V} {ob : Option Obj} (hq : qBin cfg ts op xt x y = some (v, ob)) :
  QDone P B0 n0 w S M h slot (do eqGuard op xt x y (evalA a x) (evalA a y); binOp op xt (evalA a x) (evalA a y)) v ob := by
 simp only [qBin, oB] at hq
 obtain ⟨xa, hx, ya, hy, hq⟩ := hq
 have rx := ev_rep X.t hx
 have ry := ev_rep X.t hy
 split at hq
 case isFalse => cases hq
 rename_i hg
 obtain ⟨hb, hob⟩ := one_some hq
 clear hq
 subst hob
 have main : ∃ rv, (binOp op xt (evalA a x) (evalA a y)).run P w = .ok rv w /\ RepV w S M v rv /\ (eqGuard op xt x y (evalA a x) (evalA a y)).run P w = .ok () w := by
  unfold binV at hb
  split at hb
  . rename_i k n k' n'
    simp only [oM, oB] at hb
    obtain ⟨z, ⟨rv, hs, hz⟩, rfl⟩ := hb
    rw [repT_int (repV_t rx), repT_int (repV_t ry)]
    refine ⟨rv, semPure_run hs w, .t _ _ (ofCell_rep hz), ?_⟩
    cases op <;> rfl
  . rename_i p q
    simp only [oM] at hb
    obtain ⟨z, hz, rfl⟩ := hb
    obtain ⟨pb, hpb, hp⟩ := repT_str (repV_t rx)
    obtain ⟨qb, hqb, hq⟩ := repT_str (repV_t ry)
    subst hp hq
    rw [hpb, hqb]
    obtain ⟨rv, hr, hrep⟩ := strOp_run (P := P) (w := w) (S := S) hz
    refine ⟨rv, ?_, .t _ _ hrep, ?_⟩
    . cases op <;> first | exact hr | (simp [strOp] at hz)
    . cases op <;> rfl
  . rename_i hni hns
    split at hb
    . simp only [oM] at hb
      obtain ⟨e, he, rfl⟩ := hb
      refine ⟨.bool e, ?_, .t _ _ (.bool _), guard_run X.c rx ry he hg⟩
      rw [binOp_eql (eqV_plain rx he hni hns)]
      simp [eqV_run X.c rx ry he]
    . simp only [oM] at hb
      obtain ⟨e, he, rfl⟩ := hb
      refine ⟨.bool (!e), ?_, .t _ _ (.bool _), guard_run X.c rx ry he hg⟩
      rw [binOp_neq (eqV_plain rx he hni hns)]
      simp [eqV_run X.c rx ry he]
    . cases hb
 obtain ⟨rv, hr, hrep, hgd⟩ := main
 exact done_same X (by simp only [Sem.run_bind, hgd, Result.andThen_ok, hr]) hrep
end
end Go.Apex
