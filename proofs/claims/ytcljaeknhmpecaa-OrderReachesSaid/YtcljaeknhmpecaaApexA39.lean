import Derived.Test.YtcljaeknhmpecaaApexA38
set_option linter.all false
set_option linter.unusedVariables false
set_option linter.unusedSimpArgs false
set_option linter.unusedSectionVars false
/- Operations on data that are not told: they do what the evaluator does (1). -/
namespace Go.Apex
open Go
section
variable {cfg : Cfg} {ts : Ts} {hb : Rd} {rows : List Nat} {slot : Nat}

theorem cond_den {α : Type} {b : Bool} {x : Dt α} {r : α} (h : Dt.den (bif b then x else Dt.fail) = some r) : b = true ∧ x.den = some r := by
  cases b with
  | true => exact ⟨rfl, h⟩
  | false => cases h
theorem sInt_ok {op : BinOp} {k k' : IntKind} {n m : Int} {v : V} (xt : TypeId) (h : (sInt op k n k' m).den = some v) : ((semPure (Go.binOp op xt (.int k n) (.int k' m))).bind ofCell).map V.t = some v := by
  have gen : ∀ {op : BinOp}, (∀ xt, Go.binOp op xt (.int k n) (.int k' m) = Go.binOp op 0 (.int k n) (.int k' m)) → (Dt.opt Int (iOp op k n k' m) fun r => .ret (.t (.int k r))).den = some v → ((semPure (Go.binOp op xt (.int k n) (.int k' m))).bind ofCell).map V.t = some v := by
    intro op hop h
    obtain ⟨r, h1, h2⟩ := Dt.opt_some h
    cases h2
    unfold iOp at h1
    rw [hop]
    split at h1
    · rename_i k2 n2 hs
      split at h1
      · rename_i e
        cases h1
        rw [hs, e]; rfl
      · cases h1
    · cases h1
  cases op <;> first
    | exact gen (fun _ => rfl) h
    | (simp only [sInt] at h
       by_cases hk : k = k'
       case neg => simp only [hk, decide_false, cond_false] at h; cases h
       subst hk
       simp only [decide_true, cond_true] at h
       cases h
       simp [Go.binOp, Op.intArith, Op.intCmp, semPure, pure, ofCell, iAdd, iSub, iMul, iEq, iLt, iLe, bNot]
       try rfl)

theorem sStr_ok {op : BinOp} {a b : List UInt8} {v : V} (h : (sStr op a b).den = some v) : (strOp op a b).map V.t = some v := by
  cases op <;> simp only [sStr] at h <;> first
    | (cases h; simp [strOp, sEq, sLt, bNot])
    | (cases h; done)
    | (obtain ⟨h1, h2⟩ := Dt.chk_some h; cases h2; simp only [strOp, if_pos (of_decide_eq_true h1)]; rfl)
theorem sEqCell_ok {d : D} {x y : V} {e : Bool} (h : (sEqCell d x y).den = some e) : eqCell d x y = some e := by
  unfold sEqCell at h
  split at h
  · split at h
    · split at h
      · replace h := cond_den h; obtain ⟨h1, h⟩ := h
        cases h
        simp only [eqCell, if_pos (of_decide_eq_true h1), iEq]
      · cases h
    · split at h
      · cases h; rfl
      · cases h
    · split at h
      · cases h; rfl
      · cases h
    · cases h
  · cases h
theorem sEqFields_ok {ti : TypeId → Option TI} {a b : List V} : ∀ {fs : List (TypeId × Nat × Bool)} {e : Bool}, (sEqFields ti a b fs).den = some e → eqFields ti a b fs = some e
  | [], e, h => by cases h; rfl
  | (t, off, blank) :: rest, e, h => by
    unfold sEqFields at h
    unfold eqFields
    cases blank with
    | true => cases h
    | false =>
      simp only [cond_false] at h
      replace h := Dt.lift_bind_some h; obtain ⟨i, h1, h⟩ := h
      rw [h1]
      simp only [Option.bind_some, Bool.false_eq_true, if_false]
      cases hi : (i.agg || i.d.isIface) with
      | true => rw [hi] at h; cases h
      | false =>
        rw [hi] at h
        simp only [cond_false] at h
        replace h := Dt.lift_bind_some h; obtain ⟨x, h2, h⟩ := h
        replace h := Dt.lift_bind_some h; obtain ⟨y, h3, h⟩ := h
        replace h := Dt.bind_some h; obtain ⟨e1, h4, h⟩ := h
        replace h := Dt.bind_some h; obtain ⟨r, h5, h⟩ := h
        cases h
        simp only [Bool.false_eq_true, if_false, h2, h3, Option.bind_some, sEqCell_ok h4, sEqFields_ok h5, bAnd]
        cases e1 <;> rfl
def nilVal : D → T
  | .ptr _ => .nilp
  | .slice _ => .nils
  | .map _ _ => .nilm
  | .func => .nilf
  | _ => .nili
theorem nilConstOf_ok {d : D} {x : Operand} (h : nilConstOf d x = true) : ev ts x = some (.t (nilVal d)) ∧ ((∃ e, d = .ptr e) ∨ (∃ e, d = .slice e) ∨ (∃ a b, d = .map a b) ∨ d = .func ∨ (d = .iface ∧ nilConst x = true)) := by
  unfold nilConstOf at h
  split at h
  · exact ⟨rfl, .inl ⟨_, rfl⟩⟩
  · exact ⟨rfl, .inr (.inl ⟨_, rfl⟩)⟩
  · exact ⟨rfl, .inr (.inr (.inl ⟨_, _, rfl⟩))⟩
  · exact ⟨rfl, .inr (.inr (.inr (.inl rfl)))⟩
  · exact ⟨rfl, .inr (.inr (.inr (.inr ⟨rfl, rfl⟩)))⟩
  · cases h
theorem sNil_ok {d : D} {v : V} {e : Bool} (hd : (∃ e, d = .ptr e) ∨ (∃ e, d = .slice e) ∨ (∃ a b, d = .map a b) ∨ d = .func ∨ d = .iface) (h : (sNil d v).den = some e) : eqCell d v (.t (nilVal d)) = some e ∧ eqCell d (.t (nilVal d)) v = some e := by
  rcases hd with ⟨_, rfl⟩ | ⟨_, rfl⟩ | ⟨_, _, rfl⟩ | rfl | rfl <;> unfold sNil at h <;> split at h <;> first
    | (replace h := Dt.opt_some h; obtain ⟨b, h1, h⟩ := h
       cases h
       unfold nilT at h1
       split at h1 <;> first
         | (rename_i q _ _; cases h1; constructor <;> rfl)
         | (cases h1)
         | skip)
    | (cases h; constructor <;> rfl)
    | (cases h)
    | skip
  all_goals (first | (simp_all; done) | skip)
  all_goals
    rename_i he1 he2
    simp only [reduceCtorEq] at he1
theorem sBool2_ok {op : BinOp} {b : Bool} {v : V} (h : (sBool2 op b).den = some v) : (op = .eql ∧ v = .t (.bool b)) ∨ (op = .neq ∧ v = .t (.bool (!b))) := by
  cases op <;> simp only [sBool2] at h <;> first | (cases h; exact .inl ⟨rfl, rfl⟩) | (cases h; exact .inr ⟨rfl, rfl⟩) | cases h
end
end Go.Apex
