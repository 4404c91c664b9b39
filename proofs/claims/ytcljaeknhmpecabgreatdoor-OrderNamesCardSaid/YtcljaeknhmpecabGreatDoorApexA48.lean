/- Answers that were found once serve as tables: a second set of tables for the evaluator. -/
import Derived.Test.YtcljaeknhmpecabGreatDoorApexA47
set_option linter.all false
set_option linter.unusedVariables false
set_option linter.unusedSimpArgs false
set_option linter.unusedSectionVars false
namespace Go.Apex
open Go
noncomputable section
def memoT : List (FuncId × List T × T) → FuncId → List T → Option T
  | [], _, _ => none
  | (g, ys, r) :: t, f, xs => cond (Nat.beq g f && T.eqbL ys xs) (some r) (memoT t f xs)
/-- The evaluator with such a table. -/
def Cfg.memo (cfg : Cfg) (keys : List FuncId) (tab : List (FuncId × List T × T)) : Cfg :=
  { cfg with prim := fun f => match cfg.prim f with | some g => some g | none => cond (keys.contains f) (some (memoT tab f)) none }
end
theorem memoT_mem : ∀ {tab : List (FuncId × List T × T)} {f : FuncId} {xs : List T} {r : T}, memoT tab f xs = some r → (f, xs, r) ∈ tab
  | [], _, _, _, h => by cases h
  | (g, ys, q) :: t, f, xs, r, h => by
    simp only [memoT] at h
    cases hc : (Nat.beq g f && T.eqbL ys xs) <;> rw [hc] at h
    · exact List.mem_cons_of_mem _ (memoT_mem h)
    · simp only [cond_true, Option.some.injEq] at h
      rw [Bool.and_eq_true] at hc
      rw [Nat.eq_of_beq_eq_true hc.1, T.eqbL_eq _ _ hc.2, h]
      exact List.mem_cons_self
def MemoOK (cfg : Cfg) : List (FuncId × List T × T) → Prop
  | [] => True
  | (f, xs, r) :: t => (∃ n, evalN cfg n f xs = some r) ∧ MemoOK cfg t
theorem memo_mem {cfg : Cfg} : ∀ {tab : List (FuncId × List T × T)} {f : FuncId} {xs : List T} {r : T}, MemoOK cfg tab → (f, xs, r) ∈ tab → ∃ n, evalN cfg n f xs = some r
  | _ :: _, _, _, _, ⟨h, _⟩, .head _ => h
  | _ :: _, _, _, _, ⟨_, ht⟩, .tail _ hm => memo_mem ht hm
variable [Globs] in
theorem memo_prim {cfg : Cfg} {P : Program} {K : Code → Prop} (c : CfgTI cfg P) (hK : KOK cfg P K) (hF : CfgFn cfg P K) (hP : PrimOK cfg P) {keys : List FuncId} {tab : List (FuncId × List T × T)} (hM : MemoOK cfg tab) : PrimOK (cfg.memo keys tab) P := by
  refine ⟨fun f g xs r hf hg => ?_, hP.2⟩
  simp only [Cfg.memo] at hf
  cases hp : cfg.prim f with
  | some g0 =>
    rw [hp] at hf
    cases hf
    exact hP.1 f g xs r hp hg
  | none =>
    rw [hp] at hf
    simp only at hf
    cases hk : keys.contains f <;> rw [hk] at hf
    · cases hf
    · cases hf
      obtain ⟨n, hn⟩ := memo_mem hM (memoT_mem hg)
      exact pureBody_ok (env_ok c hK hF hP n) c hK hF hP hn
theorem codeOK_memo {cfg : Cfg} {keys : List FuncId} {tab : List (FuncId × List T × T)} : ∀ (c : Code), codeOK (cfg.memo keys tab) c = codeOK cfg c := by
  intro c
  induction c with
  | region id ops draw => rfl
  | seq a b iha ihb => simp only [codeOK, iha, ihb]
  | cond x a b iha ihb => simp only [codeOK, iha, ihb]
  | block id c ih => simp only [codeOK, ih]
  | loop c ih => simp only [codeOK, ih]
  | scope c ih => simp only [codeOK, ih]
  | rangeFunc fo ps a b iha ihb => simp only [codeOK, iha, ihb]
  | _ => rfl
variable [Globs] in
theorem memo_kok {cfg : Cfg} {P : Program} (hm : P.follows .mixedOrders = true) (c : CfgTI cfg P) {keys : List FuncId} {tab : List (FuncId × List T × T)} : KOK (cfg.memo keys tab) P (fun c => codeOK cfg c = true) := by
  have := kok (cfg := cfg.memo keys tab) hm ⟨fun t i h => c.1 t i h⟩
  have e : (fun c => codeOK (cfg.memo keys tab) c = true) = fun c => codeOK cfg c = true := funext fun c => by rw [codeOK_memo]
  rw [e] at this
  exact this
variable [Globs] in
theorem memo_fn {cfg : Cfg} {P : Program} {K : Code → Prop} (h : CfgFn cfg P K) {keys : List FuncId} {tab : List (FuncId × List T × T)} : CfgFn (cfg.memo keys tab) P K := ⟨fun f fn hf => h.1 f fn hf⟩
variable [Globs] in
/-- What the evaluator with the table tells is what the program does. -/
theorem memo_eval {cfg : Cfg} {P : Program} (hm : P.follows .mixedOrders = true) (c : CfgTI cfg P) (hF : CfgFn cfg P (fun c => codeOK cfg c = true)) (hP : PrimOK cfg P) {keys : List FuncId} {tab : List (FuncId × List T × T)} (hM : MemoOK cfg tab)
    {n : Nat} {f : FuncId} {xs : List T} {r : T} (hq : evalN (cfg.memo keys tab) n f xs = some r) (w : World) (S : Nat → Prop) (cargs : Array Value) (hB : BaseOK w.heap.size w) (hS : ∀ b, S b → b < w.heap.size) (hr : RepTL w S xs cargs.toList) :
    Calls P f cargs w fun e w' => ∃ cv S', e = .returned cv ∧ Pure w S w' S' ∧ RepT w' S' r cv :=
  eval_calls (cfg := cfg.memo keys tab) ⟨fun t i h => c.1 t i h⟩ (memo_kok hm c) (memo_fn hF) (memo_prim c (kok hm c) hF hP hM) hq w S cargs hB hS hr
end Go.Apex
