import Derived.Test.YtcljaeknhmpecaaGreatApexA32
set_option linter.all false
namespace Go.Apex
open Go Go.RowKit
variable [Globs]
section
variable {cfg : Cfg} {P : Program} {K : Code -> Prop} {E : Env} {B0 : Nat -> Prop} {im : Tmp -> Bool} {base : Nat} {ops : Array Oper}
noncomputable def stepIdx (cfg : Cfg) (E : Env) (im : Tmp -> Bool) (pm : Option (List Nat × List Tmp)) (ops : Array Oper) (base i : Nat) (p : Ts × Heap) : Option (Ts × Heap) :=
 match ops[i]? with
 | none => some p
 | some o => stepD cfg E im pm ops.toList base (base + i) o p.1 p.2
noncomputable def runIdx (cfg : Cfg) (E : Env) (im : Tmp -> Bool) (pm : Option (List Nat × List Tmp)) (ops : Array Oper) (base : Nat) : List Nat -> Ts × Heap -> Option (Ts × Heap)
 | [], p => some p
 | i :: l, p => (stepIdx cfg E im pm ops base i p).bind (runIdx cfg E im pm ops base l)
theorem runOps_idx : ∀ (r : List Oper) (k : Nat) (ts : Ts) (h : Heap), ops.toList.drop k = r -> runOps cfg E im true ops.toList base r (base + k) ts h = runIdx cfg E im none ops base (List.range' k r.length) (ts, h)
 | [], k, ts, h, _ => rfl
 | o :: r, k, ts, h, hd => by
  have ho : ops[k]? = some o := by
   have : (ops.toList.drop k)[0]? = some o := by rw [hd]; rfl
   rw [List.getElem?_drop] at this
   simpa using this
  have hdrop : ops.toList.drop (k + 1) = r := by rw [<- List.drop_drop, hd]; rfl
  simp only [runOps, List.length_cons, List.range'_succ, runIdx, stepIdx, ho, stepD]
  congr 1
  funext p
  obtain ⟨ts1, h1⟩ := p
  exact runOps_idx r (k + 1) ts1 h1 hdrop
theorem runP_idx {l : List Nat} {lay : List Tmp} : ∀ (r : List Oper) (k : Nat) (ts : Ts) (h : Heap), ops.toList.drop k = r -> runP cfg E im l lay ops.toList base r (base + k) ts h = runIdx cfg E im (some (l, lay)) ops base (List.range' k r.length) (ts, h)
 | [], k, ts, h, _ => rfl
 | o :: r, k, ts, h, hd => by
  have ho : ops[k]? = some o := by
   have : (ops.toList.drop k)[0]? = some o := by rw [hd]; rfl
   rw [List.getElem?_drop] at this
   simpa using this
  have hdrop : ops.toList.drop (k + 1) = r := by rw [<- List.drop_drop, hd]; rfl
  simp only [runP, List.length_cons, List.range'_succ, runIdx, stepIdx, ho, stepD]
  congr 1
  funext p
  obtain ⟨ts1, h1⟩ := p
  exact runP_idx r (k + 1) ts1 h1 hdrop
def reach (ops : Array Oper) : Nat -> Nat -> Nat -> Bool
 | 0, _, _ => false
 | f + 1, i, j => match ops[i]? with
  | some o => o.after.toList.any fun e => Region.binds .any e && (e.on == j || reach ops f e.on j)
  | none => false
def pairOK (cfg : Cfg) (pm : Option (List Tmp)) (ops : Array Oper) (j i : Nat) : Bool :=
 match ops[j]?, ops[i]? with
 | some x, some y => x.apart ops y && commKind cfg pm ops.toList x y
 | _, _ => false
def drawOK (cfg : Cfg) (pm : Option (List Tmp)) (ops : Array Oper) : Bool :=
 (List.range ops.size).all fun i =>
  (match ops[i]? with | some o => o.after.toList.all fun e => !Region.binds .any e || Nat.ble (e.on + 1) i | none => false) &&
  (List.range i).all fun j => reach ops ops.size i j || pairOK cfg pm ops j i
theorem swap_idx {pm : Option (List Nat × List Tmp)} {j i : Nat} (hp : pairOK cfg (pm.map (·.2)) ops j i = true) (hne : j ≠ i) {p r : Ts × Heap} (hq : ((stepIdx cfg E im pm ops base j p).bind (stepIdx cfg E im pm ops base i)) = some r) :
  ((stepIdx cfg E im pm ops base i p).bind (stepIdx cfg E im pm ops base j)) = some r := by
 unfold pairOK at hp
 split at hp
 case h_2 => cases hp
 rename_i x y hx hy
 simp only [Bool.and_eq_true] at hp
 have e1 : ∀ p, stepIdx cfg E im pm ops base j p = stepD cfg E im pm ops.toList base (base + j) x p.1 p.2 := fun p => by unfold stepIdx; rw [hx]
 have e2 : ∀ p, stepIdx cfg E im pm ops base i p = stepD cfg E im pm ops.toList base (base + i) y p.1 p.2 := fun p => by unfold stepIdx; rw [hy]
 rw [e1, funext e2] at hq
 rw [e2, funext e1]
 cases pm with
 | none => exact comm_step hp.1 hp.2 (Nat.le_add_right base j) (Nat.le_add_right base i) (by omega) hq
 | some l => exact comm_stepP hp.1 hp.2 (Nat.le_add_right base j) (Nat.le_add_right base i) (by omega) hq
theorem front_idx {pm : Option (List Nat × List Tmp)} {i : Nat} (R2 : List Nat) {r : Ts × Heap} : ∀ (R1 : List Nat), (∀ j ∈ R1, pairOK cfg (pm.map (·.2)) ops j i = true /\ j ≠ i) -> ∀ (p : Ts × Heap), runIdx cfg E im pm ops base (R1 ++ i :: R2) p = some r -> runIdx cfg E im pm ops base (i :: (R1 ++ R2)) p = some r
 | [], _, p, hq => hq
 | j :: R1, hc, p, hq => by
  simp only [List.cons_append, runIdx, oB] at hq
  obtain ⟨q, hj, hq⟩ := hq
  have ih := front_idx R2 R1 (fun k hk => hc k (by simp [hk])) q hq
  simp only [runIdx, oB] at ih
  obtain ⟨q2, hi, hr⟩ := ih
  have := swap_idx (r := q2) (hc j (by simp)).1 (hc j (by simp)).2 (oB.2 ⟨q, hj, hi⟩)
  obtain ⟨q3, h3, h4⟩ := oB.1 this
  simp only [runIdx, List.cons_append]
  exact oB.2 ⟨q3, h3, oB.2 ⟨q2, h4, hr⟩⟩
def Closed (ops : Array Oper) (listed : Array Bool) : Prop := ∀ i o, listed.getD i false = true -> ops[i]? = some o -> ∀ e ∈ o.after.toList, Region.binds .any e = true -> listed.getD e.on false = true
theorem reach_listed {listed : Array Bool} (hc : Closed ops listed) : ∀ (f i j : Nat), (∀ o, ops[i]? = some o -> ∀ e ∈ o.after.toList, Region.binds .any e = true -> listed.getD e.on false = true) -> reach ops f i j = true -> listed.getD j false = true
 | 0, _, _, _, h => by cases h
 | f + 1, i, j, hi, h => by
  unfold reach at h
  split at h
  case h_2 => cases h
  rename_i o ho
  simp only [List.any_eq_true, Bool.and_eq_true, Bool.or_eq_true, beq_iff_eq] at h
  obtain ⟨e, he, hb, h⟩ := h
  have hl := hi o ho e he hb
  rcases h with rfl | h
  . exact hl
  . exact reach_listed hc f e.on j (fun o' ho' => hc e.on o' hl ho') h
theorem mem_ready {listed : Array Bool} {i : Nat} : i ∈ Region.ready .any ops listed ↔ i < ops.size /\ listed.getD i true = false /\ ∃ o, ops[i]? = some o /\ ∀ e ∈ o.after.toList, Region.binds .any e = true -> listed.getD e.on false = true := by
 simp only [Region.ready, List.mem_filter, List.mem_range, Bool.and_eq_true, Bool.not_eq_eq_eq_not, Bool.not_true]
 constructor
 . rintro ⟨h1, h2, h3⟩
   refine ⟨h1, h2, ?_⟩
   cases ho : ops[i]? with
   | none => rw [ho] at h3; simp at h3
   | some o =>
    rw [ho] at h3
    simp only [Option.map_some, Option.getD_some, Array.all_eq_true', Bool.or_eq_true, Bool.not_eq_true'] at h3
    exact ⟨o, rfl, fun e he hb => (h3 e (Array.mem_toList_iff.1 he)).resolve_left (by simp [hb])⟩
 . rintro ⟨h1, h2, o, ho, h3⟩
   refine ⟨h1, h2, ?_⟩
   rw [ho]
   simp only [Option.map_some, Option.getD_some, Array.all_eq_true', Bool.or_eq_true, Bool.not_eq_true']
   intro e he
   cases hb : Region.binds .any e with
   | false => exact .inl rfl
   | true => exact .inr (h3 e (Array.mem_toList_iff.2 he) hb)
def rest (ops : Array Oper) (listed : Array Bool) : List Nat := (List.range ops.size).filter fun i => !listed.getD i true
theorem mem_rest {listed : Array Bool} {i : Nat} : i ∈ rest ops listed ↔ i < ops.size /\ listed.getD i true = false := by
 simp [rest]
theorem rest_sorted (listed : Array Bool) : (rest ops listed).Pairwise (· < ·) := List.Pairwise.filter _ List.pairwise_lt_range
theorem rest_set {listed : Array Bool} (hs : listed.size = ops.size) {i : Nat} {R1 R2 : List Nat} (hr : rest ops listed = R1 ++ i :: R2) : rest ops (listed.setIfInBounds i true) = R1 ++ R2 := by
 have hsort := rest_sorted (ops := ops) listed
 have hi : i < ops.size := (mem_rest.1 (by rw [hr]; simp : i ∈ rest ops listed)).1
 have h1 : rest ops (listed.setIfInBounds i true) = (rest ops listed).filter (fun j => j != i) := by
  unfold rest
  rw [List.filter_filter]
  apply List.filter_congr
  intro j hj
  by_cases e : j = i
  . subst e
    simp [Array.getD_eq_getD_getElem?, hs, hi]
  . simp [Array.getD_eq_getD_getElem?, Array.getElem?_setIfInBounds, Ne.symm e, e]
 rw [h1, hr]
 rw [hr, List.pairwise_append] at hsort
 obtain ⟨_, s2, s3⟩ := hsort
 rw [List.filter_append, List.filter_cons]
 simp only [bne_self_eq_false, Bool.false_eq_true, if_false]
 congr 1
 . apply List.filter_eq_self.2
   intro j hj
   have := s3 j hj i (by simp)
   simp; omega
 . apply List.filter_eq_self.2
   intro j hj
   have := (List.pairwise_cons.1 s2).1 j hj
   simp; omega
end
end Go.Apex
