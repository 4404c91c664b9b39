import Derived.Test.YtcljaeknhmpecaaGreatApexA30
import Derived.OrdersIn
set_option linter.all false
namespace Go.Apex
open Go Go.RowKit
variable [Globs]
section
variable {cfg : Cfg} {P : Program} {K : Code -> Prop} {E : Env} {slot : Nat} {rd : Rd} {h : Heap} {ts ts' : Ts}
theorem mapO_congr {α β : Type} {g g' : α -> Option β} : ∀ {l : List α}, (∀ x ∈ l, g x = g' x) -> mapO g l = mapO g' l
 | [], _ => rfl
 | x :: l, h => by
  have h2 : mapO g l = mapO g' l := mapO_congr fun y hy => h y (by simp [hy])
  simp only [mapO, h x (by simp), h2]
theorem optInt_congr {o : Option Operand} (h : ∀ x, o = some x -> ev ts x = ev ts' x) : optInt ts o = optInt ts' o := by
 cases o with
 | none => rfl
 | some x => simp only [optInt, h x rfl]
theorem evParts_congr {ps : List (Nat × Operand)} (h : ∀ p ∈ ps, ev ts p.2 = ev ts' p.2) : evParts ts ps = evParts ts' ps := mapO_congr fun p hp => by rw [h p hp]
theorem quiet_congr {imm : Bool} {o : Op} (H : ∀ x ∈ o.operands, ev ts x = ev ts' x) : quiet cfg E imm o slot ts rd = quiet cfg E imm o slot ts' rd := by
 cases o <;> simp only [quiet]
 case move x => rw [H x (by simp [Op.operands])]
 case assign x => rw [H x (by simp [Op.operands])]
 case pick c a b => simp only [qPick, H c (by simp [Op.operands]), H a (by simp [Op.operands]), H b (by simp [Op.operands])]
 case box e x => simp only [qBox, H x (by simp [Op.operands])]
 case build t parts =>
  have := evParts_congr (ts := ts) (ts' := ts') (ps := parts.toList) fun p hp => H p.2 (by simp only [Op.operands, List.mem_toArray, List.mem_map]; exact ⟨p, hp, rfl⟩)
  simp only [qBuild, this]
 case buildSlice t len parts =>
  have := evParts_congr (ts := ts) (ts' := ts') (ps := parts.toList) fun p hp => H p.2 (by simp only [Op.operands, List.mem_toArray, List.mem_map]; exact ⟨p, hp, rfl⟩)
  simp only [qBuildSlice, this]
 case load t a => simp only [qLoad, H a (by simp [Op.operands])]
 case nilCheck x => simp only [qNilCheck, H x (by simp [Op.operands])]
 case binOp op xt x y z => simp only [qBin, H x (by simp [Op.operands]), H y (by simp [Op.operands])]
 case unOp op z x => simp only [H x (by simp [Op.operands])]
 case convert s d x => simp only [qConvert, H x (by simp [Op.operands])]
 case makeInterface xt x => simp only [qMakeInterface, H x (by simp [Op.operands])]
 case makeFunc fn first captured =>
  have h1 : mapO (ev ts) first.toList = mapO (ev ts') first.toList := mapO_congr fun x hx => H x (by simp only [Op.operands, Array.mem_append]; exact .inl (Array.mem_toList_iff.1 hx))
  have h2 : mapO (ev ts) captured.toList = mapO (ev ts') captured.toList := mapO_congr fun x hx => H x (by simp only [Op.operands, Array.mem_append]; exact .inr (Array.mem_toList_iff.1 hx))
  simp only [qMakeFunc, h1, h2]
 case makeMap t r =>
  cases r with
  | none => rfl
  | some r => simp only [qMakeMap, H r (by simp [Op.operands])]
 case makeSlice t l c => simp only [qMakeSlice, H l (by simp [Op.operands]), H c (by simp [Op.operands])]
 case slice xt x lo hi mx =>
  have h1 : optInt ts lo = optInt ts' lo := optInt_congr fun y hy => H y (by subst hy; simp [Op.operands])
  have h2 : optInt ts hi = optInt ts' hi := optInt_congr fun y hy => H y (by subst hy; simp [Op.operands])
  have h3 : optInt ts mx = optInt ts' mx := optInt_congr fun y hy => H y (by subst hy; simp [Op.operands])
  simp only [qSlice, H x (by simp [Op.operands]), h1, h2, h3]
 case fieldAddr s x f => simp only [qFieldAddr, H x (by simp [Op.operands])]
 case field s x f => simp only [qField, H x (by simp [Op.operands])]
 case indexAddr t x ix => simp only [qIndexAddr, H x (by simp [Op.operands]), H ix (by simp [Op.operands])]
 case index t x ix => simp only [qIndex, H x (by simp [Op.operands]), H ix (by simp [Op.operands])]
 case lookup t x k ok => simp only [qLookup, H x (by simp [Op.operands]), H k (by simp [Op.operands])]
 case extract t ix => simp only [qExtract, H t (by simp [Op.operands])]
 case range xt x => simp only [qRange, H x (by simp [Op.operands])]
 case entry x => simp only [qEntry, H x (by simp [Op.operands])]
 case call c =>
  have ha : ∀ x ∈ c.args.toList, ev ts x = ev ts' x := fun x hx => H x (by simp only [Op.operands, Call.operands, Array.mem_append]; exact .inr (Array.mem_toList_iff.1 hx))
  have hm : mapO (ev ts) c.args.toList = mapO (ev ts') c.args.toList := mapO_congr ha
  unfold qCall
  split
  . unfold qBuiltin
    split
    . unfold arg1
      split
      . rename_i x t hx ht
        rw [ha x (by rw [hx]; simp)]
      . rfl
    . unfold arg1
      split
      . rename_i x t hx ht
        rw [ha x (by rw [hx]; simp)]
      . rfl
    . unfold arg1
      split
      . rename_i x t hx ht
        rw [ha x (by rw [hx]; simp)]
      . rfl
    . simp only [extV, hm]
    . simp only [extV, hm]
    . unfold qAppend
      split
      . rename_i s x t xt r hx ht
        rw [ha s (by rw [hx]; simp), ha x (by rw [hx]; simp)]
      . rfl
    . rfl
  . rw [hm]
  . rfl
theorem loud_congr {o : Op} (H : ∀ x ∈ o.operands, ev ts x = ev ts' x) : loud cfg E o slot ts h = loud cfg E o slot ts' h := by
 cases o <;> simp only [loud]
 case store t a x => simp only [lStore, H a (by simp [Op.operands]), H x (by simp [Op.operands])]
 case next x s => simp only [lNext, H x (by simp [Op.operands])]
 case mapUpdate t m k x => simp only [lMapUpdate, H m (by simp [Op.operands]), H k (by simp [Op.operands]), H x (by simp [Op.operands])]
 case insert t m k x => simp only [lMapUpdate, H m (by simp [Op.operands]), H k (by simp [Op.operands]), H x (by simp [Op.operands])]
 case call c =>
  have ha : ∀ x ∈ c.args.toList, ev ts x = ev ts' x := fun x hx => H x (by simp only [Op.operands, Call.operands, Array.mem_append]; exact .inr (Array.mem_toList_iff.1 hx))
  have hm : mapO (ev ts) c.args.toList = mapO (ev ts') c.args.toList := mapO_congr ha
  unfold lCall
  split
  . unfold lAppend
    split
    . rename_i s x t xt r hx ht
      rw [ha s (by rw [hx]; simp), ha x (by rw [hx]; simp)]
    . rfl
  . unfold lClear
    split
    . rename_i x t hx ht
      rw [ha x (by rw [hx]; simp)]
    . rfl
  . unfold lUString
    split
    . rename_i x n t r hx ht
      rw [ha x (by rw [hx]; simp), ha n (by rw [hx]; simp)]
    . rfl
  . rfl
  . rename_i f hf
    have h1 : ev ts f = ev ts' f := H f (by simp [Op.operands, Call.operands, hf])
    rw [h1, hm]
  . rfl
def still (cfg : Cfg) (o : Op) : Bool :=
 match o with
 | .move _ | .assign _ | .pick .. | .build .. | .nilCheck _ | .binOp .. | .unOp .. | .convert .. | .makeInterface .. | .makeFunc .. | .slice .. | .fieldAddr .. | .field .. | .indexAddr .. | .index .. | .extract .. => true
 | .call c => match c.callee with
  | .builtin .max | .builtin .min | .builtin .cap => true
  | .value (.func f) => cfg.mode f == .pure && (cfg.twin f).isNone
  | _ => false
 | _ => false
theorem still_rd {imm : Bool} {o : Op} (hs : still cfg o = true) (rd' : Rd) (slot' : Nat) : quiet cfg E imm o slot ts rd = quiet cfg E imm o slot' ts rd' := by
 cases o <;> simp only [still] at hs <;> (try cases hs) <;> try rfl
 rename_i c
 simp only [quiet, qCall]
 split at hs
 . rename_i hc; rw [hc]; rfl
 . rename_i hc; rw [hc]; rfl
 . rename_i hc; rw [hc]; rfl
 . rename_i f hc
   have hmode : cfg.mode f = .pure /\ cfg.twin f = none := by simpa using hs
   rw [hc]
   simp only [hmode.1, hmode.2, twinAt, Option.isSome_none, Bool.and_false, cond_false, quietCall]
 . cases hs
theorem still_ob {imm : Bool} {o : Op} (hs : still cfg o = true) {v : V} {ob : Option Obj} (hq : quiet cfg E imm o slot ts rd = some (v, ob)) : ob = none := by
 cases ob with
 | none => rfl
 | some ob =>
  exfalso
  cases o <;> simp only [still] at hs <;> try (exact Bool.false_ne_true hs)
  all_goals simp only [quiet] at hq
  case move => exact one_ob hq
  case assign => exact one_ob hq
  case pick =>
   simp only [qPick, oB] at hq
   obtain ⟨_, _, hq⟩ := hq
   split at hq
   . exact one_ob hq
   . exact one_ob hq
   . cases hq
  case build =>
   simp only [qBuild, oB] at hq
   obtain ⟨_, _, _, _, hq⟩ := hq
   split at hq
   . split at hq
     . simp only [oB, oM] at hq
       obtain ⟨_, _, _, _, hq⟩ := hq
       cases hq
     . cases hq
   . cases hq
  case nilCheck =>
   simp only [qNilCheck, oB] at hq
   obtain ⟨_, _, hq⟩ := hq
   split at hq <;> cases hq
  case binOp =>
   simp only [qBin, oB] at hq
   obtain ⟨_, _, _, _, hq⟩ := hq
   split at hq
   . exact one_ob hq
   . cases hq
  case unOp => exact one_ob hq
  case convert =>
   simp only [qConvert, oB] at hq
   obtain ⟨_, _, _, _, _, _, hq⟩ := hq
   exact one_ob hq
  case makeInterface =>
   simp only [qMakeInterface, oB] at hq
   obtain ⟨_, _, _, _, hq⟩ := hq
   split at hq <;> cases hq
  case makeFunc =>
   simp only [qMakeFunc, oB, oM] at hq
   obtain ⟨_, _, _, _, hq⟩ := hq
   cases hq
  case slice =>
   simp only [qSlice, oB] at hq
   obtain ⟨_, _, _, _, _, _, _, _, _, _, hq⟩ := hq
   split at hq
   . exact one_ob hq
   . cases hq
  case fieldAddr => exact one_ob hq
  case field => exact one_ob hq
  case indexAddr => exact one_ob hq
  case index => exact one_ob hq
  case extract =>
   simp only [qExtract, oB] at hq
   obtain ⟨_, _, hq⟩ := hq
   split at hq
   . simp only [oM] at hq
     obtain ⟨_, _, hq⟩ := hq
     cases hq
   . simp only [oM] at hq
     obtain ⟨_, _, hq⟩ := hq
     cases hq
   . cases hq
  case call c =>
   simp only [qCall] at hq
   split at hs
   . rename_i hc; rw [hc] at hq; exact one_ob hq
   . rename_i hc; rw [hc] at hq; exact one_ob hq
   . rename_i hc
     rw [hc] at hq
     simp only [qBuiltin, arg1] at hq
     split at hq
     . exact one_ob hq
     . cases hq
   . rename_i f hc
     have hmode : cfg.mode f = .pure /\ cfg.twin f = none := by simpa using hs
     rw [hc] at hq
     simp only [hmode.1, hmode.2, twinAt, Option.isSome_none, Bool.and_false, cond_false, oB] at hq
     obtain ⟨_, _, hq⟩ := hq
     exact one_ob hq
   . cases hs
end
end Go.Apex
