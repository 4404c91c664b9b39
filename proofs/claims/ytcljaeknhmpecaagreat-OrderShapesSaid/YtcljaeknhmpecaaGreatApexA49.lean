import Derived.Test.YtcljaeknhmpecaaGreatApexA47
import Derived.Test.YtcljaeknhmpecaaGreatApexA44
set_option linter.all false
namespace Go.Apex
open Go
noncomputable section
mutual
def T.nf : T -> Bool
 | .ptr x => T.nf x
 | .sl _ _ xs => T.nfL xs
 | .mp a b => T.nfL a && T.nfL b
 | .iface _ x => T.nf x
 | .agg a => T.nfL a
 | .tup a => T.nfL a
 | .fn _ _ _ => false
 | _ => true
def T.nfL : List T -> Bool
 | [] => true
 | x :: r => T.nf x && T.nfL r
end
mutual
theorem T.eqb_refl : ∀ x : T, x.nf = true -> T.eqb x x = true
 | .bool b, _ => by simp [T.eqb]
 | .int k n, _ => by simp [T.eqb]
 | .str s, _ => by simp [T.eqb]
 | .ptr x, h => by
  simp only [T.nf] at h
  simp only [T.eqb, T.eqb_refl x h]
 | .sl e s xs, h => by
  simp only [T.nf] at h
  simp [T.eqb, T.eqbL_refl xs h]
 | .mp a b, h => by
  simp only [T.nf, Bool.and_eq_true] at h
  simp [T.eqb, T.eqbL_refl a h.1, T.eqbL_refl b h.2]
 | .iface t x, h => by
  simp only [T.nf] at h
  simp [T.eqb, T.eqb_refl x h]
 | .agg a, h => by
  simp only [T.nf] at h
  simp only [T.eqb, T.eqbL_refl a h]
 | .tup a, h => by
  simp only [T.nf] at h
  simp only [T.eqb, T.eqbL_refl a h]
 | .nils, _ => by simp [T.eqb]
 | .nilp, _ => by simp [T.eqb]
 | .nilm, _ => by simp [T.eqb]
 | .nilf, _ => by simp [T.eqb]
 | .nili, _ => by simp [T.eqb]
 | .fn _ _ _, h => by simp [T.nf] at h
theorem T.eqbL_refl : ∀ l : List T, T.nfL l = true -> T.eqbL l l = true
 | [], _ => rfl
 | x :: r, h => by
  simp only [T.nfL, Bool.and_eq_true] at h
  simp [T.eqbL, T.eqb_refl x h.1, T.eqbL_refl r h.2]
end
section
variable {rnd : T -> T -> St -> Option St} {s0 sk : St}
theorem mrFind_stay (he : St.eqb s0 s0 = true) : ∀ (kv : List (T × T)) (i : Nat), (∀ p ∈ kv, rnd p.1 p.2 s0 = some s0) -> mrFind rnd s0 i kv = some none
 | [], _, _ => rfl
 | (k, v) :: r, i, h => by
  have h1 : rnd k v s0 = some s0 := h (k, v) (by simp)
  simp only [mrFind, h1, oS, mrFind_stay he r (i + 1) fun p hp => h p (by simp [hp]), he, cond_true]
theorem mrFind_one (he : St.eqb s0 s0 = true) {k v : T} (h1 : rnd k v s0 = some sk) (hne : St.eqb sk s0 = false) : ∀ (l1 l2 : List (T × T)) (i : Nat), (∀ p ∈ l1, rnd p.1 p.2 s0 = some s0) -> (∀ p ∈ l2, rnd p.1 p.2 s0 = some s0) -> mrFind rnd s0 i (l1 ++ (k, v) :: l2) = some (some (i + l1.length, sk))
 | [], l2, i, _, h => by
  simp only [List.nil_append, mrFind, h1, oS, mrFind_stay he l2 (i + 1) h, hne, cond_false]
  rfl
 | (a, b) :: l1, l2, i, h, h' => by
  have ha : rnd a b s0 = some s0 := h (a, b) (by simp)
  have := mrFind_one he h1 hne l1 l2 (i + 1) (fun p hp => h p (by simp [hp])) h'
  simp only [List.cons_append, mrFind, ha, oS, this, he, cond_true, List.length_cons]
  congr 3
  omega
theorem mrStay_all (he : St.eqb sk sk = true) {j : Nat} : ∀ (kv : List (T × T)) (i : Nat), (∀ (n : Nat) (p : T × T), kv[n]? = some p -> i + n ≠ j -> rnd p.1 p.2 sk = some sk) -> mrStay rnd sk j i kv = true
 | [], _, _ => rfl
 | (k, v) :: r, i, h => by
  have ih := mrStay_all (j := j) he r (i + 1) fun n p hn hj => h (n + 1) p (by simpa using hn) (by omega)
  simp only [mrStay, ih, Bool.and_true]
  by_cases e : i = j
  . subst e
    rw [Nat.beq_refl]
    rfl
  . have : rnd k v sk = some sk := h 0 (k, v) rfl (by omega)
    rw [this]
    simp only [he]
    cases Nat.beq i j <;> rfl
variable {last : St -> Option (Out × St)}
theorem mapRun_stay (he : St.eqb s0 s0 = true) {kv : List (T × T)} (h : ∀ p ∈ kv, rnd p.1 p.2 s0 = some s0) : mapRun rnd last kv s0 = last s0 := by
 unfold mapRun
 rw [mrFind_stay he kv 0 h]
 rfl
theorem mapRun_one (he : St.eqb s0 s0 = true) (hk : St.eqb sk sk = true) {k v : T} (h1 : rnd k v s0 = some sk) (hne : St.eqb sk s0 = false) {l1 l2 : List (T × T)} (ha : ∀ p ∈ l1 ++ l2, rnd p.1 p.2 s0 = some s0) (hb : ∀ p ∈ l1 ++ l2, rnd p.1 p.2 sk = some sk) :
  mapRun rnd last (l1 ++ (k, v) :: l2) s0 = last sk := by
 unfold mapRun
 rw [mrFind_one he h1 hne l1 l2 0 (fun p hp => ha p (by simp [hp])) (fun p hp => ha p (by simp [hp])), oS]
 have : mrStay rnd sk (0 + l1.length) 0 (l1 ++ (k, v) :: l2) = true := by
  refine mrStay_all hk _ _ fun n p hn hj => hb p ?_
  rw [Nat.zero_add, Nat.zero_add] at hj
  rw [List.mem_append]
  by_cases hlt : n < l1.length
  . rw [List.getElem?_append_left hlt] at hn
    exact .inl (List.mem_of_getElem? hn)
  . rw [List.getElem?_append_right (by omega)] at hn
    obtain ⟨m, hm⟩ : ∃ m, n - l1.length = m + 1 := ⟨n - l1.length - 1, by omega⟩
    rw [hm, List.getElem?_cons_succ] at hn
    exact .inr (List.mem_of_getElem? hn)
 show cond (mrStay rnd sk (0 + l1.length) 0 (l1 ++ (k, v) :: l2)) (last sk) none = last sk
 rw [this]
 rfl
end
theorem run_mr {α : Type} {cfg : Cfg} {fin : Out -> St -> Option α} {k : List Kt} {s s1 s2 : St} {r : α} {f : FuncId} {rd : Option Nat} {x b : Code} {it d1 d2 : Tmp} {id n : Nat} {ks vs : List T} {o : Out} {s' : St}
  (hm : mrOf (.seq x b) = some (it, d1, d2)) (h1 : resetAt cfg f (.seq x b) s.h.next s = some s1) (hi : s1.ts.get it = some (.it id none)) (ho : s1.h.obj id = some (.mit ks vs))
  (h2 : resetAt cfg f (.seq x b) s1.h.next { s1 with h := s1.h.set id none } = some s2)
  (h3 : mapRun (mrRound cfg f (.seq x b) it d1 d2 id (fun s => exec cfg (env cfg n) f rd b s)) (mrEnd it d1 d2 id (fun s => exec cfg (env cfg n) f rd b s)) (ks.zip vs) s2 = some (o, s'))
  (h4 : kont cfg (env cfg n) fin k o s' = some r) : Run cfg fin (.code f rd (.loop (.seq x b)) :: k) .norm s r := by
 refine ⟨n, ?_⟩
 simp only [kont, exec_loop, h1, oS, hm, mrLoop, hi, ho, h2, h3, h4]
end
end Go.Apex

namespace Go.Apex
open Go
noncomputable section
def mrS2 (cfg : Cfg) (f : FuncId) (c : Code) (it : Tmp) (s : St) : Option St :=
 (resetAt cfg f c s.h.next s).bind fun s1 => match s1.ts.get it with
  | some (.it id none) => resetAt cfg f c s1.h.next { s1 with h := s1.h.set id none }
  | _ => none
def endO (cfg : Cfg) (f0 : FuncId) : List Kt -> St -> Option T
 | .code f rd (.loop (.seq x b)) :: k, s => (mrOf (.seq x b)).bind fun (it, d1, d2) => (mrS2 cfg f (.seq x b) it s).bind fun s2 => runO cfg (pureFin cfg f0) (.code f rd b :: k) (mrLast d1 d2 s2)
 | _, _ => none
def symEnd (cfg : Cfg) (f0 : FuncId) (n : Nat) (rows : List Nat) : List Kt -> St -> Dt Leaf
 | .code f rd (.loop (.seq x b)) :: k, s => match mrOf (.seq x b) with
  | some (it, d1, d2) => match mrS2 cfg f (.seq x b) it s with
   | some s2 => sym cfg f0 n rows [] (.code f rd b :: k) .norm (mrLast d1 d2 s2)
   | none => .fail
  | none => .fail
 | _, _ => .fail
theorem end_of {cfg : Cfg} {f0 : FuncId} {n : Nat} {rows : List Nat} {k : List Kt} {s : St} {o : Option T} {r : T} (he : outR cfg f0 (symEnd cfg f0 n rows k s) = o) (hq : o = some r) : endO cfg f0 k s = some r := by
 have hq : outO cfg f0 (symEnd cfg f0 n rows k s) = some r := by rw [<- outR_eq, he]; exact hq
 unfold symEnd at hq
 split at hq
 . unfold endO
   split at hq
   . rename_i hm
     split at hq
     . rename_i h2
       simp only [hm, oS, h2]
       exact runO_some.2 (sym_ok _ _ _ _ _ _ _ hq)
     . exact (out_fail hq).elim
   . exact (out_fail hq).elim
 . exact (out_fail hq).elim
section
variable {cfg : Cfg} {f0 : FuncId} {k : List Kt} {s s1 s2 sk : St} {r : T} {f : FuncId} {rd : Option Nat} {x b : Code} {it d1 d2 : Tmp} {id e : Nat} {ks vs : List T} {s' : St}
theorem mr_run {α : Type} {fin : Out -> St -> Option α} {r : α} (hm : mrOf (.seq x b) = some (it, d1, d2)) (h1 : resetAt cfg f (.seq x b) s.h.next s = some s1) (hi : s1.ts.get it = some (.it id none)) (ho : s1.h.obj id = some (.mit ks vs))
  (h2 : resetAt cfg f (.seq x b) s1.h.next { s1 with h := s1.h.set id none } = some s2)
  (h3 : ∀ n, mapRun (mrRound cfg f (.seq x b) it d1 d2 id (fun s => exec cfg (env cfg n) f rd b s)) (mrEnd it d1 d2 id (fun s => exec cfg (env cfg n) f rd b s)) (ks.zip vs) s2 = mrEnd it d1 d2 id (fun s => exec cfg (env cfg n) f rd b s) sk)
  (hr : mrReady it d1 id sk = true) (hb : ∀ n, exec cfg (env cfg n) f rd b (mrLast d1 d2 sk) = some (.exit e, s'))
  (h4 : Run cfg fin (.code f rd b :: k) .norm (mrLast d1 d2 sk) r) : Run cfg fin (.code f rd (.loop (.seq x b)) :: k) .norm s r := by
 obtain ⟨n, h4⟩ := h4
 simp only [kont, hb, oS] at h4
 refine run_mr (n := n) (o := .exit e) (s' := s') hm h1 hi ho h2 ?_ h4
 rw [h3 n]
 unfold mrEnd
 simp only [hr, cond_true, hb, oS]
end
end
end Go.Apex
