import Derived.Test.YtcljaeknhmpecaaGreatApexA33
set_option linter.all false
namespace Go.Apex
open Go Go.RowKit
variable [Globs]
section
variable {cfg : Cfg} {P : Program} {K : Code -> Prop} {E : Env} {B0 : Nat -> Prop} {im : Tmp -> Bool} {base : Nat} {ops : Array Oper}
theorem drawOK_edge {pm : Option (List Tmp)} (hok : drawOK cfg pm ops = true) {i : Nat} (hi : i < ops.size) : ∃ o, ops[i]? = some o /\ ∀ e ∈ o.after.toList, Region.binds .any e = true -> e.on < i := by
 simp only [drawOK, List.all_eq_true, List.mem_range, Bool.and_eq_true] at hok
 have := (hok i hi).1
 split at this
 . rename_i o ho
   refine ⟨o, ho, fun e he hb => ?_⟩
   have h1 := List.all_eq_true.1 this e he
   rw [hb] at h1
   simp only [Bool.not_true, Bool.false_or] at h1
   exact Nat.le_of_ble_eq_true h1
 . cases this
theorem drawOK_pair {pm : Option (List Tmp)} (hok : drawOK cfg pm ops = true) {i j : Nat} (hi : i < ops.size) (hj : j < i) : reach ops ops.size i j = true \/ pairOK cfg pm ops j i = true := by
 simp only [drawOK, List.all_eq_true, List.mem_range, Bool.and_eq_true, Bool.or_eq_true] at hok
 exact (hok i hi).2 j hj
theorem any_wp {pm : Option (List Nat × List Tmp)} (hE : EnvOK K P E) (c : CfgTI cfg P) (hok : drawOK cfg (pm.map (·.2)) ops = true) {Q : Exit -> Act -> World -> Prop} {ro : Option Nat} {n : Nat} {d : List Deferred} {ts' : Ts} {h' : Heap} :
  ∀ (fuel : Nat) (listed : Array Bool) (w : World) (S : Nat -> Prop) (M : MM) (h : Heap) (ts : Ts) (a : Act), listed.size = ops.size -> Closed ops listed -> (rest ops listed).length = fuel -> HeapOK K h -> Inv B0 w S M h -> RepTs w S M ts a.tmps -> a.defers = d →
   (∀ i ∈ rest ops listed, M (base + i) = none) -> base + ops.size <= h.next -> runIdx cfg E im pm ops base (rest ops listed) (ts, h) = some (ts', h') →
   (∀ a' w' S' M', Inv B0 w' S' M' h' -> Ext B0 (· < base) w S M w' S' M' -> RepTs w' S' M' ts' a'.tmps -> a'.defers = d -> Q .normal a' w') →
   wpAnyIn (FR ro) n P .any ops Q fuel listed a w := by
 intro fuel
 induction fuel with
 | zero =>
  intro listed w S M h ts a hsz hcl hlen hk I ht hd hfree hnext hq hp
  have hr : rest ops listed = [] := List.length_eq_zero_iff.1 hlen
  rw [hr] at hq
  cases hq
  refine ⟨?_, hp a w S M I (Ext.refl ..) ht hd⟩
  apply List.eq_nil_iff_forall_not_mem.2
  intro i hi
  obtain ⟨h1, h2, _⟩ := mem_ready.1 hi
  have : i ∈ rest ops listed := mem_rest.2 ⟨h1, h2⟩
  rw [hr] at this
  cases this
 | succ fuel ih =>
  intro listed w S M h ts a hsz hcl hlen hk I ht hd hfree hnext hq hp
  refine ⟨fun hnil => ?_, fun i hi => ?_⟩
  . exfalso
    obtain ⟨i, R, hr⟩ : ∃ i R, rest ops listed = i :: R := by
     cases hr : rest ops listed with
     | nil => rw [hr] at hlen; cases hlen
     | cons i R => exact ⟨i, R, rfl⟩
    have him := mem_rest.1 (by rw [hr]; simp : i ∈ rest ops listed)
    obtain ⟨o, ho, he⟩ := drawOK_edge hok him.1
    have : i ∈ Region.ready .any ops listed := mem_ready.2 ⟨him.1, him.2, o, ho, fun e hm hb => by
     have hlt := he e hm hb
     cases hl : listed.getD e.on true with
     | true =>
      have hin : e.on < listed.size := by omega
      rw [Array.getD_eq_getD_getElem?] at hl ⊢
      simp only [hin, getElem?_pos, Option.getD_some] at hl ⊢
      exact hl
     | false =>
      exfalso
      have hmem : e.on ∈ rest ops listed := mem_rest.2 ⟨by omega, hl⟩
      have hsort := rest_sorted (ops := ops) listed
      rw [hr] at hmem hsort
      rcases List.mem_cons.1 hmem with h1 | h1
      . omega
      . have := (List.pairwise_cons.1 hsort).1 _ h1; omega⟩
    rw [hnil] at this
    cases this
  . obtain ⟨hi1, hi2, o, ho, hpre⟩ := mem_ready.1 hi
    have hmem : i ∈ rest ops listed := mem_rest.2 ⟨hi1, hi2⟩
    obtain ⟨R1, R2, hr⟩ := List.append_of_mem hmem
    have hsort := rest_sorted (ops := ops) listed
    rw [hr, List.pairwise_append] at hsort
    have hlt : ∀ j ∈ R1, j < i := fun j hj => hsort.2.2 j hj i (by simp)
    have hcomm : ∀ j ∈ R1, pairOK cfg (pm.map (·.2)) ops j i = true /\ j ≠ i := by
     intro j hj
     have hji := hlt j hj
     refine ⟨(drawOK_pair hok hi1 hji).resolve_left fun hre => ?_, by omega⟩
     have hl := reach_listed hcl ops.size i j (fun o' ho' e he hb => by rw [ho] at ho'; cases ho'; exact hpre e he hb) hre
     have hjm := (mem_rest.1 (by rw [hr]; simp [hj] : j ∈ rest ops listed))
     have hin : j < listed.size := by omega
     have h2 := hjm.2
     rw [Array.getD_eq_getD_getElem?] at hl h2
     simp only [hin, getElem?_pos, Option.getD_some] at hl h2
     rw [hl] at h2
     cases h2
    rw [hr] at hq
    have hq2 := front_idx R2 R1 hcomm _ hq
    simp only [runIdx, oB] at hq2
    obtain ⟨⟨ts1, h1⟩, hs, hq3⟩ := hq2
    simp only [stepIdx, ho] at hs
    have hset := rest_set hsz hr
    have hg1 : Good K h h1 := by
     cases pm with
     | none => exact step_good hE hs
     | some l => exact stepP_good hE hs
    simp only [wpOpIn, ho]
    have hstep : ∀ {next : Act -> World -> Prop}, OpPost B0 (fun k => k < h.next /\ k ≠ base + i) w S M ts1 h1 a next -> if Region.wanted o (yielded ops a.tmps) then o.wpIn (FR ro) n P a w next Q else (∀ f, o.about P w a.eval = some f -> (FR ro).fn f) /\ next (a.put o.dst undef) w := fun hp => by
     cases pm with
     | none => exact step_wp hE c hk I ht (hfree i hmem) (by omega) hs hp
     | some l => exact stepP_wp hE c hk I ht (hfree i hmem) (by omega) hs hp
    refine hstep fun a1 w1 S1 M1 I1 E1 t1 d1 => ?_
    refine ih (listed.setIfInBounds i true) w1 S1 M1 h1 ts1 a1 (by simpa using hsz) ?_ ?_ (hg1 hk).2 I1 t1 (d1.trans hd) ?_ (Nat.le_trans hnext (hg1 hk).1) (by rw [hset]; exact hq3) ?_
    . intro k ok hkl hok' e he hb
      by_cases ek : k = i
      . subst ek
        rw [ho] at hok'
        cases hok'
        exact getD_set_true (hpre e he hb)
      . rw [getD_set_ne false (Ne.symm ek)] at hkl
        exact getD_set_true (hcl k ok hkl hok' e he hb)
    . rw [hset]
      rw [hr] at hlen
      simp only [List.length_append, List.length_cons] at hlen ⊢
      omega
    . intro k hkm
      rw [hset] at hkm
      have hk2 : k ∈ rest ops listed := by
       rw [hr]
       rcases List.mem_append.1 hkm with h | h
       . simp [h]
       . simp [h]
      have hne : k ≠ i := by
       rintro rfl
       rcases List.mem_append.1 hkm with h | h
       . exact absurd (hlt k h) (Nat.lt_irrefl _)
       . exact absurd ((List.pairwise_cons.1 hsort.2.1).1 k h) (Nat.lt_irrefl _)
      have hkb := (mem_rest.1 hk2).1
      exact E1.low _ ⟨by omega, by omega⟩ (hfree k hk2)
    . exact fun a' w' S' M' I' E' t' d' => hp a' w' S' M' I' ((E1.weak fun i hi => ⟨by omega, by omega⟩).trans E' fun i hi => hi) t' d'
theorem regionB_draw_wp (hm : P.follows .mixedOrders = true) (hE : EnvOK K P E) (c : CfgTI cfg P) {f : FuncId} {id : Nat} (hok : drawOK cfg ((cfg.prot id (keyOf ops.toList)).map (·.2)) ops = true) {w : World} {S : Nat -> Prop} {M : MM} {s s' : St} {a : Act} (hk : HeapOK K s.h) (I : Inv B0 w S M s.h) (ht : RepTs w S M s.ts a.tmps)
  (hq : regionB cfg E f id true ops.toList s = some s') {Q : Exit -> Act -> World -> Prop} {ro : Option Nat} {n : Nat}
  (hp : ∀ a' w' S' M', Inv B0 w' S' M' s'.h -> Ext B0 (· < s.h.next) w S M w' S' M' -> RepTs w' S' M' s'.ts a'.tmps -> a'.defers = a.defers -> Q .normal a' w') : (Code.region id ops true).wpIn (FR ro) n P Q a w := by
 simp only [regionB, oB, oM] at hq
 obtain ⟨⟨ts1, h1⟩, hr, ⟨ts2, h2⟩, hs, rfl⟩ := hq
 have hnx : s.h.next <= h1.next := by
  have h0 : HeapOK K ⟨s.h.next + ops.toList.length, s.h.tr⟩ := hk
  have hr' := hr
  split at hr'
  . exact Nat.le_trans (Nat.le_add_right _ _) ((runOps_good hE _ _ _ _ _ _ hr') h0).1
  . exact Nat.le_trans (Nat.le_add_right _ _) ((runP_good hE _ _ _ _ _ _ hr') h0).1
 refine wpIn_region_any hm ?_
 have hpure : Pure w S { w with drawn := w.drawn + 1 } S := ⟨rfl, rfl, rfl, Nat.le_refl _, fun _ _ => rfl, fun _ h => h, fun _ h => .inl h, I.lt⟩
 obtain ⟨I0, E0⟩ := I.pure (n0 := (· < s.h.next)) hpure
 have hrest : rest ops (Array.replicate ops.size false) = List.range' 0 ops.toList.length := by
  unfold rest
  rw [List.filter_eq_self.2]
  . rw [List.range_eq_range']; simp
  . intro i hi
    have : i < ops.size := by simpa using hi
    simp [Array.getD_eq_getD_getElem?, this]
 obtain ⟨pm, hpm, hr⟩ : ∃ pm : Option (List Nat × List Tmp), pm.map (·.2) = (cfg.prot id (keyOf ops.toList)).map (·.2) /\ runIdx cfg E (cfg.imm f) pm ops s.h.next (List.range' 0 ops.toList.length) (s.ts, ⟨s.h.next + ops.toList.length, s.h.tr⟩) = some (ts1, h1) := by
  have hl : ops.toList.length = ops.size := by simp
  have e : protOf cfg true id (keyOf ops.toList) = cfg.prot id (keyOf ops.toList) := rfl
  rw [e] at hr
  cases hpr : cfg.prot id (keyOf ops.toList) with
  | none =>
   rw [hpr] at hr
   have hri := runOps_idx (cfg := cfg) (E := E) (im := cfg.imm f) (base := s.h.next) ops.toList 0 s.ts ⟨s.h.next + ops.toList.length, s.h.tr⟩ rfl
   rw [Nat.add_zero] at hri
   exact ⟨none, rfl, by rw [<- hri]; exact hr⟩
  | some p =>
   obtain ⟨tl, lay⟩ := p
   rw [hpr] at hr
   have hri := runP_idx (l := idsOfH s.ts s.h tl) (lay := lay) (cfg := cfg) (E := E) (im := cfg.imm f) (base := s.h.next) ops.toList 0 s.ts ⟨s.h.next + ops.toList.length, s.h.tr⟩ rfl
   rw [Nat.add_zero] at hri
   exact ⟨some (idsOfH s.ts s.h tl, lay), rfl, by rw [<- hri]; exact hr⟩
 rw [<- hpm] at hok
 rw [<- hrest] at hr
 refine any_wp (B0 := B0) (base := s.h.next) (im := cfg.imm f) (d := a.defers) hE c hok ops.size _ _ S M ⟨s.h.next + ops.toList.length, s.h.tr⟩ s.ts a (by simp) ?_ (by rw [hrest]; simp) hk (I0.more (by show _ <= _ + _; omega)) (ht.mono E0.keep E0.map) rfl ?_ (by simp) hr ?_
 . intro i o hl
   by_cases hi : i < ops.size
   . simp [Array.getD_eq_getD_getElem?, hi] at hl
   . simp [Array.getD_eq_getD_getElem?, hi] at hl
 . intro i _
   cases hmm : M (s.h.next + i) with
   | none => rfl
   | some m => have := (I.at_ _ m hmm).2.2; omega
 . intro a' w' S' M' I' E' t' d'
   obtain ⟨_, S2, M2, I2, E2, t2⟩ := shutAll_run (n0 := (· < s.h.next)) _ I' (fun i hi => Nat.lt_of_lt_of_le hi hnx) t' hs
   exact hp a' w' S2 M2 I2 ((E0.trans E' fun i hi => hi).trans E2 fun i hi => hi) t2 d'
theorem region_draw_wp (hm : P.follows .mixedOrders = true) (hE : EnvOK K P E) (c : CfgTI cfg P) {f : FuncId} {id : Nat} (hok : drawOK cfg ((cfg.prot id (keyOf ops.toList)).map (·.2)) ops = true) {w : World} {S : Nat -> Prop} {M : MM} {s s' : St} {a : Act} (hk : HeapOK K s.h) (I : Inv B0 w S M s.h) (ht : RepTs w S M s.ts a.tmps)
  (hq : region cfg E f id true ops.toList s = some s') {Q : Exit -> Act -> World -> Prop} {ro : Option Nat} {n : Nat}
  (hp : ∀ a' w' S' M', Inv B0 w' S' M' s'.h -> Ext B0 (· < s.h.next) w S M w' S' M' -> RepTs w' S' M' s'.ts a'.tmps -> a'.defers = a.defers -> Q .normal a' w') : (Code.region id ops true).wpIn (FR ro) n P Q a w := by
 obtain ⟨ts0, h0, hs0, hq⟩ := region_split hq
 obtain ⟨hn, S0, M0, I0, E0, t0⟩ := shutAll_run (n0 := (· < s.h.next)) _ I (fun i hi => hi) ht hs0
 refine regionB_draw_wp hm hE c hok (s := ⟨ts0, h0, s.marks⟩) ((shutAll_good _ _ _ _ _ hs0) hk).2 I0 t0 hq fun a' w' S' M' I' E' t' d' => hp a' w' S' M' I' ?_ t' d'
 have E' : Ext B0 (· < h0.next) w S0 M0 w' S' M' := E'
 exact E0.trans E' fun i hi => Nat.lt_of_lt_of_le hi hn
def codeOK (cfg : Cfg) : Code -> Bool
 | .region id ops draw => !draw || drawOK cfg ((cfg.prot id (keyOf ops.toList)).map (·.2)) ops
 | .seq a b => codeOK cfg a && codeOK cfg b
 | .cond _ a b => codeOK cfg a && codeOK cfg b
 | .block _ c => codeOK cfg c
 | .loop c => codeOK cfg c
 | .scope c => codeOK cfg c
 | .rangeFunc _ _ asg bd => codeOK cfg asg && codeOK cfg bd
 | _ => true
theorem kok (hm : P.follows .mixedOrders = true) (c : CfgTI cfg P) : KOK cfg P (fun cd => codeOK cfg cd = true) :=
 { seq := fun a b h => by simpa [codeOK] using h, cond := fun _ a b h => by simpa [codeOK] using h, block := fun _ _ h => h, loop := fun _ h => h, scope := fun _ h => h, range := fun _ _ a b h => by simpa [codeOK] using h, draw := fun {id ops} h {E} hE {f B0 w S M s s' a} hk I ht hq {Q ro n} hp => region_draw_wp hm hE c (by simpa [codeOK] using h) hk I ht hq hp }
end
end Go.Apex
