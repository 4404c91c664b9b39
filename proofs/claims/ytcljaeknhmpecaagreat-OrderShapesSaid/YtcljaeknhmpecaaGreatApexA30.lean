import Derived.Test.YtcljaeknhmpecaaGreatApexA29
set_option linter.all false
namespace Go.Apex
open Go Go.RowKit
variable [Globs]
section
variable {cfg : Cfg} {P : Program} {K : Code -> Prop}
def ChkOK (cfg : Cfg) (P : Program) : Prop := ∀ (f : FuncId) (e : TypeId), cfg.chk f = some e -> Enters P f /\ ∀ (b : Nat) (w : World),
 (w.cell? ⟨b, 0, none⟩ = some (.pointer none) -> w.shape? b = some (e, 2) -> w.frozen? ⟨b, 0, none⟩ = false -> Calls P f #[.pointer (some ⟨b, 0, none⟩)] w fun x w' => x = .returned (.tuple #[]) /\ w' = w.setCell ⟨b, 0, none⟩ (.pointer (some ⟨b, 0, none⟩))) ∧
 (w.cell? ⟨b, 0, none⟩ = some (.pointer (some ⟨b, 0, none⟩)) -> Calls P f #[.pointer (some ⟨b, 0, none⟩)] w fun x w' => x = .returned (.tuple #[]) /\ w' = w)
def PrimOK (cfg : Cfg) (P : Program) : Prop := (∀ (f : FuncId) (g : List T -> Option T) (xs : List T) (r : T), cfg.prim f = some g -> g xs = some r -> Enters P f /\ ∀ (w : World) (S : Nat -> Prop) (cargs : Array Value), BaseOK w.heap.size w -> (∀ b, S b -> b < w.heap.size) -> RepTL w S xs cargs.toList →
  Calls P f cargs w fun e w' => ∃ cv S', e = .returned cv /\ Pure w S w' S' /\ RepT w' S' r cv) /\ ChkOK cfg P
theorem check_ok (hC : ChkOK cfg P) {f : FuncId} {e : TypeId} (hk : cfg.chk f = some e) {args : List V} {h h' : Heap} {v : V} (hq : checkCall e args h = some (v, h')) :
  Enters P f /\ Good K h h' /\ ∀ (B0 : Nat -> Prop) (w : World) (S : Nat -> Prop) (M : MM) (cargs : Array Value), HeapOK K h -> Inv B0 w S M h -> RepVL w S M args cargs.toList →
  Calls P f cargs w fun e w' => ∃ cv S' M', e = .returned cv /\ Inv B0 w' S' M' h' /\ Ext B0 (· < h.next) w S M w' S' M' /\ RepV w' S' M' v cv := by
 obtain ⟨hen, hlaw⟩ := hC f e hk
 refine ⟨hen, ?_⟩
 unfold checkCall at hq
 split at hq
 case h_2 => cases hq
 rename_i id gen off sh
 cases hc : (Nat.beq gen 0 && Nat.beq off 0) <;> simp only [hc, cond_true, cond_false] at hq
 . cases hq
 simp only [Bool.and_eq_true] at hc
 obtain ⟨hg0, ho0⟩ := hc
 cases Nat.eq_of_beq_eq_true hg0
 cases Nat.eq_of_beq_eq_true ho0
 split at hq
 case h_2 => cases hq
 rename_i g e' fz cs ho
 cases hc : (Nat.beq g 0 && !fz && Nat.beq e' e) <;> simp only [hc, cond_true, cond_false] at hq
 . cases hq
 simp only [Bool.and_eq_true, Bool.not_eq_eq_eq_not, Bool.not_true] at hc
 obtain ⟨⟨hg0, rfl⟩, he0⟩ := hc
 cases Nat.eq_of_beq_eq_true hg0
 have he0 : e' = e := Nat.eq_of_beq_eq_true he0
 subst he0
 split at hq
 case h_2 => cases hq
 rename_i c x
 have key : ∀ (B0 : Nat -> Prop) (w : World) (S : Nat -> Prop) (M : MM) (cargs : Array Value), Inv B0 w S M h -> RepVL w S M [.ref id 0 0 sh] cargs.toList →
   ∃ m arr u0 u1, M id = some m /\ m.gen = 0 /\ m.ext = 2 /\ m.s = 0 /\ m.tot = 2 /\ w.heap[m.b]? = some (.cells arr e' (0, 0)) /\ arr = #[u0, u1] /\ RepV w S M c u0 /\ RepV w S M x u1 ∧
    cargs = #[.pointer (some ⟨m.b, 0, none⟩)] /\ RepV w S M (.ref id 0 0 sh) (.pointer (some ⟨m.b, 0, none⟩)) := by
  intro B0 w S M cargs I hr
  obtain ⟨m, hm, h1, h2, hw, arr, fr, h3, h4, h5, h6, h7⟩ := I.obj id _ ho
  obtain ⟨hs, ht⟩ := hw rfl
  obtain ⟨u0, hu0, r0⟩ := h7 0 c rfl
  obtain ⟨u1, hu1, r1⟩ := h7 1 x rfl
  have ht2 : m.tot = 2 := by simpa using ht
  have hfr := h4 rfl
  subst hfr
  have harr : arr = #[u0, u1] := by
   rw [hs] at hu0 hu1
   obtain ⟨l⟩ := arr
   match l, h5 with
   | [a, b], _ =>
    simp only [List.getElem?_toArray] at hu0 hu1
    cases hu0; cases hu1; rfl
   | [], h5 => simp at h5; omega
   | [_], h5 => simp at h5; omega
   | _ :: _ :: _ :: _, h5 => simp at h5; omega
  have hlen : cargs.toList.length = 1 := by simpa using hr.1.symm
  obtain ⟨l⟩ := cargs
  match l, hlen with
  | [cv], _ =>
   obtain ⟨cv', hcv, rv⟩ := hr.get (i := 0) (x := .ref id 0 0 sh) rfl
   simp only [List.getElem?_cons_zero, oI] at hcv
   subst hcv
   have rv2 := rv
   cases rv with
   | ref _ _ _ _ b o m2 hm2 hg hx =>
    rw [hm] at hm2
    cases hm2
    obtain ⟨rfl, rfl⟩ := hx h1
    have e0 : m.s + 0 = 0 := by omega
    rw [e0] at rv2 ⊢
    exact ⟨m, arr, u0, u1, hm, h1, by simpa using h2, hs, ht2, h3, harr, r0, r1, rfl, rv2⟩
 split at hq
 . cases hq
   refine ⟨.set rfl, fun B0 w S M cargs hk I hr => ?_⟩
   obtain ⟨m, arr, u0, u1, hm, hg, hext, hs, ht, hheap, rfl, r0, r1, rfl, rv⟩ := key B0 w S M cargs I hr
   have hu0 : u0 = .pointer none := by have h := repV_t r0; cases h; rfl
   subst hu0
   have hcell : w.cell? ⟨m.b, 0, none⟩ = some (.pointer none) := by simp [World.cell?, hheap]
   refine ((hlaw m.b w).1 hcell (by simp [World.shape?, hheap]) (by simp [World.frozen?, hheap])).mono ?_
   rintro x1 w' ⟨rfl, rfl⟩
   obtain ⟨w2, hrun, hI, hE⟩ := store_put (P := P) (n0 := (· < h.next)) I ho hm hg (by simpa using hext) hheap (by simpa using ht.symm) (p := 0) (nv := [.pointer (some ⟨m.b, 0, none⟩)]) (by simp; omega) (by intro v hv; simp only [List.mem_singleton] at hv; subst hv; rfl)
    (g' := 0) (s' := m.s) (cs' := [.ref id 0 0 sh, x]) (.inl ⟨rfl, rfl, rfl⟩) (by simp; omega) (fun j c hj => by
     rw [hs]
     match j, hj with
     | 0, hj => cases hj; exact ⟨_, rfl, rv⟩
     | 1, hj => cases hj; exact ⟨_, rfl, r1⟩)
   have hw2 : w2 = w.setCell ⟨m.b, 0, none⟩ (.pointer (some ⟨m.b, 0, none⟩)) := by
    rw [hs] at hrun
    simp only [storeCells, Sem.run_bind, Nat.add_zero] at hrun
    have hadd : (⟨m.b, 0, none⟩ : Addr).add 0 = ⟨m.b, 0, none⟩ := rfl
    rw [hadd, run_store P w _ _ _ rfl, hcell] at hrun
    simp only [World.frozen?, hheap] at hrun
    simpa using hrun.symm
   subst hw2
   exact ⟨_, S, _, rfl, hI, hE, undef_rep⟩
 . rename_i i2 g2 o2 sh2
   cases hc : (Nat.beq i2 id && Nat.beq g2 0 && Nat.beq o2 0) <;> simp only [hc, cond_true, cond_false] at hq
   . cases hq
   simp only [Bool.and_eq_true] at hc
   obtain ⟨⟨hg0, hg1⟩, hg2⟩ := hc
   have e1 := Nat.eq_of_beq_eq_true hg0
   have e2 := Nat.eq_of_beq_eq_true hg1
   have e3 := Nat.eq_of_beq_eq_true hg2
   subst e1 e2 e3
   cases hq
   refine ⟨.refl _ _, fun B0 w S M cargs hk I hr => ?_⟩
   obtain ⟨m, arr, u0, u1, hm, hg, hext, hs, ht, hheap, rfl, r0, r1, rfl, rv⟩ := key B0 w S M cargs I hr
   have hu0 : u0 = .pointer (some ⟨m.b, 0, none⟩) := by
    cases r0 with
    | ref _ _ _ _ b o m2 hm2 hg2 hx =>
     rw [hm] at hm2
     cases hm2
     obtain ⟨rfl, rfl⟩ := hx hg
     rw [hs]
   subst hu0
   have hcell : w.cell? ⟨m.b, 0, none⟩ = some (.pointer (some ⟨m.b, 0, none⟩)) := by simp [World.cell?, hheap]
   refine ((hlaw m.b w).2 hcell).mono ?_
   rintro x1 w' ⟨rfl, rfl⟩
   exact ⟨_, S, M, rfl, I, Ext.refl .., undef_rep⟩
 . cases hq
theorem callBody_ok {E : Env} (hE : EnvOK K P E) (c : CfgTI cfg P) (hK : KOK cfg P K) (hF : CfgFn cfg P K) (hP : PrimOK cfg P) {f : FuncId} {args : List V} {v : V} {h h' : Heap} (hq : callBody cfg E (.fn f) args h = some (v, h')) :
  Enters P f /\ Good K h h' /\ ∀ (B0 : Nat -> Prop) (w : World) (S : Nat -> Prop) (M : MM) (cargs : Array Value), HeapOK K h -> Inv B0 w S M h -> RepVL w S M args cargs.toList →
  Calls P f cargs w fun e w' => ∃ cv S' M', e = .returned cv /\ Inv B0 w' S' M' h' /\ Ext B0 (· < h.next) w S M w' S' M' /\ RepV w' S' M' v cv := by
 simp only [callBody] at hq
 cases hc : cfg.code f with
 | none =>
  simp only [hc, oB] at hq
  obtain ⟨e, he, hq⟩ := hq
  exact check_ok hP.2 he hq
 | some fn =>
  simp only [hc] at hq
  exact body_ok hE c hK hF hq
theorem pureBody_ok {E : Env} (hE : EnvOK K P E) (c : CfgTI cfg P) (hK : KOK cfg P K) (hF : CfgFn cfg P K) (hP : PrimOK cfg P) {f : FuncId} {xs : List T} {r : T} (hq : pureBody cfg E f xs = some r) :
  Enters P f /\ ∀ (w : World) (S : Nat -> Prop) (cargs : Array Value), BaseOK w.heap.size w -> (∀ b, S b -> b < w.heap.size) -> RepTL w S xs cargs.toList →
  Calls P f cargs w fun e w' => ∃ cv S', e = .returned cv /\ Pure w S w' S' /\ RepT w' S' r cv := by
 unfold pureBody at hq
 split at hq
 . rename_i g hg
   exact hP.1 f g xs r hg hq
 . simp only [oB] at hq
   obtain ⟨⟨v, h'⟩, hb, hs⟩ := hq
   obtain ⟨hen, _, hcall⟩ := body_ok hE c hK hF hb
   refine ⟨hen, fun w S cargs hB hS hr => (hcall (fun b => b < w.heap.size) w S (fun _ => none) cargs (by intro id st pend f ts ps asg bd h; cases h) (inv_empty hB hS) (repVL_of_t hr.1 hr.2)).mono ?_⟩
   rintro e w' ⟨cv, S', M', rfl, I', E', hv⟩
   refine ⟨cv, fun b => S' b \/ (w.heap.size <= b /\ b < w'.heap.size), rfl, ⟨E'.os, E'.tape, E'.output, E'.size, E'.below, fun b hb => .inl (E'.keep b hb).1, fun b hb => hb.elim (fun h => (E'.new b h).imp (fun h => h) Nat.le_of_not_lt) fun h => .inr h.1, fun b hb => hb.elim (I'.lt b) fun h => h.2⟩, ?_⟩
   exact snap_rep I' (fun id o h => h) (fun b hb => .inl hb) (fun id o m _ hm => .inr ⟨Nat.le_of_not_lt (I'.at_ id m hm).1, (I'.at_ id m hm).2.1⟩) (.inr fun O K b hb => .inr ⟨Nat.le_of_not_lt (K.free b hb).2.1, (K.free b hb).2.2⟩) snapFuel v r cv hs hv
theorem env_ok (c : CfgTI cfg P) (hK : KOK cfg P K) (hF : CfgFn cfg P K) (hP : PrimOK cfg P) : ∀ n, EnvOK K P (env cfg n)
 | 0 => ⟨fun _ _ _ h => (by cases h), fun _ _ _ _ _ h => (by cases h), fun _ _ _ _ _ h => (by cases h), fun _ _ _ h => (by cases h)⟩
 | n + 1 =>
  have ih := env_ok c hK hF hP n
  ⟨fun _ _ _ h => pureBody_ok ih c hK hF hP h, fun _ _ _ _ _ h => callBody_ok ih c hK hF hP h, fun _ _ _ _ _ h => round_ok ih c hK h, fun _ _ _ h => ⟨n, h⟩⟩
noncomputable def evalN (cfg : Cfg) (n : Nat) (f : FuncId) (xs : List T) : Option T := pureBody cfg (env cfg n) f xs
theorem eval_calls (c : CfgTI cfg P) (hK : KOK cfg P K) (hF : CfgFn cfg P K) (hP : PrimOK cfg P) {n : Nat} {f : FuncId} {xs : List T} {r : T} (hq : evalN cfg n f xs = some r) (w : World) (S : Nat -> Prop) (cargs : Array Value)
  (hB : BaseOK w.heap.size w) (hS : ∀ b, S b -> b < w.heap.size) (hr : RepTL w S xs cargs.toList) :
  Calls P f cargs w fun e w' => ∃ cv S', e = .returned cv /\ Pure w S w' S' /\ RepT w' S' r cv := (pureBody_ok (env_ok c hK hF hP n) c hK hF hP hq).2 w S cargs hB hS hr
end
end Go.Apex
