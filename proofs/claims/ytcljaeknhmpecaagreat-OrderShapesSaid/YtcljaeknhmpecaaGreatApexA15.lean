import Derived.Lib.UnsafeStr
import Derived.Test.YtcljaeknhmpecaaGreatApexA14
set_option linter.all false
namespace Go.Apex
open Go Go.RowKit
variable [Globs]
section
variable {cfg : Cfg} {P : Program} {B0 : Nat -> Prop} {n0 : Nat -> Prop} {w : World} {S : Nat -> Prop} {M : MM} {h : Heap} {ts : Ts} {a : Array Value} {rd : Rd} {slot : Nat}
theorem getObj_map {b : Nat} {es : Array MapEntry} {clock : Nat} (hb : w.heap[b]? = some (.map es clock)) : (getObj b).run P w = .ok (.map es clock) w := by simp [getObj, Sem.run, hb]
theorem keyFits_desc {u : TypeDesc} {k : T} {kv : Value} (hf : keyFits (dOf u) k = true) (rk : RepT w S k kv) :
  (∃ i n, u = .int i /\ ∃ i', kv = .int i' n /\ k = .int i' n) \/ (u = .string /\ ∃ s, kv = .string s /\ k = .str s.data.toList) \/ (u = .bool /\ ∃ b, kv = .bool b /\ k = .bool b) := by
 unfold keyFits at hf
 split at hf
 . rename_i i i' n hd
   have := dOf_int hd
   exact .inl ⟨i, n, this, i', repT_int rk, rfl⟩
 . rename_i s hd
   obtain ⟨ba, h1, h2⟩ := repT_str rk
   exact .inr (.inl ⟨dOf_str hd, ba, h1, by rw [h2]⟩)
 . rename_i b hd
   exact .inr (.inr ⟨dOf_bool hd, b, repT_bool rk, rfl⟩)
 . cases hf
theorem checkKey_run {t : TypeId} {u : TypeDesc} {k : T} {kv : Value} (hu : P.underlying t = some u) (hf : keyFits (dOf u) k = true) (rk : RepT w S k kv) (e : Bool) (n : Nat) (w' : World) :
  (Instr.checkKey e (n + 1) t kv).run P w' = .ok () w' := by
 rcases keyFits_desc hf rk with ⟨i, m, rfl, i', rfl, _⟩ | ⟨rfl, s, rfl, _⟩ | ⟨rfl, b, rfl, _⟩ <;>
  simp only [Instr.checkKey, Sem.run_bind, run_underlying hu, Result.andThen_ok, Sem.run_pure]
theorem keyEq_same {u : TypeDesc} {k e : T} {kv ev : Value} {b : Bool} (hf : keyFits (dOf u) k = true) (rk : RepT w S k kv) (re : RepT w S e ev) (hk : keyEq k e = some b) : Instr.sameNow u kv ev = some b := by
 rcases keyFits_desc hf rk with ⟨i, m, rfl, i', rfl, rfl⟩ | ⟨rfl, s, rfl, rfl⟩ | ⟨rfl, b', rfl, rfl⟩
 . cases e <;> simp only [keyEq] at hk <;> try (cases hk; done)
   have := repT_int re; subst this
   exact hk
 . cases e <;> simp only [keyEq] at hk <;> try (cases hk; done)
   obtain ⟨ba, h1, h2⟩ := repT_str re
   subst h1
   simp only [Instr.sameNow, bytes_beq, h2]
   exact hk
 . cases e <;> simp only [keyEq] at hk <;> try (cases hk; done)
   have := repT_bool re; subst this
   exact hk
theorem findKey_now {u : TypeDesc} {k : T} {kv : Value} (hf : keyFits (dOf u) k = true) (rk : RepT w S k kv) : ∀ (ks : List T) (es : List MapEntry) (i : Nat) (r : Option Nat), ks.length = es.length →
  (∀ (i : Nat) (k : T) (e : MapEntry), ks[i]? = some k -> es[i]? = some e -> RepT w S k e.key) -> Apex.findKey k ks i = some r →
  (match r with
   | none => Instr.findNow u kv es i = some none
   | some j => i <= j /\ ∃ e, es[j - i]? = some e /\ Instr.findNow u kv es i = some (some (j, e.val)))
 | [], es, i, r, hl, _, hr => by
  simp only [Apex.findKey, oI] at hr
  subst hr
  have : es = [] := List.length_eq_zero_iff.1 hl.symm
  subst this
  rfl
 | x :: ks, [], i, r, hl, _, _ => by simp at hl
 | x :: ks, e :: es, i, r, hl, hke, hr => by
  simp only [Apex.findKey, oB] at hr
  obtain ⟨b, hb, hr⟩ := hr
  have hs := keyEq_same hf rk (hke 0 x e rfl rfl) hb
  cases b with
  | true =>
   simp only [if_true, oI] at hr
   subst hr
   exact ⟨Nat.le_refl _, e, by simp, by simp [Instr.findNow, hs]⟩
  | false =>
   simp only [Bool.false_eq_true, if_false] at hr
   have ih := findKey_now hf rk ks es (i + 1) r (by simpa using hl) (fun j k e' h1 h2 => hke (j + 1) k e' (by simpa using h1) (by simpa using h2)) hr
   cases r with
   | none => simpa [Instr.findNow, hs] using ih
   | some j =>
    obtain ⟨h1, e', h2, h3⟩ := ih
    refine ⟨by omega, e', ?_, by simpa [Instr.findNow, hs] using h3⟩
    have : j - i = (j - (i + 1)) + 1 := by omega
    rw [this]; simpa using h2
theorem findKey_run {t : TypeId} {u : TypeDesc} {k : T} {kv : Value} (hu : P.underlying t = some u) (hf : keyFits (dOf u) k = true) (rk : RepT w S k kv) {ks : List T} {es : List MapEntry} {r : Option Nat} (hl : ks.length = es.length)
  (hke : ∀ (i : Nat) (k : T) (e : MapEntry), ks[i]? = some k -> es[i]? = some e -> RepT w S k e.key) (hr : Apex.findKey k ks 0 = some r) (w' : World) :
  (match r with
   | none => (Instr.findKey t kv es).run P w' = .ok none w'
   | some j => ∃ e, es[j]? = some e /\ (Instr.findKey t kv es).run P w' = .ok (some (j, e.val)) w') := by
 have := findKey_now hf rk ks es 0 r hl hke hr
 cases r with
 | none => simp only [Instr.findKey, Sem.run_bind, run_underlying hu, Result.andThen_ok, this, Sem.run_pure]
 | some j =>
  obtain ⟨_, e, h2, h3⟩ := this
  exact ⟨e, by simpa using h2, by simp only [Instr.findKey, Sem.run_bind, run_underlying hu, Result.andThen_ok, h3, Sem.run_pure]⟩
theorem mapParts_run (I : Inv B0 w S M h) (hrd : ∀ id o, rd id = some o -> h.obj id = some o) {m : V} {mv : Value} (rm : RepV w S M m mv) {ks : List T} {vs : List V} (hp : mapParts rd m = some (ks, vs)) :
  (mv = .map none /\ ks = [] /\ vs = []) \/ ∃ b es clock, mv = .map (some b) /\ w.heap[b]? = some (.map es clock) /\ ks.length = es.size /\ vs.length = es.size ∧
   (∀ (i : Nat) (k : T) (e : MapEntry), ks[i]? = some k -> es[i]? = some e -> RepT w S k e.key) /\ (∀ (i : Nat) (v : V) (e : MapEntry), vs[i]? = some v -> es[i]? = some e -> RepV w S M v e.val) := by
 unfold mapParts at hp
 split at hp
 . cases hp
   have := repV_t rm
   cases this
   exact .inl ⟨rfl, rfl, rfl⟩
 . rename_i ks0 vs0
   cases hp
   have := repV_t rm
   cases this with
   | mp _ _ b es clock hs hh hst hk hv hkr hvr =>
    refine .inr ⟨b, es, clock, rfl, hh, hk, by simpa using hv, hkr, fun i v e h1 h2 => ?_⟩
    rw [List.getElem?_map, oM] at h1
    obtain ⟨y, hy, rfl⟩ := h1
    exact .t _ _ (hvr i y e hy h2)
 . rename_i id
   split at hp
   case h_2 => cases hp
   rename_i ks0 vs0 ho
   cases hp
   obtain ⟨m, hm, hg, es, clock, hst, h1, h2, h3, h4, h5⟩ := I.obj id _ (hrd _ _ ho)
   cases rm with
   | mmp _ b m2 hm2 hb =>
    rw [hm] at hm2
    cases hm2
    have := hb hg; subst this
    exact .inr ⟨_, es, clock, rfl, h1, h2, h3, h4, h5⟩
 . cases hp
theorem lookup_run (X : Ctx cfg P B0 n0 w S M h ts a rd slot) {t : TypeId} {x k : Operand} {ok : Bool} {v : V} {ob : Option Obj} (hq : qLookup cfg ts rd t x k ok = some (v, ob)) :
  QDone P B0 n0 w S M h slot (Instr.lookup t (evalA a x) (evalA a k) ok) v ob := by
 simp only [qLookup, oB] at hq
 obtain ⟨i, hi, hq⟩ := hq
 obtain ⟨info, u, h1, h2, h3, h4, h5, h6, h7, _⟩ := ti_spec X hi
 split at hq
 case h_2 => cases hq
 rename_i kt et hd
 rw [h7] at hd
 have := dOf_map hd; subst this
 simp only [oB] at hq
 obtain ⟨ki, hki, ei, hei, m, hm, k0, ⟨kV, hkV, hk0⟩, hq⟩ := hq
 have := toT_t hk0; subst this
 obtain ⟨_, ku, _, k2, _, _, _, _, k7, _⟩ := ti_spec X hki
 obtain ⟨einfo, eu, e1, e2, _, _, _, e6, _, _⟩ := ti_spec X hei
 split at hq
 case isFalse => cases hq
 rename_i hkf
 rw [k7] at hkf
 have rm := ev_rep X.t hm
 have rk := repV_t (ev_rep X.t hkV)
 simp only [oB] at hq
 obtain ⟨⟨ks, vs⟩, hp, r, hl, hq⟩ := hq
 have hck : ∀ e, (Instr.checkKey e 10000 kt (evalA a k)).run P w = .ok () w := fun e => checkKey_run k2 hkf rk e 9999 w
 simp only [lookupIn, oB] at hl
 obtain ⟨r0, hfk, hl⟩ := hl
 have main : ∃ es : Array MapEntry, ((evalA a x = .map none /\ es = #[]) \/ ∃ b clock, evalA a x = .map (some b) /\ w.heap[b]? = some (.map es clock)) /\ ks.length = es.toList.length /\ vs.length = es.size ∧
   (∀ (i : Nat) (k : T) (e : MapEntry), ks[i]? = some k -> es.toList[i]? = some e -> RepT w S k e.key) /\ (∀ (i : Nat) (v : V) (e : MapEntry), vs[i]? = some v -> es[i]? = some e -> RepV w S M v e.val) := by
  rcases mapParts_run X.I X.rd rm hp with ⟨he, rfl, rfl⟩ | ⟨b, es, clock, he, hb, hk1, hv1, hk2, hv2⟩
  . exact ⟨#[], .inl ⟨he, rfl⟩, rfl, rfl, fun i k e h => by simp at h, fun i v e h => by simp at h⟩
  . exact ⟨es, .inr ⟨b, clock, he, hb⟩, by simpa using hk1, hv1, fun i k e p q => hk2 i k e p (by simpa using q), hv2⟩
 obtain ⟨es, hes, hkl, hvl, hke, hve⟩ := main
 have hfr := findKey_run k2 hkf rk hkl hke hfk w
 cases r0 with
 | none =>
  simp only [oI] at hl
  subst hl
  simp only [oM] at hq
  obtain ⟨z, hz, hq⟩ := hq
  rw [e6] at hz
  obtain ⟨zv, hzv, hzr⟩ := zero_spec hz
  simp only at hfr
  have hrun : (Instr.lookup t (evalA a x) (evalA a k) ok).run P w = .ok (if ok then .tuple #[zv, .bool false] else zv) w := by
   rcases hes with ⟨hx, rfl⟩ | ⟨b, clock, hx, hb⟩
   . simp only [Instr.lookup, hx, Sem.run_bind, run_underlying h2, Result.andThen_ok, Sem.run_pure, hck, hfr, run_zeroValue' e1 hzv]
   . simp only [Instr.lookup, hx, Sem.run_bind, run_underlying h2, Result.andThen_ok, Sem.run_pure, getObj_map hb, hck, hfr, run_zeroValue' e1 hzv]
  cases ok with
  | true =>
   simp only [if_true, Prod.mk.injEq] at hq
   obtain ⟨rfl, rfl⟩ := hq
   refine done_same X hrun (.t _ _ (.tup _ _ rfl fun i x v h1 h2 => ?_))
   match i with
   | 0 => simp at h1 h2; subst h1 h2; exact hzr w S
   | 1 => simp at h1 h2; subst h1 h2; exact .bool _
   | i + 2 => simp at h1
  | false =>
   simp only [Bool.false_eq_true, if_false, Prod.mk.injEq] at hq
   obtain ⟨rfl, rfl⟩ := hq
   exact done_same X hrun (.t _ _ (hzr w S))
 | some j =>
  simp only [oM] at hl
  obtain ⟨y, hy, rfl⟩ := hl
  simp only [oI, Prod.mk.injEq] at hq
  obtain ⟨rfl, rfl⟩ := hq
  simp only at hfr
  obtain ⟨e, he, hfr⟩ := hfr
  have ry := hve j y e hy (by simpa using he)
  have hrun : (Instr.lookup t (evalA a x) (evalA a k) ok).run P w = .ok (if ok then .tuple #[e.val, .bool true] else e.val) w := by
   rcases hes with ⟨hx, rfl⟩ | ⟨b, clock, hx, hb⟩
   . simp at he
   . simp only [Instr.lookup, hx, Sem.run_bind, run_underlying h2, Result.andThen_ok, Sem.run_pure, getObj_map hb, hck, hfr]
  cases ok with
  | true => exact done_same X hrun (mkTup_rep (.cons ry (.cons (.t _ _ (.bool true)) .nil)))
  | false => exact done_same X hrun ry
theorem len_run (X : Ctx cfg P B0 n0 w S M h ts a rd slot) {args : Array Operand} {tys : Array TypeId} {ty : TypeId} {v : V} {ob : Option Obj} (hq : arg1 cfg ts args.toList tys.toList (lenV rd) = some (v, ob)) :
  QDone P B0 n0 w S M h slot (Builtin.len_ tys ty (args.map (evalA a))) v ob := by
 unfold arg1 at hq
 split at hq
 case h_2 => cases hq
 rename_i x t hx ht
 obtain ⟨hq1, hob⟩ := one_some hq
 subst hob
 clear hq
 have hq := hq1
 simp only [oB] at hq
 obtain ⟨i, hi, xv, hxv, hq⟩ := hq
 obtain ⟨info, u, h1, h2, h3, h4, h5, h6, h7, _⟩ := ti_spec X hi
 have rx := ev_rep X.t hxv
 have ea : (args.map (evalA a))[0]? = some (evalA a x) := by
  have : args = #[x] := Array.toList_inj.1 (by simpa using hx)
  subst this; simp
 have et : tys[0]? = some t := by
  have : tys = #[t] := Array.toList_inj.1 (by simpa using ht)
  subst this; simp
 rw [h7] at hq
 have fin : ∀ n : Nat, (Builtin.len_ tys ty (args.map (evalA a))).run P w = .ok (goInt n) w -> v = .t (.int .i64 n) -> QDone P B0 n0 w S M h slot (Builtin.len_ tys ty (args.map (evalA a))) v none := by
  intro n hr hv
  subst hv
  exact done_same X hr (.t _ _ (.int _ _))
 unfold lenV at hq
 split at hq
 . rename_i s hd
   have := dOf_str hd; subst this
   simp only [oI] at hq
   obtain ⟨p, hp, hps⟩ := repT_str (repV_t rx)
   refine fin s.length ?_ hq.symm
   have : p.size = s.length := by rw [size_data, hps]
   simp only [Builtin.len_, ea, et, hp, Sem.run_bind, run_underlying h2, Result.andThen_ok, Sem.run_pure, this]
 . rename_i e hd
   have := dOf_slice hd; subst this
   simp only [oI] at hq
   have hp := repT_nils (repV_t rx)
   refine fin 0 ?_ hq.symm
   simp only [Builtin.len_, ea, et, hp, Sem.run_bind, run_underlying h2, Result.andThen_ok, Sem.run_pure]
 . rename_i e ex sz xs hd
   have := dOf_slice hd; subst this
   simp only [oI] at hq
   obtain ⟨b, o, cap, sp, hp, _⟩ := repT_sl (repV_t rx)
   refine fin xs.length ?_ hq.symm
   simp only [Builtin.len_, ea, et, hp, Sem.run_bind, run_underlying h2, Result.andThen_ok, Sem.run_pure]
 . rename_i e id gen off len sh hd
   have := dOf_slice hd; subst this
   simp only [oI] at hq
   obtain ⟨b, o, cap, m, hp, _⟩ := repV_msl rx
   refine fin len ?_ hq.symm
   simp only [Builtin.len_, ea, et, hp, Sem.run_bind, run_underlying h2, Result.andThen_ok, Sem.run_pure]
 . rename_i k e hd
   have := dOf_map hd; subst this
   simp only [oM] at hq
   obtain ⟨⟨ks, vs⟩, hp, hq⟩ := hq
   refine fin ks.length ?_ hq.symm
   rcases mapParts_run X.I X.rd rx hp with ⟨he, rfl, rfl⟩ | ⟨b, es, clock, he, hb, hk1, hv1, hk2, hv2⟩
   . simp only [Builtin.len_, ea, et, he, Sem.run_bind, run_underlying h2, Result.andThen_ok, Sem.run_pure]
     rfl
   . simp only [Builtin.len_, ea, et, he, Sem.run_bind, run_underlying h2, Result.andThen_ok, Sem.run_pure, getObj_map hb, hk1]
 . cases hq
theorem cap_run (X : Ctx cfg P B0 n0 w S M h ts a rd slot) {args : Array Operand} {tys : Array TypeId} {ty : TypeId} {v : V} {ob : Option Obj} (hq : arg1 cfg ts args.toList tys.toList capV = some (v, ob)) :
  QDone P B0 n0 w S M h slot (Builtin.cap_ tys ty (args.map (evalA a))) v ob := by
 unfold arg1 at hq
 split at hq
 case h_2 => cases hq
 rename_i x t hx ht
 obtain ⟨hq1, hob⟩ := one_some hq
 subst hob
 clear hq
 have hq := hq1
 simp only [oB] at hq
 obtain ⟨i, hi, xv, hxv, hq⟩ := hq
 obtain ⟨info, u, h1, h2, h3, h4, h5, h6, h7, _⟩ := ti_spec X hi
 have rx := ev_rep X.t hxv
 have ea : (args.map (evalA a))[0]? = some (evalA a x) := by
  have : args = #[x] := Array.toList_inj.1 (by simpa using hx)
  subst this; simp
 have et : tys[0]? = some t := by
  have : tys = #[t] := Array.toList_inj.1 (by simpa using ht)
  subst this; simp
 rw [h7] at hq
 unfold capV at hq
 split at hq
 . rename_i e hd
   have := dOf_slice hd; subst this
   simp only [oI] at hq
   subst hq
   have hp := repT_nils (repV_t rx)
   refine done_same X (cv := goInt (0 : Nat)) ?_ (.t _ _ (.int _ _))
   simp only [Builtin.cap_, ea, et, hp, Sem.run_bind, run_underlying h2, Result.andThen_ok, Sem.run_pure]
 . rename_i e sz xs hd
   have := dOf_slice hd; subst this
   simp only [oI] at hq
   subst hq
   obtain ⟨b, o, cap, sp, hp, _, hc, _⟩ := repT_sl (repV_t rx)
   have := hc rfl
   subst this
   refine done_same X (cv := goInt xs.length) ?_ (.t _ _ (.int _ _))
   simp only [Builtin.cap_, ea, et, hp, Sem.run_bind, run_underlying h2, Result.andThen_ok, Sem.run_pure]
 . cases hq
theorem sdata_run (X : Ctx cfg P B0 n0 w S M h ts a rd slot) {args : Array Operand} {tys : Array TypeId} {ty : TypeId} {v : V} {ob : Option Obj} (hq : arg1 cfg ts args.toList tys.toList sdataV = some (v, ob)) :
  QDone P B0 n0 w S M h slot (Builtin.unsafeSliceData_ tys ty (args.map (evalA a))) v ob := by
 unfold arg1 at hq
 split at hq
 case h_2 => cases hq
 rename_i x t hx ht
 obtain ⟨hq1, hob⟩ := one_some hq
 subst hob
 clear hq
 have hq := hq1
 simp only [oB] at hq
 obtain ⟨i, hi, xv, hxv, hq⟩ := hq
 have rx := ev_rep X.t hxv
 have ea : args.map (evalA a) = #[evalA a x] := by
  have : args = #[x] := Array.toList_inj.1 (by simpa using hx)
  subst this; simp
 rw [ea]
 unfold sdataV at hq
 split at hq
 . simp only [oI] at hq
   subst hq
   have hp := repT_nils (repV_t rx)
   rw [hp]
   exact done_same X (cv := .pointer none) rfl (.t _ _ .nilp)
 . rename_i id gen off len sh
   split at hq
   case isFalse => cases hq
   rename_i h1
   simp only [oI] at hq
   subst hq
   generalize hev : evalA a x = u at rx
   cases rx with
   | msl _ _ _ _ _ b o cap hl m hm hg hx =>
    have hc : cap ≠ 0 := by omega
    refine done_same X (cv := .pointer (some ⟨b, o, none⟩)) (Lib.run_unsafeSliceData_row _ _ _ _ _ _ hc) (.ref _ _ _ _ b o m hm hg fun e => ?_)
    obtain ⟨e1, e2, _⟩ := hx e
    exact ⟨e1, e2.resolve_left hc⟩
 . cases hq
theorem fold_run {g : Int -> Int -> Int} {m2 : Value -> Value -> Sem Value} (hm : ∀ k x k' y, m2 (.int k x) (.int k' y) = pure (.int k (g x y))) (k : IntKind) : ∀ (r : List V) (rv : List Value) (x : Int) (v : V), RepVL w S M r rv -> foldMax g k x r = some v →
  ∃ n, v = .t (.int k n) /\ (rv.foldlM m2 (.int k x)).run P w = .ok (.int k n) w
 | [], [], x, v, _, hv => by
  simp only [foldMax, oI] at hv
  exact ⟨x, hv.symm, by simp⟩
 | y :: r, yv :: rv, x, v, hr, hv => by
  obtain ⟨hy, _⟩ := hr.tail
  unfold foldMax at hv
  split at hv
  . simp_all
  . rename_i k' b r' heq
    obtain ⟨rfl, rfl⟩ := List.cons.inj heq
    split at hv
    case isFalse => cases hv
    have := repT_int (repV_t hy)
    subst this
    obtain ⟨n, h1, h2⟩ := fold_run hm k r rv _ v hr.tail.2 hv
    exact ⟨n, h1, by simp only [List.foldlM_cons, hm, Sem.run_bind, Sem.run_pure, Result.andThen_ok, h2]⟩
  . cases hv
 | [], _ :: _, _, _, hr, _ => by simp [RepVL] at hr
 | _ :: _, [], _, _, hr, _ => by simp [RepVL] at hr
theorem max_run (X : Ctx cfg P B0 n0 w S M h ts a rd slot) {args : Array Operand} {tys : Array TypeId} {ty : TypeId} {v : V} {ob : Option Obj} (hq : extV (fun x y => if y > x then y else x) ts args.toList = some (v, ob)) :
  QDone P B0 n0 w S M h slot (Builtin.max_ tys ty (args.map (evalA a))) v ob := by
 obtain ⟨hq1, hob⟩ := one_some hq
 subst hob
 clear hq
 have hq := hq1
 simp only [oB] at hq
 obtain ⟨vs, hvs, hq⟩ := hq
 have hr := evL_rep X.t hvs
 split at hq
 case h_2 => cases hq
 rename_i k x r
 have hl : (args.map (evalA a)).toList = args.toList.map (evalA a) := by simp
 generalize args.toList.map (evalA a) = L at hr hl
 match L, hr with
 | [], hr => simp [RepVL] at hr
 | xv :: rv, hr =>
  obtain ⟨hx, _⟩ := hr.tail
  have := repT_int (repV_t hx)
  subst this
  obtain ⟨n, rfl, h2⟩ := fold_run (P := P) (m2 := Builtin.max2) (fun _ _ _ _ => rfl) k r rv x v hr.tail.2 hq
  exact done_same X (by simp only [Builtin.max_, hl]; exact h2) (.t _ _ (.int _ _))
theorem min_run (X : Ctx cfg P B0 n0 w S M h ts a rd slot) {args : Array Operand} {tys : Array TypeId} {ty : TypeId} {v : V} {ob : Option Obj} (hq : extV (fun x y => if y < x then y else x) ts args.toList = some (v, ob)) :
  QDone P B0 n0 w S M h slot (Builtin.min_ tys ty (args.map (evalA a))) v ob := by
 obtain ⟨hq1, hob⟩ := one_some hq
 subst hob
 clear hq
 have hq := hq1
 simp only [oB] at hq
 obtain ⟨vs, hvs, hq⟩ := hq
 have hr := evL_rep X.t hvs
 split at hq
 case h_2 => cases hq
 rename_i k x r
 have hl : (args.map (evalA a)).toList = args.toList.map (evalA a) := by simp
 generalize args.toList.map (evalA a) = L at hr hl
 match L, hr with
 | [], hr => simp [RepVL] at hr
 | xv :: rv, hr =>
  obtain ⟨hx, _⟩ := hr.tail
  have := repT_int (repV_t hx)
  subst this
  obtain ⟨n, rfl, h2⟩ := fold_run (P := P) (m2 := Builtin.min2) (fun _ _ _ _ => rfl) k r rv x v hr.tail.2 hq
  exact done_same X (by simp only [Builtin.min_, hl]; exact h2) (.t _ _ (.int _ _))
end
end Go.Apex
