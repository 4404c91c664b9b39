import Derived.Test.YtcljaeknhmpecaaApexA36
import Derived.Lib.Join
import Derived.Lib.IndexMore
set_option linter.all false
set_option linter.unusedVariables false
set_option linter.unusedSimpArgs false
set_option linter.unusedSectionVars false
set_option linter.deprecated false
/- Functions of the library that are told by a law of their own: strings.Join. -/
namespace Go.Apex
open Go Go.RowKit
/-- strings.Join, on trees. -/
def joinT : List T → Option T
  | [.nils, .str _] => some (.str [])
  | [.sl _ 1 xs, .str sep] => (mapO T.str? xs).bind fun ss =>
    if ss.length ≤ 140737488355328 ∧ (Lib.join ss sep).length ≤ 140737488355328 then some (.str (Lib.join ss sep)) else none
  | _ => none
theorem join_prim {P : Program} {f : FuncId}
    (hnone : ∀ (a : Option Addr) (c : Nat) (sep : ByteArray) (w : World), Calls P f #[.slice a 0 c, .string sep] w fun e w' => e = .returned (.string ⟨#[]⟩) ∧ w' = w)
    (hjoin : ∀ (bk o c : Nat) (xs : List ByteArray) (sep : ByteArray) (w : World), (∀ (j : Nat) x, xs[j]? = some x → w.cell? ⟨bk, o + j, none⟩ = some (.string x)) → bk < w.heap.size → xs.length ≤ 140737488355328 → xs.length ≤ c →
      (Lib.join (xs.map (·.data.toList)) sep.data.toList).length ≤ 140737488355328 →
      Calls P f #[.slice (some ⟨bk, o, none⟩) xs.length c, .string sep] w fun e w' => e = .returned (.string ⟨(Lib.join (xs.map (·.data.toList)) sep.data.toList).toArray⟩) ∧ Below w.heap.size w w')
    {xs : List T} {r : T} (hq : joinT xs = some r) (w : World) (S : Nat → Prop) (cargs : Array Value) (hS : ∀ b, S b → b < w.heap.size) (hr : RepTL w S xs cargs.toList) :
    Calls P f cargs w fun e w' => ∃ cv S', e = .returned cv ∧ Pure w S w' S' ∧ RepT w' S' r cv := by
  have two : ∀ {x y : T}, RepTL w S [x, y] cargs.toList → ∃ u v, cargs = #[u, v] ∧ RepT w S x u ∧ RepT w S y v := by
    intro x y h
    obtain ⟨hl, hx⟩ := h
    match hc : cargs.toList with
    | [u, v] =>
      rw [hc] at hx
      exact ⟨u, v, by rw [← Array.toList_inj, hc], hx 0 x u rfl rfl, hx 1 y v rfl rfl⟩
    | [] => rw [hc] at hl; cases hl
    | [_] => rw [hc] at hl; cases hl
    | _ :: _ :: _ :: _ => rw [hc] at hl; simp at hl
  have none_ok : ∀ (a : Option Addr) (c : Nat) (sep : ByteArray), Calls P f #[.slice a 0 c, .string sep] w fun e w' => ∃ cv S', e = .returned cv ∧ Pure w S w' S' ∧ RepT w' S' (.str []) cv := fun a c sep =>
    (hnone a c sep w).mono fun e w' ⟨he, hw⟩ => by
      subst hw
      exact ⟨_, S, he, ⟨rfl, rfl, rfl, Nat.le_refl _, fun _ _ => rfl, fun _ h => h, fun _ h => .inl h, hS⟩, .str _ _ rfl⟩
  unfold joinT at hq
  split at hq
  · rename_i sep
    cases hq
    obtain ⟨u, v, rfl, h1, h2⟩ := two hr
    cases h1
    cases h2
    exact none_ok none 0 _
  · rename_i ex ys sep
    obtain ⟨u, v, rfl, h1, h2⟩ := two hr
    simp only [Option.bind_eq_some_iff] at hq
    obtain ⟨ss, hss, hq⟩ := hq
    split at hq
    case isFalse => cases hq
    rename_i hb
    cases hq
    obtain ⟨l1, l2⟩ := mapO_spec hss
    cases h2 with
    | str _ sv hsv =>
    cases h1 with
    | sl _ _ _ b o cap g hl hx hz hc hrr sp hsp =>
    cases hys : ys with
    | nil =>
      subst hys
      have : ss = [] := by
        cases ss with
        | nil => rfl
        | cons a l => simp at l1
      subst this
      exact none_ok _ _ _
    | cons y0 yr =>
      obtain rfl : sp = none := hsp.resolve_right (by rw [hys]; simp)
      have key : ∀ (j : Nat) (s : List UInt8), ss[j]? = some s → S b ∧ w.cell? ⟨b, o + j, none⟩ = some (.string ⟨s.toArray⟩) := by
        intro j s hj
        obtain ⟨y, hy, hs⟩ := l2 j s hj
        have hy2 := str?_some hs
        subst hy2
        have hc1 := hc j (.str s) 0 (.str s) hy rfl
        have hr1 := hrr j (.str s) 0 (.str s) hy rfl
        refine ⟨hc1.1, ?_⟩
        have h3 := hc1.2
        rw [Nat.mul_one, Nat.add_zero] at h3
        rw [h3]
        cases hg : g j 0 with
        | string sv2 =>
          rw [hg] at hr1
          cases hr1 with
          | str _ _ h4 => rw [← h4]
        | _ => rw [hg] at hr1; cases hr1
      have hpos : 0 < ss.length := by rw [l1, hys]; simp
      have hSb : S b := (key 0 ss[0] (List.getElem?_eq_getElem hpos)).1
      have hmap : (ss.map fun s => (⟨s.toArray⟩ : ByteArray)).map (·.data.toList) = ss := by
        rw [List.map_map]
        exact List.map_id'' (fun s => by simp) ss
      have hlen : ys.length = ss.length := l1.symm
      have hcall := hjoin b o cap (ss.map fun s => (⟨s.toArray⟩ : ByteArray)) sv w (fun j x hx => by
        rw [List.getElem?_map, Option.map_eq_some_iff] at hx
        obtain ⟨s, hs, rfl⟩ := hx
        exact (key j s hs).2) (hS b hSb) (by simpa using hb.1) (by simpa [← hlen] using hl) (by rw [hmap, hsv]; exact hb.2)
      rw [hmap, hsv, List.length_map] at hcall
      rw [← hys, hlen]
      refine hcall.mono fun e w' ⟨he, hw⟩ => ?_
      exact ⟨_, S, he, ⟨hw.os, hw.tape, hw.output, hw.size, hw.block, fun _ h => h, fun _ h => .inl h, fun b hb => Nat.lt_of_lt_of_le (hS b hb) hw.size⟩, .str _ _ (by simp)⟩
  · cases hq
theorem fnO_prim {cfg : Cfg} {f : FuncId} {g : List T → Option T} {xs : List T} {r : T} (hp : cfg.prim f = some g) (hg : g xs = some r) : fnO cfg f xs = some r :=
  fnO_some.2 ⟨1, by show pureBody cfg (env cfg 0) f xs = _; unfold pureBody; rw [hp]; exact hg⟩

/-! internal/stringslite.Index and strings.Count. -/
/-- The first place, from one on. -/
def idxF (sub : List UInt8) : List UInt8 → Nat → Option Nat
  | [], i => cond sub.isEmpty (some i) none
  | b :: l, i => cond (sub.isPrefixOf (b :: l)) (some i) (idxF sub l (Nat.succ i))
theorem idxF_eq (sub : List UInt8) : ∀ (s : List UInt8) (i : Nat), (match idxF sub s i with | some j => i ≤ j ∧ Lib.index s sub = ((j - i : Nat) : Int) | none => Lib.index s sub = -1)
  | [], i => by
    unfold idxF Lib.index
    cases sub.isEmpty <;> simp
  | b :: l, i => by
    unfold idxF Lib.index
    cases hp : sub.isPrefixOf (b :: l) with
    | true => simp
    | false =>
      have ih := idxF_eq sub l (Nat.succ i)
      simp only [cond_false, Bool.false_eq_true, if_false]
      cases hq : idxF sub l (Nat.succ i) with
      | none =>
        rw [hq] at ih
        simp only at ih ⊢
        rw [ih]
        rfl
      | some j =>
        rw [hq] at ih
        simp only at ih ⊢
        obtain ⟨h1, h2⟩ := ih
        refine ⟨by omega, ?_⟩
        rw [h2]
        have : (((j - Nat.succ i : Nat) : Int) == -1) = false := by rw [beq_eq_false_iff_ne]; omega
        rw [this]
        simp only [Bool.false_eq_true, if_false]
        omega
def idxI (s sub : List UInt8) : Int := match idxF sub s 0 with | some j => Int.ofNat j | none => -1
theorem idxI_eq (s sub : List UInt8) : idxI s sub = Lib.index s sub := by
  have := idxF_eq sub s 0
  unfold idxI
  cases h : idxF sub s 0 with
  | none => rw [h] at this; exact this.symm
  | some j => rw [h] at this; simp only [Nat.sub_zero] at this; exact this.2.symm
def cntF (sub : List UInt8) : Nat → List UInt8 → Nat
  | 0, _ => 0
  | n + 1, s => match idxF sub s 0 with
    | none => 0
    | some j => Nat.succ (cntF sub n (s.drop (Nat.add j sub.length)))
theorem cntF_eq (sub : List UInt8) : ∀ (n : Nat) (s : List UInt8), cntF sub n s = Lib.countFrom sub n s
  | 0, _ => rfl
  | n + 1, s => by
    unfold cntF Lib.countFrom
    have h0 := idxI_eq s sub
    unfold idxI at h0
    cases h : idxF sub s 0 with
    | none =>
      rw [h] at h0
      simp only at h0 ⊢
      rw [← h0]
      rfl
    | some j =>
      rw [h] at h0
      simp only at h0 ⊢
      rw [← h0]
      have : (Int.ofNat j == -1) = false := by rw [beq_eq_false_iff_ne]; exact fun h => by cases h
      rw [this]
      simp only [Bool.false_eq_true, if_false]
      rw [cntF_eq sub n]
      show _ + 1 = 1 + _
      rw [Nat.add_comm]
      rfl
def sidxT : List T → Option T
  | [.str s, .str sub] => cond (Nat.ble (s.length + 1) 4294967281) (some (.int .i64 (idxI s sub))) none
  | _ => none
def scntT : List T → Option T
  | [.str s, .str sub] => cond (Nat.ble (s.length + 1) 4294967281 && Nat.ble 2 sub.length) (some (.int .i64 (cntF sub (s.length + 1) s))) none
  | _ => none
theorem two_str {w : World} {S : Nat → Prop} {cargs : Array Value} {x y : List UInt8} (h : RepTL w S [.str x, .str y] cargs.toList) : ∃ u v : ByteArray, cargs = #[.string u, .string v] ∧ u.data.toList = x ∧ v.data.toList = y := by
  obtain ⟨hl, hx⟩ := h
  match hc : cargs.toList with
  | [u, v] =>
    rw [hc] at hx
    have h1 := hx 0 _ u rfl rfl
    have h2 := hx 1 _ v rfl rfl
    cases h1 with
    | str _ bu hu =>
    cases h2 with
    | str _ bv hv => exact ⟨bu, bv, by rw [← Array.toList_inj, hc], hu, hv⟩
  | [] => rw [hc] at hl; cases hl
  | [_] => rw [hc] at hl; cases hl
  | _ :: _ :: _ :: _ => rw [hc] at hl; simp at hl
theorem idx_prim {P : Program} {f : FuncId} {gb : Nat}
    (hlaw : ∀ (s sub : ByteArray) (m : Int) (w : World), s.size < 4294967281 → w.cell? ⟨gb, 0, none⟩ = some (.int .i64 m) → Calls P f #[.string s, .string sub] w fun e w' => e = .returned (.int .i64 (Lib.index s.data.toList sub.data.toList)) ∧ w' = w)
    {xs : List T} {r : T} (hq : sidxT xs = some r) (w : World) (S : Nat → Prop) (cargs : Array Value) (hm : ∃ m : Int, w.cell? ⟨gb, 0, none⟩ = some (.int .i64 m)) (hS : ∀ b, S b → b < w.heap.size) (hr : RepTL w S xs cargs.toList) :
    Calls P f cargs w fun e w' => ∃ cv S', e = .returned cv ∧ Pure w S w' S' ∧ RepT w' S' r cv := by
  unfold sidxT at hq
  split at hq
  case h_2 => cases hq
  rename_i s sub
  obtain ⟨u, v, rfl, rfl, rfl⟩ := two_str hr
  obtain ⟨m, hm⟩ := hm
  cases hc : Nat.ble (u.data.toList.length + 1) 4294967281 <;> rw [hc] at hq
  · cases hq
  cases hq
  have hlt := Nat.le_of_ble_eq_true hc
  refine (hlaw u v m w (by show u.data.size < _; rw [← Array.length_toList]; omega) hm).mono ?_
  rintro e w' ⟨rfl, rfl⟩
  exact ⟨_, S, rfl, ⟨rfl, rfl, rfl, Nat.le_refl _, fun _ _ => rfl, fun _ h => h, fun _ h => .inl h, hS⟩, by rw [idxI_eq]; exact .int _ _⟩
theorem cnt_prim {P : Program} {f : FuncId} {gb : Nat}
    (hlaw : ∀ (s sub : ByteArray) (m : Int) (w : World), s.size < 4294967281 → w.cell? ⟨gb, 0, none⟩ = some (.int .i64 m) → 2 ≤ sub.size → Calls P f #[.string s, .string sub] w fun e w' => e = .returned (.int .i64 (Lib.count s.data.toList sub.data.toList)) ∧ w' = w)
    {xs : List T} {r : T} (hq : scntT xs = some r) (w : World) (S : Nat → Prop) (cargs : Array Value) (hm : ∃ m : Int, w.cell? ⟨gb, 0, none⟩ = some (.int .i64 m)) (hS : ∀ b, S b → b < w.heap.size) (hr : RepTL w S xs cargs.toList) :
    Calls P f cargs w fun e w' => ∃ cv S', e = .returned cv ∧ Pure w S w' S' ∧ RepT w' S' r cv := by
  unfold scntT at hq
  split at hq
  case h_2 => cases hq
  rename_i s sub
  obtain ⟨u, v, rfl, rfl, rfl⟩ := two_str hr
  obtain ⟨m, hm⟩ := hm
  cases hc : (Nat.ble (u.data.toList.length + 1) 4294967281 && Nat.ble 2 v.data.toList.length) <;> rw [hc] at hq
  · cases hq
  cases hq
  rw [Bool.and_eq_true] at hc
  have hlt := Nat.le_of_ble_eq_true hc.1
  have hl2 := Nat.le_of_ble_eq_true hc.2
  refine (hlaw u v m w (by show u.data.size < _; rw [← Array.length_toList]; omega) hm (by show _ ≤ v.data.size; rw [← Array.length_toList]; exact hl2)).mono ?_
  rintro e w' ⟨rfl, rfl⟩
  exact ⟨_, S, rfl, ⟨rfl, rfl, rfl, Nat.le_refl _, fun _ _ => rfl, fun _ h => h, fun _ h => .inl h, hS⟩, by rw [cntF_eq]; exact .int _ _⟩
end Go.Apex
