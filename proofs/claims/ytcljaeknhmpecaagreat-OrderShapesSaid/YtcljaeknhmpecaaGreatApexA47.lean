import Derived.Test.YtcljaeknhmpecaaGreatApexA36
import Derived.Lib.Join
import Derived.Lib.IndexMore
set_option linter.all false
namespace Go.Apex
open Go Go.RowKit
def joinT : List T -> Option T
 | [.nils, .str _] => some (.str [])
 | [.sl _ 1 xs, .str sep] => (mapO T.str? xs).bind fun ss =>
  if ss.length <= 140737488355328 /\ (Lib.join ss sep).length <= 140737488355328 then some (.str (Lib.join ss sep)) else none
 | _ => none
theorem join_prim {P : Program} {f : FuncId}
  (hnone : ∀ (a : Option Addr) (c : Nat) (sep : ByteArray) (w : World), Calls P f #[.slice a 0 c, .string sep] w fun e w' => e = .returned (.string ⟨#[]⟩) /\ w' = w)
  (hjoin : ∀ (bk o c : Nat) (xs : List ByteArray) (sep : ByteArray) (w : World), (∀ (j : Nat) x, xs[j]? = some x -> w.cell? ⟨bk, o + j, none⟩ = some (.string x)) -> bk < w.heap.size -> xs.length <= 140737488355328 -> xs.length <= c →
   (Lib.join (xs.map (·.data.toList)) sep.data.toList).length <= 140737488355328 →
   Calls P f #[.slice (some ⟨bk, o, none⟩) xs.length c, .string sep] w fun e w' => e = .returned (.string ⟨(Lib.join (xs.map (·.data.toList)) sep.data.toList).toArray⟩) /\ Below w.heap.size w w')
  {xs : List T} {r : T} (hq : joinT xs = some r) (w : World) (S : Nat -> Prop) (cargs : Array Value) (hS : ∀ b, S b -> b < w.heap.size) (hr : RepTL w S xs cargs.toList) :
  Calls P f cargs w fun e w' => ∃ cv S', e = .returned cv /\ Pure w S w' S' /\ RepT w' S' r cv := by
 have two : ∀ {x y : T}, RepTL w S [x, y] cargs.toList -> ∃ u v, cargs = #[u, v] /\ RepT w S x u /\ RepT w S y v := by
  intro x y h
  obtain ⟨hl, hx⟩ := h
  match hc : cargs.toList with
  | [u, v] =>
   rw [hc] at hx
   exact ⟨u, v, by rw [<- Array.toList_inj, hc], hx 0 x u rfl rfl, hx 1 y v rfl rfl⟩
  | [] => rw [hc] at hl; cases hl
  | [_] => rw [hc] at hl; cases hl
  | _ :: _ :: _ :: _ => rw [hc] at hl; simp at hl
 have none_ok : ∀ (a : Option Addr) (c : Nat) (sep : ByteArray), Calls P f #[.slice a 0 c, .string sep] w fun e w' => ∃ cv S', e = .returned cv /\ Pure w S w' S' /\ RepT w' S' (.str []) cv := fun a c sep =>
  (hnone a c sep w).mono fun e w' ⟨he, hw⟩ => by
   subst hw
   exact ⟨_, S, he, ⟨rfl, rfl, rfl, Nat.le_refl _, fun _ _ => rfl, fun _ h => h, fun _ h => .inl h, hS⟩, .str _ _ rfl⟩
 unfold joinT at hq
 split at hq
 . rename_i sep
   cases hq
   obtain ⟨u, v, rfl, h1, h2⟩ := two hr
   cases h1
   cases h2
   exact none_ok none 0 _
 . rename_i ex ys sep
   obtain ⟨u, v, rfl, h1, h2⟩ := two hr
   simp only [oB] at hq
   obtain ⟨ss, hss, hq⟩ := hq
   split at hq
   case isFalse => cases hq
   rename_i hb
   cases hq
   obtain ⟨l1, l2⟩ := mapO_spec hss
   cases h2 with
   | str _ sv hsv =>
   cases h1 with
   | sl _ _ _ b o cap g hl hx hz hc hrr sp hsp =>
   cases hys : ys with
   | nil =>
    subst hys
    have : ss = [] := by
     cases ss with
     | nil => rfl
     | cons a l => simp at l1
    subst this
    exact none_ok _ _ _
   | cons y0 yr =>
    obtain rfl : sp = none := hsp.resolve_right (by rw [hys]; simp)
    have key : ∀ (j : Nat) (s : List UInt8), ss[j]? = some s -> S b /\ w.cell? ⟨b, o + j, none⟩ = some (.string ⟨s.toArray⟩) := by
     intro j s hj
     obtain ⟨y, hy, hs⟩ := l2 j s hj
     have hy2 := str?_some hs
     subst hy2
     have hc1 := hc j (.str s) 0 (.str s) hy rfl
     have hr1 := hrr j (.str s) 0 (.str s) hy rfl
     refine ⟨hc1.1, ?_⟩
     have h3 := hc1.2
     rw [Nat.mul_one, Nat.add_zero] at h3
     rw [h3]
     cases hg : g j 0 with
     | string sv2 =>
      rw [hg] at hr1
      cases hr1 with
      | str _ _ h4 => rw [<- h4]
     | _ => rw [hg] at hr1; cases hr1
    have hpos : 0 < ss.length := by rw [l1, hys]; simp
    have hSb : S b := (key 0 ss[0] (gE hpos)).1
    have hmap : (ss.map fun s => (⟨s.toArray⟩ : ByteArray)).map (·.data.toList) = ss := by
     rw [List.map_map]
     exact List.map_id'' (fun s => by simp) ss
    have hlen : ys.length = ss.length := l1.symm
    have hcall := hjoin b o cap (ss.map fun s => (⟨s.toArray⟩ : ByteArray)) sv w (fun j x hx => by
     rw [List.getElem?_map, oM] at hx
     obtain ⟨s, hs, rfl⟩ := hx
     exact (key j s hs).2) (hS b hSb) (by simpa using hb.1) (by simpa [<- hlen] using hl) (by rw [hmap, hsv]; exact hb.2)
    rw [hmap, hsv, List.length_map] at hcall
    rw [<- hys, hlen]
    refine hcall.mono fun e w' ⟨he, hw⟩ => ?_
    exact ⟨_, S, he, ⟨hw.os, hw.tape, hw.output, hw.size, hw.block, fun _ h => h, fun _ h => .inl h, fun b hb => Nat.lt_of_lt_of_le (hS b hb) hw.size⟩, .str _ _ (by simp)⟩
 . cases hq
theorem fnO_prim {cfg : Cfg} {f : FuncId} {g : List T -> Option T} {xs : List T} {r : T} (hp : cfg.prim f = some g) (hg : g xs = some r) : fnO cfg f xs = some r :=
 fnO_some.2 ⟨1, by show pureBody cfg (env cfg 0) f xs = _; unfold pureBody; rw [hp]; exact hg⟩
end Go.Apex
