/-
  No cell of these rows narrows 'for every input' (looked for: loops, veiled, ifaces, maps, wideKeys, modest, calm, conditions, laid).
  DERIVED. THE GIVEN ROWS OF THIS SEAT. 10 by the template 'for every input the law returns true; each argument reads behind the call as it read before'; 0 by the template 'total and deterministic' (their statements: YtcljaeknhmpecaaTotals.lean).
  GIVEN WITH THE SEED: the statements are not yours to turn. If you find one false, say at which input.
  Laid BY PROGRAM, IN A SANDBOX (cutbox-rows.mjs): the forced cells as the released guide's own fill.sh prints them over the translation a2b6fee211beaa45… (all of the seat's roots in one cut). By AI agents, Wed Nov 11 2026. No macro, syntax, notation, axiom, sorry.
-/
import Derived.Test.YtcljaeknhmpecaaChecked
import GoSem.Claim
import GoSem.ClaimJoined
import GoSem.ClaimMapViews
import Derived.JoinedTies
import Derived.KernelRfl
namespace Go.Proofs.Ytcljaeknhmpecaa
/- THE CELL 'sum', in the pinned program and in every row, IS THE sha256 OF THE DUMP (.gsa) THAT YtcljaeknhmpecaaProg.lean LOADS. Nothing in Lean hashes anything: it is a label: what it is worth is what the hold of that sum in a sandbox is worth. -/
noncomputable def Try.pinned : Pinned := { name := "ytcljaeknhmpecaa", sum := "a2b6fee211beaa45efa58d6dd333d360476a4de8e764d0bfa076a07a466a1413", checked := Try.checked }
namespace Rows
def none {H : Type} : Left H := { results := [], args := [] }

/-- 'dripstonelaw03.OrderProves': WHATEVER THE INPUT: true; the input reads as it did. -/
def orderProvesSpec : ChangeSpec := { name := "orderProves", fn := fun _ => fun
  | [d] => { results := [.lit (.bool true)], args := [d] }
  | _ => none }
def orderProvesRow : OpenClaim := { program := "ytcljaeknhmpecaa", sum := "a2b6fee211beaa45efa58d6dd333d360476a4de8e764d0bfa076a07a466a1413", func := "dripstone/dripstonelaw03.OrderProves", spec := "orderProves", inPlace := ["internal/abi.NoEscape", "internal/bytealg.MakeNoZero"], unfollowed := true, recurses := true, apart := false }
def OrderProvesSaid : Prop := orderProvesRow.holds Try.pinned (OpenSpec.ofChange orderProvesSpec)

/-- ITS FALSE NEIGHBOUR: 'it returns false'. Refute it at one input. -/
def orderProvesWrong : ChangeSpec := { name := "orderProves", fn := fun _ => fun
  | [d] => { results := [.lit (.bool false)], args := [d] }
  | _ => none }
def OrderProvesWrongFalsely : Prop := orderProvesRow.holds Try.pinned (OpenSpec.ofChange orderProvesWrong)

/-- 'dripstonelaw03.OrderTurned': WHATEVER THE INPUT: true; the input reads as it did. -/
def orderTurnedSpec : ChangeSpec := { name := "orderTurned", fn := fun _ => fun
  | [d1, d2] => { results := [.lit (.bool true)], args := [d1, d2] }
  | _ => none }
def orderTurnedRow : OpenClaim := { program := "ytcljaeknhmpecaa", sum := "a2b6fee211beaa45efa58d6dd333d360476a4de8e764d0bfa076a07a466a1413", func := "dripstone/dripstonelaw03.OrderTurned", spec := "orderTurned", inPlace := ["internal/abi.NoEscape", "internal/bytealg.MakeNoZero"], unfollowed := true, recurses := true, apart := false }
def OrderTurnedSaid : Prop := orderTurnedRow.holds Try.pinned (OpenSpec.ofChange orderTurnedSpec)

/-- ITS FALSE NEIGHBOUR: 'it returns false'. Refute it at one input. -/
def orderTurnedWrong : ChangeSpec := { name := "orderTurned", fn := fun _ => fun
  | [d1, d2] => { results := [.lit (.bool false)], args := [d1, d2] }
  | _ => none }
def OrderTurnedWrongFalsely : Prop := orderTurnedRow.holds Try.pinned (OpenSpec.ofChange orderTurnedWrong)

/-- 'dripstonelaw03.OrderJoins': WHATEVER THE INPUT: true; the input reads as it did. -/
def orderJoinsSpec : ChangeSpec := { name := "orderJoins", fn := fun _ => fun
  | [d1, d2] => { results := [.lit (.bool true)], args := [d1, d2] }
  | _ => none }
def orderJoinsRow : OpenClaim := { program := "ytcljaeknhmpecaa", sum := "a2b6fee211beaa45efa58d6dd333d360476a4de8e764d0bfa076a07a466a1413", func := "dripstone/dripstonelaw03.OrderJoins", spec := "orderJoins", inPlace := ["internal/abi.NoEscape", "internal/bytealg.MakeNoZero"], unfollowed := true, recurses := true, apart := false }
def OrderJoinsSaid : Prop := orderJoinsRow.holds Try.pinned (OpenSpec.ofChange orderJoinsSpec)

/-- ITS FALSE NEIGHBOUR: 'it returns false'. Refute it at one input. -/
def orderJoinsWrong : ChangeSpec := { name := "orderJoins", fn := fun _ => fun
  | [d1, d2] => { results := [.lit (.bool false)], args := [d1, d2] }
  | _ => none }
def OrderJoinsWrongFalsely : Prop := orderJoinsRow.holds Try.pinned (OpenSpec.ofChange orderJoinsWrong)

/-- 'dripstonelaw03.OrderLaws': WHATEVER THE INPUT: true; the input reads as it did. -/
def orderLawsSpec : ChangeSpec := { name := "orderLaws", fn := fun _ => fun
  | [d] => { results := [.lit (.bool true)], args := [d] }
  | _ => none }
def orderLawsRow : OpenClaim := { program := "ytcljaeknhmpecaa", sum := "a2b6fee211beaa45efa58d6dd333d360476a4de8e764d0bfa076a07a466a1413", func := "dripstone/dripstonelaw03.OrderLaws", spec := "orderLaws", inPlace := ["internal/abi.NoEscape", "internal/bytealg.MakeNoZero"], unfollowed := true, recurses := true, apart := false }
def OrderLawsSaid : Prop := orderLawsRow.holds Try.pinned (OpenSpec.ofChange orderLawsSpec)

/-- ITS FALSE NEIGHBOUR: 'it returns false'. Refute it at one input. -/
def orderLawsWrong : ChangeSpec := { name := "orderLaws", fn := fun _ => fun
  | [d] => { results := [.lit (.bool false)], args := [d] }
  | _ => none }
def OrderLawsWrongFalsely : Prop := orderLawsRow.holds Try.pinned (OpenSpec.ofChange orderLawsWrong)

/-- 'dripstonelaw03.OrderHigh': WHATEVER THE INPUT: true; the input reads as it did. -/
def orderHighSpec : ChangeSpec := { name := "orderHigh", fn := fun _ => fun
  | [d1, d2] => { results := [.lit (.bool true)], args := [d1, d2] }
  | _ => none }
def orderHighRow : OpenClaim := { program := "ytcljaeknhmpecaa", sum := "a2b6fee211beaa45efa58d6dd333d360476a4de8e764d0bfa076a07a466a1413", func := "dripstone/dripstonelaw03.OrderHigh", spec := "orderHigh", inPlace := ["internal/abi.NoEscape", "internal/bytealg.MakeNoZero"], unfollowed := true, recurses := true, apart := false }
def OrderHighSaid : Prop := orderHighRow.holds Try.pinned (OpenSpec.ofChange orderHighSpec)

/-- ITS FALSE NEIGHBOUR: 'it returns false'. Refute it at one input. -/
def orderHighWrong : ChangeSpec := { name := "orderHigh", fn := fun _ => fun
  | [d1, d2] => { results := [.lit (.bool false)], args := [d1, d2] }
  | _ => none }
def OrderHighWrongFalsely : Prop := orderHighRow.holds Try.pinned (OpenSpec.ofChange orderHighWrong)

/-- 'dripstonelaw03.OrderLeast': WHATEVER THE INPUT: true; the input reads as it did. -/
def orderLeastSpec : ChangeSpec := { name := "orderLeast", fn := fun _ => fun
  | [d] => { results := [.lit (.bool true)], args := [d] }
  | _ => none }
def orderLeastRow : OpenClaim := { program := "ytcljaeknhmpecaa", sum := "a2b6fee211beaa45efa58d6dd333d360476a4de8e764d0bfa076a07a466a1413", func := "dripstone/dripstonelaw03.OrderLeast", spec := "orderLeast", inPlace := ["internal/abi.NoEscape", "internal/bytealg.MakeNoZero"], unfollowed := true, recurses := true, apart := false }
def OrderLeastSaid : Prop := orderLeastRow.holds Try.pinned (OpenSpec.ofChange orderLeastSpec)

/-- ITS FALSE NEIGHBOUR: 'it returns false'. Refute it at one input. -/
def orderLeastWrong : ChangeSpec := { name := "orderLeast", fn := fun _ => fun
  | [d] => { results := [.lit (.bool false)], args := [d] }
  | _ => none }
def OrderLeastWrongFalsely : Prop := orderLeastRow.holds Try.pinned (OpenSpec.ofChange orderLeastWrong)

/-- 'dripstonelaw03.OrderParted': WHATEVER THE INPUT: true; the input reads as it did. -/
def orderPartedSpec : ChangeSpec := { name := "orderParted", fn := fun _ => fun
  | [d] => { results := [.lit (.bool true)], args := [d] }
  | _ => none }
def orderPartedRow : OpenClaim := { program := "ytcljaeknhmpecaa", sum := "a2b6fee211beaa45efa58d6dd333d360476a4de8e764d0bfa076a07a466a1413", func := "dripstone/dripstonelaw03.OrderParted", spec := "orderParted", inPlace := ["internal/abi.NoEscape", "internal/bytealg.MakeNoZero"], unfollowed := true, recurses := true, apart := false }
def OrderPartedSaid : Prop := orderPartedRow.holds Try.pinned (OpenSpec.ofChange orderPartedSpec)

/-- ITS FALSE NEIGHBOUR: 'it returns false'. Refute it at one input. -/
def orderPartedWrong : ChangeSpec := { name := "orderParted", fn := fun _ => fun
  | [d] => { results := [.lit (.bool false)], args := [d] }
  | _ => none }
def OrderPartedWrongFalsely : Prop := orderPartedRow.holds Try.pinned (OpenSpec.ofChange orderPartedWrong)

/-- 'dripstonelaw03.OrderReaches': WHATEVER THE INPUT: true; the input reads as it did. -/
def orderReachesSpec : ChangeSpec := { name := "orderReaches", fn := fun _ => fun
  | [d1, d2] => { results := [.lit (.bool true)], args := [d1, d2] }
  | _ => none }
def orderReachesRow : OpenClaim := { program := "ytcljaeknhmpecaa", sum := "a2b6fee211beaa45efa58d6dd333d360476a4de8e764d0bfa076a07a466a1413", func := "dripstone/dripstonelaw03.OrderReaches", spec := "orderReaches", inPlace := ["internal/abi.NoEscape", "internal/bytealg.MakeNoZero"], unfollowed := true, recurses := true, apart := false }
def OrderReachesSaid : Prop := orderReachesRow.holds Try.pinned (OpenSpec.ofChange orderReachesSpec)

/-- ITS FALSE NEIGHBOUR: 'it returns false'. Refute it at one input. -/
def orderReachesWrong : ChangeSpec := { name := "orderReaches", fn := fun _ => fun
  | [d1, d2] => { results := [.lit (.bool false)], args := [d1, d2] }
  | _ => none }
def OrderReachesWrongFalsely : Prop := orderReachesRow.holds Try.pinned (OpenSpec.ofChange orderReachesWrong)

/-- 'dripstonelaw03.OrderSlims': WHATEVER THE INPUT: true; the input reads as it did. -/
def orderSlimsSpec : ChangeSpec := { name := "orderSlims", fn := fun _ => fun
  | [d] => { results := [.lit (.bool true)], args := [d] }
  | _ => none }
def orderSlimsRow : OpenClaim := { program := "ytcljaeknhmpecaa", sum := "a2b6fee211beaa45efa58d6dd333d360476a4de8e764d0bfa076a07a466a1413", func := "dripstone/dripstonelaw03.OrderSlims", spec := "orderSlims", inPlace := ["internal/abi.NoEscape", "internal/bytealg.MakeNoZero"], unfollowed := true, recurses := true, apart := false }
def OrderSlimsSaid : Prop := orderSlimsRow.holds Try.pinned (OpenSpec.ofChange orderSlimsSpec)

/-- ITS FALSE NEIGHBOUR: 'it returns false'. Refute it at one input. -/
def orderSlimsWrong : ChangeSpec := { name := "orderSlims", fn := fun _ => fun
  | [d] => { results := [.lit (.bool false)], args := [d] }
  | _ => none }
def OrderSlimsWrongFalsely : Prop := orderSlimsRow.holds Try.pinned (OpenSpec.ofChange orderSlimsWrong)

/-- 'dripstonelaw03.OrderSlim': WHATEVER THE INPUT: true; the input reads as it did. -/
def orderSlimSpec : ChangeSpec := { name := "orderSlim", fn := fun _ => fun
  | [d] => { results := [.lit (.bool true)], args := [d] }
  | _ => none }
def orderSlimRow : OpenClaim := { program := "ytcljaeknhmpecaa", sum := "a2b6fee211beaa45efa58d6dd333d360476a4de8e764d0bfa076a07a466a1413", func := "dripstone/dripstonelaw03.OrderSlim", spec := "orderSlim", inPlace := ["internal/abi.NoEscape", "internal/bytealg.MakeNoZero"], unfollowed := true, recurses := true, apart := false }
def OrderSlimSaid : Prop := orderSlimRow.holds Try.pinned (OpenSpec.ofChange orderSlimSpec)

/-- ITS FALSE NEIGHBOUR: 'it returns false'. Refute it at one input. -/
def orderSlimWrong : ChangeSpec := { name := "orderSlim", fn := fun _ => fun
  | [d] => { results := [.lit (.bool false)], args := [d] }
  | _ => none }
def OrderSlimWrongFalsely : Prop := orderSlimRow.holds Try.pinned (OpenSpec.ofChange orderSlimWrong)

/- THE SECOND FORM. 'bulk': how many values and letters a reading holds, each counted each time it is reached (what is shared counts as often as it is met; a slice's spare places count too). A statement '..UptoSaid' is the law's where the arguments, and the package variables that the reading takes, are together of bulk at most 1048576: NARROWER than '..Said'. Prove '..Said' where nothing that the law and all that it calls make is longer than what came in: it says more and counts as full. Else prove '..UptoSaid'. A law counts once. -/
mutual
def uptoBulk {H : Type} : DataW H → Nat
  | .lit (.string bytes) => bytes.length + 1
  | .lit _ => 1
  | .nil => 1
  | .ptr d => uptoBulk d + 1
  | .slice elems spare => uptoBulkAll elems + uptoBulkAll spare + 1
  | .agg parts => uptoBulkAll parts + 1
  | .iface _ d => uptoBulk d + 1
  | .map entries => uptoBulkEntries entries + 1
  | .held _ => 1
def uptoBulkAll {H : Type} : List (DataW H) → Nat
  | [] => 0
  | d :: r => uptoBulk d + uptoBulkAll r
def uptoBulkEntries {H : Type} : List (Lit × DataW H) → Nat
  | [] => 0
  | x :: r => uptoBulkEntry x + uptoBulkEntries r
def uptoBulkEntry {H : Type} : Lit × DataW H → Nat
  | (.string bytes, d) => bytes.length + uptoBulk d + 1
  | (_, d) => uptoBulk d + 1
 end
def uptoSmall : (H : Type) → List (DataW H) → Bool := fun _ ds => decide (uptoBulkAll ds ≤ 1048576)
def OpenSpec.upto (s : _root_.Go.ChangeSpec) : _root_.Go.OpenSpec := { _root_.Go.OpenSpec.ofChange s with cond := some uptoSmall }

/-- 'dripstonelaw03.OrderProves', WHERE WHAT IT READS IS OF BULK AT MOST 1048576: true; the input reads as it did. -/
def orderProvesUptoRow : OpenClaim := { program := "ytcljaeknhmpecaa", sum := "a2b6fee211beaa45efa58d6dd333d360476a4de8e764d0bfa076a07a466a1413", func := "dripstone/dripstonelaw03.OrderProves", spec := "orderProves", inPlace := ["internal/abi.NoEscape", "internal/bytealg.MakeNoZero"], unfollowed := true, recurses := true, apart := false, narrowed := true }
def OrderProvesUptoSaid : Prop := orderProvesUptoRow.holds Try.pinned (OpenSpec.upto orderProvesSpec)

/-- 'dripstonelaw03.OrderTurned', WHERE WHAT IT READS IS OF BULK AT MOST 1048576: true; the input reads as it did. -/
def orderTurnedUptoRow : OpenClaim := { program := "ytcljaeknhmpecaa", sum := "a2b6fee211beaa45efa58d6dd333d360476a4de8e764d0bfa076a07a466a1413", func := "dripstone/dripstonelaw03.OrderTurned", spec := "orderTurned", inPlace := ["internal/abi.NoEscape", "internal/bytealg.MakeNoZero"], unfollowed := true, recurses := true, apart := false, narrowed := true }
def OrderTurnedUptoSaid : Prop := orderTurnedUptoRow.holds Try.pinned (OpenSpec.upto orderTurnedSpec)

/-- 'dripstonelaw03.OrderJoins', WHERE WHAT IT READS IS OF BULK AT MOST 1048576: true; the input reads as it did. -/
def orderJoinsUptoRow : OpenClaim := { program := "ytcljaeknhmpecaa", sum := "a2b6fee211beaa45efa58d6dd333d360476a4de8e764d0bfa076a07a466a1413", func := "dripstone/dripstonelaw03.OrderJoins", spec := "orderJoins", inPlace := ["internal/abi.NoEscape", "internal/bytealg.MakeNoZero"], unfollowed := true, recurses := true, apart := false, narrowed := true }
def OrderJoinsUptoSaid : Prop := orderJoinsUptoRow.holds Try.pinned (OpenSpec.upto orderJoinsSpec)

/-- 'dripstonelaw03.OrderLaws', WHERE WHAT IT READS IS OF BULK AT MOST 1048576: true; the input reads as it did. -/
def orderLawsUptoRow : OpenClaim := { program := "ytcljaeknhmpecaa", sum := "a2b6fee211beaa45efa58d6dd333d360476a4de8e764d0bfa076a07a466a1413", func := "dripstone/dripstonelaw03.OrderLaws", spec := "orderLaws", inPlace := ["internal/abi.NoEscape", "internal/bytealg.MakeNoZero"], unfollowed := true, recurses := true, apart := false, narrowed := true }
def OrderLawsUptoSaid : Prop := orderLawsUptoRow.holds Try.pinned (OpenSpec.upto orderLawsSpec)

/-- 'dripstonelaw03.OrderHigh', WHERE WHAT IT READS IS OF BULK AT MOST 1048576: true; the input reads as it did. -/
def orderHighUptoRow : OpenClaim := { program := "ytcljaeknhmpecaa", sum := "a2b6fee211beaa45efa58d6dd333d360476a4de8e764d0bfa076a07a466a1413", func := "dripstone/dripstonelaw03.OrderHigh", spec := "orderHigh", inPlace := ["internal/abi.NoEscape", "internal/bytealg.MakeNoZero"], unfollowed := true, recurses := true, apart := false, narrowed := true }
def OrderHighUptoSaid : Prop := orderHighUptoRow.holds Try.pinned (OpenSpec.upto orderHighSpec)

/-- 'dripstonelaw03.OrderLeast', WHERE WHAT IT READS IS OF BULK AT MOST 1048576: true; the input reads as it did. -/
def orderLeastUptoRow : OpenClaim := { program := "ytcljaeknhmpecaa", sum := "a2b6fee211beaa45efa58d6dd333d360476a4de8e764d0bfa076a07a466a1413", func := "dripstone/dripstonelaw03.OrderLeast", spec := "orderLeast", inPlace := ["internal/abi.NoEscape", "internal/bytealg.MakeNoZero"], unfollowed := true, recurses := true, apart := false, narrowed := true }
def OrderLeastUptoSaid : Prop := orderLeastUptoRow.holds Try.pinned (OpenSpec.upto orderLeastSpec)

/-- 'dripstonelaw03.OrderParted', WHERE WHAT IT READS IS OF BULK AT MOST 1048576: true; the input reads as it did. -/
def orderPartedUptoRow : OpenClaim := { program := "ytcljaeknhmpecaa", sum := "a2b6fee211beaa45efa58d6dd333d360476a4de8e764d0bfa076a07a466a1413", func := "dripstone/dripstonelaw03.OrderParted", spec := "orderParted", inPlace := ["internal/abi.NoEscape", "internal/bytealg.MakeNoZero"], unfollowed := true, recurses := true, apart := false, narrowed := true }
def OrderPartedUptoSaid : Prop := orderPartedUptoRow.holds Try.pinned (OpenSpec.upto orderPartedSpec)

/-- 'dripstonelaw03.OrderReaches', WHERE WHAT IT READS IS OF BULK AT MOST 1048576: true; the input reads as it did. -/
def orderReachesUptoRow : OpenClaim := { program := "ytcljaeknhmpecaa", sum := "a2b6fee211beaa45efa58d6dd333d360476a4de8e764d0bfa076a07a466a1413", func := "dripstone/dripstonelaw03.OrderReaches", spec := "orderReaches", inPlace := ["internal/abi.NoEscape", "internal/bytealg.MakeNoZero"], unfollowed := true, recurses := true, apart := false, narrowed := true }
def OrderReachesUptoSaid : Prop := orderReachesUptoRow.holds Try.pinned (OpenSpec.upto orderReachesSpec)

/-- 'dripstonelaw03.OrderSlims', WHERE WHAT IT READS IS OF BULK AT MOST 1048576: true; the input reads as it did. -/
def orderSlimsUptoRow : OpenClaim := { program := "ytcljaeknhmpecaa", sum := "a2b6fee211beaa45efa58d6dd333d360476a4de8e764d0bfa076a07a466a1413", func := "dripstone/dripstonelaw03.OrderSlims", spec := "orderSlims", inPlace := ["internal/abi.NoEscape", "internal/bytealg.MakeNoZero"], unfollowed := true, recurses := true, apart := false, narrowed := true }
def OrderSlimsUptoSaid : Prop := orderSlimsUptoRow.holds Try.pinned (OpenSpec.upto orderSlimsSpec)

/-- 'dripstonelaw03.OrderSlim', WHERE WHAT IT READS IS OF BULK AT MOST 1048576: true; the input reads as it did. -/
def orderSlimUptoRow : OpenClaim := { program := "ytcljaeknhmpecaa", sum := "a2b6fee211beaa45efa58d6dd333d360476a4de8e764d0bfa076a07a466a1413", func := "dripstone/dripstonelaw03.OrderSlim", spec := "orderSlim", inPlace := ["internal/abi.NoEscape", "internal/bytealg.MakeNoZero"], unfollowed := true, recurses := true, apart := false, narrowed := true }
def OrderSlimUptoSaid : Prop := orderSlimUptoRow.holds Try.pinned (OpenSpec.upto orderSlimSpec)

end Rows
end Go.Proofs.Ytcljaeknhmpecaa
