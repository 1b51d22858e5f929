/-
  No cell of these rows narrows 'for every input' (looked for: loops, veiled, ifaces, maps, wideKeys, modest, calm, conditions, laid).
  DERIVED. THE GIVEN ROWS OF THIS SEAT. 7 by the template 'for every input the law returns true; each argument reads behind the call as it read before'; 0 by the template 'total and deterministic' (their statements: YtnlmikefihaldaaTotals.lean).
  GIVEN WITH THE SEED: the statements are not yours to turn. If you find one false, say at which input.
  Laid BY PROGRAM, IN A SANDBOX (cutbox-rows.mjs): the forced cells as the released guide's own fill.sh prints them over the translation bcbdd9f972bab01b… (all of the seat's roots in one cut). By AI agents, Wed Nov 11 2026. No macro, syntax, notation, axiom, sorry.
-/
import Derived.Test.YtnlmikefihaldaaChecked
import GoSem.Claim
import GoSem.ClaimJoined
import GoSem.ClaimMapViews
import Derived.JoinedTies
import Derived.KernelRfl
namespace Go.Proofs.Ytnlmikefihaldaa
/- THE CELL 'sum', in the pinned program and in every row, IS THE sha256 OF THE DUMP (.gsa) THAT YtnlmikefihaldaaProg.lean LOADS. Nothing in Lean hashes anything: it is a label: what it is worth is what the hold of that sum in a sandbox is worth. -/
noncomputable def Try.pinned : Pinned := { name := "ytnlmikefihaldaa", sum := "bcbdd9f972bab01b3dd8530afe12b51f689f8ecab7856a9e393024203fa460df", checked := Try.checked }
namespace Rows
def none {H : Type} : Left H := { results := [], args := [] }

/-- 'unicodetextlaw13.MultistageBuilds': WHATEVER THE INPUT: true; the input reads as it did. -/
def multistageBuildsSpec : ChangeSpec := { name := "multistageBuilds", fn := fun _ => fun
  | [d1, d2] => { results := [.lit (.bool true)], args := [d1, d2] }
  | _ => none }
def multistageBuildsRow : OpenClaim := { program := "ytnlmikefihaldaa", sum := "bcbdd9f972bab01b3dd8530afe12b51f689f8ecab7856a9e393024203fa460df", func := "unicodetext/unicodetextlaw13.MultistageBuilds", spec := "multistageBuilds", unfollowed := true, recurses := true, apart := false }
def MultistageBuildsSaid : Prop := multistageBuildsRow.holds Try.pinned (OpenSpec.ofChange multistageBuildsSpec)

/-- ITS FALSE NEIGHBOUR: 'it returns false'. Refute it at one input. -/
def multistageBuildsWrong : ChangeSpec := { name := "multistageBuilds", fn := fun _ => fun
  | [d1, d2] => { results := [.lit (.bool false)], args := [d1, d2] }
  | _ => none }
def MultistageBuildsWrongFalsely : Prop := multistageBuildsRow.holds Try.pinned (OpenSpec.ofChange multistageBuildsWrong)

/-- 'unicodetextlaw13.MultistageValid': WHATEVER THE INPUT: true; the input reads as it did. -/
def multistageValidSpec : ChangeSpec := { name := "multistageValid", fn := fun _ => fun
  | [d1, d2] => { results := [.lit (.bool true)], args := [d1, d2] }
  | _ => none }
def multistageValidRow : OpenClaim := { program := "ytnlmikefihaldaa", sum := "bcbdd9f972bab01b3dd8530afe12b51f689f8ecab7856a9e393024203fa460df", func := "unicodetext/unicodetextlaw13.MultistageValid", spec := "multistageValid", unfollowed := true, recurses := true, apart := false }
def MultistageValidSaid : Prop := multistageValidRow.holds Try.pinned (OpenSpec.ofChange multistageValidSpec)

/-- ITS FALSE NEIGHBOUR: 'it returns false'. Refute it at one input. -/
def multistageValidWrong : ChangeSpec := { name := "multistageValid", fn := fun _ => fun
  | [d1, d2] => { results := [.lit (.bool false)], args := [d1, d2] }
  | _ => none }
def MultistageValidWrongFalsely : Prop := multistageValidRow.holds Try.pinned (OpenSpec.ofChange multistageValidWrong)

/-- 'unicodetextlaw13.MultistageLeast': WHATEVER THE INPUT: true; the input reads as it did. -/
def multistageLeastSpec : ChangeSpec := { name := "multistageLeast", fn := fun _ => fun
  | [d] => { results := [.lit (.bool true)], args := [d] }
  | _ => none }
def multistageLeastRow : OpenClaim := { program := "ytnlmikefihaldaa", sum := "bcbdd9f972bab01b3dd8530afe12b51f689f8ecab7856a9e393024203fa460df", func := "unicodetext/unicodetextlaw13.MultistageLeast", spec := "multistageLeast", unfollowed := true, recurses := true, apart := false }
def MultistageLeastSaid : Prop := multistageLeastRow.holds Try.pinned (OpenSpec.ofChange multistageLeastSpec)

/-- ITS FALSE NEIGHBOUR: 'it returns false'. Refute it at one input. -/
def multistageLeastWrong : ChangeSpec := { name := "multistageLeast", fn := fun _ => fun
  | [d] => { results := [.lit (.bool false)], args := [d] }
  | _ => none }
def MultistageLeastWrongFalsely : Prop := multistageLeastRow.holds Try.pinned (OpenSpec.ofChange multistageLeastWrong)

/-- 'unicodetextlaw13.MultistageGets': WHATEVER THE INPUT: true; the input reads as it did. -/
def multistageGetsSpec : ChangeSpec := { name := "multistageGets", fn := fun _ => fun
  | [d1, d2, d3] => { results := [.lit (.bool true)], args := [d1, d2, d3] }
  | _ => none }
def multistageGetsRow : OpenClaim := { program := "ytnlmikefihaldaa", sum := "bcbdd9f972bab01b3dd8530afe12b51f689f8ecab7856a9e393024203fa460df", func := "unicodetext/unicodetextlaw13.MultistageGets", spec := "multistageGets", unfollowed := true, recurses := true, apart := false }
def MultistageGetsSaid : Prop := multistageGetsRow.holds Try.pinned (OpenSpec.ofChange multistageGetsSpec)

/-- ITS FALSE NEIGHBOUR: 'it returns false'. Refute it at one input. -/
def multistageGetsWrong : ChangeSpec := { name := "multistageGets", fn := fun _ => fun
  | [d1, d2, d3] => { results := [.lit (.bool false)], args := [d1, d2, d3] }
  | _ => none }
def MultistageGetsWrongFalsely : Prop := multistageGetsRow.holds Try.pinned (OpenSpec.ofChange multistageGetsWrong)

/-- 'unicodetextlaw13.MultistageSpans': WHATEVER THE INPUT: true; the input reads as it did. -/
def multistageSpansSpec : ChangeSpec := { name := "multistageSpans", fn := fun _ => fun
  | [d] => { results := [.lit (.bool true)], args := [d] }
  | _ => none }
def multistageSpansRow : OpenClaim := { program := "ytnlmikefihaldaa", sum := "bcbdd9f972bab01b3dd8530afe12b51f689f8ecab7856a9e393024203fa460df", func := "unicodetext/unicodetextlaw13.MultistageSpans", spec := "multistageSpans", unfollowed := true, recurses := true, apart := false }
def MultistageSpansSaid : Prop := multistageSpansRow.holds Try.pinned (OpenSpec.ofChange multistageSpansSpec)

/-- ITS FALSE NEIGHBOUR: 'it returns false'. Refute it at one input. -/
def multistageSpansWrong : ChangeSpec := { name := "multistageSpans", fn := fun _ => fun
  | [d] => { results := [.lit (.bool false)], args := [d] }
  | _ => none }
def MultistageSpansWrongFalsely : Prop := multistageSpansRow.holds Try.pinned (OpenSpec.ofChange multistageSpansWrong)

/-- 'unicodetextlaw13.MultistageEqual': WHATEVER THE INPUT: true; the input reads as it did. -/
def multistageEqualSpec : ChangeSpec := { name := "multistageEqual", fn := fun _ => fun
  | [d1, d2, d3] => { results := [.lit (.bool true)], args := [d1, d2, d3] }
  | _ => none }
def multistageEqualRow : OpenClaim := { program := "ytnlmikefihaldaa", sum := "bcbdd9f972bab01b3dd8530afe12b51f689f8ecab7856a9e393024203fa460df", func := "unicodetext/unicodetextlaw13.MultistageEqual", spec := "multistageEqual", unfollowed := true, recurses := true, apart := false }
def MultistageEqualSaid : Prop := multistageEqualRow.holds Try.pinned (OpenSpec.ofChange multistageEqualSpec)

/-- ITS FALSE NEIGHBOUR: 'it returns false'. Refute it at one input. -/
def multistageEqualWrong : ChangeSpec := { name := "multistageEqual", fn := fun _ => fun
  | [d1, d2, d3] => { results := [.lit (.bool false)], args := [d1, d2, d3] }
  | _ => none }
def MultistageEqualWrongFalsely : Prop := multistageEqualRow.holds Try.pinned (OpenSpec.ofChange multistageEqualWrong)

/-- 'unicodetextlaw13.MultistageBest': WHATEVER THE INPUT: true; the input reads as it did. -/
def multistageBestSpec : ChangeSpec := { name := "multistageBest", fn := fun _ => fun
  | [d1, d2] => { results := [.lit (.bool true)], args := [d1, d2] }
  | _ => none }
def multistageBestRow : OpenClaim := { program := "ytnlmikefihaldaa", sum := "bcbdd9f972bab01b3dd8530afe12b51f689f8ecab7856a9e393024203fa460df", func := "unicodetext/unicodetextlaw13.MultistageBest", spec := "multistageBest", unfollowed := true, recurses := true, apart := false }
def MultistageBestSaid : Prop := multistageBestRow.holds Try.pinned (OpenSpec.ofChange multistageBestSpec)

/-- ITS FALSE NEIGHBOUR: 'it returns false'. Refute it at one input. -/
def multistageBestWrong : ChangeSpec := { name := "multistageBest", fn := fun _ => fun
  | [d1, d2] => { results := [.lit (.bool false)], args := [d1, d2] }
  | _ => none }
def MultistageBestWrongFalsely : Prop := multistageBestRow.holds Try.pinned (OpenSpec.ofChange multistageBestWrong)

/- THE SECOND FORM. 'bulk': how many values and letters a reading holds, each counted each time it is reached (what is shared counts as often as it is met; a slice's spare places count too). A statement '..UptoSaid' is the law's where the arguments, and the package variables that the reading takes, are together of bulk at most 1048576: NARROWER than '..Said'. Prove '..Said' where nothing that the law and all that it calls make is longer than what came in: it says more and counts as full. Else prove '..UptoSaid'. A law counts once. -/
mutual
def uptoBulk {H : Type} : DataW H → Nat
  | .lit (.string bytes) => bytes.length + 1
  | .lit _ => 1
  | .nil => 1
  | .ptr d => uptoBulk d + 1
  | .slice elems spare => uptoBulkAll elems + uptoBulkAll spare + 1
  | .agg parts => uptoBulkAll parts + 1
  | .iface _ d => uptoBulk d + 1
  | .map entries => uptoBulkEntries entries + 1
  | .held _ => 1
def uptoBulkAll {H : Type} : List (DataW H) → Nat
  | [] => 0
  | d :: r => uptoBulk d + uptoBulkAll r
def uptoBulkEntries {H : Type} : List (Lit × DataW H) → Nat
  | [] => 0
  | x :: r => uptoBulkEntry x + uptoBulkEntries r
def uptoBulkEntry {H : Type} : Lit × DataW H → Nat
  | (.string bytes, d) => bytes.length + uptoBulk d + 1
  | (_, d) => uptoBulk d + 1
 end
def uptoSmall : (H : Type) → List (DataW H) → Bool := fun _ ds => decide (uptoBulkAll ds ≤ 1048576)
def OpenSpec.upto (s : _root_.Go.ChangeSpec) : _root_.Go.OpenSpec := { _root_.Go.OpenSpec.ofChange s with cond := some uptoSmall }

/-- 'unicodetextlaw13.MultistageBuilds', WHERE WHAT IT READS IS OF BULK AT MOST 1048576: true; the input reads as it did. -/
def multistageBuildsUptoRow : OpenClaim := { program := "ytnlmikefihaldaa", sum := "bcbdd9f972bab01b3dd8530afe12b51f689f8ecab7856a9e393024203fa460df", func := "unicodetext/unicodetextlaw13.MultistageBuilds", spec := "multistageBuilds", unfollowed := true, recurses := true, apart := false, narrowed := true }
def MultistageBuildsUptoSaid : Prop := multistageBuildsUptoRow.holds Try.pinned (OpenSpec.upto multistageBuildsSpec)

/-- 'unicodetextlaw13.MultistageValid', WHERE WHAT IT READS IS OF BULK AT MOST 1048576: true; the input reads as it did. -/
def multistageValidUptoRow : OpenClaim := { program := "ytnlmikefihaldaa", sum := "bcbdd9f972bab01b3dd8530afe12b51f689f8ecab7856a9e393024203fa460df", func := "unicodetext/unicodetextlaw13.MultistageValid", spec := "multistageValid", unfollowed := true, recurses := true, apart := false, narrowed := true }
def MultistageValidUptoSaid : Prop := multistageValidUptoRow.holds Try.pinned (OpenSpec.upto multistageValidSpec)

/-- 'unicodetextlaw13.MultistageLeast', WHERE WHAT IT READS IS OF BULK AT MOST 1048576: true; the input reads as it did. -/
def multistageLeastUptoRow : OpenClaim := { program := "ytnlmikefihaldaa", sum := "bcbdd9f972bab01b3dd8530afe12b51f689f8ecab7856a9e393024203fa460df", func := "unicodetext/unicodetextlaw13.MultistageLeast", spec := "multistageLeast", unfollowed := true, recurses := true, apart := false, narrowed := true }
def MultistageLeastUptoSaid : Prop := multistageLeastUptoRow.holds Try.pinned (OpenSpec.upto multistageLeastSpec)

/-- 'unicodetextlaw13.MultistageGets', WHERE WHAT IT READS IS OF BULK AT MOST 1048576: true; the input reads as it did. -/
def multistageGetsUptoRow : OpenClaim := { program := "ytnlmikefihaldaa", sum := "bcbdd9f972bab01b3dd8530afe12b51f689f8ecab7856a9e393024203fa460df", func := "unicodetext/unicodetextlaw13.MultistageGets", spec := "multistageGets", unfollowed := true, recurses := true, apart := false, narrowed := true }
def MultistageGetsUptoSaid : Prop := multistageGetsUptoRow.holds Try.pinned (OpenSpec.upto multistageGetsSpec)

/-- 'unicodetextlaw13.MultistageSpans', WHERE WHAT IT READS IS OF BULK AT MOST 1048576: true; the input reads as it did. -/
def multistageSpansUptoRow : OpenClaim := { program := "ytnlmikefihaldaa", sum := "bcbdd9f972bab01b3dd8530afe12b51f689f8ecab7856a9e393024203fa460df", func := "unicodetext/unicodetextlaw13.MultistageSpans", spec := "multistageSpans", unfollowed := true, recurses := true, apart := false, narrowed := true }
def MultistageSpansUptoSaid : Prop := multistageSpansUptoRow.holds Try.pinned (OpenSpec.upto multistageSpansSpec)

/-- 'unicodetextlaw13.MultistageEqual', WHERE WHAT IT READS IS OF BULK AT MOST 1048576: true; the input reads as it did. -/
def multistageEqualUptoRow : OpenClaim := { program := "ytnlmikefihaldaa", sum := "bcbdd9f972bab01b3dd8530afe12b51f689f8ecab7856a9e393024203fa460df", func := "unicodetext/unicodetextlaw13.MultistageEqual", spec := "multistageEqual", unfollowed := true, recurses := true, apart := false, narrowed := true }
def MultistageEqualUptoSaid : Prop := multistageEqualUptoRow.holds Try.pinned (OpenSpec.upto multistageEqualSpec)

/-- 'unicodetextlaw13.MultistageBest', WHERE WHAT IT READS IS OF BULK AT MOST 1048576: true; the input reads as it did. -/
def multistageBestUptoRow : OpenClaim := { program := "ytnlmikefihaldaa", sum := "bcbdd9f972bab01b3dd8530afe12b51f689f8ecab7856a9e393024203fa460df", func := "unicodetext/unicodetextlaw13.MultistageBest", spec := "multistageBest", unfollowed := true, recurses := true, apart := false, narrowed := true }
def MultistageBestUptoSaid : Prop := multistageBestUptoRow.holds Try.pinned (OpenSpec.upto multistageBestSpec)

end Rows
end Go.Proofs.Ytnlmikefihaldaa
