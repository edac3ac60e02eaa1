/-
  No cell of these rows narrows 'for every input' (looked for: loops, veiled, ifaces, maps, wideKeys, modest, calm, conditions, laid).
  DERIVED. THE GIVEN ROWS OF THIS SEAT. 9 by the template 'for every input the law returns true; each argument reads behind the call as it read before'; 0 by the template 'total and deterministic' (their statements: YtagcgcpapjidcaaTotals.lean).
  GIVEN WITH THE SEED: the statements are not yours to turn. If you find one false, say at which input.
  Laid BY PROGRAM, IN A SANDBOX (cutbox-rows.mjs): the forced cells as the released guide's own fill.sh prints them over the translation 4c0e3f1c3554552e… (all of the seat's roots in one cut). By AI agents, Wed Nov 11 2026. No macro, syntax, notation, axiom, sorry.
-/
import Derived.Test.YtagcgcpapjidcaaChecked
import GoSem.Claim
import GoSem.ClaimJoined
import GoSem.ClaimMapViews
import Derived.JoinedTies
import Derived.KernelRfl
namespace Go.Proofs.Ytagcgcpapjidcaa
/- THE CELL 'sum', in the pinned program and in every row, IS THE sha256 OF THE DUMP (.gsa) THAT YtagcgcpapjidcaaProg.lean LOADS. Nothing in Lean hashes anything: it is a label: what it is worth is what the hold of that sum in a sandbox is worth. -/
noncomputable def Try.pinned : Pinned := { name := "ytagcgcpapjidcaa", sum := "4c0e3f1c3554552ee91801f99891febf627924d83aab5c879e7b2096b97d7f64", checked := Try.checked }
namespace Rows
def none {H : Type} : Left H := { results := [], args := [] }

/-- 'tombolalaw16.ChainEnds': WHATEVER THE INPUT: true; the input reads as it did. -/
def chainEndsSpec : ChangeSpec := { name := "chainEnds", fn := fun _ => fun
  | [d] => { results := [.lit (.bool true)], args := [d] }
  | _ => none }
def chainEndsRow : OpenClaim := { program := "ytagcgcpapjidcaa", sum := "4c0e3f1c3554552ee91801f99891febf627924d83aab5c879e7b2096b97d7f64", func := "tombola/tombolalaw16.ChainEnds", spec := "chainEnds", unfollowed := true, recurses := true, apart := false }
def ChainEndsSaid : Prop := chainEndsRow.holds Try.pinned (OpenSpec.ofChange chainEndsSpec)

/-- ITS FALSE NEIGHBOUR: 'it returns false'. Refute it at one input. -/
def chainEndsWrong : ChangeSpec := { name := "chainEnds", fn := fun _ => fun
  | [d] => { results := [.lit (.bool false)], args := [d] }
  | _ => none }
def ChainEndsWrongFalsely : Prop := chainEndsRow.holds Try.pinned (OpenSpec.ofChange chainEndsWrong)

/-- 'tombolalaw16.ChainTells': WHATEVER THE INPUT: true; the input reads as it did. -/
def chainTellsSpec : ChangeSpec := { name := "chainTells", fn := fun _ => fun
  | [d1, d2, d3] => { results := [.lit (.bool true)], args := [d1, d2, d3] }
  | _ => none }
def chainTellsRow : OpenClaim := { program := "ytagcgcpapjidcaa", sum := "4c0e3f1c3554552ee91801f99891febf627924d83aab5c879e7b2096b97d7f64", func := "tombola/tombolalaw16.ChainTells", spec := "chainTells", unfollowed := true, recurses := true, apart := false }
def ChainTellsSaid : Prop := chainTellsRow.holds Try.pinned (OpenSpec.ofChange chainTellsSpec)

/-- ITS FALSE NEIGHBOUR: 'it returns false'. Refute it at one input. -/
def chainTellsWrong : ChangeSpec := { name := "chainTells", fn := fun _ => fun
  | [d1, d2, d3] => { results := [.lit (.bool false)], args := [d1, d2, d3] }
  | _ => none }
def ChainTellsWrongFalsely : Prop := chainTellsRow.holds Try.pinned (OpenSpec.ofChange chainTellsWrong)

/-- 'tombolalaw13.DagOrders': WHATEVER THE INPUT: true; the input reads as it did. -/
def dagOrdersSpec : ChangeSpec := { name := "dagOrders", fn := fun _ => fun
  | [d1, d2] => { results := [.lit (.bool true)], args := [d1, d2] }
  | _ => none }
def dagOrdersRow : OpenClaim := { program := "ytagcgcpapjidcaa", sum := "4c0e3f1c3554552ee91801f99891febf627924d83aab5c879e7b2096b97d7f64", func := "tombola/tombolalaw13.DagOrders", spec := "dagOrders", apart := false }
def DagOrdersSaid : Prop := dagOrdersRow.holds Try.pinned (OpenSpec.ofChange dagOrdersSpec)

/-- ITS FALSE NEIGHBOUR: 'it returns false'. Refute it at one input. -/
def dagOrdersWrong : ChangeSpec := { name := "dagOrders", fn := fun _ => fun
  | [d1, d2] => { results := [.lit (.bool false)], args := [d1, d2] }
  | _ => none }
def DagOrdersWrongFalsely : Prop := dagOrdersRow.holds Try.pinned (OpenSpec.ofChange dagOrdersWrong)

/-- 'tombolalaw13.DagTells': WHATEVER THE INPUT: true; the input reads as it did. -/
def dagTellsSpec : ChangeSpec := { name := "dagTells", fn := fun _ => fun
  | [d1, d2, d3, d4] => { results := [.lit (.bool true)], args := [d1, d2, d3, d4] }
  | _ => none }
def dagTellsRow : OpenClaim := { program := "ytagcgcpapjidcaa", sum := "4c0e3f1c3554552ee91801f99891febf627924d83aab5c879e7b2096b97d7f64", func := "tombola/tombolalaw13.DagTells", spec := "dagTells", apart := false }
def DagTellsSaid : Prop := dagTellsRow.holds Try.pinned (OpenSpec.ofChange dagTellsSpec)

/-- ITS FALSE NEIGHBOUR: 'it returns false'. Refute it at one input. -/
def dagTellsWrong : ChangeSpec := { name := "dagTells", fn := fun _ => fun
  | [d1, d2, d3, d4] => { results := [.lit (.bool false)], args := [d1, d2, d3, d4] }
  | _ => none }
def DagTellsWrongFalsely : Prop := dagTellsRow.holds Try.pinned (OpenSpec.ofChange dagTellsWrong)

/-- 'tombolalaw15.FundCloses': WHATEVER THE INPUT: true; the input reads as it did. -/
def fundClosesSpec : ChangeSpec := { name := "fundCloses", fn := fun _ => fun
  | [d1, d2, d3] => { results := [.lit (.bool true)], args := [d1, d2, d3] }
  | _ => none }
def fundClosesRow : OpenClaim := { program := "ytagcgcpapjidcaa", sum := "4c0e3f1c3554552ee91801f99891febf627924d83aab5c879e7b2096b97d7f64", func := "tombola/tombolalaw15.FundCloses", spec := "fundCloses", unfollowed := true, recurses := true, apart := false }
def FundClosesSaid : Prop := fundClosesRow.holds Try.pinned (OpenSpec.ofChange fundClosesSpec)

/-- ITS FALSE NEIGHBOUR: 'it returns false'. Refute it at one input. -/
def fundClosesWrong : ChangeSpec := { name := "fundCloses", fn := fun _ => fun
  | [d1, d2, d3] => { results := [.lit (.bool false)], args := [d1, d2, d3] }
  | _ => none }
def FundClosesWrongFalsely : Prop := fundClosesRow.holds Try.pinned (OpenSpec.ofChange fundClosesWrong)

/-- 'tombolalaw10.TreeNobody': WHATEVER THE INPUT: true; the input reads as it did. -/
def treeNobodySpec : ChangeSpec := { name := "treeNobody", fn := fun _ => fun
  | [d1, d2] => { results := [.lit (.bool true)], args := [d1, d2] }
  | _ => none }
def treeNobodyRow : OpenClaim := { program := "ytagcgcpapjidcaa", sum := "4c0e3f1c3554552ee91801f99891febf627924d83aab5c879e7b2096b97d7f64", func := "tombola/tombolalaw10.TreeNobody", spec := "treeNobody", apart := false }
def TreeNobodySaid : Prop := treeNobodyRow.holds Try.pinned (OpenSpec.ofChange treeNobodySpec)

/-- ITS FALSE NEIGHBOUR: 'it returns false'. Refute it at one input. -/
def treeNobodyWrong : ChangeSpec := { name := "treeNobody", fn := fun _ => fun
  | [d1, d2] => { results := [.lit (.bool false)], args := [d1, d2] }
  | _ => none }
def TreeNobodyWrongFalsely : Prop := treeNobodyRow.holds Try.pinned (OpenSpec.ofChange treeNobodyWrong)

/-- 'tombolalaw15.FundTells': WHATEVER THE INPUT: true; the input reads as it did. -/
def fundTellsSpec : ChangeSpec := { name := "fundTells", fn := fun _ => fun
  | [d1, d2, d3] => { results := [.lit (.bool true)], args := [d1, d2, d3] }
  | _ => none }
def fundTellsRow : OpenClaim := { program := "ytagcgcpapjidcaa", sum := "4c0e3f1c3554552ee91801f99891febf627924d83aab5c879e7b2096b97d7f64", func := "tombola/tombolalaw15.FundTells", spec := "fundTells", unfollowed := true, recurses := true, apart := false }
def FundTellsSaid : Prop := fundTellsRow.holds Try.pinned (OpenSpec.ofChange fundTellsSpec)

/-- ITS FALSE NEIGHBOUR: 'it returns false'. Refute it at one input. -/
def fundTellsWrong : ChangeSpec := { name := "fundTells", fn := fun _ => fun
  | [d1, d2, d3] => { results := [.lit (.bool false)], args := [d1, d2, d3] }
  | _ => none }
def FundTellsWrongFalsely : Prop := fundTellsRow.holds Try.pinned (OpenSpec.ofChange fundTellsWrong)

/-- 'tombolalaw17.LiveTells': WHATEVER THE INPUT: true; the input reads as it did. -/
def liveTellsSpec : ChangeSpec := { name := "liveTells", fn := fun _ => fun
  | [d1, d2] => { results := [.lit (.bool true)], args := [d1, d2] }
  | _ => none }
def liveTellsRow : OpenClaim := { program := "ytagcgcpapjidcaa", sum := "4c0e3f1c3554552ee91801f99891febf627924d83aab5c879e7b2096b97d7f64", func := "tombola/tombolalaw17.LiveTells", spec := "liveTells", unfollowed := true, recurses := true, apart := false }
def LiveTellsSaid : Prop := liveTellsRow.holds Try.pinned (OpenSpec.ofChange liveTellsSpec)

/-- ITS FALSE NEIGHBOUR: 'it returns false'. Refute it at one input. -/
def liveTellsWrong : ChangeSpec := { name := "liveTells", fn := fun _ => fun
  | [d1, d2] => { results := [.lit (.bool false)], args := [d1, d2] }
  | _ => none }
def LiveTellsWrongFalsely : Prop := liveTellsRow.holds Try.pinned (OpenSpec.ofChange liveTellsWrong)

/-- 'tombolalaw17.LiveOff': WHATEVER THE INPUT: true; the input reads as it did. -/
def liveOffSpec : ChangeSpec := { name := "liveOff", fn := fun _ => fun
  | [d1, d2] => { results := [.lit (.bool true)], args := [d1, d2] }
  | _ => none }
def liveOffRow : OpenClaim := { program := "ytagcgcpapjidcaa", sum := "4c0e3f1c3554552ee91801f99891febf627924d83aab5c879e7b2096b97d7f64", func := "tombola/tombolalaw17.LiveOff", spec := "liveOff", unfollowed := true, recurses := true, apart := false }
def LiveOffSaid : Prop := liveOffRow.holds Try.pinned (OpenSpec.ofChange liveOffSpec)

/-- ITS FALSE NEIGHBOUR: 'it returns false'. Refute it at one input. -/
def liveOffWrong : ChangeSpec := { name := "liveOff", fn := fun _ => fun
  | [d1, d2] => { results := [.lit (.bool false)], args := [d1, d2] }
  | _ => none }
def LiveOffWrongFalsely : Prop := liveOffRow.holds Try.pinned (OpenSpec.ofChange liveOffWrong)

/- THE SECOND FORM. 'bulk': how many values and letters a reading holds, each counted each time it is reached (what is shared counts as often as it is met; a slice's spare places count too). A statement '..UptoSaid' is the law's where the arguments, and the package variables that the reading takes, are together of bulk at most 1048576: NARROWER than '..Said'. Prove '..Said' where nothing that the law and all that it calls make is longer than what came in: it says more and counts as full. Else prove '..UptoSaid'. A law counts once. -/
mutual
def uptoBulk {H : Type} : DataW H → Nat
  | .lit (.string bytes) => bytes.length + 1
  | .lit _ => 1
  | .nil => 1
  | .ptr d => uptoBulk d + 1
  | .slice elems spare => uptoBulkAll elems + uptoBulkAll spare + 1
  | .agg parts => uptoBulkAll parts + 1
  | .iface _ d => uptoBulk d + 1
  | .map entries => uptoBulkEntries entries + 1
  | .held _ => 1
def uptoBulkAll {H : Type} : List (DataW H) → Nat
  | [] => 0
  | d :: r => uptoBulk d + uptoBulkAll r
def uptoBulkEntries {H : Type} : List (Lit × DataW H) → Nat
  | [] => 0
  | x :: r => uptoBulkEntry x + uptoBulkEntries r
def uptoBulkEntry {H : Type} : Lit × DataW H → Nat
  | (.string bytes, d) => bytes.length + uptoBulk d + 1
  | (_, d) => uptoBulk d + 1
 end
def uptoSmall : (H : Type) → List (DataW H) → Bool := fun _ ds => decide (uptoBulkAll ds ≤ 1048576)
def OpenSpec.upto (s : _root_.Go.ChangeSpec) : _root_.Go.OpenSpec := { _root_.Go.OpenSpec.ofChange s with cond := some uptoSmall }

/-- 'tombolalaw16.ChainEnds', WHERE WHAT IT READS IS OF BULK AT MOST 1048576: true; the input reads as it did. -/
def chainEndsUptoRow : OpenClaim := { program := "ytagcgcpapjidcaa", sum := "4c0e3f1c3554552ee91801f99891febf627924d83aab5c879e7b2096b97d7f64", func := "tombola/tombolalaw16.ChainEnds", spec := "chainEnds", unfollowed := true, recurses := true, apart := false, narrowed := true }
def ChainEndsUptoSaid : Prop := chainEndsUptoRow.holds Try.pinned (OpenSpec.upto chainEndsSpec)

/-- 'tombolalaw16.ChainTells', WHERE WHAT IT READS IS OF BULK AT MOST 1048576: true; the input reads as it did. -/
def chainTellsUptoRow : OpenClaim := { program := "ytagcgcpapjidcaa", sum := "4c0e3f1c3554552ee91801f99891febf627924d83aab5c879e7b2096b97d7f64", func := "tombola/tombolalaw16.ChainTells", spec := "chainTells", unfollowed := true, recurses := true, apart := false, narrowed := true }
def ChainTellsUptoSaid : Prop := chainTellsUptoRow.holds Try.pinned (OpenSpec.upto chainTellsSpec)

/-- 'tombolalaw13.DagOrders', WHERE WHAT IT READS IS OF BULK AT MOST 1048576: true; the input reads as it did. -/
def dagOrdersUptoRow : OpenClaim := { program := "ytagcgcpapjidcaa", sum := "4c0e3f1c3554552ee91801f99891febf627924d83aab5c879e7b2096b97d7f64", func := "tombola/tombolalaw13.DagOrders", spec := "dagOrders", apart := false, narrowed := true }
def DagOrdersUptoSaid : Prop := dagOrdersUptoRow.holds Try.pinned (OpenSpec.upto dagOrdersSpec)

/-- 'tombolalaw13.DagTells', WHERE WHAT IT READS IS OF BULK AT MOST 1048576: true; the input reads as it did. -/
def dagTellsUptoRow : OpenClaim := { program := "ytagcgcpapjidcaa", sum := "4c0e3f1c3554552ee91801f99891febf627924d83aab5c879e7b2096b97d7f64", func := "tombola/tombolalaw13.DagTells", spec := "dagTells", apart := false, narrowed := true }
def DagTellsUptoSaid : Prop := dagTellsUptoRow.holds Try.pinned (OpenSpec.upto dagTellsSpec)

/-- 'tombolalaw15.FundCloses', WHERE WHAT IT READS IS OF BULK AT MOST 1048576: true; the input reads as it did. -/
def fundClosesUptoRow : OpenClaim := { program := "ytagcgcpapjidcaa", sum := "4c0e3f1c3554552ee91801f99891febf627924d83aab5c879e7b2096b97d7f64", func := "tombola/tombolalaw15.FundCloses", spec := "fundCloses", unfollowed := true, recurses := true, apart := false, narrowed := true }
def FundClosesUptoSaid : Prop := fundClosesUptoRow.holds Try.pinned (OpenSpec.upto fundClosesSpec)

/-- 'tombolalaw10.TreeNobody', WHERE WHAT IT READS IS OF BULK AT MOST 1048576: true; the input reads as it did. -/
def treeNobodyUptoRow : OpenClaim := { program := "ytagcgcpapjidcaa", sum := "4c0e3f1c3554552ee91801f99891febf627924d83aab5c879e7b2096b97d7f64", func := "tombola/tombolalaw10.TreeNobody", spec := "treeNobody", apart := false, narrowed := true }
def TreeNobodyUptoSaid : Prop := treeNobodyUptoRow.holds Try.pinned (OpenSpec.upto treeNobodySpec)

/-- 'tombolalaw15.FundTells', WHERE WHAT IT READS IS OF BULK AT MOST 1048576: true; the input reads as it did. -/
def fundTellsUptoRow : OpenClaim := { program := "ytagcgcpapjidcaa", sum := "4c0e3f1c3554552ee91801f99891febf627924d83aab5c879e7b2096b97d7f64", func := "tombola/tombolalaw15.FundTells", spec := "fundTells", unfollowed := true, recurses := true, apart := false, narrowed := true }
def FundTellsUptoSaid : Prop := fundTellsUptoRow.holds Try.pinned (OpenSpec.upto fundTellsSpec)

/-- 'tombolalaw17.LiveTells', WHERE WHAT IT READS IS OF BULK AT MOST 1048576: true; the input reads as it did. -/
def liveTellsUptoRow : OpenClaim := { program := "ytagcgcpapjidcaa", sum := "4c0e3f1c3554552ee91801f99891febf627924d83aab5c879e7b2096b97d7f64", func := "tombola/tombolalaw17.LiveTells", spec := "liveTells", unfollowed := true, recurses := true, apart := false, narrowed := true }
def LiveTellsUptoSaid : Prop := liveTellsUptoRow.holds Try.pinned (OpenSpec.upto liveTellsSpec)

/-- 'tombolalaw17.LiveOff', WHERE WHAT IT READS IS OF BULK AT MOST 1048576: true; the input reads as it did. -/
def liveOffUptoRow : OpenClaim := { program := "ytagcgcpapjidcaa", sum := "4c0e3f1c3554552ee91801f99891febf627924d83aab5c879e7b2096b97d7f64", func := "tombola/tombolalaw17.LiveOff", spec := "liveOff", unfollowed := true, recurses := true, apart := false, narrowed := true }
def LiveOffUptoSaid : Prop := liveOffUptoRow.holds Try.pinned (OpenSpec.upto liveOffSpec)

end Rows
end Go.Proofs.Ytagcgcpapjidcaa
