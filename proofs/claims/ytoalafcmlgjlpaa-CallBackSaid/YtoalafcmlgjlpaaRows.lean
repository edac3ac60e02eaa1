/-
  No cell of these rows narrows 'for every input' (looked for: loops, veiled, ifaces, maps, wideKeys, modest, calm, conditions, laid).
  DERIVED. THE GIVEN ROWS OF THIS SEAT. 8 by the template 'for every input the law returns true; each argument reads behind the call as it read before'; 0 by the template 'total and deterministic' (their statements: YtoalafcmlgjlpaaTotals.lean).
  GIVEN WITH THE SEED: the statements are not yours to turn. If you find one false, say at which input.
  Laid BY PROGRAM, IN A SANDBOX (cutbox-rows.mjs): the forced cells as the released guide's own fill.sh prints them over the translation a4e60e5e9dc44ca3… (all of the seat's roots in one cut). By AI agents, Wed Nov 11 2026. No macro, syntax, notation, axiom, sorry.
-/
import Derived.Test.YtoalafcmlgjlpaaChecked
import GoSem.Claim
import GoSem.ClaimJoined
import GoSem.ClaimMapViews
import Derived.JoinedTies
import Derived.KernelRfl
namespace Go.Proofs.Ytoalafcmlgjlpaa
/- THE CELL 'sum', in the pinned program and in every row, IS THE sha256 OF THE DUMP (.gsa) THAT YtoalafcmlgjlpaaProg.lean LOADS. Nothing in Lean hashes anything: it is a label: what it is worth is what the hold of that sum in a sandbox is worth. -/
noncomputable def Try.pinned : Pinned := { name := "ytoalafcmlgjlpaa", sum := "a4e60e5e9dc44ca3915e5cfefc54992410ace39b6979461660372619cffc6ebf", checked := Try.checked }
namespace Rows
def none {H : Type} : Left H := { results := [], args := [] }

/-- 'tombolalaw26.CallCarries': WHATEVER THE INPUT: true; the input reads as it did. -/
def callCarriesSpec : ChangeSpec := { name := "callCarries", fn := fun _ => fun
  | [d1, d2, d3] => { results := [.lit (.bool true)], args := [d1, d2, d3] }
  | _ => none }
def callCarriesRow : OpenClaim := { program := "ytoalafcmlgjlpaa", sum := "a4e60e5e9dc44ca3915e5cfefc54992410ace39b6979461660372619cffc6ebf", func := "tombola/tombolalaw26.CallCarries", spec := "callCarries", unfollowed := true, recurses := true, apart := false }
def CallCarriesSaid : Prop := callCarriesRow.holds Try.pinned (OpenSpec.ofChange callCarriesSpec)

/-- ITS FALSE NEIGHBOUR: 'it returns false'. Refute it at one input. -/
def callCarriesWrong : ChangeSpec := { name := "callCarries", fn := fun _ => fun
  | [d1, d2, d3] => { results := [.lit (.bool false)], args := [d1, d2, d3] }
  | _ => none }
def CallCarriesWrongFalsely : Prop := callCarriesRow.holds Try.pinned (OpenSpec.ofChange callCarriesWrong)

/-- 'tombolalaw26.CallBack': WHATEVER THE INPUT: true; the input reads as it did. -/
def callBackSpec : ChangeSpec := { name := "callBack", fn := fun _ => fun
  | [d1, d2, d3] => { results := [.lit (.bool true)], args := [d1, d2, d3] }
  | _ => none }
def callBackRow : OpenClaim := { program := "ytoalafcmlgjlpaa", sum := "a4e60e5e9dc44ca3915e5cfefc54992410ace39b6979461660372619cffc6ebf", func := "tombola/tombolalaw26.CallBack", spec := "callBack", unfollowed := true, recurses := true, apart := false }
def CallBackSaid : Prop := callBackRow.holds Try.pinned (OpenSpec.ofChange callBackSpec)

/-- ITS FALSE NEIGHBOUR: 'it returns false'. Refute it at one input. -/
def callBackWrong : ChangeSpec := { name := "callBack", fn := fun _ => fun
  | [d1, d2, d3] => { results := [.lit (.bool false)], args := [d1, d2, d3] }
  | _ => none }
def CallBackWrongFalsely : Prop := callBackRow.holds Try.pinned (OpenSpec.ofChange callBackWrong)

/-- 'tombolalaw26.CallDoes': WHATEVER THE INPUT: true; the input reads as it did. -/
def callDoesSpec : ChangeSpec := { name := "callDoes", fn := fun _ => fun
  | [d1, d2, d3] => { results := [.lit (.bool true)], args := [d1, d2, d3] }
  | _ => none }
def callDoesRow : OpenClaim := { program := "ytoalafcmlgjlpaa", sum := "a4e60e5e9dc44ca3915e5cfefc54992410ace39b6979461660372619cffc6ebf", func := "tombola/tombolalaw26.CallDoes", spec := "callDoes", unfollowed := true, recurses := true, apart := false }
def CallDoesSaid : Prop := callDoesRow.holds Try.pinned (OpenSpec.ofChange callDoesSpec)

/-- ITS FALSE NEIGHBOUR: 'it returns false'. Refute it at one input. -/
def callDoesWrong : ChangeSpec := { name := "callDoes", fn := fun _ => fun
  | [d1, d2, d3] => { results := [.lit (.bool false)], args := [d1, d2, d3] }
  | _ => none }
def CallDoesWrongFalsely : Prop := callDoesRow.holds Try.pinned (OpenSpec.ofChange callDoesWrong)

/-- 'tombolalaw23.MintDoes': WHATEVER THE INPUT: true; the input reads as it did. -/
def mintDoesSpec : ChangeSpec := { name := "mintDoes", fn := fun _ => fun
  | [d1, d2] => { results := [.lit (.bool true)], args := [d1, d2] }
  | _ => none }
def mintDoesRow : OpenClaim := { program := "ytoalafcmlgjlpaa", sum := "a4e60e5e9dc44ca3915e5cfefc54992410ace39b6979461660372619cffc6ebf", func := "tombola/tombolalaw23.MintDoes", spec := "mintDoes", unfollowed := true, recurses := true, apart := false }
def MintDoesSaid : Prop := mintDoesRow.holds Try.pinned (OpenSpec.ofChange mintDoesSpec)

/-- ITS FALSE NEIGHBOUR: 'it returns false'. Refute it at one input. -/
def mintDoesWrong : ChangeSpec := { name := "mintDoes", fn := fun _ => fun
  | [d1, d2] => { results := [.lit (.bool false)], args := [d1, d2] }
  | _ => none }
def MintDoesWrongFalsely : Prop := mintDoesRow.holds Try.pinned (OpenSpec.ofChange mintDoesWrong)

/-- 'tombolalaw14.StateFine': WHATEVER THE INPUT: true; the input reads as it did. -/
def stateFineSpec : ChangeSpec := { name := "stateFine", fn := fun _ => fun
  | [d1, d2, d3] => { results := [.lit (.bool true)], args := [d1, d2, d3] }
  | _ => none }
def stateFineRow : OpenClaim := { program := "ytoalafcmlgjlpaa", sum := "a4e60e5e9dc44ca3915e5cfefc54992410ace39b6979461660372619cffc6ebf", func := "tombola/tombolalaw14.StateFine", spec := "stateFine", unfollowed := true, recurses := true, apart := false }
def StateFineSaid : Prop := stateFineRow.holds Try.pinned (OpenSpec.ofChange stateFineSpec)

/-- ITS FALSE NEIGHBOUR: 'it returns false'. Refute it at one input. -/
def stateFineWrong : ChangeSpec := { name := "stateFine", fn := fun _ => fun
  | [d1, d2, d3] => { results := [.lit (.bool false)], args := [d1, d2, d3] }
  | _ => none }
def StateFineWrongFalsely : Prop := stateFineRow.holds Try.pinned (OpenSpec.ofChange stateFineWrong)

/-- 'tombolalaw14.StatePuts': WHATEVER THE INPUT: true; the input reads as it did. -/
def statePutsSpec : ChangeSpec := { name := "statePuts", fn := fun _ => fun
  | [d1, d2, d3] => { results := [.lit (.bool true)], args := [d1, d2, d3] }
  | _ => none }
def statePutsRow : OpenClaim := { program := "ytoalafcmlgjlpaa", sum := "a4e60e5e9dc44ca3915e5cfefc54992410ace39b6979461660372619cffc6ebf", func := "tombola/tombolalaw14.StatePuts", spec := "statePuts", unfollowed := true, recurses := true, apart := false }
def StatePutsSaid : Prop := statePutsRow.holds Try.pinned (OpenSpec.ofChange statePutsSpec)

/-- ITS FALSE NEIGHBOUR: 'it returns false'. Refute it at one input. -/
def statePutsWrong : ChangeSpec := { name := "statePuts", fn := fun _ => fun
  | [d1, d2, d3] => { results := [.lit (.bool false)], args := [d1, d2, d3] }
  | _ => none }
def StatePutsWrongFalsely : Prop := statePutsRow.holds Try.pinned (OpenSpec.ofChange statePutsWrong)

/-- 'tombolalaw29.PackStates': WHATEVER THE INPUT: true; the input reads as it did. -/
def packStatesSpec : ChangeSpec := { name := "packStates", fn := fun _ => fun
  | [d1, d2] => { results := [.lit (.bool true)], args := [d1, d2] }
  | _ => none }
def packStatesRow : OpenClaim := { program := "ytoalafcmlgjlpaa", sum := "a4e60e5e9dc44ca3915e5cfefc54992410ace39b6979461660372619cffc6ebf", func := "tombola/tombolalaw29.PackStates", spec := "packStates", unfollowed := true, recurses := true, apart := false }
def PackStatesSaid : Prop := packStatesRow.holds Try.pinned (OpenSpec.ofChange packStatesSpec)

/-- ITS FALSE NEIGHBOUR: 'it returns false'. Refute it at one input. -/
def packStatesWrong : ChangeSpec := { name := "packStates", fn := fun _ => fun
  | [d1, d2] => { results := [.lit (.bool false)], args := [d1, d2] }
  | _ => none }
def PackStatesWrongFalsely : Prop := packStatesRow.holds Try.pinned (OpenSpec.ofChange packStatesWrong)

/-- 'tombolalaw29.PackUnlike': WHATEVER THE INPUT: true; the input reads as it did. -/
def packUnlikeSpec : ChangeSpec := { name := "packUnlike", fn := fun _ => fun
  | [d1, d2, d3, d4] => { results := [.lit (.bool true)], args := [d1, d2, d3, d4] }
  | _ => none }
def packUnlikeRow : OpenClaim := { program := "ytoalafcmlgjlpaa", sum := "a4e60e5e9dc44ca3915e5cfefc54992410ace39b6979461660372619cffc6ebf", func := "tombola/tombolalaw29.PackUnlike", spec := "packUnlike", unfollowed := true, recurses := true, apart := false }
def PackUnlikeSaid : Prop := packUnlikeRow.holds Try.pinned (OpenSpec.ofChange packUnlikeSpec)

/-- ITS FALSE NEIGHBOUR: 'it returns false'. Refute it at one input. -/
def packUnlikeWrong : ChangeSpec := { name := "packUnlike", fn := fun _ => fun
  | [d1, d2, d3, d4] => { results := [.lit (.bool false)], args := [d1, d2, d3, d4] }
  | _ => none }
def PackUnlikeWrongFalsely : Prop := packUnlikeRow.holds Try.pinned (OpenSpec.ofChange packUnlikeWrong)

/- THE SECOND FORM. 'bulk': how many values and letters a reading holds, each counted each time it is reached (what is shared counts as often as it is met; a slice's spare places count too). A statement '..UptoSaid' is the law's where the arguments, and the package variables that the reading takes, are together of bulk at most 1048576: NARROWER than '..Said'. Prove '..Said' where nothing that the law and all that it calls make is longer than what came in: it says more and counts as full. Else prove '..UptoSaid'. A law counts once. -/
mutual
def uptoBulk {H : Type} : DataW H → Nat
  | .lit (.string bytes) => bytes.length + 1
  | .lit _ => 1
  | .nil => 1
  | .ptr d => uptoBulk d + 1
  | .slice elems spare => uptoBulkAll elems + uptoBulkAll spare + 1
  | .agg parts => uptoBulkAll parts + 1
  | .iface _ d => uptoBulk d + 1
  | .map entries => uptoBulkEntries entries + 1
  | .held _ => 1
def uptoBulkAll {H : Type} : List (DataW H) → Nat
  | [] => 0
  | d :: r => uptoBulk d + uptoBulkAll r
def uptoBulkEntries {H : Type} : List (Lit × DataW H) → Nat
  | [] => 0
  | x :: r => uptoBulkEntry x + uptoBulkEntries r
def uptoBulkEntry {H : Type} : Lit × DataW H → Nat
  | (.string bytes, d) => bytes.length + uptoBulk d + 1
  | (_, d) => uptoBulk d + 1
 end
def uptoSmall : (H : Type) → List (DataW H) → Bool := fun _ ds => decide (uptoBulkAll ds ≤ 1048576)
def OpenSpec.upto (s : _root_.Go.ChangeSpec) : _root_.Go.OpenSpec := { _root_.Go.OpenSpec.ofChange s with cond := some uptoSmall }

/-- 'tombolalaw26.CallCarries', WHERE WHAT IT READS IS OF BULK AT MOST 1048576: true; the input reads as it did. -/
def callCarriesUptoRow : OpenClaim := { program := "ytoalafcmlgjlpaa", sum := "a4e60e5e9dc44ca3915e5cfefc54992410ace39b6979461660372619cffc6ebf", func := "tombola/tombolalaw26.CallCarries", spec := "callCarries", unfollowed := true, recurses := true, apart := false, narrowed := true }
def CallCarriesUptoSaid : Prop := callCarriesUptoRow.holds Try.pinned (OpenSpec.upto callCarriesSpec)

/-- 'tombolalaw26.CallBack', WHERE WHAT IT READS IS OF BULK AT MOST 1048576: true; the input reads as it did. -/
def callBackUptoRow : OpenClaim := { program := "ytoalafcmlgjlpaa", sum := "a4e60e5e9dc44ca3915e5cfefc54992410ace39b6979461660372619cffc6ebf", func := "tombola/tombolalaw26.CallBack", spec := "callBack", unfollowed := true, recurses := true, apart := false, narrowed := true }
def CallBackUptoSaid : Prop := callBackUptoRow.holds Try.pinned (OpenSpec.upto callBackSpec)

/-- 'tombolalaw26.CallDoes', WHERE WHAT IT READS IS OF BULK AT MOST 1048576: true; the input reads as it did. -/
def callDoesUptoRow : OpenClaim := { program := "ytoalafcmlgjlpaa", sum := "a4e60e5e9dc44ca3915e5cfefc54992410ace39b6979461660372619cffc6ebf", func := "tombola/tombolalaw26.CallDoes", spec := "callDoes", unfollowed := true, recurses := true, apart := false, narrowed := true }
def CallDoesUptoSaid : Prop := callDoesUptoRow.holds Try.pinned (OpenSpec.upto callDoesSpec)

/-- 'tombolalaw23.MintDoes', WHERE WHAT IT READS IS OF BULK AT MOST 1048576: true; the input reads as it did. -/
def mintDoesUptoRow : OpenClaim := { program := "ytoalafcmlgjlpaa", sum := "a4e60e5e9dc44ca3915e5cfefc54992410ace39b6979461660372619cffc6ebf", func := "tombola/tombolalaw23.MintDoes", spec := "mintDoes", unfollowed := true, recurses := true, apart := false, narrowed := true }
def MintDoesUptoSaid : Prop := mintDoesUptoRow.holds Try.pinned (OpenSpec.upto mintDoesSpec)

/-- 'tombolalaw14.StateFine', WHERE WHAT IT READS IS OF BULK AT MOST 1048576: true; the input reads as it did. -/
def stateFineUptoRow : OpenClaim := { program := "ytoalafcmlgjlpaa", sum := "a4e60e5e9dc44ca3915e5cfefc54992410ace39b6979461660372619cffc6ebf", func := "tombola/tombolalaw14.StateFine", spec := "stateFine", unfollowed := true, recurses := true, apart := false, narrowed := true }
def StateFineUptoSaid : Prop := stateFineUptoRow.holds Try.pinned (OpenSpec.upto stateFineSpec)

/-- 'tombolalaw14.StatePuts', WHERE WHAT IT READS IS OF BULK AT MOST 1048576: true; the input reads as it did. -/
def statePutsUptoRow : OpenClaim := { program := "ytoalafcmlgjlpaa", sum := "a4e60e5e9dc44ca3915e5cfefc54992410ace39b6979461660372619cffc6ebf", func := "tombola/tombolalaw14.StatePuts", spec := "statePuts", unfollowed := true, recurses := true, apart := false, narrowed := true }
def StatePutsUptoSaid : Prop := statePutsUptoRow.holds Try.pinned (OpenSpec.upto statePutsSpec)

/-- 'tombolalaw29.PackStates', WHERE WHAT IT READS IS OF BULK AT MOST 1048576: true; the input reads as it did. -/
def packStatesUptoRow : OpenClaim := { program := "ytoalafcmlgjlpaa", sum := "a4e60e5e9dc44ca3915e5cfefc54992410ace39b6979461660372619cffc6ebf", func := "tombola/tombolalaw29.PackStates", spec := "packStates", unfollowed := true, recurses := true, apart := false, narrowed := true }
def PackStatesUptoSaid : Prop := packStatesUptoRow.holds Try.pinned (OpenSpec.upto packStatesSpec)

/-- 'tombolalaw29.PackUnlike', WHERE WHAT IT READS IS OF BULK AT MOST 1048576: true; the input reads as it did. -/
def packUnlikeUptoRow : OpenClaim := { program := "ytoalafcmlgjlpaa", sum := "a4e60e5e9dc44ca3915e5cfefc54992410ace39b6979461660372619cffc6ebf", func := "tombola/tombolalaw29.PackUnlike", spec := "packUnlike", unfollowed := true, recurses := true, apart := false, narrowed := true }
def PackUnlikeUptoSaid : Prop := packUnlikeUptoRow.holds Try.pinned (OpenSpec.upto packUnlikeSpec)

end Rows
end Go.Proofs.Ytoalafcmlgjlpaa
