/-
  No cell of these rows narrows 'for every input' (looked for: loops, veiled, ifaces, maps, wideKeys, modest, calm, conditions, laid).
  DERIVED. THE GIVEN ROWS OF THIS SEAT. 7 by the template 'for every input the law returns true; each argument reads behind the call as it read before'; 0 by the template 'total and deterministic' (their statements: YtgenminnhfokkaaGreatTotals.lean).
  GIVEN WITH THE SEED: the statements are not yours to turn. If you find one false, say at which input.
  Laid BY PROGRAM, IN A SANDBOX (cutbox-rows.mjs): the forced cells as the released guide's own fill.sh prints them over the translation 399a8530a6fb3086… (all of the seat's roots in one cut). By AI agents, Wed Nov 11 2026. No macro, syntax, notation, axiom, sorry.
-/
import Derived.Test.YtgenminnhfokkaaGreatChecked
import GoSem.Claim
import GoSem.ClaimJoined
import GoSem.ClaimMapViews
import Derived.JoinedTies
import Derived.KernelRfl
namespace Go.Proofs.YtgenminnhfokkaaGreat
/- THE CELL 'sum', in the pinned program and in every row, IS THE sha256 OF THE DUMP (.gsa) THAT YtgenminnhfokkaaGreatProg.lean LOADS. Nothing in Lean hashes anything: it is a label: what it is worth is what the hold of that sum in a sandbox is worth. -/
noncomputable def Tryz.pinned : Pinned := { name := "ytgenminnhfokkaagreat", sum := "399a8530a6fb3086f0b185647c7856da1a53ebf41627cbf699f5437d5e253ddc", checked := Tryz.checked }
namespace Rows
def none {H : Type} : Left H := { results := [], args := [] }

/-- 'tombolalaw20.FactorTells': WHATEVER THE INPUT: true; the input reads as it did. -/
def factorTellsSpec : ChangeSpec := { name := "factorTells", fn := fun _ => fun
  | [d1, d2, d3, d4] => { results := [.lit (.bool true)], args := [d1, d2, d3, d4] }
  | _ => none }
def factorTellsRow : OpenClaim := { program := "ytgenminnhfokkaagreat", sum := "399a8530a6fb3086f0b185647c7856da1a53ebf41627cbf699f5437d5e253ddc", func := "tombola/tombolalaw20.FactorTells", spec := "factorTells", unfollowed := true, recurses := true, apart := false }
def FactorTellsSaid : Prop := factorTellsRow.holds Tryz.pinned (OpenSpec.ofChange factorTellsSpec)

/-- ITS FALSE NEIGHBOUR: 'it returns false'. Refute it at one input. -/
def factorTellsWrong : ChangeSpec := { name := "factorTells", fn := fun _ => fun
  | [d1, d2, d3, d4] => { results := [.lit (.bool false)], args := [d1, d2, d3, d4] }
  | _ => none }
def FactorTellsWrongFalsely : Prop := factorTellsRow.holds Tryz.pinned (OpenSpec.ofChange factorTellsWrong)

/-- 'tombolalaw20.FactorGives': WHATEVER THE INPUT: true; the input reads as it did. -/
def factorGivesSpec : ChangeSpec := { name := "factorGives", fn := fun _ => fun
  | [d1, d2, d3] => { results := [.lit (.bool true)], args := [d1, d2, d3] }
  | _ => none }
def factorGivesRow : OpenClaim := { program := "ytgenminnhfokkaagreat", sum := "399a8530a6fb3086f0b185647c7856da1a53ebf41627cbf699f5437d5e253ddc", func := "tombola/tombolalaw20.FactorGives", spec := "factorGives", unfollowed := true, recurses := true, apart := false }
def FactorGivesSaid : Prop := factorGivesRow.holds Tryz.pinned (OpenSpec.ofChange factorGivesSpec)

/-- ITS FALSE NEIGHBOUR: 'it returns false'. Refute it at one input. -/
def factorGivesWrong : ChangeSpec := { name := "factorGives", fn := fun _ => fun
  | [d1, d2, d3] => { results := [.lit (.bool false)], args := [d1, d2, d3] }
  | _ => none }
def FactorGivesWrongFalsely : Prop := factorGivesRow.holds Tryz.pinned (OpenSpec.ofChange factorGivesWrong)

/-- 'tombolalaw45.LagTells': WHATEVER THE INPUT: true; the input reads as it did. -/
def lagTellsSpec : ChangeSpec := { name := "lagTells", fn := fun _ => fun
  | [d1, d2, d3] => { results := [.lit (.bool true)], args := [d1, d2, d3] }
  | _ => none }
def lagTellsRow : OpenClaim := { program := "ytgenminnhfokkaagreat", sum := "399a8530a6fb3086f0b185647c7856da1a53ebf41627cbf699f5437d5e253ddc", func := "tombola/tombolalaw45.LagTells", spec := "lagTells", unfollowed := true, recurses := true, apart := false }
def LagTellsSaid : Prop := lagTellsRow.holds Tryz.pinned (OpenSpec.ofChange lagTellsSpec)

/-- ITS FALSE NEIGHBOUR: 'it returns false'. Refute it at one input. -/
def lagTellsWrong : ChangeSpec := { name := "lagTells", fn := fun _ => fun
  | [d1, d2, d3] => { results := [.lit (.bool false)], args := [d1, d2, d3] }
  | _ => none }
def LagTellsWrongFalsely : Prop := lagTellsRow.holds Tryz.pinned (OpenSpec.ofChange lagTellsWrong)

/-- 'tombolalaw45.LagEvens': WHATEVER THE INPUT: true; the input reads as it did. -/
def lagEvensSpec : ChangeSpec := { name := "lagEvens", fn := fun _ => fun
  | [d1, d2] => { results := [.lit (.bool true)], args := [d1, d2] }
  | _ => none }
def lagEvensRow : OpenClaim := { program := "ytgenminnhfokkaagreat", sum := "399a8530a6fb3086f0b185647c7856da1a53ebf41627cbf699f5437d5e253ddc", func := "tombola/tombolalaw45.LagEvens", spec := "lagEvens", unfollowed := true, recurses := true, apart := false }
def LagEvensSaid : Prop := lagEvensRow.holds Tryz.pinned (OpenSpec.ofChange lagEvensSpec)

/-- ITS FALSE NEIGHBOUR: 'it returns false'. Refute it at one input. -/
def lagEvensWrong : ChangeSpec := { name := "lagEvens", fn := fun _ => fun
  | [d1, d2] => { results := [.lit (.bool false)], args := [d1, d2] }
  | _ => none }
def LagEvensWrongFalsely : Prop := lagEvensRow.holds Tryz.pinned (OpenSpec.ofChange lagEvensWrong)

/-- 'tombolalaw57.PatienceTells': WHATEVER THE INPUT: true; the input reads as it did. -/
def patienceTellsSpec : ChangeSpec := { name := "patienceTells", fn := fun _ => fun
  | [d1, d2, d3, d4] => { results := [.lit (.bool true)], args := [d1, d2, d3, d4] }
  | _ => none }
def patienceTellsRow : OpenClaim := { program := "ytgenminnhfokkaagreat", sum := "399a8530a6fb3086f0b185647c7856da1a53ebf41627cbf699f5437d5e253ddc", func := "tombola/tombolalaw57.PatienceTells", spec := "patienceTells", unfollowed := true, recurses := true, apart := false }
def PatienceTellsSaid : Prop := patienceTellsRow.holds Tryz.pinned (OpenSpec.ofChange patienceTellsSpec)

/-- ITS FALSE NEIGHBOUR: 'it returns false'. Refute it at one input. -/
def patienceTellsWrong : ChangeSpec := { name := "patienceTells", fn := fun _ => fun
  | [d1, d2, d3, d4] => { results := [.lit (.bool false)], args := [d1, d2, d3, d4] }
  | _ => none }
def PatienceTellsWrongFalsely : Prop := patienceTellsRow.holds Tryz.pinned (OpenSpec.ofChange patienceTellsWrong)

/-- 'tombolalaw57.PatienceWithin': WHATEVER THE INPUT: true; the input reads as it did. -/
def patienceWithinSpec : ChangeSpec := { name := "patienceWithin", fn := fun _ => fun
  | [d1, d2, d3, d4, d5] => { results := [.lit (.bool true)], args := [d1, d2, d3, d4, d5] }
  | _ => none }
def patienceWithinRow : OpenClaim := { program := "ytgenminnhfokkaagreat", sum := "399a8530a6fb3086f0b185647c7856da1a53ebf41627cbf699f5437d5e253ddc", func := "tombola/tombolalaw57.PatienceWithin", spec := "patienceWithin", unfollowed := true, recurses := true, apart := false }
def PatienceWithinSaid : Prop := patienceWithinRow.holds Tryz.pinned (OpenSpec.ofChange patienceWithinSpec)

/-- ITS FALSE NEIGHBOUR: 'it returns false'. Refute it at one input. -/
def patienceWithinWrong : ChangeSpec := { name := "patienceWithin", fn := fun _ => fun
  | [d1, d2, d3, d4, d5] => { results := [.lit (.bool false)], args := [d1, d2, d3, d4, d5] }
  | _ => none }
def PatienceWithinWrongFalsely : Prop := patienceWithinRow.holds Tryz.pinned (OpenSpec.ofChange patienceWithinWrong)

/-- 'tombolalaw57.PatienceWhole': WHATEVER THE INPUT: true; the input reads as it did. -/
def patienceWholeSpec : ChangeSpec := { name := "patienceWhole", fn := fun _ => fun
  | [d1, d2, d3] => { results := [.lit (.bool true)], args := [d1, d2, d3] }
  | _ => none }
def patienceWholeRow : OpenClaim := { program := "ytgenminnhfokkaagreat", sum := "399a8530a6fb3086f0b185647c7856da1a53ebf41627cbf699f5437d5e253ddc", func := "tombola/tombolalaw57.PatienceWhole", spec := "patienceWhole", unfollowed := true, recurses := true, apart := false }
def PatienceWholeSaid : Prop := patienceWholeRow.holds Tryz.pinned (OpenSpec.ofChange patienceWholeSpec)

/-- ITS FALSE NEIGHBOUR: 'it returns false'. Refute it at one input. -/
def patienceWholeWrong : ChangeSpec := { name := "patienceWhole", fn := fun _ => fun
  | [d1, d2, d3] => { results := [.lit (.bool false)], args := [d1, d2, d3] }
  | _ => none }
def PatienceWholeWrongFalsely : Prop := patienceWholeRow.holds Tryz.pinned (OpenSpec.ofChange patienceWholeWrong)

/- THE SECOND FORM. 'bulk': how many values and letters a reading holds, each counted each time it is reached (what is shared counts as often as it is met; a slice's spare places count too). A statement '..UptoSaid' is the law's where the arguments, and the package variables that the reading takes, are together of bulk at most 1048576: NARROWER than '..Said'. Prove '..Said' where nothing that the law and all that it calls make is longer than what came in: it says more and counts as full. Else prove '..UptoSaid'. A law counts once. -/
mutual
def uptoBulk {H : Type} : DataW H → Nat
  | .lit (.string bytes) => bytes.length + 1
  | .lit _ => 1
  | .nil => 1
  | .ptr d => uptoBulk d + 1
  | .slice elems spare => uptoBulkAll elems + uptoBulkAll spare + 1
  | .agg parts => uptoBulkAll parts + 1
  | .iface _ d => uptoBulk d + 1
  | .map entries => uptoBulkEntries entries + 1
  | .held _ => 1
def uptoBulkAll {H : Type} : List (DataW H) → Nat
  | [] => 0
  | d :: r => uptoBulk d + uptoBulkAll r
def uptoBulkEntries {H : Type} : List (Lit × DataW H) → Nat
  | [] => 0
  | x :: r => uptoBulkEntry x + uptoBulkEntries r
def uptoBulkEntry {H : Type} : Lit × DataW H → Nat
  | (.string bytes, d) => bytes.length + uptoBulk d + 1
  | (_, d) => uptoBulk d + 1
 end
def uptoSmall : (H : Type) → List (DataW H) → Bool := fun _ ds => decide (uptoBulkAll ds ≤ 1048576)
def OpenSpec.upto (s : _root_.Go.ChangeSpec) : _root_.Go.OpenSpec := { _root_.Go.OpenSpec.ofChange s with cond := some uptoSmall }

/-- 'tombolalaw20.FactorTells', WHERE WHAT IT READS IS OF BULK AT MOST 1048576: true; the input reads as it did. -/
def factorTellsUptoRow : OpenClaim := { program := "ytgenminnhfokkaagreat", sum := "399a8530a6fb3086f0b185647c7856da1a53ebf41627cbf699f5437d5e253ddc", func := "tombola/tombolalaw20.FactorTells", spec := "factorTells", unfollowed := true, recurses := true, apart := false, narrowed := true }
def FactorTellsUptoSaid : Prop := factorTellsUptoRow.holds Tryz.pinned (OpenSpec.upto factorTellsSpec)

/-- 'tombolalaw20.FactorGives', WHERE WHAT IT READS IS OF BULK AT MOST 1048576: true; the input reads as it did. -/
def factorGivesUptoRow : OpenClaim := { program := "ytgenminnhfokkaagreat", sum := "399a8530a6fb3086f0b185647c7856da1a53ebf41627cbf699f5437d5e253ddc", func := "tombola/tombolalaw20.FactorGives", spec := "factorGives", unfollowed := true, recurses := true, apart := false, narrowed := true }
def FactorGivesUptoSaid : Prop := factorGivesUptoRow.holds Tryz.pinned (OpenSpec.upto factorGivesSpec)

/-- 'tombolalaw45.LagTells', WHERE WHAT IT READS IS OF BULK AT MOST 1048576: true; the input reads as it did. -/
def lagTellsUptoRow : OpenClaim := { program := "ytgenminnhfokkaagreat", sum := "399a8530a6fb3086f0b185647c7856da1a53ebf41627cbf699f5437d5e253ddc", func := "tombola/tombolalaw45.LagTells", spec := "lagTells", unfollowed := true, recurses := true, apart := false, narrowed := true }
def LagTellsUptoSaid : Prop := lagTellsUptoRow.holds Tryz.pinned (OpenSpec.upto lagTellsSpec)

/-- 'tombolalaw45.LagEvens', WHERE WHAT IT READS IS OF BULK AT MOST 1048576: true; the input reads as it did. -/
def lagEvensUptoRow : OpenClaim := { program := "ytgenminnhfokkaagreat", sum := "399a8530a6fb3086f0b185647c7856da1a53ebf41627cbf699f5437d5e253ddc", func := "tombola/tombolalaw45.LagEvens", spec := "lagEvens", unfollowed := true, recurses := true, apart := false, narrowed := true }
def LagEvensUptoSaid : Prop := lagEvensUptoRow.holds Tryz.pinned (OpenSpec.upto lagEvensSpec)

/-- 'tombolalaw57.PatienceTells', WHERE WHAT IT READS IS OF BULK AT MOST 1048576: true; the input reads as it did. -/
def patienceTellsUptoRow : OpenClaim := { program := "ytgenminnhfokkaagreat", sum := "399a8530a6fb3086f0b185647c7856da1a53ebf41627cbf699f5437d5e253ddc", func := "tombola/tombolalaw57.PatienceTells", spec := "patienceTells", unfollowed := true, recurses := true, apart := false, narrowed := true }
def PatienceTellsUptoSaid : Prop := patienceTellsUptoRow.holds Tryz.pinned (OpenSpec.upto patienceTellsSpec)

/-- 'tombolalaw57.PatienceWithin', WHERE WHAT IT READS IS OF BULK AT MOST 1048576: true; the input reads as it did. -/
def patienceWithinUptoRow : OpenClaim := { program := "ytgenminnhfokkaagreat", sum := "399a8530a6fb3086f0b185647c7856da1a53ebf41627cbf699f5437d5e253ddc", func := "tombola/tombolalaw57.PatienceWithin", spec := "patienceWithin", unfollowed := true, recurses := true, apart := false, narrowed := true }
def PatienceWithinUptoSaid : Prop := patienceWithinUptoRow.holds Tryz.pinned (OpenSpec.upto patienceWithinSpec)

/-- 'tombolalaw57.PatienceWhole', WHERE WHAT IT READS IS OF BULK AT MOST 1048576: true; the input reads as it did. -/
def patienceWholeUptoRow : OpenClaim := { program := "ytgenminnhfokkaagreat", sum := "399a8530a6fb3086f0b185647c7856da1a53ebf41627cbf699f5437d5e253ddc", func := "tombola/tombolalaw57.PatienceWhole", spec := "patienceWhole", unfollowed := true, recurses := true, apart := false, narrowed := true }
def PatienceWholeUptoSaid : Prop := patienceWholeUptoRow.holds Tryz.pinned (OpenSpec.upto patienceWholeSpec)

end Rows
end Go.Proofs.YtgenminnhfokkaaGreat
