/- Fractions: the document's difference and order. -/
import Derived.Test.YtomdhjdgcfcjdaaGreatDoorPN14
set_option linter.unusedVariables false
set_option linter.unusedSimpArgs false
namespace Go.Tom
open Go
section
variable {p q : FP} {k : Nat} (hp : S16 k p) (hq : S16 k q) (hk : k ≤ 400000)
include hp hq hk

end
end Go.Tom
