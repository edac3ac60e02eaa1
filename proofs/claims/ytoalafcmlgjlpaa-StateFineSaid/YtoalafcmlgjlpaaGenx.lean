/- All functions. -/
import Derived.Test.YtoalafcmlgjlpaaGenC
