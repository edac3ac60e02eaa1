/- All functions. -/
import Derived.Test.YtoalafcmlgjlpaaGenB
