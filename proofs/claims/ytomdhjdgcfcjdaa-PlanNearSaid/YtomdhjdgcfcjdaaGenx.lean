/- All functions. -/
import Derived.Test.YtomdhjdgcfcjdaaGenB
