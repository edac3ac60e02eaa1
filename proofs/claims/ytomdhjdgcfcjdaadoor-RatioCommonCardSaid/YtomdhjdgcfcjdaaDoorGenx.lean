/- All functions. -/
import Derived.Test.YtomdhjdgcfcjdaaDoorGenB
