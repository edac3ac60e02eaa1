/- All functions. -/
import Derived.Test.YtomdhjdgcfcjdaaGreatDoorGenA
