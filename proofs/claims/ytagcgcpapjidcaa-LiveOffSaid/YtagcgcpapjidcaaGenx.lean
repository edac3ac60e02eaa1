/- All functions. -/
import Derived.Test.YtagcgcpapjidcaaGenB
