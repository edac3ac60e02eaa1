/- All functions. -/
import Derived.Test.YtgenminnhfokkaaGreatGenB
