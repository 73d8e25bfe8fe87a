/- The first law's. No condition. -/
import Derived.Test.YtjbndhnfmhpjmaaDoorS02b
