/- The step of a walk stands in the text that this one imports. -/
import Derived.Test.YtnlfhnbcdfdhgaaSt
