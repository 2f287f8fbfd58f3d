/- The shelf's contracts that this seat's words use: all of them stand in SplS. -/
import Derived.Test.YtilbhingfnjppaaDoorSplS
set_option linter.unusedSimpArgs false
set_option linter.unusedVariables false
