/- The shelf's contracts of this seat lie in one text. -/
import Derived.Test.YtilbhingfnjppabAutosShelf
set_option linter.unusedSimpArgs false
set_option linter.unusedVariables false
