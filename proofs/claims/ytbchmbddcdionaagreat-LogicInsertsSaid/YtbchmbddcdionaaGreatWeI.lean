/- what the user functions of this seat compute -/
import Derived.Test.YtbchmbddcdionaaGreatWe
import Derived.Test.YtbchmbddcdionaaGreatInsP
set_option linter.unusedSimpArgs false
set_option linter.unusedVariables false
