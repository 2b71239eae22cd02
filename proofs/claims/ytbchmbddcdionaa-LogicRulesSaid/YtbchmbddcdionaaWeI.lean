/- what the user functions of this seat compute -/
import Derived.Test.YtbchmbddcdionaaWe
import Derived.Test.YtbchmbddcdionaaInsP
set_option linter.unusedSimpArgs false
set_option linter.unusedVariables false
