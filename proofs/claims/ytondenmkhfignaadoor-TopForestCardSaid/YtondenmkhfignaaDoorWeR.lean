/- what the user functions of this seat compute -/
import Derived.Test.YtondenmkhfignaaDoorRepP
import Derived.Test.YtondenmkhfignaaDoorInsP
set_option linter.unusedSimpArgs false
set_option linter.unusedVariables false
