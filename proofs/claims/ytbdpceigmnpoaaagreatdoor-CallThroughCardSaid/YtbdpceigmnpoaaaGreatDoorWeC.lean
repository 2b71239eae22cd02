/- what the user functions of this seat compute -/
import Derived.Test.YtbdpceigmnpoaaaGreatDoorRepP
import Derived.Test.YtbdpceigmnpoaaaGreatDoorInsP
import Derived.Test.YtbdpceigmnpoaaaGreatDoorStrP
set_option linter.unusedSimpArgs false
set_option linter.unusedVariables false
