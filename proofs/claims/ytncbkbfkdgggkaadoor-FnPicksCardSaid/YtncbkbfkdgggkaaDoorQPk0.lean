/- (This seat has no such texts of the library.). (This seat has no such texts of the library.). (This seat has no such texts of the library.). (This seat has no such texts of the library.). -/
import Derived.Test.YtncbkbfkdgggkaaDoorProg
set_option linter.unusedVariables false
set_option linter.unusedSimpArgs false







