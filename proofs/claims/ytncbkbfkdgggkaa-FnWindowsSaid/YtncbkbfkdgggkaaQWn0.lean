/- (This seat has no slices.Sort.). (This seat has no such texts of the library.). (This seat has no such texts of the library.). (This seat has no such texts of the library.). (This seat has no such texts of the library.). -/
import Derived.Test.YtncbkbfkdgggkaaProg









