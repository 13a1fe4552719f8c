/- PackPuts: the walk, and how functions come in. -/
import Derived.Test.YtghghioidllgiaaKq
import Derived.Test.YtghghioidllgiaaFunC
