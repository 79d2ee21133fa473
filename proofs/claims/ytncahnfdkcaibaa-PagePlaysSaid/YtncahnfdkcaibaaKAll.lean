/- The engine, whole: steps, memory, slices, data. -/
import Derived.Test.YtncahnfdkcaibaaKTab
import Derived.Test.YtncahnfdkcaibaaKRow
import Derived.Test.YtncahnfdkcaibaaKData
