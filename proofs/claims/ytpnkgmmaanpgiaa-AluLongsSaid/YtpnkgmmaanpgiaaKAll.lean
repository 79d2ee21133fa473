/- The engine, whole: steps, memory, slices, data. -/
import Derived.Test.YtpnkgmmaanpgiaaKTab
import Derived.Test.YtpnkgmmaanpgiaaKRow
import Derived.Test.YtpnkgmmaanpgiaaKData
