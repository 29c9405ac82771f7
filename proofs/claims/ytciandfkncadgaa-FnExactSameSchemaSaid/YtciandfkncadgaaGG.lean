/- All of it (written by a program). -/
import Derived.Test.YtciandfkncadgaaG1
import Derived.Test.YtciandfkncadgaaG2
import Derived.Test.YtciandfkncadgaaG3
import Derived.Test.YtciandfkncadgaaG4
import Derived.Test.YtciandfkncadgaaG5
import Derived.Test.YtciandfkncadgaaT1
