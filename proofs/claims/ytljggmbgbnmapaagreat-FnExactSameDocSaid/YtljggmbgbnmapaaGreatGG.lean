/- All of it (written by a program). -/
import Derived.Test.YtljggmbgbnmapaaGreatG1
import Derived.Test.YtljggmbgbnmapaaGreatG2
import Derived.Test.YtljggmbgbnmapaaGreatG3
import Derived.Test.YtljggmbgbnmapaaGreatG4
import Derived.Test.YtljggmbgbnmapaaGreatT1
