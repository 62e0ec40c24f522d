/-
  All printed normal forms.
-/
import Derived.Test.YtmpaiobapmpngaaResA
import Derived.Test.YtmpaiobapmpngaaResB
import Derived.Test.YtmpaiobapmpngaaResC
import Derived.Test.YtmpaiobapmpngaaResD
