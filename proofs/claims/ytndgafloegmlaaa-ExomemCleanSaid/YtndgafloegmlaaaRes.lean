/-
  All printed normal forms.
-/
import Derived.Test.YtndgafloegmlaaaResA
import Derived.Test.YtndgafloegmlaaaResB
import Derived.Test.YtndgafloegmlaaaResC
