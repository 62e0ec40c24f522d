/-
  All printed normal forms.
-/
import Derived.Test.YtndgafloegmlaaaGreatResA
import Derived.Test.YtndgafloegmlaaaGreatResB
import Derived.Test.YtndgafloegmlaaaGreatResC
