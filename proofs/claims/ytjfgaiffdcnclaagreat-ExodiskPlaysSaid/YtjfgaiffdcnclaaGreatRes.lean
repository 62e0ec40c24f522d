/-
  All printed normal forms.
-/
import Derived.Test.YtjfgaiffdcnclaaGreatResA
import Derived.Test.YtjfgaiffdcnclaaGreatResB
import Derived.Test.YtjfgaiffdcnclaaGreatResC
