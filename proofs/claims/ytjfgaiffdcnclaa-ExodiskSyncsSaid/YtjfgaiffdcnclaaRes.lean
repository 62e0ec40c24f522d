/-
  All printed normal forms.
-/
import Derived.Test.YtjfgaiffdcnclaaResA
import Derived.Test.YtjfgaiffdcnclaaResB
import Derived.Test.YtjfgaiffdcnclaaResC
