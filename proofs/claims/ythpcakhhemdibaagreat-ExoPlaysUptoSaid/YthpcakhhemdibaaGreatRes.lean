/-
  All printed normal forms.
-/
import Derived.Test.YthpcakhhemdibaaGreatResA
import Derived.Test.YthpcakhhemdibaaGreatResB
import Derived.Test.YthpcakhhemdibaaGreatResC
import Derived.Test.YthpcakhhemdibaaGreatResD
import Derived.Test.YthpcakhhemdibaaGreatResE
