/-
  Words of the printed normal forms; small laws on them.
-/
import Derived.Test.YtkcnchnlhdhcbaaDen6
namespace Go.Den
open Go

def newK (w : World) (o : Obj) (K : Nat → World → Prop) : Prop := K w.heap.size (w.alloc o)
def drK (w : World) (K : World → Prop) : Prop := K w.drew
def bodyOf (fn : Func) : Code := fn.body.getD .skip

end Go.Den
