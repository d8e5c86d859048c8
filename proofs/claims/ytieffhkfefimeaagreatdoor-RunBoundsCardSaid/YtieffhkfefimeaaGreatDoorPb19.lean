/-
  Pb19: EqlN (what is needed of them).
-/
import Derived.Shelf.SlicesQ.Equal
import Derived.Shelf.SlicesE.Equal
import Derived.Ground.SlgqProg
import Derived.Ground.SlgnProg
import Derived.Shelf.SlGeneric
import Derived.Test.YtieffhkfefimeaaGreatDoorProg


