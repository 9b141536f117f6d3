/-
  XVro, and the cards and ties of the seat.
-/
import Derived.Test.YtkjpemkankefnaaDoorVro
import Derived.Test.YtkjpemkankefnaaDoorCards
import Derived.Test.YtkjpemkankefnaaDoorTie
