/-
  XVro, and the cards and ties of the seat.
-/
import Derived.Test.YtalainpmlonahaaDoorVro
import Derived.Test.YtalainpmlonahaaDoorCards
import Derived.Test.YtalainpmlonahaaDoorTie
