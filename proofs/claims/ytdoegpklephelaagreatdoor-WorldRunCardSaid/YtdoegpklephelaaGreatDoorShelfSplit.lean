/- the kit's contracts of package strings at this program (written over in plain words by the kit's lay-plain tool) -/
import Derived.Shelf.Lay
import Derived.Shelf.LaySoft
import Derived.Shelf.Strings.Split
import Derived.Shelf.Small.Strs
import Derived.Test.YtdoegpklephelaaGreatDoorProg
namespace Go.Proofs
open Go.Shelf
shelf_try shelf_lay Lays.n146 Nm 146 at Tryz as YtdoegpklephelaaGreatDoor.lays146
shelf_try shelf_lay Lays.n137 Nm 137 at Tryz as YtdoegpklephelaaGreatDoor.lays137
shelf_tried
end Go.Proofs
