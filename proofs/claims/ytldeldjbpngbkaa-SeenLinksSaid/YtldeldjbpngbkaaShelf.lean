/- The library's contracts at this program, as the kit's own tool lays them. -/
import Derived.Shelf.Lay
import Derived.Shelf.LaySoft

import Derived.Test.YtldeldjbpngbkaaProg
namespace Go.Proofs
open Go.Shelf
shelf_tried
end Go.Proofs
