/- The contracts of the library that this translation reaches (numbers read, texts cut), laid by the kit; nothing of my own. -/
import Derived.Test.YtmddcbebaijjkaaDoorProg
import Derived.Test.YtmddcbebaijjkaaDoorShelf
import Derived.Shelf.Strconv.AtoiAll
import Derived.Shelf.Strings.Split
namespace Go.Proofs
open Go.Shelf
open Go.RowKit
end Go.Proofs
