/- Nothing of the library is reached by contract here. -/
import Derived.Test.YtkpmaifdeeecjaaProg
import Derived.Shelf.Small.Bits
import Derived.Shelf.Strconv.Itoa0
