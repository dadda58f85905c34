/- Walks of the reference's reader: texts; a new reader. -/
import Derived.Test.YtbghkodcfedebaaGreatDoorQc
import Derived.Test.YtbghkodcfedebaaGreatDoorTj4
namespace Go.Proofs.YtbghkodcfedebaaGreatDoor
open Go.RowKit Go.AB
set_option linter.unusedSimpArgs false
set_option linter.unusedVariables false
section
variable {w : World} {b : Nat} {l : List UInt8} {ao : Option Addr} {cap pos wh bad : Nat}
end
end Go.Proofs.YtbghkodcfedebaaGreatDoor
