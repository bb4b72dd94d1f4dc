/-
  Own work. What the disk tells: its names, the dirty sectors; the sectors behind a cut.
-/
import Derived.Test.YthepmmpmfngneaaSxDiter
namespace Sx
open Go
def disk_Disk_List (a0 : DiskS) : Option (List (List Int)) := some (if a0.2.2.2.2.2.1 = true then [] else a0.2.1.map (·.1))
def disk_Disk_Dirty (a0 : DiskS) (a1 : List Int) : Option (List Int) := some (if a0.2.2.2.2.2.1 = true then [] else match pget .str a1 a0.2.1 with | none => [] | some f => f.2.2)
/-- the numbers of the sectors that begin ahead of a size -/
def cutKeys (ks : List Int) (size : Int) : List Int := ks.filter fun s => decide (IntKind.wrap .i64 (s * 64) < size)
end Sx
