/-
  Own work. What the disk tells: its names, the dirty sectors; the sectors behind a cut.
-/
import Derived.Test.YtpkjocjchkibaaaSxDiter
namespace Sx
open Go
def disk_Disk_List (a0 : DiskS) : Option (List (List Int)) := if a0.2.2.2.2.2.1 = true then some [] else if List.length a0.2.1 * 16 ≤ 140737488355328 then some (a0.2.1.map (·.1)) else none
/-- the numbers of the sectors that begin ahead of a size -/
def cutKeys (ks : List Int) (size : Int) : List Int := ks.filter fun s => decide (IntKind.wrap .i64 (s * 64) < size)
end Sx
