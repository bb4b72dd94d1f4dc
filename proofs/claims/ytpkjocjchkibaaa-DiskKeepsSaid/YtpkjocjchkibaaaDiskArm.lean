/-
  Own work. The disk is armed.
-/
import Derived.Test.YtpkjocjchkibaaaDiskPure5
namespace Sx
open Go
theorem Arm_eq (D : DiskS) (n w : Int) : disk_Disk_Arm D n w = some (D.1, D.2.1, if n < 1 ∨ w < 0 ∨ w > 2 then 0 else n, w, D.2.2.2.2.1, D.2.2.2.2.2.1, D.2.2.2.2.2.2) := by
  unfold disk_Disk_Arm
  simp only [bnd_eq]
  by_cases h : n < 1 ∨ w < 0 ∨ w > 2
  · rw [if_pos (by simp only [Bool.or_eq_true, decide_eq_true_eq]; omega), if_pos h]
  · rw [if_neg (by simp only [Bool.or_eq_true, decide_eq_true_eq]; omega), if_neg h]
end Sx
