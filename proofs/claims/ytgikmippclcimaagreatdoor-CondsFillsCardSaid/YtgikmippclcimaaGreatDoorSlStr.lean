/- Lists of strings as a list type. -/
import Derived.Test.YtgikmippclcimaaGreatDoorMem
import Derived.Laws.CopyOwn
namespace Go.Proofs.YtgikmippclcimaaGreatDoor
open Go.RowKit

theorem slstrs : SlTy Tryz.prog 52 9 1 16 := ⟨Tryz.underlying52, .string ⟨#[]⟩, by kernel_rfl, rfl, by decide⟩
end Go.Proofs.YtgikmippclcimaaGreatDoor
