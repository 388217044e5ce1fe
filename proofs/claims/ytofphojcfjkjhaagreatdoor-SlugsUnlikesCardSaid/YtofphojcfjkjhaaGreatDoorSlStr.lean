/- Lists of strings as a list type. -/
import Derived.Test.YtofphojcfjkjhaaGreatDoorMem
import Derived.Laws.CopyOwn
namespace Go.Proofs.YtofphojcfjkjhaaGreatDoor
open Go.RowKit

theorem slstrs : SlTy Tryz.prog 22 9 1 16 := ⟨Tryz.underlying22, .string ⟨#[]⟩, by kernel_rfl, rfl, by decide⟩
end Go.Proofs.YtofphojcfjkjhaaGreatDoor
