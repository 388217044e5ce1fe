/- Lists of strings as a list type. -/
import Derived.Test.YtfedkhicckgjaaaGreatDoorMem
import Derived.Laws.CopyOwn
namespace Go.Proofs.YtfedkhicckgjaaaGreatDoor
open Go.RowKit

theorem slstrs : SlTy Tryz.prog 26 9 1 16 := ⟨Tryz.underlying26, .string ⟨#[]⟩, by kernel_rfl, rfl, by decide⟩
end Go.Proofs.YtfedkhicckgjaaaGreatDoor
