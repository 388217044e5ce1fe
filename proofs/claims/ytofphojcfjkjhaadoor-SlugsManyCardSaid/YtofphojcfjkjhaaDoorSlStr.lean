/- Lists of strings as a list type. -/
import Derived.Test.YtofphojcfjkjhaaDoorMem
import Derived.Laws.CopyOwn
namespace Go.Proofs.YtofphojcfjkjhaaDoor
open Go.RowKit

theorem slstrs : SlTy Tryd.prog 30 9 1 16 := ⟨Tryd.underlying30, .string ⟨#[]⟩, by kernel_rfl, rfl, by decide⟩
end Go.Proofs.YtofphojcfjkjhaaDoor
