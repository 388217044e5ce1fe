/- Lists of strings as a list type. -/
import Derived.Test.YtohinfefidahlaaDoorMem
import Derived.Laws.CopyOwn
namespace Go.Proofs.YtohinfefidahlaaDoor
open Go.RowKit

theorem slstrs : SlTy Tryd.prog 27 9 1 16 := ⟨Tryd.underlying27, .string ⟨#[]⟩, by kernel_rfl, rfl, by decide⟩
end Go.Proofs.YtohinfefidahlaaDoor
