/- Copies with a mark behind them, and whether they are left as they were: binderylaw01.Twin.., Left.., Same.. -/
import Derived.Test.YtfedkhicckgjaaaGreatDoorMem
import Derived.Laws.CopyOwn
namespace Go.Proofs.YtfedkhicckgjaaaGreatDoor
open Go.RowKit

theorem slattrs : SlTy Tryz.prog 55 78 2 32 := ⟨Tryz.underlying55, .agg #[.string ⟨#[]⟩, .string ⟨#[]⟩], by kernel_rfl, rfl, by decide⟩
def spareAttrs : Two := ⟨[115, 112, 97, 114, 101], []⟩

theorem At.left {α : Type} {w : World} {sz : Nat} {enc : α → List Value} {a : Option Addr} {l m : List α} (h : At w sz enc a (l ++ m)) : At w sz enc a l := by
  rcases h with h | ⟨b, off, ha, hlt, hr⟩
  · exact .inl (List.append_eq_nil_iff.1 h).1
  · refine .inr ⟨b, off, ha, hlt, fun i x hi j v hj => hr i x ?_ j v hj⟩
    rw [List.getElem?_append_left (List.getElem?_eq_some_iff.1 hi).1]; exact hi

end Go.Proofs.YtfedkhicckgjaaaGreatDoor
