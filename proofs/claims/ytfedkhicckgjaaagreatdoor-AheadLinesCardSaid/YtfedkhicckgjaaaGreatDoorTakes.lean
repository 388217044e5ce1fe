/- Regions by hand: one operation taken, the frame written out anew. -/
import Derived.Test.YtfedkhicckgjaaaGreatDoorBook
namespace Go.Proofs.YtfedkhicckgjaaaGreatDoor
open Go.RowKit

theorem takeAt {P : Program} {md : Region.Mode} {ops : Array Oper} {Q : Exit → Act → World → Prop} {S : World → Prop} {i : Nat} {oi : Oper} {d : Tmp} {v : Value} {fuel : Nat} {listed : Array Bool} {ts : Array Value} {ds} {w : World} (hi : ops[i]? = some oi) (hd : oi.dst = some d)
    (hs : Region.noSelect ops = true) (hf : Region.free md ops listed i = true) (hr : (Region.ready md ops listed).contains i = true)
    (hQ : ∀ c a w, Q (.panic c) (a.put oi.dst v) w → Q (.panic c) a w) (hy : YieldsIf P ops S oi v (⟨ts, ds⟩ : Act)) (hS : S w)
    (h : wpAnyH P md ops Q S fuel (listed.setIfInBounds i true) (⟨ts.setIfInBounds d v, ds⟩ : Act) w) : wpAnyH P md ops Q S (fuel + 1) listed (⟨ts, ds⟩ : Act) w :=
  wpAnyH_take hi hs hf hr hQ hy hS (by rw [hd]; exact h)
end Go.Proofs.YtfedkhicckgjaaaGreatDoor
