/- The frame of a card of the second form: a law that returns true where what it reads is of bulk at most 1048576, and the tables read as they were laid. -/
import Derived.Test.YtohinfefidahlaaDoorFrameX
import Derived.Deep.DeepHandedRow
namespace Go.Proofs.YtohinfefidahlaaDoor
open Go.ChangeShapes Go.WideShapes Go.ChangeAt Go.RowKit

/-- what a law's walk shows, in the second form -/
def WalksU (C : Checked) (f : FuncId) (fn : Func) (laid : List (String × DataW Unit)) : Prop :=
  ∀ (H : Type) (enc : TypeId × Value → H) (W : World) (base : Nat) (args : Array Value) (ds : List (DataW H)) (ps : List MemPlace),
    (∀ (j : Nat) t v, fn.params[j]? = some t → args[j]? = some v → Value.okWide C.prog W .any base t v) →
    DataW.TrodAll enc C.prog W 0 (fun _ => true) true fn.params.toList args.toList ds ps →
    (DataW.weightsEach C.prog fn.params.toList ds).all (· ≤ reachBytes) = true → Rows.uptoBulkAll ds ≤ 1048576 → laidMetH C.prog laid W →
    Calls C.prog f args W fun e W' => e = .returned (.bool true) ∧ Below W.heap.size W W'

set_option maxRecDepth 100000 in
theorem card_liftU {f : FuncId} {fn : Func} {s : ChangeSpec} {H : Type} {enc : TypeId × Value → H} {os : Os} {F : Stop.Interp} (started : os.Started) {conds : List PathCond}
    (hvars : s.vars = []) (hfn : Tryd.prog.funcs[f]? = some fn) (noInit : Tryd.checked.prog.inits.idxOf? f = none)
    (hres : fn.resultTypes = #[4]) (hparams : ∀ t ∈ fn.params.toList, Tryd.prog.readableRec t = true ∧ t < Tryd.prog.types.size)
    (hspec : ∀ ds : List (DataW H), ds.length = fn.params.size → s.fn H ds = { results := [.lit (.bool true)], args := ds })
    (laid : List (String × DataW Unit))
    (witness : ∃ (w : World) (tape : Tape) (i : Input), w.os = os ∧ (w.forCall tape i).Shaped Tryd.checked.prog ∧ i.vars = [] ∧ Input.okWide Tryd.checked.prog (w.forCall tape i) .any w.heap.size f i ∧
      (Rows.OpenSpec.upto s).preRow enc Tryd.checked.prog fn conds false laid (w.forCall tape i).memory i.args ∧ Assume.holds {} Tryd.checked.prog (lone (Frame.enter Tryd.checked.prog f i.args .normal) [] (w.forCall tape i)))
    (walk : WalksU Tryd.checked f fn laid) :
    ReturnsInHanded {} Tryd.checked os f .any ((Rows.OpenSpec.upto s).preRow enc Tryd.checked.prog fn conds false laid) (((Rows.OpenSpec.upto s).at F).post enc Tryd.checked.prog fn false true false false) := by
  refine returnsInHanded_of_row (C := Tryd.checked) (s := Rows.OpenSpec.upto s) own started noInit hfn witness ?_
  intro W base args ds gs before hval hW _ hk hsz hx _ _
  have hW' := hW
  obtain ⟨p, q, hA, hV, rfl, hfz, hnd⟩ := hW
  have hve : (Rows.OpenSpec.upto s).vars = [] := hvars
  rw [hve] at hV
  obtain ⟨rfl, rfl⟩ := trodVars_none hV
  have hlen := trodAll_len _ _ _ _ hA
  have hvt : s.plain.varTypes Tryd.checked.prog = [] := by simp [DataSpec.varTypes, ChangeSpec.plain, hvars]
  have hsz' : (DataW.weightsEach Tryd.checked.prog (fn.params.toList ++ s.plain.varTypes Tryd.checked.prog) (ds ++ [])).all (· ≤ reachBytes) = true := hsz
  rw [hvt, List.append_nil, List.append_nil] at hsz'
  have hb : Rows.uptoSmall H (ds ++ []) = true := hk Rows.uptoSmall rfl
  rw [List.append_nil] at hb
  refine (walk H enc W base args ds p hval hA hsz' (of_decide_eq_true hb) hx).mono fun e W' ⟨he, bel⟩ => ?_
  subst he
  have hs := hspec ds (by simpa using hlen.1)
  refine ⟨_, rfl, ds, [], p ++ [], [], p, [], hW', ?_, ?_, ?_, bel.frame _, fun h => by cases h⟩
  · have e : ((Rows.OpenSpec.upto s).at F).fn H (ds ++ []) = { results := [.lit (.bool true)], args := ds } := by
      rw [List.append_nil]; exact hs
    rw [e, hres]
    exact trodAll_mk1 (shut_bool Tryd.underlying4 _)
  · have e : ((Rows.OpenSpec.upto s).at F).fn H (ds ++ []) = { results := [.lit (.bool true)], args := ds } := by
      rw [List.append_nil]; exact hs
    rw [e]
    exact trodAll_below laidOut bel _ _ _ _ hparams hA
  · have e : ((Rows.OpenSpec.upto s).at F).fn H (ds ++ []) = { results := [.lit (.bool true)], args := ds } := by
      rw [List.append_nil]; exact hs
    have e2 : ((Rows.OpenSpec.upto s).at F).vars = [] := hvars
    rw [e, e2]
    rfl
end Go.Proofs.YtohinfefidahlaaDoor
