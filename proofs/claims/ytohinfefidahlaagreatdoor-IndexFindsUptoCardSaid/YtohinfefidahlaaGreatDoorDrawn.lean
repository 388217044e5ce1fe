/- The count of draws never falls: of one run of an operation; a run of what was there. -/
import Derived.Test.YtohinfefidahlaaGreatDoorJoA
import Derived.OwnWalk
import Derived.RunT
import Derived.Calls
namespace Go.Proofs.YtohinfefidahlaaGreatDoor
open Go.RowKit
set_option linter.unusedVariables false

def Result.dr {α : Type} (n : Nat) : Result α → Prop
  | .ok _ w => n ≤ w.drawn
  | .halt _ w => n ≤ w.drawn
theorem Result.dr_mono {α : Type} {m n : Nat} (h : m ≤ n) : ∀ {r : Result α}, Result.dr n r → Result.dr m r
  | .ok _ _, hr => Nat.le_trans h hr
  | .halt _ _, hr => Nat.le_trans h hr
theorem ask_drawn {α : Type} : ∀ (k : Ask α) (w : World), w.drawn ≤ (w.ask k).2.drawn := by
  intro k
  induction k with
  | done a => intro w; exact Nat.le_refl _
  | ask what range k ih =>
    intro w
    unfold World.ask
    dsimp only
    split
    · exact ih _ _
    · exact Nat.le_trans (Nat.le_succ _) (ih _ { w with drawn := w.drawn + 1 })
theorem sys_drawn (w : World) (c : Sys) : w.drawn ≤ (w.sys c).2.drawn := by
  have h := ask_drawn (Kernel.perform c w.os) w
  unfold World.sys
  revert h
  split
  · intro _; exact Nat.le_refl _
  · rename_i he
    rw [he]
    intro h; exact h
theorem freeze_drawn (w : World) (a : Addr) (n : Nat) : (w.freeze a n).drawn = w.drawn := by
  unfold World.freeze; split <;> rfl
/-- a store through a view leaves the count of draws -/
def FarOk (P : Program) : Prop := ∀ (w : World) (a : Addr) (v : Value) (b : Bool) (w' : World) (l : List Addr), w.farStore P a v b = .ok (w', l) → w.drawn ≤ w'.drawn
theorem farOk (P : Program) : FarOk P := by
  intro w a v b w' l h
  unfold World.farStore at h
  split at h
  · split at h
    · rename_i he
      cases h
      unfold World.viewStore at he
      simp only [bind, Except.bind, pure, Except.pure] at he
      repeat' split at he
      all_goals first
        | (cases he; done)
        | (injection he with he; injection he with h1 h2; rw [← h1]; exact Nat.le_refl _)
    · cases h
  · cases h
theorem run_dr (P : Program) {α : Type} : ∀ (s : Sem α) (w : World), Result.dr w.drawn (s.run P w) := by
  intro s
  induction s with
  | pure a => intro w; exact Nat.le_refl _
  | load m a k ih =>
    intro w
    unfold Sem.run
    split
    · exact ih _ _
    · split
      · exact ih _ _
      · exact Nat.le_refl _
  | store m a v k ih =>
    intro w
    have gen : Result.dr w.drawn (match w.cell? a with
      | some _ => if w.frozen? a then Result.halt (.unsupported (.unsafePointer "a write to bytes that a string shares")) w else k.run P (w.setCell a v)
      | none => match w.farStore P a v (m == .atomic) with
        | .ok (w, _) => k.run P w
        | .error h => Result.halt h w) := by
      split
      · split
        · exact Nat.le_refl _
        · exact ih (w.setCell a v)
      · split
        · rename_i hh
          exact Result.dr_mono (farOk P _ _ _ _ _ _ hh) (ih _)
        · exact Nat.le_refl _
    cases v
    all_goals
      unfold Sem.run
      first
        | exact gen
        | exact Nat.le_refl _
  | new o k ih => intro w; unfold Sem.run; exact ih _ { w with heap := w.heap.push o }
  | shape r k ih => intro w; unfold Sem.run; exact ih _ _
  | freeze a n k ih => intro w; unfold Sem.run; exact Result.dr_mono (Nat.le_of_eq (freeze_drawn w a n).symm) (ih _)
  | frozen a k ih => intro w; unfold Sem.run; exact ih _ _
  | getObj r k ih =>
    intro w
    unfold Sem.run
    split
    · exact Nat.le_refl _
    · exact ih _ _
    · exact Nat.le_refl _
  | setObj r o k ih =>
    intro w
    unfold Sem.run
    split
    · exact Nat.le_refl _
    · exact ih { w with heap := w.heap.setIfInBounds r o }
    · exact Nat.le_refl _
  | choose q k ih =>
    intro w
    unfold Sem.run
    split
    · exact ih _ _
    · exact Result.dr_mono (Nat.le_succ _) (ih _ { w with drawn := w.drawn + 1 })
  | sys c k ih => intro w; unfold Sem.run; exact Result.dr_mono (sys_drawn w c) (ih _ _)
  | program k ih => intro w; unfold Sem.run; exact ih _ _
  | mark m k ih => intro w; unfold Sem.run; exact ih _
  | halt h => intro w; unfold Sem.run; exact Nat.le_refl _
theorem run_drawn {P : Program} {α : Type} {s : Sem α} {w w' : World} {x : α} (h : s.run P w = .ok x w') : w.drawn ≤ w'.drawn := by
  have := run_dr P s w
  rw [h] at this; exact this
theorem runT_dr (P : Program) {α : Type} (s : Sem α) (w : World) (es : Array Event) : Result.dr w.drawn (s.runT P w es).1 := by
  rw [Sem.runT_fst]; exact run_dr P s w
theorem run_eq_dr {P : Program} {α : Type} {s : Sem α} {w : World} {r : Result α} {n : Nat} (hs : s.run P w = r) (h : n ≤ w.drawn) : Result.dr n r := by
  rw [← hs]; exact Result.dr_mono h (run_dr P s w)
theorem runT_eq_dr {P : Program} {α : Type} {s : Sem α} {w : World} {es es' : Array Event} {r : Result α} {n : Nat} (hs : s.runT P w es = (r, es')) (h : n ≤ w.drawn) : Result.dr n r := by
  have hz := Result.dr_mono h (runT_dr P s w es)
  rw [hs] at hz
  exact hz
theorem runT1_dr {P : Program} {α : Type} {s : Sem α} {w : World} {es : Array Event} {r : Result α} {n : Nat} (hs : (s.runT P w es).1 = r) (h : n ≤ w.drawn) : Result.dr n r := by
  rw [← hs]; exact Result.dr_mono h (runT_dr P s w es)

/-! ### one step of a goroutine -/
def GStep.dr (n : Nat) : GStep → Prop
  | .go _ w _ => n ≤ w.drawn
  | .comm _ _ _ _ w _ => n ≤ w.drawn
  | .spawn _ _ w _ => n ≤ w.drawn
  | .count _ w _ => n ≤ w.drawn
  | .timer _ _ w _ => n ≤ w.drawn
  | .alone _ _ w _ => n ≤ w.drawn
  | .newcoro _ _ _ w _ => n ≤ w.drawn
  | .coroswitch _ _ _ w _ => n ≤ w.drawn
  | .collect _ w _ => n ≤ w.drawn
  | .watch _ w _ => n ≤ w.drawn
  | .ended _ _ _ => True
theorem ite_dr {n : Nat} {c : Prop} [Decidable c] {a b : GStep} (ha : GStep.dr n a) (hb : GStep.dr n b) : GStep.dr n (if c then a else b) := by split <;> assumption
theorem elim_dr {n : Nat} {α : Type} {o : Option α} {a : GStep} {f : α → GStep} (ha : GStep.dr n a) (hf : ∀ t, GStep.dr n (f t)) : GStep.dr n (o.elim a f) := by cases o with
  | none => exact ha
  | some t => exact hf t
theorem after_dr {n : Nat} {es : Array Event} {g : GStep} (h : GStep.dr n g) : GStep.dr n (g.after es) := by cases g <;> exact h
section
variable {P : Program} {n : Nat} {w : World}
theorem doReturn_dr {main : Bool} {fr : Frame} {callers : List Frame} {dying : Option Dying} {v : Value} (h : n ≤ w.drawn) : GStep.dr n (doReturn P main fr callers dying v w) := by
  unfold doReturn
  repeat' split
  all_goals first | exact h | trivial
theorem dieOf_dr {fr : Frame} {ahead : List ByteArray} {m : String} {whole : Bool} (h : n ≤ w.drawn) : GStep.dr n (dieOf fr ahead m whole w) := h
theorem endThrow_dr {fr : Frame} {m : String} (h : n ≤ w.drawn) : GStep.dr n (endThrow fr m w) := h
theorem endPrinting_dr {fr : Frame} {v : Value} (h : n ≤ w.drawn) : GStep.dr n (endPrinting P fr v w) := by
  unfold endPrinting
  dsimp only
  split
  · exact h
  · trivial
theorem endWith_dr {fd : Nat} {t : ByteArray} {o : Outcome} : GStep.dr n (endWith w fd t o) := by
  unfold endWith
  dsimp only
  repeat' split
  all_goals trivial
theorem endFatal_dr {fr : Frame} {callers : List Frame} {dying : Option Dying} {m : String} (h : n ≤ w.drawn) : GStep.dr n (endFatal P fr callers dying m w) := by
  unfold endFatal
  dsimp only
  split
  · rename_i hh
    exact Nat.le_trans h (run_drawn hh)
  · trivial
  · trivial
theorem early_dr {fr : Frame} {callers : List Frame} {dying : Option Dying} {g : Nat} (h : n ≤ w.drawn) : GStep.dr n (early P fr callers dying g w) := by
  have hn : ∀ w : World, n ≤ w.drawn → GStep.dr n (match w.heap[g]? with
    | some (.pending c elem) => .go { frame := fr, callers, status := .running, dying } { w with heap := w.heap.setIfInBounds g (.cells c elem) }
    | _ => .ended (.stuck "early: the variable does not wait" (fr.pos P)) w) := by
    intro w h
    split
    · exact h
    · trivial
  unfold early
  dsimp only
  repeat' split
  all_goals first | exact h | trivial | (have hz := Nat.le_trans h (run_drawn ‹Sem.run _ _ _ = Result.ok _ _›); exact hz)
theorem callDeferred_dr {fr : Frame} {callers : List Frame} {dying : Option Dying} {d : Deferred} (h : n ≤ w.drawn) : GStep.dr n (callDeferred P fr callers dying d w) := by
  unfold callDeferred
  dsimp only
  refine ite_dr trivial ?_
  have hr2 := Result.dr_mono h (runT_dr P (invoke d.target d.args) w #[])
  refine after_dr ?_
  revert hr2
  generalize ((invoke d.target d.args).runT P w #[]).1 = r
  intro hr2
  rcases r with ⟨x, w2⟩ | ⟨x, w2⟩
  · cases x
    all_goals first | exact hr2 | trivial | (rename_i b _; cases b <;> first | exact hr2 | trivial) | (rename_i b; cases b <;> first | exact hr2 | trivial) | (dsimp only; split <;> exact hr2)
  · cases x
    all_goals first | exact hr2 | trivial | exact endFatal_dr hr2 | exact endThrow_dr hr2
theorem unwind_dr {main : Bool} {fr : Frame} {callers : List Frame} {dying : Option Dying} (h : n ≤ w.drawn) : GStep.dr n (unwind P main fr callers dying w) := by
  unfold unwind
  split
  · rename_i block _ ds _
    have hr2 := Result.dr_mono h (runT_dr P (Instr.takeDeferred block) w #[])
    dsimp only
    refine after_dr ?_
    revert hr2
    generalize ((Instr.takeDeferred block).runT P w #[]).1 = r
    intro hr2
    rcases r with ⟨x, w2⟩ | ⟨x, w2⟩
    · exact hr2
    · trivial
  · exact callDeferred_dr h
  · split
    · trivial
    · refine ite_dr trivial ?_
      split
      · exact h
      · split
        · refine ite_dr h ?_
          split
          · have hz := Nat.le_trans h (run_drawn ‹Sem.run _ _ _ = Result.ok _ _›); exact hz
          · trivial
          · trivial
        · split
          · exact endPrinting_dr h
          · trivial
    · split
      · exact doReturn_dr h
      · rename_i fn _
        have hr2 := Result.dr_mono h (runT_dr P (results fn fr.tmps) w #[])
        dsimp only
        refine after_dr ?_
        revert hr2
        generalize ((results fn fr.tmps).runT P w #[]).1 = r
        intro hr2
        rcases r with ⟨x, w2⟩ | ⟨x, w2⟩
        · exact doReturn_dr hr2
        · cases x <;> trivial
theorem writeOn_dr {fr : Frame} {d : Dying} {f : Fatal} (h : n ≤ w.drawn) : GStep.dr n (writeOn P fr d f w) := by
  unfold writeOn
  dsimp only
  split
  · trivial
  · split
    · have hz := runT_eq_dr ‹Sem.runT _ _ _ _ = _› h; exact hz
    · have hz := runT_eq_dr ‹Sem.runT _ _ _ _ = _› h; exact hz
    · trivial
    · trivial
theorem die_dr {fr : Frame} {d : Dying} (h : n ≤ w.drawn) : GStep.dr n (die P fr d w) := by
  unfold die
  split
  · exact writeOn_dr h
  · split
    · exact ite_dr h endWith_dr
    · dsimp only
      split
      · exact h
      · split
        · have hz := Nat.le_trans h (run_drawn ‹Sem.run _ _ _ = Result.ok _ _›); exact hz
        · trivial
      · rename_i t recv name _
        have hr2 := Result.dr_mono h (runT_dr P (invoke (.fn (.method name) #[]) #[.iface t recv]) w #[])
        refine after_dr ?_
        revert hr2
        generalize ((invoke (.fn (.method name) #[]) #[.iface t recv]).runT P w #[]).1 = r
        intro hr2
        split
        · exact hr2
        · exact hr2
        · trivial
        · exact endPrinting_dr hr2
        · trivial
      · trivial
theorem commRes_dr {listen : Bool} {s : Sem Next} (h : n ≤ w.drawn) : Result.dr n (if listen then s.runT P w #[] else (s.run P w, #[])).1 := by
  cases listen
  · exact Result.dr_mono h (run_dr P s w)
  · exact Result.dr_mono h (runT_dr P s w #[])
theorem apply_dr {listen : Bool} {fr : Frame} {callers : List Frame} {dying : Option Dying} {s : Sem Next} (h : n ≤ w.drawn) : GStep.dr n (stepG.apply P listen fr callers dying s w) := by
  have hr2 := commRes_dr (P := P) (listen := listen) (s := s) h
  unfold stepG.apply
  dsimp only
  revert hr2
  generalize (if listen then s.runT P w #[] else (s.run P w, #[])) = re
  obtain ⟨r, es⟩ := re
  intro hr2
  dsimp only at hr2 ⊢
  refine after_dr ?_
  rcases r with ⟨x, w2⟩ | ⟨x, w2⟩
  · cases x
    all_goals first | exact hr2 | trivial | (dsimp only; split <;> exact hr2) | (dsimp only; refine ite_dr ?_ ?_ <;> exact hr2)
  · cases x
    all_goals first | exact hr2 | trivial | exact endFatal_dr hr2 | exact endThrow_dr hr2 | (rename_i u; cases u <;> first | exact early_dr hr2 | trivial)
theorem oper_dr {listen : Bool} {fr : Frame} {callers : List Frame} {dying : Option Dying} (h : n ≤ w.drawn) : GStep.dr n (stepG.oper P listen fr callers dying w) := by
  unfold stepG.oper
  split
  · trivial
  · split <;> exact apply_dr h
theorem exec_dr {main listen : Bool} {fr : Frame} {callers : List Frame} {dying : Option Dying} (h : n ≤ w.drawn) : GStep.dr n (stepG.exec P main listen fr callers dying w) := by
  unfold stepG.exec
  dsimp only
  split
  all_goals first
    | exact h
    | trivial
    | exact apply_dr h
    | (split <;> first | exact ite_dr h trivial | (refine after_dr ?_; split <;> first | trivial | (have hz := runT1_dr ‹(Sem.runT _ _ _ _).1 = Result.ok _ _› h; exact doReturn_dr hz)))
    | (refine elim_dr ?_ (fun t => h); (split <;> first | exact ite_dr h trivial | (refine after_dr ?_; split <;> first | trivial | (have hz := runT1_dr ‹(Sem.runT _ _ _ _).1 = Result.ok _ _› h; exact doReturn_dr hz))))
    | (split <;> first | exact h | trivial)
    | (refine after_dr ?_; split <;> first | trivial | (have hz := runT1_dr ‹(Sem.runT _ _ _ _).1 = Result.ok _ _› h; first | exact hz | exact apply_dr hz) | (have hz := runT1_dr ‹(Sem.runT _ _ _ _).1 = Result.halt _ _› h; exact hz))
    | exact elim_dr trivial (fun t => apply_dr h)
    | (refine ite_dr h ?_; split <;> first | trivial | (have hz := Nat.le_trans h (run_drawn ‹Sem.run _ _ _ = Result.ok _ _›); exact hz))
    | exact ite_dr (oper_dr h) h
theorem stepG_dr {main listen : Bool} {g : Goroutine} (h : n ≤ w.drawn) : GStep.dr n (stepG P main g w listen) := by
  unfold stepG
  dsimp only
  split
  · exact die_dr h
  · exact exec_dr h
  · exact unwind_dr h
end
/-! ### one step of the machine -/
def Stepped.dr (n : Nat) : Stepped → Prop
  | .next m => n ≤ m.world.drawn
  | .ended _ _ => True
section
variable {P : Program} {n : Nat}
theorem sel_dr {c : Prop} [Decidable c] {a b : Stepped} (ha : Stepped.dr n a) (hb : Stepped.dr n b) : Stepped.dr n (if c then a else b) := by split <;> assumption
theorem sel1_dr {c : Prop} [Decidable c] {a b : Stepped × Array MemOp} (ha : Stepped.dr n a.1) (hb : Stepped.dr n b.1) : Stepped.dr n (if c then a else b).1 := by split <;> assumption
theorem waitingAt_dr {rest : Rest} {cases : Array CommCase} {w w' : World} (h : n ≤ w.drawn) (hw : waitingAt rest cases w = some w') : n ≤ w'.drawn := by
  unfold waitingAt at hw
  split at hw
  · split at hw
    · cases hw; exact h
    · cases hw
  · cases hw; exact h
theorem communicate_dr {rest : Rest} {gs : Array Goroutine} {i : Nat} {g : Goroutine} {cases : Array CommCase} {blocking : Bool} {shape : CommShape} {w : World} (h : n ≤ w.drawn) :
    Stepped.dr n (communicate P rest gs i g cases blocking shape w).1 := by
  unfold communicate
  dsimp only
  refine sel1_dr trivial ?_
  refine sel1_dr ?_ ?_
  · refine sel1_dr ?_ h
    split
    · have hz := waitingAt_dr h ‹_›; exact hz
    · trivial
  · split
    · trivial
    · have hz := Nat.le_trans h (run_drawn ‹Sem.run _ _ _ = Result.ok _ _›)
      split
      · split
        · have hy := run_eq_dr ‹Sem.run P (runtimePanic (.plain "send on closed channel") : Sem Unit) _ = _› hz; exact hy
        · trivial
      · exact hz
      · exact hz
      · split
        · exact hz
        · split
          · have hy := Nat.le_trans hz (run_drawn ‹Sem.run P (choose (.extern "which waiting goroutine is the partner" _)) _ = Result.ok _ _›); exact hy
          · trivial
      · exact hz
      · exact hz
      · trivial
theorem drain_dr {w : World} {c : Nat} (h : n ≤ w.drawn) : n ≤ (drain w c).2.drawn := by
  unfold drain; split <;> exact h
theorem retime_dr {m : Machine} {k : Nat} {t : Timer} {a b : Nat} (h : n ≤ m.world.drawn) : n ≤ (retime m k t a b).2.world.drawn := by
  unfold retime
  dsimp only
  split
  · exact drain_dr h
  · exact h
theorem opened_dr {m m' : Machine} {v : Addr} (h : n ≤ m.world.drawn) (ho : timerOp.opened m v = some m') : n ≤ m'.world.drawn := by
  unfold timerOp.opened at ho
  split at ho
  · split at ho
    · cases ho; exact h
    · cases ho
  · cases ho; exact h
theorem named_dr {m : Machine} {v : Addr} {f : Nat → Timer → Value × Machine} {x : Value} {m' : Machine} (hf : ∀ k t, n ≤ (f k t).2.world.drawn) (ho : timerOp.named m v f = .ok (x, m')) : n ≤ m'.world.drawn := by
  unfold timerOp.named at ho
  split at ho
  · rename_i k _
    have := hf k (m.rest.timers.getD k default)
    injection ho with ho
    rw [ho] at this
    exact this
  · cases ho
theorem timerOp_dr {m m' : Machine} {op : TimerOp} {x : Value} (h : n ≤ m.world.drawn) (ho : timerOp m op = .ok (x, m')) : n ≤ m'.world.drawn := by
  unfold timerOp at ho
  split at ho
  · split at ho
    · cases ho; exact h
    · split at ho
      · split at ho
        · cases ho
        · cases ho; exact h
      · cases ho
  · exact named_dr (fun k t => retime_dr h) ho
  · split at ho
    · exact named_dr (fun k t => retime_dr (opened_dr h ‹_›)) ho
    · cases ho
  · cases ho; exact h
theorem serve_dr {m : Machine} {k : Nat} (h : n ≤ m.world.drawn) : Stepped.dr n (serve P m k) := by
  unfold serve
  split
  · trivial
  · exact h
  · dsimp only
    split
    · trivial
    · exact h
theorem look_dr {gs : Array Goroutine} {rest : Rest} {w : World} (h : n ≤ w.drawn) : Stepped.dr n (look P gs rest w) := by
  unfold look
  split
  · dsimp only
    refine sel_dr trivial ?_
    split
    · trivial
    · split
      · have hz := Nat.le_trans h (run_drawn ‹Sem.run _ _ _ = Result.ok _ _›); exact hz
      · trivial
      · trivial
  · trivial
def Move.dr (n : Nat) : Move → Prop
  | .goroutine m _ => n ≤ m.world.drawn
  | .machine s _ => Stepped.dr n s
theorem selM_dr {c : Prop} [Decidable c] {a b : Move} (ha : Move.dr n a) (hb : Move.dr n b) : Move.dr n (if c then a else b) := by split <;> assumption
theorem askOn_dr {m : Machine} (h : n ≤ m.world.drawn) : Move.dr n (askOn P m) := by
  unfold askOn
  dsimp only
  split
  · trivial
  · have hz := Nat.le_trans h (run_drawn ‹Sem.run _ _ _ = Result.ok _ _›)
    refine selM_dr (serve_dr hz) ?_
    split
    · split
      · exact hz
      · refine selM_dr hz ?_
        split <;> trivial
    · split
      · split
        · trivial
        · have hy := Nat.le_trans hz (run_drawn ‹Sem.run P (choose (.sched _)) _ = Result.ok _ _›)
          refine selM_dr hy ?_
          split
          · trivial
          · have hx := Nat.le_trans hy (run_drawn ‹Sem.run P (choose (.extern "sched.slice" 65536)) _ = Result.ok _ _›)
            exact hx
      · split
        · trivial
        all_goals
          have hy := Nat.le_trans hz (run_drawn ‹Sem.run P (choose (.extern "clock.wait" _)) _ = Result.ok _ _›)
        · split
          · trivial
          · have hy2 := Nat.le_trans hy (run_drawn ‹Sem.run P (choose (.sched _)) _ = Result.ok _ _›)
            refine selM_dr hy2 ?_
            split
            · trivial
            · have hx := Nat.le_trans hy2 (run_drawn ‹Sem.run P (choose (.extern "sched.slice" 65536)) _ = Result.ok _ _›)
              exact hx
        · exact hy
        · split
          · trivial
          · have e1 := run_drawn ‹Sem.run P (choose (.sched _)) _ = Result.ok _ _›
            have hy2 := Nat.le_trans hy e1
            refine selM_dr hy2 ?_
            split
            · trivial
            · have hx := Nat.le_trans hy2 (run_drawn ‹Sem.run P (choose (.extern "sched.slice" 65536)) _ = Result.ok _ _›)
              exact hx
theorem ask_dr {m : Machine} (h : n ≤ m.world.drawn) : Move.dr n (ask P m) := by
  unfold ask
  split
  · split
    · trivial
    · have hz := Nat.le_trans h (run_drawn ‹Sem.run _ _ _ = Result.ok _ _›)
      have hl := look_dr (P := P) (gs := m.gs) (rest := m.rest) hz
      split
      · rename_i he
        rw [he] at hl
        exact askOn_dr hl
      · exact hl
    · have hz := Nat.le_trans h (run_drawn ‹Sem.run _ _ _ = Result.ok _ _›)
      exact askOn_dr hz
  · exact askOn_dr h
theorem move_dr {m : Machine} (h : n ≤ m.world.drawn) : Move.dr n (move P m) := by
  unfold move
  split
  · exact selM_dr h trivial
  · split
    · exact selM_dr h (ask_dr h)
    · exact ask_dr h
theorem runT_step_dr {m : Machine} {i : Nat} {listen : Bool} (h : n ≤ m.world.drawn) : Stepped.dr n (runT P m i listen).1 := by
  have hg := fun g => stepG_dr (P := P) (main := i == 0) (g := g) (listen := listen) h
  unfold runT
  dsimp only
  have hs := hg (m.gs.swapAt! i { (default : Goroutine) with status := .finished }).1
  revert hs
  generalize stepG P (i == 0) (m.gs.swapAt! i { (default : Goroutine) with status := .finished }).1 m.world listen = s
  intro hs
  cases s with
  | ended o w es => trivial
  | comm g cases blocking shape w es => exact communicate_dr hs
  | go g w es => exact hs
  | spawn g child w es => exact hs
  | count g w es => exact sel_dr trivial hs
  | alone g on w es => exact hs
  | collect g w es => exact look_dr hs
  | watch g w es => exact hs
  | newcoro g c d w es => exact hs
  | coroswitch g c exit w es =>
    dsimp only
    split
    · exact hs
    · exact hs
    · trivial
  | timer g op w es =>
    dsimp only
    split
    · have hz := timerOp_dr (m := { world := w, gs := _, rest := m.rest }) hs ‹timerOp _ _ = Except.ok _›; exact hz
    · exact hs
    · trivial
    · trivial
theorem step_dr {m : Machine} (h : n ≤ m.world.drawn) : Stepped.dr n (step P m) := by
  have hm := move_dr (P := P) h
  unfold step stepT
  revert hm
  generalize move P m = mv
  intro hm
  cases mv with
  | goroutine m i => exact runT_step_dr hm
  | machine s ops => exact hm
theorem runN_dr : ∀ (k : Nat) {m : Machine}, n ≤ m.world.drawn → Stepped.dr n (runN P k m)
  | 0, m, h => h
  | k + 1, m, h => by
    have hs := step_dr (P := P) h
    unfold runN
    split
    · rename_i he
      rw [he] at hs
      exact runN_dr k hs
    · exact hs
theorem steps_drawn {m m' : Machine} (h : Steps P m m') : m.world.drawn ≤ m'.world.drawn := by
  obtain ⟨k, hk⟩ := h
  have := runN_dr (P := P) k (Nat.le_refl m.world.drawn)
  rw [hk] at this
  exact this
/-- the count of draws does not fall: of every call that comes back -/
theorem Calls.drawn {P : Program} {f : FuncId} {args : Array Value} {w : World} {R : Ending → World → Prop} (h : Calls P f args w R) : Calls P f args w fun e w' => R e w' ∧ (e ≠ .outgrown → w.drawn ≤ w'.drawn) := by
  intro cs
  obtain ⟨e, w', fr, hR, hC, hf, hl⟩ := h cs
  refine ⟨e, w', fr, ⟨hR, fun hne => ?_⟩, hC, hf, hl⟩
  cases e with
  | returned v => exact steps_drawn (m := lone _ cs w) (m' := lone fr cs w') hC
  | panicked ch => exact steps_drawn (m := lone _ cs w) (m' := lone fr cs w') hC
  | outgrown => exact absurd rfl hne
end
end Go.Proofs.YtohinfefidahlaaGreatDoor
