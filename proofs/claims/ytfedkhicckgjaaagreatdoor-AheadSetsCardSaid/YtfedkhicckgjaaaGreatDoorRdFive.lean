/- ahead's reader: one line of the source that is read now: all roads joined. -/
import Derived.Test.YtfedkhicckgjaaaGreatDoorRdFa
import Derived.Test.YtfedkhicckgjaaaGreatDoorRdFb
import Derived.Test.YtfedkhicckgjaaaGreatDoorRdFc
import Derived.Test.YtfedkhicckgjaaaGreatDoorRdFd
import Derived.Test.YtfedkhicckgjaaaGreatDoorRdFe
import Derived.Test.YtfedkhicckgjaaaGreatDoorRdFf
import Derived.Test.YtfedkhicckgjaaaGreatDoorSetR
namespace Go.Proofs.YtfedkhicckgjaaaGreatDoor
open Go.RowKit
set_option linter.unusedVariables false

theorem word_none {k : Bytes} (h0 : k ≠ [64, 105, 102]) (h1 : k ≠ [64, 101, 108, 115, 101]) (h2 : k ≠ [64, 101, 110, 100]) (h3 : k ≠ [64, 105, 110, 99, 108, 117, 100, 101]) (h4 : k ≠ [64, 115, 101, 116]) (h5 : k ≠ [64, 117, 110, 115, 101, 116]) : mapGet wordsKV k = none := by
  unfold mapGet wordsKV
  have e : ∀ a : Bytes, k ≠ a → (a == k) = false := fun a h => by simpa using fun e : a = k => h e.symm
  simp only [List.find?_cons, e _ h0, e _ h1, e _ h2, e _ h3, e _ h4, e _ h5, List.find?_nil, Option.map_none]

theorem line_word_b (A : Adr) (L : List Two) (r : RS) (V : Vals) (ss : List Op1) (x : Op1) (w : World) (h : Core A L r V (ss ++ [x]) w) (ht : Top A r.top x w) (hss : ss.length ≤ 900) (l : Pl) (hfit : r.fits = true) (hlen : l.text.length ≤ 100000)
    (hL : L.length ≤ 1048576) (rd : Rd) (hrd : ReadsAs A L rd) (hh : Lib.hasPrefix l.text [64] = true) (hix : idxOk l.text = true) (n : Nat) (hn : n < l.text.length) (hbl : blankI l.text = some n) (r2 : RS) (hr2 : r.word rd L l (l.text.take n) (trimB (l.text.drop n)) = some r2) :
    Calls Tryz.prog 164 #[.pointer (some ⟨A.rb, 0, none⟩), .agg #[.string ⟨l.file.toArray⟩, .int .i64 l.no, .string ⟨l.text.toArray⟩]] w (LineGives A L V ss x w r2) := by
  obtain ⟨f1, f2, f3, f4, f5, f6, f7⟩ := fit_parts hfit
  have hrest2 : ((trimB (l.text.drop n)) : Bytes).length ≤ 100000 := by have := trimB_len (l.text.drop n); simp at this; omega
  have hrest : ((trimB (l.text.drop n)) : Bytes).length ≤ 1048576 := by have := trimB_len (l.text.drop n); simp at this; omega
  unfold RS.word at hr2
  by_cases g0 : (l.text.take n) = [64, 105, 102]
  · rw [if_pos g0] at hr2
    cases hr2
    exact line_if_b A L r V ss x w h ht hss l hfit hlen hh hix n hn hbl (by rw [g0]; rfl) _ fun w' h' ht' => begin_any A L r V ss x w' h' ht' hss l _ hrest (by omega) (by omega) (by omega)
  rw [if_neg g0] at hr2
  by_cases g1 : (l.text.take n) = [64, 101, 108, 115, 101]
  · rw [if_pos g1] at hr2
    cases hr2
    exact line_else_b A L r V ss x w h ht hss l hfit hlen hh hix n hn hbl (by rw [g1]; rfl) _ fun w' h' ht' => turn_any A L r V ss x w' h' ht' hss l _ (by omega) (by omega)
  rw [if_neg g1] at hr2
  by_cases g2 : (l.text.take n) = [64, 101, 110, 100]
  · rw [if_pos g2] at hr2
    cases hr2
    exact line_end_b A L r V ss x w h ht hss l hfit hlen hh hix n hn hbl (by rw [g2]; rfl) _ fun w' h' ht' => end_any A L r V ss x w' h' ht' hss l _ (by omega) (by omega)
  rw [if_neg g2] at hr2
  by_cases hf : r.top.force = false
  · rw [if_pos hf] at hr2
    cases hr2
    by_cases g3 : (l.text.take n) = [64, 105, 110, 99, 108, 117, 100, 101]
    · exact line_include_off_b A L r V ss x w h ht hss l hfit hlen hh hix n hn hbl (by rw [g3]; rfl) hf
    by_cases g4 : (l.text.take n) = [64, 115, 101, 116]
    · exact line_set_off_b A L r V ss x w h ht hss l hfit hlen hh hix n hn hbl (by rw [g4]; rfl) hf
    by_cases g5 : (l.text.take n) = [64, 117, 110, 115, 101, 116]
    · exact line_unset_off_b A L r V ss x w h ht hss l hfit hlen hh hix n hn hbl (by rw [g5]; rfl) hf
    exact line_odd_off_b A L r V ss x w h ht hss l hfit hlen hh hix n hn hbl (word_none g0 g1 g2 g3 g4 g5) hf
  rw [if_neg hf] at hr2
  have hf2 : r.top.force = true := by simpa using hf
  by_cases g3 : (l.text.take n) = [64, 105, 110, 99, 108, 117, 100, 101]
  · rw [if_pos g3] at hr2
    exact line_include_b A L r V ss x w h ht hss l hfit hlen hh hix n hn hbl (by rw [g3]; rfl) hf2 _ fun w' h' ht' => include_any A L r V ss x w' h' ht' hss l _ hrest hL (by omega) rd hrd r2 hr2
  rw [if_neg g3] at hr2
  by_cases g4 : (l.text.take n) = [64, 115, 101, 116]
  · rw [if_pos g4, if_pos (show setsToo = true from rfl)] at hr2
    exact line_set_b A L r V ss x w h ht hss l hfit hlen hh hix n hn hbl (by rw [g4]; rfl) hf2 _ fun w' h' ht' => rset_any A L r V ss x w' h' ht' l _ hrest2 (by omega) (by omega) f2 r2 hr2
  rw [if_neg g4] at hr2
  by_cases g5 : (l.text.take n) = [64, 117, 110, 115, 101, 116]
  · rw [if_pos g5, if_pos (show setsToo = true from rfl)] at hr2
    exact line_unset_b A L r V ss x w h ht hss l hfit hlen hh hix n hn hbl (by rw [g5]; rfl) hf2 _ fun w' h' ht' => runset_any A L r V ss x w' h' ht' l _ hrest2 (by omega) r2 hr2
  rw [if_neg g5] at hr2
  cases hr2
  exact line_odd_b A L r V ss x w h ht hss l hfit hlen hh hix n hn hbl (word_none g0 g1 g2 g3 g4 g5) hf2

theorem line_word_n (A : Adr) (L : List Two) (r : RS) (V : Vals) (ss : List Op1) (x : Op1) (w : World) (h : Core A L r V (ss ++ [x]) w) (ht : Top A r.top x w) (hss : ss.length ≤ 900) (l : Pl) (hfit : r.fits = true) (hlen : l.text.length ≤ 100000)
    (hL : L.length ≤ 1048576) (rd : Rd) (hrd : ReadsAs A L rd) (hh : Lib.hasPrefix l.text [64] = true) (hix : idxOk l.text = true) (hbl : blankI l.text = none) (r2 : RS) (hr2 : r.word rd L l l.text [] = some r2) :
    Calls Tryz.prog 164 #[.pointer (some ⟨A.rb, 0, none⟩), .agg #[.string ⟨l.file.toArray⟩, .int .i64 l.no, .string ⟨l.text.toArray⟩]] w (LineGives A L V ss x w r2) := by
  obtain ⟨f1, f2, f3, f4, f5, f6, f7⟩ := fit_parts hfit
  have hrest2 : ([] : Bytes).length ≤ 100000 := by simp
  have hrest : ([] : Bytes).length ≤ 1048576 := by simp
  unfold RS.word at hr2
  by_cases g0 : l.text = [64, 105, 102]
  · rw [if_pos g0] at hr2
    cases hr2
    exact line_if_n A L r V ss x w h ht hss l hfit hlen hh hix hbl (by rw [g0]; rfl) _ fun w' h' ht' => begin_any A L r V ss x w' h' ht' hss l _ hrest (by omega) (by omega) (by omega)
  rw [if_neg g0] at hr2
  by_cases g1 : l.text = [64, 101, 108, 115, 101]
  · rw [if_pos g1] at hr2
    cases hr2
    exact line_else_n A L r V ss x w h ht hss l hfit hlen hh hix hbl (by rw [g1]; rfl) _ fun w' h' ht' => turn_any A L r V ss x w' h' ht' hss l _ (by omega) (by omega)
  rw [if_neg g1] at hr2
  by_cases g2 : l.text = [64, 101, 110, 100]
  · rw [if_pos g2] at hr2
    cases hr2
    exact line_end_n A L r V ss x w h ht hss l hfit hlen hh hix hbl (by rw [g2]; rfl) _ fun w' h' ht' => end_any A L r V ss x w' h' ht' hss l _ (by omega) (by omega)
  rw [if_neg g2] at hr2
  by_cases hf : r.top.force = false
  · rw [if_pos hf] at hr2
    cases hr2
    by_cases g3 : l.text = [64, 105, 110, 99, 108, 117, 100, 101]
    · exact line_include_off_n A L r V ss x w h ht hss l hfit hlen hh hix hbl (by rw [g3]; rfl) hf
    by_cases g4 : l.text = [64, 115, 101, 116]
    · exact line_set_off_n A L r V ss x w h ht hss l hfit hlen hh hix hbl (by rw [g4]; rfl) hf
    by_cases g5 : l.text = [64, 117, 110, 115, 101, 116]
    · exact line_unset_off_n A L r V ss x w h ht hss l hfit hlen hh hix hbl (by rw [g5]; rfl) hf
    exact line_odd_off_n A L r V ss x w h ht hss l hfit hlen hh hix hbl (word_none g0 g1 g2 g3 g4 g5) hf
  rw [if_neg hf] at hr2
  have hf2 : r.top.force = true := by simpa using hf
  by_cases g3 : l.text = [64, 105, 110, 99, 108, 117, 100, 101]
  · rw [if_pos g3] at hr2
    exact line_include_n A L r V ss x w h ht hss l hfit hlen hh hix hbl (by rw [g3]; rfl) hf2 _ fun w' h' ht' => include_any A L r V ss x w' h' ht' hss l _ hrest hL (by omega) rd hrd r2 hr2
  rw [if_neg g3] at hr2
  by_cases g4 : l.text = [64, 115, 101, 116]
  · rw [if_pos g4, if_pos (show setsToo = true from rfl)] at hr2
    exact line_set_n A L r V ss x w h ht hss l hfit hlen hh hix hbl (by rw [g4]; rfl) hf2 _ fun w' h' ht' => rset_any A L r V ss x w' h' ht' l _ hrest2 (by omega) (by omega) f2 r2 hr2
  rw [if_neg g4] at hr2
  by_cases g5 : l.text = [64, 117, 110, 115, 101, 116]
  · rw [if_pos g5, if_pos (show setsToo = true from rfl)] at hr2
    exact line_unset_n A L r V ss x w h ht hss l hfit hlen hh hix hbl (by rw [g5]; rfl) hf2 _ fun w' h' ht' => runset_any A L r V ss x w' h' ht' l _ hrest2 (by omega) r2 hr2
  rw [if_neg g5] at hr2
  cases hr2
  exact line_odd_n A L r V ss x w h ht hss l hfit hlen hh hix hbl (word_none g0 g1 g2 g3 g4 g5) hf2

/-- one line of the source that is read now -/
theorem line_any (A : Adr) (L : List Two) (r : RS) (V : Vals) (ss : List Op1) (x : Op1) (w : World) (h : Core A L r V (ss ++ [x]) w) (ht : Top A r.top x w) (hss : ss.length ≤ 900) (l : Pl)
    (hL : L.length ≤ 1048576) (rd : Rd) (hrd : ReadsAs A L rd) (r2 : RS) (hr2 : r.line rd L l = some r2) :
    Calls Tryz.prog 164 #[.pointer (some ⟨A.rb, 0, none⟩), .agg #[.string ⟨l.file.toArray⟩, .int .i64 l.no, .string ⟨l.text.toArray⟩]] w (LineGives A L V ss x w r2) := by
  unfold RS.line at hr2
  by_cases hc : r.fits = true ∧ l.text.length ≤ 100000
  · rw [if_pos hc] at hr2
    obtain ⟨hfit, hlen⟩ := hc
    by_cases hh : Lib.hasPrefix l.text [64] = true
    · rw [if_pos hh] at hr2
      by_cases hix : idxOk l.text = true
      · rw [if_pos hix] at hr2
        cases hbl : blankI l.text with
        | none =>
          have e1 : wordOf l.text = l.text := by unfold wordOf; rw [hbl]
          have e2 : restOf l.text = [] := by unfold restOf; rw [hbl]
          rw [e1, e2] at hr2
          exact line_word_n A L r V ss x w h ht hss l hfit hlen hL rd hrd hh hix hbl r2 hr2
        | some n =>
          have e1 : wordOf l.text = l.text.take n := by unfold wordOf; rw [hbl]
          have e2 : restOf l.text = trimB (l.text.drop n) := by unfold restOf; rw [hbl]
          rw [e1, e2] at hr2
          exact line_word_b A L r V ss x w h ht hss l hfit hlen hL rd hrd hh hix n (blankI_lt hbl) hbl r2 hr2
      · rw [if_neg hix] at hr2; cases hr2
    · rw [if_neg hh] at hr2
      have hh2 := Bool.eq_false_iff.2 hh
      by_cases hf : r.top.force = true
      · rw [if_pos hf] at hr2
        cases hr2
        by_cases hp : Lib.hasPrefix l.text [92, 64] = true
        · have e : plainOf l.text = l.text.tail := by unfold plainOf; rw [if_pos hp, List.drop_one]
          rw [e]
          exact line_text_true A L r V ss x w h ht hss l hfit hlen hh2 hf hp (by have := fillN_len l.text.tail; simp at this; omega)
        · have e : plainOf l.text = l.text := by unfold plainOf; rw [if_neg hp]
          rw [e]
          exact line_text_false A L r V ss x w h ht hss l hfit hlen hh2 hf (Bool.eq_false_iff.2 hp) (by have := fillN_len l.text; omega)
      · rw [if_neg hf] at hr2
        cases hr2
        exact line_off A L r V ss x w h ht hss l hfit hlen hh2 (Bool.eq_false_iff.2 hf)
  · rw [if_neg hc] at hr2; cases hr2
end Go.Proofs.YtfedkhicckgjaaaGreatDoor
