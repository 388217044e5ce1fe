/- Spans within spans in memory, and what they say. -/
import Derived.Test.YtohinfefidahlaaDoorMem
import Derived.Test.YtohinfefidahlaaDoorBld
namespace Go.Proofs.YtohinfefidahlaaDoor
open Go.RowKit
set_option linter.unusedVariables false

/-- a span, and where the slice of those within it leads -/
inductive Sp where
  | mk (kind : Nat) (text sub see : Bytes) (ka : Option Addr) (kc : Nat) (kids : List Sp)
namespace Sp
def kind : Sp → Nat | mk k _ _ _ _ _ _ => k
def text : Sp → Bytes | mk _ t _ _ _ _ _ => t
def sub : Sp → Bytes | mk _ _ s _ _ _ _ => s
def see : Sp → Bytes | mk _ _ _ s _ _ _ => s
def ka : Sp → Option Addr | mk _ _ _ _ a _ _ => a
def kc : Sp → Nat | mk _ _ _ _ _ c _ => c
def kids : Sp → List Sp | mk _ _ _ _ _ _ l => l
end Sp
def encSp (x : Sp) : List Value := [.int .u8 x.kind, .string ⟨x.text.toArray⟩, .string ⟨x.sub.toArray⟩, .string ⟨x.see.toArray⟩, .slice x.ka x.kids.length x.kc]
theorem encSp_ok : Enc 5 encSp := ⟨fun _ => rfl, fun x u hu => by simp [encSp] at hu; rcases hu with rfl | rfl | rfl | rfl | rfl <;> rfl⟩
/-- the spans within a span lie where it says, and so on -/
inductive SpIn (w : World) : Sp → Prop
  | mk {k t sb se ka kc kids} : At w 5 encSp ka kids → (∀ x ∈ kids, SpIn w x) → SpIn w (.mk k t sb se ka kc kids)
theorem SpIn.keep {w w' : World} (hb : Below w.heap.size w w') {x : Sp} (h : SpIn w x) : SpIn w' x := by
  induction h with
  | mk hA _ ih => exact .mk (hA.below hb) ih
/-- a row of spans -/
def SpsAt (w : World) (a : Option Addr) (l : List Sp) : Prop := At w 5 encSp a l ∧ ∀ x ∈ l, SpIn w x
theorem SpsAt.keep {w w' : World} (hb : Below w.heap.size w w') {a : Option Addr} {l : List Sp} (h : SpsAt w a l) : SpsAt w' a l := ⟨h.1.below hb, fun x hx => (h.2 x hx).keep hb⟩
theorem SpIn.kidsAt {w : World} {x : Sp} (h : SpIn w x) : SpsAt w x.ka x.kids := by
  cases h with
  | mk hA hk => exact ⟨hA, hk⟩
theorem SpsAt.nil (w : World) (a : Option Addr) : SpsAt w a [] := ⟨At.nil _ _ _ _, fun x hx => absurd hx (List.not_mem_nil)⟩

/-- no row of spans is beyond an index -/
inductive SpSmall : Sp → Prop
  | mk {k t sb se ka kc kids} : List.length kids ≤ 140737488351232 → (∀ x ∈ kids, SpSmall x) → SpSmall (.mk k t sb se ka kc kids)
def SpLen (l : List Sp) : Prop := l.length ≤ 140737488351232 ∧ ∀ x ∈ l, SpSmall x
theorem SpLen.kids {l : List Sp} (h : SpLen l) {x : Sp} (hx : x ∈ l) : SpLen x.kids := by
  cases h.2 x hx with
  | mk h1 h2 => exact ⟨h1, h2⟩

mutual
/-- what a span says -/
def sayS : Sp → Bytes
  | .mk k t _ _ _ _ kids => if k = 0 ∨ k = 3 ∨ k = 4 ∨ k = 5 then t else if k = 1 ∨ k = 2 then sayL kids else []
def sayL : List Sp → Bytes
  | [] => []
  | x :: l => sayS x ++ sayL l
end
mutual
def deepS : Sp → Nat
  | .mk _ _ _ _ _ _ kids => deepL kids + 1
def deepL : List Sp → Nat
  | [] => 0
  | x :: l => max (deepS x) (deepL l)
end
theorem deepL_mem : ∀ {l : List Sp} {x : Sp}, x ∈ l → deepS x ≤ deepL l
  | y :: l, x, h => by
    rw [deepL]
    rcases List.mem_cons.1 h with rfl | h
    · omega
    · have := deepL_mem h; omega
theorem deepS_kids (x : Sp) : deepS x = deepL x.kids + 1 := by cases x; rw [deepS]; rfl
theorem sayS_eq (x : Sp) : sayS x = if x.kind = 0 ∨ x.kind = 3 ∨ x.kind = 4 ∨ x.kind = 5 then x.text else if x.kind = 1 ∨ x.kind = 2 then sayL x.kids else [] := by cases x; rw [sayS]; rfl
theorem sayL_append : ∀ (a b : List Sp), sayL (a ++ b) = sayL a ++ sayL b
  | [], b => by rw [List.nil_append, show sayL [] = [] from by rw [sayL], List.nil_append]
  | x :: a, b => by rw [List.cons_append, sayL, sayL, sayL_append a b, List.append_assoc]
theorem sayL_one (x : Sp) : sayL [x] = sayS x := by rw [sayL, sayL, List.append_nil]
theorem sayL_take_succ {l : List Sp} {k : Nat} (h : k < l.length) : sayL (l.take (k + 1)) = sayL (l.take k) ++ sayS l[k] := by
  rw [List.take_succ_eq_append_getElem h, sayL_append, sayL_one]
theorem sayL_take_le {l : List Sp} (k : Nat) : (sayL (l.take k)).length ≤ (sayL l).length := by
  have h : l = l.take k ++ l.drop k := (List.take_append_drop k l).symm
  have := congrArg (fun l => (sayL l).length) h
  simp only [sayL_append, List.length_append] at this
  omega

theorem deep_lt {l : List Sp} {k : Nat} (h : k < l.length) : deepL l[k].kids < deepL l := by
  have h1 := deepL_mem (List.getElem_mem h)
  rw [deepS_kids] at h1
  omega
def SayGives (B b : Nat) (s : Bytes) (l : List Sp) (w : World) (e : Ending) (w' : World) : Prop := e = .returned (.tuple #[]) ∧ Bld B b (s ++ sayL l) w' ∧ Below B w w'
set_option maxHeartbeats 8000000 in
set_option maxRecDepth 100000 in
theorem say_any (n : Nat) : ∀ (l : List Sp), deepL l ≤ n → ∀ (B b : Nat) (s : Bytes) (a : Option Addr) (c : Nat) (w0 w : World), w0.heap.size = B → Below B w0 w → SpsAt w0 a l → SpLen l → Bld B b s w → s.length + (sayL l).length ≤ 100000000000 →
    Calls Tryd.prog 26 #[.pointer (some ⟨b, 0, none⟩), .slice a l.length c] w (SayGives B b s l w) := by
  induction n using Nat.strongRecOn with
  | _ n ih =>
    intro l hd B b s a c w0 w hB0 hBw hS hL hb hlen
    have hl := hL.1
    have HLL := Lib.hid hL
    clear hL
    have HS := Lib.hid hS
    have HB := Lib.hid hb
    have HW := Lib.hid hBw
    have HIH := Lib.hid ih
    have hbs : B ≤ w.heap.size := by have := hBw.size; omega
    clear hS hb hBw ih
    go_enter Tryd.func26, Tryd.ntmps26
    go_wp2
    go_loopw [8] (fun v8 wr => ∃ k : Nat, k ≤ l.length ∧ v8 = .int .i64 k ∧ Hid (Bld B b (s ++ sayL (l.take k)) wr) ∧ Hid (Below B w wr)) (fun v8 _ => l.length - (intOf v8).toNat)
    case atStart => exact ⟨0, by omega, rfl, by rw [List.take_zero, sayL, List.append_nil]; exact HB.out, Below.refl _ _⟩
    case round =>
      obtain ⟨k, hk, rfl, HBk, HBr⟩ := hrel
      by_cases hlt : k < l.length
      · have hbr : Below w0.heap.size w0 wr := by rw [hB0]; exact HW.out.trans HBr.out
        obtain ⟨bb, off, ha, hbl, hc⟩ := (HS.out.1.below hbr).elem hlt
        subst ha
        have HKL := Lib.hid (HLL.out.kids (List.getElem_mem hlt))
        have HKA := Lib.hid (HS.out.2 _ (List.getElem_mem hlt)).kidsAt
        have HST := Lib.hid (sayL_take_succ hlt)
        have HLE := Lib.hid (sayL_take_le (l := l) (k + 1))
        have HDL := Lib.hid (deep_lt hlt)
        generalize l[k] = x at *
        have HSX := Lib.hid (sayS_eq x)
        have d0 := hc 0 (.int .u8 x.kind) rfl
        have d1 := hc 1 (.string ⟨x.text.toArray⟩) rfl
        have d2 := hc 2 (.string ⟨x.sub.toArray⟩) rfl
        have d3 := hc 3 (.string ⟨x.see.toArray⟩) rfl
        have d4 := hc 4 (.slice x.ka x.kids.length x.kc) rfl
        rw [Nat.add_zero] at d0
        have hwbs : B ≤ wr.heap.size := by have := HBr.out.size; omega
        clear hc
        have hlenx : (sayL (l.take k)).length + (sayS x).length ≤ (sayL l).length := by have h1 := HLE.out; rw [HST.out, List.length_append] at h1; exact h1
        obtain hk0 | hk0 | hk0 | hk0 | hk1 | hk1 | hno : x.kind = 0 ∨ x.kind = 3 ∨ x.kind = 4 ∨ x.kind = 5 ∨ x.kind = 1 ∨ x.kind = 2 ∨ (x.kind ≠ 0 ∧ x.kind ≠ 3 ∧ x.kind ≠ 4 ∧ x.kind ≠ 5 ∧ x.kind ≠ 1 ∧ x.kind ≠ 2) := by omega
        · have hsx : sayS x = x.text := by rw [HSX.out, if_pos (by omega)]
          rw [hk0] at d0
          have HSS : Hid (s ++ sayL (l.take (k + 1)) = s ++ sayL (l.take k) ++ x.text) := by show _ = _; rw [HST.out, hsx, List.append_assoc]
          rw [hsx] at hlenx
          clear hsx hk0
          go_wp2_with (go_at_call 40; refine (writeString_b B b _ x.text _ (HBk.out.alloc _) (by simp; omega) (by simp; omega)).mono ?_; rintro e w3 ⟨rfl, hB3, hb3, _⟩; have HB3 := Lib.hid hB3; have HBr3 := Lib.hid ((HBr.out.alloc hwbs _).trans hb3); clear hB3 hb3)
          go_roundw
          case rel => exact ⟨k + 1, by omega, by go_num, by rw [HSS.out]; exact HB3.out, HBr3.out⟩
          case measure => simp [intOf]; omega
        · have hsx : sayS x = x.text := by rw [HSX.out, if_pos (by omega)]
          rw [hk0] at d0
          have HSS : Hid (s ++ sayL (l.take (k + 1)) = s ++ sayL (l.take k) ++ x.text) := by show _ = _; rw [HST.out, hsx, List.append_assoc]
          rw [hsx] at hlenx
          clear hsx hk0
          go_wp2_with (go_at_call 40; refine (writeString_b B b _ x.text _ (HBk.out.alloc _) (by simp; omega) (by simp; omega)).mono ?_; rintro e w3 ⟨rfl, hB3, hb3, _⟩; have HB3 := Lib.hid hB3; have HBr3 := Lib.hid ((HBr.out.alloc hwbs _).trans hb3); clear hB3 hb3)
          go_roundw
          case rel => exact ⟨k + 1, by omega, by go_num, by rw [HSS.out]; exact HB3.out, HBr3.out⟩
          case measure => simp [intOf]; omega
        · have hsx : sayS x = x.text := by rw [HSX.out, if_pos (by omega)]
          rw [hk0] at d0
          have HSS : Hid (s ++ sayL (l.take (k + 1)) = s ++ sayL (l.take k) ++ x.text) := by show _ = _; rw [HST.out, hsx, List.append_assoc]
          rw [hsx] at hlenx
          clear hsx hk0
          go_wp2_with (go_at_call 40; refine (writeString_b B b _ x.text _ (HBk.out.alloc _) (by simp; omega) (by simp; omega)).mono ?_; rintro e w3 ⟨rfl, hB3, hb3, _⟩; have HB3 := Lib.hid hB3; have HBr3 := Lib.hid ((HBr.out.alloc hwbs _).trans hb3); clear hB3 hb3)
          go_roundw
          case rel => exact ⟨k + 1, by omega, by go_num, by rw [HSS.out]; exact HB3.out, HBr3.out⟩
          case measure => simp [intOf]; omega
        · have hsx : sayS x = x.text := by rw [HSX.out, if_pos (by omega)]
          rw [hk0] at d0
          have HSS : Hid (s ++ sayL (l.take (k + 1)) = s ++ sayL (l.take k) ++ x.text) := by show _ = _; rw [HST.out, hsx, List.append_assoc]
          rw [hsx] at hlenx
          clear hsx hk0
          go_wp2_with (go_at_call 40; refine (writeString_b B b _ x.text _ (HBk.out.alloc _) (by simp; omega) (by simp; omega)).mono ?_; rintro e w3 ⟨rfl, hB3, hb3, _⟩; have HB3 := Lib.hid hB3; have HBr3 := Lib.hid ((HBr.out.alloc hwbs _).trans hb3); clear hB3 hb3)
          go_roundw
          case rel => exact ⟨k + 1, by omega, by go_num, by rw [HSS.out]; exact HB3.out, HBr3.out⟩
          case measure => simp [intOf]; omega
        · have hsx : sayS x = sayL x.kids := by rw [HSX.out, if_neg (by omega), if_pos (by omega)]
          rw [hk1] at d0
          have HSS : Hid (s ++ sayL (l.take (k + 1)) = s ++ sayL (l.take k) ++ sayL x.kids) := by show _ = _; rw [HST.out, hsx, List.append_assoc]
          rw [hsx] at hlenx
          clear hsx hk1
          go_wp2_with (go_at_call 26; refine (HIH.out _ (Nat.lt_of_lt_of_le HDL.out hd) x.kids (Nat.le_refl _) B b _ x.ka x.kc w0 _ hB0 (by rw [← hB0]; exact hbr.alloc hbr.size _) HKA.out HKL.out (HBk.out.alloc _) (by simp; omega)).mono ?_; rintro e w3 ⟨rfl, hB3, hb3⟩; have HB3 := Lib.hid hB3; have HBr3 := Lib.hid ((HBr.out.alloc hwbs _).trans hb3); clear hB3 hb3)
          go_roundw
          case rel => exact ⟨k + 1, by omega, by go_num, by rw [HSS.out]; exact HB3.out, HBr3.out⟩
          case measure => simp [intOf]; omega
        · have hsx : sayS x = sayL x.kids := by rw [HSX.out, if_neg (by omega), if_pos (by omega)]
          rw [hk1] at d0
          have HSS : Hid (s ++ sayL (l.take (k + 1)) = s ++ sayL (l.take k) ++ sayL x.kids) := by show _ = _; rw [HST.out, hsx, List.append_assoc]
          rw [hsx] at hlenx
          clear hsx hk1
          go_wp2_with (go_at_call 26; refine (HIH.out _ (Nat.lt_of_lt_of_le HDL.out hd) x.kids (Nat.le_refl _) B b _ x.ka x.kc w0 _ hB0 (by rw [← hB0]; exact hbr.alloc hbr.size _) HKA.out HKL.out (HBk.out.alloc _) (by simp; omega)).mono ?_; rintro e w3 ⟨rfl, hB3, hb3⟩; have HB3 := Lib.hid hB3; have HBr3 := Lib.hid ((HBr.out.alloc hwbs _).trans hb3); clear hB3 hb3)
          go_roundw
          case rel => exact ⟨k + 1, by omega, by go_num, by rw [HSS.out]; exact HB3.out, HBr3.out⟩
          case measure => simp [intOf]; omega
        · obtain ⟨n0, n3, n4, n5, n1, n2⟩ := hno
          have hsx : sayS x = [] := by rw [HSX.out, if_neg (by omega), if_neg (by omega)]
          have HSS : Hid (s ++ sayL (l.take (k + 1)) = s ++ sayL (l.take k)) := by show _ = _; rw [HST.out, hsx, List.append_nil]
          clear hsx
          have m0 : ((x.kind : Int) == 0) = false := beq_eq_false_iff_ne.2 (by omega)
          have m1 : ((x.kind : Int) == 1) = false := beq_eq_false_iff_ne.2 (by omega)
          have m2 : ((x.kind : Int) == 2) = false := beq_eq_false_iff_ne.2 (by omega)
          have m3 : ((x.kind : Int) == 3) = false := beq_eq_false_iff_ne.2 (by omega)
          have m4 : ((x.kind : Int) == 4) = false := beq_eq_false_iff_ne.2 (by omega)
          have m5 : ((x.kind : Int) == 5) = false := beq_eq_false_iff_ne.2 (by omega)
          clear n0 n1 n2 n3 n4 n5
          go_wp2
          go_roundw
          case rel => exact ⟨k + 1, by omega, by go_num, by rw [HSS.out]; exact HBk.out.alloc _, HBr.out.alloc hwbs _⟩
          case measure => simp [intOf]; omega
      · have hE : l.take k = l := List.take_of_length_le (by omega)
        rw [hE] at HBk
        go_wp2
        go_end0
        exact ⟨rfl, HBk.out, HBr.out⟩

set_option maxHeartbeats 2000000 in
set_option maxRecDepth 100000 in
theorem splain_any (l : List Sp) (a : Option Addr) (c : Nat) (w : World) (hS : SpsAt w a l) (hL : SpLen l) (hlen : (sayL l).length ≤ 1000000000) :
    Calls Tryd.prog 17 #[.slice a l.length c] w fun e w' => e = .returned (.string ⟨(sayL l).toArray⟩) ∧ Below w.heap.size w w' := by
  have HS := Lib.hid hS
  have HL := Lib.hid hL
  have hb0 := (Below.refl w.heap.size w).alloc (Nat.le_refl _) (.cells #[.pointer none, .slice none 0 0] 80)
  have HF := Lib.hid (Bld.fresh w)
  clear hS hL
  go_enter Tryd.func17, Tryd.ntmps17
  go_wp2_with (first
    | (go_at_call 26; refine (say_any _ l (Nat.le_refl _) w.heap.size w.heap.size [] a c w _ rfl hb0 HS.out HL.out HF.out (by simp; omega)).mono ?_; rintro e w1 ⟨rfl, hB1, hb1⟩; have HB1 := Lib.hid hB1; have HBb := Lib.hid (hb0.trans hb1); clear hB1 hb1)
    | (go_at_call 27; refine (string_b w.heap.size w.heap.size _ _ HB1.out HBb.out.size).mono ?_; rw [List.nil_append]; rintro e w2 ⟨rfl, _, hb2, _⟩; have HBc := Lib.hid (HBb.out.trans hb2); clear hb2))
  go_ret
  exact ⟨rfl, HBc.out⟩
end Go.Proofs.YtohinfefidahlaaDoor
