/- Spans within spans in memory, and what they say. Chapters in memory: their blocks, rows, cells and spans; how great they are, how deep. Stores of several cells into a block that is known whole. No program is named here. -/
import Derived.Test.YtohinfefidahlaaGreatDoorJoA
import Derived.Test.YtohinfefidahlaaGreatDoorBld
import Derived.Test.YtohinfefidahlaaGreatDoorHeld
import Derived.Deep.MidRow
import Derived.Laws.CopyRow
import Derived.Laws.CopyOwn
import Derived.Laws.MakeOwn
namespace Go.Proofs.YtohinfefidahlaaGreatDoor
open Go.RowKit
set_option linter.unusedVariables false

/-- a span, and where the slice of those within it leads -/
inductive Sp where
  | mk (kind : Nat) (text sub see : Bytes) (ka : Option Addr) (kc : Nat) (kids : List Sp)
namespace Sp
def kind : Sp → Nat | mk k _ _ _ _ _ _ => k
def text : Sp → Bytes | mk _ t _ _ _ _ _ => t
def sub : Sp → Bytes | mk _ _ s _ _ _ _ => s
def see : Sp → Bytes | mk _ _ _ s _ _ _ => s
def ka : Sp → Option Addr | mk _ _ _ _ a _ _ => a
def kc : Sp → Nat | mk _ _ _ _ _ c _ => c
def kids : Sp → List Sp | mk _ _ _ _ _ _ l => l
end Sp
def encSp (x : Sp) : List Value := [.int .u8 x.kind, .string ⟨x.text.toArray⟩, .string ⟨x.sub.toArray⟩, .string ⟨x.see.toArray⟩, .slice x.ka x.kids.length x.kc]
theorem encSp_ok : Enc 5 encSp := ⟨fun _ => rfl, fun x u hu => by simp [encSp] at hu; rcases hu with rfl | rfl | rfl | rfl | rfl <;> rfl⟩
/-- the spans within a span lie where it says, and so on -/
inductive SpIn (w : World) : Sp → Prop
  | mk {k t sb se ka kc kids} : At w 5 encSp ka kids → (∀ x ∈ kids, SpIn w x) → SpIn w (.mk k t sb se ka kc kids)
theorem SpIn.keep {w w' : World} (hb : Below w.heap.size w w') {x : Sp} (h : SpIn w x) : SpIn w' x := by
  induction h with
  | mk hA _ ih => exact .mk (hA.below hb) ih
/-- a row of spans -/
def SpsAt (w : World) (a : Option Addr) (l : List Sp) : Prop := At w 5 encSp a l ∧ ∀ x ∈ l, SpIn w x
theorem SpsAt.keep {w w' : World} (hb : Below w.heap.size w w') {a : Option Addr} {l : List Sp} (h : SpsAt w a l) : SpsAt w' a l := ⟨h.1.below hb, fun x hx => (h.2 x hx).keep hb⟩
theorem SpIn.kidsAt {w : World} {x : Sp} (h : SpIn w x) : SpsAt w x.ka x.kids := by
  cases h with
  | mk hA hk => exact ⟨hA, hk⟩
theorem SpsAt.nil (w : World) (a : Option Addr) : SpsAt w a [] := ⟨At.nil _ _ _ _, fun x hx => absurd hx (List.not_mem_nil)⟩

/-- no row of spans is beyond an index -/
inductive SpSmall : Sp → Prop
  | mk {k t sb se ka kc kids} : List.length kids ≤ 140737488351232 → (∀ x ∈ kids, SpSmall x) → SpSmall (.mk k t sb se ka kc kids)
def SpLen (l : List Sp) : Prop := l.length ≤ 140737488351232 ∧ ∀ x ∈ l, SpSmall x
theorem SpLen.kids {l : List Sp} (h : SpLen l) {x : Sp} (hx : x ∈ l) : SpLen x.kids := by
  cases h.2 x hx with
  | mk h1 h2 => exact ⟨h1, h2⟩

mutual
/-- what a span says -/
def sayS : Sp → Bytes
  | .mk k t _ _ _ _ kids => if k = 0 ∨ k = 3 ∨ k = 4 ∨ k = 5 then t else if k = 1 ∨ k = 2 then sayL kids else []
def sayL : List Sp → Bytes
  | [] => []
  | x :: l => sayS x ++ sayL l
end
mutual
def deepS : Sp → Nat
  | .mk _ _ _ _ _ _ kids => deepL kids + 1
def deepL : List Sp → Nat
  | [] => 0
  | x :: l => max (deepS x) (deepL l)
end
theorem deepL_mem : ∀ {l : List Sp} {x : Sp}, x ∈ l → deepS x ≤ deepL l
  | y :: l, x, h => by
    rw [deepL]
    rcases List.mem_cons.1 h with rfl | h
    · omega
    · have := deepL_mem h; omega
theorem deepS_kids (x : Sp) : deepS x = deepL x.kids + 1 := by cases x; rw [deepS]; rfl
theorem sayS_eq (x : Sp) : sayS x = if x.kind = 0 ∨ x.kind = 3 ∨ x.kind = 4 ∨ x.kind = 5 then x.text else if x.kind = 1 ∨ x.kind = 2 then sayL x.kids else [] := by cases x; rw [sayS]; rfl
theorem sayL_append : ∀ (a b : List Sp), sayL (a ++ b) = sayL a ++ sayL b
  | [], b => by rw [List.nil_append, show sayL [] = [] from by rw [sayL], List.nil_append]
  | x :: a, b => by rw [List.cons_append, sayL, sayL, sayL_append a b, List.append_assoc]
theorem sayL_one (x : Sp) : sayL [x] = sayS x := by rw [sayL, sayL, List.append_nil]
theorem sayL_take_succ {l : List Sp} {k : Nat} (h : k < l.length) : sayL (l.take (k + 1)) = sayL (l.take k) ++ sayS l[k] := by
  rw [List.take_succ_eq_append_getElem h, sayL_append, sayL_one]
theorem sayL_take_le {l : List Sp} (k : Nat) : (sayL (l.take k)).length ≤ (sayL l).length := by
  have h : l = l.take k ++ l.drop k := (List.take_append_drop k l).symm
  have := congrArg (fun l => (sayL l).length) h
  simp only [sayL_append, List.length_append] at this
  omega

theorem deep_lt {l : List Sp} {k : Nat} (h : k < l.length) : deepL l[k].kids < deepL l := by
  have h1 := deepL_mem (List.getElem_mem h)
  rw [deepS_kids] at h1
  omega
def SayGives (B b : Nat) (s : Bytes) (l : List Sp) (w : World) (e : Ending) (w' : World) : Prop := e = .returned (.tuple #[]) ∧ Bld B b (s ++ sayL l) w' ∧ Below B w w'
set_option maxHeartbeats 8000000 in
set_option maxRecDepth 100000 in
theorem say_any (n : Nat) : ∀ (l : List Sp), deepL l ≤ n → ∀ (B b : Nat) (s : Bytes) (a : Option Addr) (c : Nat) (w0 w : World), w0.heap.size = B → Below B w0 w → SpsAt w0 a l → SpLen l → Bld B b s w → s.length + (sayL l).length ≤ 100000000000 →
    Calls Tryz.prog 140 #[.pointer (some ⟨b, 0, none⟩), .slice a l.length c] w (SayGives B b s l w) := by
  induction n using Nat.strongRecOn with
  | _ n ih =>
    intro l hd B b s a c w0 w hB0 hBw hS hL hb hlen
    have hl := hL.1
    have HLL := Lib.hid hL
    clear hL
    have HS := Lib.hid hS
    have HB := Lib.hid hb
    have HW := Lib.hid hBw
    have HIH := Lib.hid ih
    have hbs : B ≤ w.heap.size := by have := hBw.size; omega
    clear hS hb hBw ih
    go_enter Tryz.func140, Tryz.ntmps140
    go_wp2
    go_loopw [8] (fun v8 wr => ∃ k : Nat, k ≤ l.length ∧ v8 = .int .i64 k ∧ Hid (Bld B b (s ++ sayL (l.take k)) wr) ∧ Hid (Below B w wr)) (fun v8 _ => l.length - (intOf v8).toNat)
    case atStart => exact ⟨0, by omega, rfl, by rw [List.take_zero, sayL, List.append_nil]; exact HB.out, Below.refl _ _⟩
    case round =>
      obtain ⟨k, hk, rfl, HBk, HBr⟩ := hrel
      by_cases hlt : k < l.length
      · have hbr : Below w0.heap.size w0 wr := by rw [hB0]; exact HW.out.trans HBr.out
        obtain ⟨bb, off, ha, hbl, hc⟩ := (HS.out.1.below hbr).elem hlt
        subst ha
        have HKL := Lib.hid (HLL.out.kids (List.getElem_mem hlt))
        have HKA := Lib.hid (HS.out.2 _ (List.getElem_mem hlt)).kidsAt
        have HST := Lib.hid (sayL_take_succ hlt)
        have HLE := Lib.hid (sayL_take_le (l := l) (k + 1))
        have HDL := Lib.hid (deep_lt hlt)
        generalize l[k] = x at *
        have HSX := Lib.hid (sayS_eq x)
        have d0 := hc 0 (.int .u8 x.kind) rfl
        have d1 := hc 1 (.string ⟨x.text.toArray⟩) rfl
        have d2 := hc 2 (.string ⟨x.sub.toArray⟩) rfl
        have d3 := hc 3 (.string ⟨x.see.toArray⟩) rfl
        have d4 := hc 4 (.slice x.ka x.kids.length x.kc) rfl
        rw [Nat.add_zero] at d0
        have hwbs : B ≤ wr.heap.size := by have := HBr.out.size; omega
        clear hc
        have hlenx : (sayL (l.take k)).length + (sayS x).length ≤ (sayL l).length := by have h1 := HLE.out; rw [HST.out, List.length_append] at h1; exact h1
        obtain hk0 | hk0 | hk0 | hk0 | hk1 | hk1 | hno : x.kind = 0 ∨ x.kind = 3 ∨ x.kind = 4 ∨ x.kind = 5 ∨ x.kind = 1 ∨ x.kind = 2 ∨ (x.kind ≠ 0 ∧ x.kind ≠ 3 ∧ x.kind ≠ 4 ∧ x.kind ≠ 5 ∧ x.kind ≠ 1 ∧ x.kind ≠ 2) := by omega
        · have hsx : sayS x = x.text := by rw [HSX.out, if_pos (by omega)]
          rw [hk0] at d0
          have HSS : Hid (s ++ sayL (l.take (k + 1)) = s ++ sayL (l.take k) ++ x.text) := by show _ = _; rw [HST.out, hsx, List.append_assoc]
          rw [hsx] at hlenx
          clear hsx hk0
          go_wp2_with (go_at_call 161; refine (writeString_b B b _ x.text _ (HBk.out.alloc _) (by simp; omega) (by simp; omega)).mono ?_; rintro e w3 ⟨rfl, hB3, hb3, _⟩; have HB3 := Lib.hid hB3; have HBr3 := Lib.hid ((HBr.out.alloc hwbs _).trans hb3); clear hB3 hb3)
          go_roundw
          case rel => exact ⟨k + 1, by omega, by go_num, by rw [HSS.out]; exact HB3.out, HBr3.out⟩
          case measure => simp [intOf]; omega
        · have hsx : sayS x = x.text := by rw [HSX.out, if_pos (by omega)]
          rw [hk0] at d0
          have HSS : Hid (s ++ sayL (l.take (k + 1)) = s ++ sayL (l.take k) ++ x.text) := by show _ = _; rw [HST.out, hsx, List.append_assoc]
          rw [hsx] at hlenx
          clear hsx hk0
          go_wp2_with (go_at_call 161; refine (writeString_b B b _ x.text _ (HBk.out.alloc _) (by simp; omega) (by simp; omega)).mono ?_; rintro e w3 ⟨rfl, hB3, hb3, _⟩; have HB3 := Lib.hid hB3; have HBr3 := Lib.hid ((HBr.out.alloc hwbs _).trans hb3); clear hB3 hb3)
          go_roundw
          case rel => exact ⟨k + 1, by omega, by go_num, by rw [HSS.out]; exact HB3.out, HBr3.out⟩
          case measure => simp [intOf]; omega
        · have hsx : sayS x = x.text := by rw [HSX.out, if_pos (by omega)]
          rw [hk0] at d0
          have HSS : Hid (s ++ sayL (l.take (k + 1)) = s ++ sayL (l.take k) ++ x.text) := by show _ = _; rw [HST.out, hsx, List.append_assoc]
          rw [hsx] at hlenx
          clear hsx hk0
          go_wp2_with (go_at_call 161; refine (writeString_b B b _ x.text _ (HBk.out.alloc _) (by simp; omega) (by simp; omega)).mono ?_; rintro e w3 ⟨rfl, hB3, hb3, _⟩; have HB3 := Lib.hid hB3; have HBr3 := Lib.hid ((HBr.out.alloc hwbs _).trans hb3); clear hB3 hb3)
          go_roundw
          case rel => exact ⟨k + 1, by omega, by go_num, by rw [HSS.out]; exact HB3.out, HBr3.out⟩
          case measure => simp [intOf]; omega
        · have hsx : sayS x = x.text := by rw [HSX.out, if_pos (by omega)]
          rw [hk0] at d0
          have HSS : Hid (s ++ sayL (l.take (k + 1)) = s ++ sayL (l.take k) ++ x.text) := by show _ = _; rw [HST.out, hsx, List.append_assoc]
          rw [hsx] at hlenx
          clear hsx hk0
          go_wp2_with (go_at_call 161; refine (writeString_b B b _ x.text _ (HBk.out.alloc _) (by simp; omega) (by simp; omega)).mono ?_; rintro e w3 ⟨rfl, hB3, hb3, _⟩; have HB3 := Lib.hid hB3; have HBr3 := Lib.hid ((HBr.out.alloc hwbs _).trans hb3); clear hB3 hb3)
          go_roundw
          case rel => exact ⟨k + 1, by omega, by go_num, by rw [HSS.out]; exact HB3.out, HBr3.out⟩
          case measure => simp [intOf]; omega
        · have hsx : sayS x = sayL x.kids := by rw [HSX.out, if_neg (by omega), if_pos (by omega)]
          rw [hk1] at d0
          have HSS : Hid (s ++ sayL (l.take (k + 1)) = s ++ sayL (l.take k) ++ sayL x.kids) := by show _ = _; rw [HST.out, hsx, List.append_assoc]
          rw [hsx] at hlenx
          clear hsx hk1
          go_wp2_with (go_at_call 140; refine (HIH.out _ (Nat.lt_of_lt_of_le HDL.out hd) x.kids (Nat.le_refl _) B b _ x.ka x.kc w0 _ hB0 (by rw [← hB0]; exact hbr.alloc hbr.size _) HKA.out HKL.out (HBk.out.alloc _) (by simp; omega)).mono ?_; rintro e w3 ⟨rfl, hB3, hb3⟩; have HB3 := Lib.hid hB3; have HBr3 := Lib.hid ((HBr.out.alloc hwbs _).trans hb3); clear hB3 hb3)
          go_roundw
          case rel => exact ⟨k + 1, by omega, by go_num, by rw [HSS.out]; exact HB3.out, HBr3.out⟩
          case measure => simp [intOf]; omega
        · have hsx : sayS x = sayL x.kids := by rw [HSX.out, if_neg (by omega), if_pos (by omega)]
          rw [hk1] at d0
          have HSS : Hid (s ++ sayL (l.take (k + 1)) = s ++ sayL (l.take k) ++ sayL x.kids) := by show _ = _; rw [HST.out, hsx, List.append_assoc]
          rw [hsx] at hlenx
          clear hsx hk1
          go_wp2_with (go_at_call 140; refine (HIH.out _ (Nat.lt_of_lt_of_le HDL.out hd) x.kids (Nat.le_refl _) B b _ x.ka x.kc w0 _ hB0 (by rw [← hB0]; exact hbr.alloc hbr.size _) HKA.out HKL.out (HBk.out.alloc _) (by simp; omega)).mono ?_; rintro e w3 ⟨rfl, hB3, hb3⟩; have HB3 := Lib.hid hB3; have HBr3 := Lib.hid ((HBr.out.alloc hwbs _).trans hb3); clear hB3 hb3)
          go_roundw
          case rel => exact ⟨k + 1, by omega, by go_num, by rw [HSS.out]; exact HB3.out, HBr3.out⟩
          case measure => simp [intOf]; omega
        · obtain ⟨n0, n3, n4, n5, n1, n2⟩ := hno
          have hsx : sayS x = [] := by rw [HSX.out, if_neg (by omega), if_neg (by omega)]
          have HSS : Hid (s ++ sayL (l.take (k + 1)) = s ++ sayL (l.take k)) := by show _ = _; rw [HST.out, hsx, List.append_nil]
          clear hsx
          have m0 : ((x.kind : Int) == 0) = false := beq_eq_false_iff_ne.2 (by omega)
          have m1 : ((x.kind : Int) == 1) = false := beq_eq_false_iff_ne.2 (by omega)
          have m2 : ((x.kind : Int) == 2) = false := beq_eq_false_iff_ne.2 (by omega)
          have m3 : ((x.kind : Int) == 3) = false := beq_eq_false_iff_ne.2 (by omega)
          have m4 : ((x.kind : Int) == 4) = false := beq_eq_false_iff_ne.2 (by omega)
          have m5 : ((x.kind : Int) == 5) = false := beq_eq_false_iff_ne.2 (by omega)
          clear n0 n1 n2 n3 n4 n5
          go_wp2
          go_roundw
          case rel => exact ⟨k + 1, by omega, by go_num, by rw [HSS.out]; exact HBk.out.alloc _, HBr.out.alloc hwbs _⟩
          case measure => simp [intOf]; omega
      · have hE : l.take k = l := List.take_of_length_le (by omega)
        rw [hE] at HBk
        go_wp2
        go_end0
        exact ⟨rfl, HBk.out, HBr.out⟩

set_option maxHeartbeats 2000000 in
set_option maxRecDepth 100000 in
theorem splain_any (l : List Sp) (a : Option Addr) (c : Nat) (w : World) (hS : SpsAt w a l) (hL : SpLen l) (hlen : (sayL l).length ≤ 1000000000) :
    Calls Tryz.prog 84 #[.slice a l.length c] w fun e w' => e = .returned (.string ⟨(sayL l).toArray⟩) ∧ Below w.heap.size w w' := by
  have HS := Lib.hid hS
  have HL := Lib.hid hL
  have hb0 := (Below.refl w.heap.size w).alloc (Nat.le_refl _) (.cells #[.pointer none, .slice none 0 0] 204)
  have HF := Lib.hid (Bld.fresh w)
  clear hS hL
  go_enter Tryz.func84, Tryz.ntmps84
  go_wp2_with (first
    | (go_at_call 140; refine (say_any _ l (Nat.le_refl _) w.heap.size w.heap.size [] a c w _ rfl hb0 HS.out HL.out HF.out (by simp; omega)).mono ?_; rintro e w1 ⟨rfl, hB1, hb1⟩; have HB1 := Lib.hid hB1; have HBb := Lib.hid (hb0.trans hb1); clear hB1 hb1)
    | (go_at_call 141; refine (string_b w.heap.size w.heap.size _ _ HB1.out HBb.out.size).mono ?_; rw [List.nil_append]; rintro e w2 ⟨rfl, _, hb2, _⟩; have HBc := Lib.hid (HBb.out.trans hb2); clear hb2))
  go_ret
  exact ⟨rfl, HBc.out⟩
end Go.Proofs.YtohinfefidahlaaGreatDoor

namespace Go.Proofs.YtohinfefidahlaaGreatDoor
open Go.RowKit
set_option linter.unusedVariables false

/-! ### what is told of a fault, what stands in a chapter -/
structure Dg where
  file : Bytes
  line : Int
  fault : Int
  text : Bytes
def encDg (x : Dg) : List Value := [.string ⟨x.file.toArray⟩, .int .i64 x.line, .int .i64 x.fault, .string ⟨x.text.toArray⟩]
theorem encDg_ok : Enc 4 encDg := ⟨fun _ => rfl, fun x u hu => by simp [encDg] at hu; rcases hu with rfl | rfl | rfl | rfl <;> rfl⟩
structure Ce where
  sa : Option Addr
  sc : Nat
  sl : List Sp
def encCe (x : Ce) : List Value := [.slice x.sa x.sl.length x.sc]
theorem encCe_ok : Enc 1 encCe := ⟨fun _ => rfl, fun x u hu => by simp [encCe] at hu; subst hu; rfl⟩
structure Rw where
  ca : Option Addr
  cc : Nat
  cl : List Ce
def encRw (x : Rw) : List Value := [.slice x.ca x.cl.length x.cc]
theorem encRw_ok : Enc 1 encRw := ⟨fun _ => rfl, fun x u hu => by simp [encRw] at hu; subst hu; rfl⟩
structure Bl where
  kind : Nat
  level : Int
  ord : Bool
  label : Bytes
  text : Bytes
  sa : Option Addr
  sc : Nat
  sl : List Sp
  ra : Option Addr
  rc : Nat
  rl : List Rw
  file : Bytes
  line : Int
def encBl (x : Bl) : List Value := [.int .u8 x.kind, .int .i64 x.level, .bool x.ord, .string ⟨x.label.toArray⟩, .string ⟨x.text.toArray⟩, .slice x.sa x.sl.length x.sc, .slice x.ra x.rl.length x.rc, .string ⟨x.file.toArray⟩, .int .i64 x.line]
theorem encBl_ok : Enc 9 encBl := ⟨fun _ => rfl, fun x u hu => by simp [encBl] at hu; rcases hu with rfl | rfl | rfl | rfl | rfl | rfl | rfl | rfl | rfl <;> rfl⟩
structure Ch where
  name : Bytes
  ba : Option Addr
  bc : Nat
  bl : List Bl
  da : Option Addr
  dc : Nat
  dl : List Dg
  fa : Option Addr
  fc : Nat
  fl : List Bytes
  aa : Option Addr
  ac : Nat
  al : List Two
  ua : Option Addr
  uc : Nat
  ul : List Bytes
def encCh (x : Ch) : List Value := [.string ⟨x.name.toArray⟩, .slice x.ba x.bl.length x.bc, .slice x.da x.dl.length x.dc, .slice x.fa x.fl.length x.fc, .slice x.aa x.al.length x.ac, .slice x.ua x.ul.length x.uc]
theorem encCh_ok : Enc 6 encCh := ⟨fun _ => rfl, fun x u hu => by simp [encCh] at hu; rcases hu with rfl | rfl | rfl | rfl | rfl | rfl <;> rfl⟩

/-! ### in memory -/
def CeIn (w : World) (x : Ce) : Prop := SpsAt w x.sa x.sl
def RwIn (w : World) (x : Rw) : Prop := At w 1 encCe x.ca x.cl ∧ ∀ c ∈ x.cl, CeIn w c
def RwsAt (w : World) (a : Option Addr) (l : List Rw) : Prop := At w 1 encRw a l ∧ ∀ r ∈ l, RwIn w r
def BlIn (w : World) (x : Bl) : Prop := SpsAt w x.sa x.sl ∧ RwsAt w x.ra x.rl
def BlsAt (w : World) (a : Option Addr) (l : List Bl) : Prop := At w 9 encBl a l ∧ ∀ b ∈ l, BlIn w b
structure ChIn (w : World) (x : Ch) : Prop where
  bls : BlsAt w x.ba x.bl
  dls : At w 4 encDg x.da x.dl
  fls : At w 1 encS x.fa x.fl
  als : At w 2 encT x.aa x.al
  uls : At w 1 encS x.ua x.ul
def ChsAt (w : World) (a : Option Addr) (l : List Ch) : Prop := At w 6 encCh a l ∧ ∀ c ∈ l, ChIn w c
section
variable {w w' : World} (hb : Below w.heap.size w w')
include hb
theorem CeIn.keep {x : Ce} (h : CeIn w x) : CeIn w' x := SpsAt.keep hb h
theorem RwIn.keep {x : Rw} (h : RwIn w x) : RwIn w' x := ⟨h.1.below hb, fun c hc => (h.2 c hc).keep hb⟩
theorem RwsAt.keep {a : Option Addr} {l : List Rw} (h : RwsAt w a l) : RwsAt w' a l := ⟨h.1.below hb, fun r hr => (h.2 r hr).keep hb⟩
theorem BlIn.keep {x : Bl} (h : BlIn w x) : BlIn w' x := ⟨h.1.keep hb, h.2.keep hb⟩
theorem BlsAt.keep {a : Option Addr} {l : List Bl} (h : BlsAt w a l) : BlsAt w' a l := ⟨h.1.below hb, fun r hr => (h.2 r hr).keep hb⟩
theorem ChIn.keep {x : Ch} (h : ChIn w x) : ChIn w' x := ⟨h.bls.keep hb, h.dls.below hb, h.fls.below hb, h.als.below hb, h.uls.below hb⟩
theorem ChsAt.keep {a : Option Addr} {l : List Ch} (h : ChsAt w a l) : ChsAt w' a l := ⟨h.1.below hb, fun r hr => (h.2 r hr).keep hb⟩
end

/-! ### how great -/
def sumM {α : Type} (f : α → Nat) (l : List α) : Nat := (l.map f).sum
def szM {α : Type} (f : α → Nat) (l : List α) : Nat := l.length + sumM f l
theorem sumM_nil {α : Type} (f : α → Nat) : sumM f [] = 0 := rfl
theorem sumM_cons {α : Type} (f : α → Nat) (x : α) (l : List α) : sumM f (x :: l) = f x + sumM f l := by simp [sumM]
theorem sumM_append {α : Type} (f : α → Nat) (a b : List α) : sumM f (a ++ b) = sumM f a + sumM f b := by simp [sumM]
theorem sumM_take_succ {α : Type} (f : α → Nat) {l : List α} {k : Nat} (h : k < l.length) : sumM f (l.take (k + 1)) = sumM f (l.take k) + f l[k] := by
  rw [List.take_succ_eq_append_getElem h, sumM_append]; simp [sumM]
theorem sumM_take_le {α : Type} (f : α → Nat) (l : List α) (k : Nat) : sumM f (l.take k) ≤ sumM f l := by
  conv => rhs; rw [← List.take_append_drop k l, sumM_append]
  omega
theorem sumM_mem {α : Type} (f : α → Nat) : ∀ {l : List α} {x : α}, x ∈ l → f x ≤ sumM f l
  | y :: l, x, h => by
    rw [sumM_cons]
    rcases List.mem_cons.1 h with rfl | h
    · omega
    · have := sumM_mem f h; omega
theorem szM_mem {α : Type} (f : α → Nat) {l : List α} {x : α} (h : x ∈ l) : f x + l.length ≤ szM f l := by
  have := sumM_mem f h
  unfold szM; omega
mutual
def szS : Sp → Nat
  | .mk _ t sb se _ _ kids => 1 + t.length + sb.length + se.length + szL kids
def szL : List Sp → Nat
  | [] => 0
  | x :: l => 1 + szS x + szL l
end
theorem szL_eq : ∀ l : List Sp, szL l = szM szS l
  | [] => by rw [szL]; rfl
  | x :: l => by rw [szL, szL_eq l]; unfold szM; rw [sumM_cons, List.length_cons]; omega
theorem szS_eq (x : Sp) : szS x = 1 + x.text.length + x.sub.length + x.see.length + szM szS x.kids := by cases x; rw [szS, szL_eq]; rfl
def szCe (x : Ce) : Nat := 1 + szM szS x.sl
def szRw (x : Rw) : Nat := 1 + szM szCe x.cl
def szBl (x : Bl) : Nat := 1 + x.label.length + x.text.length + x.file.length + szM szS x.sl + szM szRw x.rl
def szDg (x : Dg) : Nat := x.file.length + x.text.length
def szT (x : Two) : Nat := x.name.length + x.value.length
def szB (x : Bytes) : Nat := x.length
def szCh (x : Ch) : Nat := 1 + x.name.length + szM szBl x.bl + szM szDg x.dl + szM szB x.fl + szM szT x.al + szM szB x.ul

/-! ### how deep -/
def maxM {α : Type} (f : α → Nat) (l : List α) : Nat := l.foldl (fun n x => max n (f x)) 0
theorem maxM_take_succ {α : Type} (f : α → Nat) {l : List α} {k : Nat} (h : k < l.length) : maxM f (l.take (k + 1)) = max (maxM f (l.take k)) (f l[k]) := by
  unfold maxM; rw [List.take_succ_eq_append_getElem h, List.foldl_append]; rfl
theorem foldl_max_le {α : Type} (f : α → Nat) : ∀ (l : List α) (n m : Nat), n ≤ m → (∀ x ∈ l, f x ≤ m) → l.foldl (fun n x => max n (f x)) n ≤ m
  | [], _, _, h, _ => h
  | x :: l, n, m, h, hx => foldl_max_le f l _ m (Nat.max_le.2 ⟨h, hx x (by simp)⟩) (fun y hy => hx y (by simp [hy]))
theorem maxM_le {α : Type} (f : α → Nat) {l : List α} {m : Nat} (h : ∀ x ∈ l, f x ≤ m) : maxM f l ≤ m := foldl_max_le f l 0 m (Nat.zero_le _) h
theorem foldl_max_ge {α : Type} (f : α → Nat) : ∀ (l : List α) (n : Nat), n ≤ l.foldl (fun n x => max n (f x)) n
  | [], _ => Nat.le_refl _
  | x :: l, n => Nat.le_trans (Nat.le_max_left _ _) (foldl_max_ge f l _)
theorem foldl_max_mem {α : Type} (f : α → Nat) : ∀ (l : List α) (n : Nat) (x : α), x ∈ l → f x ≤ l.foldl (fun n x => max n (f x)) n
  | y :: l, n, x, h => by
    rcases List.mem_cons.1 h with rfl | h
    · exact Nat.le_trans (Nat.le_max_right _ _) (foldl_max_ge f l _)
    · exact foldl_max_mem f l _ x h
theorem maxM_mem {α : Type} (f : α → Nat) {l : List α} {x : α} (h : x ∈ l) : f x ≤ maxM f l := foldl_max_mem f l 0 x h
theorem foldl_max_comm {α : Type} (f : α → Nat) : ∀ (l : List α) (n : Nat), l.foldl (fun n x => max n (f x)) n = max n (maxM f l)
  | [], n => by simp [maxM]
  | x :: l, n => by
    unfold maxM
    rw [List.foldl_cons, List.foldl_cons, foldl_max_comm f l, foldl_max_comm f l (max 0 (f x))]
    omega
theorem maxM_cons {α : Type} (f : α → Nat) (x : α) (l : List α) : maxM f (x :: l) = max (f x) (maxM f l) := by
  conv => lhs; unfold maxM
  rw [List.foldl_cons, foldl_max_comm f l]; omega
theorem deepL_eq : ∀ l : List Sp, deepL l = maxM (fun x => 1 + deepL x.kids) l
  | [] => by rw [deepL]; rfl
  | x :: l => by
    rw [deepL, deepL_eq l, deepS_kids, maxM_cons]; omega
theorem szM_kids {x : Sp} {l : List Sp} (h : x ∈ l) : szM szS x.kids + 1 + l.length ≤ szM szS l := by
  have h1 := szM_mem szS h
  rw [szS_eq] at h1; omega
mutual
theorem deepS_le : ∀ x : Sp, deepS x ≤ szS x
  | .mk _ t sb se _ _ kids => by rw [deepS, szS]; have := deepL_le kids; omega
theorem deepL_le : ∀ l : List Sp, deepL l ≤ szL l
  | [] => by rw [deepL]; omega
  | x :: l => by rw [deepL, szL]; have := deepS_le x; have := deepL_le l; omega
end
mutual
theorem sayS_le : ∀ x : Sp, (sayS x).length ≤ szS x
  | .mk k t sb se _ _ kids => by
    rw [sayS, szS]
    have := sayL_le kids
    split
    · omega
    · split
      · omega
      · simp
theorem sayL_le : ∀ l : List Sp, (sayL l).length ≤ szL l
  | [] => by rw [sayL]; simp
  | x :: l => by rw [sayL, szL, List.length_append]; have := sayS_le x; have := sayL_le l; omega
end
mutual
theorem spSmall : ∀ x : Sp, szS x ≤ 140737488351232 → SpSmall x
  | .mk k t sb se a c kids => fun h => by
    rw [szS] at h
    have h2 := spAll kids (by omega)
    have h3 := szL_eq kids
    unfold szM at h3
    exact .mk (by omega) h2
theorem spAll : ∀ l : List Sp, szL l ≤ 140737488351232 → ∀ x ∈ l, SpSmall x
  | [], _ => fun x hx => absurd hx (List.not_mem_nil)
  | y :: l, h => fun x hx => by
    rw [szL] at h
    rcases List.mem_cons.1 hx with e | hx
    · rw [e]; exact spSmall y (by omega)
    · exact spAll l (by omega) x hx
end
theorem spLen {l : List Sp} (h : szM szS l ≤ 140737488351232) : SpLen l := by
  refine ⟨?_, spAll l (by rw [szL_eq]; exact h)⟩
  unfold szM at h; omega
def deepCe (x : Ce) : Nat := deepL x.sl
def deepRw (x : Rw) : Nat := maxM deepCe x.cl
def deepBl (x : Bl) : Nat := max (deepL x.sl) (maxM deepRw x.rl)
def deepCh (x : Ch) : Nat := maxM deepBl x.bl
theorem deepL_sz (l : List Sp) : deepL l ≤ szM szS l := by have := deepL_le l; rwa [szL_eq] at this
theorem deepRw_le (x : Rw) : deepRw x ≤ szRw x := maxM_le _ fun c hc => by
  have h1 := szM_mem szCe hc
  have h2 := deepL_sz c.sl
  unfold deepCe szRw; unfold szCe at *; omega
theorem deepBl_le (x : Bl) : deepBl x ≤ szBl x := by
  have h1 := deepL_sz x.sl
  have h2 : maxM deepRw x.rl ≤ szM szRw x.rl := maxM_le _ fun r hr => by
    have := szM_mem szRw hr
    have := deepRw_le r; omega
  unfold deepBl szBl; omega
theorem deepCh_le (x : Ch) : deepCh x ≤ szCh x := maxM_le _ fun b hb => by
  have h1 := szM_mem szBl hb
  have := deepBl_le b
  unfold szCh; omega
theorem deepChs_le (l : List Ch) : maxM deepCh l ≤ szM szCh l := maxM_le _ fun c hc => by
  have h1 := szM_mem szCh hc
  have := deepCh_le c; omega
def greatB (l : List Ch) : Bool := decide (20000 < szM szCh l) || decide (400000 < szM szCh l * maxM deepCh l)
end Go.Proofs.YtohinfefidahlaaGreatDoor

namespace Go.Proofs.YtohinfefidahlaaGreatDoor
open Go.RowKit
set_option linter.unusedVariables false

theorem Kept.only (w : World) (g : Nat) (cs : Array Value) : Kept (fun x => x = g) w (w.setRow g cs) :=
  ⟨rfl, rfl, rfl, by simp [World.setRow], fun k _ hk => setRow_other w g k cs hk⟩
theorem size_setRow (w : World) (g : Nat) (cs : Array Value) : (w.setRow g cs).heap.size = w.heap.size := by simp [World.setRow]
section
variable {P : Program} {w : World} {g off : Nat} {C C' : List Value} {T ty : TypeId}
/-- what lies in the block behind the store -/
def putCells (C : List Value) (off : Nat) (C' : List Value) : List Value := C.take off ++ C' ++ C.drop (off + C'.length)
theorem putCells_len (h : off + C'.length ≤ C.length) : (putCells C off C').length = C.length := by unfold putCells; simp; omega
theorem putCells_all (h : C'.length = C.length) : putCells C 0 C' = C' := by unfold putCells; simp [h]
theorem run_store_bk (hb : Bk w g C T) (hfit : off + C'.length ≤ C.length) (hi : (P.info? ty).map (·.size) = some C'.length) (h1 : ∀ v ∈ C', v.oneCell' = true) :
    (storeVar ty ⟨g, off, none⟩ (.agg C'.toArray)).run P w = .ok () (w.setRow g (putCells C off C').toArray) := by
  have := run_storeCells_at (P := P) g off T C' 0 C.toArray w hb (by simpa using hfit) h1
  cases hq : P.info? ty with
  | none => simp [hq] at hi
  | some i =>
    have hs : C'.length = i.size := by simp [hq] at hi; omega
    simp only [Nat.add_zero] at this
    simp [storeVar, sizeOf, typeInfo, hq, Value.cells, hs, this, putCells]
theorem Bk.setRow (hb : Bk w g C T) (D : List Value) : Bk (w.setRow g D.toArray) g D T := setRow_heap w g C.toArray D.toArray T (0, 0) hb
theorem Bk.setRow_other {g' : Nat} (hb : Bk w g C T) (hne : g ≠ g') (D : Array Value) : Bk (w.setRow g' D) g C T := hb.of_block (Go.setRow_other w g' g D hne)
variable {ops : Array Oper} {rest : List Oper} {o : Oper} {a : Act} {Q : Exit → Act → World → Prop}
theorem wpList_store_bk (hgd : o.guard = none) (x y : Operand) (ho : o.op = .store ty x y) (hdst : o.dst = none)
    (hx : a.eval x = .pointer (some ⟨g, off, none⟩)) (hy : a.eval y = .agg C'.toArray) (hb : Bk w g C T) (hfit : off + C'.length ≤ C.length)
    (hi : (P.info? ty).map (·.size) = some C'.length) (h1 : ∀ v ∈ C', v.oneCell' = true)
    (h : ∀ w', Bk w' g (putCells C off C') T → Kept (fun x => x = g) w w' → w'.heap.size = w.heap.size → wpList P ops Q rest a w') : wpList P ops Q (o :: rest) a w := by
  refine wpList_plain hgd fun K hK => ?_
  unfold Oper.wp execOp
  simp only [ho, hx, hy, Instr.storeAt, Instr.sureAddr, Sem.run_bind, Sem.run_pure, Result.andThen_ok, run_store_bk hb hfit hi h1]
  refine hK _ _ ?_
  rw [hdst]
  exact h _ (hb.setRow _) (Kept.only _ _ _) (size_setRow _ _ _)
theorem wpList_mkrow {e t : TypeId} {sz bytes : Nat} (hgd : o.guard = none) (lo co : Operand) (ho : o.op = Op.makeSlice t lo co) (hT : SlTy P t e sz bytes)
    (n : Nat) (L M : Int) (hl : a.eval lo = .int .i64 L) (hc : a.eval co = .int .i64 M) (hL : L = (n : Int)) (hM : M = (n : Int)) (hroom : bytes * n ≤ 281474976710656) (hmax : n ≤ maxLen)
    (h : ∀ w' D, Bk w' w.heap.size D e → D.length = n * sz → Below w.heap.size w w' → w'.heap.size = w.heap.size + 1 → wpList P ops Q rest (a.put o.dst (.slice (some ⟨w.heap.size, 0, none⟩) n n)) w') : wpList P ops Q (o :: rest) a w := by
  obtain ⟨hu, z, hi, hz, hsz⟩ := hT
  obtain ⟨i, hi1, hi2, hi3, hi4⟩ := info_parts hi
  subst hL hM
  have hrun := run_make (P := P) w t e i z hu hi1 hi2 .i64 .i64 (n : Int) (n : Int) (by omega) (Int.le_refl _) (by rw [hi4, ← Int.natCast_mul]; exact Int.ofNat_le.2 hroom) (by unfold maxLen at hmax; omega)
  rw [Int.toNat_natCast, hi3] at hrun
  refine wpList_plain hgd fun K hK => ?_
  clear hroom hmax
  unfold Oper.wp
  simp [execOp, ho, hl, hc, hrun, Result.andThen]
  exact hK _ _ (h _ _ (Bk.new _ _ _) (by rw [Array.length_toList, size_madeCells]) ((Below.refl _ _).alloc (Nat.le_refl _) _) (World.size_alloc _ _))
end
end Go.Proofs.YtohinfefidahlaaGreatDoor
