/- Chapters in memory: their blocks, rows, cells and spans; how great they are, how deep. -/
import Derived.Test.YtohinfefidahlaaDoorSpan
namespace Go.Proofs.YtohinfefidahlaaDoor
open Go.RowKit
set_option linter.unusedVariables false

/-! ### what is told of a fault, what stands in a chapter -/
structure Dg where
  file : Bytes
  line : Int
  fault : Int
  text : Bytes
def encDg (x : Dg) : List Value := [.string ⟨x.file.toArray⟩, .int .i64 x.line, .int .i64 x.fault, .string ⟨x.text.toArray⟩]
theorem encDg_ok : Enc 4 encDg := ⟨fun _ => rfl, fun x u hu => by simp [encDg] at hu; rcases hu with rfl | rfl | rfl | rfl <;> rfl⟩
structure Ce where
  sa : Option Addr
  sc : Nat
  sl : List Sp
def encCe (x : Ce) : List Value := [.slice x.sa x.sl.length x.sc]
theorem encCe_ok : Enc 1 encCe := ⟨fun _ => rfl, fun x u hu => by simp [encCe] at hu; subst hu; rfl⟩
structure Rw where
  ca : Option Addr
  cc : Nat
  cl : List Ce
def encRw (x : Rw) : List Value := [.slice x.ca x.cl.length x.cc]
theorem encRw_ok : Enc 1 encRw := ⟨fun _ => rfl, fun x u hu => by simp [encRw] at hu; subst hu; rfl⟩
structure Bl where
  kind : Nat
  level : Int
  ord : Bool
  label : Bytes
  text : Bytes
  sa : Option Addr
  sc : Nat
  sl : List Sp
  ra : Option Addr
  rc : Nat
  rl : List Rw
  file : Bytes
  line : Int
def encBl (x : Bl) : List Value := [.int .u8 x.kind, .int .i64 x.level, .bool x.ord, .string ⟨x.label.toArray⟩, .string ⟨x.text.toArray⟩, .slice x.sa x.sl.length x.sc, .slice x.ra x.rl.length x.rc, .string ⟨x.file.toArray⟩, .int .i64 x.line]
theorem encBl_ok : Enc 9 encBl := ⟨fun _ => rfl, fun x u hu => by simp [encBl] at hu; rcases hu with rfl | rfl | rfl | rfl | rfl | rfl | rfl | rfl | rfl <;> rfl⟩
structure Ch where
  name : Bytes
  ba : Option Addr
  bc : Nat
  bl : List Bl
  da : Option Addr
  dc : Nat
  dl : List Dg
  fa : Option Addr
  fc : Nat
  fl : List Bytes
  aa : Option Addr
  ac : Nat
  al : List Two
  ua : Option Addr
  uc : Nat
  ul : List Bytes
def encCh (x : Ch) : List Value := [.string ⟨x.name.toArray⟩, .slice x.ba x.bl.length x.bc, .slice x.da x.dl.length x.dc, .slice x.fa x.fl.length x.fc, .slice x.aa x.al.length x.ac, .slice x.ua x.ul.length x.uc]
theorem encCh_ok : Enc 6 encCh := ⟨fun _ => rfl, fun x u hu => by simp [encCh] at hu; rcases hu with rfl | rfl | rfl | rfl | rfl | rfl <;> rfl⟩

/-! ### in memory -/
def CeIn (w : World) (x : Ce) : Prop := SpsAt w x.sa x.sl
def RwIn (w : World) (x : Rw) : Prop := At w 1 encCe x.ca x.cl ∧ ∀ c ∈ x.cl, CeIn w c
def RwsAt (w : World) (a : Option Addr) (l : List Rw) : Prop := At w 1 encRw a l ∧ ∀ r ∈ l, RwIn w r
def BlIn (w : World) (x : Bl) : Prop := SpsAt w x.sa x.sl ∧ RwsAt w x.ra x.rl
def BlsAt (w : World) (a : Option Addr) (l : List Bl) : Prop := At w 9 encBl a l ∧ ∀ b ∈ l, BlIn w b
structure ChIn (w : World) (x : Ch) : Prop where
  bls : BlsAt w x.ba x.bl
  dls : At w 4 encDg x.da x.dl
  fls : At w 1 encS x.fa x.fl
  als : At w 2 encT x.aa x.al
  uls : At w 1 encS x.ua x.ul
def ChsAt (w : World) (a : Option Addr) (l : List Ch) : Prop := At w 6 encCh a l ∧ ∀ c ∈ l, ChIn w c
section
variable {w w' : World} (hb : Below w.heap.size w w')
include hb
theorem CeIn.keep {x : Ce} (h : CeIn w x) : CeIn w' x := SpsAt.keep hb h
theorem RwIn.keep {x : Rw} (h : RwIn w x) : RwIn w' x := ⟨h.1.below hb, fun c hc => (h.2 c hc).keep hb⟩
theorem RwsAt.keep {a : Option Addr} {l : List Rw} (h : RwsAt w a l) : RwsAt w' a l := ⟨h.1.below hb, fun r hr => (h.2 r hr).keep hb⟩
theorem BlIn.keep {x : Bl} (h : BlIn w x) : BlIn w' x := ⟨h.1.keep hb, h.2.keep hb⟩
theorem BlsAt.keep {a : Option Addr} {l : List Bl} (h : BlsAt w a l) : BlsAt w' a l := ⟨h.1.below hb, fun r hr => (h.2 r hr).keep hb⟩
theorem ChIn.keep {x : Ch} (h : ChIn w x) : ChIn w' x := ⟨h.bls.keep hb, h.dls.below hb, h.fls.below hb, h.als.below hb, h.uls.below hb⟩
theorem ChsAt.keep {a : Option Addr} {l : List Ch} (h : ChsAt w a l) : ChsAt w' a l := ⟨h.1.below hb, fun r hr => (h.2 r hr).keep hb⟩
end

/-! ### how great -/
def sumM {α : Type} (f : α → Nat) (l : List α) : Nat := (l.map f).sum
def szM {α : Type} (f : α → Nat) (l : List α) : Nat := l.length + sumM f l
theorem sumM_nil {α : Type} (f : α → Nat) : sumM f [] = 0 := rfl
theorem sumM_cons {α : Type} (f : α → Nat) (x : α) (l : List α) : sumM f (x :: l) = f x + sumM f l := by simp [sumM]
theorem sumM_append {α : Type} (f : α → Nat) (a b : List α) : sumM f (a ++ b) = sumM f a + sumM f b := by simp [sumM]
theorem sumM_take_succ {α : Type} (f : α → Nat) {l : List α} {k : Nat} (h : k < l.length) : sumM f (l.take (k + 1)) = sumM f (l.take k) + f l[k] := by
  rw [List.take_succ_eq_append_getElem h, sumM_append]; simp [sumM]
theorem sumM_take_le {α : Type} (f : α → Nat) (l : List α) (k : Nat) : sumM f (l.take k) ≤ sumM f l := by
  conv => rhs; rw [← List.take_append_drop k l, sumM_append]
  omega
theorem sumM_mem {α : Type} (f : α → Nat) : ∀ {l : List α} {x : α}, x ∈ l → f x ≤ sumM f l
  | y :: l, x, h => by
    rw [sumM_cons]
    rcases List.mem_cons.1 h with rfl | h
    · omega
    · have := sumM_mem f h; omega
theorem szM_mem {α : Type} (f : α → Nat) {l : List α} {x : α} (h : x ∈ l) : f x + l.length ≤ szM f l := by
  have := sumM_mem f h
  unfold szM; omega
mutual
def szS : Sp → Nat
  | .mk _ t sb se _ _ kids => 1 + t.length + sb.length + se.length + szL kids
def szL : List Sp → Nat
  | [] => 0
  | x :: l => 1 + szS x + szL l
end
theorem szL_eq : ∀ l : List Sp, szL l = szM szS l
  | [] => by rw [szL]; rfl
  | x :: l => by rw [szL, szL_eq l]; unfold szM; rw [sumM_cons, List.length_cons]; omega
theorem szS_eq (x : Sp) : szS x = 1 + x.text.length + x.sub.length + x.see.length + szM szS x.kids := by cases x; rw [szS, szL_eq]; rfl
def szCe (x : Ce) : Nat := 1 + szM szS x.sl
def szRw (x : Rw) : Nat := 1 + szM szCe x.cl
def szBl (x : Bl) : Nat := 1 + x.label.length + x.text.length + x.file.length + szM szS x.sl + szM szRw x.rl
def szDg (x : Dg) : Nat := x.file.length + x.text.length
def szT (x : Two) : Nat := x.name.length + x.value.length
def szB (x : Bytes) : Nat := x.length
def szCh (x : Ch) : Nat := 1 + x.name.length + szM szBl x.bl + szM szDg x.dl + szM szB x.fl + szM szT x.al + szM szB x.ul

/-! ### how deep -/
def maxM {α : Type} (f : α → Nat) (l : List α) : Nat := l.foldl (fun n x => max n (f x)) 0
theorem maxM_take_succ {α : Type} (f : α → Nat) {l : List α} {k : Nat} (h : k < l.length) : maxM f (l.take (k + 1)) = max (maxM f (l.take k)) (f l[k]) := by
  unfold maxM; rw [List.take_succ_eq_append_getElem h, List.foldl_append]; rfl
theorem foldl_max_le {α : Type} (f : α → Nat) : ∀ (l : List α) (n m : Nat), n ≤ m → (∀ x ∈ l, f x ≤ m) → l.foldl (fun n x => max n (f x)) n ≤ m
  | [], _, _, h, _ => h
  | x :: l, n, m, h, hx => foldl_max_le f l _ m (Nat.max_le.2 ⟨h, hx x (by simp)⟩) (fun y hy => hx y (by simp [hy]))
theorem maxM_le {α : Type} (f : α → Nat) {l : List α} {m : Nat} (h : ∀ x ∈ l, f x ≤ m) : maxM f l ≤ m := foldl_max_le f l 0 m (Nat.zero_le _) h
theorem foldl_max_ge {α : Type} (f : α → Nat) : ∀ (l : List α) (n : Nat), n ≤ l.foldl (fun n x => max n (f x)) n
  | [], _ => Nat.le_refl _
  | x :: l, n => Nat.le_trans (Nat.le_max_left _ _) (foldl_max_ge f l _)
theorem foldl_max_mem {α : Type} (f : α → Nat) : ∀ (l : List α) (n : Nat) (x : α), x ∈ l → f x ≤ l.foldl (fun n x => max n (f x)) n
  | y :: l, n, x, h => by
    rcases List.mem_cons.1 h with rfl | h
    · exact Nat.le_trans (Nat.le_max_right _ _) (foldl_max_ge f l _)
    · exact foldl_max_mem f l _ x h
theorem maxM_mem {α : Type} (f : α → Nat) {l : List α} {x : α} (h : x ∈ l) : f x ≤ maxM f l := foldl_max_mem f l 0 x h
theorem foldl_max_comm {α : Type} (f : α → Nat) : ∀ (l : List α) (n : Nat), l.foldl (fun n x => max n (f x)) n = max n (maxM f l)
  | [], n => by simp [maxM]
  | x :: l, n => by
    unfold maxM
    rw [List.foldl_cons, List.foldl_cons, foldl_max_comm f l, foldl_max_comm f l (max 0 (f x))]
    omega
theorem maxM_cons {α : Type} (f : α → Nat) (x : α) (l : List α) : maxM f (x :: l) = max (f x) (maxM f l) := by
  conv => lhs; unfold maxM
  rw [List.foldl_cons, foldl_max_comm f l]; omega
theorem deepL_eq : ∀ l : List Sp, deepL l = maxM (fun x => 1 + deepL x.kids) l
  | [] => by rw [deepL]; rfl
  | x :: l => by
    rw [deepL, deepL_eq l, deepS_kids, maxM_cons]; omega
theorem szM_kids {x : Sp} {l : List Sp} (h : x ∈ l) : szM szS x.kids + 1 + l.length ≤ szM szS l := by
  have h1 := szM_mem szS h
  rw [szS_eq] at h1; omega
mutual
theorem deepS_le : ∀ x : Sp, deepS x ≤ szS x
  | .mk _ t sb se _ _ kids => by rw [deepS, szS]; have := deepL_le kids; omega
theorem deepL_le : ∀ l : List Sp, deepL l ≤ szL l
  | [] => by rw [deepL]; omega
  | x :: l => by rw [deepL, szL]; have := deepS_le x; have := deepL_le l; omega
end
mutual
theorem sayS_le : ∀ x : Sp, (sayS x).length ≤ szS x
  | .mk k t sb se _ _ kids => by
    rw [sayS, szS]
    have := sayL_le kids
    split
    · omega
    · split
      · omega
      · simp
theorem sayL_le : ∀ l : List Sp, (sayL l).length ≤ szL l
  | [] => by rw [sayL]; simp
  | x :: l => by rw [sayL, szL, List.length_append]; have := sayS_le x; have := sayL_le l; omega
end
mutual
theorem spSmall : ∀ x : Sp, szS x ≤ 140737488351232 → SpSmall x
  | .mk k t sb se a c kids => fun h => by
    rw [szS] at h
    have h2 := spAll kids (by omega)
    have h3 := szL_eq kids
    unfold szM at h3
    exact .mk (by omega) h2
theorem spAll : ∀ l : List Sp, szL l ≤ 140737488351232 → ∀ x ∈ l, SpSmall x
  | [], _ => fun x hx => absurd hx (List.not_mem_nil)
  | y :: l, h => fun x hx => by
    rw [szL] at h
    rcases List.mem_cons.1 hx with e | hx
    · rw [e]; exact spSmall y (by omega)
    · exact spAll l (by omega) x hx
end
theorem spLen {l : List Sp} (h : szM szS l ≤ 140737488351232) : SpLen l := by
  refine ⟨?_, spAll l (by rw [szL_eq]; exact h)⟩
  unfold szM at h; omega
def deepCe (x : Ce) : Nat := deepL x.sl
def deepRw (x : Rw) : Nat := maxM deepCe x.cl
def deepBl (x : Bl) : Nat := max (deepL x.sl) (maxM deepRw x.rl)
def deepCh (x : Ch) : Nat := maxM deepBl x.bl
theorem deepL_sz (l : List Sp) : deepL l ≤ szM szS l := by have := deepL_le l; rwa [szL_eq] at this
theorem deepRw_le (x : Rw) : deepRw x ≤ szRw x := maxM_le _ fun c hc => by
  have h1 := szM_mem szCe hc
  have h2 := deepL_sz c.sl
  unfold deepCe szRw; unfold szCe at *; omega
theorem deepBl_le (x : Bl) : deepBl x ≤ szBl x := by
  have h1 := deepL_sz x.sl
  have h2 : maxM deepRw x.rl ≤ szM szRw x.rl := maxM_le _ fun r hr => by
    have := szM_mem szRw hr
    have := deepRw_le r; omega
  unfold deepBl szBl; omega
theorem deepCh_le (x : Ch) : deepCh x ≤ szCh x := maxM_le _ fun b hb => by
  have h1 := szM_mem szBl hb
  have := deepBl_le b
  unfold szCh; omega
theorem deepChs_le (l : List Ch) : maxM deepCh l ≤ szM szCh l := maxM_le _ fun c hc => by
  have h1 := szM_mem szCh hc
  have := deepCh_le c; omega
def greatB (l : List Ch) : Bool := decide (20000 < szM szCh l) || decide (400000 < szM szCh l * maxM deepCh l)
end Go.Proofs.YtohinfefidahlaaDoor
