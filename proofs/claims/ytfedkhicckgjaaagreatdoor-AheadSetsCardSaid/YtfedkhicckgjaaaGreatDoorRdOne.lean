/- What ahead.Read reads, in plain words: a state and what each line makes of it. No program is named here. Where the answer would be too great, or a word is not told here, there is none. What is open stays open over a line's work; a source that was read is shut. No program is named here. alive(): what the five readings answer. No program is named here. -/
import Derived.Test.YtfedkhicckgjaaaGreatDoorBaseE
import Derived.Test.YtfedkhicckgjaaaGreatDoorBaseF
import Derived.Test.YtfedkhicckgjaaaGreatDoorBaseA
import Derived.Test.YtfedkhicckgjaaaGreatDoorFindS
import Derived.Test.YtfedkhicckgjaaaGreatDoorBaseD
namespace Go.Proofs.YtfedkhicckgjaaaGreatDoor
open Go.RowKit
set_option linter.unusedVariables false

structure Pl where
  file : Bytes
  no : Nat
  text : Bytes
structure CondS where
  pl : Pl
  first : Bool
  second : Bool
  other : Bool
structure DiagS where
  file : Bytes
  no : Nat
  fault : Nat
  text : Bytes
structure SrcS where
  name : Bytes
  conds : List CondS
structure RS where
  attrs : List Two
  opens : List SrcS
  count : Nat
  done : List Bytes
  asked : List Bytes
  begun : List Bytes
  lines : List Pl
  diags : List DiagS
  files : List Bytes

def CondS.holds (c : CondS) : Bool := if c.other = true then c.second else c.first
def SrcS.force (s : SrcS) : Bool := match s.conds.getLast? with | none => true | some c => c.holds
def RS.top (r : RS) : SrcS := r.opens.getLast?.getD ⟨[], []⟩
def RS.setTop (r : RS) (s : SrcS) : RS := { r with opens := r.opens.dropLast ++ [s] }
def RS.tell (r : RS) (l : Pl) (f : Nat) (t : Bytes) : RS := { r with diags := r.diags ++ [⟨l.file, l.no, f, t⟩] }
def RS.ask (r : RS) (n : Bytes) : RS := if r.done.contains n = true then r else { r with asked := addN r.asked n }
def RS.fill (r : RS) (s : Bytes) : RS := (fillN s).foldl RS.ask r

/-- the texts whose first blank is looked for here: all -/
def idxOk (s : Bytes) : Bool := true
def isBl (c : UInt8) : Bool := c == 32 || c == 9
def blankI (t : Bytes) : Option Nat := t.findIdx? isBl
def trimB (t : Bytes) : Bytes := ((t.reverse.dropWhile isBl).reverse).dropWhile isBl
def wordOf (t : Bytes) : Bytes := match blankI t with | some n => t.take n | none => t
def restOf (t : Bytes) : Bytes := match blankI t with | some n => trimB (t.drop n) | none => []

def RS.begin (r : RS) (l : Pl) (rest : Bytes) : RS :=
  if r.top.force = true then
    if (splitP rest).2.2.2 = true then
      if 16 ≤ r.top.conds.length then (r.tell l 5 l.text).setTop ⟨r.top.name, r.top.conds ++ [⟨l, false, false, false⟩]⟩
      else (r.ask (splitP rest).2.1).setTop ⟨r.top.name, r.top.conds ++ [⟨l, holdsP r.attrs (splitP rest).1 (splitP rest).2.1 (splitP rest).2.2.1, !holdsP r.attrs (splitP rest).1 (splitP rest).2.1 (splitP rest).2.2.1, false⟩]⟩
    else (r.tell l 3 l.text).setTop ⟨r.top.name, r.top.conds ++ [⟨l, false, false, false⟩]⟩
  else r.setTop ⟨r.top.name, r.top.conds ++ [⟨l, false, false, false⟩]⟩
def RS.turn (r : RS) (l : Pl) : RS := match r.top.conds.getLast? with
  | none => r.tell l 4 l.text
  | some c => if c.other = true then r.tell l 4 l.text else r.setTop ⟨r.top.name, r.top.conds.dropLast ++ [{ c with other := true }]⟩
def RS.end_ (r : RS) (l : Pl) : RS := if r.top.conds.isEmpty = true then r.tell l 4 l.text else r.setTop ⟨r.top.name, r.top.conds.dropLast⟩

/-- a path that may be: at most 60 bytes, names with points between -/
def splitDot : Bytes → List Bytes
  | [] => [[]]
  | c :: r => if c = 46 then [] :: splitDot r else match splitDot r with
    | [] => [[c]]
    | p :: ps => (c :: p) :: ps
def pathB (s : Bytes) : Bool := decide (s.length ≤ 60) && (splitDot s).all nameB

def RS.set (r : RS) (l : Pl) (rest : Bytes) : Option RS :=
  if 1000000 < (fillT r.attrs (restOf rest)).length then none else
  let name := wordOf rest
  let v := fillT r.attrs (restOf rest)
  let r' := r.fill (restOf rest)
  if setE [] name v = 0 then
    match r'.attrs with
    | [] => some { r' with done := addN r'.done name, attrs := [⟨name, v⟩] }
    | [x] => if (x.name == name) = true then some { r' with done := addN r'.done name, attrs := [⟨name, v⟩] } else none
    | _ => none
  else some (r'.tell l 3 l.text)
def RS.unset (r : RS) (l : Pl) (rest : Bytes) : Option RS :=
  if unsetE [] rest = 0 then
    match r.attrs with
    | [] => some { r with done := addN r.done rest }
    | [x] => if (x.name == rest) = true then some { r with done := addN r.done rest, attrs := [] } else none
    | _ => none
  else some (r.tell l 3 l.text)

/-- no part of what is known is too great -/
def RS.fits (r : RS) : Bool :=
  decide (r.attrs.length ≤ 1000000) && r.attrs.all (fun x => decide (x.value.length ≤ 100000)) && decide (r.top.conds.length ≤ 20000) && decide (r.diags.length ≤ 60000) && decide (r.lines.length ≤ 20000) && decide (r.files.length ≤ 20000) && decide (r.opens.length ≤ 16)

/-- are lines that set and unset told here? -/
def setsToo : Bool := true
abbrev Rd := RS → Bytes → Bytes → Option RS
def RS.include (rd : Rd) (L : List Two) (r : RS) (l : Pl) (rest : Bytes) : Option RS :=
  if pathB rest = true then
    if r.opens.any (fun s => s.name == rest) = true then some (r.tell l 2 rest)
    else if 16 ≤ r.opens.length then some (r.tell l 5 rest)
    else match srcL L rest with
      | none => some (r.tell l 1 rest)
      | some t => rd r rest t
  else some (r.tell l 3 l.text)

def RS.word (rd : Rd) (L : List Two) (r : RS) (l : Pl) (w rest : Bytes) : Option RS :=
  if w = [64, 105, 102] then some (r.begin l rest)
  else if w = [64, 101, 108, 115, 101] then some (r.turn l)
  else if w = [64, 101, 110, 100] then some (r.end_ l)
  else if r.top.force = false then some r
  else if w = [64, 105, 110, 99, 108, 117, 100, 101] then r.include rd L l rest
  else if w = [64, 115, 101, 116] then (if setsToo = true then r.set l rest else none)
  else if w = [64, 117, 110, 115, 101, 116] then (if setsToo = true then r.unset l rest else none)
  else some (r.tell l 3 l.text)
def plainOf (t : Bytes) : Bytes := if Lib.hasPrefix t [92, 64] = true then t.drop 1 else t
def RS.line (rd : Rd) (L : List Two) (r : RS) (l : Pl) : Option RS :=
  if r.fits = true ∧ l.text.length ≤ 100000 then
    if Lib.hasPrefix l.text [64] = true then (if idxOk l.text = true then r.word rd L l (wordOf l.text) (restOf l.text) else none)
    else if r.top.force = true then
      some { r.fill (plainOf l.text) with lines := r.lines ++ [⟨l.file, l.no, fillT r.attrs (plainOf l.text)⟩] }
    else some r
  else none
def RS.rows (rd : Rd) (L : List Two) (file : Bytes) : RS → Nat → List Bytes → Option RS
  | r, _, [] => some r
  | r, i, t :: ts => if 16384 ≤ r.count then none else match RS.line rd L { r with count := r.count + 1 } ⟨file, i + 1, t⟩ with
    | none => none
    | some r' => RS.rows rd L file r' (i + 1) ts
def RS.shut (r : RS) : RS := { r.top.conds.foldl (fun r c => r.tell c.pl 4 []) r with opens := r.opens.dropLast }
def RS.enter (r : RS) (name : Bytes) : RS :=
  { (if r.begun.contains name = true then r else { r with begun := r.begun ++ [name], files := r.files ++ [name] }) with opens := r.opens ++ [⟨name, []⟩] }
def RS.readG (rd : Rd) (L : List Two) (r : RS) (name text : Bytes) : Option RS :=
  if r.files.length ≤ 20000 ∧ r.opens.length ≤ 15 ∧ text.length ≤ 1048576 then
    match RS.rows rd L name (r.enter name) 0 (linesP text) with
    | none => none
    | some r' => if r'.fits = true then some r'.shut else none
  else none
def RS.read (L : List Two) : Nat → Rd
  | 0, _, _, _ => none
  | f + 1, r, name, text => RS.readG (RS.read L f) L r name text
def RS.new (attrs : List Two) : RS := ⟨attrs, [], 0, [], [], [], [], [], []⟩
/-- what ahead.Read answers of a source that is there -/
def readP (L : List Two) (attrs : List Two) (name text : Bytes) : Option RS := RS.read L 17 (RS.new (if checkB attrs = true then attrs else [])) name text
end Go.Proofs.YtfedkhicckgjaaaGreatDoor

namespace Go.Proofs.YtfedkhicckgjaaaGreatDoor
set_option linter.unusedVariables false

def Kp (r r' : RS) : Prop := r.opens ≠ [] → r'.opens ≠ [] ∧ r'.opens.dropLast = r.opens.dropLast
theorem Kp.of_eq {r r' : RS} (h : r'.opens = r.opens) : Kp r r' := fun hn => by rw [h]; exact ⟨hn, rfl⟩
theorem Kp.trans {r r1 r2 : RS} (h : Kp r r1) (k : Kp r1 r2) : Kp r r2 := fun hn => by
  obtain ⟨h1, h2⟩ := h hn
  obtain ⟨k1, k2⟩ := k h1
  exact ⟨k1, k2.trans h2⟩
theorem ask_opens (r : RS) (n : Bytes) : (r.ask n).opens = r.opens := by unfold RS.ask; split <;> rfl
theorem foldAsk_opens : ∀ (l : List Bytes) (r : RS), (l.foldl RS.ask r).opens = r.opens
  | [], _ => rfl
  | n :: l, r => by rw [List.foldl_cons, foldAsk_opens l, ask_opens]
theorem fill_opens (r : RS) (s : Bytes) : (r.fill s).opens = r.opens := foldAsk_opens _ _
theorem Kp.setTop {r r1 : RS} (s : SrcS) (h : r1.opens = r.opens) : Kp r (r1.setTop s) := fun hn => by
  unfold RS.setTop
  show r1.opens.dropLast ++ [s] ≠ [] ∧ (r1.opens.dropLast ++ [s]).dropLast = _
  rw [h]
  simp
theorem kp_begin (r : RS) (l : Pl) (t : Bytes) : Kp r (r.begin l t) := by
  unfold RS.begin
  repeat' split
  all_goals first | exact Kp.setTop _ rfl | exact Kp.setTop _ (ask_opens _ _)
theorem kp_turn (r : RS) (l : Pl) : Kp r (r.turn l) := by
  unfold RS.turn
  repeat' split
  all_goals first | exact Kp.of_eq rfl | exact Kp.setTop _ rfl
theorem kp_end (r : RS) (l : Pl) : Kp r (r.end_ l) := by
  unfold RS.end_
  repeat' split
  all_goals first | exact Kp.of_eq rfl | exact Kp.setTop _ rfl
def RdKeeps (rd : Rd) : Prop := ∀ r n t r', rd r n t = some r' → r'.opens = r.opens
theorem kp_include {rd : Rd} (hrd : RdKeeps rd) (L : List Two) (r : RS) (l : Pl) (t : Bytes) (r' : RS) (h : r.include rd L l t = some r') : Kp r r' := by
  unfold RS.include at h
  split at h
  · split at h
    · cases h; exact Kp.of_eq rfl
    · split at h
      · cases h; exact Kp.of_eq rfl
      · split at h
        · cases h; exact Kp.of_eq rfl
        · exact Kp.of_eq (hrd _ _ _ _ h)
  · cases h; exact Kp.of_eq rfl
theorem kp_set (r : RS) (l : Pl) (t : Bytes) (r' : RS) (h : r.set l t = some r') : Kp r r' := by
  unfold RS.set at h
  split at h
  · cases h
  simp only at h
  split at h
  · split at h
    · cases h; exact Kp.of_eq (fill_opens _ _)
    · split at h
      · cases h; exact Kp.of_eq (fill_opens _ _)
      · cases h
    · cases h
  · cases h; exact Kp.of_eq (fill_opens _ _)
theorem kp_unset (r : RS) (l : Pl) (t : Bytes) (r' : RS) (h : r.unset l t = some r') : Kp r r' := by
  unfold RS.unset at h
  split at h
  · split at h
    · cases h; exact Kp.of_eq rfl
    · split at h
      · cases h; exact Kp.of_eq rfl
      · cases h
    · cases h
  · cases h; exact Kp.of_eq rfl
theorem kp_word {rd : Rd} (hrd : RdKeeps rd) (L : List Two) (r : RS) (l : Pl) (w t : Bytes) (r' : RS) (h : r.word rd L l w t = some r') : Kp r r' := by
  unfold RS.word at h
  split at h
  · cases h; exact kp_begin _ _ _
  split at h
  · cases h; exact kp_turn _ _
  split at h
  · cases h; exact kp_end _ _
  split at h
  · cases h; exact Kp.of_eq rfl
  split at h
  · exact kp_include hrd _ _ _ _ _ h
  split at h
  · split at h
    · exact kp_set _ _ _ _ h
    · cases h
  split at h
  · split at h
    · exact kp_unset _ _ _ _ h
    · cases h
  · cases h; exact Kp.of_eq rfl
theorem kp_line {rd : Rd} (hrd : RdKeeps rd) (L : List Two) (r : RS) (l : Pl) (r' : RS) (h : r.line rd L l = some r') : Kp r r' := by
  unfold RS.line at h
  split at h
  · split at h
    · split at h
      · exact kp_word hrd _ _ _ _ _ _ h
      · cases h
    · split at h
      · cases h; exact Kp.of_eq (fill_opens _ _)
      · cases h; exact Kp.of_eq rfl
  · cases h
theorem kp_rows {rd : Rd} (hrd : RdKeeps rd) (L : List Two) (file : Bytes) : ∀ (ts : List Bytes) (i : Nat) (r r' : RS), RS.rows rd L file r i ts = some r' → Kp r r'
  | [], i, r, r', h => by unfold RS.rows at h; cases h; exact Kp.of_eq rfl
  | t :: ts, i, r, r', h => by
    unfold RS.rows at h
    split at h
    · cases h
    · split at h
      · cases h
      · rename_i r1 h1
        have k1 : Kp r { r with count := r.count + 1 } := Kp.of_eq rfl
        exact (k1.trans (kp_line hrd _ _ _ _ h1)).trans (kp_rows hrd L file ts _ _ _ h)
theorem enter_opens (r : RS) (n : Bytes) : (r.enter n).opens = r.opens ++ [⟨n, []⟩] := by unfold RS.enter; rfl
theorem readG_keeps {rd : Rd} (hrd : RdKeeps rd) (L : List Two) : RdKeeps (fun r n t => RS.readG rd L r n t) := fun r n t r' h => by
  have h : RS.readG rd L r n t = some r' := h
  unfold RS.readG at h
  split at h
  · split at h
    · cases h
    · rename_i r1 h1
      split at h
      · cases h
        have k := kp_rows hrd L n _ _ _ _ h1 (by rw [enter_opens]; simp)
        show r1.opens.dropLast = r.opens
        rw [k.2, enter_opens]; simp
      · cases h
  · cases h
theorem read_keeps (L : List Two) : ∀ f, RdKeeps (RS.read L f)
  | 0 => fun r n t r' h => by cases h
  | f + 1 => fun r n t r' h => readG_keeps (read_keeps L f) L r n t r' h
end Go.Proofs.YtfedkhicckgjaaaGreatDoor

namespace Go.Proofs.YtfedkhicckgjaaaGreatDoor
set_option linter.unusedVariables false
def aliveL : List Two := [⟨[109], [97, 10, 64, 105, 110, 99, 108, 117, 100, 101, 32, 110, 10, 64, 105, 102, 32, 120, 10, 98, 10, 64, 101, 108, 115, 101, 10, 99, 10, 64, 101, 110, 100, 10]⟩, ⟨[110], [123, 120, 125]⟩]
def aliveY : List Two := [⟨[109], [64, 105, 110, 99, 108, 117, 100, 101, 32, 109, 10, 64, 102, 111, 111, 10, 64, 101, 110, 100, 10, 64, 105, 102, 32, 120]⟩]
structure Ans where
  lines : List Pl
  diags : List DiagS
  files : List Bytes
  asked : List Bytes
def RS.ans (r : RS) : Ans := ⟨r.lines, r.diags, r.files, r.asked⟩
theorem alive_a : (readP aliveL [⟨[120], [49]⟩] [109] [97, 10, 64, 105, 110, 99, 108, 117, 100, 101, 32, 110, 10, 64, 105, 102, 32, 120, 10, 98, 10, 64, 101, 108, 115, 101, 10, 99, 10, 64, 101, 110, 100, 10]).map RS.ans = some ⟨[⟨[109], 1, [97]⟩, ⟨[110], 1, [49]⟩, ⟨[109], 4, [98]⟩], [], [[109], [110]], [[120]]⟩ := by kernel_rfl
theorem alive_x : (readP aliveL [] [109] [97, 10, 64, 105, 110, 99, 108, 117, 100, 101, 32, 110, 10, 64, 105, 102, 32, 120, 10, 98, 10, 64, 101, 108, 115, 101, 10, 99, 10, 64, 101, 110, 100, 10]).map RS.ans = some ⟨[⟨[109], 1, [97]⟩, ⟨[110], 1, [123, 120, 125]⟩, ⟨[109], 6, [99]⟩], [], [[109], [110]], [[120]]⟩ := by kernel_rfl
theorem alive_y : (readP aliveY [] [109] [64, 105, 110, 99, 108, 117, 100, 101, 32, 109, 10, 64, 102, 111, 111, 10, 64, 101, 110, 100, 10, 64, 105, 102, 32, 120]).map RS.ans = some ⟨[], [⟨[109], 1, 2, [109]⟩, ⟨[109], 2, 3, [64, 102, 111, 111]⟩, ⟨[109], 3, 4, [64, 101, 110, 100]⟩, ⟨[109], 4, 4, []⟩], [[109]], [[120]]⟩ := by kernel_rfl
end Go.Proofs.YtfedkhicckgjaaaGreatDoor
