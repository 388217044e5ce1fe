/- slices.SortFunc at the index's nodes. -/
import Derived.Test.YtohinfefidahlaaGreatDoorJoC
import Derived.Test.YtohinfefidahlaaGreatDoorIxN
import Derived.Test.YtohinfefidahlaaGreatDoorDrawn
import Derived.Test.YtohinfefidahlaaGreatDoorSortF
import Derived.Lib.QuietBelow
namespace Go.Proofs.YtohinfefidahlaaGreatDoor
open Go.RowKit Go.Sort
set_option linter.unusedVariables false
set_option linter.unusedSimpArgs false

section
variable {α : Type} [Inhabited α] {enc : α → List Value} {k : Nat}
theorem flatK_list (hk : ∀ x, (enc x).length = k) (d : Array α) : (flatK enc k d).toList = d.toList.flatMap enc := by
  apply List.ext_getElem?
  intro t
  have hsz : (flatK enc k d).size = d.size * k := size_flatK enc k d
  by_cases ht : t < d.size * k
  · have k0 : 0 < k := by
      rcases Nat.eq_zero_or_pos k with h | h
      · subst h; simp at ht
      · exact h
    have h1 : (flatK enc k d).toList[t]? = some (flatK enc k d)[t]! := by
      rw [Array.getElem?_toList, Array.getElem?_eq_getElem (by rw [hsz]; exact ht), getElem!_pos _ t (by rw [hsz]; exact ht)]
    rw [h1, get_flatK enc k d t ht]
    have hdm : t / k * k + t % k = t := by rw [Nat.mul_comm]; exact Nat.div_add_mod t k
    have hm : t % k < k := Nat.mod_lt _ k0
    have hd : t / k < d.size := Nat.div_lt_of_lt_mul (by rw [Nat.mul_comm]; exact ht)
    have f1 := flat_get hk d.toList (t / k) (t % k) hm
    rw [hdm] at f1
    rw [f1, Array.getElem?_toList, Array.getElem?_eq_getElem hd]
    simp only [Option.bind_some]
    rw [getElem!_pos d (t / k) hd]
    have hl : t % k < (enc d[t / k]).length := by rw [hk]; exact hm
    rw [List.getElem?_eq_getElem hl, getElem!_pos (enc d[t / k]) (t % k) hl]
  · rw [List.getElem?_eq_none (by rw [Array.length_toList, hsz]; omega), List.getElem?_eq_none (by rw [flat_len hk, Array.length_toList]; omega)]
variable {w : World} {B g n c : Nat} {e : TypeId} {l : List α}
theorem holdsK_own (he : Enc k enc) (h : Own w B e k enc (.slice (some ⟨g, 0, none⟩) n c) l) : HoldsK enc k w g 0 l.toArray := by
  intro t ht
  rw [size_flatK] at ht
  refine ⟨?_, h.freeAt (0 + t)⟩
  have ht2 : t < l.length * k := by simpa using ht
  have k0 : 0 < k := by
    rcases Nat.eq_zero_or_pos k with h | h
    · subst h; simp at ht
    · exact h
  have hdm : t / k * k + t % k = t := by rw [Nat.mul_comm]; exact Nat.div_add_mod t k
  have hm : t % k < k := Nat.mod_lt _ k0
  have hd : t / k < l.length := Nat.div_lt_of_lt_mul (by rw [Nat.mul_comm]; exact ht2)
  rw [get_flatK enc k _ t ht]
  have hl : t % k < (enc l[t / k]).length := by rw [he.len]; exact hm
  have h2 := h.cellAt he (k := t / k) (x := l[t / k]) (List.getElem?_eq_getElem hd) (j := t % k) (u := (enc l[t / k])[t % k]) (List.getElem?_eq_getElem hl)
  rw [hdm] at h2
  rw [Nat.zero_add, h2]
  show _ = some (enc l.toArray[t / k]!)[t % k]!
  rw [getElem!_pos l.toArray (t / k) (by simpa using hd)]
  simp only [List.getElem_toArray]
  rw [getElem!_pos (enc l[t / k]) (t % k) hl]
theorem kept_sortW (m : Nat) (d : Array α) (os : Array Obj) : Kept (fun x => x = g) w (sortWorldK enc k w g 0 m d os) := by
  refine ⟨rfl, rfl, rfl, size_sortWorldK_c enc k w g 0 m d os, fun i hi hne => ?_⟩
  unfold sortWorldK putRowK
  rw [heap_grow_old _ _ (by simpa [putRow, mapBlock, Sort.ahead] using hi)]
  have hne' : ¬ g = i := fun e => hne e.symm
  simp [putRow, mapBlock, Sort.ahead, Array.getElem?_modify, hne']
theorem own_sortW (he : Enc k enc) (h : Own w B e k enc (.slice (some ⟨g, 0, none⟩) n c) l) (m : Nat) (d : Array α) (os : Array Obj) (hs : d.size = l.length) : Own (sortWorldK enc k w g 0 m d os) B e k enc (.slice (some ⟨g, 0, none⟩) n c) d.toList := by
  unfold Own at *
  refine ⟨flat_len he.len _, ?_⟩
  rcases h.2 with ⟨h1, h2⟩ | ⟨g', cap, cur, h1, h2, h3, h4, h5, h6, h7⟩
  · cases h1
  · cases h1
    right
    have hg : g < w.heap.size := (Array.getElem?_eq_some_iff.1 h3).1
    have hb : (sortWorldK enc k w g 0 m d os).heap[g]? = some (.cells (putCells id 0 (flatK enc k d) cur) e (0, 0)) := by
      unfold sortWorldK putRowK
      rw [heap_grow_old _ _ (by simpa [putRow, mapBlock, Sort.ahead] using hg)]
      simp [putRow, mapBlock, Sort.ahead, Array.getElem?_modify, h3, onCells]
    have hdl : d.toList.length = l.length := by rw [Array.length_toList]; exact hs
    refine ⟨g, c, _, by rw [hdl], h2, hb, by rw [hdl]; exact h4, h5, by simp [putCells, h6], ?_⟩
    rw [hdl, ← flatK_list he.len d]
    have hfl : (flatK enc k d).size = l.length * k := by rw [size_flatK, hs]
    have hle : l.length * k ≤ cur.size := by rw [h6]; exact Nat.mul_le_mul_right _ h4
    apply List.ext_getElem?
    intro j
    by_cases hj : j < l.length * k
    · rw [List.getElem?_take_of_lt hj, Array.getElem?_toList, Array.getElem?_toList]
      have hjc : j < cur.size := by omega
      have hjf : j < (flatK enc k d).size := by omega
      simp only [putCells, Array.getElem?_mapIdx, Array.getElem?_eq_getElem hjc, Option.map_some, Nat.zero_le, true_and, Nat.zero_add, if_pos hjf, Nat.sub_zero, id]
      rw [Array.getElem?_eq_getElem hjf, getElem!_pos _ j hjf]
    · rw [List.getElem?_take_eq_none (by omega), List.getElem?_eq_none (by rw [Array.length_toList]; omega)]
end

/-! ### at nodes -/
def encSo (x : Bytes × Nat) : List Value := [.string ⟨(keyT x.1).toArray⟩, .pointer (some ⟨x.2, 0, none⟩)]
theorem encSo_ok : Enc 2 encSo := ⟨fun _ => rfl, fun x u hu => by simp [encSo] at hu; rcases hu with rfl | rfl <;> rfl⟩
/-- a term, and the block of its node, in a world -/
structure SoOk (w : World) (g : Nat) (x : Bytes × Nat) : Prop where
  len : x.1.length ≤ 1000000
  cell : w.cell? ⟨x.2, 0, none⟩ = some (.string ⟨x.1.toArray⟩)
  ne : x.2 ≠ g
theorem nodeO_cmp : TCmp nodeO := by
  have ho : TCmp orderB := (cb_cmp.comap keyS).lex cb_cmp
  have := (ho.comap keyT).lex ho
  exact this
theorem nodeO_eq {a b : Bytes} (h : nodeO a b = 0) : a = b := by
  unfold nodeO orV at h
  split at h
  · unfold orderB at h
    split at h
    · exact cb_eq h
    · contradiction
  · contradiction
set_option maxRecDepth 100000 in
theorem sortNodes {w : World} {B g n c : Nat} {l : List (Bytes × Nat)} (hl : l ≠ []) (hlen : l.length ≤ 1000000) (h : Own w B 225 2 encSo (.slice (some ⟨g, 0, none⟩) n c) l) (hn : n = l.length) (hok : ∀ x ∈ l, SoOk w g x) :
    Calls Tryz.prog 152 #[.slice (some ⟨g, 0, none⟩) n c, .func (.func 150) #[] #[]] w fun e w' => e = .returned (.tuple #[]) ∧
      ∃ l', l'.Perm l ∧ l'.Pairwise (fun a b => nodeO a.1 b.1 ≤ 0) ∧ Own w' B 225 2 encSo (.slice (some ⟨g, 0, none⟩) n c) l' ∧ Kept (fun x => x = g) w w' := by
  obtain ⟨x0, l0, rfl⟩ : ∃ x0 l0, l = x0 :: l0 := by cases l with
    | nil => exact absurd rfl hl
    | cons x l => exact ⟨x, l, rfl⟩
  let α := { x : Bytes × Nat // SoOk w g x }
  have inh : Inhabited α := ⟨⟨x0, hok x0 (by simp)⟩⟩
  let enc : α → List Value := fun x => encSo x.1
  have he : Enc 2 enc := ⟨fun _ => rfl, fun x => encSo_ok.one x.1⟩
  let ls : List α := (x0 :: l0).attach.map fun x => ⟨x.1, hok x.1 x.2⟩
  have hls : ls.map (·.1) = x0 :: l0 := by
    show ((x0 :: l0).attach.map fun x => (⟨x.1, hok x.1 x.2⟩ : α)).map (·.1) = _
    rw [List.map_map]
    exact List.attach_map_subtype_val _
  have hll : ls.length = (x0 :: l0).length := by simp [ls]
  clear_value ls
  have hfm : ls.flatMap enc = (x0 :: l0).flatMap encSo := by
    have e1 : (x0 :: l0).flatMap encSo = (ls.map (·.1)).flatMap encSo := congrArg (fun m => m.flatMap encSo) hls.symm
    rw [e1, List.flatMap_map]
  have hO : Own w B 225 2 enc (.slice (some ⟨g, 0, none⟩) n c) ls := by
    unfold Own at *
    rw [hfm, hll]; exact h
  have hgl : g < w.heap.size := (h.block g rfl).2
  have eg : ∀ args w, (callFunc 150 args).run Tryz.prog w = .ok (.enter 150 args) w := enters_of Tryz.func150 (by kernel_rfl) rfl
  have hcmp : CmpLays Tryz.prog 150 #[] enc 2 (fun x y => nodeO x.1.1 y.1.1) g 0 ls.toArray.size w := by
    intro m os dk hdk x y
    have hk := kept_sortW (enc := enc) (k := 2) (w := w) (g := g) m dk os
    have hc : ∀ z : α, (sortWorldK enc 2 w g 0 m dk os).cell? ⟨z.1.2, 0, none⟩ = some (.string ⟨z.1.1.toArray⟩) := fun z => by
      have h1 := z.2.cell
      have h2 := World.block_lt_of_cell? w _ h1
      rw [World.cell?_of_block (hk.block _ h2 z.2.ne)]; exact h1
    refine (Calls.drawn (cmpNode_any x.1.1 y.1.1 x.1.2 y.1.2 _ x.2.len y.2.len (hc x) (hc y))).mono ?_
    rintro e w' ⟨⟨rfl, hb⟩, hd⟩
    refine ⟨rfl, ?_⟩
    obtain ⟨p, hp⟩ := regrown_of_below hb
    have hdr := hd (by simp)
    have hpd : p.d = w'.drawn := by rw [hp]; rfl
    refine ⟨p.d - (sortWorldK enc 2 w g 0 m dk os).drawn, p.os, ?_⟩
    rw [hp]
    have e2 : redrawn (sortWorldK enc 2 w g 0 m dk os) p.d = (sortWorldK enc 2 w g 0 m dk os).drewN (p.d - (sortWorldK enc 2 w g 0 m dk os).drawn) := by
      unfold redrawn World.drewN
      congr 1
      omega
    rw [e2]
  have hsz : ls.toArray.size = n := by simp [hll, hn]
  have hcon := AnyQ.slices_SortFunc Tryz.sortNode 2 (fun w => by kernel_rfl) (fun w => by kernel_rfl) enc he.len he.one (fun x y => nodeO x.1.1 y.1.1) (nodeO_cmp.comap (fun x : α => x.1.1)).swo 150 #[] g 0 c ls.toArray w eg hcmp (holdsK_own he hO) hgl (by rw [hsz]; omega)
  rw [hsz] at hcon
  change Calls Tryz.prog 152 _ _ _ at hcon
  refine hcon.mono ?_
  rintro e w' ⟨rfl, d', m, os, hp, hs, rfl⟩
  refine ⟨rfl, d'.toList.map (·.1), ?_, ?_, ?_, kept_sortW m d' os⟩
  · have h1 := hp.2.2
    have e1 : d'.extract 0 n = d' := by rw [Array.extract_eq_self_iff]; right; exact ⟨rfl, by rw [hp.1, hsz]; exact Nat.le_refl _⟩
    have e2 : ls.toArray.extract 0 n = ls.toArray := by rw [Array.extract_eq_self_iff]; right; exact ⟨rfl, by rw [hsz]; exact Nat.le_refl _⟩
    rw [e1, e2] at h1
    have := h1.map (fun x : α => x.1)
    simp only at this
    rw [hls] at this
    exact this
  · rw [List.pairwise_map, List.pairwise_iff_getElem]
    intro i j hi hj hij
    have hi' : i < d'.size := by simpa using hi
    have hj' : j < d'.size := by simpa using hj
    have hjn : j < n := by rw [← hsz, ← hp.1]; exact hj'
    have h2 := hs i j (Nat.zero_le _) hij hjn
    unfold ltOf at h2
    rw [getElem!_pos d' j hj', getElem!_pos d' i hi'] at h2
    have h3 : ¬ nodeO d'[j].1.1 d'[i].1.1 < 0 := by simpa using h2
    have h4 := nodeO_cmp.anti d'[j].1.1 d'[i].1.1
    simp only [Array.getElem_toList]
    omega
  · have h5 := own_sortW he hO m d' os (by rw [hp.1]; simp)
    unfold Own at h5 ⊢
    rw [List.length_map, List.flatMap_map]
    exact h5
end Go.Proofs.YtohinfefidahlaaGreatDoor
