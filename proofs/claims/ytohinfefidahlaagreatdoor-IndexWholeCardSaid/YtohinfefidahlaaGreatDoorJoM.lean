/- The places of chapters have short texts. How great texts are: binderylaw01.TextsSize. -/
import Derived.Test.YtohinfefidahlaaGreatDoorBuild
import Derived.Test.YtohinfefidahlaaGreatDoorPlaces
import Derived.Test.YtohinfefidahlaaGreatDoorJoA
namespace Go.Proofs.YtohinfefidahlaaGreatDoor
set_option linter.unusedSimpArgs false
open Go.RowKit
set_option linter.unusedVariables false

theorem dotP_bd {l : List Nat} (h : ∀ x ∈ l, x ≤ 100000) : (dotP l).length ≤ 101 * l.length := by
  rw [← dotK_len]
  exact dotK_bound l (fun x hx => by have h1 := dec_len x (by have := h x hx; omega); omega) l.length (Nat.le_refl _)
theorem chS_num {p : Nat} (hp : p ≤ 30000) {name : Bytes} {labs : List Bytes} {dgs : List Dg} {bs : List Bl} (hb : bs.length ≤ 20000) : ∀ k, k ≤ bs.length → ∀ q ∈ (chS p name labs dgs bs k).pls, q.number.length ≤ 303
  | 0, _ => by rw [chS_zero]; intro q hq; cases hq
  | k + 1, h => by
    have ih := chS_num hp (name := name) (labs := labs) (dgs := dgs) hb k (by omega)
    have hk : k < bs.length := h
    by_cases hl : ledB bs[k].kind = true
    · rw [chS_led hk hl]
      intro q hq
      rcases List.mem_append.1 hq with hq | hq
      · exact ih q hq
      · rw [List.mem_singleton] at hq
        subst hq
        have hc : CntOk k (chS p name labs dgs bs k).cnt := (chapS_le hp name labs dgs bs k (by omega)).cnt
        have hk8 : bs[k].kind < 8 := by unfold ledB at hl; simp at hl; omega
        have hn := hc.next hk8 bs[k].level
        show (numP p (chS p name labs dgs bs k).cnt bs[k].kind bs[k].level).length ≤ 303
        unfold numP
        split
        · have h1 := dotP_bd (l := (cntP (chS p name labs dgs bs k).cnt bs[k].kind bs[k].level).ts) (fun x hx => by have := hn.le x hx; omega)
          have h2 := hn.len
          omega
        · refine Nat.le_trans (dotP_bd (fun x hx => ?_)) (by simp)
          rcases List.mem_cons.1 hx with rfl | hx
          · omega
          · rw [List.mem_singleton] at hx
            have := hn.kle bs[k].kind
            omega
    · rw [chS_not hk hl]; exact ih
theorem fixA_mem : ∀ {pls : List Pl} {xs : List Bytes} {q : Pl}, q ∈ fixA pls xs → ∃ p ∈ pls, ∃ x ∈ xs, q = setA p x
  | [], _, q, h => by simp [fixA] at h
  | _ :: _, [], q, h => by simp [fixA] at h
  | p :: pls, x :: xs, q, h => by
    unfold fixA at h
    rw [List.zipWith_cons_cons] at h
    rcases List.mem_cons.1 h with rfl | h
    · exact ⟨p, by simp, x, by simp, rfl⟩
    · obtain ⟨p', h1, x', h2, h3⟩ := fixA_mem (pls := pls) (xs := xs) h
      exact ⟨p', by simp [h1], x', by simp [h2], h3⟩
theorem totK_bd {l : List Ch} (hok : ChsOk l) (hlab : ∀ c ∈ l, ∀ b ∈ c.bl, b.label.length ≤ 20000) : ∀ n, n ≤ l.length → ∀ q ∈ (totK l n).pls, PlBd q
  | 0, _ => fun q hq => by simp [totK] at hq
  | n + 1, h => fun q hq => by
    have hi : n < l.length := h
    have hll : l.length ≤ 20000 := hok.len
    have ht : (totK l (n + 1)).pls = (totK l n).pls ++ fixA (endAt l n l[n]).pls (unlike (endAt l n l[n]).anc) := by rw [totK_succ hi]; rfl
    rw [ht] at hq
    rcases List.mem_append.1 hq with hq | hq
    · exact totK_bd hok hlab n (by omega) q hq
    · obtain ⟨p, hp, x, hx, rfl⟩ := fixA_mem hq
      have h4 : l[n].name.length ≤ 20000 := hok.name _ (List.getElem_mem hi)
      have h5 : l[n].bl.length ≤ 20000 := by
        have h1 := sumM_take_succ nbl hi
        have h2 := sumM_take_le nbl l (n + 1)
        have h3 := hok.sum
        have h6 : nbl l[n] = l[n].bl.length := rfl
        omega
      have hpg := chS_page (p := n + 1) (name := l[n].name) (labs := (totK l n).labs) (dgs := (totK l n).dgs) (bs := l[n].bl) l[n].bl.length (Nat.le_refl _) p
      have hnu := chS_num (p := n + 1) (by omega) (name := l[n].name) (labs := (totK l n).labs) (dgs := (totK l n).dgs) (bs := l[n].bl) h5 l[n].bl.length (Nat.le_refl _) p
      rw [chS_full] at hpg hnu
      refine ⟨?_, ?_, ?_⟩
      · show p.page.length ≤ _
        rw [hpg hp, List.length_append]
        have : htmlB.length = 5 := rfl
        omega
      · have hb : ∀ b ∈ l[n].bl, b.label.length ≤ 20000 := hlab _ (List.getElem_mem hi)
        have ha := chS_anc_len (p := n + 1) (name := l[n].name) (labs := (totK l n).labs) (dgs := (totK l n).dgs) (n := 20000) (by omega) hb l[n].bl.length (Nat.le_refl _)
        rw [chS_full] at ha
        have hm : x ∈ unlike ((endAt l n l[n]).anc.take (endAt l n l[n]).anc.length) := by rw [List.take_length]; exact hx
        obtain ⟨s, hs, j, hj, rfl⟩ := unlike_mem _ (Nat.le_refl _) hm
        have hc := chapS_full (p := n + 1) (by omega) l[n].name (totK l n).labs (totK l n).dgs l[n].bl
        have hl : (endAt l n l[n]).anc.length ≤ 20000 := by
          have e1 : (endAt l n l[n]).anc.length = (endAt l n l[n]).pls.length := hc.anc
          have e2 : (endAt l n l[n]).pls.length ≤ l[n].bl.length := hc.pls
          omega
        have h8 := (cand_len s (j := j) (by omega)).2
        have h6 := ha s hs
        show (cand s j).length ≤ _
        omega
      · show p.number.length ≤ _
        have := hnu hp
        omega
theorem totP_bd {l : List Ch} (hz : szM szCh l ≤ 20000) : ∀ q ∈ (totP l).pls, PlBd q := totK_bd (.of_size hz) (fun c hc b hb => by
  have h1 := szM_mem szCh hc
  have h2 : szM szBl c.bl ≤ szCh c := by unfold szCh; omega
  have h7 := szM_mem szBl hb
  have h6 : b.label.length ≤ szBl b := by unfold szBl; omega
  omega) l.length (Nat.le_refl _)
theorem totP_len {l : List Ch} (hz : szM szCh l ≤ 20000) : (totP l).pls.length ≤ 20000 := by
  have hll : l.length ≤ 20000 := by unfold szM at hz; omega
  have h1 := (totK_le l (by omega) l.length (Nat.le_refl _)).pls
  have h2 := nbl_le l
  rw [List.take_length] at h1
  show (totK l l.length).pls.length ≤ 20000
  omega
end Go.Proofs.YtohinfefidahlaaGreatDoor

namespace Go.Proofs.YtohinfefidahlaaGreatDoor
set_option linter.unusedSimpArgs false
open Go.RowKit

def sumT (l : List Bytes) : Nat := (l.map fun x => x.length).sum
def sizeT (l : List Bytes) : Nat := l.length + sumT l
theorem sizeT_eq (l : List Bytes) : sizeT l = l.length + sumT l := rfl
theorem sumT_take_succ (l : List Bytes) (k : Nat) (h : k < l.length) : sumT (l.take (k + 1)) = sumT (l.take k) + l[k].length := by
  unfold sumT; rw [List.take_succ_eq_append_getElem h, List.map_append, List.sum_append]; simp
theorem sumT_take_le (l : List Bytes) (k : Nat) : sumT (l.take k) ≤ sumT l := by
  unfold sumT
  conv => rhs; rw [← List.take_append_drop k l, List.map_append, List.sum_append]
  omega
theorem sumT_mem {l : List Bytes} {x : Bytes} (h : x ∈ l) : x.length ≤ sumT l := by
  unfold sumT
  induction l with
  | nil => cases h
  | cons y l ih =>
    rw [List.map_cons, List.sum_cons]
    rcases List.mem_cons.1 h with rfl | h
    · omega
    · have := ih h; omega

set_option maxHeartbeats 1000000 in
theorem textsSize_any (a : Option Addr) (c : Nat) (l : List Bytes) (w : World) (hn : l.length ≤ 140737488351232) (hA : At w 1 encS a l)
    (hs : ∀ x ∈ l, x.length ≤ 140737488351232) :
    Calls Tryz.prog 97 #[.slice a l.length c] w fun e w' => (∃ r : Nat, e = .returned (.int .i64 r) ∧ (r = sizeT l ∨ (1048576 < r ∧ 1048576 < sizeT l))) ∧ Below w.heap.size w w' := by
  have HA := Lib.hid hA
  have HS := Lib.hid hs
  clear hA hs
  go_enter Tryz.func97, Tryz.ntmps97
  go_wp2
  go_loopw [3, 4] (fun v3 v4 wr => ∃ k r : Nat, k ≤ l.length ∧ v4 = .int .i64 k ∧ v3 = .int .i64 r ∧ r ≤ 140737488351232 + 140737488351232 + 1048576 ∧ Hid (r = l.length + sumT (l.take k)) ∧ Below w.heap.size w wr) (fun _ v4 _ => l.length - (intOf v4).toNat)
  case atStart => exact ⟨0, l.length, by omega, rfl, rfl, by omega, by simp [Hid, sumT], Below.refl _ _⟩
  case round =>
    obtain ⟨k, r, hk, rfl, rfl, hr, HR, hb⟩ := hrel
    have hle := sumT_take_le l k
    by_cases hlt : k < l.length
    · by_cases hbig : 1048576 < r
      · go_wp2
        go_ret
        exact ⟨⟨r, rfl, .inr ⟨hbig, by rw [sizeT_eq]; have := HR.out; omega⟩⟩, hb⟩
      · obtain ⟨b, off, ha, hbl, hc0⟩ := (HA.out.below hb).str hlt
        subst ha
        have hs0 := HS.out l[k] (List.getElem_mem hlt)
        have hstep := sumT_take_succ l k hlt
        generalize hx0 : l[k] = x0 at *
        have HX := Lib.hid hstep
        clear hstep hx0
        go_wp2_with fail
        have a1 : IntKind.i64.wrap ((r : Int) + (x0.length : Int)) = ((r + x0.length : Nat) : Int) := by rw [IntWalk.i64_in _ (by omega)]; rfl
        try go_quiet (fail)
        go_wp2
        go_roundw
        case rel => exact ⟨k + 1, r + x0.length, by omega, by go_num, by first | rfl | go_num, by omega, by show _ = _; rw [HX.out]; have := HR.out; omega, by first | exact below_drewN hb _ | exact hb⟩
        case measure => simp [intOf]; omega
    · go_wp2
      go_ret
      exact ⟨⟨r, rfl, .inl (by rw [sizeT_eq]; have := HR.out; rwa [List.take_of_length_le (by omega)] at this)⟩, hb⟩
theorem sizeT_mem {l : List Bytes} {x : Bytes} (h : x ∈ l) : x.length + l.length ≤ sizeT l := by
  have := sumT_mem h
  unfold sizeT; omega
end Go.Proofs.YtohinfefidahlaaGreatDoor
