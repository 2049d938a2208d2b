/- The law of Edelman and Greene at all permutations of at most 5 and all their reduced words: checked by the kernel. -/
import Derived.Test.YtgbojgmmingfdaaStdI
import Derived.Test.YtgbojgmmingfdaaEdlD
import Derived.Test.YtgbojgmmingfdaaEdlE
import Derived.Test.YtgbojgmmingfdaaEdlF0
import Derived.Test.YtgbojgmmingfdaaEdlF1
import Derived.Test.YtgbojgmmingfdaaEdlF2
import Derived.Test.YtgbojgmmingfdaaEdlG0
import Derived.Test.YtgbojgmmingfdaaEdlG1
import Derived.Test.YtgbojgmmingfdaaEdlG2
import Derived.Test.YtgbojgmmingfdaaEdlG3
namespace Go.Proofs.Ytgbojgmmingfdaa

set_option maxRecDepth 1000000 in
set_option maxHeartbeats 0 in
theorem edl_2 : ((tup 2 2).all fun w => !permB w || chkW w) = true := by decide +kernel
set_option maxRecDepth 1000000 in
set_option maxHeartbeats 0 in
theorem edl_3 : ((tup 3 3).all fun w => !permB w || chkW w) = true := by decide +kernel
set_option maxRecDepth 1000000 in
set_option maxHeartbeats 0 in
theorem edl_4 : ((tup 4 4).all fun w => !permB w || chkW w) = true := by decide +kernel
theorem edl_at {L : List (List Int)} (h : (L.all fun w => !permB w || chkW w) = true) {w : List Int} (hw : w ∈ L) (hp : permB w = true) : chkW w = true := by
  have := List.all_eq_true.1 h w hw
  rw [hp] at this
  simpa using this
/-- One more number at the front. -/
theorem tup_split {m k : Nat} {w : List Int} (h : w ∈ tup m (k + 1)) : ∃ x : Nat, x < m ∧ ∃ l ∈ tup m k, w = (x : Int) :: l := by
  rw [tup, List.mem_flatMap] at h
  obtain ⟨x, hx, hw⟩ := h
  obtain ⟨l, hl, e⟩ := List.mem_map.1 hw
  exact ⟨x, List.mem_range.1 hx, l, hl, e.symm⟩
theorem perm_ne {w : List Int} (hp : permB w = true) {i j : Nat} (hij : i < j) (hj : j < w.length) (e : nth w i = nth w j) : False := by
  have := (prm_of hp).inj i j (by omega) hj e
  omega
theorem edl_five {w : List Int} (hp : permB w = true) (h5 : w.length = 5) (hm : w ∈ tup 5 5) : chkW w = true := by
  obtain ⟨x, hx, l, hl, e⟩ := tup_split hm
  rcases (show x = 0 ∨ x = 1 ∨ x = 2 ∨ x = 3 ∨ x = 4 by omega) with rfl | rfl | rfl | rfl | rfl
  · exact edl_at edl5_0 (List.mem_map.2 ⟨l, hl, e.symm⟩) hp
  · exact edl_at edl5_1 (List.mem_map.2 ⟨l, hl, e.symm⟩) hp
  · exact edl_at edl5_2 (List.mem_map.2 ⟨l, hl, e.symm⟩) hp
  · exact edl_at edl5_3 (List.mem_map.2 ⟨l, hl, e.symm⟩) hp
  obtain ⟨y, hy, l2, hl2, rfl⟩ := tup_split hl
  rcases (show y = 0 ∨ y = 1 ∨ y = 2 ∨ y = 3 ∨ y = 4 by omega) with rfl | rfl | rfl | rfl | rfl
  · exact edl_at edl5_40 (List.mem_map.2 ⟨l2, hl2, e.symm⟩) hp
  · exact edl_at edl5_41 (List.mem_map.2 ⟨l2, hl2, e.symm⟩) hp
  · exact edl_at edl5_42 (List.mem_map.2 ⟨l2, hl2, e.symm⟩) hp
  · obtain ⟨z, hz, l3, hl3, rfl⟩ := tup_split hl2
    rcases (show z = 0 ∨ z = 1 ∨ z = 2 ∨ z = 3 ∨ z = 4 by omega) with rfl | rfl | rfl | rfl | rfl
    · exact edl_at edl5_430 (List.mem_map.2 ⟨l3, hl3, e.symm⟩) hp
    · exact edl_at edl5_431 (List.mem_map.2 ⟨l3, hl3, e.symm⟩) hp
    · obtain ⟨u, hu, l4, hl4, rfl⟩ := tup_split hl3
      rcases (show u = 0 ∨ u = 1 ∨ u = 2 ∨ u = 3 ∨ u = 4 by omega) with rfl | rfl | rfl | rfl | rfl
      · exact edl_at edl5_4320 (List.mem_map.2 ⟨l4, hl4, e.symm⟩) hp
      · exact edl_at edl5_4321 (List.mem_map.2 ⟨l4, hl4, e.symm⟩) hp
      · exact (perm_ne hp (i := 2) (j := 3) (by omega) (by omega) (by rw [e]; rfl)).elim
      · exact (perm_ne hp (i := 1) (j := 3) (by omega) (by omega) (by rw [e]; rfl)).elim
      · exact (perm_ne hp (i := 0) (j := 3) (by omega) (by omega) (by rw [e]; rfl)).elim
    · exact (perm_ne hp (i := 1) (j := 2) (by omega) (by omega) (by rw [e]; rfl)).elim
    · exact (perm_ne hp (i := 0) (j := 2) (by omega) (by omega) (by rw [e]; rfl)).elim
  · exact (perm_ne hp (i := 0) (j := 1) (by omega) (by omega) (by rw [e]; rfl)).elim
theorem edl_all {w : List Int} (hp : permB w = true) (h1 : 2 ≤ w.length) (h2 : w.length ≤ 5) : chkW w = true := by
  have hm : w ∈ tup w.length w.length := tup_mem fun x hx => by
    obtain ⟨j, hj, e⟩ := List.getElem_of_mem hx
    have := permB_range hp hj
    rw [nth_lt hj, e] at this
    exact this
  rcases (show w.length = 2 ∨ w.length = 3 ∨ w.length = 4 ∨ w.length = 5 by omega) with e | e | e | e
  · rw [e] at hm; exact edl_at edl_2 hm hp
  · rw [e] at hm; exact edl_at edl_3 hm hp
  · rw [e] at hm; exact edl_at edl_4 hm hp
  · rw [e] at hm; exact edl_five hp e hm
end Go.Proofs.Ytgbojgmmingfdaa
