/- A permutation of at most 5 has at most 800 reduced words. -/
import Derived.Test.YtgbojgmmingfdaaEdlC
import Derived.Test.YtgbojgmmingfdaaEdlWb
import Derived.Test.YtgbojgmmingfdaaRedS
import Derived.Test.YtgbojgmmingfdaaShapes
import Derived.Test.YtgbojgmmingfdaaTabW
namespace Go.Proofs.Ytgbojgmmingfdaa

set_option maxRecDepth 1000000 in
set_option maxHeartbeats 0 in
theorem few_2 : ((tup 2 2).all fun w => !permB w || decide (cntW 21 w ≤ 800)) = true := by decide +kernel
set_option maxRecDepth 1000000 in
set_option maxHeartbeats 0 in
theorem few_3 : ((tup 3 3).all fun w => !permB w || decide (cntW 21 w ≤ 800)) = true := by decide +kernel
set_option maxRecDepth 1000000 in
set_option maxHeartbeats 0 in
theorem few_4 : ((tup 4 4).all fun w => !permB w || decide (cntW 21 w ≤ 800)) = true := by decide +kernel
theorem few_at {L : List (List Int)} (h : (L.all fun w => !permB w || decide (cntW 21 w ≤ 800)) = true) {w : List Int} (hw : w ∈ L) (hp : permB w = true) : cntW 21 w ≤ 800 := by
  have := List.all_eq_true.1 h w hw
  rw [hp] at this
  simpa using this
theorem few_five {w : List Int} (hp : permB w = true) (h5 : w.length = 5) (hm : w ∈ tup 5 5) : cntW 21 w ≤ 800 := by
  obtain ⟨x, hx, l, hl, e⟩ := tup_split hm
  rcases (show x = 0 ∨ x = 1 ∨ x = 2 ∨ x = 3 ∨ x = 4 by omega) with rfl | rfl | rfl | rfl | rfl
  · exact few_at few5_0 (List.mem_map.2 ⟨l, hl, e.symm⟩) hp
  · exact few_at few5_1 (List.mem_map.2 ⟨l, hl, e.symm⟩) hp
  · exact few_at few5_2 (List.mem_map.2 ⟨l, hl, e.symm⟩) hp
  · exact few_at few5_3 (List.mem_map.2 ⟨l, hl, e.symm⟩) hp
  obtain ⟨y, hy, l2, hl2, rfl⟩ := tup_split hl
  rcases (show y = 0 ∨ y = 1 ∨ y = 2 ∨ y = 3 ∨ y = 4 by omega) with rfl | rfl | rfl | rfl | rfl
  · exact few_at few5_40 (List.mem_map.2 ⟨l2, hl2, e.symm⟩) hp
  · exact few_at few5_41 (List.mem_map.2 ⟨l2, hl2, e.symm⟩) hp
  · exact few_at few5_42 (List.mem_map.2 ⟨l2, hl2, e.symm⟩) hp
  · obtain ⟨z, hz, l3, hl3, rfl⟩ := tup_split hl2
    rcases (show z = 0 ∨ z = 1 ∨ z = 2 ∨ z = 3 ∨ z = 4 by omega) with rfl | rfl | rfl | rfl | rfl
    · exact few_at few5_430 (List.mem_map.2 ⟨l3, hl3, e.symm⟩) hp
    · exact few_at few5_431 (List.mem_map.2 ⟨l3, hl3, e.symm⟩) hp
    · obtain ⟨u, hu, l4, hl4, rfl⟩ := tup_split hl3
      rcases (show u = 0 ∨ u = 1 ∨ u = 2 ∨ u = 3 ∨ u = 4 by omega) with rfl | rfl | rfl | rfl | rfl
      · exact few_at few5_4320 (List.mem_map.2 ⟨l4, hl4, e.symm⟩) hp
      · exact few_at few5_4321 (List.mem_map.2 ⟨l4, hl4, e.symm⟩) hp
      · exact (perm_ne hp (i := 2) (j := 3) (by omega) (by omega) (by rw [e]; rfl)).elim
      · exact (perm_ne hp (i := 1) (j := 3) (by omega) (by omega) (by rw [e]; rfl)).elim
      · exact (perm_ne hp (i := 0) (j := 3) (by omega) (by omega) (by rw [e]; rfl)).elim
    · exact (perm_ne hp (i := 1) (j := 2) (by omega) (by omega) (by rw [e]; rfl)).elim
    · exact (perm_ne hp (i := 0) (j := 2) (by omega) (by omega) (by rw [e]; rfl)).elim
  · exact (perm_ne hp (i := 0) (j := 1) (by omega) (by omega) (by rw [e]; rfl)).elim
theorem few_all {w : List Int} (hp : permB w = true) (h1 : 2 ≤ w.length) (h2 : w.length ≤ 5) : wordsN w ≤ 800 := by
  show (redI 21 w).length ≤ 800
  rw [cntW_eq]
  have hm : w ∈ tup w.length w.length := tup_mem fun x hx => by
    obtain ⟨j, hj, e⟩ := List.getElem_of_mem hx
    have := permB_range hp hj
    rw [nth_lt hj, e] at this
    exact this
  rcases (show w.length = 2 ∨ w.length = 3 ∨ w.length = 4 ∨ w.length = 5 by omega) with e | e | e | e
  · rw [e] at hm; exact few_at few_2 hm hp
  · rw [e] at hm; exact few_at few_3 hm hp
  · rw [e] at hm; exact few_at few_4 hm hp
  · rw [e] at hm; exact few_five hp e hm
end Go.Proofs.Ytgbojgmmingfdaa

/- What the law of Edelman and Greene finds at a permutation and one of its reduced words; countIn of the statements. -/
namespace Go.Proofs.Ytgbojgmmingfdaa
open Go.RowKit

theorem sumTo_tk (l : List Int) : ∀ k, k ≤ l.length → sumTo l k = (l.take k).sum
  | 0, _ => by simp [sumTo]
  | k + 1, h => by
    rw [take_succ_nth (by omega), List.sum_append, ← sumTo_tk l k (by omega)]
    simp [sumTo]
theorem egI_size : ∀ (t : List (List Int)) (x : Int), (((egI t x).1.map List.length).sum : Nat) = (t.map List.length).sum + 1
  | [], x => by simp [egI]
  | row :: rest, x => by
    rw [egI]
    split
    · split
      · simp only [List.map_cons, List.sum_cons, egI_size rest]; omega
      · simp only [List.map_cons, List.sum_cons, egI_size rest, List.length_set]; omega
    · simp only [List.map_cons, List.sum_cons, List.length_append, List.length_singleton]; omega
theorem egT_size (v : List Int) : ((egT v).map List.length).sum = v.length := by
  have key : ∀ k, k ≤ v.length → ((egT (v.take k)).map List.length).sum = k := by
    intro k
    induction k with
    | zero => intro _; simp [egT]
    | succ k ih =>
      intro hk
      rw [take_succ_nth (by omega), egT_snoc, egI_size, ih (by omega)]
  have h := key v.length (Nat.le_refl _)
  rwa [List.take_length] at h
theorem sumL_shapeT (T : List (List Int)) : sumL (shapeT T) = ((T.map List.length).sum : Nat) := by
  unfold sumL
  rw [sumTo_tk _ _ (Nat.le_refl _), List.take_length]
  unfold shapeT
  induction T with
  | nil => rfl
  | cons r T ih => simp only [List.map_cons, List.sum_cons, ih]; omega
theorem stdB_nonneg {l : List Int} (h : isShapeB l = true) (h2 : sumL l ≤ 20) : 0 ≤ stdB l := by
  have h0 := sumL_range h
  have hf := fact_small (sumL l).toNat (by omega)
  rw [stdB_yes h h2]
  exact (allDiv_range h (by omega) (Int.le_refl _) l.length (Nat.le_refl _)).1
/-- The facts. -/
structure EdlF (l v : List Int) (ps : List (List Int × Int)) : Prop where
  red : RedOf l v
  ok : redOk l = true
  st : stanR l = ps
  tp : tabB (egT v) = true
  tq : tabB (egQ v v.length) = true
  sh : shapeT (egT v) = shapeT (egQ v v.length)
  has : hasSh ps (shapeT (egT v)) = true
  play : playL (idn l.length) (readT (egT v)) = l
  sum : sumS ps = (wordsN l : Int)
  vex : decide (sumC ps = 1) = vexB l
  cnt : ∀ x ∈ ps, 1 ≤ x.2 ∧ x.2 ≤ 800
  len : ps.length ≤ 800
  std : ∀ x ∈ ps, 0 ≤ stdB x.1 ∧ x.1.length ≤ 16
  few : wordsN l ≤ 800
theorem edl_facts {l v : List Int} (hp : permB l = true) (h1 : 2 ≤ l.length) (h2 : l.length ≤ 5) (hv : RedS v.reverse l) (hlen : v.length ≤ 21) : ∃ ps, EdlF l v ps := by
  have hprm := prm_of hp
  have hsz := permB_size hp
  have hf := fin_21 hsz.2
  have hg := dnv_21 hsz.2
  have hvI : v ∈ redI 21 l := (red_perm hprm hf hg).mem_iff.2 ((mem_redS 21 l v hprm hg).2 hv)
  have hchk := edl_all hp h1 h2
  have hfew := few_all hp h1 h2
  unfold chkW at hchk
  rw [Bool.and_eq_true] at hchk
  obtain ⟨hS, hV⟩ := hchk
  have hV1 : ∀ u ∈ redI 21 l, chkV l (stanS (distT (redI 21 l))) u = true := fun u hu => List.all_eq_true.1 hV u hu
  have hred : ∀ u ∈ redI 21 l, RedOf l u := fun u hu => RedOf.of hp hf hu
  have hT : ∀ T ∈ distT (redI 21 l), ∃ u ∈ redI 21 l, T = egT u := fun T hT => by
    have h := distT_of (ws := redI 21 l) (redI 21 l).length (Nat.le_refl _) T
    rw [List.take_length] at h
    exact h hT
  have hTn : (distT (redI 21 l)).length ≤ 800 := by
    have h := distT_len (redI 21 l) (redI 21 l).length (Nat.le_refl _)
    rw [List.take_length] at h
    unfold wordsN at hfew
    omega
  have hG := stanS_grows' (distT (redI 21 l))
  have hok : redOk l = true := by rw [redOk, hp, decide_eq_true hfew]; rfl
  have hv1 := hV1 v hvI
  unfold chkV at hv1
  simp only [Bool.and_eq_true, decide_eq_true_eq] at hv1
  obtain ⟨⟨⟨⟨a1, a2⟩, a3⟩, a4⟩, a5⟩ := hv1
  unfold chkS at hS
  simp only [Bool.and_eq_true, decide_eq_true_eq, beq_iff_eq] at hS
  refine ⟨stanS (distT (redI 21 l)), ⟨hred v hvI, hok, by rw [stanR, hok, if_pos rfl], a1, a2, a3, a4, a5, hS.1, hS.2, fun x hx => ?_, ?_, fun x hx => ?_, hfew⟩⟩
  · have := hG.cnt x hx
    omega
  · have := hG.len
    omega
  · obtain ⟨T, hTm, e⟩ := stanS_mem' hx
    obtain ⟨u, hu, rfl⟩ := hT T hTm
    have hu1 := hV1 u hu
    unfold chkV at hu1
    simp only [Bool.and_eq_true] at hu1
    have htab := hu1.1.1.1.1
    have hl := (hred u hu).len
    have hlt := dnv_tri l
    have h5 : triN l.length ≤ triN 5 := triN_mono h2
    have ht5 : triN 5 ≤ 20 := by decide
    rw [e]
    refine ⟨stdB_nonneg (tabB_shape htab) ?_, ?_⟩
    · rw [sumL_shapeT, egT_size]
      omega
    · exact shape_len (tabB_shape htab)
set_option maxRecDepth 100000 in
set_option maxHeartbeats 1000000 in
theorem countIn_any {A B : Option Addr} {n c m d base b : Nat} {ps : List (List Int × Int)} {s : List Int} {cells : List Value} {w : World} (h : OP w base b (.slice A n c) ps cells) (hx : RI w B m s) (hn : ps.length ≤ 800) (hm : m ≤ 1000)
    (hl : ∀ x ∈ ps, x.1.length ≤ 16) (hc : ∀ x ∈ ps, 1 ≤ x.2) (hs : hasSh ps s = true) :
    Calls Try.prog 27 #[.slice A n c, .slice B m d] w (fun e w' => ∃ y : Int, 1 ≤ y ∧ e = .returned (.int .i64 y) ∧ ∃ q, w' = w.drewN q) := by
  have HO := Lib.hid h
  have HX := Lib.hid hx
  have HLL := Lib.hid hl
  have HCC := Lib.hid hc
  have HN : Hid (ps.length = n) := by
    obtain ⟨A', n', c', hv, h1, -⟩ := OP.form h
    show _ = _
    rw [h1, (slice_inj hv).2.1]
  have HS : Hid (∃ j, j < ps.length ∧ (nthP ps j).1 = s) := by
    obtain ⟨x, hx1, hx2⟩ := List.any_eq_true.1 hs
    obtain ⟨j, hj, e⟩ := List.getElem_of_mem hx1
    exact ⟨j, hj, by rw [nthP_lt hj, e]; exact of_decide_eq_true hx2⟩
  have hn2 : n ≤ 800 := by rw [← HN.out]; exact hn
  clear h hx hl hc hs hn
  go_enter Try.func27, Try.ntmps27
  go_wp2_with fail
  go_loopw [5] (fun i wr => ∃ k : Nat, k ≤ n ∧ i = .int .i64 (k : Int) ∧ Hid (∀ j, j < k → (nthP ps j).1 ≠ s) ∧ ∃ q, wr = w.drewN q) (fun i _ => n - (intOf i).toNat)
  case atStart => exact ⟨0, Nat.zero_le _, rfl, fun j hj => by omega, 0, rfl⟩
  case round =>
    obtain ⟨k, hk, rfl, HY, q0, rfl⟩ := hrel
    by_cases hlt : k < n
    · have hkp : k < ps.length := by rw [HN.out]; exact hlt
      have hbq : Below w.heap.size w (w.drewN q0) := below_drewN (Below.refl _ _) _
      obtain ⟨G, cc, hGG, -⟩ := OF.shape HO.out (by omega)
      obtain ⟨rfl, e2, e3⟩ := slice_inj hGG
      clear e2 e3 hGG
      obtain ⟨A4, n4, c4, k1, -, k2, -, k4⟩ := OP.cell HO.out hkp
      have hn4 : n4 ≤ 16 := by rw [← k2.ri.1]; exact HLL.out _ (nthP_mem hkp)
      have hcn := HCC.out _ (nthP_mem hkp)
      obtain ⟨y, hy⟩ : ∃ y, y = (nthP ps k).2 := ⟨_, rfl⟩
      rw [← hy] at k4 hcn
      have HIN : Hid (∀ bb, bb = decide ((nthP ps k).1 = s) → Calls Try.prog 30 #[.slice A4 n4 c4, .slice B m d] (w.drewN q0) (Gives (w.drewN q0) (.bool bb))) := fun bb hb => ints_any bb c4 d (k2.ri.below hbq) (HX.out.below hbq) hb (by omega) (by omega)
      clear hy k2 hbq
      by_cases he : (nthP ps k).1 = s
      · have HI := Lib.hid (HIN.out true (by rw [decide_eq_true he]))
        clear he HIN
        go_wp2_with (first
          | (go_at_call 30; (with_reducible refine HI.out.mono ?_); rintro e w2 ⟨rfl, q2, rfl⟩)
          | fail)
        go_ret
        exact ⟨y, hcn, rfl, _, rfl⟩
      · have HI := Lib.hid (HIN.out false (by rw [decide_eq_false he]))
        have HE := Lib.hid he
        clear he HIN
        go_wp2_with (first
          | (go_at_call 30; (with_reducible refine HI.out.mono ?_); rintro e w2 ⟨rfl, q2, rfl⟩)
          | fail)
        go_roundw
        case rel => exact ⟨k + 1, by omega, by go_num, fun j hj => by
          rcases Nat.lt_or_eq_of_le (show j ≤ k by omega) with h | h
          · exact HY.out j h
          · rw [h]; exact HE.out, _, rfl⟩
        case measure => simp [intOf]; omega
    · obtain ⟨j, hj, e⟩ := HS.out
      exact absurd e (HY.out j (by have := HN.out; omega))
end Go.Proofs.Ytgbojgmmingfdaa
