/- PuzzleProduct of the reference. -/
import Derived.Test.YtnljlophgolejaaSeeP
import Derived.Test.YtnljlophgolejaaCountI
import Derived.Test.YtnljlophgolejaaAdd
import Derived.Test.YtnljlophgolejaaShapes
namespace Go.Proofs.Ytnljlophgolejaa
open Go.RowKit

/-- The third side of a puzzle is a string. -/
theorem side_str {n : Nat} {p : PZ} (h : okP n p) : isStrB (sideB n p.2.2 n) = true := by
  have hl := puz_len h
  unfold okP at h
  rw [← puzS_eq] at h
  unfold puzS at h
  rw [Bool.and_eq_true] at h
  have h2 := allB_iff.1 h.2
  rw [isStrB_iff]
  have e : (sideB n p.2.2 n).length = n := gen_len _ _
  rw [e]
  refine ⟨by omega, fun k hk => ?_⟩
  have h3 := allB_iff.1 (h2 (n - 1) (by rw [Int.toNat_natCast]; omega)) k (by omega)
  unfold cellS at h3
  simp only [Int.toNat_natCast, Bool.and_eq_true] at h3
  obtain ⟨h4, -, h5, -⟩ := h3
  have hk2 : k < n := by omega
  rw [hasT_iff] at h4
  have h6 : nth p.2.2 (tri (n - 1) + k) ≤ 1 := by
    rcases Int.lt_or_le 1 (nth p.2.2 (tri (n - 1) + k)) with h7 | h7
    · rw [decide_eq_true (show n - 1 + 1 = n by omega), decide_eq_false (show ¬ nth p.2.2 (tri (n - 1) + k) ≤ 1 by omega)] at h5
      simp at h5
    · exact h7
  have e2 : nth (sideB n p.2.2 n) k = nth p.2.2 (tri (n - 1) + k) := nth_gen hk2
  rw [e2]
  omega
theorem proS_pos {n : Nat} {s : List (List Int × Int)} {p : PZ} (h : ∀ x ∈ s, 0 < x.2) : ∀ x ∈ proS n (fun _ => 1) s p, 0 < x.2 := fun x hx => by
  rcases insZ_mem hx with h1 | ⟨-, h1 | ⟨y, hy, h1⟩⟩
  · exact h x h1
  · have h1' : x.2 = 1 := h1
    omega
  · have := h y hy
    have h1' : x.2 = y.2 + 1 := h1
    omega
theorem nz_pos {s : List (List Int × Int)} (h : ∀ x ∈ s, 0 < x.2) : nz s = s := by
  unfold nz
  rw [List.filter_eq_self]
  intro x hx
  have := h x hx
  simp
  omega
theorem proS_add {n : Nat} {s : List (List Int × Int)} {p : PZ} (hp : okP n p) (hs : Srt s) (h : ∀ x ∈ s, 0 < x.2) : proS n (fun _ => 1) s p = addP s (bare (strR (sideB n p.2.2 n) n)) 1 := by
  have h1 := nz_insZ (s := shapeStr (sideB n p.2.2 n)) (n := 1) (by decide) hs
  have h2 : nz (insZ s (shapeStr (sideB n p.2.2 n)) 1) = insZ s (shapeStr (sideB n p.2.2 n)) 1 := nz_pos (proS_pos (n := n) (p := p) h)
  rw [h2, nz_pos h] at h1
  show insZ _ _ _ = _
  rw [h1, shapeStr_yes (side_str hp) (gen_len _ _)]
theorem proS_fold {n : Nat} (l : List PZ) : ∀ (s : List (List Int × Int)) (m : Nat), ProF 1 s (l.length + m) → (∀ x ∈ s, 0 < x.2) → ProF 1 (l.foldl (proS n fun _ => 1) s) m ∧ ∀ x ∈ l.foldl (proS n fun _ => 1) s, 0 < x.2 := by
  induction l with
  | nil => intro s m h h2; exact ⟨by simpa using h, h2⟩
  | cons p l ih =>
    intro s m h h2
    rw [List.foldl_cons]
    refine ih _ m (ProF.next (f := fun _ => 1) (p := p) (n := n) ?_ ⟨by decide, by decide⟩) (proS_pos h2)
    rw [List.length_cons] at h
    rw [show l.length + m + 1 = l.length + 1 + m by omega]
    exact h
end Go.Proofs.Ytnljlophgolejaa

/- PuzzleProduct of the reference: the walk. -/
namespace Go.Proofs.Ytnljlophgolejaa
open Go.RowKit

set_option maxRecDepth 100000 in
set_option maxHeartbeats 2000000 in
theorem sPPro_any {Aa Ab : Option Addr} {na nb : Nat} {a b : List Int} {w : World} (ca cb : Nat) (ha : RI w Aa na a) (hb : RI w Ab nb b) (hna : na ≤ 1000000000) (hnb : nb ≤ 1000000000) :
    Calls Try.prog 24 #[.slice Aa na ca, .slice Ab nb cb] w (MakesPB w (ppB a b) (alikeB a b)) := by
  have HA := Lib.hid ha
  have HB := Lib.hid hb
  obtain ⟨t1, ht1⟩ : ∃ t, t = alikeB a b := ⟨_, rfl⟩
  have H1 : Hid (∀ W, Below w.heap.size w W → Calls Try.prog 52 #[.slice Aa na ca, .slice Ab nb cb] W (Gives W (.bool t1))) := fun W bW => by rw [ht1]; exact sTwo_any _ _ (HA.out.below bW) (HB.out.below bW) hna hnb
  have HT1 := Lib.hid ht1
  clear ht1 ha hb
  rcases t1 with _ | _
  · have HE : Hid (ppB a b = []) := by show _ = _; rw [ppB, if_neg (by rw [← HT1.out]; simp)]
    go_enter Try.func24, Try.ntmps24
    go_wp2_with (go_at_call 52; (with_reducible refine (H1.out _ ?_).mono ?_); (exact Below.refl _ _); rintro e w' ⟨rfl, q1, rfl⟩)
    go_ret2
    rw [HE.out, ← HT1.out]
    exact MakesPB.of (OF.nil_ _ _ _ _ _) (Quiet.below ⟨_, rfl⟩)
  obtain ⟨h1, h2, h3, h4⟩ := alike_str HT1.out.symm
  have hl7 := (isStrB_iff.1 h1).1
  have hna2 : a.length = na := HA.out.1
  have hnb2 : b.length = na := by rw [← h3, hna2]
  have hnn : nb = na := by rw [← HB.out.1, hnb2]
  subst hnn
  obtain ⟨PS, hPS⟩ : ∃ PS, PS = spAll false a b := ⟨_, rfl⟩
  have HE : Hid (ppB a b = PS.foldl (proS nb fun _ => 1) []) := by show _ = _; rw [ppB, if_pos HT1.out.symm, hna2, hPS]
  have hlen : PS.length ≤ 268435456 := by rw [hPS]; exact spAll_len7 h1
  have HOK : Hid (∀ q ∈ PS, okP nb q) := by
    show ∀ q ∈ PS, okP nb q
    have := tl_okP (wt := false) HT1.out.symm
    rw [hna2, tlAll_eq h1, ← hPS] at this
    exact this
  have hn17 : 1 ≤ nb ∧ nb ≤ 7 := by omega
  have HP : Hid (∀ W, Below w.heap.size w W → Calls Try.prog 53 #[.slice Aa nb ca, .slice Ab nb cb, .bool false] W (ListsZ W nb PS)) := fun W bW => by
    rw [hPS]
    exact sPuzzles_any ca cb false (HA.out.below bW) (HB.out.below bW) h1 (by rw [← hPS]; omega)
  clear h1 h2 h3 h4 hl7 hna2 hnb2 hPS
  go_enter Try.func24, Try.ntmps24
  go_wp2_with (first
    | (go_at_call 52; (with_reducible refine (H1.out _ ?_).mono ?_); (exact Below.refl _ _); rintro e w' ⟨rfl, q1, rfl⟩)
    | (go_at_call 53; (with_reducible refine (HP.out _ ?_).mono ?_); (exact Quiet.below ⟨_, rfl⟩); rintro e w2 ⟨A2, N2, c2, cs2, rfl, o2, l2, b2'⟩))
  obtain ⟨w1, ew1⟩ : ∃ W : World, W = (w.drewN q1).alloc (.cells #[] 62) := ⟨_, rfl⟩
  have b1 : Below w.heap.size w w1 := by rw [ew1]; exact (below_drewN (Below.refl _ _) _).alloc (Nat.le_refl _) _
  have o1 : OP w1 w.heap.size w.heap.size (.slice (some ⟨w.heap.size, 0, none⟩) 0 0) [] [] := by rw [ew1]; exact OP.lit (w.drewN q1) _ _ (Nat.le_refl _)
  rw [← ew1]
  clear ew1
  refine (HP.out w1 b1).mono ?_
  rintro e w2 ⟨A2, N2, c2, cs2, rfl, o2, l2, b2'⟩
  have b2 : Below w.heap.size w w2 := b1.trans (b2'.mono b1.size)
  have HN := Lib.hid l2
  have HO := Lib.hid o2
  have HB2 := Lib.hid b2
  have HO1 := Lib.hid (OP.below o1 b2')
  have hsz1 := b1.size
  have hsz2 := b2.size
  have hN2 : N2 ≤ 268435456 := by omega
  clear l2 o2 b2 b2' o1 b1
  go_wp2
  go_loopw [6, 8, 9, 10, 11] (fun u i _ _ _ wr => ∃ (k : Nat) (cells : List Value), k ≤ N2 ∧ i = .int .i64 (k : Int) ∧ Hid (OP wr w.heap.size w.heap.size u ((PS.take k).foldl (proS nb fun _ => 1) []) cells) ∧ Hid (Below w2.heap.size w2 wr)) (fun _ i _ _ _ _ => N2 - (intOf i).toNat)
  case atStart => exact ⟨0, [], Nat.zero_le _, rfl, HO1.out, Below.refl _ _⟩
  case round =>
    obtain ⟨k, cells, hk, rfl, OR, BR⟩ := hrel
    obtain ⟨s, hs⟩ : ∃ s, s = (PS.take k).foldl (proS nb fun _ => 1) [] := ⟨_, rfl⟩
    have HS := Lib.hid hs
    rw [← hs] at OR
    obtain ⟨A0, n0, c0, rfl, -, -, -⟩ := OR.out.form
    by_cases hlt : k < N2
    · have hkl : k < PS.length := by rw [HN.out]; exact hlt
      have ho := OF.below HO.out BR.out
      obtain ⟨G, cg, hG, -⟩ := OF.shape ho (by omega)
      obtain ⟨rfl, e2, e3⟩ := slice_inj hG
      clear hG e2 e3
      obtain ⟨u1, u2, u3, k0, k1, k2, k3, o1, o2, o3⟩ := OZ.cell ho hkl
      obtain ⟨A4, n4, c4, rfl, r4, -⟩ := o1.form
      obtain ⟨A5, n5, c5, rfl, r5, -⟩ := o2.form
      obtain ⟨A6, n6, c6, rfl, r6, -⟩ := o3.form
      obtain ⟨q, hq⟩ : ∃ q, q = nthZ PS k := ⟨_, rfl⟩
      rw [← hq] at r4 r5 r6
      have hqok := HOK.out q (by rw [hq]; exact nthZ_mem hkl)
      have hql := (puz_len hqok).1
      have hpf := proS_fold (n := nb) (PS.take k) [] 1 ⟨0, by simp [Srt], by simp, by simp, by rw [List.length_take]; omega, by rw [List.length_take]; omega, by simp⟩ (by simp)
      rw [← hs] at hpf
      have HPF := Lib.hid hpf
      have HSTEP : Hid ((PS.take (k + 1)).foldl (proS nb fun _ => 1) [] = addP s (bare (strR (sideB nb q.2.2 nb) nb)) 1) := by
        show _ = _
        rw [takeZ hkl, List.foldl_append, ← hs, ← hq]
        exact proS_add hqok (hpf.1.sum (by decide)).1 hpf.2
      have hr4 := r4.1
      have hr5 := r5.1
      have hr6 := r6.1
      have hk0 : wr.cell? ⟨G, k * 4, none⟩ = some (.int .i64 (nb : Int)) := k0
      have hk1 : wr.cell? ⟨G, k * 4 + 1, none⟩ = some (.slice A4 n4 c4) := k1
      have hk2 : wr.cell? ⟨G, k * 4 + 2, none⟩ = some (.slice A5 n5 c5) := k2
      have hk3 : wr.cell? ⟨G, k * 4 + 3, none⟩ = some (.slice A6 n6 c6) := k3
      have R4 := Lib.hid r4
      have R5 := Lib.hid r5
      have R6 := Lib.hid r6
      have OKQ := Lib.hid hqok
      have hn4 : n4 ≤ 36 := by omega
      have hn5 : n5 ≤ 36 := by omega
      have hn6 : n6 ≤ 36 := by omega
      clear ho k0 k1 k2 k3 o1 o2 o3 r4 r5 r6 hq hs hqok hql hr4 hr5 hr6 hpf
      go_wp2_with fail
      refine (l5Sides_any c4 c5 c6 nb R4.out R5.out R6.out (by omega) (by omega) (by omega) OKQ.out).mono ?_
      rintro e w3 ⟨A7, n7, c7, A8, n8, c8, A9, n9, c9, rfl, t3, b3⟩
      have r9 := t3.2.2.1.ri
      obtain rfl : n9 = nb := by rw [← r9.1]; exact gen_len _ _
      have R9 := Lib.hid r9
      have B3 := Lib.hid b3
      have hb3 := b3.size
      clear t3 b3 r9
      go_wp2_with fail
      refine (l5Shape_any c9 R9.out (by omega)).mono ?_
      rintro e w4 ⟨A10, n10, c10, rfl, o10, r10, ⟨cp10, le10⟩, b4⟩
      have b4w : Below wr.heap.size wr w4 := B3.out.trans (b4.mono hb3)
      have o4 := OP.below OR.out b4w
      have hsb := b4w.size
      have hbr := BR.out.size
      have hpf := HPF.out.1.sum (by decide)
      go_wp2_with fail
      refine (l4Add_any c10 1 o4 r10 (by rw [← r10.1]; unfold bare; rw [List.length_take]; have := strR_len (sideB n9 q.2.2 n9) n9; omega) hpf.2.2.1 (fun j hj => ?_) (by omega) (by omega)).mono ?_
      · obtain ⟨N, -, -, q3, -, q5, q6⟩ := HPF.out.1
        have e1 := q3 _ (nthP_mem hj)
        have e2 := q6 _ (nthP_mem hj)
        exact ⟨by omega, by omega, by omega⟩
      rintro e w5 ⟨A11, n11, c11, cells5, rfl, o5, l5, ⟨cp11, le11⟩, b5⟩
      have HB5 : Hid (Below w2.heap.size w2 w5) := by have hh := b4w.trans (b5.mono hsb); exact BR.out.trans (hh.mono hbr)
      have HO5 : Hid (OP w5 w.heap.size w.heap.size (.slice A11 n11 c11) (addP s (bare (strR (sideB n9 q.2.2 n9) n9)) 1) cells5) := OF.mono o5 (by omega) (by omega)
      clear o10 r10 b4 b4w o4 hpf o5 b5
      go_wp2
      go_roundw
      case rel => exact ⟨k + 1, cells5, by omega, by go_num, by rw [HSTEP.out]; exact HO5.out, HB5.out⟩
      case measure => simp [intOf]; omega
    · obtain rfl : k = N2 := by omega
      have HF : Hid (ppB a b = s) := by show _ = _; rw [HE.out, HS.out, ← HN.out, List.take_length]
      have HFIN : Hid (MakesPB w (ppB a b) (alikeB a b) (.returned (.tuple #[.slice A0 n0 c0, .bool true])) wr) := by rw [← HT1.out, HF.out]; exact MakesPB.of OR.out (HB2.out.trans (BR.out.mono HB2.out.size))
      go_wp2
      go_ret2
      exact HFIN.out

theorem shapeStr_len7 (l : List Int) : (shapeStr l).length ≤ 7 := by
  rcases h : isStrB l with _ | _
  · rw [shapeStr_no h]; simp
  · rw [shapeStr_yes h rfl]
    have h1 := strR_len l l.length
    have h2 := (isStrB_iff.1 h).1.2
    unfold bare
    rw [List.length_take]
    omega
theorem proS_short {n : Nat} {f : PZ → Int} (l : List PZ) : ∀ (s : List (List Int × Int)), (∀ x ∈ s, x.1.length ≤ 7) → ∀ x ∈ l.foldl (proS n f) s, x.1.length ≤ 7 := by
  induction l with
  | nil => intro s h; exact h
  | cons p l ih =>
    intro s h
    rw [List.foldl_cons]
    refine ih _ fun x hx => ?_
    rcases insZ_mem hx with h1 | ⟨h1, -⟩
    · exact h x h1
    · rw [h1]; exact shapeStr_len7 _
theorem ppB_small {a b : List Int} : (ppB a b).length ≤ 300000000 ∧ ∀ x ∈ ppB a b, x.1.length ≤ 16 := by
  unfold ppB
  split
  · rename_i h
    have h1 := (alike_str h).1
    have h2 := spAll_len7 (b := b) h1
    obtain ⟨N, -, h3, -, -, -, -⟩ := (proS_fold (n := a.length) (spAll false a b) [] 0 ⟨0, by simp [Srt], by simp, by simp, by omega, by omega, by simp⟩ (by simp)).1
    refine ⟨?_, fun x hx => Nat.le_trans (proS_short _ _ (by simp) x hx) (by omega)⟩
    have h4 : ∀ (l : List PZ) (s : List (List Int × Int)), (l.foldl (proS a.length fun _ => 1) s).length ≤ s.length + l.length := by
      intro l
      induction l with
      | nil => intro s; simp
      | cons p l ih =>
        intro s
        rw [List.foldl_cons, List.length_cons]
        have h5 := ih (proS a.length (fun _ => 1) s p)
        have h6 := insZ_len (s := shapeStr (sideB a.length p.2.2 a.length)) (n := 1) s
        have h7 : (proS a.length (fun _ => 1) s p).length ≤ s.length + 1 := h6
        omega
    have h8 := h4 (spAll false a b) []
    simp at h8
    omega
  · simp
theorem smallF_16z {ps : List (List Int × Int)} (h : ∀ x ∈ ps, x.1.length ≤ 16) : ∀ x ∈ partF ps, wF x ≤ 16 := by
  intro x hx
  simp only [partF, List.mem_flatMap] at hx
  obtain ⟨p, hp, hx⟩ := hx
  simp at hx
  rcases hx with rfl | rfl
  · exact h p hp
  · simp [wF]
end Go.Proofs.Ytnljlophgolejaa
