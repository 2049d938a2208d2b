/- WeightedProduct of the reference. -/
import Derived.Test.YtnljlophgolejaaPDel
import Derived.Test.YtnljlophgolejaaPuzS
import Derived.Test.YtnljlophgolejaaAddW
import Derived.Test.YtnljlophgolejaaPProT
namespace Go.Proofs.Ytnljlophgolejaa
open Go.RowKit

theorem nz_insZ_zero {s : List Int} : ∀ (ps : List (List Int × Int)), nz (insZ ps s 0) = nz ps
  | [] => by simp [insZ, nz]
  | x :: r => by
    rw [insZ]
    split
    · rw [nz_cons, nz_cons, nz_insZ_zero r]
    · split
      · next h => rw [nz_cons, nz_cons, Int.add_zero]; simp only [← h]
      · rw [nz_cons, if_pos rfl]
theorem nz_ins {s : List Int} {n : Int} {ps : List (List Int × Int)} (h : Srt ps) : nz (insZ ps s n) = addP (nz ps) s n := by
  by_cases e : n = 0
  · subst e; rw [nz_insZ_zero, addP_zero]
  · exact nz_insZ e h
theorem proS_addW {n : Nat} {f : PZ → Int} {s : List (List Int × Int)} {p : PZ} (hp : okP n p) (hs : Srt s) : nz (proS n f s p) = addP (nz s) (bare (strR (sideB n p.2.2 n) n)) (f p) := by
  show nz (insZ _ _ _) = _
  rw [nz_ins hs, shapeStr_yes (side_str hp) (gen_len _ _)]
theorem proS_foldW {n : Nat} {f : PZ → Int} {M : Int} (hf : ∀ p, -M ≤ f p ∧ f p ≤ M) (l : List PZ) : ∀ (s : List (List Int × Int)) (m : Nat), ProF M s (l.length + m) → ProF M (l.foldl (proS n f) s) m := by
  induction l with
  | nil => intro s m h; simpa using h
  | cons p l ih =>
    intro s m h
    rw [List.foldl_cons]
    refine ih _ m (ProF.next (f := f) (p := p) (n := n) ?_ (hf p))
    rw [List.length_cons] at h
    rw [show l.length + m + 1 = l.length + 1 + m by omega]
    exact h

set_option maxRecDepth 100000 in
set_option maxHeartbeats 2000000 in
theorem sWPro_any {Aa Ab Ay : Option Addr} {na nb ny : Nat} {a b Y : List Int} {w : World} (ca cb cy : Nat) (ha : RI w Aa na a) (hb : RI w Ab nb b) (hy : RI w Ay ny Y) (hna : na ≤ 1000000000) (hnb : nb ≤ 1000000000) (hny : ny ≤ 1000000000) :
    Calls Try.prog 29 #[.slice Aa na ca, .slice Ab nb cb, .slice Ay ny cy] w (MakesPB w (wpB a b Y) (wpOk a b Y)) := by
  have HA := Lib.hid ha
  have HB := Lib.hid hb
  have HY := Lib.hid hy
  obtain ⟨t1, ht1⟩ : ∃ t, t = alikeB a b := ⟨_, rfl⟩
  obtain ⟨t2, ht2⟩ : ∃ t, t = shB (na : Int) Y := ⟨_, rfl⟩
  have H1 : Hid (∀ W, Below w.heap.size w W → Calls Try.prog 52 #[.slice Aa na ca, .slice Ab nb cb] W (Gives W (.bool t1))) := fun W bW => by rw [ht1]; exact sTwo_any _ _ (HA.out.below bW) (HB.out.below bW) hna hnb
  have H2 : Hid (∀ W, Below w.heap.size w W → Calls Try.prog 68 #[.int .i64 (na : Int), .slice Ay ny cy] W (Gives W (.bool t2))) := fun W bW => by rw [ht2]; exact sShifts_any _ _ (HY.out.below bW) hny
  have hna2 : a.length = na := HA.out.1
  have HOK : Hid (wpOk a b Y = (t1 && t2)) := by show _ = _; rw [wpOk, hna2, ← ht1, ← ht2]
  have HT1 := Lib.hid ht1
  have HT2 := Lib.hid ht2
  clear ht1 ht2 ha hb hy
  rcases t1 with _ | _
  · have HOK' : Hid (wpOk a b Y = false) := HOK.out
    have HE : Hid (wpB a b Y = []) := by show _ = _; rw [wpB, if_neg (by rw [HOK'.out]; simp)]
    clear hna2
    go_enter Try.func29, Try.ntmps29
    go_wp2_with (go_at_call 52; (with_reducible refine (H1.out _ ?_).mono ?_); (exact Below.refl _ _); rintro e w' ⟨rfl, q1, rfl⟩)
    go_ret2
    rw [HE.out, HOK'.out]
    exact MakesPB.of (OF.nil_ _ _ _ _ _) (Quiet.below ⟨_, rfl⟩)
  rcases t2 with _ | _
  · have HOK' : Hid (wpOk a b Y = false) := HOK.out
    have HE : Hid (wpB a b Y = []) := by show _ = _; rw [wpB, if_neg (by rw [HOK'.out]; simp)]
    clear hna2
    go_enter Try.func29, Try.ntmps29
    go_wp2_with (first
      | (go_at_call 52; (with_reducible refine (H1.out _ ?_).mono ?_); (exact Below.refl _ _); rintro e w' ⟨rfl, q1, rfl⟩)
      | (go_at_call 68; (with_reducible refine (H2.out _ ?_).mono ?_); (exact Quiet.below ⟨_, rfl⟩); rintro e w' ⟨rfl, q2, rfl⟩))
    go_ret2
    rw [HE.out, HOK'.out]
    exact MakesPB.of (OF.nil_ _ _ _ _ _) (Quiet.below ⟨_, rfl⟩)
  have HOK' : Hid (wpOk a b Y = true) := HOK.out
  obtain ⟨h1, h2, h3, h4⟩ := alike_str HT1.out.symm
  have hl7 := (isStrB_iff.1 h1).1
  have hnb2 : b.length = na := by rw [← h3, hna2]
  have hnn : nb = na := by rw [← HB.out.1, hnb2]
  subst hnn
  have hsh : shB (nb : Int) Y = true := HT2.out.symm
  have hsi := shB_in hsh
  obtain ⟨PS, hPS⟩ : ∃ PS, PS = spAll true a b := ⟨_, rfl⟩
  have HE : Hid (wpB a b Y = nz (PS.foldl (proS nb (wtF nb Y)) [])) := by show _ = _; rw [wpB, if_pos HOK'.out, hna2, hPS]
  have hlen : PS.length ≤ 59049 := by rw [hPS]; exact spAll_len5w h1 (by omega)
  have HOKP : Hid (∀ q ∈ PS, okP nb q) := by
    show ∀ q ∈ PS, okP nb q
    intro q hq
    have := tl_okP (wt := true) HT1.out.symm q ((tlAll_perm true h1).mem_iff.2 (by rw [← hPS]; exact hq))
    rw [hna2] at this
    exact this
  have hn17 : 1 ≤ nb ∧ nb ≤ 7 := by omega
  have HP : Hid (∀ W, Below w.heap.size w W → Calls Try.prog 53 #[.slice Aa nb ca, .slice Ab nb cb, .bool true] W (ListsZ W nb PS)) := fun W bW => by
    rw [hPS]
    exact sPuzzles_any ca cb true (HA.out.below bW) (HB.out.below bW) h1 (by rw [← hPS]; omega)
  have HSH := Lib.hid hsh
  have HSI := Lib.hid hsi
  have hny5 : ny ≤ 5 := by have := hsi.2.1; have := HY.out.1; omega
  clear h1 h2 h3 h4 hl7 hna2 hnb2 hPS hsh hsi
  go_enter Try.func29, Try.ntmps29
  go_wp2_with (first
    | (go_at_call 52; (with_reducible refine (H1.out _ ?_).mono ?_); (exact Below.refl _ _); rintro e w' ⟨rfl, q1, rfl⟩)
    | (go_at_call 68; (with_reducible refine (H2.out _ ?_).mono ?_); (exact Quiet.below ⟨_, rfl⟩); rintro e w' ⟨rfl, q2, rfl⟩))
  obtain ⟨wq, ewq⟩ : ∃ W : World, W = w.drewN (q1 + q2) := ⟨_, rfl⟩
  have bq : Below w.heap.size w wq := by rw [ewq]; exact Quiet.below ⟨_, rfl⟩
  have hsq : wq.heap.size = w.heap.size := by rw [ewq]; rfl
  obtain ⟨w1, ew1⟩ : ∃ W : World, W = wq.alloc (.cells #[] 62) := ⟨_, rfl⟩
  have b1 : Below w.heap.size w w1 := by rw [ew1]; exact bq.alloc bq.size _
  have o1 : OP w1 w.heap.size w.heap.size (.slice (some ⟨w.heap.size, 0, none⟩) 0 0) [] [] := by rw [ew1, ← hsq]; exact OP.lit wq _ _ (Nat.le_refl _)
  rw [← ewq, ← ew1]
  clear ew1 ewq bq hsq
  refine (HP.out w1 b1).mono ?_
  rintro e w2 ⟨A2, N2, c2, cs2, rfl, o2, l2, b2'⟩
  have b2 : Below w.heap.size w w2 := b1.trans (b2'.mono b1.size)
  have HN := Lib.hid l2
  have HO := Lib.hid o2
  have HB2 := Lib.hid b2
  have HO1 := Lib.hid (OP.below o1 b2')
  have hsz1 := b1.size
  have hsz2 := b2.size
  have hN2 : N2 ≤ 59049 := by omega
  clear l2 o2 b2 b2' o1 b1
  go_wp2
  go_loopw [8, 10, 11, 12, 13] (fun u i _ _ _ wr => ∃ (k : Nat) (cells : List Value), k ≤ N2 ∧ i = .int .i64 (k : Int) ∧ Hid (OP wr w.heap.size w.heap.size u (nz ((PS.take k).foldl (proS nb (wtF nb Y)) [])) cells) ∧ Hid (Below w2.heap.size w2 wr)) (fun _ i _ _ _ _ => N2 - (intOf i).toNat)
  case atStart => exact ⟨0, [], Nat.zero_le _, rfl, HO1.out, Below.refl _ _⟩
  case round =>
    obtain ⟨k, cells, hk, rfl, OR, BR⟩ := hrel
    obtain ⟨s, hs⟩ : ∃ s, s = nz ((PS.take k).foldl (proS nb (wtF nb Y)) []) := ⟨_, rfl⟩
    have HS := Lib.hid hs
    rw [← hs] at OR
    obtain ⟨A0, n0, c0, rfl, -, -, -⟩ := OR.out.form
    by_cases hlt : k < N2
    · have hkl : k < PS.length := by rw [HN.out]; exact hlt
      have ho := OF.below HO.out BR.out
      obtain ⟨G, cg, hG, -⟩ := OF.shape ho (by omega)
      obtain ⟨rfl, e2, e3⟩ := slice_inj hG
      clear hG e2 e3
      obtain ⟨u1, u2, u3, k0, k1, k2, k3, o1, o2, o3⟩ := OZ.cell ho hkl
      obtain ⟨A4, n4, c4, rfl, r4, -⟩ := o1.form
      obtain ⟨A5, n5, c5, rfl, r5, -⟩ := o2.form
      obtain ⟨A6, n6, c6, rfl, r6, -⟩ := o3.form
      obtain ⟨q, hq⟩ : ∃ q, q = nthZ PS k := ⟨_, rfl⟩
      rw [← hq] at r4 r5 r6
      have hqok := HOKP.out q (by rw [hq]; exact nthZ_mem hkl)
      have hql := (puz_len hqok).1
      have hpf := proS_foldW (n := nb) (f := wtF nb Y) (fun p => wtF_le HSH.out) (PS.take k) [] 1 ⟨0, by simp [Srt], by simp, by simp, by rw [List.length_take]; omega, by rw [List.length_take]; omega, by simp⟩
      have HSTEP : Hid (nz ((PS.take (k + 1)).foldl (proS nb (wtF nb Y)) []) = addP s (bare (strR (sideB nb q.2.2 nb) nb)) (wtF nb Y q)) := by
        show _ = _
        rw [takeZ hkl, List.foldl_append, ← hq, hs]
        exact proS_addW hqok (hpf.sum (by decide)).1
      have HSM : Hid (s.length ≤ 100000000000 ∧ SmallW s) := by
        obtain ⟨N, -, q2, q3, q4, q5, q6⟩ := hpf
        have hsub : s.length ≤ ((PS.take k).foldl (proS nb (wtF nb Y)) []).length := by rw [hs]; exact List.length_filter_le _ _
        have hNM : (N : Int) * 3570467226624 ≤ 900000000000000000 := by omega
        refine ⟨by omega, fun j hj => ?_⟩
        have hm : nthP s j ∈ (PS.take k).foldl (proS nb (wtF nb Y)) [] := by
          have := nthP_mem hj
          rw [hs] at this ⊢
          exact nz_mem this
        have e1 := q3 _ hm
        have e2 := q6 _ hm
        exact ⟨by omega, by omega, by omega⟩
      have hr4 := r4.1
      have hr5 := r5.1
      have hr6 := r6.1
      have hk0 : wr.cell? ⟨G, k * 4, none⟩ = some (.int .i64 (nb : Int)) := k0
      have hk1 : wr.cell? ⟨G, k * 4 + 1, none⟩ = some (.slice A4 n4 c4) := k1
      have hk2 : wr.cell? ⟨G, k * 4 + 2, none⟩ = some (.slice A5 n5 c5) := k2
      have hk3 : wr.cell? ⟨G, k * 4 + 3, none⟩ = some (.slice A6 n6 c6) := k3
      have R4 := Lib.hid r4
      have R5 := Lib.hid r5
      have R6 := Lib.hid r6
      have OKQ := Lib.hid hqok
      have hn4 : n4 ≤ 36 := by omega
      have hn5 : n5 ≤ 36 := by omega
      have hn6 : n6 ≤ 36 := by omega
      have HN6 : Hid (n6 = tri nb) := by
        have hq2 := hqok
        unfold okP puzB at hq2
        rw [Bool.and_eq_true] at hq2
        obtain ⟨-, -, -, h4⟩ := sizesB_iff.1 hq2.1
        show n6 = _
        rw [← hr6, h4, Int.toNat_natCast]
      obtain ⟨x, hx⟩ : ∃ x, x = wtF nb Y q := ⟨_, rfl⟩
      have hxl := wtF_le (p := q) HSH.out
      rw [← hx] at hxl
      have HX : Hid (x = wAll nb q.2.2 Y (nb - 1)) := by show _ = _; rw [hx, wtF_ok hqok, wtP_eq hqok]
      have HXV := Lib.hid hx
      clear ho k0 k1 k2 k3 o1 o2 o3 r4 r5 r6 hq hs hqok hql hr4 hr5 hr6 hpf hx
      go_wp2_with fail
      refine (l5Sides_any c4 c5 c6 nb R4.out R5.out R6.out (by omega) (by omega) (by omega) OKQ.out).mono ?_
      rintro e w3 ⟨A7, n7, c7, A8, n8, c8, A9, n9, c9, rfl, t3, b3⟩
      have r9 := t3.2.2.1.ri
      have hn9 : n9 = nb := by rw [← r9.1]; exact gen_len _ _
      have R9 := Lib.hid r9
      have B3 := Lib.hid b3
      have hb3 := b3.size
      have hn97 : n9 ≤ 7 := by omega
      have hsbr := BR.out.size
      have HC : Hid (∀ W, Below w3.heap.size w3 W → W.cell? ⟨G, k * 4, none⟩ = some (.int .i64 (nb : Int)) ∧ W.cell? ⟨G, k * 4 + 1, none⟩ = some (.slice A4 n4 c4) ∧ W.cell? ⟨G, k * 4 + 2, none⟩ = some (.slice A5 n5 c5) ∧ W.cell? ⟨G, k * 4 + 3, none⟩ = some (.slice A6 n6 c6)) := fun W bW => by
        have bb := b3.trans (bW.mono hb3)
        exact ⟨one_cell bb hk0, one_cell bb hk1, one_cell bb hk2, one_cell bb hk3⟩
      have HSHP : Hid (∀ W, Below w3.heap.size w3 W → Calls Try.prog 64 #[.slice A9 n9 c9] W (fun e w' => ∃ A n c, e = .returned (.slice A n c) ∧ RI w' A n (bare (strR (sideB nb q.2.2 nb) nb)) ∧ Below w3.heap.size w3 w')) := fun W bW => by
        refine (l5Shape_any c9 (R9.out.below bW) (by omega)).mono ?_
        rintro e w4 ⟨A10, n10, c10, rfl, o10, r10, ⟨cp10, le10⟩, b4⟩
        rw [hn9] at r10
        exact ⟨A10, n10, c10, rfl, r10, bW.trans (b4.mono bW.size)⟩
      have HWT : Hid (∀ W, Below w3.heap.size w3 W → Calls Try.prog 69 #[.agg #[.int .i64 (nb : Int), .slice A4 n4 c4, .slice A5 n5 c5, .slice A6 n6 c6], .slice Ay ny cy] W (fun e w' => e = .returned (.int .i64 x) ∧ Below w3.heap.size w3 w' ∧ Below W.heap.size W w')) := fun W bW => by
        have bb := b3.trans (bW.mono hb3)
        refine (l5Weight_any c4 c5 c6 cy nb (R6.out.below bb) (HY.out.below (HB2.out.trans ((BR.out.trans (bb.mono hsbr)).mono hsz2))) hn17.1 HSI.out.1 HN6.out (by rw [← HY.out.1]; exact HSI.out.2.1) (fun j _ => HSI.out.2.2 j)).mono ?_
        rintro e w' ⟨rfl, hb⟩
        exact ⟨by rw [HX.out], bW.trans (hb.mono bW.size), hb⟩
      have HADD : Hid (∀ W A n c, Below w3.heap.size w3 W → RI W A n (bare (strR (sideB nb q.2.2 nb) nb)) → Calls Try.prog 63 #[.slice A0 n0 c0, .slice A n c, .int .i64 x] W (fun e w' => ∃ A1 n1 c1 cells1, e = .returned (.slice A1 n1 c1) ∧ Hid (OP w' w.heap.size w.heap.size (.slice A1 n1 c1) (addP s (bare (strR (sideB nb q.2.2 nb) nb)) x) cells1) ∧ Hid (Below w2.heap.size w2 w') ∧ Below w3.heap.size w3 w')) := fun W A n c bW r10 => by
        have b4w : Below wr.heap.size wr W := B3.out.trans (bW.mono hb3)
        have o4 := OP.below OR.out b4w
        have hsb := b4w.size
        refine (l4AddW_any c x o4 r10 (by rw [← r10.1]; unfold bare; rw [List.length_take]; have := strR_len (sideB nb q.2.2 nb) nb; omega) HSM.out.1 HSM.out.2 (by omega) (by omega)).mono ?_
        rintro e w5 ⟨A11, n11, c11, cells5, rfl, o5, l5, ⟨cp11, le11⟩, b5⟩
        refine ⟨A11, n11, c11, cells5, rfl, OF.mono o5 (by omega) (by omega), ?_, bW.trans (b5.mono bW.size)⟩
        have hh := b4w.trans (b5.mono hsb)
        exact BR.out.trans (hh.mono hsbr)
      clear t3 b3 r9 hn9 hk0 hk1 hk2 hk3
      go_wp2_with fail
      go_region_held3 (fun w' => w'.cell? ⟨G, k * 4, none⟩ = some (.int .i64 (nb : Int)) ∧ w'.cell? ⟨G, k * 4 + 1, none⟩ = some (.slice A4 n4 c4) ∧ w'.cell? ⟨G, k * 4 + 2, none⟩ = some (.slice A5 n5 c5) ∧ w'.cell? ⟨G, k * 4 + 3, none⟩ = some (.slice A6 n6 c6)) (first | exact HC.out _ b6 | exact HC.out _ b4 | exact HC.out _ b5 | exact HC.out _ (Below.refl _ _) | exact HC.out _ ⟨rfl, rfl, rfl, Nat.le_refl _, fun _ _ => rfl⟩) (first
        | (go_at_call 64; (with_reducible refine (HSHP.out _ ?_).mono ?_); (first | exact b5 | exact ⟨b5.os, b5.tape, b5.output, b5.size, b5.block⟩ | exact ⟨rfl, rfl, rfl, Nat.le_refl _, fun _ _ => rfl⟩); rintro e w4 ⟨A10, n10, c10, rfl, r10, b4⟩)
        | (go_at_call 69; (with_reducible refine (HWT.out _ ?_).mono ?_); (first | exact b4 | exact ⟨b4.os, b4.tape, b4.output, b4.size, b4.block⟩ | exact ⟨rfl, rfl, rfl, Nat.le_refl _, fun _ _ => rfl⟩); rintro e w5 ⟨rfl, b5, b5x⟩)
        | (go_at_call 63; (with_reducible refine (HADD.out _ _ _ _ ?_ ?_).mono ?_); (first | exact b5 | exact b4 | exact ⟨b5.os, b5.tape, b5.output, b5.size, b5.block⟩ | exact ⟨b4.os, b4.tape, b4.output, b4.size, b4.block⟩); (first | exact r10 | exact r10.below b5x | exact r10.drewN _); rintro e w6 ⟨A11, n11, c11, cells5, rfl, HO5, HB5, b6⟩))
      all_goals go_wp2
      all_goals go_roundw
      all_goals first
        | (case rel => exact ⟨k + 1, cells5, by omega, by go_num, by rw [HSTEP.out, ← HXV.out]; exact HO5.out, HB5.out⟩)
        | skip
      case measure => simp [intOf]; omega
    · obtain rfl : k = N2 := by omega
      have HF : Hid (wpB a b Y = s) := by show _ = _; rw [HE.out, HS.out, ← HN.out, List.take_length]
      have HFIN : Hid (MakesPB w (wpB a b Y) (wpOk a b Y) (.returned (.tuple #[.slice A0 n0 c0, .bool true])) wr) := by rw [HOK'.out, HF.out]; exact MakesPB.of OR.out (HB2.out.trans (BR.out.mono HB2.out.size))
      go_wp2
      go_ret2
      exact HFIN.out
end Go.Proofs.Ytnljlophgolejaa

/- How large a weighted product is. -/
namespace Go.Proofs.Ytnljlophgolejaa
open Go.RowKit
theorem wpB_small {a b Y : List Int} : (wpB a b Y).length ≤ 300000000 ∧ ∀ x ∈ wpB a b Y, x.1.length ≤ 16 := by
  unfold wpB
  split
  · rename_i h
    unfold wpOk at h
    rw [Bool.and_eq_true] at h
    have h1 := (alike_str h.1).1
    have h5 := (shB_in h.2).1
    have h2 := spAll_len5w (wt := true) (b := b) h1 h5
    have h3 := proS_len (n := a.length) (f := wtF a.length Y) (spAll true a b) []
    have h4 : (nz ((spAll true a b).foldl (proS a.length (wtF a.length Y)) [])).length ≤ ((spAll true a b).foldl (proS a.length (wtF a.length Y)) []).length := List.length_filter_le _ _
    simp only [List.length_nil] at h3
    exact ⟨by omega, fun x hx => Nat.le_trans (proS_short _ _ (by simp) x (nz_mem hx)) (by omega)⟩
  · simp
end Go.Proofs.Ytnljlophgolejaa
