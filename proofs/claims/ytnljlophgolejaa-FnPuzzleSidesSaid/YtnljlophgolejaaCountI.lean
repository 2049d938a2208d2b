/- CountPuzzles of the program. -/
import Derived.Test.YtnljlophgolejaaAlike
import Derived.Test.YtnljlophgolejaaFillS
namespace Go.Proofs.Ytnljlophgolejaa
open Go.RowKit

/-- The number of puzzles with three sides. -/
def cntPz (a b c : List Int) : Int := if alikeB a b = true ∧ alikeB a c = true then (spAll false a b).foldl (cntS a.length c) 0 else -1
theorem tl_okP {wt : Bool} {a b : List Int} (h : alikeB a b = true) : ∀ q ∈ tlAll wt a b, okP a.length q := fun q hq => by
  obtain ⟨h1, h2, h3, -⟩ := alike_str h
  exact puz_wt (Good.puz h1 h2 h3 (tlAll_good h1 q hq))

set_option maxRecDepth 100000 in
set_option maxHeartbeats 1000000 in
theorem iCount_any {Aa Ab Ac : Option Addr} {na nb nc : Nat} {a b c : List Int} {w : World} (ca cb cc : Nat) (ha : RI w Aa na a) (hb : RI w Ab nb b) (hc : RI w Ac nc c) (hna : na ≤ 1000000000) (hnb : nb ≤ 1000000000) (hnc : nc ≤ 1000000000) :
    Calls Try.prog 14 #[.slice Aa na ca, .slice Ab nb cb, .slice Ac nc cc] w (GivesB w (.int .i64 (cntPz a b c))) := by
  have HA := Lib.hid ha
  have HB := Lib.hid hb
  have HC := Lib.hid hc
  obtain ⟨t1, ht1⟩ : ∃ t, t = alikeB a b := ⟨_, rfl⟩
  obtain ⟨t2, ht2⟩ : ∃ t, t = alikeB a c := ⟨_, rfl⟩
  have H1 : Hid (∀ W, Below w.heap.size w W → Calls Try.prog 56 #[.slice Aa na ca, .slice Ab nb cb] W (Gives W (.bool t1))) := fun W bW => by rw [ht1]; exact iAlike_any _ _ (HA.out.below bW) (HB.out.below bW) hna hnb
  have H2 : Hid (∀ W, Below w.heap.size w W → Calls Try.prog 56 #[.slice Aa na ca, .slice Ac nc cc] W (Gives W (.bool t2))) := fun W bW => by rw [ht2]; exact iAlike_any _ _ (HA.out.below bW) (HC.out.below bW) hna hnc
  have HT1 := Lib.hid ht1
  have HT2 := Lib.hid ht2
  have bx : Below w.heap.size w (w.alloc (.cells #[.slice Ac nc cc] 22)) := (Below.refl _ _).alloc (Nat.le_refl _) _
  have HBX := Lib.hid bx
  clear ht1 ht2 ha hb hc bx
  rcases t1 with _ | _
  · have HE : Hid (cntPz a b c = -1) := by show _ = _; rw [cntPz, if_neg (by rw [← HT1.out]; simp)]
    go_enter Try.func14, Try.ntmps14
    go_wp2_with (first
      | (go_at_call 56; (with_reducible refine (H1.out _ ?_).mono ?_); (exact HBX.out); rintro e w' ⟨rfl, q1, rfl⟩))
    go_ret
    exact ⟨by rw [HE.out]; rfl, below_drewN HBX.out _⟩
  rcases t2 with _ | _
  · have HE : Hid (cntPz a b c = -1) := by show _ = _; rw [cntPz, if_neg (by rw [← HT2.out]; simp)]
    go_enter Try.func14, Try.ntmps14
    go_wp2_with (first
      | (go_at_call 56; (with_reducible refine (H1.out _ ?_).mono ?_); (exact HBX.out); rintro e w' ⟨rfl, q1, rfl⟩)
      | (go_at_call 56; (with_reducible refine (H2.out _ ?_).mono ?_); (exact below_drewN HBX.out _); rintro e w' ⟨rfl, q2, rfl⟩))
    go_ret
    exact ⟨by rw [HE.out]; rfl, below_drewN HBX.out _⟩
  obtain ⟨h1, h2, h3, h4⟩ := alike_str HT1.out.symm
  have hl7 := (isStrB_iff.1 h1).1
  have hna2 : a.length = na := HA.out.1
  have hnb2 : b.length = na := by rw [← h3, hna2]
  have hnn : nb = na := by rw [← HB.out.1, hnb2]
  subst hnn
  have HE : Hid (cntPz a b c = (spAll false a b).foldl (cntS nb c) 0) := by show _ = _; rw [cntPz, if_pos ⟨HT1.out.symm, HT2.out.symm⟩, hna2]
  have HS1 := Lib.hid h1
  have HOK : Hid (∀ q ∈ tlAll false a b, okP nb q) := by have := tl_okP (wt := false) HT1.out.symm; rw [hna2] at this; exact this
  have hn17 : 1 ≤ nb ∧ nb ≤ 7 := by omega
  clear h1 h2 h3 h4 hl7 hna2 hnb2
  go_enter Try.func14, Try.ntmps14
  go_wp2_with (first
    | (go_at_call 56; (with_reducible refine (H1.out _ ?_).mono ?_); (exact HBX.out); rintro e w' ⟨rfl, q1, rfl⟩)
    | (go_at_call 56; (with_reducible refine (H2.out _ ?_).mono ?_); (exact below_drewN HBX.out _); rintro e w' ⟨rfl, q2, rfl⟩))
  obtain ⟨wy, ewy⟩ : ∃ W : World, W = (w.alloc (.cells #[.slice Ac nc cc] 22)).drewN (q1 + q2) := ⟨_, rfl⟩
  have by_ : Below w.heap.size w wy := by rw [ewy]; exact below_drewN HBX.out _
  have ky : BK wy w.heap.size 22 [.slice Ac nc cc] := by rw [ewy]; exact BK.new w _ _
  have hsy : wy.heap.size = w.heap.size + 1 := by rw [ewy]; show (w.alloc _).heap.size = _; simp
  obtain ⟨wz, ewz⟩ : ∃ W : World, W = wy.alloc (.cells #[.int .i64 0] 3) := ⟨_, rfl⟩
  have bz : Below w.heap.size w wz := by rw [ewz]; exact by_.alloc by_.size _
  have kz1 : BK wz w.heap.size 22 [.slice Ac nc cc] := by rw [ewz]; exact ky.alloc _
  have kz2 : BK wz (w.heap.size + 1) 3 [.int .i64 0] := by rw [ewz, ← hsy]; exact BK.new wy _ _
  rw [← ewy, ← ewz]
  clear ewy by_ ky hsy ewz
  have hI : CntI w w.heap.size (w.heap.size + 1) Ac nc cc wz 0 (fun k => k = w.heap.size ∨ k = w.heap.size + 1) := ⟨fun _ => Iff.rfl, kz1, kz2, bz⟩
  have hlen : (tlAll false a b).length ≤ 268435456 := by rw [tlAll_eq HS1.out]; exact spAll_len7 HS1.out
  refine (tilings_any (n := nb) false w a b Aa Ab ca cb (cntC (n := nb) (c := c) HC.out hnc ⟨Nat.le_refl _, by omega, by omega⟩) hn17.2 hn17.1 HA.out HB.out hI bz ⟨by omega, by omega⟩ HOK.out).mono ?_
  rintro e w3 ⟨rfl, O', i3, -, -⟩
  rw [seeAll_all (fun _ _ => rfl), tlAll_eq HS1.out, ← HE.out] at i3
  have g3 := i3.bn.cell (j := 0) rfl
  have b3 := Lib.hid i3.bel
  clear i3 hlen hI bz kz1 kz2
  go_wp2
  go_ret
  exact ⟨rfl, b3.out⟩
end Go.Proofs.Ytnljlophgolejaa

/- l5Puzzles and CountPuzzles of the reference. -/
namespace Go.Proofs.Ytnljlophgolejaa
open Go.RowKit

theorem fill_any (wt : Bool) (w0 : World) (n : Nat) (a b : List Int) (Aa Ab : Option Addr) (ca cb : Nat) (hn7 : n ≤ 7) (ha : RI w0 Aa n a) (hb : RI w0 Ab n b) (hlab : ∀ j, 0 ≤ nth a j ∧ nth a j ≤ 2) : ∀ d, FillC wt w0 n a b Aa Ab ca cb d
  | 0 => fill_end wt w0 n a b Aa Ab ca cb hn7
  | d + 1 => fill_step wt w0 n a b Aa Ab ca cb hn7 ha hb hlab d (fill_any wt w0 n a b Aa Ab ca cb hn7 ha hb hlab d)

/-- What l5Puzzles leaves. -/
def ListsZ (w : World) (n : Int) (ps : List PZ) : Ending → World → Prop := fun e w' =>
  ∃ A N c cells, e = .returned (.slice A N c) ∧ OZ w' w.heap.size w.heap.size (.slice A N c) n ps cells ∧ ps.length = N ∧ Below w.heap.size w w'
set_option maxHeartbeats 1000000 in
theorem sPuzzles_any {Aa Ab : Option Addr} {n : Nat} {a b : List Int} {w : World} (ca cb : Nat) (wt : Bool) (ha : RI w Aa n a) (hb : RI w Ab n b) (hs : isStrB a = true) (hN : (spAll wt a b).length ≤ 100000000000) :
    Calls Try.prog 53 #[.slice Aa n ca, .slice Ab n cb, .bool wt] w (ListsZ w n (spAll wt a b)) := by
  have hl := (isStrB_iff.1 hs).1
  rw [ha.1] at hl
  obtain ⟨x, hx⟩ : ∃ x, x = nth a (n - 1) := ⟨_, rfl⟩
  obtain ⟨ad, hA, hc⟩ := ha.cell (k := n - 1) (by omega)
  rw [← hx] at hc
  have hx2 := str_labels hs (n - 1)
  rw [← hx] at hx2
  have W1 : IntKind.i64.wrap ((n : Int) - 1) = ((n - 1 : Nat) : Int) := by rw [show (n : Int) - 1 = ((n - 1 : Nat) : Int) by omega]; exact IntWalk.i64_in _ (by omega)
  have hi : n - 1 < n := by omega
  have hE : spAll wt a b = [] ++ sp wt n a b (tri n) 0 0 x ([], [], []) := by rw [spAll, ha.1, hx]; rfl
  have HF : Hid (∀ v cells w1, w1 = w.alloc (.cells #[] 53) → OZ w1 w.heap.size w.heap.size v n [] cells → Calls Try.prog 92 #[.slice Aa n ca, .slice Ab n cb, .bool wt, .agg #[.int .i64 (n : Int), .slice none 0 0, .slice none 0 0, .slice none 0 0], .int .i64 0, .int .i64 0, .int .i64 x, v] w1 (FPost w1 w.heap.size v n (spAll wt a b))) := fun v cells w1 e ho => by
    have bw : Below w.heap.size w w1 := by rw [e]; exact (Below.refl _ _).alloc (Nat.le_refl _) _
    rw [hE]
    have rn : RT w1 none 0 [] := ⟨RI.nil_, fun _ h => by cases h⟩
    refine fill_any wt w n a b Aa Ab ca cb hl.2 ha hb (str_labels hs) (tri n) w1 0 0 x ([], [], []) none none none 0 0 0 0 0 0 v [] cells bw (.inl (by omega)) (Nat.le_refl _) (by rw [tri_zero]; omega) hx2 rn rn rn rfl rfl rfl (fun j => by simp [nth]) ho ?_
    rw [hE] at hN
    simpa using hN
  subst hA
  clear hx hE ha hb hN
  go_enter Try.func53, Try.ntmps53
  go_wp2_with fail
  refine (HF.out _ [] _ rfl (OZ.lit w w.heap.size w.heap.size n (Nat.le_refl _))).mono ?_
  rintro e w2 ⟨v', cs', rfl, o2, g2, fr2⟩
  obtain ⟨A3, n3, c3, rfl, hn3, -, -⟩ := o2.form
  have b2 : Below w.heap.size w w2 := ((Below.refl _ _).alloc (Nat.le_refl _) (.cells #[] 53)).grown g2 (by simp) (fun k hk => by simp [Value.ownBlock] at hk; omega)
  have O2 := Lib.hid o2
  have HN3 := Lib.hid hn3
  have B2 := Lib.hid b2
  clear o2 g2 fr2 hn3 b2
  go_wp2
  go_ret
  exact ⟨A3, n3, c3, cs', rfl, O2.out, HN3.out, B2.out⟩

theorem foldl_cnt_le (n : Nat) (c : List Int) (l : List PZ) : ∀ s, s ≤ l.foldl (cntS n c) s ∧ l.foldl (cntS n c) s ≤ s + l.length := by
  induction l with
  | nil => intro s; simp
  | cons p l ih =>
    intro s
    have h1 := ih (cntS n c s p)
    have h2 := cntS_le (n := n) (c := c) (s := s) (p := p)
    rw [List.foldl_cons, List.length_cons]
    omega
theorem takeZ {ps : List PZ} {k : Nat} (h : k < ps.length) : ps.take (k + 1) = ps.take k ++ [nthZ ps k] := by rw [nthZ_lt h]; exact List.take_succ_eq_append_getElem h

set_option maxRecDepth 100000 in
set_option maxHeartbeats 2000000 in
theorem sCount_any {Aa Ab Ac : Option Addr} {na nb nc : Nat} {a b c : List Int} {w : World} (ca cb cc : Nat) (ha : RI w Aa na a) (hb : RI w Ab nb b) (hc : RI w Ac nc c) (hna : na ≤ 1000000000) (hnb : nb ≤ 1000000000) (hnc : nc ≤ 1000000000) :
    Calls Try.prog 12 #[.slice Aa na ca, .slice Ab nb cb, .slice Ac nc cc] w (GivesB w (.int .i64 (cntPz a b c))) := by
  have HA := Lib.hid ha
  have HB := Lib.hid hb
  have HC := Lib.hid hc
  obtain ⟨t1, ht1⟩ : ∃ t, t = alikeB a b := ⟨_, rfl⟩
  obtain ⟨t2, ht2⟩ : ∃ t, t = alikeB a c := ⟨_, rfl⟩
  have H1 : Hid (∀ W, Below w.heap.size w W → Calls Try.prog 52 #[.slice Aa na ca, .slice Ab nb cb] W (Gives W (.bool t1))) := fun W bW => by rw [ht1]; exact sTwo_any _ _ (HA.out.below bW) (HB.out.below bW) hna hnb
  have H2 : Hid (∀ W, Below w.heap.size w W → Calls Try.prog 52 #[.slice Aa na ca, .slice Ac nc cc] W (Gives W (.bool t2))) := fun W bW => by rw [ht2]; exact sTwo_any _ _ (HA.out.below bW) (HC.out.below bW) hna hnc
  have HT1 := Lib.hid ht1
  have HT2 := Lib.hid ht2
  clear ht1 ht2 ha hb hc
  rcases t1 with _ | _
  · have HE : Hid (cntPz a b c = -1) := by show _ = _; rw [cntPz, if_neg (by rw [← HT1.out]; simp)]
    go_enter Try.func12, Try.ntmps12
    go_wp2_with (first
      | (go_at_call 52; (with_reducible refine (H1.out _ ?_).mono ?_); (exact Below.refl _ _); rintro e w' ⟨rfl, q1, rfl⟩))
    go_ret
    exact ⟨by rw [HE.out]; rfl, Quiet.below ⟨_, rfl⟩⟩
  rcases t2 with _ | _
  · have HE : Hid (cntPz a b c = -1) := by show _ = _; rw [cntPz, if_neg (by rw [← HT2.out]; simp)]
    go_enter Try.func12, Try.ntmps12
    go_wp2_with (first
      | (go_at_call 52; (with_reducible refine (H1.out _ ?_).mono ?_); (exact Below.refl _ _); rintro e w' ⟨rfl, q1, rfl⟩)
      | (go_at_call 52; (with_reducible refine (H2.out _ ?_).mono ?_); (exact Quiet.below ⟨_, rfl⟩); rintro e w' ⟨rfl, q2, rfl⟩))
    go_ret
    exact ⟨by rw [HE.out]; rfl, Quiet.below ⟨_, rfl⟩⟩
  obtain ⟨h1, h2, h3, h4⟩ := alike_str HT1.out.symm
  have hl7 := (isStrB_iff.1 h1).1
  have hna2 : a.length = na := HA.out.1
  have hnb2 : b.length = na := by rw [← h3, hna2]
  have hnn : nb = na := by rw [← HB.out.1, hnb2]
  subst hnn
  obtain ⟨PS, hPS⟩ : ∃ PS, PS = spAll false a b := ⟨_, rfl⟩
  have HE : Hid (cntPz a b c = PS.foldl (cntS nb c) 0) := by show _ = _; rw [cntPz, if_pos ⟨HT1.out.symm, HT2.out.symm⟩, hna2, hPS]
  have hlen : PS.length ≤ 268435456 := by rw [hPS]; exact spAll_len7 h1
  have HOK : Hid (∀ q ∈ PS, okP nb q) := by
    show ∀ q ∈ PS, okP nb q
    have := tl_okP (wt := false) HT1.out.symm
    rw [hna2, tlAll_eq h1, ← hPS] at this
    exact this
  have hn17 : 1 ≤ nb ∧ nb ≤ 7 := by omega
  have HP : Hid (∀ W, Below w.heap.size w W → Calls Try.prog 53 #[.slice Aa nb ca, .slice Ab nb cb, .bool false] W (ListsZ W nb PS)) := fun W bW => by
    rw [hPS]
    exact sPuzzles_any ca cb false (HA.out.below bW) (HB.out.below bW) h1 (by rw [← hPS]; omega)
  clear h1 h2 h3 h4 hl7 hna2 hnb2 hPS
  go_enter Try.func12, Try.ntmps12
  go_wp2_with (first
    | (go_at_call 52; (with_reducible refine (H1.out _ ?_).mono ?_); (exact Below.refl _ _); rintro e w' ⟨rfl, q1, rfl⟩)
    | (go_at_call 52; (with_reducible refine (H2.out _ ?_).mono ?_); (exact Quiet.below ⟨_, rfl⟩); rintro e w' ⟨rfl, q2, rfl⟩)
    | (go_at_call 53; (with_reducible refine (HP.out _ ?_).mono ?_); (exact Quiet.below ⟨_, rfl⟩); rintro e w2 ⟨A2, N2, c2, cs2, rfl, o2, l2, b2'⟩))
  have b2 : Below w.heap.size w w2 := bnext (Quiet.below ⟨_, rfl⟩) b2' (by simp)
  have HN := Lib.hid l2
  have HO := Lib.hid o2
  have HB2 := Lib.hid b2
  have hN2 : N2 ≤ 268435456 := by omega
  clear l2 o2 b2 b2'
  go_loopw [7, 9, 10, 11, 12] (fun s i _ _ _ wr => ∃ k : Nat, k ≤ N2 ∧ i = .int .i64 (k : Int) ∧ s = .int .i64 ((PS.take k).foldl (cntS nb c) 0) ∧ Hid (Below w2.heap.size w2 wr)) (fun _ i _ _ _ _ => N2 - (intOf i).toNat)
  case atStart => exact ⟨0, Nat.zero_le _, rfl, rfl, Below.refl _ _⟩
  case round =>
    obtain ⟨k, hk, rfl, rfl, BR⟩ := hrel
    obtain ⟨s, hs⟩ : ∃ s, s = (PS.take k).foldl (cntS nb c) 0 := ⟨_, rfl⟩
    have HS := Lib.hid hs
    rw [← hs]
    by_cases hlt : k < N2
    · have hkl : k < PS.length := by rw [HN.out]; exact hlt
      have ho := OF.below HO.out BR.out
      obtain ⟨G, cg, hG, -⟩ := OF.shape ho (by omega)
      obtain ⟨rfl, e2, e3⟩ := slice_inj hG
      clear hG e2 e3
      obtain ⟨u1, u2, u3, k0, k1, k2, k3, o1, o2, o3⟩ := OZ.cell ho hkl
      obtain ⟨A4, n4, c4, rfl, r4, -⟩ := o1.form
      obtain ⟨A5, n5, c5, rfl, r5, -⟩ := o2.form
      obtain ⟨A6, n6, c6, rfl, r6, -⟩ := o3.form
      obtain ⟨q, hq⟩ : ∃ q, q = nthZ PS k := ⟨_, rfl⟩
      rw [← hq] at r4 r5 r6
      have hqok := HOK.out q (by rw [hq]; exact nthZ_mem hkl)
      have HQ := Lib.hid hq
      have hql := (puz_len hqok).1
      have hsb := foldl_cnt_le nb c (PS.take k) 0
      rw [← hs, List.length_take] at hsb
      have HSTEP : Hid ((PS.take (k + 1)).foldl (cntS nb c) 0 = cntS nb c s q) := by
        show _ = _
        rw [takeZ hkl, List.foldl_append, ← hs, ← hq]; rfl
      have hr4 := r4.1
      have hr5 := r5.1
      have hr6 := r6.1
      have hk0 : wr.cell? ⟨G, k * 4, none⟩ = some (.int .i64 (nb : Int)) := k0
      have hk1 : wr.cell? ⟨G, k * 4 + 1, none⟩ = some (.slice A4 n4 c4) := k1
      have hk2 : wr.cell? ⟨G, k * 4 + 2, none⟩ = some (.slice A5 n5 c5) := k2
      have hk3 : wr.cell? ⟨G, k * 4 + 3, none⟩ = some (.slice A6 n6 c6) := k3
      have R4 := Lib.hid r4
      have R5 := Lib.hid r5
      have R6 := Lib.hid r6
      have OKQ := Lib.hid hqok
      have hn4 : n4 ≤ 36 := by omega
      have hn5 : n5 ≤ 36 := by omega
      have hn6 : n6 ≤ 36 := by omega
      have hs0 : 0 ≤ s ∧ s ≤ 268435456 := by omega
      clear ho k0 k1 k2 k3 o1 o2 o3 r4 r5 r6 hq hs hqok hql hsb hr4 hr5 hr6
      go_wp2_with fail
      refine (l5Sides_any c4 c5 c6 nb R4.out R5.out R6.out (by omega) (by omega) (by omega) OKQ.out).mono ?_
      rintro e w3 ⟨A7, n7, c7, A8, n8, c8, A9, n9, c9, rfl, t3, b3⟩
      have B3 := Lib.hid (BR.out.trans (b3.mono BR.out.size))
      have r9 := t3.2.2.1.ri
      have hn9 : n9 = nb := by rw [← r9.1]; exact gen_len _ _
      have rc := HC.out.below (HB2.out.trans (B3.out.mono HB2.out.size))
      obtain ⟨t, ht⟩ : ∃ t, t = decide (sideB nb q.2.2 nb = c) := ⟨_, rfl⟩
      have HSM : Hid (∀ W, Below w3.heap.size w3 W → Calls Try.prog 55 #[.slice A9 n9 c9, .slice Ac nc cc] W (Gives W (.bool t))) := fun W bW => l1Same_any _ _ _ (r9.below bW) (rc.below bW) ht (by omega) (by omega)
      have HT := Lib.hid ht
      clear t3 b3 r9 rc ht hn9
      rcases t with _ | _
      · have HV : Hid (cntS nb c s q = s) := by show _ = _; rw [cntS, if_neg (of_decide_eq_false HT.out.symm)]
        go_wp2_with (go_at_call 55; (with_reducible refine (HSM.out _ ?_).mono ?_); (exact Below.refl _ _); rintro e w4 ⟨rfl, q4, rfl⟩)
        go_roundw
        case rel => exact ⟨k + 1, by omega, by go_num, by rw [HSTEP.out, HV.out], below_drewN B3.out _⟩
        case measure => simp [intOf]; omega
      · have HV : Hid (cntS nb c s q = s + 1) := by show _ = _; rw [cntS, if_pos (of_decide_eq_true HT.out.symm)]
        have W1 : IntKind.i64.wrap (s + 1) = s + 1 := IntWalk.i64_in _ (by omega)
        go_wp2_with (go_at_call 55; (with_reducible refine (HSM.out _ ?_).mono ?_); (exact Below.refl _ _); rintro e w4 ⟨rfl, q4, rfl⟩)
        go_roundw
        case rel => exact ⟨k + 1, by omega, by go_num, by rw [HSTEP.out, HV.out], below_drewN B3.out _⟩
        case measure => simp [intOf]; omega
    · obtain rfl : k = N2 := by omega
      have HF : Hid (cntPz a b c = s) := by show _ = _; rw [HE.out, HS.out, ← HN.out, List.take_length]
      go_wp2
      go_ret
      exact ⟨by rw [HF.out]; rfl, HB2.out.trans (BR.out.mono HB2.out.size)⟩
end Go.Proofs.Ytnljlophgolejaa
