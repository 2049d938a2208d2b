/- The walk of FnGromov. -/
import Derived.Test.YtmodpicemlkbjaaQDrawG
import Derived.Test.YtmodpicemlkbjaaBytes
import Derived.ShutString
import Derived.ChangeOld
namespace Go.Proofs.Ytmodpicemlkbjaa.lawGromov
open Go.ChangeShapes Go.WideShapes Go.ChangeAt Go.RowKit
open Go.ChangeMaps (open_string shut_string)

def look : List (Int × Int) → Int → Int
  | [], _ => 0
  | x :: r, d => if x.1 = d then x.2 else look r d
theorem cntP_look {s : List Int} {d : Int} : ∀ {L : List (List Int × Int)}, Keyed L → cntP L (d :: s) = look (atS L s) d
  | [], _ => rfl
  | x :: r, h => by
    have ih := cntP_look (s := s) (d := d) (L := r) fun y hy => h y (List.mem_cons_of_mem _ hy)
    have hx := h x List.mem_cons_self
    rcases x with ⟨k, cn⟩
    cases k with
    | nil => exact absurd rfl hx
    | cons q t =>
      rw [cntP, ih]
      by_cases ht : t = s
      · subst ht
        have e : atS ((q :: t, cn) :: r) t = (q, cn) :: atS r t := by simp [atS]
        rw [e, look]
        by_cases hq : q = d
        · rw [if_pos (by rw [hq]), if_pos hq]
        · rw [if_neg (fun e => hq (by injection e)), if_neg hq]
      · have e : atS ((q :: t, cn) :: r) s = atS r s := by simp [atS, ht]
        rw [e, if_neg (fun e => ht (by injection e))]
section
variable {K M : Nat} {a b c : List Int} (h : 2 ≤ K + M ∧ K + M ≤ 5) (d : Int)
theorem qOk_flip (a b : List Int) (k n : Int) : qOk a b k n = qOk b a k n := by
  unfold qOk
  rcases inBoxB a k n <;> rcases inBoxB b k n <;> simp
theorem qOk_split {a b : List Int} {k n : Int} (h : qOk a b k n = true) : inBoxB a k n = true ∧ inBoxB b k n = true ∧ k ≠ 0 := by
  simpa [qOk] using h
include h in
theorem gw_flip : gwB a b c K ((K : Int) + M) d = gwB b a c K ((K : Int) + M) d := by
  rcases h1 : qOk a b K ((K : Int) + M) with _ | _
  · have h2 := h1
    rw [qOk_flip] at h2
    rw [gwB_no (.inl h1), gwB_no (.inl h2)]
  · have h2 := h1
    rw [qOk_flip] at h2
    obtain ⟨ha, hb, hk⟩ := qOk_split h1
    unfold gwB
    rw [h1, h2, (pairQ_at (by omega) (by omega) (shIn_of ha) (shIn_of hb)).2.2]
include h in
theorem gw_turn : gwB a b c K ((K : Int) + M) d = gwB a c b K ((K : Int) + M) d := by
  rcases h1 : qOk a b K ((K : Int) + M) with _ | _
  · rw [gwB_no (.inl h1)]
    rcases h2 : qOk a c K ((K : Int) + M) with _ | _
    · rw [gwB_no (.inl h2)]
    · obtain ⟨ha, hc, hk⟩ := qOk_split h2
      have hb : inBoxB b K ((K : Int) + M) = false := by
        rcases hb : inBoxB b K ((K : Int) + M) with _ | _
        · rfl
        · rw [show qOk a b K ((K : Int) + M) = true by simp only [qOk, ha, hb, Bool.and_eq_true, Bool.not_eq_true', decide_eq_false_iff_not]; exact ⟨trivial, trivial, hk⟩] at h1
          cases h1
      rw [gwB_no (.inr hb)]
  · obtain ⟨ha, hb, hk⟩ := qOk_split h1
    rcases hc : inBoxB c K ((K : Int) + M) with _ | _
    · rw [gwB_no (.inr hc)]
      have h2 : qOk a c K ((K : Int) + M) = false := by simp [qOk, hc]
      rw [gwB_no (.inl h2)]
    · have h2 : qOk a c K ((K : Int) + M) = true := by simp only [qOk, ha, hc, Bool.and_eq_true, Bool.not_eq_true', decide_eq_false_iff_not]; exact ⟨trivial, trivial, hk⟩
      rw [gwB_yes h1 hc, gwB_yes h2 hb, cntP_look (fun x hx => ((qp_in h1).2 x hx).1), cntP_look (fun x hx => ((qp_in h2).2 x hx).1), tripQ_at h (by omega) (shIn_of ha) (shIn_of hb) (shIn_of hc)]
end

set_option maxRecDepth 100000 in
set_option maxHeartbeats 4000000 in
theorem walk {A : Option Addr} {n : Nat} (c : Nat) {w : World} (hx : RB w A n) : Calls Try.prog 11 #[.slice A n c] w (Law w) := by
  obtain ⟨w0, ew⟩ : ∃ w0 : World, w0 = w := ⟨_, rfl⟩
  subst ew
  rcases hbig : decide (1048576 < n) with _ | _
  · go_enter Try.func11, Try.ntmps11
    go_wp2_with (go_at_call 19; refine (big_any _).mono ?_; rintro e w' ⟨rfl, q0, rfl⟩)
    clear hbig
    refine (drawGW_any _ (hx.below (Quiet.below ⟨_, rfl⟩))).mono ?_
    rintro e w1 ⟨A1, n1, c1, A2, n2, c2, A3, n3, c3, l1, l2, l3, K, M, d, rfl, hKM, hl1, hl2, hl3, o1, o2, o3, b1⟩
    have g1 : Below w0.heap.size w0 w1 := bnext (Quiet.below ⟨_, rfl⟩) b1 (by simp)
    have hn1 : n1 ≤ 100 := by rw [← o1.ri.1]; exact hl1
    have hn2 : n2 ≤ 100 := by rw [← o2.ri.1]; exact hl2
    have hn3 : n3 ≤ 100 := by rw [← o3.ri.1]; exact hl3
    obtain ⟨x, hx1⟩ : ∃ x, x = gwB l1 l2 l3 K ((K : Int) + M) d := ⟨_, rfl⟩
    have hx2 : x = gwB l2 l1 l3 K ((K : Int) + M) d := by rw [hx1, gw_flip hKM]
    have hx3 : x = gwB l1 l3 l2 K ((K : Int) + M) d := by rw [hx1, gw_turn hKM]
    have hx4 : x = gwB l3 l2 l1 K ((K : Int) + M) d := by rw [hx1, gw_flip hKM, gw_turn hKM, gw_flip hKM]
    have H1 : Hid (∀ W, Below w1.heap.size w1 W → Calls Try.prog 47 #[.slice A1 n1 c1, .slice A2 n2 c2, .slice A3 n3 c3, .int .i64 (K : Int), .int .i64 ((K : Int) + M), .int .i64 d] W (GivesB W (.int .i64 x))) := fun W bW => by rw [hx1]; exact iGW_any c1 c2 c3 _ _ d (OI.below o1 bW) (OI.below o2 bW) (o3.ri.below bW) (by omega) (by omega) (by omega)
    have H5 : Hid (∀ W, Below w1.heap.size w1 W → Calls Try.prog 46 #[.slice A1 n1 c1, .slice A2 n2 c2, .slice A3 n3 c3, .int .i64 (K : Int), .int .i64 ((K : Int) + M), .int .i64 d] W (GivesB W (.int .i64 x))) := fun W bW => by rw [hx1]; exact sGW_any c1 c2 c3 _ _ d (OI.below o1 bW) (OI.below o2 bW) (o3.ri.below bW) (by omega) (by omega) (by omega)
    have H2 : Hid (∀ W, Below w1.heap.size w1 W → Calls Try.prog 47 #[.slice A2 n2 c2, .slice A1 n1 c1, .slice A3 n3 c3, .int .i64 (K : Int), .int .i64 ((K : Int) + M), .int .i64 d] W (GivesB W (.int .i64 x))) := fun W bW => by rw [hx2]; exact iGW_any c2 c1 c3 _ _ d (OI.below o2 bW) (OI.below o1 bW) (o3.ri.below bW) (by omega) (by omega) (by omega)
    have H3 : Hid (∀ W, Below w1.heap.size w1 W → Calls Try.prog 47 #[.slice A1 n1 c1, .slice A3 n3 c3, .slice A2 n2 c2, .int .i64 (K : Int), .int .i64 ((K : Int) + M), .int .i64 d] W (GivesB W (.int .i64 x))) := fun W bW => by rw [hx3]; exact iGW_any c1 c3 c2 _ _ d (OI.below o1 bW) (OI.below o3 bW) (o2.ri.below bW) (by omega) (by omega) (by omega)
    have H4 : Hid (∀ W, Below w1.heap.size w1 W → Calls Try.prog 47 #[.slice A3 n3 c3, .slice A2 n2 c2, .slice A1 n1 c1, .int .i64 (K : Int), .int .i64 ((K : Int) + M), .int .i64 d] W (GivesB W (.int .i64 x))) := fun W bW => by rw [hx4]; exact iGW_any c3 c2 c1 _ _ d (OI.below o3 bW) (OI.below o2 bW) (o1.ri.below bW) (by omega) (by omega) (by omega)
    have hxx : (x == x) = true := by simp
    clear hx1 hx2 hx3 hx4 o1 o2 o3 b1 hl1 hl2 hl3
    go_wp2_with fail
    refine (H1.out _ (Below.refl _ _)).mono ?_
    rintro e w2 ⟨rfl, b2⟩
    have g2 := bnext g1 b2 g1.size
    go_wp2_with fail
    refine (H5.out _ b2).mono ?_
    rintro e w3 ⟨rfl, b3'⟩
    have b3 : Below w1.heap.size w1 w3 := b2.trans (b3'.mono b2.size)
    clear b3'
    go_wp2_with fail
    refine (H2.out _ b3).mono ?_
    rintro e w4 ⟨rfl, b4'⟩
    have b4 : Below w1.heap.size w1 w4 := b3.trans (b4'.mono b3.size)
    clear b4'
    go_wp2_with fail
    refine (H3.out _ b4).mono ?_
    rintro e w5 ⟨rfl, b5'⟩
    have b5 : Below w1.heap.size w1 w5 := b4.trans (b5'.mono b4.size)
    clear b5'
    go_wp2_with fail
    refine (H4.out _ b5).mono ?_
    rintro e w6 ⟨rfl, b6'⟩
    have b6 : Below w1.heap.size w1 w6 := b5.trans (b6'.mono b5.size)
    have g6 := bnext g1 b6 g1.size
    clear b6'
    go_wp2
    go_ret
    exact ⟨rfl, g6⟩
  · go_enter Try.func11, Try.ntmps11
    go_wp2_with (go_at_call 19; refine (big_any _).mono ?_; rintro e w' ⟨rfl, q0, rfl⟩)
    go_ret
    exact ⟨rfl, Quiet.below ⟨_, rfl⟩⟩
end Go.Proofs.Ytmodpicemlkbjaa.lawGromov
