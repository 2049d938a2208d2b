/- Numbers in decimal digits. -/
import Derived.Test.YtemafljipkcgcaaFmt
namespace Go.Proofs.Ytemafljipkcgcaa
open Go.RowKit

/-- The digits of a number. -/
def decN (m : Nat) : List UInt8 := if m < 10 then [(48 + m).toUInt8] else decN (m / 10) ++ [(48 + m % 10).toUInt8]
def dec (n : Int) : List UInt8 := if n < 0 then 45 :: decN n.natAbs else decN n.natAbs
theorem decN_small {m : Nat} (h : m < 10) : decN m = [(48 + m).toUInt8] := by rw [decN, if_pos h]
theorem decN_big {m : Nat} (h : ¬ m < 10) : decN m = decN (m / 10) ++ [(48 + m % 10).toUInt8] := by rw [decN, if_neg h]
theorem decN_len (k : Nat) : ∀ m, m < 10 ^ (k + 1) → (decN m).length ≤ k + 1 := by
  induction k with
  | zero => intro m h; rw [decN_small (by omega)]; simp
  | succ k ih =>
    intro m h
    by_cases hm : m < 10
    · rw [decN_small hm]; simp
    · rw [decN_big hm, List.length_append]
      have := ih (m / 10) (by rw [Nat.pow_succ] at h; omega)
      simp
      omega
theorem dec_len {n : Int} (h1 : -9223372036854775808 ≤ n) (h2 : n ≤ 9223372036854775807) : (dec n).length ≤ 20 := by
  have := decN_len 18 n.natAbs (by have : n.natAbs ≤ 9223372036854775808 := by omega
                                   have e : (10 : Nat) ^ (18 + 1) = 10000000000000000000 := by decide
                                   omega)
  unfold dec
  split <;> simp <;> omega
theorem dec_neg1 {n : Int} (h : n < 0) (h2 : -10 < n) : dec n = 45 :: dec (-n) := by
  have e : (-n).natAbs = n.natAbs := by omega
  rw [dec, if_pos h, dec, if_neg (by omega), e]
theorem dec_neg2 {n : Int} (h : n ≤ -10) : dec n = dec (n.tdiv 10) ++ dec (-(n.tmod 10)) := by
  have e1 : n.tdiv 10 = -((n.natAbs / 10 : Nat) : Int) := by
    obtain ⟨m, hm⟩ : ∃ m : Nat, n = -(m : Int) := ⟨n.natAbs, by omega⟩
    subst hm
    rw [Int.neg_tdiv, Int.natAbs_neg, Int.natAbs_natCast]
    rfl
  have e2 : n.tmod 10 = -((n.natAbs % 10 : Nat) : Int) := by
    obtain ⟨m, hm⟩ : ∃ m : Nat, n = -(m : Int) := ⟨n.natAbs, by omega⟩
    subst hm
    rw [Int.neg_tmod, Int.natAbs_neg, Int.natAbs_natCast]
    rfl
  rw [e1, e2, dec, if_pos (by omega), dec, if_pos (by omega), dec, if_neg (by omega), decN_big (m := n.natAbs) (by omega)]
  simp only [Int.natAbs_neg, Int.natAbs_natCast, Int.neg_neg]
  rw [decN_small (m := n.natAbs % 10) (by omega)]
  rfl
theorem dec_big {n : Int} (h : 10 ≤ n) : dec n = dec (n.tdiv 10) ++ [(48 + (n.tmod 10).toNat).toUInt8] := by
  obtain ⟨m, hm⟩ := Int.eq_ofNat_of_zero_le (a := n) (by omega)
  subst hm
  have e1 : ((m : Int).tdiv 10) = ((m / 10 : Nat) : Int) := rfl
  have e2 : ((m : Int).tmod 10) = ((m % 10 : Nat) : Int) := rfl
  rw [e1, e2, dec, if_neg (by omega), dec, if_neg (by omega)]
  simp only [Int.natAbs_natCast, Int.toNat_natCast]
  exact decN_big (by omega)
theorem dec_small {n : Int} (h1 : 0 ≤ n) (h2 : n < 10) : dec n = [(48 + n.toNat).toUInt8] := by
  rw [dec, if_neg (by omega), decN_small (by omega)]
  congr 2
  omega

theorem iDec_small {w : World} (x : Int) (h1 : 0 ≤ x) (h2 : x < 10) : Calls Try.prog 88 #[.int .i64 x] w (fun e w' => e = .returned (.string ⟨(dec x).toArray⟩) ∧ w' = w) := by
  rw [dec_small h1 h2]
  have hx : x = 0 ∨ x = 1 ∨ x = 2 ∨ x = 3 ∨ x = 4 ∨ x = 5 ∨ x = 6 ∨ x = 7 ∨ x = 8 ∨ x = 9 := by omega
  rcases hx with rfl | rfl | rfl | rfl | rfl | rfl | rfl | rfl | rfl | rfl
  all_goals
    go_enter Try.func88, Try.ntmps88
    go_wp2
    go_ret
    exact ⟨by rfl, rfl⟩
theorem str_size (l : List UInt8) : (⟨l.toArray⟩ : ByteArray).size = l.length := rfl
theorem str_cat (a b : List UInt8) : (⟨a.toArray⟩ : ByteArray) ++ ⟨b.toArray⟩ = ⟨(a ++ b).toArray⟩ := ByteArray.mk_append_mk a b
set_option maxHeartbeats 1000000 in
theorem iDec_any : ∀ (N : Nat) (n : Int) (w : World), n.natAbs < N → -9223372036854775808 ≤ n → n ≤ 9223372036854775807 →
    Calls Try.prog 88 #[.int .i64 n] w (fun e w' => e = .returned (.string ⟨(dec n).toArray⟩) ∧ w' = w) := by
  intro N
  induction N with
  | zero => intro n w h; omega
  | succ N ih =>
    intro n w h h1 h2
    by_cases hs : 0 ≤ n ∧ n < 10
    · exact iDec_small n hs.1 hs.2
    by_cases hn : -10 < n ∧ n < 0
    · have HD := Lib.hid (dec_neg1 hn.2 hn.1)
      have hl := dec_len (n := -n) (by omega) (by omega)
      have hc := fun W : World => iDec_small (w := W) (-n) (by omega) (by omega)
      obtain ⟨d, hd⟩ : ∃ d, d = dec (-n) := ⟨_, rfl⟩
      rw [← hd] at hl
      have HD2 := Lib.hid hd
      obtain ⟨a, b⟩ := hn
      have hls := str_size d
      go_enter Try.func88, Try.ntmps88
      rw [← hd] at hc
      clear hd
      go_wp2_with (go_at_call 88; refine (hc _).mono ?_; rintro e w' ⟨rfl, rfl⟩)
      go_ret
      exact ⟨by rw [HD.out, ← HD2.out]; show Ending.returned (Value.string (_ ++ _)) = _; rw [show (⟨#[45]⟩ : ByteArray) = ⟨[45].toArray⟩ from rfl, str_cat]; rfl, rfl⟩
    by_cases hm : n ≤ -10
    · have HD := Lib.hid (dec_neg2 hm)
      obtain ⟨q, hq⟩ : ∃ q, q = n.tdiv 10 := ⟨_, rfl⟩
      obtain ⟨r, hr⟩ : ∃ r, r = n.tmod 10 := ⟨_, rfl⟩
      have qr : 10 * q + r = n := by rw [hq, hr]; exact Int.mul_tdiv_add_tmod n 10
      have r1 : -10 < r := by rw [hr]; exact Int.neg_lt_of_neg_lt (by have := Int.tmod_lt_of_pos (-n) (show (0 : Int) < 10 by omega); rwa [Int.neg_tmod] at this)
      have r2 : r ≤ 0 := by rw [hr]; have := Int.tmod_nonneg (a := -n) 10 (by omega); rw [Int.neg_tmod] at this; omega
      have hc1 := fun W : World => ih q W (by omega) (by omega) (by omega)
      have hc2 := fun W : World => iDec_small (w := W) (-r) (by omega) (by omega)
      have l1 := dec_len (n := q) (by omega) (by omega)
      have l2 := dec_len (n := -r) (by omega) (by omega)
      have HD2 : Hid (dec n = dec q ++ dec (-r)) := by show dec n = _; rw [hq, hr]; exact HD.out
      obtain ⟨d1, e1⟩ : ∃ d, d = dec q := ⟨_, rfl⟩
      obtain ⟨d2, e2⟩ : ∃ d, d = dec (-r) := ⟨_, rfl⟩
      have HE := Lib.hid (show d1 = dec q ∧ d2 = dec (-r) from ⟨e1, e2⟩)
      rw [← e1] at l1 hc1
      rw [← e2] at l2 hc2
      have s1 := str_size d1
      have s2 := str_size d2
      have hq' := hq.symm
      have hr' := hr.symm
      clear hq hr e1 e2 ih HD
      go_enter Try.func88, Try.ntmps88
      go_wp2_with (go_at_call 88; first | ((with_reducible refine (hc1 _).mono ?_); rintro e w' ⟨rfl, rfl⟩) | ((with_reducible refine (hc2 _).mono ?_); rintro e w' ⟨rfl, rfl⟩))
      go_ret
      exact ⟨by rw [HD2.out, ← HE.out.1, ← HE.out.2, ← str_cat]; rfl, rfl⟩
    · have hge : 10 ≤ n := by omega
      have HD := Lib.hid (dec_big hge)
      obtain ⟨q, hq⟩ : ∃ q, q = n.tdiv 10 := ⟨_, rfl⟩
      obtain ⟨r, hr⟩ : ∃ r, r = n.tmod 10 := ⟨_, rfl⟩
      have qr : 10 * q + r = n := by rw [hq, hr]; exact Int.mul_tdiv_add_tmod n 10
      have r1 : r < 10 := by rw [hr]; exact Int.tmod_lt_of_pos n (by omega)
      have r2 : 0 ≤ r := by rw [hr]; exact Int.tmod_nonneg 10 (by omega)
      have hc1 := fun W : World => ih q W (by omega) (by omega) (by omega)
      have l1 := dec_len (n := q) (by omega) (by omega)
      have HD2 : Hid (dec n = dec q ++ [(48 + r.toNat).toUInt8]) := by show dec n = _; rw [hq, hr]; exact HD.out
      obtain ⟨d1, e1⟩ : ∃ d, d = dec q := ⟨_, rfl⟩
      have HE := Lib.hid e1
      rw [← e1] at l1 hc1
      have s1 := str_size d1
      have hq' := hq.symm
      have hr' := hr.symm
      clear hq hr e1 ih HD
      have hx : r = 0 ∨ r = 1 ∨ r = 2 ∨ r = 3 ∨ r = 4 ∨ r = 5 ∨ r = 6 ∨ r = 7 ∨ r = 8 ∨ r = 9 := by omega
      clear r1 r2
      have hu0 : (Utf8.encode 48).size = 1 := by rfl
      have hu1 : (Utf8.encode 49).size = 1 := by rfl
      have hu2 : (Utf8.encode 50).size = 1 := by rfl
      have hu3 : (Utf8.encode 51).size = 1 := by rfl
      have hu4 : (Utf8.encode 52).size = 1 := by rfl
      have hu5 : (Utf8.encode 53).size = 1 := by rfl
      have hu6 : (Utf8.encode 54).size = 1 := by rfl
      have hu7 : (Utf8.encode 55).size = 1 := by rfl
      have hu8 : (Utf8.encode 56).size = 1 := by rfl
      have hu9 : (Utf8.encode 57).size = 1 := by rfl
      rcases hx with rfl | rfl | rfl | rfl | rfl | rfl | rfl | rfl | rfl | rfl
      all_goals
        go_enter Try.func88, Try.ntmps88
        go_wp2_with (go_at_call 88; (with_reducible refine (hc1 _).mono ?_); rintro e w' ⟨rfl, rfl⟩)
        go_ret
        exact ⟨by rw [HD2.out, ← HE.out, ← str_cat]; rfl, rfl⟩
end Go.Proofs.Ytemafljipkcgcaa
