/- l2Key: seven exponents as one number. -/
import Derived.Test.YtgbojgmmingfdaaShapes
namespace Go.Proofs.Ytgbojgmmingfdaa
open Go.RowKit

/-- The number after j exponents, the last one ahead. -/
def keyUp (e : List Int) : Nat → Int
  | 0 => 0
  | j + 1 => keyUp e j * 128 + nth e (6 - j)
def keyL (e : List Int) : Int := keyUp e 7
theorem keyUp_in {e : List Int} (h : ∀ j, j < 7 → 0 ≤ nth e j ∧ nth e j ≤ 127) : ∀ j, j ≤ 7 → 0 ≤ keyUp e j ∧ keyUp e j < 128 ^ j
  | 0, _ => by simp [keyUp]
  | j + 1, hj => by
    have ih := keyUp_in h j (by omega)
    have := h (6 - j) (by omega)
    rw [keyUp, Int.pow_succ]
    omega
set_option maxHeartbeats 1000000 in
theorem l2Key_any {A : Option Addr} {e : List Int} {w : World} (c : Nat) (hx : RI w A 7 e) (hb : ∀ j, j < 7 → 0 ≤ nth e j ∧ nth e j ≤ 127) :
    Calls Try.prog 119 #[.slice A 7 c] w (Gives w (.int .i64 (keyL e))) := by
  have HB := Lib.hid hb
  have HU : Hid (∀ j, j ≤ 7 → 0 ≤ keyUp e j ∧ keyUp e j < 562949953421312) := fun j hj => by
    have h1 := keyUp_in hb j hj
    have h2 : (128 : Int) ^ j ≤ 128 ^ 7 := by
      have : j = 0 ∨ j = 1 ∨ j = 2 ∨ j = 3 ∨ j = 4 ∨ j = 5 ∨ j = 6 ∨ j = 7 := by omega
      rcases this with rfl | rfl | rfl | rfl | rfl | rfl | rfl | rfl <;> decide
    have h3 : (128 : Int) ^ 7 = 562949953421312 := by decide
    omega
  clear hb
  go_enter Try.func119, Try.ntmps119
  go_wp2
  go_loopw [3, 4] (fun u i wr => ∃ (k : Nat) (z v : Int), k ≤ 7 ∧ z = k - 1 ∧ v = keyUp e (7 - k) ∧ u = .int .i64 v ∧ i = .int .i64 z ∧ Quiet w wr) (fun _ i _ => (intOf i + 1).toNat)
  case atStart => exact ⟨7, 6, 0, by omega, by omega, rfl, rfl, rfl, (by first | exact ⟨_, rfl⟩ | exact ⟨_, (World.drewN_drewN _ _ _).symm⟩ | exact Quiet.refl _ | (simp only [World.drewN_drewN]; exact ⟨_, rfl⟩))⟩
  case round =>
    obtain ⟨k, z, v, hk, hz, hv, rfl, rfl, ⟨q, rfl⟩⟩ := hrel
    cases k with
    | zero =>
      obtain rfl : z = -1 := by omega
      have HV : Hid (v = keyL e) := hv
      clear hz hv
      go_wp2
      go_ret
      exact ⟨by rw [HV.out]; rfl, (by first | exact ⟨_, rfl⟩ | exact ⟨_, (World.drewN_drewN _ _ _).symm⟩ | exact Quiet.refl _ | (simp only [World.drewN_drewN]; exact ⟨_, rfl⟩))⟩
    | succ k =>
      obtain rfl : z = (k : Int) := by omega
      have hk7 : k < 7 := by omega
      obtain ⟨ad, hA, hc⟩ := hx.cell hk7
      subst hA
      have hs : keyUp e (7 - k) = v * 128 + nth e k := by
        rw [show 7 - k = (7 - (k + 1)) + 1 by omega, keyUp, ← hv, show 6 - (7 - (k + 1)) = k by omega]
      have b1 := HU.out (7 - k) (by omega)
      have b0 := HU.out (7 - (k + 1)) (by omega)
      rw [← hv] at b0
      rw [hs] at b1
      obtain ⟨x, hxx⟩ : ∃ x, x = nth e k := ⟨_, rfl⟩
      rw [← hxx] at hc hs b1
      have HS := Lib.hid hs
      have hw1 : IntKind.i64.wrap (v * 128) = v * 128 := IntWalk.i64_in _ (by omega)
      have hw2 : IntKind.i64.wrap (v * 128 + x) = v * 128 + x := IntWalk.i64_in _ (by omega)
      clear hz hv hs b0 b1 hxx
      go_wp2
      go_roundw
      case rel => exact ⟨k, (k : Int) - 1, v * 128 + x, by omega, rfl, HS.out.symm, by first | rfl | go_num, by go_num, (by first | exact ⟨_, rfl⟩ | exact ⟨_, (World.drewN_drewN _ _ _).symm⟩ | exact Quiet.refl _ | (simp only [World.drewN_drewN]; exact ⟨_, rfl⟩))⟩
      case measure => simp [intOf]
end Go.Proofs.Ytgbojgmmingfdaa

/- byTerms: terms compared by the last variable at which they differ. -/
namespace Go.Proofs.Ytgbojgmmingfdaa
open Go.RowKit

/-- The comparison below the n-th variable. -/
def byFrom (a b : List Int) : Nat → Int
  | 0 => 0
  | n + 1 => if nth a n = nth b n then byFrom a b n else nth b n - nth a n
def byT (a b : List Int) : Int := byFrom a b 7
theorem byFrom_rev {a b : List Int} : ∀ n, byFrom a b n = 0 → byFrom b a n = 0
  | 0, _ => rfl
  | n + 1, h => by
    rw [byFrom] at h ⊢
    by_cases e : nth a n = nth b n
    · rw [if_pos e] at h; rw [if_pos e.symm]; exact byFrom_rev n h
    · rw [if_neg e] at h; omega
theorem byFrom_irr (a : List Int) : ∀ n, byFrom a a n = 0
  | 0 => rfl
  | n + 1 => by rw [byFrom, if_pos rfl, byFrom_irr a n]
theorem byFrom_trans {a b c : List Int} : ∀ n, byFrom a b n < 0 → byFrom b c n < 0 → byFrom a c n < 0
  | 0, h, _ => absurd h (by simp [byFrom])
  | n + 1, h1, h2 => by
    rw [byFrom] at h1 h2 ⊢
    by_cases e1 : nth a n = nth b n
    · rw [if_pos e1] at h1
      by_cases e2 : nth b n = nth c n
      · rw [if_pos e2] at h2; rw [if_pos (e1.trans e2)]; exact byFrom_trans n h1 h2
      · rw [if_neg e2] at h2; rw [if_neg (by omega)]; omega
    · rw [if_neg e1] at h1
      by_cases e2 : nth b n = nth c n
      · rw [if_pos e2] at h2; rw [if_neg (by omega)]; omega
      · rw [if_neg e2] at h2; rw [if_neg (by omega)]; omega
theorem byFrom_total {a b : List Int} : ∀ n, byFrom a b n < 0 ∨ byFrom a b n = 0 ∨ byFrom b a n < 0
  | 0 => .inr (.inl rfl)
  | n + 1 => by
    rw [byFrom, byFrom]
    by_cases e : nth a n = nth b n
    · rw [if_pos e, if_pos e.symm]; exact byFrom_total n
    · rw [if_neg e, if_neg (fun h => e h.symm)]; omega
theorem byFrom_same {a b : List Int} : ∀ n, byFrom a b n = 0 → ∀ j, j < n → nth a j = nth b j
  | 0, _, j, hj => by omega
  | n + 1, h, j, hj => by
    rw [byFrom] at h
    by_cases e : nth a n = nth b n
    · rw [if_pos e] at h
      rcases Nat.lt_or_eq_of_le (Nat.le_of_lt_succ hj) with hj | rfl
      · exact byFrom_same n h j hj
      · exact e
    · rw [if_neg e] at h; omega
theorem byFrom_cong {a b c : List Int} : ∀ n, (∀ j, j < n → nth a j = nth b j) → byFrom a c n = byFrom b c n
  | 0, _ => rfl
  | n + 1, h => by rw [byFrom, byFrom, h n (by omega), byFrom_cong n fun j hj => h j (by omega)]
theorem byT_any {A C : Option Addr} {xs ys : List Int} {w : World} (c d : Nat) (hx : RI w A 7 xs) (hy : RI w C 7 ys) (hb : ∀ j, j < 7 → -9223372036854775808 ≤ nth ys j - nth xs j ∧ nth ys j - nth xs j ≤ 9223372036854775807) :
    Calls Try.prog 137 #[.slice A 7 c, .slice C 7 d] w (Gives w (.int .i64 (byT xs ys))) := by
  have HB := Lib.hid hb
  clear hb
  go_enter Try.func137, Try.ntmps137
  go_wp2
  go_loopw [5] (fun i wr => ∃ (k : Nat) (z : Int), k ≤ 7 ∧ z = k - 1 ∧ i = .int .i64 z ∧ Quiet w wr ∧ Hid (byFrom xs ys k = byT xs ys)) (fun i _ => (intOf i + 1).toNat)
  case atStart => exact ⟨7, 6, by omega, by omega, rfl, (by first | exact ⟨_, rfl⟩ | exact ⟨_, (World.drewN_drewN _ _ _).symm⟩ | exact Quiet.refl _ | (simp only [World.drewN_drewN]; exact ⟨_, rfl⟩)), rfl⟩
  case round =>
    obtain ⟨k, z, hk, hz, rfl, ⟨q, rfl⟩, HT⟩ := hrel
    cases k with
    | zero =>
      obtain rfl : z = -1 := by omega
      clear hz
      go_wp2
      go_ret
      refine ⟨?_, (by first | exact ⟨_, rfl⟩ | exact ⟨_, (World.drewN_drewN _ _ _).symm⟩ | exact Quiet.refl _ | (simp only [World.drewN_drewN]; exact ⟨_, rfl⟩))⟩
      rw [← HT.out]; rfl
    | succ k =>
      obtain rfl : z = (k : Int) := by omega
      clear hz
      have hk7 : k < 7 := by omega
      obtain ⟨ad, hA, hc⟩ := hx.cell hk7
      obtain ⟨ad', hA', hc'⟩ := hy.cell hk7
      subst hA hA'
      by_cases he : nth xs k = nth ys k
      · have HE := Lib.hid he
        have he' : (nth xs k != nth ys k) = false := by simpa using he
        clear he
        go_wp2
        go_quiet (fail)
        go_wp2
        go_roundw
        case rel => exact ⟨k, (k : Int) - 1, by omega, rfl, by go_num, (by first | exact ⟨_, rfl⟩ | exact ⟨_, (World.drewN_drewN _ _ _).symm⟩ | exact Quiet.refl _ | (simp only [World.drewN_drewN]; exact ⟨_, rfl⟩)), by have h := HT.out; rw [byFrom, if_pos HE.out] at h; exact h⟩
        case measure => simp [intOf]
      · have HE := Lib.hid he
        have he' : (nth xs k != nth ys k) = true := by simpa using he
        clear he
        have hW : IntKind.i64.wrap (nth ys k - nth xs k) = nth ys k - nth xs k := IntWalk.i64_in _ (HB.out k hk7)
        go_wp2
        go_quiet (fail)
        go_wp2
        go_quiet (fail)
        go_wp2
        go_ret
        refine ⟨?_, (by first | exact ⟨_, rfl⟩ | exact ⟨_, (World.drewN_drewN _ _ _).symm⟩ | exact Quiet.refl _ | (simp only [World.drewN_drewN]; exact ⟨_, rfl⟩))⟩
        have h := HT.out
        rw [byFrom, if_neg HE.out] at h
        rw [← h]
        first | rfl | rw [hW]
end Go.Proofs.Ytgbojgmmingfdaa

/- Keys as numbers stand as byTerms has them. -/
namespace Go.Proofs.Ytgbojgmmingfdaa

def lowN (e : List Int) : Nat → Int
  | 0 => 0
  | n + 1 => nth e n * 128 ^ n + lowN e n
def Ex128 (e : List Int) : Prop := ∀ j, j < 7 → 0 ≤ nth e j ∧ nth e j ≤ 127
theorem keyL_low (e : List Int) : keyL e = lowN e 7 := by
  simp only [keyL, keyUp, lowN, Nat.reduceSub]
  omega
theorem lowN_in {e : List Int} (h : Ex128 e) : ∀ n, n ≤ 7 → 0 ≤ lowN e n ∧ lowN e n < 128 ^ n
  | 0, _ => by simp [lowN]
  | n + 1, hn => by
    have ih := lowN_in h n (by omega)
    have h1 := h n (by omega)
    have hP : (0 : Int) < 128 ^ n := by omega
    rw [lowN, Int.pow_succ]
    have a1 : 0 ≤ nth e n * 128 ^ n := Int.mul_nonneg h1.1 (Int.le_of_lt hP)
    have a2 : nth e n * 128 ^ n ≤ 127 * 128 ^ n := Int.mul_le_mul_of_nonneg_right h1.2 (Int.le_of_lt hP)
    omega
theorem low_lt {a b : List Int} (ha : Ex128 a) (hb : Ex128 b) {n : Nat} (hn : n < 7) (h : nth b n < nth a n) : lowN b (n + 1) < lowN a (n + 1) := by
  have h1 := lowN_in ha n (by omega)
  have h2 := lowN_in hb n (by omega)
  have hP : (0 : Int) < 128 ^ n := by omega
  have a1 : (nth b n + 1) * 128 ^ n ≤ nth a n * 128 ^ n := Int.mul_le_mul_of_nonneg_right (by omega) (Int.le_of_lt hP)
  rw [Int.add_mul, Int.one_mul] at a1
  rw [lowN, lowN]
  omega
theorem byFrom_low {a b : List Int} (ha : Ex128 a) (hb : Ex128 b) : ∀ n, n ≤ 7 → (byFrom a b n < 0 ↔ lowN b n < lowN a n)
  | 0, _ => by simp [byFrom, lowN]
  | n + 1, hn => by
    have ih := byFrom_low ha hb n (by omega)
    rw [byFrom]
    by_cases e : nth a n = nth b n
    · rw [if_pos e, ih, lowN, lowN, e]
      omega
    · rw [if_neg e]
      constructor
      · intro h
        exact low_lt ha hb (by omega) (by omega)
      · intro h
        by_cases h2 : nth b n < nth a n
        · omega
        · have := low_lt hb ha (n := n) (by omega) (by omega)
          omega
theorem byT_key {a b : List Int} (ha : Ex128 a) (hb : Ex128 b) : byT a b < 0 ↔ keyL b < keyL a := by
  rw [keyL_low, keyL_low]
  exact byFrom_low ha hb 7 (Nat.le_refl _)
end Go.Proofs.Ytgbojgmmingfdaa
