/- byTerms: terms compared by the last variable at which they differ. -/
import Derived.Test.YtgbojgmmingfdaaShapes
namespace Go.Proofs.Ytgbojgmmingfdaa
open Go.RowKit

/-- The comparison below the n-th variable. -/
def byFrom (a b : List Int) : Nat → Int
  | 0 => 0
  | n + 1 => if nth a n = nth b n then byFrom a b n else nth b n - nth a n
def byT (a b : List Int) : Int := byFrom a b 7
theorem byFrom_rev {a b : List Int} : ∀ n, byFrom a b n = 0 → byFrom b a n = 0
  | 0, _ => rfl
  | n + 1, h => by
    rw [byFrom] at h ⊢
    by_cases e : nth a n = nth b n
    · rw [if_pos e] at h; rw [if_pos e.symm]; exact byFrom_rev n h
    · rw [if_neg e] at h; omega
theorem byFrom_irr (a : List Int) : ∀ n, byFrom a a n = 0
  | 0 => rfl
  | n + 1 => by rw [byFrom, if_pos rfl, byFrom_irr a n]
theorem byFrom_trans {a b c : List Int} : ∀ n, byFrom a b n < 0 → byFrom b c n < 0 → byFrom a c n < 0
  | 0, h, _ => absurd h (by simp [byFrom])
  | n + 1, h1, h2 => by
    rw [byFrom] at h1 h2 ⊢
    by_cases e1 : nth a n = nth b n
    · rw [if_pos e1] at h1
      by_cases e2 : nth b n = nth c n
      · rw [if_pos e2] at h2; rw [if_pos (e1.trans e2)]; exact byFrom_trans n h1 h2
      · rw [if_neg e2] at h2; rw [if_neg (by omega)]; omega
    · rw [if_neg e1] at h1
      by_cases e2 : nth b n = nth c n
      · rw [if_pos e2] at h2; rw [if_neg (by omega)]; omega
      · rw [if_neg e2] at h2; rw [if_neg (by omega)]; omega
theorem byFrom_total {a b : List Int} : ∀ n, byFrom a b n < 0 ∨ byFrom a b n = 0 ∨ byFrom b a n < 0
  | 0 => .inr (.inl rfl)
  | n + 1 => by
    rw [byFrom, byFrom]
    by_cases e : nth a n = nth b n
    · rw [if_pos e, if_pos e.symm]; exact byFrom_total n
    · rw [if_neg e, if_neg (fun h => e h.symm)]; omega
theorem byFrom_same {a b : List Int} : ∀ n, byFrom a b n = 0 → ∀ j, j < n → nth a j = nth b j
  | 0, _, j, hj => by omega
  | n + 1, h, j, hj => by
    rw [byFrom] at h
    by_cases e : nth a n = nth b n
    · rw [if_pos e] at h
      rcases Nat.lt_or_eq_of_le (Nat.le_of_lt_succ hj) with hj | rfl
      · exact byFrom_same n h j hj
      · exact e
    · rw [if_neg e] at h; omega
theorem byFrom_cong {a b c : List Int} : ∀ n, (∀ j, j < n → nth a j = nth b j) → byFrom a c n = byFrom b c n
  | 0, _ => rfl
  | n + 1, h => by rw [byFrom, byFrom, h n (by omega), byFrom_cong n fun j hj => h j (by omega)]
theorem byT_any {A C : Option Addr} {xs ys : List Int} {w : World} (c d : Nat) (hx : RI w A 7 xs) (hy : RI w C 7 ys) (hb : ∀ j, j < 7 → -9223372036854775808 ≤ nth ys j - nth xs j ∧ nth ys j - nth xs j ≤ 9223372036854775807) :
    Calls Try.prog 137 #[.slice A 7 c, .slice C 7 d] w (Gives w (.int .i64 (byT xs ys))) := by
  have HB := Lib.hid hb
  clear hb
  go_enter Try.func137, Try.ntmps137
  go_wp2
  go_loopw [5] (fun i wr => ∃ (k : Nat) (z : Int), k ≤ 7 ∧ z = k - 1 ∧ i = .int .i64 z ∧ Quiet w wr ∧ Hid (byFrom xs ys k = byT xs ys)) (fun i _ => (intOf i + 1).toNat)
  case atStart => exact ⟨7, 6, by omega, by omega, rfl, (by first | exact ⟨_, rfl⟩ | exact ⟨_, (World.drewN_drewN _ _ _).symm⟩ | exact Quiet.refl _ | (simp only [World.drewN_drewN]; exact ⟨_, rfl⟩)), rfl⟩
  case round =>
    obtain ⟨k, z, hk, hz, rfl, ⟨q, rfl⟩, HT⟩ := hrel
    cases k with
    | zero =>
      obtain rfl : z = -1 := by omega
      clear hz
      go_wp2
      go_ret
      refine ⟨?_, (by first | exact ⟨_, rfl⟩ | exact ⟨_, (World.drewN_drewN _ _ _).symm⟩ | exact Quiet.refl _ | (simp only [World.drewN_drewN]; exact ⟨_, rfl⟩))⟩
      rw [← HT.out]; rfl
    | succ k =>
      obtain rfl : z = (k : Int) := by omega
      clear hz
      have hk7 : k < 7 := by omega
      obtain ⟨ad, hA, hc⟩ := hx.cell hk7
      obtain ⟨ad', hA', hc'⟩ := hy.cell hk7
      subst hA hA'
      by_cases he : nth xs k = nth ys k
      · have HE := Lib.hid he
        have he' : (nth xs k != nth ys k) = false := by simpa using he
        clear he
        go_wp2
        go_quiet (fail)
        go_wp2
        go_roundw
        case rel => exact ⟨k, (k : Int) - 1, by omega, rfl, by go_num, (by first | exact ⟨_, rfl⟩ | exact ⟨_, (World.drewN_drewN _ _ _).symm⟩ | exact Quiet.refl _ | (simp only [World.drewN_drewN]; exact ⟨_, rfl⟩)), by have h := HT.out; rw [byFrom, if_pos HE.out] at h; exact h⟩
        case measure => simp [intOf]
      · have HE := Lib.hid he
        have he' : (nth xs k != nth ys k) = true := by simpa using he
        clear he
        have hW : IntKind.i64.wrap (nth ys k - nth xs k) = nth ys k - nth xs k := IntWalk.i64_in _ (HB.out k hk7)
        go_wp2
        go_quiet (fail)
        go_wp2
        go_quiet (fail)
        go_wp2
        go_ret
        refine ⟨?_, (by first | exact ⟨_, rfl⟩ | exact ⟨_, (World.drewN_drewN _ _ _).symm⟩ | exact Quiet.refl _ | (simp only [World.drewN_drewN]; exact ⟨_, rfl⟩))⟩
        have h := HT.out
        rw [byFrom, if_neg HE.out] at h
        rw [← h]
        first | rfl | rw [hW]
end Go.Proofs.Ytgbojgmmingfdaa
