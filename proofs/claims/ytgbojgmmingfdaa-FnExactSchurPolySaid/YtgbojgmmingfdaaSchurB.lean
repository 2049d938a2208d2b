/- Bounds of the keys and coefficients of Schur polynomials. No program is in sight here. -/
import Derived.Test.YtgbojgmmingfdaaGathM
namespace Go.Proofs.Ytgbojgmmingfdaa

theorem insK_abs {k c : Int} : ∀ {l : List (Int × Int)}, absK (insK k c l) ≤ absK l + c.natAbs
  | [] => by rw [insK]; split <;> simp [absK]
  | x :: r => by
    have ih := insK_abs (k := k) (c := c) (l := r)
    have e : ∀ (y : Int × Int) (s : List (Int × Int)), absK (y :: s) = y.2.natAbs + absK s := fun y s => by simp [absK]
    rw [insK]
    split
    · rw [e, e]; omega
    · split
      · split
        · rw [e]; omega
        · rw [e, e]
          show (x.2 + c).natAbs + _ ≤ _
          omega
      · split
        · omega
        · rw [e]
          show c.natAbs + _ ≤ _
          omega
theorem gatherK_abs (l : List (Int × Int)) : absK (gatherK l) ≤ absK l := by
  induction l with
  | nil => simp [gatherK, absK]
  | cons x l ih =>
    have h := insK_abs (k := x.1) (c := x.2) (l := gatherK l)
    have e : absK (x :: l) = x.2.natAbs + absK l := by simp [absK]
    show absK (insK x.1 x.2 (gatherK l)) ≤ _
    omega
theorem gatherK_mem {l : List (Int × Int)} : ∀ {x : Int × Int}, x ∈ gatherK l → ∃ y ∈ l, y.1 = x.1 := by
  induction l with
  | nil => intro x h; simp [gatherK] at h
  | cons z l ih =>
    intro x h
    rcases insK_key h with h | h
    · obtain ⟨y, h1, h2⟩ := ih h
      exact ⟨y, List.mem_cons_of_mem _ h1, h2⟩
    · exact ⟨z, by simp, h.symm⟩
theorem absK_len {l : List (Int × Int)} (h : ∀ x ∈ l, x.2 ≠ 0) : l.length ≤ absK l := by
  induction l with
  | nil => simp
  | cons x l ih =>
    have e : absK (x :: l) = x.2.natAbs + absK l := by simp [absK]
    have h1 := h x (by simp)
    have h2 := ih fun y hy => h y (List.mem_cons_of_mem _ hy)
    rw [e, List.length_cons]; omega
/-- One strip's part of the polynomial. -/
def partK (n : Nat) (ms mu : List Int) : List (Int × Int) := (schurK n (bare mu)).map fun x => (x.1 + (ms.sum - (bare mu).sum) * 128 ^ n, x.2)
theorem absK_shift (l : List (Int × Int)) (d : Int) : absK (l.map fun x => (x.1 + d, x.2)) = absK l := by
  unfold absK; rw [List.map_map]; rfl
theorem absK_flat {α : Type} {f : α → List (Int × Int)} {g : α → List Int} : ∀ {l : List α}, (∀ a ∈ l, absK (f a) ≤ (g a).length) → absK (l.flatMap f) ≤ (l.flatMap g).length
  | [], _ => by simp [absK]
  | a :: l, h => by
    rw [List.flatMap_cons, List.flatMap_cons, absK_app, List.length_append]
    have h1 := h a (by simp)
    have h2 := absK_flat (l := l) fun b hb => h b (List.mem_cons_of_mem _ hb)
    omega
theorem schurK_abs : ∀ (n : Nat) (ms : List Int), Desc ms → Pos ms → absK (schurK n ms) ≤ (keysS ms n).length
  | 0, ms, hd, hp => by
    rw [schurK]
    split
    · simp [absK]
    · rename_i h
      obtain rfl : ms = [] := List.eq_nil_of_length_eq_zero (by omega)
      rw [keysS_nil]; decide
  | n + 1, ms, hd, hp => by
    rw [schurK]
    split
    · simp [absK]
    · split
      · rename_i h
        obtain rfl : ms = [] := List.eq_nil_of_length_eq_zero h
        rw [keysS_nil]; decide
      · refine Nat.le_trans (gatherK_abs _) ?_
        have e := (keysS_cut (n := n) hd).length_eq
        rw [show ((n + 1 : Nat) : Int) = (n : Int) + 1 by omega, e]
        refine absK_flat fun mu hmu => ?_
        obtain ⟨b1, b2⟩ := strips_bare hd hp hmu
        rw [absK_shift, List.length_map]
        exact schurK_abs n (bare mu) b1 b2
theorem parts_abs {n : Nat} {ms : List Int} (hd : Desc ms) (hp : Pos ms) (h8 : ms.sum ≤ 8) (hn : n + 1 ≤ 7) : absK ((stripsR ms).flatMap (partK n ms)) ≤ 5764801 ∧ ((stripsR ms).flatMap (partK n ms)).length ≤ 5764801 := by
  have h1 : absK ((stripsR ms).flatMap (partK n ms)) ≤ 5764801 := by
    have e := (keysS_cut (n := n) hd).length_eq
    refine Nat.le_trans (absK_flat (g := fun mu => (keysS (bare mu) n).map (· + (ms.sum - (bare mu).sum) * 128 ^ n)) fun mu hmu => ?_) ?_
    · obtain ⟨b1, b2⟩ := strips_bare hd hp hmu
      unfold partK
      rw [absK_shift, List.length_map]
      exact schurK_abs n (bare mu) b1 b2
    · rw [← e]
      have := tabs_len (n := n + 1) hd h8 hn
      unfold keysS
      rw [List.length_map]
      exact this
  refine ⟨h1, Nat.le_trans (absK_len fun x hx => ?_) h1⟩
  obtain ⟨mu, -, hx⟩ := List.mem_flatMap.1 hx
  obtain ⟨y, hy, rfl⟩ := List.mem_map.1 hx
  exact (schurK_srt n (bare mu)).2 y hy
theorem sum_nonneg : ∀ {ms : List Int}, Desc ms → 0 ≤ ms.sum
  | [], _ => Int.le_refl _
  | m :: ms, h => by
    have := sum_nonneg h.2.2
    have := h.2.1
    rw [List.sum_cons]; omega
theorem strips_sum : ∀ {ms mu : List Int}, Desc ms → mu ∈ stripsR ms → mu.sum ≤ ms.sum
  | [], mu, _, h => by
    rw [stripsR, List.mem_singleton] at h
    subst h; exact Int.le_refl _
  | m :: ms, mu, hd, h => by
    rw [stripsR, List.mem_flatMap] at h
    obtain ⟨c, hc, h⟩ := h
    obtain ⟨nu, hnu, rfl⟩ := List.mem_map.1 h
    have hc := upI_mem.1 hc
    have := strips_sum hd.2.2 hnu
    have h0 := hd.1
    rw [List.sum_cons, List.sum_cons]; omega
theorem pow_mono {n : Nat} : (128 : Int) ^ n ≤ 128 ^ (n + 1) := by
  have : (0 : Int) < 128 ^ n := by
    induction n with
    | zero => decide
    | succ n ih => rw [Int.pow_succ]; omega
  rw [Int.pow_succ]; omega
theorem pow_pos (n : Nat) : (0 : Int) < 128 ^ n := by
  induction n with
  | zero => decide
  | succ n ih => rw [Int.pow_succ]; omega
theorem schurK_key : ∀ (n : Nat) (ms : List Int), Desc ms → Pos ms → ∀ x ∈ schurK n ms, 0 ≤ x.1 ∧ x.1 ≤ ms.sum * 128 ^ n
  | 0, ms, hd, hp, x, hx => by
    rw [schurK] at hx
    split at hx
    · cases hx
    · rw [List.mem_singleton.1 hx]
      exact ⟨Int.le_refl _, Int.mul_nonneg (sum_nonneg hd) (by decide)⟩
  | n + 1, ms, hd, hp, x, hx => by
    have hp0 := pow_pos n
    have hs0 := sum_nonneg hd
    have hup : ms.sum * 128 ^ n ≤ ms.sum * 128 ^ (n + 1) := Int.mul_le_mul_of_nonneg_left pow_mono hs0
    rw [schurK] at hx
    split at hx
    · cases hx
    · split at hx
      · rw [List.mem_singleton.1 hx]
        exact ⟨Int.le_refl _, Int.mul_nonneg hs0 (Int.le_of_lt (pow_pos _))⟩
      · obtain ⟨y, hy, e⟩ := gatherK_mem hx
        obtain ⟨mu, hmu, hy⟩ := List.mem_flatMap.1 hy
        obtain ⟨z, hz, rfl⟩ := List.mem_map.1 hy
        obtain ⟨b1, b2⟩ := strips_bare hd hp hmu
        have h1 := schurK_key n (bare mu) b1 b2 z hz
        have h2 := strips_sum hd hmu
        rw [← sum_bare] at h2
        have h3 : 0 ≤ (ms.sum - (bare mu).sum) * 128 ^ n := Int.mul_nonneg (by omega) (Int.le_of_lt hp0)
        rw [Int.sub_mul] at h3
        simp only at e
        rw [Int.sub_mul] at e
        omega
theorem schurK_range {n : Nat} {ms : List Int} (hd : Desc ms) (hp : Pos ms) (h8 : ms.sum ≤ 8) (hn : n ≤ 7) {x : Int × Int} (hx : x ∈ schurK n ms) : 0 ≤ x.1 ∧ x.1 ≤ 4503599627370496 := by
  have h := schurK_key n ms hd hp x hx
  have h2 : ms.sum * 128 ^ n ≤ 8 * 128 ^ n := Int.mul_le_mul_of_nonneg_right h8 (Int.le_of_lt (pow_pos n))
  have h3 : (128 : Int) ^ n ≤ 128 ^ 7 := by
    have : n = 0 ∨ n = 1 ∨ n = 2 ∨ n = 3 ∨ n = 4 ∨ n = 5 ∨ n = 6 ∨ n = 7 := by omega
    rcases this with rfl | rfl | rfl | rfl | rfl | rfl | rfl | rfl <;> decide
  have h4 : (128 : Int) ^ 7 = 562949953421312 := by decide
  omega
end Go.Proofs.Ytgbojgmmingfdaa
