/- Insertion of the numbers of reduced words into tableaux, in plain words. -/
import Derived.Test.YtgbojgmmingfdaaRedP
import Derived.Test.YtgbojgmmingfdaaBegW
namespace Go.Proofs.Ytgbojgmmingfdaa

/-- Where the first number above x stands. -/
def gtAt : List Int → Int → Nat
  | [], _ => 0
  | y :: r, x => if x < y then 0 else gtAt r x + 1
theorem gtAt_le : ∀ (l : List Int) (x : Int), gtAt l x ≤ l.length
  | [], _ => Nat.le_refl _
  | y :: r, x => by
    rw [gtAt]
    split
    · exact Nat.zero_le _
    · have := gtAt_le r x; simp only [List.length_cons]; omega
theorem gtAt_before : ∀ (l : List Int) (x : Int) (j : Nat), j < gtAt l x → nth l j ≤ x
  | [], _, j, h => by simp [gtAt] at h
  | y :: r, x, j, h => by
    rw [gtAt] at h
    split at h
    · omega
    · cases j with
      | zero => show y ≤ x; omega
      | succ j => exact gtAt_before r x j (by omega)
theorem gtAt_at : ∀ (l : List Int) (x : Int), gtAt l x < l.length → x < nth l (gtAt l x)
  | [], _, h => by simp at h
  | y :: r, x, h => by
    rw [gtAt] at h ⊢
    split at h
    · rename_i hy
      rw [if_pos hy]; exact hy
    · rename_i hy
      rw [if_neg hy]
      show x < nth r (gtAt r x)
      exact gtAt_at r x (by simp only [List.length_cons] at h; omega)
theorem gtAt_is {l : List Int} {x : Int} {k : Nat} (h1 : ∀ j, j < k → nth l j ≤ x) (hk : k < l.length) (h2 : x < nth l k) : gtAt l x = k := by
  rcases Nat.lt_trichotomy (gtAt l x) k with h | h | h
  · have := gtAt_at l x (by omega)
    have := h1 _ h
    omega
  · exact h
  · have := gtAt_before l x k h; omega
theorem gtAt_end {l : List Int} {x : Int} (h1 : ∀ j, j < l.length → nth l j ≤ x) : gtAt l x = l.length := by
  have := gtAt_le l x
  by_cases h : gtAt l x < l.length
  · have := gtAt_at l x h
    have := h1 _ h
    omega
  · omega
/-- A number is inserted; the row in which the tableau has grown. -/
def egI : List (List Int) → Int → List (List Int) × Nat
  | [], x => ([[x]], 0)
  | row :: rest, x =>
    if gtAt row x < row.length then
      if nth row (gtAt row x) = x + 1 ∧ hasB row x = true then (row :: (egI rest (x + 1)).1, (egI rest (x + 1)).2 + 1)
      else (row.set (gtAt row x) x :: (egI rest (nth row (gtAt row x))).1, (egI rest (nth row (gtAt row x))).2 + 1)
    else ((row ++ [x]) :: rest, 0)
theorem egI_grow {row : List Int} {rest : List (List Int)} {x : Int} (h : gtAt row x = row.length) : egI (row :: rest) x = ((row ++ [x]) :: rest, 0) := by
  rw [egI, if_neg (by omega)]
theorem egI_skip {row : List Int} {rest : List (List Int)} {x : Int} (h : gtAt row x < row.length) (h1 : nth row (gtAt row x) = x + 1) (h2 : hasB row x = true) : egI (row :: rest) x = (row :: (egI rest (x + 1)).1, (egI rest (x + 1)).2 + 1) := by
  rw [egI, if_pos h, if_pos ⟨h1, h2⟩]
theorem egI_bump {row : List Int} {rest : List (List Int)} {x : Int} (h : gtAt row x < row.length) (h1 : ¬ (nth row (gtAt row x) = x + 1 ∧ hasB row x = true)) : egI (row :: rest) x = (row.set (gtAt row x) x :: (egI rest (nth row (gtAt row x))).1, (egI rest (nth row (gtAt row x))).2 + 1) := by
  rw [egI, if_pos h, if_neg h1]
/-- Rows that ascend. -/
def Asc (l : List Int) : Prop := ∀ i j, i < j → j < l.length → nth l i ≤ nth l j
theorem hasB_at {l : List Int} {x : Int} : hasB l x = true ↔ ∃ j, j < l.length ∧ nth l j = x := by unfold hasB; exact decide_eq_true_iff
/-- In an ascending row the first number above x is x + 1 just if x + 1 is there. -/
theorem next_iff {l : List Int} {x : Int} (h : Asc l) : hasB l (x + 1) = true ↔ gtAt l x < l.length ∧ nth l (gtAt l x) = x + 1 := by
  rw [hasB_at]
  constructor
  · rintro ⟨j, hj, e⟩
    have hlt : gtAt l x ≤ j := by
      by_cases h2 : j < gtAt l x
      · have := gtAt_before l x j h2; omega
      · omega
    have h3 := gtAt_at l x (by omega)
    refine ⟨by omega, ?_⟩
    by_cases h4 : gtAt l x = j
    · rw [h4]; exact e
    · have := h (gtAt l x) j (by omega) hj
      omega
  · rintro ⟨h1, h2⟩
    exact ⟨_, h1, h2⟩
theorem asc_set {l : List Int} {x : Int} (h : Asc l) : Asc (l.set (gtAt l x) x) := by
  intro i j hij hj
  rw [List.length_set] at hj
  by_cases hi : gtAt l x = i
  · rw [← hi] at hij ⊢
    rw [nth_set_eq (by omega), nth_set_ne (by omega)]
    have h1 := gtAt_at l x (by omega)
    have := h _ j hij hj
    omega
  · rw [nth_set_ne hi]
    by_cases hj2 : gtAt l x = j
    · rw [hj2, nth_set_eq hj]
      exact gtAt_before l x i (by omega)
    · rw [nth_set_ne hj2]
      exact h i j hij hj
theorem asc_snoc {l : List Int} {x : Int} (h : Asc l) (h1 : gtAt l x = l.length) : Asc (l ++ [x]) := by
  intro i j hij hj
  rw [List.length_append, List.length_singleton] at hj
  rw [nth_append_left (by omega)]
  by_cases hj2 : j < l.length
  · rw [nth_append_left hj2]; exact h i j hij hj2
  · rw [nth_append_right (by omega), show j - l.length = 0 by omega]
    exact gtAt_before l x i (by omega)
theorem asc_one (x : Int) : Asc [x] := fun i j hij hj => by simp at hj; omega
theorem egI_asc : ∀ (t : List (List Int)) (x : Int), (∀ r ∈ t, Asc r) → ∀ r ∈ (egI t x).1, Asc r
  | [], x, _, r, hr => by
    rw [egI, List.mem_singleton] at hr
    rw [hr]; exact asc_one x
  | row :: rest, x, h, r, hr => by
    have h0 := h row (by simp)
    have h1 : ∀ r ∈ rest, Asc r := fun r hr => h r (List.mem_cons_of_mem _ hr)
    rw [egI] at hr
    split at hr
    · split at hr
      · rcases List.mem_cons.1 hr with rfl | hr
        · exact h0
        · exact egI_asc rest _ h1 r hr
      · rcases List.mem_cons.1 hr with rfl | hr
        · exact asc_set h0
        · exact egI_asc rest _ h1 r hr
    · rcases List.mem_cons.1 hr with rfl | hr
      · have := gtAt_le row x
        exact asc_snoc h0 (by omega)
      · exact h1 r hr
/-- All numbers within bounds; how many rows, how long the rows. -/
theorem egI_bd {M : Int} : ∀ (t : List (List Int)) (x : Int), (∀ r ∈ t, ∀ y ∈ r, 0 ≤ y ∧ y ≤ M) → 0 ≤ x ∧ x ≤ M → ∀ r ∈ (egI t x).1, ∀ y ∈ r, 0 ≤ y ∧ y ≤ M
  | [], x, _, hx, r, hr => by
    rw [egI, List.mem_singleton] at hr
    subst hr
    intro y hy
    rw [List.mem_singleton.1 hy]; exact hx
  | row :: rest, x, h, hx, r, hr => by
    have h0 := h row (by simp)
    have h1 : ∀ r ∈ rest, ∀ y ∈ r, 0 ≤ y ∧ y ≤ M := fun r hr => h r (List.mem_cons_of_mem _ hr)
    rw [egI] at hr
    split at hr
    · rename_i hlt
      split at hr
      · rename_i hc
        rcases List.mem_cons.1 hr with rfl | hr
        · exact h0
        · have := h0 _ (nth_mem hlt)
          exact egI_bd rest _ h1 (by omega) r hr
      · rcases List.mem_cons.1 hr with rfl | hr
        · intro y hy
          rcases List.mem_or_eq_of_mem_set hy with hy | rfl
          · exact h0 y hy
          · exact hx
        · exact egI_bd rest _ h1 (h0 _ (nth_mem hlt)) r hr
    · rcases List.mem_cons.1 hr with rfl | hr
      · intro y hy
        rcases List.mem_append.1 hy with hy | hy
        · exact h0 y hy
        · rw [List.mem_singleton.1 hy]; exact hx
      · exact h1 r hr
theorem egI_rows : ∀ (t : List (List Int)) (x : Int), (egI t x).1.length ≤ t.length + 1 ∧ (egI t x).2 < (egI t x).1.length ∧ (egI t x).2 ≤ t.length ∧ t.length ≤ (egI t x).1.length
  | [], x => by simp [egI]
  | row :: rest, x => by
    rw [egI]
    split
    · split
      · have := egI_rows rest (x + 1)
        simp only [List.length_cons]; omega
      · have := egI_rows rest (nth row (gtAt row x))
        simp only [List.length_cons]; omega
    · simp
theorem egI_cols {M : Nat} : ∀ (t : List (List Int)) (x : Int), (∀ r ∈ t, r.length ≤ M) → ∀ r ∈ (egI t x).1, r.length ≤ M + 1
  | [], x, _, r, hr => by
    rw [egI, List.mem_singleton] at hr
    rw [hr]; simp
  | row :: rest, x, h, r, hr => by
    have h0 := h row (by simp)
    have h1 : ∀ r ∈ rest, r.length ≤ M := fun r hr => h r (List.mem_cons_of_mem _ hr)
    rw [egI] at hr
    split at hr
    · split at hr
      · rcases List.mem_cons.1 hr with rfl | hr
        · omega
        · exact egI_cols rest _ h1 r hr
      · rcases List.mem_cons.1 hr with rfl | hr
        · rw [List.length_set]; omega
        · exact egI_cols rest _ h1 r hr
    · rcases List.mem_cons.1 hr with rfl | hr
      · rw [List.length_append, List.length_singleton]; omega
      · have := h1 r hr; omega
/-- No row is empty. -/
theorem egI_full : ∀ (t : List (List Int)) (x : Int), (∀ r ∈ t, r ≠ []) → ∀ r ∈ (egI t x).1, r ≠ []
  | [], x, _, r, hr => by
    rw [egI, List.mem_singleton] at hr
    rw [hr]; simp
  | row :: rest, x, h, r, hr => by
    have h0 := h row (by simp)
    have h1 : ∀ r ∈ rest, r ≠ [] := fun r hr => h r (List.mem_cons_of_mem _ hr)
    rw [egI] at hr
    split at hr
    · split at hr
      · rcases List.mem_cons.1 hr with rfl | hr
        · exact h0
        · exact egI_full rest _ h1 r hr
      · rcases List.mem_cons.1 hr with rfl | hr
        · intro e; exact h0 (by rw [← List.length_eq_zero_iff] at e ⊢; rw [List.length_set] at e; exact e)
        · exact egI_full rest _ h1 r hr
    · rcases List.mem_cons.1 hr with rfl | hr
      · simp
      · exact h1 r hr
/-- The tableau of a word. -/
def egT (v : List Int) : List (List Int) := v.foldl (fun t x => (egI t x).1) []
theorem egT_snoc (v : List Int) (x : Int) : egT (v ++ [x]) = (egI (egT v) x).1 := by simp [egT]
structure TabOk (M : Int) (m : Nat) (t : List (List Int)) : Prop where
  asc : ∀ r ∈ t, Asc r
  bd : ∀ r ∈ t, ∀ y ∈ r, 0 ≤ y ∧ y ≤ M
  rows : t.length ≤ m
  cols : ∀ r ∈ t, r.length ≤ m
  full : ∀ r ∈ t, r ≠ []
theorem TabOk.nil (M : Int) : TabOk M 0 [] := ⟨by simp, by simp, by simp, by simp, by simp⟩
theorem TabOk.next {M : Int} {m : Nat} {t : List (List Int)} (h : TabOk M m t) {x : Int} (hx : 0 ≤ x ∧ x ≤ M) : TabOk M (m + 1) (egI t x).1 :=
  ⟨egI_asc t x h.asc, egI_bd t x h.bd hx, by have := (egI_rows t x).1; have := h.rows; omega, egI_cols t x h.cols, egI_full t x h.full⟩
theorem egT_ok {M : Int} {v : List Int} (hv : ∀ x ∈ v, 0 ≤ x ∧ x ≤ M) : ∀ k, k ≤ v.length → TabOk M k (egT (v.take k))
  | 0, _ => by rw [List.take_zero]; exact TabOk.nil M
  | k + 1, hk => by
    rw [take_succ_nth (by omega), egT_snoc]
    exact (egT_ok hv k (by omega)).next (hv _ (nth_mem (by omega)))
end Go.Proofs.Ytgbojgmmingfdaa

/- slices.IndexFunc at []int with the closure of 'inserted': where the first number above x stands. -/
namespace Go.Proofs.Ytgbojgmmingfdaa
open Go.RowKit

def idxR (l : List Int) (x : Int) : Int := if gtAt l x < l.length then (gtAt l x : Int) else -1
theorem insClos_any {w : World} {X : Nat} {x : Int} (y : Int) (hX : w.cell? ⟨X, 0, none⟩ = some (.int .i64 x)) :
    Calls Try.prog 190 #[.int .i64 y, .pointer (some ⟨X, 0, none⟩)] w (Gives w (.bool (decide (x < y)))) := by
  go_enter Try.func190, Try.ntmps190
  go_wp2
  go_ret
  exact ⟨rfl, (by first | exact ⟨_, rfl⟩ | exact ⟨_, (World.drewN_drewN _ _ _).symm⟩ | exact Quiet.refl _ | (simp only [World.drewN_drewN]; exact ⟨_, rfl⟩))⟩
set_option maxRecDepth 100000 in
set_option maxHeartbeats 1000000 in
theorem idxF_any {A : Option Addr} {n : Nat} {l : List Int} {w : World} (c X : Nat) (x : Int) (hx : RI w A n l) (hX : w.cell? ⟨X, 0, none⟩ = some (.int .i64 x)) (hn : n ≤ 1000000000) :
    Calls Try.prog 189 #[.slice A n c, .func (.func 190) #[] #[.pointer (some ⟨X, 0, none⟩)]] w (Gives w (.int .i64 (idxR l x))) := by
  have HL : Hid (l.length = n) := hx.1
  have HX := Lib.hid hx
  have HCX := Lib.hid hX
  clear hx hX
  go_enter Try.func189, Try.ntmps189
  go_wp2
  go_loopw [5, 8] (fun _ i wr => ∃ k : Nat, k ≤ n ∧ i = .int .i64 (k : Int) ∧ Quiet w wr ∧ Hid (∀ j, j < k → nth l j ≤ x)) (fun _ i _ => n - (intOf i).toNat)
  case atStart => exact ⟨0, Nat.zero_le _, rfl, (by first | exact ⟨_, rfl⟩ | exact ⟨_, (World.drewN_drewN _ _ _).symm⟩ | exact Quiet.refl _ | (simp only [World.drewN_drewN]; exact ⟨_, rfl⟩)), fun j hj => by omega⟩
  case round =>
    obtain ⟨k, hk, rfl, ⟨q, rfl⟩, HT⟩ := hrel
    by_cases hlt : k < n
    · obtain ⟨ad, rfl, z0⟩ := HX.out.cell hlt
      obtain ⟨y, hy⟩ : ∃ y, y = nth l k := ⟨_, rfl⟩
      rw [← hy] at z0
      have HYY := Lib.hid hy
      have HCL : Hid (∀ W, W.cell? ⟨X, 0, none⟩ = some (.int .i64 x) → Calls Try.prog 190 #[.int .i64 y, .pointer (some ⟨X, 0, none⟩)] W (Gives W (.bool (decide (x < y))))) := fun W h => insClos_any y h
      have HC0 : Hid ((w.drewN q).cell? ⟨X, 0, none⟩ = some (.int .i64 x)) := HCX.out
      clear hy
      rcases hxy : decide (x < y) with _ | _
      · have HNO := Lib.hid (of_decide_eq_false hxy)
        rw [hxy] at HCL
        clear hxy
        go_wp2_with (first | (go_at_call 190; refine (HCL.out _ (by exact HC0.out)).mono ?_; rintro e w2 ⟨rfl, q2, rfl⟩) | fail)
        go_roundw
        case rel => exact ⟨k + 1, by omega, by go_num, (by first | exact ⟨_, rfl⟩ | exact ⟨_, (World.drewN_drewN _ _ _).symm⟩ | exact Quiet.refl _ | (simp only [World.drewN_drewN]; exact ⟨_, rfl⟩)), fun j hj => by
          by_cases h : j = k
          · subst h; rw [← HYY.out]; have := HNO.out; omega
          · exact HT.out j (by omega)⟩
        case measure => simp [intOf]; omega
      · have HYES := Lib.hid (of_decide_eq_true hxy)
        rw [hxy] at HCL
        have HE : Hid (idxR l x = (k : Int)) := by
          have hg : gtAt l x = k := gtAt_is HT.out (by rw [HL.out]; exact hlt) (by rw [← HYY.out]; exact HYES.out)
          show _ = _
          rw [idxR, hg, if_pos (by rw [HL.out]; exact hlt)]
        clear hxy
        go_wp2_with (first | (go_at_call 190; refine (HCL.out _ (by exact HC0.out)).mono ?_; rintro e w2 ⟨rfl, q2, rfl⟩) | fail)
        go_ret
        exact ⟨by rw [HE.out]; rfl, (by first | exact ⟨_, rfl⟩ | exact ⟨_, (World.drewN_drewN _ _ _).symm⟩ | exact Quiet.refl _ | (simp only [World.drewN_drewN]; exact ⟨_, rfl⟩))⟩
    · have HE : Hid (idxR l x = -1) := by
        have hg : gtAt l x = l.length := gtAt_end fun j hj => HT.out j (by rw [HL.out] at hj; omega)
        show _ = _
        rw [idxR, hg, if_neg (by omega)]
      go_wp2
      go_ret
      exact ⟨by rw [HE.out]; rfl, (by first | exact ⟨_, rfl⟩ | exact ⟨_, (World.drewN_drewN _ _ _).symm⟩ | exact Quiet.refl _ | (simp only [World.drewN_drewN]; exact ⟨_, rfl⟩))⟩
end Go.Proofs.Ytgbojgmmingfdaa
