/- Puzzles: the plain side. -/
import Derived.Test.YteodckkkjhapgaaPlain
namespace Go.Proofs.Yteodckkkjhapgaa

def tri (r : Nat) : Nat := r * (r + 1) / 2
theorem tri_step (r : Nat) : tri (r + 1) = tri r + (r + 1) := by
  unfold tri
  have : (r + 1) * (r + 1 + 1) = r * (r + 1) + (r + 1) * 2 := by
    rw [Nat.add_mul r 1, Nat.mul_add r (r + 1) 1]; omega
  rw [this]; omega
theorem tri_mono {a b : Nat} (h : a ≤ b) : tri a ≤ tri b := by
  induction h with
  | refl => exact Nat.le_refl _
  | step h ih => rw [tri_step]; omega
theorem tri_lt {r k n : Nat} (h : r < n) (hk : k ≤ r) : tri r + k < tri n := by
  have := tri_mono (show r + 1 ≤ n from h)
  rw [tri_step] at this
  omega
theorem tri_small {n : Nat} (h : n ≤ 8) : tri n ≤ 36 := tri_mono h
theorem tri_cast (r : Nat) : (r : Int) * (r + 1) / 2 = (tri r : Int) := by
  unfold tri
  have e : (r : Int) * (r + 1) = ((r * (r + 1) : Nat) : Int) := by simp
  rw [e]
  rfl

/-- The place of a small triangle, in whole numbers. -/
def atI (R K : Int) : Int := R * (R + 1) / 2 + K
theorem atI_eq {r k a : Nat} {R K : Int} (hR : R = r) (hK : K = k) (h : tri r + k = a) : atI R K = a := by
  subst hR hK
  rw [atI, tri_cast, ← h]
  simp

def hasT (ts : List (Int × Int × Int)) (a b c : Int) : Bool := ts.any fun t => decide (a = t.1) && (decide (b = t.2.1) && decide (c = t.2.2))
def trips (wt : Bool) : List (Int × Int × Int) := if wt then [(0, 0, 0), (1, 1, 1), (0, 1, 2), (1, 2, 0), (2, 0, 1), (1, 0, 3)] else [(0, 0, 0), (1, 1, 1), (0, 1, 2), (1, 2, 0), (2, 0, 1)]
def upB (l r : Int) (wt : Bool) : Int :=
  if l = r ∧ l ≤ 1 then l else if l = 0 ∧ r = 1 then 2 else if l = 1 ∧ r = 2 then 0 else if l = 2 ∧ r = 0 then 1 else if l = 1 ∧ r = 0 ∧ wt = true then 3 else -1
def downB (l t : Int) : Int :=
  if l = t ∧ l ≤ 1 then l else if l = 1 ∧ t = 2 then 0 else if l = 2 ∧ t = 0 then 1 else if l = 0 ∧ t = 1 then 2 else if l = 0 ∧ t = 3 then 1 else -1

theorem hasT_iff {wt : Bool} {a b c : Int} : hasT (trips wt) a b c = true ↔ ((a = 0 ∧ b = 0 ∧ c = 0) ∨ (a = 1 ∧ b = 1 ∧ c = 1) ∨ (a = 0 ∧ b = 1 ∧ c = 2) ∨ (a = 1 ∧ b = 2 ∧ c = 0) ∨ (a = 2 ∧ b = 0 ∧ c = 1)) ∨ ((a = 1 ∧ b = 0 ∧ c = 3) ∧ wt = true) := by
  cases wt <;> simp [hasT, trips, or_assoc]

theorem hasT_up {wt : Bool} {a b c : Int} : hasT (trips wt) a b c = true ↔ (0 ≤ a ∧ a ≤ 2) ∧ (0 ≤ b ∧ b ≤ 2) ∧ 0 ≤ c ∧ upB a b wt = c := by
  constructor
  · intro h
    have h0 : ((a = 0 ∧ b = 0 ∧ c = 0) ∨ (a = 1 ∧ b = 1 ∧ c = 1) ∨ (a = 0 ∧ b = 1 ∧ c = 2) ∨ (a = 1 ∧ b = 2 ∧ c = 0) ∨ (a = 2 ∧ b = 0 ∧ c = 1)) ∨ ((a = 1 ∧ b = 0 ∧ c = 3) ∧ wt = true) := by
      exact hasT_iff.1 h
    rcases h0 with (⟨rfl, rfl, rfl⟩ | ⟨rfl, rfl, rfl⟩ | ⟨rfl, rfl, rfl⟩ | ⟨rfl, rfl, rfl⟩ | ⟨rfl, rfl, rfl⟩) | ⟨⟨rfl, rfl, rfl⟩, rfl⟩ <;> simp [upB]
  · rintro ⟨⟨a1, a2⟩, ⟨b1, b2⟩, c1, h⟩
    have ha : a = 0 ∨ a = 1 ∨ a = 2 := by omega
    have hb : b = 0 ∨ b = 1 ∨ b = 2 := by omega
    rcases ha with rfl | rfl | rfl <;> rcases hb with rfl | rfl | rfl <;> cases wt <;> simp [upB] at h <;> subst h <;> first | (exfalso; omega) | rfl
theorem hasT_down {wt : Bool} {l r t : Int} (hr : 0 ≤ r ∧ r ≤ 2) (ht : 0 ≤ t ∧ t ≤ 3) (hw : t = 3 → wt = true) (hl : 0 ≤ l) : hasT (trips wt) l r t = decide (downB r t = l) := by
  have h1 : r = 0 ∨ r = 1 ∨ r = 2 := by omega
  have h2 : t = 0 ∨ t = 1 ∨ t = 2 ∨ t = 3 := by omega
  rcases h1 with rfl | rfl | rfl <;> rcases h2 with rfl | rfl | rfl | rfl <;> cases wt <;> simp [hasT, trips, downB] at hw ⊢ <;> first | omega | (by_cases h : l = 0 <;> by_cases h' : l = 1 <;> by_cases h'' : l = 2 <;> simp_all <;> omega)

/-- The sizes of a puzzle. -/
def sizesB (S : Int) (L R B : List Int) : Bool := inB S 1 7 && (decide (L.length = tri S.toNat) && (decide (R.length = tri S.toNat) && decide (B.length = tri S.toNat)))
/-- A cell as the program looks at it. -/
def cellI (wt : Bool) (L R B : List Int) (r k : Nat) : Bool :=
  hasT (trips wt) (nth L (tri r + k)) (nth R (tri r + k)) (nth B (tri r + k)) && (!decide (k < r) || hasT (trips wt) (nth L (tri r + (k + 1))) (nth R (tri r + k)) (nth B (tri (r - 1) + k)))
def rowI (wt : Bool) (n : Nat) (L R B : List Int) (r : Nat) : Bool :=
  (decide (nth L (tri r) ≤ 1) && (decide (nth R (tri r + r) ≤ 1) && decide (nth B (tri (n - 1) + r) ≤ 1))) && allB (cellI wt L R B r) (r + 1)
def puzB (S : Int) (L R B : List Int) (wt : Bool) : Bool := sizesB S L R B && allB (rowI wt S.toNat L R B) S.toNat
/-- A cell as the reference looks at it. -/
def cellS (wt : Bool) (n : Nat) (L R B : List Int) (r k : Nat) : Bool :=
  (hasT (trips wt) (nth L (tri r + k)) (nth R (tri r + k)) (nth B (tri r + k))) && ((!decide (k < r) || decide (downB (nth R (tri r + k)) (nth B (tri (r - 1) + k)) = nth L (tri r + (k + 1)))) &&
    (!(decide (r + 1 = n) && !decide (nth B (tri r + k) ≤ 1)) && (!(decide (k = 0) && !decide (nth L (tri r + k) ≤ 1)) && !(decide (k = r) && !decide (nth R (tri r + k) ≤ 1)))))
def puzS (S : Int) (L R B : List Int) (wt : Bool) : Bool := sizesB S L R B && allB (fun r => allB (cellS wt S.toNat L R B r) (r + 1)) S.toNat

theorem allB_iff {f : Nat → Bool} {n : Nat} : allB f n = true ↔ ∀ k, k < n → f k = true := ⟨fun h k hk => allB_at h hk, fun h => by
  induction n with
  | zero => simp [allB]
  | succ n ih => rw [allB_succ, ih fun k hk => h k (by omega), h n (by omega)]; rfl⟩
theorem up_range {wt : Bool} {a b c : Int} (h : hasT (trips wt) a b c = true) : (0 ≤ a ∧ a ≤ 2) ∧ (0 ≤ b ∧ b ≤ 2) ∧ (0 ≤ c ∧ c ≤ 3) ∧ (c = 3 → wt = true) := by
  have h0 : ((a = 0 ∧ b = 0 ∧ c = 0) ∨ (a = 1 ∧ b = 1 ∧ c = 1) ∨ (a = 0 ∧ b = 1 ∧ c = 2) ∨ (a = 1 ∧ b = 2 ∧ c = 0) ∨ (a = 2 ∧ b = 0 ∧ c = 1)) ∨ ((a = 1 ∧ b = 0 ∧ c = 3) ∧ wt = true) := by
    exact hasT_iff.1 h
  rcases h0 with (⟨rfl, rfl, rfl⟩ | ⟨rfl, rfl, rfl⟩ | ⟨rfl, rfl, rfl⟩ | ⟨rfl, rfl, rfl⟩ | ⟨rfl, rfl, rfl⟩) | ⟨⟨rfl, rfl, rfl⟩, rfl⟩ <;> simp

theorem puzS_eq (S : Int) (L R B : List Int) (wt : Bool) : puzS S L R B wt = puzB S L R B wt := by
  unfold puzS puzB
  congr 1
  obtain ⟨n, hn⟩ : ∃ n, n = S.toNat := ⟨_, rfl⟩
  rw [← hn]
  rw [Bool.eq_iff_iff, allB_iff, allB_iff]
  constructor
  · intro h r hr
    have hc : ∀ r k, r < n → k ≤ r → cellS wt n L R B r k = true := fun r k h1 h2 => allB_iff.1 (h r h1) k (by omega)
    have hT : ∀ r k, r < n → k ≤ r → hasT (trips wt) (nth L (tri r + k)) (nth R (tri r + k)) (nth B (tri r + k)) = true := fun r k h1 h2 => by
      have := hc r k h1 h2
      unfold cellS at this
      rw [Bool.and_eq_true] at this
      exact this.1
    unfold rowI
    simp only [Bool.and_eq_true, decide_eq_true_eq]
    refine ⟨⟨?_, ?_, ?_⟩, allB_iff.2 fun k hk => ?_⟩
    · have := hc r 0 hr (by omega)
      simp [cellS] at this
      exact this.2.2.2.1
    · have := hc r r hr (by omega)
      simp [cellS] at this
      exact this.2.2.2
    · have := hc (n - 1) r (by omega) (by omega)
      simp [cellS] at this
      exact this.2.2.1.resolve_left (by omega)
    · have h1 := hc r k hr (by omega)
      simp only [cellS, Bool.and_eq_true] at h1
      simp only [cellI, Bool.and_eq_true]
      refine ⟨h1.1, ?_⟩
      by_cases hlt : k < r
      · have h2 := h1.2.1
        simp [hlt] at h2 ⊢
        obtain ⟨t1, t2⟩ := up_range (hT (r - 1) k (by omega) (by omega))
        rw [hasT_down (up_range h1.1).2.1 t2.2.1 t2.2.2 (up_range (hT r (k + 1) hr (by omega))).1.1]
        simp [h2]
      · simp [hlt]
  · intro h r hr
    have hR : ∀ r, r < n → (nth L (tri r) ≤ 1 ∧ nth R (tri r + r) ≤ 1 ∧ nth B (tri (n - 1) + r) ≤ 1) ∧ ∀ k, k ≤ r → cellI wt L R B r k = true := fun r h1 => by
      have := h r h1
      unfold rowI at this
      simp only [Bool.and_eq_true, decide_eq_true_eq] at this
      exact ⟨this.1, fun k hk => allB_iff.1 this.2 k (by omega)⟩
    have hT : ∀ r k, r < n → k ≤ r → hasT (trips wt) (nth L (tri r + k)) (nth R (tri r + k)) (nth B (tri r + k)) = true := fun r k h1 h2 => by
      have := (hR r h1).2 k h2
      unfold cellI at this
      rw [Bool.and_eq_true] at this
      exact this.1
    refine allB_iff.2 fun k hk => ?_
    obtain ⟨⟨b1, b2, b3⟩, hI⟩ := hR r hr
    have h1 := hI k (by omega)
    simp only [cellI, Bool.and_eq_true] at h1
    simp only [cellS, Bool.and_eq_true]
    refine ⟨h1.1, ?_, ?_, ?_, ?_⟩
    · by_cases hlt : k < r
      · have h2 := h1.2
        simp [hlt] at h2 ⊢
        obtain ⟨t1, t2⟩ := up_range (hT (r - 1) k (by omega) (by omega))
        rw [hasT_down (up_range h1.1).2.1 t2.2.1 t2.2.2 (up_range (hT r (k + 1) hr (by omega))).1.1] at h2
        simpa using h2
      · simp [hlt]
    · by_cases he : r + 1 = n
      · have := (hR k (by omega)).1.2.2
        rw [show n - 1 = r by omega] at this
        simp [this]
      · simp [he]
    · by_cases he : k = 0
      · subst he; simp; exact b1
      · simp [he]
    · by_cases he : k = r
      · subst he; simp [b2]
      · simp [he]

theorem row_no {wt : Bool} {n r : Nat} {L R B : List Int} (h : ¬(nth L (tri r) ≤ 1 ∧ nth R (tri r + r) ≤ 1 ∧ nth B (tri (n - 1) + r) ≤ 1)) : rowI wt n L R B r = false := by
  have : (decide (nth L (tri r) ≤ 1) && (decide (nth R (tri r + r) ≤ 1) && decide (nth B (tri (n - 1) + r) ≤ 1))) = false := by
    rw [← Bool.not_eq_true]; simpa using h
  simp only [rowI, this, Bool.false_and]
theorem row_cell {wt : Bool} {n r k : Nat} {L R B : List Int} (hk : k ≤ r) (h : cellI wt L R B r k = false) : rowI wt n L R B r = false := by
  rw [rowI, allB_no (show k < r + 1 by omega) h, Bool.and_false]
theorem row_yes {wt : Bool} {n r : Nat} {L R B : List Int} (h : nth L (tri r) ≤ 1 ∧ nth R (tri r + r) ≤ 1 ∧ nth B (tri (n - 1) + r) ≤ 1) (hc : ∀ k, k < r + 1 → cellI wt L R B r k = true) : rowI wt n L R B r = true := by
  rw [rowI, allB_iff.2 hc, Bool.and_true]
  simpa using h
theorem puz_no {n r : Nat} {L R B : List Int} {wt : Bool} (hr : r < n) (h : rowI wt n L R B r = false) : puzB n L R B wt = false := by
  rw [puzB, Int.toNat_natCast, allB_no hr h, Bool.and_false]
theorem puz_yes {n : Nat} {L R B : List Int} {wt : Bool} (hs : sizesB n L R B = true) (h : ∀ r, r < n → rowI wt n L R B r = true) : puzB n L R B wt = true := by
  rw [puzB, hs, Int.toNat_natCast, allB_iff.2 h]; rfl
theorem cell_no1 {wt : Bool} {r k : Nat} {L R B : List Int} (h : hasT (trips wt) (nth L (tri r + k)) (nth R (tri r + k)) (nth B (tri r + k)) = false) : cellI wt L R B r k = false := by simp [cellI, h]
theorem cell_no2 {wt : Bool} {r k : Nat} {L R B : List Int} (hk : k < r) (h : hasT (trips wt) (nth L (tri r + (k + 1))) (nth R (tri r + k)) (nth B (tri (r - 1) + k)) = false) : cellI wt L R B r k = false := by simp [cellI, h, hk]
theorem cell_yes {wt : Bool} {r k : Nat} {L R B : List Int} (h : hasT (trips wt) (nth L (tri r + k)) (nth R (tri r + k)) (nth B (tri r + k)) = true) (h2 : k < r → hasT (trips wt) (nth L (tri r + (k + 1))) (nth R (tri r + k)) (nth B (tri (r - 1) + k)) = true) : cellI wt L R B r k = true := by
  rw [cellI, h, Bool.true_and]
  by_cases hk : k < r
  · simp [h2 hk]
  · simp [hk]
end Go.Proofs.Yteodckkkjhapgaa
