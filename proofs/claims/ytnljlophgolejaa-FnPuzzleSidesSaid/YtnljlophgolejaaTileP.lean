/- Puzzles listed: the model of tile and of l5Fill. No program is in sight here. -/
import Derived.Test.YtnljlophgolejaaPlain
import Derived.Test.YtnljlophgolejaaWords
namespace Go.Proofs.Ytnljlophgolejaa

/-- A puzzle that is begun: three lists of labels. -/
abbrev PZ := List Int × List Int × List Int
def snoc (p : PZ) (t : Int × Int × Int) : PZ := (p.1 ++ [t.1], p.2.1 ++ [t.2.1], p.2.2 ++ [t.2.2])
def nxR (r k : Nat) : Nat := if k = r then r + 1 else r
def nxK (r k : Nat) : Nat := if k = r then 0 else k + 1
/-- The three tests of a triple that the program makes. -/
def okT (wt : Bool) (n : Nat) (a b : List Int) (r k : Nat) (p : PZ) (t : Int × Int × Int) : Bool :=
  (if k = 0 then decide (t.1 = nth a (n - 1 - r)) else hasT (trips wt) t.1 (nth p.2.1 (tri r + k - 1)) (nth p.2.2 (tri (r - 1) + (k - 1)))) &&
    ((!decide (k = r) || decide (t.2.1 = nth b r)) && (!decide (r + 1 = n) || decide (t.2.2 ≤ 1)))
/-- The puzzles with d small triangles to come, in the program's order. -/
def tl (wt : Bool) (n : Nat) (a b : List Int) : Nat → Nat → Nat → PZ → List PZ
  | 0, _, _, p => [p]
  | d + 1, r, k, p => ((trips wt).filter (okT wt n a b r k p)).flatMap fun t => tl wt n a b d (nxR r k) (nxK r k) (snoc p t)
/-- What a right label leads to, in the reference; bottom is the label below. -/
def spK (wt : Bool) (n : Nat) (a : List Int) (go : Nat → Nat → Int → PZ → List PZ) (r k : Nat) (left : Int) (p : PZ) (right : Int) : List PZ :=
  if k < r then
    (if 0 ≤ downB right (nth p.2.2 (tri (r - 1) + k)) then go r (k + 1) (downB right (nth p.2.2 (tri (r - 1) + k))) (snoc p (left, right, upB left right wt)) else [])
  else go (r + 1) 0 (if r + 1 < n then nth a (n - 2 - r) else 0) (snoc p (left, right, upB left right wt))
def spR (wt : Bool) (n : Nat) (a b : List Int) (go : Nat → Nat → Int → PZ → List PZ) (r k : Nat) (left : Int) (p : PZ) (right : Int) : List PZ :=
  if k = r ∧ right ≠ nth b r then [] else if upB left right wt < 0 ∨ (r + 1 = n ∧ 1 < upB left right wt) then [] else spK wt n a go r k left p right
/-- The puzzles in the reference's order. -/
def sp (wt : Bool) (n : Nat) (a b : List Int) : Nat → Nat → Nat → Int → PZ → List PZ
  | 0, _, _, _, p => [p]
  | d + 1, r, k, left, p => [0, 1, 2].flatMap (spR wt n a b (sp wt n a b d) r k left p)
def spAll (wt : Bool) (a b : List Int) : List PZ := sp wt a.length a b (tri a.length) 0 0 (nth a (a.length - 1)) ([], [], [])
def tlAll (wt : Bool) (a b : List Int) : List PZ := tl wt a.length a b (tri a.length) 0 0 ([], [], [])

theorem tri_zero : tri 0 = 0 := rfl
theorem tri_next {r k : Nat} (h : k ≤ r) : tri (nxR r k) + nxK r k = tri r + k + 1 := by
  unfold nxR nxK
  by_cases e : k = r
  · rw [if_pos e, if_pos e, tri_step, e]; omega
  · rw [if_neg e, if_neg e]; omega
theorem nx_le {r k : Nat} (h : k ≤ r) : nxK r k ≤ nxR r k := by
  unfold nxR nxK
  by_cases e : k = r
  · rw [if_pos e, if_pos e]; omega
  · rw [if_neg e, if_neg e]; omega
theorem tri_inj {r k r' k' : Nat} (h : k ≤ r) (h' : k' ≤ r') (e : tri r + k = tri r' + k') : r = r' ∧ k = k' := by
  have key : ∀ {r r' k k' : Nat}, k ≤ r → tri r + k = tri r' + k' → ¬ r < r' := fun {r r' k k'} h e hlt => by
    have := tri_mono (show r + 1 ≤ r' from hlt)
    rw [tri_step] at this
    omega
  have h1 := key h e
  have h2 := key h' e.symm
  have : r = r' := by omega
  subst this
  exact ⟨rfl, by omega⟩

/-- What holds of a puzzle of which m small triangles are laid. -/
structure Good (wt : Bool) (n : Nat) (a b : List Int) (p : PZ) (m : Nat) : Prop where
  l1 : p.1.length = m
  l2 : p.2.1.length = m
  l3 : p.2.2.length = m
  up : ∀ r k, r < n → k ≤ r → tri r + k < m → hasT (trips wt) (nth p.1 (tri r + k)) (nth p.2.1 (tri r + k)) (nth p.2.2 (tri r + k)) = true
  down : ∀ r k, r < n → k < r → tri r + (k + 1) < m → downB (nth p.2.1 (tri r + k)) (nth p.2.2 (tri (r - 1) + k)) = nth p.1 (tri r + (k + 1))
  left : ∀ r, r < n → tri r < m → nth p.1 (tri r) = nth a (n - 1 - r)
  right : ∀ r, r < n → tri r + r < m → nth p.2.1 (tri r + r) = nth b r
  bottom : ∀ k, k < n → tri (n - 1) + k < m → nth p.2.2 (tri (n - 1) + k) ≤ 1
theorem Good.nil (wt : Bool) (n : Nat) (a b : List Int) : Good wt n a b ([], [], []) 0 :=
  ⟨rfl, rfl, rfl, fun _ _ _ _ h => by omega, fun _ _ _ _ h => by omega, fun _ _ h => by omega, fun _ _ h => by omega, fun _ _ h => by omega⟩
theorem snoc_lt {p : PZ} {t : Int × Int × Int} {m j : Nat} (h1 : p.1.length = m) (h2 : p.2.1.length = m) (h3 : p.2.2.length = m) (hj : j < m) :
    nth (snoc p t).1 j = nth p.1 j ∧ nth (snoc p t).2.1 j = nth p.2.1 j ∧ nth (snoc p t).2.2 j = nth p.2.2 j :=
  ⟨nth_append_left (by omega), nth_append_left (by omega), nth_append_left (by omega)⟩
theorem snoc_at {p : PZ} {t : Int × Int × Int} {m : Nat} (h1 : p.1.length = m) (h2 : p.2.1.length = m) (h3 : p.2.2.length = m) :
    nth (snoc p t).1 m = t.1 ∧ nth (snoc p t).2.1 m = t.2.1 ∧ nth (snoc p t).2.2 m = t.2.2 := by
  subst h1
  refine ⟨?_, ?_, ?_⟩
  · show nth (p.1 ++ [t.1]) _ = _
    rw [nth_append_right (Nat.le_refl _)]; simp [nth]
  · show nth (p.2.1 ++ [t.2.1]) _ = _
    rw [nth_append_right (by omega), h2]; simp [nth]
  · show nth (p.2.2 ++ [t.2.2]) _ = _
    rw [nth_append_right (by omega), h3]; simp [nth]
/-- One small triangle more. -/
theorem Good.snoc {wt : Bool} {n : Nat} {a b : List Int} {p : PZ} {r k : Nat} {t : Int × Int × Int} (h : Good wt n a b p (tri r + k)) (hr : r < n) (hk : k ≤ r)
    (hup : hasT (trips wt) t.1 t.2.1 t.2.2 = true) (hl : k = 0 → t.1 = nth a (n - 1 - r)) (hd : 0 < k → downB (nth p.2.1 (tri r + k - 1)) (nth p.2.2 (tri (r - 1) + (k - 1))) = t.1)
    (hrt : k = r → t.2.1 = nth b r) (hb : r + 1 = n → t.2.2 ≤ 1) : Good wt n a b (snoc p t) (tri r + k + 1) := by
  have hlt : ∀ j, j < tri r + k → _ := fun j hj => snoc_lt (t := t) h.l1 h.l2 h.l3 hj
  have hat := snoc_at (t := t) h.l1 h.l2 h.l3
  refine ⟨by simp [Proofs.Ytnljlophgolejaa.snoc, h.l1], by simp [Proofs.Ytnljlophgolejaa.snoc, h.l2], by simp [Proofs.Ytnljlophgolejaa.snoc, h.l3], fun r' k' h1 h2 h3 => ?_, fun r' k' h1 h2 h3 => ?_, fun r' h1 h3 => ?_, fun r' h1 h3 => ?_, fun k' h1 h3 => ?_⟩
  · by_cases e : tri r' + k' = tri r + k
    · rw [e, hat.1, hat.2.1, hat.2.2]; exact hup
    · obtain ⟨q1, q2, q3⟩ := hlt (tri r' + k') (by omega)
      rw [q1, q2, q3]; exact h.up r' k' h1 h2 (by omega)
  · have q2 := (hlt (tri r' + k') (by omega)).2.1
    have htr : tri (r' - 1) + k' < tri r' := by
      obtain ⟨s, rfl⟩ : ∃ s, r' = s + 1 := ⟨r' - 1, by omega⟩
      rw [show s + 1 - 1 = s by omega, tri_step]; omega
    have q3 := (hlt (tri (r' - 1) + k') (by omega)).2.2
    rw [q2, q3]
    by_cases e : tri r' + (k' + 1) = tri r + k
    · rw [e, hat.1]
      obtain ⟨rfl, rfl⟩ := tri_inj (by omega) hk e
      have := hd (by omega)
      rwa [show tri r' + (k' + 1) - 1 = tri r' + k' by omega, show k' + 1 - 1 = k' by omega] at this
    · rw [(hlt (tri r' + (k' + 1)) (by omega)).1]
      exact h.down r' k' h1 h2 (by omega)
  · by_cases e : tri r' = tri r + k
    · obtain ⟨rfl, e2⟩ := tri_inj (k := 0) (Nat.zero_le _) hk (show tri r' + 0 = tri r + k from e)
      rw [e, hat.1]; exact hl e2.symm
    · rw [(hlt (tri r') (by omega)).1]; exact h.left r' h1 (by omega)
  · by_cases e : tri r' + r' = tri r + k
    · obtain ⟨rfl, e2⟩ := tri_inj (Nat.le_refl _) hk e
      rw [e, hat.2.1]; exact hrt e2.symm
    · rw [(hlt (tri r' + r') (by omega)).2.1]; exact h.right r' h1 (by omega)
  · by_cases e : tri (n - 1) + k' = tri r + k
    · obtain ⟨e1, e2⟩ := tri_inj (by omega) hk e
      rw [e, hat.2.2]; exact hb (by omega)
    · rw [(hlt (tri (n - 1) + k') (by omega)).2.2]; exact h.bottom k' h1 (by omega)
/-- The label that is met at the left of the next small triangle. -/
structure LeftIs (wt : Bool) (n : Nat) (a : List Int) (r k : Nat) (p : PZ) (left : Int) : Prop where
  rng : 0 ≤ left ∧ left ≤ 2
  zero : k = 0 → left = nth a (n - 1 - r)
  pos : 0 < k → downB (nth p.2.1 (tri r + k - 1)) (nth p.2.2 (tri (r - 1) + (k - 1))) = left ∧ ∀ x, 0 ≤ x → hasT (trips wt) x (nth p.2.1 (tri r + k - 1)) (nth p.2.2 (tri (r - 1) + (k - 1))) = decide (downB (nth p.2.1 (tri r + k - 1)) (nth p.2.2 (tri (r - 1) + (k - 1))) = x)
theorem downB_le (x y : Int) : downB x y ≤ 2 := by
  unfold downB
  split
  · omega
  · split
    · omega
    · split
      · omega
      · split
        · omega
        · split <;> omega
theorem trips_pos {wt : Bool} {t : Int × Int × Int} (h : t ∈ trips wt) : hasT (trips wt) t.1 t.2.1 t.2.2 = true := by
  unfold hasT
  rw [List.any_eq_true]
  exact ⟨t, h, by simp⟩
theorem okT_left {wt : Bool} {n : Nat} {a b : List Int} {r k : Nat} {p : PZ} {left : Int} {t : Int × Int × Int} (hL : LeftIs wt n a r k p left) (ht : 0 ≤ t.1) :
    okT wt n a b r k p t = (decide (t.1 = left) && ((!decide (k = r) || decide (t.2.1 = nth b r)) && (!decide (r + 1 = n) || decide (t.2.2 ≤ 1)))) := by
  unfold okT
  congr 1
  by_cases h0 : k = 0
  · rw [if_pos h0, hL.zero h0]
  · rw [if_neg h0]
    obtain ⟨h1, h2⟩ := hL.pos (by omega)
    rw [h2 _ ht, h1]
    congr 1
    exact propext ⟨Eq.symm, Eq.symm⟩
section
variable {wt : Bool} {n : Nat} {a b : List Int} {r k : Nat} {p : PZ} {left : Int}
/-- A place further: what the reference hands on is what the program asks. -/
theorem LeftIs.next (hG : Good wt n a b p (tri r + k)) (hr : r < n) (hk : k < r) {right bottom : Int} (hup : hasT (trips wt) left right bottom = true) (h0 : 0 ≤ downB right (nth p.2.2 (tri (r - 1) + k))) :
    LeftIs wt n a r (k + 1) (snoc p (left, right, bottom)) (downB right (nth p.2.2 (tri (r - 1) + k))) := by
  have hat := snoc_at (t := (left, right, bottom)) hG.l1 hG.l2 hG.l3
  have htr : tri (r - 1) + k < tri r := by
    obtain ⟨s, rfl⟩ : ∃ s, r = s + 1 := ⟨r - 1, by omega⟩
    rw [show s + 1 - 1 = s by omega, tri_step]; omega
  have hlt := (snoc_lt (t := (left, right, bottom)) hG.l1 hG.l2 hG.l3 (j := tri (r - 1) + k) (by omega)).2.2
  refine ⟨⟨h0, downB_le _ _⟩, fun h => by omega, fun _ => ?_⟩
  rw [show tri r + (k + 1) - 1 = tri r + k by omega, show k + 1 - 1 = k by omega, hat.2.1, hlt]
  refine ⟨rfl, fun x hx => ?_⟩
  have h1 := up_range hup
  have h2 := up_range (hG.up (r - 1) k (by omega) (by omega) (by omega))
  exact hasT_down h1.2.1 h2.2.2.1 h2.2.2.2 hx
theorem none_left (hG : Good wt n a b p (tri r + k)) (hr : r < n) (hk : k < r) {right bottom : Int} (hup : hasT (trips wt) left right bottom = true) (h0 : ¬ 0 ≤ downB right (nth p.2.2 (tri (r - 1) + k))) (d : Nat) :
    tl wt n a b (d + 1) r (k + 1) (snoc p (left, right, bottom)) = [] := by
  have hat := snoc_at (t := (left, right, bottom)) hG.l1 hG.l2 hG.l3
  have htr : tri (r - 1) + k < tri r := by
    obtain ⟨s, rfl⟩ : ∃ s, r = s + 1 := ⟨r - 1, by omega⟩
    rw [show s + 1 - 1 = s by omega, tri_step]; omega
  have hlt := (snoc_lt (t := (left, right, bottom)) hG.l1 hG.l2 hG.l3 (j := tri (r - 1) + k) (by omega)).2.2
  have h1 := up_range hup
  have h2 := up_range (hG.up (r - 1) k (by omega) (by omega) (by omega))
  have : (trips wt).filter (okT wt n a b r (k + 1) (snoc p (left, right, bottom))) = [] := by
    rw [List.filter_eq_nil_iff]
    intro t ht
    have ht1 := up_range (trips_pos ht)
    unfold okT
    rw [if_neg (by omega), show tri r + (k + 1) - 1 = tri r + k by omega, show k + 1 - 1 = k by omega, hat.2.1, hlt, hasT_down h1.2.1 h2.2.2.1 h2.2.2.2 ht1.1.1]
    simp only [Bool.and_eq_true, decide_eq_true_eq]
    rintro ⟨h, -⟩
    omega
  rw [tl, this]
  rfl
end
/-- The program's branch behind a triple. -/
def brT (wt : Bool) (n : Nat) (a b : List Int) (d r k : Nat) (p : PZ) (t : Int × Int × Int) : List PZ :=
  if ((!decide (k = r) || decide (t.2.1 = nth b r)) && (!decide (r + 1 = n) || decide (t.2.2 ≤ 1))) = true then tl wt n a b d (nxR r k) (nxK r k) (snoc p t) else []
theorem tl_cases {wt : Bool} {n : Nat} {a b : List Int} {d r k : Nat} {p : PZ} {left : Int} (hL : LeftIs wt n a r k p left) :
    tl wt n a b (d + 1) r k p = if left = 0 then brT wt n a b d r k p (0, 0, 0) ++ brT wt n a b d r k p (0, 1, 2) else if left = 1 then brT wt n a b d r k p (1, 1, 1) ++ (brT wt n a b d r k p (1, 2, 0) ++ if wt = true then brT wt n a b d r k p (1, 0, 3) else [])
      else brT wt n a b d r k p (2, 0, 1) := by
  have key : ∀ l : List (Int × Int × Int), (∀ t ∈ l, 0 ≤ t.1) → (l.filter (okT wt n a b r k p)).flatMap (fun t => tl wt n a b d (nxR r k) (nxK r k) (snoc p t)) = l.flatMap fun t => if t.1 = left then brT wt n a b d r k p t else [] := by
    intro l
    induction l with
    | nil => intro _; rfl
    | cons t l ih =>
      intro h
      have h1 := ih fun t ht => h t (by simp [ht])
      rw [List.filter_cons, List.flatMap_cons, ← h1, okT_left hL (h t (by simp))]
      by_cases e : t.1 = left
      · rw [if_pos e]
        unfold brT
        simp only [e, decide_true, Bool.true_and]
        split
        · rw [List.flatMap_cons]
        · rfl
      · rw [if_neg e]
        simp [e]
  rw [tl, key _ fun t ht => (up_range (trips_pos ht)).1.1]
  have hl : left = 0 ∨ left = 1 ∨ left = 2 := by have := hL.rng; omega
  rcases hl with rfl | rfl | rfl <;> cases wt <;> simp [trips]
theorem br_eq {wt : Bool} {n : Nat} {a b : List Int} {d r k : Nat} {p : PZ} {left right bottom : Int} (go : Nat → Nat → Int → PZ → List PZ) (R : List PZ → List PZ → Prop) (hnil : R [] [])
    (hup : hasT (trips wt) left right bottom = true) (hG : Good wt n a b p (tri r + k)) (hr : r < n) (hk : k ≤ r) (hd : tri r + k + 1 + d = tri n) (ha : ∀ j, 0 ≤ nth a j ∧ nth a j ≤ 2) (hL : LeftIs wt n a r k p left)
    (hgo : ∀ r' k' left' p', r' < n ∨ d = 0 → k' ≤ r' → tri r' + k' + d = tri n → Good wt n a b p' (tri r' + k') → (r' < n → LeftIs wt n a r' k' p' left') → R (tl wt n a b d r' k' p') (go r' k' left' p')) :
    R (brT wt n a b d r k p (left, right, bottom)) (spR wt n a b go r k left p right) := by
  have hb : upB left right wt = bottom := (hasT_up.1 hup).2.2.2
  have hb0 := (hasT_up.1 hup).2.2.1
  unfold brT spR
  rw [hb]
  by_cases h1 : k = r ∧ right ≠ nth b r
  · rw [if_pos h1, if_neg (by simp [h1.1]; intro h; exact absurd h h1.2)]
    exact hnil
  rw [if_neg h1]
  by_cases h2 : bottom < 0 ∨ (r + 1 = n ∧ 1 < bottom)
  · rw [if_pos h2, if_neg (by
      simp only [Bool.and_eq_true, Bool.or_eq_true, Bool.not_eq_true', decide_eq_false_iff_not, decide_eq_true_eq]
      rintro ⟨-, h3⟩
      rcases h3 with h3 | h3 <;> omega)]
    exact hnil
  rw [if_neg h2, if_pos (by
    simp only [Bool.and_eq_true, Bool.or_eq_true, Bool.not_eq_true', decide_eq_false_iff_not, decide_eq_true_eq]
    refine ⟨?_, ?_⟩
    · by_cases e : k = r
      · exact .inr (by by_cases e2 : right = nth b r <;> simp_all)
      · exact .inl e
    · by_cases e : r + 1 = n
      · exact .inr (by omega)
      · exact .inl e)]
  have hG' : Good wt n a b (snoc p (left, right, bottom)) (tri r + k + 1) := by
    refine hG.snoc hr hk hup hL.zero (fun h => (hL.pos h).1) (fun e => ?_) (fun e => ?_)
    · by_cases e2 : right = nth b r
      · exact e2
      · exact absurd ⟨e, e2⟩ h1
    · show bottom ≤ 1; omega
  unfold spK
  by_cases h3 : k < r
  · have e1 : nxR r k = r := by unfold nxR; rw [if_neg (by omega)]
    have e2 : nxK r k = k + 1 := by unfold nxK; rw [if_neg (by omega)]
    rw [if_pos h3, e1, e2]
    by_cases h4 : 0 ≤ downB right (nth p.2.2 (tri (r - 1) + k))
    · rw [if_pos h4, hb]
      exact hgo r (k + 1) _ _ (.inl hr) (by omega) (by omega) hG' fun _ => LeftIs.next hG hr h3 hup h4
    · rw [if_neg h4]
      have hd1 : ∃ d', d = d' + 1 := by
        have := tri_lt hr (show k + 1 ≤ r by omega)
        exact ⟨d - 1, by omega⟩
      obtain ⟨d', rfl⟩ := hd1
      rw [none_left hG hr h3 hup h4 d']
      exact hnil
  · obtain rfl : k = r := by omega
    have e1 : nxR k k = k + 1 := by unfold nxR; rw [if_pos rfl]
    have e2 : nxK k k = 0 := by unfold nxK; rw [if_pos rfl]
    have e3 : tri (k + 1) + 0 = tri k + k + 1 := by rw [tri_step]; omega
    rw [if_neg h3, e1, e2, hb]
    refine hgo (k + 1) 0 _ _ ?_ (Nat.zero_le _) (by omega) (by rw [e3]; exact hG') fun hlt => ?_
    · by_cases h : k + 1 < n
      · exact .inl h
      · right
        have := tri_mono (show n ≤ k + 1 by omega)
        omega
    · rw [if_pos hlt]
      exact ⟨ha _, fun _ => by rw [show n - 1 - (k + 1) = n - 2 - k by omega], fun h => by omega⟩
theorem spR_none {wt : Bool} {n : Nat} {a b : List Int} {go : Nat → Nat → Int → PZ → List PZ} {r k : Nat} {p : PZ} {left right : Int} (h : upB left right wt < 0) : spR wt n a b go r k left p right = [] := by
  unfold spR
  split
  · rfl
  · rw [if_pos (.inl h)]
/-- Plain puzzles come in one order. -/
theorem tl_eq {n : Nat} {a b : List Int} (ha : ∀ j, 0 ≤ nth a j ∧ nth a j ≤ 2) : ∀ (d r k : Nat) (left : Int) (p : PZ), r < n ∨ d = 0 → k ≤ r → tri r + k + d = tri n → Good false n a b p (tri r + k) → (r < n → LeftIs false n a r k p left) →
    tl false n a b d r k p = sp false n a b d r k left p := by
  intro d
  induction d with
  | zero => intro r k left p _ _ _ _ _; rfl
  | succ d ih =>
    intro r k left p hr hk hd hG hL
    have hr := hr.resolve_right (by omega)
    have hL := hL hr
    have key : ∀ right bottom, hasT (trips false) left right bottom = true → brT false n a b d r k p (left, right, bottom) = spR false n a b (sp false n a b d) r k left p right := fun right bottom hup =>
      br_eq _ (· = ·) rfl hup hG hr hk (by omega) ha hL fun r' k' left' p' h1 h2 h3 h4 h5 => ih r' k' left' p' h1 h2 h3 h4 h5
    rw [tl_cases hL, sp]
    have hl : left = 0 ∨ left = 1 ∨ left = 2 := by have := hL.rng; omega
    simp only [List.flatMap_cons, List.flatMap_nil, List.append_nil]
    rcases hl with rfl | rfl | rfl
    · rw [if_pos rfl, key 0 0 (by decide), key 1 2 (by decide), spR_none (right := 2) (by decide), List.append_nil]
    · rw [if_neg (by decide), if_pos rfl, key 1 1 (by decide), key 2 0 (by decide), spR_none (right := 0) (by decide)]
      simp
    · rw [if_neg (by decide), if_neg (by decide), key 0 1 (by decide), spR_none (right := 1) (by decide), spR_none (right := 2) (by decide)]
      simp
/-- Weighted puzzles are the same in both orders. -/
theorem tl_perm {n : Nat} {a b : List Int} (ha : ∀ j, 0 ≤ nth a j ∧ nth a j ≤ 2) : ∀ (d r k : Nat) (left : Int) (p : PZ), r < n ∨ d = 0 → k ≤ r → tri r + k + d = tri n → Good true n a b p (tri r + k) → (r < n → LeftIs true n a r k p left) →
    (tl true n a b d r k p).Perm (sp true n a b d r k left p) := by
  intro d
  induction d with
  | zero => intro r k left p _ _ _ _ _; exact List.Perm.refl _
  | succ d ih =>
    intro r k left p hr hk hd hG hL
    have hr := hr.resolve_right (by omega)
    have hL := hL hr
    have key : ∀ right bottom, hasT (trips true) left right bottom = true → (brT true n a b d r k p (left, right, bottom)).Perm (spR true n a b (sp true n a b d) r k left p right) := fun right bottom hup =>
      br_eq _ List.Perm (List.Perm.refl _) hup hG hr hk (by omega) ha hL fun r' k' left' p' h1 h2 h3 h4 h5 => ih r' k' left' p' h1 h2 h3 h4 h5
    rw [tl_cases hL, sp]
    have hl : left = 0 ∨ left = 1 ∨ left = 2 := by have := hL.rng; omega
    simp only [List.flatMap_cons, List.flatMap_nil, List.append_nil]
    rcases hl with rfl | rfl | rfl
    · rw [if_pos rfl, spR_none (right := 2) (by decide), List.append_nil]
      exact (key 0 0 (by decide)).append (key 1 2 (by decide))
    · rw [if_neg (by decide), if_pos rfl, if_pos trivial]
      have h0 := key 0 3 (by decide)
      have h1 := key 1 1 (by decide)
      have h2 := key 2 0 (by decide)
      refine (h1.append (h2.append h0)).trans ?_
      rw [← List.append_assoc]
      exact List.perm_append_comm
    · rw [if_neg (by decide), if_neg (by decide), spR_none (right := 1) (by decide), spR_none (right := 2) (by decide)]
      simp only [List.append_nil]
      exact key 0 1 (by decide)

theorem str_labels {a : List Int} (h : isStrB a = true) (j : Nat) : 0 ≤ nth a j ∧ nth a j ≤ 2 := by
  rcases Nat.lt_or_ge j a.length with hj | hj
  · have := (isStrB_iff.1 h).2 j hj; omega
  · rw [nth_ge hj]; omega
theorem left_first {wt : Bool} {a : List Int} (h : isStrB a = true) (p : PZ) : LeftIs wt a.length a 0 0 p (nth a (a.length - 1)) := ⟨str_labels h _, fun _ => rfl, fun h => by omega⟩
theorem tlAll_eq {a b : List Int} (h : isStrB a = true) : tlAll false a b = spAll false a b :=
  tl_eq (str_labels h) _ _ _ _ _ (.inl (by have := (isStrB_iff.1 h).1; omega)) (Nat.le_refl _) (by rw [tri_zero]; omega) (Good.nil _ _ _ _) fun _ => left_first h _
theorem tlAll_perm {a b : List Int} (wt : Bool) (h : isStrB a = true) : (tlAll wt a b).Perm (spAll wt a b) := by
  cases wt
  · rw [tlAll_eq h]
  · exact tl_perm (str_labels h) _ _ _ _ _ (.inl (by have := (isStrB_iff.1 h).1; omega)) (Nat.le_refl _) (by rw [tri_zero]; omega) (Good.nil _ _ _ _) fun _ => left_first h _

/-- What is listed is whole. -/
theorem tl_good {wt : Bool} {n : Nat} {a b : List Int} : ∀ (d r k : Nat) (p : PZ), r < n ∨ d = 0 → k ≤ r → tri r + k + d = tri n → Good wt n a b p (tri r + k) →
    (∀ q, 0 < k → hasT (trips wt) q (nth p.2.1 (tri r + k - 1)) (nth p.2.2 (tri (r - 1) + (k - 1))) = true → downB (nth p.2.1 (tri r + k - 1)) (nth p.2.2 (tri (r - 1) + (k - 1))) = q) → ∀ q ∈ tl wt n a b d r k p, Good wt n a b q (tri n) := by
  intro d
  induction d with
  | zero =>
    intro r k p _ _ hd hG _ q hq
    rw [tl, List.mem_singleton] at hq
    subst hq
    rw [← hd]; exact hG
  | succ d ih =>
    intro r k p hr hk hd hG hdn q hq
    have hr := hr.resolve_right (by omega)
    rw [tl, List.mem_flatMap] at hq
    obtain ⟨t, ht, hq⟩ := hq
    rw [List.mem_filter] at ht
    obtain ⟨ht, hok⟩ := ht
    have hup := trips_pos ht
    unfold okT at hok
    simp only [Bool.and_eq_true, Bool.or_eq_true, Bool.not_eq_true', decide_eq_false_iff_not, decide_eq_true_eq] at hok
    obtain ⟨h1, h2, h3⟩ := hok
    have hG' : Good wt n a b (snoc p t) (tri r + k + 1) := by
      refine hG.snoc hr hk hup (fun e => ?_) (fun e => ?_) (fun e => ?_) (fun e => ?_)
      · rw [if_pos e] at h1; exact of_decide_eq_true h1
      · rw [if_neg (by omega)] at h1; exact hdn _ e h1
      · exact h2.resolve_left (by simp [e])
      · exact h3.resolve_left (by simp [e])
    have hnx := tri_next hk
    refine ih (nxR r k) (nxK r k) (snoc p t) ?_ (nx_le hk) (by omega) (by rw [hnx]; exact hG') ?_ q hq
    · by_cases h : nxR r k < n
      · exact .inl h
      · right
        have := tri_mono (show n ≤ nxR r k by omega)
        omega
    · intro q' hk0 hq'
      by_cases e : k = r
      · exfalso
        unfold nxK at hk0
        rw [if_pos e] at hk0
        omega
      · have e1 : nxR r k = r := by unfold nxR; rw [if_neg e]
        have e2 : nxK r k = k + 1 := by unfold nxK; rw [if_neg e]
        rw [e1, e2] at hq' ⊢
        have hat := snoc_at (t := t) hG.l1 hG.l2 hG.l3
        have htr : tri (r - 1) + k < tri r := by
          obtain ⟨s, rfl⟩ : ∃ s, r = s + 1 := ⟨r - 1, by omega⟩
          rw [show s + 1 - 1 = s by omega, tri_step]; omega
        have hlt := (snoc_lt (t := t) hG.l1 hG.l2 hG.l3 (j := tri (r - 1) + k) (by omega)).2.2
        rw [show tri r + (k + 1) - 1 = tri r + k by omega, show k + 1 - 1 = k by omega, hat.2.1, hlt] at hq' ⊢
        have u1 := up_range hup
        have u2 := up_range (hG.up (r - 1) k (by omega) (by omega) (by omega))
        have hq0 : 0 ≤ q' := by
          have hq2 := hq'
          unfold hasT at hq2
          rw [List.any_eq_true] at hq2
          obtain ⟨t', ht', he⟩ := hq2
          simp only [Bool.and_eq_true, decide_eq_true_eq] at he
          rw [he.1]
          exact (up_range (trips_pos ht')).1.1
        rw [hasT_down u1.2.1 u2.2.2.1 u2.2.2.2 hq0] at hq'
        exact of_decide_eq_true hq'
theorem tlAll_good {wt : Bool} {a b : List Int} (h : isStrB a = true) : ∀ q ∈ tlAll wt a b, Good wt a.length a b q (tri a.length) :=
  tl_good _ _ _ _ (.inl (by have := (isStrB_iff.1 h).1; omega)) (Nat.le_refl _) (by rw [tri_zero]; omega) (Good.nil _ _ _ _) (fun _ h => by omega)
/-- A whole one is a puzzle. -/
theorem Good.puz {wt : Bool} {a b : List Int} {p : PZ} (ha : isStrB a = true) (hb : isStrB b = true) (hab : a.length = b.length) (h : Good wt a.length a b p (tri a.length)) : puzB (a.length : Int) p.1 p.2.1 p.2.2 wt = true := by
  rw [← puzS_eq]
  have hn := (isStrB_iff.1 ha).1
  unfold puzS
  rw [Bool.and_eq_true]
  constructor
  · unfold sizesB
    rw [Int.toNat_natCast]
    simp only [Bool.and_eq_true, decide_eq_true_eq]
    exact ⟨inB_yes (by omega) (by omega), h.l1, h.l2, h.l3⟩
  · rw [Int.toNat_natCast]
    refine allB_iff.2 fun r hr => allB_iff.2 fun k hk => ?_
    have hlt := tri_lt hr (show k ≤ r by omega)
    unfold cellS
    simp only [Bool.and_eq_true, Bool.or_eq_true, Bool.not_eq_true', decide_eq_true_eq, decide_eq_false_iff_not, Bool.and_eq_false_iff, Bool.not_eq_false']
    refine ⟨h.up r k hr (by omega) hlt, ?_, ?_, ?_, ?_⟩
    · by_cases e : k < r
      · exact .inr (h.down r k hr e (tri_lt hr (by omega)))
      · exact .inl e
    · by_cases e : r + 1 = a.length
      · have := h.bottom k (by omega) (by rw [show a.length - 1 = r by omega]; exact hlt)
        rw [show a.length - 1 = r by omega] at this
        exact .inr this
      · exact .inl e
    · by_cases e : k = 0
      · subst e
        have := h.left r hr hlt
        have h2 := (isStrB_iff.1 ha).2 (a.length - 1 - r) (by omega)
        exact .inr (by rw [Nat.add_zero, this]; omega)
      · exact .inl e
    · by_cases e : k = r
      · subst e
        have := h.right k hr hlt
        have h2 := (isStrB_iff.1 hb).2 k (by omega)
        exact .inr (by rw [this]; omega)
      · exact .inl e
theorem puz_wt {S : Int} {L R B : List Int} {wt : Bool} (h : puzB S L R B wt = true) : puzB S L R B true = true := by
  cases wt
  · rw [← puzS_eq] at h ⊢
    unfold puzS at h ⊢
    rw [Bool.and_eq_true] at h ⊢
    refine ⟨h.1, allB_iff.2 fun r hr => allB_iff.2 fun k hk => ?_⟩
    have h1 := allB_iff.1 (allB_iff.1 h.2 r hr) k hk
    unfold cellS at h1 ⊢
    simp only [Bool.and_eq_true] at h1 ⊢
    refine ⟨?_, h1.2⟩
    have h2 := hasT_iff.1 h1.1
    exact hasT_iff.2 (h2.imp id fun h => ⟨h.1, rfl⟩)
  · exact h

/-- Through a list of puzzles, as long as it is wished. -/
def seeAll {S : Type} (step : S → PZ → S) (go : S → PZ → Bool) : S → List PZ → S × Bool
  | s, [] => (s, true)
  | s, p :: ps => if go s p = true then seeAll step go (step s p) ps else (step s p, false)
theorem seeAll_app {S : Type} {step : S → PZ → S} {go : S → PZ → Bool} (l1 l2 : List PZ) : ∀ s, seeAll step go s (l1 ++ l2) = if (seeAll step go s l1).2 = true then seeAll step go (seeAll step go s l1).1 l2 else seeAll step go s l1 := by
  induction l1 with
  | nil => intro s; simp [seeAll]
  | cons p l ih =>
    intro s
    rw [List.cons_append, seeAll, seeAll]
    by_cases h : go s p = true
    · rw [if_pos h, if_pos h, ih]
    · rw [if_neg h, if_neg h]
      simp
theorem seeAll_all {S : Type} {step : S → PZ → S} {go : S → PZ → Bool} (hg : ∀ s p, go s p = true) (l : List PZ) : ∀ s, seeAll step go s l = (l.foldl step s, true) := by
  induction l with
  | nil => intro s; rfl
  | cons p l ih => intro s; rw [seeAll, if_pos (hg _ _), ih]; rfl
/-- The first k triples. -/
def tlTo (wt : Bool) (n : Nat) (a b : List Int) (d r k : Nat) (p : PZ) (j : Nat) : List PZ := (((trips wt).take j).filter (okT wt n a b r k p)).flatMap fun t => tl wt n a b d (nxR r k) (nxK r k) (snoc p t)
theorem tlTo_zero {wt : Bool} {n : Nat} {a b : List Int} {d r k : Nat} {p : PZ} : tlTo wt n a b d r k p 0 = [] := rfl
theorem tlTo_all {wt : Bool} {n : Nat} {a b : List Int} {d r k : Nat} {p : PZ} : tlTo wt n a b d r k p (trips wt).length = tl wt n a b (d + 1) r k p := by unfold tlTo; rw [List.take_length]; rfl
theorem tlTo_succ {wt : Bool} {n : Nat} {a b : List Int} {d r k j : Nat} {p : PZ} (h : j < (trips wt).length) :
    tlTo wt n a b d r k p (j + 1) = tlTo wt n a b d r k p j ++ if okT wt n a b r k p ((trips wt)[j]) = true then tl wt n a b d (nxR r k) (nxK r k) (snoc p ((trips wt)[j])) else [] := by
  unfold tlTo
  rw [List.take_succ_eq_append_getElem h, List.filter_append, List.flatMap_append]
  congr 1
  split
  · next e => simp [e]
  · next e => simp [e]

/-- How many there may be. -/
theorem spR_len {wt : Bool} {n : Nat} {a b : List Int} {go : Nat → Nat → Int → PZ → List PZ} {r k : Nat} {p : PZ} {left right : Int} {M : Nat} (ha : ∀ j, 0 ≤ nth a j ∧ nth a j ≤ 2)
    (h : ∀ r k left p, 0 ≤ left ∧ left ≤ 2 → (go r k left p).length ≤ M) : (spR wt n a b go r k left p right).length ≤ M := by
  unfold spR
  split
  · simp
  · split
    · simp
    · unfold spK
      split
      · split
        · next h0 => exact h _ _ _ _ ⟨h0, downB_le _ _⟩
        · simp
      · refine h _ _ _ _ ?_
        split
        · exact ha _
        · omega
theorem sp_len {wt : Bool} {n : Nat} {a b : List Int} (ha : ∀ j, 0 ≤ nth a j ∧ nth a j ≤ 2) : ∀ (d r k : Nat) (left : Int) (p : PZ), 0 ≤ left ∧ left ≤ 2 → (sp wt n a b d r k left p).length ≤ (if wt = true then 3 else 2) ^ d := by
  intro d
  induction d with
  | zero => intro r k left p _; simp [sp]
  | succ d ih =>
    intro r k left p hl
    have h0 := spR_len (wt := wt) (n := n) (b := b) (r := r) (k := k) (p := p) (left := left) (right := 0) ha ih
    have h1 := spR_len (wt := wt) (n := n) (b := b) (r := r) (k := k) (p := p) (left := left) (right := 1) ha ih
    have h2 := spR_len (wt := wt) (n := n) (b := b) (r := r) (k := k) (p := p) (left := left) (right := 2) ha ih
    rw [sp, Nat.pow_succ]
    simp only [List.flatMap_cons, List.flatMap_nil, List.append_nil, List.length_append]
    cases wt
    · simp only [Bool.false_eq_true, if_false] at h0 h1 h2 ⊢
      have hc : left = 0 ∨ left = 1 ∨ left = 2 := by omega
      rcases hc with rfl | rfl | rfl
      · rw [spR_none (right := 2) (by decide)] at h2 ⊢
        simp only [List.length_nil]
        omega
      · rw [spR_none (right := 0) (by decide)] at h0 ⊢
        simp only [List.length_nil]
        omega
      · rw [spR_none (right := 2) (by decide)] at h2 ⊢
        simp only [List.length_nil]
        omega
    · simp only [if_true] at h0 h1 h2 ⊢
      omega
theorem spAll_len {wt : Bool} {a b : List Int} (h : isStrB a = true) : (spAll wt a b).length ≤ (if wt = true then 3 else 2) ^ tri a.length := sp_len (str_labels h) _ _ _ _ _ (str_labels h _)
theorem spAll_len7 {a b : List Int} (h : isStrB a = true) : (spAll false a b).length ≤ 268435456 := by
  have h1 := spAll_len (wt := false) (b := b) h
  have h2 := tri_mono (show a.length ≤ 7 from (isStrB_iff.1 h).1.2)
  exact Nat.le_trans h1 (Nat.le_trans (Nat.pow_le_pow_right (by decide) h2) (by decide))
theorem spAll_len5 {wt : Bool} {a b : List Int} (h : isStrB a = true) (h5 : a.length ≤ 5) : (spAll wt a b).length ≤ 14348907 := by
  have h1 := spAll_len (wt := wt) (b := b) h
  have h2 := tri_mono h5
  have h3 : tri 5 = 15 := rfl
  rw [h3] at h2
  cases wt
  · exact Nat.le_trans h1 (Nat.le_trans (Nat.pow_le_pow_right (by decide) h2) (by decide))
  · exact Nat.le_trans h1 (Nat.le_trans (Nat.pow_le_pow_right (by decide) h2) (by decide))

/-- The reference's order is that of the right labels. -/
theorem sp_front {wt : Bool} {n : Nat} {a b : List Int} : ∀ (d r k : Nat) (left : Int) (p : PZ), ∀ q ∈ sp wt n a b d r k left p, ∃ s, q.2.1 = p.2.1 ++ s := by
  intro d
  induction d with
  | zero =>
    intro r k left p q hq
    rw [sp, List.mem_singleton] at hq
    exact ⟨[], by rw [hq]; simp⟩
  | succ d ih =>
    intro r k left p q hq
    rw [sp, List.mem_flatMap] at hq
    obtain ⟨right, -, hq⟩ := hq
    unfold spR at hq
    split at hq
    · cases hq
    · split at hq
      · cases hq
      · unfold spK at hq
        split at hq
        · split at hq
          · obtain ⟨s, hs⟩ := ih _ _ _ _ q hq
            exact ⟨right :: s, by rw [hs]; simp [snoc]⟩
          · cases hq
        · obtain ⟨s, hs⟩ := ih _ _ _ _ q hq
          exact ⟨right :: s, by rw [hs]; simp [snoc]⟩
theorem spR_front {wt : Bool} {n : Nat} {a b : List Int} {d r k : Nat} {left right : Int} {p : PZ} : ∀ q ∈ spR wt n a b (sp wt n a b d) r k left p right, ∃ s, q.2.1 = p.2.1 ++ right :: s := by
  intro q hq
  unfold spR at hq
  split at hq
  · cases hq
  · split at hq
    · cases hq
    · unfold spK at hq
      split at hq
      · split at hq
        · obtain ⟨s, hs⟩ := sp_front _ _ _ _ _ q hq
          exact ⟨s, by rw [hs]; simp [snoc]⟩
        · cases hq
      · obtain ⟨s, hs⟩ := sp_front _ _ _ _ _ q hq
        exact ⟨s, by rw [hs]; simp [snoc]⟩
theorem lex_front (p : List Int) {x y : Int} (h : x < y) (s t : List Int) : lexLt (p ++ x :: s) (p ++ y :: t) = true := by
  induction p with
  | nil => simp only [List.nil_append]; rw [lexLt, if_neg (by omega)]; simpa using h
  | cons z p ih => rw [List.cons_append, List.cons_append, lexLt, if_pos rfl]; exact ih
def LtR (p q : PZ) : Prop := lexLt p.2.1 q.2.1 = true
theorem sp_sorted {wt : Bool} {n : Nat} {a b : List Int} : ∀ (d r k : Nat) (left : Int) (p : PZ), (sp wt n a b d r k left p).Pairwise LtR := by
  intro d
  induction d with
  | zero => intro r k left p; rw [sp]; exact List.pairwise_singleton _ _
  | succ d ih =>
    intro r k left p
    have h1 : ∀ right, (spR wt n a b (sp wt n a b d) r k left p right).Pairwise LtR := by
      intro right
      unfold spR
      split
      · exact List.Pairwise.nil
      · split
        · exact List.Pairwise.nil
        · unfold spK
          split
          · split
            · exact ih _ _ _ _
            · exact List.Pairwise.nil
          · exact ih _ _ _ _
    have h2 : ∀ x y, x < y → ∀ q ∈ spR wt n a b (sp wt n a b d) r k left p x, ∀ q' ∈ spR wt n a b (sp wt n a b d) r k left p y, LtR q q' := by
      intro x y hxy q hq q' hq'
      obtain ⟨s, hs⟩ := spR_front q hq
      obtain ⟨t, ht⟩ := spR_front q' hq'
      unfold LtR
      rw [hs, ht]
      exact lex_front _ hxy _ _
    rw [sp]
    simp only [List.flatMap_cons, List.flatMap_nil, List.append_nil]
    rw [List.pairwise_append, List.pairwise_append]
    refine ⟨h1 0, ⟨h1 1, h1 2, h2 1 2 (by decide)⟩, fun q hq q' hq' => ?_⟩
    rw [List.mem_append] at hq'
    rcases hq' with hq' | hq'
    · exact h2 0 1 (by decide) q hq q' hq'
    · exact h2 0 2 (by decide) q hq q' hq'
theorem spAll_sorted (wt : Bool) (a b : List Int) : (spAll wt a b).Pairwise LtR := sp_sorted _ _ _ _ _
end Go.Proofs.Ytnljlophgolejaa

/- What turns where puzzles are gathered: nothing but some blocks; what a closure that gathers is asked. -/
namespace Go.Proofs.Ytnljlophgolejaa
open Go.RowKit

/-- Nothing but the blocks of O has turned. -/
structure Kept (O : Nat → Prop) (w w' : World) : Prop where
  os : w'.os = w.os
  tape : w'.tape = w.tape
  output : w'.output = w.output
  size : w.heap.size ≤ w'.heap.size
  block : ∀ k, k < w.heap.size → ¬ O k → w'.heap[k]? = w.heap[k]?
section
variable {O O1 : Nat → Prop} {w w1 w2 : World}
theorem Kept.refl (O : Nat → Prop) (w : World) : Kept O w w := ⟨rfl, rfl, rfl, Nat.le_refl _, fun _ _ _ => rfl⟩
theorem Kept.of_below (h : Below w.heap.size w w1) : Kept O w w1 := ⟨h.os, h.tape, h.output, h.size, fun k hk _ => h.block k hk⟩
theorem Kept.trans (h : Kept O w w1) (hO : ∀ k, O1 k → O k ∨ w.heap.size ≤ k) (h2 : Kept O1 w1 w2) : Kept O w w2 :=
  ⟨h2.os.trans h.os, h2.tape.trans h.tape, h2.output.trans h.output, Nat.le_trans h.size h2.size, fun k hk hn =>
    (h2.block k (Nat.lt_of_lt_of_le hk h.size) fun h1 => (hO k h1).elim hn fun h3 => by omega).trans (h.block k hk hn)⟩
theorem Kept.mono (h : Kept O w w1) (hO : ∀ k, O k → O1 k) : Kept O1 w w1 := ⟨h.os, h.tape, h.output, h.size, fun k hk hn => h.block k hk fun h1 => hn (hO k h1)⟩
theorem Kept.store {g : Nat} (h : Kept O w w1) (hg : O g ∨ w.heap.size ≤ g) (j : Nat) (u : Value) : Kept O w (w1.setCell ⟨g, j, none⟩ u) :=
  ⟨h.os, h.tape, h.output, by simpa [World.setCell] using h.size, fun k hk hn => (Below.heap_setCell _ _ _ _ (by
    simp only
    intro e
    subst e
    rcases hg with h1 | h1
    · exact hn h1
    · omega)).trans (h.block k hk hn)⟩
theorem Kept.drewN (h : Kept O w w1) (n : Nat) : Kept O w (w1.drewN n) := ⟨h.os, h.tape, h.output, h.size, h.block⟩
theorem Kept.low {B : Nat} (h : Kept O w w1) (hO : ∀ k, O k → B ≤ k) (hB : B ≤ w.heap.size) : Below B w w1 :=
  ⟨h.os, h.tape, h.output, h.size, fun k hk => h.block k (by omega) fun h1 => by have := hO k h1; omega⟩
end
theorem cell_same {w w' : World} {a : Addr} (e : w'.heap[a.block]? = w.heap[a.block]?) : w'.cell? a = w.cell? a := by simp only [World.cell?, e]
theorem OI.sameB {w w' : World} {base g n c : Nat} {l : List Int} (h : OI w base (.slice (some ⟨g, 0, none⟩) n c) l) (e : w'.heap[g]? = w.heap[g]?) (hs : w.heap.size ≤ w'.heap.size) : OI w' base (.slice (some ⟨g, 0, none⟩) n c) l := by
  refine ⟨h.1, ?_⟩
  rcases h.2 with ⟨h1, h2⟩ | ⟨g', cap, cur, he, hb, hg, hnc, hcm, hsz, ht⟩
  · cases h1
  · obtain ⟨e1, e2, e3⟩ := slice_inj he
    injection e1 with e1
    injection e1 with e1
    subst e1
    exact .inr ⟨g, cap, cur, he, hb, e.trans hg, hnc, hcm, hsz, ht⟩
theorem OI.lt1 {w : World} {base g n c : Nat} {l : List Int} (h : OI w base (.slice (some ⟨g, 0, none⟩) n c) l) : base ≤ g ∧ g < w.heap.size := h.lt g rfl
theorem RTr.same {w w' : World} {g n : Nat} {ts : List (Int × Int × Int)} (h : RTr w (some ⟨g, 0, none⟩) n ts) (e : w'.heap[g]? = w.heap[g]?) (hs : w.heap.size ≤ w'.heap.size) : RTr w' (some ⟨g, 0, none⟩) n ts := by
  obtain ⟨h1, g', h2, h3, h4⟩ := h
  injection h2 with h2
  injection h2 with h2
  subst h2
  refine ⟨h1, g, rfl, by omega, fun k hk => ?_⟩
  obtain ⟨a, b, c⟩ := h4 k hk
  exact ⟨(cell_same e).trans a, (cell_same e).trans b, (cell_same e).trans c⟩
theorem BK.same {w w' : World} {g : Nat} {T : TypeId} {cs : List Value} (h : BK w g T cs) (e : w'.heap[g]? = w.heap[g]?) : BK w' g T cs := e.trans h

/-- What a closure is asked that gathers whole puzzles. -/
structure Clos (P : Program) (F : FuncId) (caps : Array Value) (B0 n : Nat) (S : Type) (inv : World → S → (Nat → Prop) → Prop) (step : S → PZ → S) (go : S → PZ → Bool) (fit : S → Nat → Prop) (okp : PZ → Prop) : Prop where
  ent : ∀ (args : Array Value) (w : World), (callFunc F args).run P w = .ok (.enter F args) w
  ge : ∀ {w : World} {s : S} {O : Nat → Prop}, inv w s O → ∀ k, O k → B0 ≤ k ∧ k < w.heap.size
  keep : ∀ {w w' : World} {s : S} {O : Nat → Prop}, inv w s O → Kept (fun k => B0 ≤ k ∧ ¬ O k) w w' → inv w' s O
  next : ∀ {s : S} {p : PZ} {m : Nat}, fit s (m + 1) → go s p = true → fit (step s p) m
  less : ∀ {s : S} {m m' : Nat}, fit s m → m' ≤ m → fit s m'
  call : ∀ {w : World} {s : S} {O : Nat → Prop} {p : PZ} {m B : Nat} {A1 A2 A3 : Option Addr} {n1 n2 n3 c1 c2 c3 : Nat}, inv w s O → fit s (m + 1) → okp p → B0 ≤ B → B ≤ w.heap.size → (∀ k, O k → k < B) →
    Three w B (.slice A1 n1 c1) (.slice A2 n2 c2) (.slice A3 n3 c3) p.1 p.2.1 p.2.2 →
    Calls P F (#[.agg #[.int .i64 (n : Int), .slice A1 n1 c1, .slice A2 n2 c2, .slice A3 n3 c3]] ++ caps) w
      (fun e w' => e = .returned (.bool (go s p)) ∧ ∃ O' : Nat → Prop, inv w' (step s p) O' ∧ (∀ k, O' k → O k ∨ B ≤ k) ∧ Kept O w w')
theorem Clos.all {P : Program} {F : FuncId} {caps : Array Value} {B0 n : Nat} {S : Type} {inv : World → S → (Nat → Prop) → Prop} {step : S → PZ → S} {go : S → PZ → Bool} {fit : S → Nat → Prop} {okp : PZ → Prop} (C : Clos P F caps B0 n S inv step go fit okp) (m : Nat) :
    ∀ (l : List PZ) (s : S), fit s (l.length + m) → (seeAll step go s l).2 = true → fit (seeAll step go s l).1 m := by
  intro l
  induction l with
  | nil => intro s h _; simpa [seeAll] using h
  | cons p l ih =>
    intro s h h2
    rw [seeAll] at h2 ⊢
    by_cases hg : go s p = true
    · rw [if_pos hg] at h2 ⊢
      refine ih _ (C.next (by rw [List.length_cons] at h; rw [show l.length + m + 1 = l.length + 1 + m by omega]; exact h) hg) h2
    · rw [if_neg hg] at h2
      cases h2

/-- The arrays in which a puzzle is laid, and what else tile reads. -/
structure TS (wt : Bool) (w0 : World) (T : Nat) (gk nk gL gR gB : Nat) (O : Nat → Prop) (w : World) (L R B : List Int) : Prop where
  bel : Below w0.heap.size w0 w
  oL : OI w w0.heap.size (.slice (some ⟨gL, 0, none⟩) T T) L
  oR : OI w w0.heap.size (.slice (some ⟨gR, 0, none⟩) T T) R
  oB : OI w w0.heap.size (.slice (some ⟨gB, 0, none⟩) T T) B
  nLR : gL ≠ gR
  nLB : gL ≠ gB
  nRB : gR ≠ gB
  fL : ¬ O gL
  fR : ¬ O gR
  fB : ¬ O gB
  tr : RTr w (some ⟨gk, 0, none⟩) nk (trips wt)
  kge : w0.heap.size ≤ gk ∧ gk < w.heap.size
  kO : ¬ O gk
  kL : gk ≠ gL
  kR : gk ≠ gR
  kB : gk ≠ gB
section
variable {wt : Bool} {w0 w w' : World} {T gk nk gL gR gB : Nat} {O O' : Nat → Prop} {L R B : List Int}
theorem TS.keep (h : TS wt w0 T gk nk gL gR gB O w L R B) (b : Below w0.heap.size w0 w') (hk : Kept O w w') (hO : ∀ k, O' k → O k ∨ w.heap.size ≤ k) : TS wt w0 T gk nk gL gR gB O' w' L R B := by
  have key : ∀ g, g < w.heap.size → ¬ O g → w'.heap[g]? = w.heap[g]? ∧ ¬ O' g := fun g h1 h2 => ⟨hk.block g h1 h2, fun h3 => (hO g h3).elim h2 fun h4 => by omega⟩
  have k1 := key gL h.oL.lt1.2 h.fL
  have k2 := key gR h.oR.lt1.2 h.fR
  have k3 := key gB h.oB.lt1.2 h.fB
  have k4 := key gk h.kge.2 h.kO
  exact ⟨b, h.oL.sameB k1.1 hk.size, h.oR.sameB k2.1 hk.size, h.oB.sameB k3.1 hk.size, h.nLR, h.nLB, h.nRB, k1.2, k2.2, k3.2, h.tr.same k4.1 hk.size, ⟨h.kge.1, by have := hk.size; have := h.kge.2; omega⟩, k4.2, h.kL, h.kR, h.kB⟩
/-- The three labels of a place are laid. -/
theorem TS.lay (h : TS wt w0 T gk nk gL gR gB O w L R B) (m : Nat) (x y z : Int) :
    TS wt w0 T gk nk gL gR gB O (((w.setCell ⟨gL, m, none⟩ (.int .i64 x)).setCell ⟨gR, m, none⟩ (.int .i64 y)).setCell ⟨gB, m, none⟩ (.int .i64 z)) (L.set m x) (R.set m y) (B.set m z) := by
  have far : ∀ (w : World) (g g' : Nat) (u : Value), g' ≠ g → (w.setCell ⟨g, m, none⟩ u).heap[g']? = w.heap[g']? := fun w g g' u hne => Below.heap_setCell _ _ _ _ (by simpa using hne)
  have sz : ∀ (w : World) (g : Nat) (u : Value), w.heap.size ≤ (w.setCell ⟨g, m, none⟩ u).heap.size := fun w g u => by simp [World.setCell]
  have l1 := (h.oL.stored m x).1
  have r1 := (h.oR.sameB (far w gL gR (.int .i64 x) (Ne.symm h.nLR)) (sz _ _ _))
  have b1 := (h.oB.sameB (far w gL gB (.int .i64 x) (Ne.symm h.nLB)) (sz _ _ _))
  have l2 := l1.sameB (far _ gR gL (.int .i64 y) h.nLR) (sz _ _ _)
  have r2 := (r1.stored m y).1
  have b2 := b1.sameB (far _ gR gB (.int .i64 y) (Ne.symm h.nRB)) (sz _ _ _)
  have l3 := l2.sameB (far _ gB gL (.int .i64 z) h.nLB) (sz _ _ _)
  have r3 := r2.sameB (far _ gB gR (.int .i64 z) h.nRB) (sz _ _ _)
  have b3 := (b2.stored m z).1
  have t1 := h.tr.same (far w gL gk (.int .i64 x) h.kL) (sz _ _ _)
  have t2 := t1.same (far _ gR gk (.int .i64 y) h.kR) (sz _ _ _)
  have t3 := t2.same (far _ gB gk (.int .i64 z) h.kB) (sz _ _ _)
  exact ⟨((h.bel.setCell h.oL.lt1.1 _).setCell h.oR.lt1.1 _).setCell h.oB.lt1.1 _, l3, r3, b3, h.nLR, h.nLB, h.nRB, h.fL, h.fR, h.fB, t3, ⟨h.kge.1, by simpa [World.setCell] using h.kge.2⟩, h.kO, h.kL, h.kR, h.kB⟩
end
/-- What is laid of a puzzle. -/
def pz (L R B : List Int) (m : Nat) : PZ := (L.take m, R.take m, B.take m)
theorem take_set {l : List Int} {m : Nat} (h : m < l.length) (x : Int) : (l.set m x).take (m + 1) = l.take m ++ [x] := by
  rw [List.take_succ_eq_append_getElem (by simpa using h)]
  simp [List.take_set_of_le]
theorem pz_set {L R B : List Int} {m T : Nat} (hL : L.length = T) (hR : R.length = T) (hB : B.length = T) (h : m < T) (t : Int × Int × Int) : pz (L.set m t.1) (R.set m t.2.1) (B.set m t.2.2) (m + 1) = snoc (pz L R B m) t := by
  unfold pz snoc
  rw [take_set (by omega), take_set (by omega), take_set (by omega)]
theorem pz_same {L R B L' R' B' : List Int} {m T : Nat} (hL : L.length = T) (hR : R.length = T) (hB : B.length = T) (hL' : L'.length = T) (hR' : R'.length = T) (hB' : B'.length = T) (hm : m ≤ T)
    (h : ∀ j, j < m → nth L' j = nth L j ∧ nth R' j = nth R j ∧ nth B' j = nth B j) : pz L' R' B' m = pz L R B m := by
  have key : ∀ {a b : List Int}, a.length = T → b.length = T → (∀ j, j < m → nth a j = nth b j) → a.take m = b.take m := fun {a b} ha hb h => by
    refine ext_nth (by rw [List.length_take, List.length_take, ha, hb]) fun j hj => ?_
    rw [List.length_take] at hj
    rw [nth_take (by omega), nth_take (by omega)]
    exact h j (by omega)
  unfold pz
  rw [key hL' hL fun j hj => (h j hj).1, key hR' hR fun j hj => (h j hj).2.1, key hB' hB fun j hj => (h j hj).2.2]
/-- What tile leaves. -/
def TPost {S : Type} (inv : World → S → (Nat → Prop) → Prop) (wt : Bool) (w0 : World) (T gk nk gL gR gB : Nat) (O : Nat → Prop) (L R B : List Int) (m : Nat) (w : World) (res : S × Bool) : Ending → World → Prop := fun e w' =>
  e = .returned (.bool res.2) ∧ ∃ (O' : Nat → Prop) (L' R' B' : List Int), inv w' res.1 O' ∧ (∀ k, O' k → O k ∨ w.heap.size ≤ k) ∧ Kept (fun k => O k ∨ k = gL ∨ k = gR ∨ k = gB) w w' ∧
    TS wt w0 T gk nk gL gR gB O' w' L' R' B' ∧ ∀ j, j < m → nth L' j = nth L j ∧ nth R' j = nth R j ∧ nth B' j = nth B j
end Go.Proofs.Ytnljlophgolejaa
