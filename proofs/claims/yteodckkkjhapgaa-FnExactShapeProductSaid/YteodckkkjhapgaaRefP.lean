/- The reference's search of fillings, against the model of layers. No program is in sight here. -/
import Derived.Test.YteodckkkjhapgaaFillP
namespace Go.Proofs.Yteodckkkjhapgaa

def undB (rows : Nat) (last : Option (List Int)) : Option (List Int) := last.map fun p => prefs p rows
/-- How the lists stand at a row. -/
structure Inv (rows row : Nat) (most : Int) (s old put : List Int) (last : Option (List Int)) : Prop where
  ls : s.length = rows
  lo : old.length = rows
  lp : put.length = rows
  sum : ∀ j, nth s j = nth old j + nth put j
  zero : ∀ j, row ≤ j → nth put j = 0
  bput : Bd put 1000
  bold : Bd old 1000
  desc : ∀ j, nth old (j + 1) ≤ nth old j
  strip : ∀ j, nth s (j + 1) ≤ nth old j
  top : ∀ j, nth s j ≤ most
  und : ∀ u, last = some u → u.length = rows ∧ Bd u 1000 ∧ sumTo put row ≤ sumTo u row
section
variable {rows row : Nat} {most : Int} {s old put : List Int} {last : Option (List Int)}
theorem sumTo_zero_tail {l : List Int} {r : Nat} (h : ∀ j, r ≤ j → nth l j = 0) : ∀ k, r ≤ k → sumTo l k = sumTo l r := by
  intro k
  induction k with
  | zero => intro hk; obtain rfl : r = 0 := by omega
            rfl
  | succ k ih =>
    intro hk
    rcases Nat.lt_or_ge k r with h1 | h1
    · obtain rfl : r = k + 1 := by omega
      rfl
    · simp only [sumTo]
      rw [ih h1, h k h1]
      omega
theorem sumTo_mono {l : List Int} {M : Int} (h : Bd l M) {a b : Nat} (hab : a ≤ b) : sumTo l a ≤ sumTo l b := by
  induction b with
  | zero => obtain rfl : a = 0 := by omega
            exact Int.le_refl _
  | succ b ih =>
    rcases Nat.lt_or_ge b a with h1 | h1
    · obtain rfl : a = b + 1 := by omega
      exact Int.le_refl _
    · have := ih h1
      have := (h b).1
      simp only [sumTo]
      omega
def refU (last : Option (List Int)) (put : List Int) (row : Nat) (m1 : Int) : Int := match last with | none => m1 | some u => min m1 (sumTo u row - sumTo put row)
def refM (row : Nat) (a b c m2 : Int) : Int := if row = 0 then m2 else min m2 (a - b - c)
theorem Inv.most_at (h : Inv rows row most s old put last) (hr : row < rows) {left : Int} :
    mostAt most old (undB rows last) put left row = refM row (nth s (row - 1)) (nth put (row - 1)) (nth s row) (refU last put row (min left (most - nth s row))) := by
  unfold refM refU
  have e1 : nth s row = nth old row := by rw [h.sum, h.zero row (Nat.le_refl _)]; omega
  have e2 : nth s (row - 1) - nth put (row - 1) = nth old (row - 1) := by rw [h.sum]; omega
  rw [e1, e2]
  unfold mostAt undB
  cases last with
  | none => rfl
  | some u =>
    have e3 : nth (prefs u rows) row = sumTo u row := nth_prefs hr
    simp only [Option.map_some, e3]
    by_cases h0 : row = 0
    · simp [h0]
    · simp only [h0, if_false]; omega
theorem Inv.most_zero (h : Inv rows row most s old put last) {r : Nat} (hr : r < rows) (hrr : row ≤ r) : mostAt most old (undB rows last) put 0 r = 0 := by
  have e1 : nth old r ≤ most := by have := h.top r; rw [h.sum, h.zero r hrr] at this; omega
  have e2 : r ≠ 0 → nth old r ≤ nth old (r - 1) := fun h0 => by have := h.desc (r - 1); rw [show r - 1 + 1 = r by omega] at this; exact this
  unfold mostAt undB
  cases last with
  | none =>
    by_cases h0 : r = 0
    · simp [h0] at e1 ⊢; omega
    · simp only [h0, if_false, Option.map_none]; have := e2 h0; omega
  | some u =>
    obtain ⟨_, hu1, hu2⟩ := h.und u rfl
    have e3 : nth (prefs u rows) r = sumTo u r := nth_prefs hr
    have e4 := sumTo_zero_tail h.zero r hrr
    have e5 := sumTo_mono hu1 hrr
    by_cases h0 : r = 0
    · simp only [h0, if_true, Option.map_some] at e1 e3 e4 e5 ⊢; rw [e3]; omega
    · simp only [h0, if_false, Option.map_some, e3]; have := e2 h0; omega
/-- Nothing is left: one way. -/
theorem Inv.layer_zero {K : List Int → List Int → List (List Int)} : ∀ (d : Nat) {row : Nat}, Inv rows row most s old put last → row ≤ rows - d → d ≤ rows → layerR rows most K old (undB rows last) d s 0 put = K s put
  | 0, row, _, _, _ => layerR_full (by omega)
  | d + 1, row, h, hr, hd => by
    have hm := h.most_zero (r := rows - (d + 1)) (by omega) hr
    rw [layerR_row, hm]
    have ep : put.set (rows - (d + 1)) 0 = put := by
      refine ext_nth (by simp) fun j hj => ?_
      by_cases e : rows - (d + 1) = j
      · subst e
        rw [nth_set_eq (by rw [List.length_set] at hj; exact hj), h.zero _ hr]
      · rw [nth_set_ne e]
    have es : s.set (rows - (d + 1)) (nth s (rows - (d + 1)) + 0) = s := by
      refine ext_nth (by simp) fun j hj => ?_
      by_cases e : rows - (d + 1) = j
      · subst e
        rw [nth_set_eq (by rw [List.length_set] at hj; exact hj)]; omega
      · rw [nth_set_ne e]
    rw [show ((0 : Int) + 1).toNat = 0 + 1 from rfl, layerN_succ, layerN_zero, List.nil_append]
    rw [show ((0 : Nat) : Int) = 0 from rfl, es, ep, show (0 : Int) - 0 = 0 from rfl]
    exact Inv.layer_zero d h (by omega) (by omega)
/-- One row more. -/
theorem Inv.step (h : Inv rows row most s old put last) (hr : row < rows) {left : Int} {n : Nat} (hn : (n : Int) ≤ mostAt most old (undB rows last) put left row) (hm : most ≤ 1000) :
    Inv rows (row + 1) most (s.set row (nth s row + (n : Int))) old (put.set row (n : Int)) last := by
  have e1 : nth s row = nth old row := by rw [h.sum, h.zero row (Nat.le_refl _)]; omega
  have hl := mostAt_left most old (undB rows last) put left row
  have hov := (mostAt_iff (most := most) (old := old) (under := undB rows last) (put := put) (left := left) (r := row) (n := (n : Int)) (by omega)).mp hn
  have o1 : ¬ (0 < row ∧ nth old (row - 1) < nth old row + (n : Int)) := fun h1 => hov (.inl h1)
  have o2 : ¬ most < nth old row + (n : Int) := fun h1 => hov (.inr (.inl h1))
  have hb := (h.bold row).1
  refine ⟨by simp [h.ls], h.lo, by simp [h.lp], fun j => ?_, fun j hj => ?_, h.bput.set (by omega) (by omega), h.bold, h.desc, fun j => ?_, fun j => ?_, fun u hu => ?_⟩
  · by_cases e : row = j
    · subst e
      rw [nth_set_eq (by rw [h.ls]; exact hr), nth_set_eq (by rw [h.lp]; exact hr), e1]
    · rw [nth_set_ne e, nth_set_ne e]; exact h.sum j
  · rw [nth_set_ne (by omega)]; exact h.zero j (by omega)
  · by_cases e : row = j + 1
    · subst e
      rw [nth_set_eq (by rw [h.ls]; exact hr), e1]
      have : ¬ nth old j < nth old (j + 1) + (n : Int) := fun h1 => o1 ⟨by omega, by simpa using h1⟩
      omega
    · rw [nth_set_ne e]; exact h.strip j
  · by_cases e : row = j
    · subst e
      rw [nth_set_eq (by rw [h.ls]; exact hr), e1]; omega
    · rw [nth_set_ne e]; exact h.top j
  · obtain ⟨h1, h2, h3⟩ := h.und u hu
    refine ⟨h1, h2, ?_⟩
    have h4 : ¬ nth (prefs u rows) row < sumTo put row + (n : Int) := fun h5 => hov (.inr (.inr ⟨prefs u rows, by rw [hu]; rfl, h5⟩))
    rw [nth_prefs hr] at h4
    simp only [sumTo]
    rw [sumTo_set (Nat.le_refl _), nth_set_eq (by rw [h.lp]; exact hr)]
    have := (h2 row).1
    omega
/-- A row behind the last one that may be filled. -/
theorem Inv.next (h : Inv rows row most s old put last) (hm : most ≤ 1000) : Inv rows 0 most s s (List.replicate rows 0) (some put) := by
  have hz : ∀ j, nth (List.replicate rows (0 : Int)) j = 0 := fun j => by
    rcases Nat.lt_or_ge j rows with hj | hj
    · rw [nth_lt (by simpa using hj)]; simp
    · rw [nth_ge (by simpa using hj)]
  have hd : ∀ j, nth s (j + 1) ≤ nth s j := fun j => by have h1 := h.strip j; have h2 := h.sum j; have h3 := (h.bput j).1; omega
  refine ⟨h.ls, h.ls, by simp, fun j => by rw [hz]; omega, fun j _ => hz j, Bd.zeros _ (by omega), fun j => ⟨by have h1 := h.sum j; have h2 := (h.bput j).1; have h3 := (h.bold j).1; omega, by have := h.top j; omega⟩, hd, hd, h.top, fun u hu => ?_⟩
  obtain rfl := Option.some.inj hu
  exact ⟨h.lp, h.bput, Int.le_refl _⟩
theorem Inv.first {s : List Int} (hl : s.length = rows) (hb : Bd s 1000) (hd : ∀ j, nth s (j + 1) ≤ nth s j) (ht : ∀ j, nth s j ≤ most) : Inv rows 0 most s s (List.replicate rows 0) none := by
  have hz : ∀ j, nth (List.replicate rows (0 : Int)) j = 0 := fun j => by
    rcases Nat.lt_or_ge j rows with hj | hj
    · rw [nth_lt (by simpa using hj)]; simp
    · rw [nth_ge (by simpa using hj)]
  exact ⟨hl, hl, by simp, fun j => by rw [hz]; omega, fun j _ => hz j, Bd.zeros _ (by omega), hb, hd, hd, ht, fun u hu => by cases hu⟩
end
theorem padL_snoc {l : List Int} {n : Nat} (h : l.length < n) : padL (l ++ [0]) n = padL l n := by
  refine ext_nth (by rw [padL_len (by simp; omega), padL_len (by omega)]) fun j _ => ?_
  rw [nth_padL, nth_padL]
  rcases Nat.lt_or_ge j l.length with hj | hj
  · rw [nth_append_left hj]
  · rw [nth_append_right hj, nth_ge hj]
    rcases Nat.eq_zero_or_pos (j - l.length) with e | e
    · rw [e]; rfl
    · rw [nth_ge (by simp; omega)]
theorem padL_set {l : List Int} {n r : Nat} {y : Int} (hr : r < l.length) (h : l.length ≤ n) : padL (l.set r y) n = (padL l n).set r y := by
  refine ext_nth (by simp [padL_len (show (l.set r y).length ≤ n by simpa using h), padL_len h]) fun j _ => ?_
  rw [nth_padL]
  by_cases e : r = j
  · subst e
    rw [nth_set_eq hr, nth_set_eq (by rw [padL_len h]; omega)]
  · rw [nth_set_ne e, nth_set_ne e, nth_padL]
theorem bareLen_congr {a b : List Int} (h : ∀ j, nth a j = nth b j) : ∀ n, bareLen a n = bareLen b n
  | 0 => rfl
  | n + 1 => by rw [bareLen, bareLen, h, bareLen_congr h n]
theorem bareLen_more {l : List Int} {m : Nat} (h : ∀ j, m ≤ j → nth l j = 0) : ∀ d, bareLen l (m + d) = bareLen l m
  | 0 => rfl
  | d + 1 => by
    show bareLen l (m + d + 1) = _
    rw [bareLen, if_pos (h _ (by omega)), bareLen_more h d]
theorem bare_padL {l : List Int} {n : Nat} (h : l.length ≤ n) : bare (padL l n) = bare l := by
  unfold bare
  have e : bareLen (padL l n) (padL l n).length = bareLen l l.length := by
    rw [bareLen_congr (b := l) (fun j => nth_padL l n j), padL_len h, show n = l.length + (n - l.length) by omega]
    exact bareLen_more (fun j hj => nth_ge hj) _
  rw [e]
  have hb := bareLen_le l l.length
  unfold padL
  rw [List.take_append_of_le_length hb]
theorem padL_self {l : List Int} {n : Nat} (h : l.length = n) : padL l n = l := by unfold padL; rw [h]; simp
end Go.Proofs.Yteodckkkjhapgaa
