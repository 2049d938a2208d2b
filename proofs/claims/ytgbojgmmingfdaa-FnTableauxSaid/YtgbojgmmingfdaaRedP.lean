/- Reduced words, in plain words: the program goes from the front of a word, the reference from its end; both find the same words. -/
import Derived.Test.YtgbojgmmingfdaaPlain
namespace Go.Proofs.Ytgbojgmmingfdaa

/-- Two places exchanged that stand one beside the other. -/
def swN : Nat → List Int → List Int
  | 0, a :: b :: r => b :: a :: r
  | j + 1, x :: r => x :: swN j r
  | _, l => l
def sk (k i : Nat) : Nat := if i = k then k + 1 else if i = k + 1 then k else i
theorem sk_sk (k i : Nat) : sk k (sk k i) = i := by unfold sk; split <;> (try split) <;> (try split) <;> omega
theorem sk_lt {k i n : Nat} (hk : k + 1 < n) (h : i < n) : sk k i < n := by unfold sk; split <;> (try split) <;> omega
theorem swN_len : ∀ (j : Nat) (l : List Int), (swN j l).length = l.length
  | 0, [] => rfl
  | 0, [_] => rfl
  | 0, _ :: _ :: _ => rfl
  | _ + 1, [] => rfl
  | j + 1, x :: r => by simp [swN, swN_len j r]
theorem swN_perm : ∀ (j : Nat) (l : List Int), (swN j l).Perm l
  | 0, [] => List.Perm.refl _
  | 0, [_] => List.Perm.refl _
  | 0, a :: b :: r => List.Perm.swap a b r
  | _ + 1, [] => List.Perm.refl _
  | j + 1, x :: r => (swN_perm j r).cons x
theorem nth_cons0 (x : Int) (l : List Int) : nth (x :: l) 0 = x := rfl
theorem nth_consS (x : Int) (l : List Int) (k : Nat) : nth (x :: l) (k + 1) = nth l k := rfl
theorem nth_swN : ∀ (k : Nat) (l : List Int), k + 1 < l.length → ∀ i, nth (swN k l) i = nth l (sk k i)
  | _, [], h, _ => by simp at h
  | 0, [_], h, _ => by simp at h
  | 0, a :: b :: r, _, i => by
    match i with
    | 0 => rfl
    | 1 => rfl
    | i + 2 => show nth r i = nth (a :: b :: r) (sk 0 (i + 2)); rw [show sk 0 (i + 2) = i + 2 by unfold sk; split <;> (try split) <;> omega]; rfl
  | k + 1, x :: r, h, i => by
    have h1 : k + 1 < r.length := by simpa using h
    cases i with
    | zero => rw [show sk (k + 1) 0 = 0 by unfold sk; split <;> (try split) <;> omega]; rfl
    | succ i =>
      show nth (swN k r) i = nth (x :: r) (sk (k + 1) (i + 1))
      rw [nth_swN k r h1, show sk (k + 1) (i + 1) = sk k i + 1 by unfold sk; (repeat' split) <;> omega]
      rfl
theorem swN_map (f : Int → Int) : ∀ (k : Nat) (l : List Int), (swN k l).map f = swN k (l.map f)
  | 0, [] => rfl
  | 0, [_] => rfl
  | 0, _ :: _ :: _ => rfl
  | _ + 1, [] => rfl
  | k + 1, x :: r => by simp [swN, swN_map f k r]
theorem swN_swN {k : Nat} {l : List Int} (h : k + 1 < l.length) : swN k (swN k l) = l := by
  refine ext_nth (by rw [swN_len, swN_len]) fun j _ => ?_
  rw [nth_swN k _ (by rw [swN_len]; exact h), nth_swN k l h, sk_sk]
/-- How many pairs stand the wrong way round. -/
def dnC (x : Int) (l : List Int) : Nat := (l.filter fun y => decide (y < x)).length
def dnv : List Int → Nat
  | [] => 0
  | x :: r => dnC x r + dnv r
theorem dnC_perm {x : Int} {a b : List Int} (h : a.Perm b) : dnC x a = dnC x b := (h.filter _).length_eq
theorem swN_dnv : ∀ (j : Nat) (l : List Int), j + 1 < l.length → nth l (j + 1) < nth l j → dnv (swN j l) + 1 = dnv l
  | _, [], h, _ => by simp at h
  | 0, [a], h, _ => by simp at h
  | 0, a :: b :: r, _, h => by
    have h' : b < a := h
    show dnv (b :: a :: r) + 1 = dnv (a :: b :: r)
    simp only [dnv, dnC, List.filter_cons]
    rw [decide_eq_false (show ¬ a < b by omega), decide_eq_true h']
    simp only [Bool.false_eq_true, if_false, if_true, List.length_cons]
    omega
  | j + 1, x :: r, h, h2 => by
    have h1 : j + 1 < r.length := by simpa using h
    have ih := swN_dnv j r h1 h2
    show dnv (x :: swN j r) + 1 = dnv (x :: r)
    simp only [dnv]
    rw [dnC_perm (swN_perm j r)]
    omega
theorem dnC_le (x : Int) (l : List Int) : dnC x l ≤ l.length := List.length_filter_le _ _
def triN : Nat → Nat
  | 0 => 0
  | n + 1 => n + triN n
theorem dnv_tri : ∀ l : List Int, dnv l ≤ triN l.length
  | [] => Nat.le_refl _
  | x :: r => by
    have h1 := dnv_tri r
    have h2 := dnC_le x r
    simp only [dnv, List.length_cons, triN]
    omega
theorem triN_mono {a b : Nat} (h : a ≤ b) : triN a ≤ triN b := by
  induction h with
  | refl => exact Nat.le_refl _
  | step h ih => simp only [triN]; omega
theorem dnv_21 {l : List Int} (h : l.length ≤ 7) : dnv l ≤ 21 := Nat.le_trans (dnv_tri l) (triN_mono h)
theorem dnC_zero {x : Int} {l : List Int} (h : ∀ y ∈ l, x ≤ y) : dnC x l = 0 := by
  unfold dnC
  rw [List.length_eq_zero_iff, List.filter_eq_nil_iff]
  intro y hy
  have := h y hy
  simp; omega
theorem dnv_zero : ∀ {l : List Int}, l.Pairwise (· ≤ ·) → dnv l = 0
  | [], _ => rfl
  | x :: r, h => by
    rw [List.pairwise_cons] at h
    rw [dnv, dnC_zero h.1, dnv_zero h.2]

/-- A permutation of the numbers from 0 on. -/
structure Prm (w : List Int) : Prop where
  rng : ∀ i, i < w.length → 0 ≤ nth w i ∧ nth w i < w.length
  inj : ∀ i j, i < w.length → j < w.length → nth w i = nth w j → i = j
  sur : ∀ x : Int, 0 ≤ x → x < w.length → ∃ j, j < w.length ∧ nth w j = x
theorem Prm.swN {w : List Int} (h : Prm w) {k : Nat} (hk : k + 1 < w.length) : Prm (swN k w) := by
  refine ⟨fun i hi => ?_, fun i j hi hj e => ?_, fun x h0 h1 => ?_⟩
  · rw [swN_len] at hi ⊢
    rw [nth_swN k w hk]
    exact h.rng _ (sk_lt hk hi)
  · rw [swN_len] at hi hj
    rw [nth_swN k w hk, nth_swN k w hk] at e
    have := h.inj _ _ (sk_lt hk hi) (sk_lt hk hj) e
    rw [← sk_sk k i, ← sk_sk k j, this]
  · rw [swN_len] at h1 ⊢
    obtain ⟨j, hj, e⟩ := h.sur x h0 h1
    exact ⟨sk k j, sk_lt hk hj, by rw [nth_swN k w hk, sk_sk]; exact e⟩
/-- Two numbers exchanged that follow one another. -/
def vs (k : Nat) (x : Int) : Int := if x = k then (k : Int) + 1 else if x = (k : Int) + 1 then k else x
theorem vs_vs (k : Nat) (x : Int) : vs k (vs k x) = x := by unfold vs; split <;> (try split) <;> (try split) <;> omega
theorem vs_in {k n : Nat} {x : Int} (hk : k + 1 < n) (h : 0 ≤ x ∧ x < n) : 0 ≤ vs k x ∧ vs k x < n := by unfold vs; split <;> (try split) <;> omega
def vsw (k : Nat) (w : List Int) : List Int := w.map (vs k)
theorem vsw_len (k : Nat) (w : List Int) : (vsw k w).length = w.length := List.length_map ..
theorem nth_map' {f : Int → Int} {w : List Int} {i : Nat} (h : i < w.length) : nth (w.map f) i = f (nth w i) := by
  rw [nth_lt (by rw [List.length_map]; exact h), nth_lt h, List.getElem_map]
theorem nth_vsw {k : Nat} {w : List Int} {i : Nat} (h : i < w.length) : nth (vsw k w) i = vs k (nth w i) := nth_map' h
theorem Prm.vsw {w : List Int} (h : Prm w) {k : Nat} (hk : k + 1 < w.length) : Prm (vsw k w) := by
  refine ⟨fun i hi => ?_, fun i j hi hj e => ?_, fun x h0 h1 => ?_⟩
  · rw [vsw_len] at hi ⊢
    rw [nth_vsw hi]
    exact vs_in hk (h.rng i hi)
  · rw [vsw_len] at hi hj
    rw [nth_vsw hi, nth_vsw hj] at e
    have e2 := congrArg (vs k) e
    rw [vs_vs, vs_vs] at e2
    exact h.inj i j hi hj e2
  · rw [vsw_len] at h1 ⊢
    obtain ⟨j, hj, e⟩ := h.sur (vs k x) (vs_in hk ⟨h0, h1⟩).1 (vs_in hk ⟨h0, h1⟩).2
    exact ⟨j, hj, by rw [nth_vsw hj, e, vs_vs]⟩
theorem swN_vsw (k j : Nat) (w : List Int) : swN k (vsw j w) = vsw j (swN k w) := (swN_map _ k w).symm
/-- A descent of the inverse; a descent. -/
def ldes (w : List Int) (k : Nat) : Prop := ∃ p q, p < q ∧ q < w.length ∧ nth w p = (k : Int) + 1 ∧ nth w q = k
def rdes (w : List Int) (k : Nat) : Prop := k + 1 < w.length ∧ nth w (k + 1) < nth w k
theorem ldes_lt {w : List Int} {k : Nat} (hp : Prm w) (h : ldes w k) : k + 1 < w.length := by
  obtain ⟨p, q, h1, h2, h3, h4⟩ := h
  have := hp.rng p (by omega)
  omega
/-- Ascending all through. -/
theorem up_of {w : List Int} (h : ∀ k, ¬ rdes w k) : ∀ d i, i + d < w.length → nth w i ≤ nth w (i + d)
  | 0, i, _ => Int.le_refl _
  | d + 1, i, hd => by
    have h1 := up_of h d i (by omega)
    have h2 := h (i + d)
    have h3 : ¬ nth w (i + d + 1) < nth w (i + d) := fun h4 => h2 ⟨by omega, h4⟩
    rw [show i + (d + 1) = i + d + 1 by omega]
    omega
theorem no_l_of_r {w : List Int} (h : ∀ k, ¬ rdes w k) (k : Nat) : ¬ ldes w k := by
  rintro ⟨p, q, h1, h2, h3, h4⟩
  have := up_of h (q - p) p (by omega)
  rw [show p + (q - p) = q by omega] at this
  omega
theorem up_l {w : List Int} (hp : Prm w) (h : ∀ k, ¬ ldes w k) : ∀ (d : Nat) (p q : Nat), p < w.length → q < w.length → nth w q = nth w p + (d + 1 : Nat) → p < q
  | 0, p, q, h1, h2, e => by
    have r := hp.rng p h1
    rcases Nat.lt_trichotomy p q with hlt | rfl | hgt
    · exact hlt
    · omega
    · exact absurd ⟨q, p, hgt, h1, by omega, by omega⟩ (h (nth w p).toNat)
  | d + 1, p, q, h1, h2, e => by
    have rp := hp.rng p h1
    have rq := hp.rng q h2
    obtain ⟨m, hm, em⟩ := hp.sur (nth w p + (d + 1 : Nat)) (by omega) (by omega)
    have a1 := up_l hp h d p m h1 hm em
    have a2 := up_l hp h 0 m q hm h2 (by omega)
    omega
theorem no_r_of_l {w : List Int} (hp : Prm w) (h : ∀ k, ¬ ldes w k) (k : Nat) : ¬ rdes w k := by
  rintro ⟨h1, h2⟩
  have := up_l hp h (nth w k - nth w (k + 1) - 1).toNat (k + 1) k h1 (by omega) (by omega)
  omega
theorem up_lt {w : List Int} (hp : Prm w) (h : ∀ k, ¬ rdes w k) : ∀ i, i + 1 < w.length → nth w i < nth w (i + 1) := fun i hi => by
  have h1 := up_of h 1 i hi
  have h2 : nth w i ≠ nth w (i + 1) := fun e => by have := hp.inj i (i + 1) (by omega) hi e; omega
  omega
theorem ident {w : List Int} (hp : Prm w) (h : ∀ k, ¬ rdes w k) : ∀ i, i < w.length → nth w i = i := by
  have lo : ∀ i, i < w.length → (i : Int) ≤ nth w i := fun i => by
    induction i with
    | zero => intro hi; exact (hp.rng 0 hi).1
    | succ i ih => intro hi; have := ih (by omega); have := up_lt hp h i hi; omega
  have hi : ∀ d i, i + d + 1 = w.length → nth w i ≤ i := fun d => by
    induction d with
    | zero => intro i hd; have := (hp.rng i (by omega)).2; omega
    | succ d ih => intro i hd; have := ih (i + 1) (by omega); have := up_lt hp h i (by omega); omega
  intro i h1
  have := lo i h1
  have := hi (w.length - 1 - i) i (by omega)
  omega
theorem ident_r {w : List Int} (h : ∀ i, i < w.length → nth w i = i) (k : Nat) : ¬ rdes w k := by
  rintro ⟨h1, h2⟩
  rw [h k (by omega), h (k + 1) h1] at h2
  omega
theorem ident_l {w : List Int} (h : ∀ i, i < w.length → nth w i = i) (k : Nat) : ¬ ldes w k := no_l_of_r (ident_r h) k
/-- Whether a list is a reduced word: from the front; from the end (the word turned round). -/
def RedI : List Int → List Int → Prop
  | [], w => ∀ k, ¬ ldes w k
  | j :: u, w => ∃ k : Nat, j = k ∧ ldes w k ∧ RedI u (vsw k w)
def RedS : List Int → List Int → Prop
  | [], w => ∀ k, ¬ rdes w k
  | j :: r, w => ∃ k : Nat, j = k ∧ rdes w k ∧ RedS r (swN k w)
theorem two_sides {w : List Int} (hp : Prm w) {j k : Nat} : (ldes w j ∧ rdes (vsw j w) k) ↔ (rdes w k ∧ ldes (swN k w) j) := by
  constructor
  · rintro ⟨⟨p, q, h1, h2, h3, h4⟩, h5, h6⟩
    rw [vsw_len] at h5
    rw [nth_vsw h5, nth_vsw (by omega)] at h6
    have hkp : nth w k = (j : Int) + 1 → k = p := fun e => hp.inj k p (by omega) (by omega) (by omega)
    have hkq : nth w k = (j : Int) → k = q := fun e => hp.inj k q (by omega) (by omega) (by omega)
    have hkp1 : nth w (k + 1) = (j : Int) + 1 → k + 1 = p := fun e => hp.inj (k + 1) p (by omega) (by omega) (by omega)
    have hkq1 : nth w (k + 1) = (j : Int) → k + 1 = q := fun e => hp.inj (k + 1) q (by omega) (by omega) (by omega)
    have hne : nth w k ≠ nth w (k + 1) := fun e => by have := hp.inj k (k + 1) (by omega) h5 e; omega
    have hnp : ¬ (p = k ∧ q = k + 1) := fun ⟨e1, e2⟩ => by
      subst e1; subst e2
      rw [h3, h4] at h6
      unfold vs at h6
      simp at h6
      split at h6 <;> omega
    refine ⟨⟨h5, ?_⟩, sk k p, sk k q, ?_, ?_, ?_, ?_⟩
    · unfold vs at h6
      repeat' split at h6
      all_goals omega
    · unfold sk; repeat' split
      all_goals omega
    · rw [swN_len]; exact sk_lt h5 h2
    · rw [nth_swN k w h5, sk_sk]; exact h3
    · rw [nth_swN k w h5, sk_sk]; exact h4
  · rintro ⟨⟨h5, h6⟩, p, q, h1, h2, h3, h4⟩
    rw [swN_len] at h2
    rw [nth_swN k w h5] at h3 h4
    have hq := sk_lt h5 h2
    have hpl := sk_lt h5 (show p < w.length by omega)
    have hnp : ¬ (p = k ∧ q = k + 1) := fun ⟨e1, e2⟩ => by
      subst e1; subst e2
      rw [show sk p p = p + 1 by unfold sk; simp] at h3
      rw [show sk p (p + 1) = p by unfold sk; split <;> (try split) <;> omega] at h4
      omega
    have hs : sk k p < sk k q := by
      unfold sk; repeat' split
      all_goals omega
    have hkp : nth w k = (j : Int) + 1 → k = sk k p := fun e => hp.inj k _ (by omega) hpl (by omega)
    have hkq1 : nth w (k + 1) = (j : Int) → k + 1 = sk k q := fun e => hp.inj (k + 1) _ (by omega) hq (by omega)
    refine ⟨⟨sk k p, sk k q, hs, hq, h3, h4⟩, by rw [vsw_len]; exact h5, ?_⟩
    rw [nth_vsw h5, nth_vsw (by omega)]
    by_cases hb : nth w k = (j : Int) + 1 ∧ nth w (k + 1) = (j : Int)
    · have e1 := hkp hb.1
      have e2 := hkq1 hb.2
      unfold sk at e1 e2
      exfalso
      revert e1 e2
      repeat' split
      all_goals (intro e1 e2; omega)
    · unfold vs
      repeat' split
      all_goals omega
theorem one_word {w : List Int} (hp : Prm w) (j : Int) : RedI [j] w ↔ RedS [j] w := by
  constructor
  · rintro ⟨k, rfl, h1, h2⟩
    have hk := ldes_lt hp h1
    have hv := hp.vsw hk
    have hid := ident hv (no_r_of_l hv h2)
    rw [vsw_len] at hid
    have hw : ∀ i, i < w.length → nth w i = vs k i := fun i hi => by
      have := hid i hi
      rw [nth_vsw hi] at this
      rw [← this, vs_vs]
    refine ⟨k, rfl, ⟨hk, ?_⟩, ident_r fun i hi => ?_⟩
    · rw [hw _ hk, hw k (by omega)]
      unfold vs
      repeat' split
      all_goals omega
    · rw [swN_len] at hi
      rw [nth_swN k w hk, hw _ (sk_lt hk hi)]
      unfold vs sk
      repeat' split
      all_goals omega
  · rintro ⟨k, rfl, ⟨hk, h1⟩, h2⟩
    have hid := ident (hp.swN hk) h2
    rw [swN_len] at hid
    have hw : ∀ i, i < w.length → nth w i = (sk k i : Nat) := fun i hi => by
      have := hid _ (sk_lt hk hi)
      rw [nth_swN k w hk, sk_sk] at this
      exact this
    refine ⟨k, rfl, ⟨k, k + 1, by omega, hk, ?_, ?_⟩, ident_l fun i hi => ?_⟩
    · rw [hw k (by omega)]
      unfold sk; repeat' split
      all_goals omega
    · rw [hw _ hk]
      unfold sk; repeat' split
      all_goals omega
    · rw [vsw_len] at hi
      rw [nth_vsw hi, hw i hi]
      unfold vs sk
      repeat' split
      all_goals omega
theorem red_eq : ∀ (N : Nat) (v w : List Int), v.length ≤ N → Prm w → (RedI v w ↔ RedS v.reverse w)
  | N, [], w, _, hp => ⟨fun h => no_r_of_l hp h, fun h => no_l_of_r h⟩
  | N, [j], w, _, hp => one_word hp j
  | N + 1, j :: b :: u', w, hN, hp => by
    obtain ⟨u, k0, hu⟩ : ∃ u k0, b :: u' = u ++ [k0] := ⟨_, _, (List.dropLast_concat_getLast (List.cons_ne_nil b u')).symm⟩
    rw [hu]
    have hl : u.length + 1 = (b :: u').length := by rw [hu, List.length_append]; rfl
    have hul : u.length ≤ N := by simp only [List.length_cons] at hN hl; omega
    have hul2 : u.length + 1 ≤ N := by simp only [List.length_cons] at hN hl; omega
    have e2 : (j :: (u ++ [k0])).reverse = k0 :: (j :: u).reverse := by simp
    rw [e2]
    constructor
    · rintro ⟨k, rfl, h1, h2⟩
      have hk := ldes_lt hp h1
      rw [red_eq N (u ++ [k0]) _ (by rw [List.length_append]; exact hul2) (hp.vsw hk), List.reverse_append] at h2
      obtain ⟨m, rfl, h3, h4⟩ := h2
      have h5 := (two_sides hp).1 ⟨h1, h3⟩
      have hm := h5.1.1
      refine ⟨m, rfl, h5.1, ?_⟩
      rw [← red_eq N (k :: u) _ (by rw [List.length_cons]; exact hul2) (hp.swN hm)]
      refine ⟨k, rfl, h5.2, ?_⟩
      rw [red_eq N u _ hul ((hp.swN hm).vsw (by rw [swN_len]; exact hk)), ← swN_vsw]
      exact h4
    · rintro ⟨m, rfl, h1, h2⟩
      have hm := h1.1
      rw [← red_eq N (j :: u) _ (by rw [List.length_cons]; exact hul2) (hp.swN hm)] at h2
      obtain ⟨k, rfl, h3, h4⟩ := h2
      have h5 := (two_sides hp).2 ⟨h1, h3⟩
      have hk := ldes_lt hp h5.1
      refine ⟨k, rfl, h5.1, ?_⟩
      rw [red_eq N (u ++ [(m : Int)]) _ (by rw [List.length_append]; exact hul2) (hp.vsw hk), List.reverse_append]
      refine ⟨m, rfl, h5.2, ?_⟩
      rw [red_eq N u _ hul ((hp.swN hm).vsw (by rw [swN_len]; exact hk)), ← swN_vsw] at h4
      exact h4
end Go.Proofs.Ytgbojgmmingfdaa

/- Reduced words, in plain words: the lists of all of them. -/
namespace Go.Proofs.Ytgbojgmmingfdaa

theorem idx_lt {w : List Int} (hp : Prm w) {x : Int} (h : 0 ≤ x ∧ x < w.length) : w.idxOf x < w.length ∧ nth w (w.idxOf x) = x := by
  obtain ⟨j, hj, e⟩ := hp.sur x h.1 h.2
  have hm : x ∈ w := by rw [← e]; exact nth_mem hj
  have h1 : w.idxOf x < w.length := List.idxOf_lt_length_of_mem hm
  exact ⟨h1, by rw [nth_lt h1]; exact List.getElem_idxOf h1⟩
theorem idx_at {w : List Int} (hp : Prm w) {p : Nat} (h : p < w.length) : w.idxOf (nth w p) = p := by
  have h1 := idx_lt hp (hp.rng p h)
  exact hp.inj _ _ h1.1 h h1.2
/-- The inverse. -/
def invB (w : List Int) : List Int := gen (fun x => (w.idxOf (x : Int) : Int)) w.length
theorem invB_len (w : List Int) : (invB w).length = w.length := gen_len _ _
theorem nth_invB {w : List Int} {x : Nat} (h : x < w.length) : nth (invB w) x = (w.idxOf (x : Int) : Int) := nth_gen h
def ldB (w : List Int) (k : Nat) : Bool := decide (nth (invB w) (k + 1) < nth (invB w) k)
def rdB (w : List Int) (k : Nat) : Bool := decide (nth w (k + 1) < nth w k)
def ldsL (w : List Int) : List Nat := (List.range (w.length - 1)).filter (ldB w)
def rdsL (w : List Int) : List Nat := (List.range (w.length - 1)).filter (rdB w)
theorem ldB_iff {w : List Int} (hp : Prm w) {k : Nat} (hk : k + 1 < w.length) : ldB w k = true ↔ ldes w k := by
  rw [ldB, nth_invB hk, nth_invB (by omega), decide_eq_true_eq]
  have a := idx_lt hp (x := (k : Int)) (by omega)
  have b := idx_lt hp (x := ((k + 1 : Nat) : Int)) (by omega)
  constructor
  · intro h
    exact ⟨w.idxOf ((k + 1 : Nat) : Int), w.idxOf (k : Int), by omega, a.1, by rw [b.2]; omega, a.2⟩
  · rintro ⟨p, q, h1, h2, h3, h4⟩
    have e1 := idx_at hp (p := p) (by omega)
    have e2 := idx_at hp h2
    rw [h3] at e1
    rw [h4] at e2
    rw [show ((k + 1 : Nat) : Int) = (k : Int) + 1 by omega, e1, e2]
    omega
theorem mem_ldsL {w : List Int} (hp : Prm w) {k : Nat} : k ∈ ldsL w ↔ ldes w k := by
  rw [ldsL, List.mem_filter, List.mem_range]
  constructor
  · rintro ⟨h1, h2⟩
    exact (ldB_iff hp (by omega)).1 h2
  · intro h
    have := ldes_lt hp h
    exact ⟨by omega, (ldB_iff hp this).2 h⟩
theorem mem_rdsL {w : List Int} {k : Nat} : k ∈ rdsL w ↔ rdes w k := by
  rw [rdsL, List.mem_filter, List.mem_range, rdB, decide_eq_true_eq]
  unfold rdes
  omega
theorem invB_vsw {w : List Int} (hp : Prm w) {k : Nat} (hk : k + 1 < w.length) : invB (vsw k w) = swN k (invB w) := by
  have hv := hp.vsw hk
  refine ext_nth (by rw [swN_len, invB_len, invB_len, vsw_len]) fun j hj => ?_
  rw [invB_len, vsw_len] at hj
  rw [nth_swN k _ (by rw [invB_len]; exact hk), nth_invB (by rw [vsw_len]; exact hj), nth_invB (sk_lt hk hj)]
  have a := idx_lt hp (x := ((sk k j : Nat) : Int)) (by have := sk_lt hk hj; omega)
  have e := nth_vsw (k := k) a.1
  rw [a.2, show vs k ((sk k j : Nat) : Int) = (j : Int) by unfold vs sk; (repeat' split) <;> omega] at e
  have b := idx_at hv (p := w.idxOf ((sk k j : Nat) : Int)) (by rw [vsw_len]; exact a.1)
  rw [e] at b
  rw [b]
/-- How far there is to go from the front. -/
def fin' (w : List Int) : Nat := dnv (invB w)
theorem fin_vsw {w : List Int} (hp : Prm w) {k : Nat} (h : ldes w k) : fin' (vsw k w) + 1 = fin' w := by
  have hk := ldes_lt hp h
  unfold fin'
  rw [invB_vsw hp hk]
  refine swN_dnv k _ (by rw [invB_len]; exact hk) ?_
  have := (ldB_iff hp hk).2 h
  rw [ldB, decide_eq_true_eq] at this
  exact this
theorem fin_21 {w : List Int} (h : w.length ≤ 7) : fin' w ≤ 21 := dnv_21 (by rw [invB_len]; exact h)
def redI : Nat → List Int → List (List Int)
  | 0, _ => [[]]
  | f + 1, w => if ldsL w = [] then [[]] else (ldsL w).flatMap fun k => (redI f (vsw k w)).map ((k : Int) :: ·)
def redS : Nat → List Int → List (List Int)
  | 0, _ => [[]]
  | f + 1, w => if rdsL w = [] then [[]] else (rdsL w).flatMap fun k => (redS f (swN k w)).map (· ++ [(k : Int)])
theorem no_lds {w : List Int} (hp : Prm w) : ldsL w = [] ↔ ∀ k, ¬ ldes w k := by
  constructor
  · intro h k hk
    have := (mem_ldsL hp).2 hk
    rw [h] at this; cases this
  · intro h
    refine List.eq_nil_iff_forall_not_mem.2 fun k hk => h k ((mem_ldsL hp).1 hk)
theorem no_rds {w : List Int} : rdsL w = [] ↔ ∀ k, ¬ rdes w k := by
  constructor
  · intro h k hk
    have := mem_rdsL.2 hk
    rw [h] at this; cases this
  · intro h
    refine List.eq_nil_iff_forall_not_mem.2 fun k hk => h k (mem_rdsL.1 hk)
theorem mem_redI : ∀ (f : Nat) (w v : List Int), Prm w → fin' w ≤ f → (v ∈ redI f w ↔ RedI v w)
  | 0, w, v, hp, hf => by
    have hn : ∀ k, ¬ ldes w k := fun k hk => by have := fin_vsw hp hk; omega
    rw [redI, List.mem_singleton]
    cases v with
    | nil => exact ⟨fun _ => hn, fun _ => rfl⟩
    | cons j u => exact ⟨fun h => (by cases h), fun h => by obtain ⟨k, _, h, _⟩ := h; exact absurd h (hn k)⟩
  | f + 1, w, v, hp, hf => by
    rw [redI]
    by_cases h : ldsL w = []
    · rw [if_pos h, List.mem_singleton]
      have hn := (no_lds hp).1 h
      cases v with
      | nil => exact ⟨fun _ => hn, fun _ => rfl⟩
      | cons j u => exact ⟨fun h => (by cases h), fun h => by obtain ⟨k, _, h, _⟩ := h; exact absurd h (hn k)⟩
    · rw [if_neg h, List.mem_flatMap]
      constructor
      · rintro ⟨k, hk, hm⟩
        obtain ⟨u, hu, rfl⟩ := List.mem_map.1 hm
        have hl := (mem_ldsL hp).1 hk
        have hv := fin_vsw hp hl
        exact ⟨k, rfl, hl, (mem_redI f _ u (hp.vsw (ldes_lt hp hl)) (by omega)).1 hu⟩
      · intro hr
        cases v with
        | nil => exact absurd ((no_lds hp).2 hr) h
        | cons j u =>
          obtain ⟨k, rfl, hl, hu⟩ := hr
          have hv := fin_vsw hp hl
          exact ⟨k, (mem_ldsL hp).2 hl, List.mem_map.2 ⟨u, (mem_redI f _ u (hp.vsw (ldes_lt hp hl)) (by omega)).2 hu, rfl⟩⟩
theorem dn_swN {w : List Int} {k : Nat} (h : rdes w k) : dnv (swN k w) + 1 = dnv w := swN_dnv k w h.1 h.2
theorem mem_redS : ∀ (f : Nat) (w v : List Int), Prm w → dnv w ≤ f → (v ∈ redS f w ↔ RedS v.reverse w)
  | 0, w, v, hp, hf => by
    have hn : ∀ k, ¬ rdes w k := fun k hk => by have := dn_swN hk; omega
    rw [redS, List.mem_singleton, ← List.reverse_eq_nil_iff]
    generalize v.reverse = r
    cases r with
    | nil => exact ⟨fun _ => hn, fun _ => rfl⟩
    | cons j u => exact ⟨fun h => (by cases h), fun h => by obtain ⟨k, _, h, _⟩ := h; exact absurd h (hn k)⟩
  | f + 1, w, v, hp, hf => by
    rw [redS]
    by_cases h : rdsL w = []
    · rw [if_pos h, List.mem_singleton, ← List.reverse_eq_nil_iff]
      have hn := no_rds.1 h
      generalize v.reverse = r
      cases r with
      | nil => exact ⟨fun _ => hn, fun _ => rfl⟩
      | cons j u => exact ⟨fun h => (by cases h), fun h => by obtain ⟨k, _, h, _⟩ := h; exact absurd h (hn k)⟩
    · rw [if_neg h, List.mem_flatMap]
      constructor
      · rintro ⟨k, hk, hm⟩
        obtain ⟨u, hu, rfl⟩ := List.mem_map.1 hm
        have hl := mem_rdsL.1 hk
        have hv := dn_swN hl
        rw [List.reverse_append]
        exact ⟨k, rfl, hl, (mem_redS f _ u (hp.swN hl.1) (by omega)).1 hu⟩
      · intro hr
        obtain ⟨r, hrv⟩ : ∃ r, v.reverse = r := ⟨_, rfl⟩
        have hv' : v = r.reverse := by rw [← hrv, List.reverse_reverse]
        rw [hrv] at hr
        cases r with
        | nil => exact absurd (no_rds.2 hr) h
        | cons j u =>
          obtain ⟨k, rfl, hl, hu⟩ := hr
          have hv := dn_swN hl
          refine ⟨k, mem_rdsL.2 hl, List.mem_map.2 ⟨u.reverse, (mem_redS f _ u.reverse (hp.swN hl.1) (by omega)).2 (by rw [List.reverse_reverse]; exact hu), ?_⟩⟩
          rw [hv', List.reverse_cons]
theorem lexLt_cons (k : Int) (a b : List Int) : lexLt (k :: a) (k :: b) = lexLt a b := by rw [lexLt, if_pos rfl]
theorem lexLt_first {j k : Int} (h : j < k) (a b : List Int) : lexLt (j :: a) (k :: b) = true := by rw [lexLt, if_neg (by omega)]; exact decide_eq_true h
theorem ldsL_up (w : List Int) : (ldsL w).Pairwise (· < ·) := List.Pairwise.filter _ List.pairwise_lt_range
theorem rdsL_up (w : List Int) : (rdsL w).Pairwise (· < ·) := List.Pairwise.filter _ List.pairwise_lt_range
theorem redI_up : ∀ (f : Nat) (w : List Int), (redI f w).Pairwise (fun a b => lexLt a b = true)
  | 0, _ => List.pairwise_singleton _ _
  | f + 1, w => by
    rw [redI]
    split
    · exact List.pairwise_singleton _ _
    · refine List.pairwise_flatMap.2 ⟨fun k _ => ?_, (ldsL_up w).imp fun {a b} hab x hx y hy => ?_⟩
      · rw [List.pairwise_map]
        exact (redI_up f (vsw k w)).imp fun {a b} h => by rw [lexLt_cons]; exact h
      · obtain ⟨u, -, rfl⟩ := List.mem_map.1 hx
        obtain ⟨v, -, rfl⟩ := List.mem_map.1 hy
        exact lexLt_first (by omega) _ _
theorem redS_nodup : ∀ (f : Nat) (w : List Int), (redS f w).Nodup
  | 0, _ => List.pairwise_singleton _ _
  | f + 1, w => by
    rw [redS]
    split
    · exact List.pairwise_singleton _ _
    · refine List.pairwise_flatMap.2 ⟨fun k _ => ?_, (rdsL_up w).imp fun {a b} hab x hx y hy e => ?_⟩
      · rw [List.pairwise_map]
        exact (redS_nodup f (swN k w)).imp fun {a b} h e => h (List.append_cancel_right e)
      · obtain ⟨u, -, rfl⟩ := List.mem_map.1 hx
        obtain ⟨v, -, rfl⟩ := List.mem_map.1 hy
        have h1 := congrArg List.reverse e
        rw [List.reverse_append, List.reverse_append] at h1
        have h2 : (a : Int) = b := (List.cons.inj h1).1
        omega
theorem redI_nodup (f : Nat) (w : List Int) : (redI f w).Nodup := (redI_up f w).imp fun {a b} h e => by subst e; rw [lex_irr] at h; cases h
/-- Both lists hold the same words. -/
theorem red_perm {w : List Int} (hp : Prm w) {f g : Nat} (hf : fin' w ≤ f) (hg : dnv w ≤ g) : (redI f w).Perm (redS g w) := by
  rw [List.perm_ext_iff_of_nodup (redI_nodup f w) (redS_nodup g w)]
  intro v
  rw [mem_redI f w v hp hf, mem_redS g w v hp hg]
  exact red_eq v.length v w (Nat.le_refl _) hp
/-- Sorted in any way, the words of the reference are those of the program. -/
theorem red_sorted {w : List Int} (hp : Prm w) {f g : Nat} (hf : fin' w ≤ f) (hg : dnv w ≤ g) {S : List (List Int)} (h1 : S.Perm (redS g w)) (h2 : S.Pairwise (fun a b => lexLt b a = false)) : S = redI f w := by
  refine List.Perm.eq_of_pairwise (le := fun a b => lexLt b a = false) (fun a b _ _ ha hb => ?_) h2 ((redI_up f w).imp fun {a b} h => ?_) (h1.trans (red_perm hp hf hg).symm)
  · by_cases e : a = b
    · exact e
    · have := lex_total ha (fun h => e h.symm)
      rw [hb] at this; cases this
  · rcases h3 : lexLt b a with _ | _
    · rfl
    · have := lex_trans h h3
      rw [lex_irr] at this; cases this
/-- What a word makes; how long it is. -/
def playL (u : List Int) (v : List Int) : List Int := v.foldl (fun x k => swN k.toNat x) u
theorem playL_snoc (u v : List Int) (k : Int) : playL u (v ++ [k]) = swN k.toNat (playL u v) := by simp [playL]
theorem redS_play : ∀ (r w : List Int), Prm w → RedS r w → playL (gen (fun i => (i : Int)) w.length) r.reverse = w ∧ r.length = dnv w ∧ (∀ x ∈ r, 0 ≤ x ∧ x + 1 < w.length)
  | [], w, hp, h => by
    have hid := ident hp h
    have e : w = gen (fun i => (i : Int)) w.length := ext_nth (by rw [gen_len]) fun j hj => by rw [hid j hj, nth_gen hj]
    refine ⟨?_, ?_, by simp⟩
    · exact e.symm
    · rw [dnv_zero]
      · rfl
      · rw [List.pairwise_iff_getElem]
        intro i j hi hj hij
        rw [← nth_lt hi, ← nth_lt hj, hid i hi, hid j hj]
        omega
  | j :: r, w, hp, ⟨k, hk, hr, hs⟩ => by
    subst hk
    obtain ⟨h1, h2, h3⟩ := redS_play r (swN k w) (hp.swN hr.1) hs
    have := dn_swN hr
    rw [swN_len] at h1 h3
    have hk := hr.1
    refine ⟨?_, by rw [List.length_cons]; omega, fun x hx => ?_⟩
    · rw [List.reverse_cons, playL_snoc, h1, Int.toNat_natCast, swN_swN hr.1]
    · rcases List.mem_cons.1 hx with rfl | hx
      · omega
      · exact h3 x hx
theorem redI_play {w : List Int} (hp : Prm w) {f : Nat} (hf : fin' w ≤ f) {v : List Int} (hv : v ∈ redI f w) :
    playL (gen (fun i => (i : Int)) w.length) v = w ∧ v.length = dnv w ∧ (∀ x ∈ v, 0 ≤ x ∧ x + 1 < w.length) := by
  have h1 := (red_eq v.length v w (Nat.le_refl _) hp).1 ((mem_redI f w v hp hf).1 hv)
  obtain ⟨a, b, c⟩ := redS_play _ w hp h1
  rw [List.reverse_reverse] at a
  rw [List.length_reverse] at b
  exact ⟨a, b, fun x hx => c x (List.mem_reverse.2 hx)⟩
/-- How many there are. -/
theorem redI_count : ∀ (f : Nat) (w : List Int), w.length ≤ 7 → (redI f w).length ≤ 6 ^ f
  | 0, _, _ => Nat.le_refl _
  | f + 1, w, h => by
    have hp : 1 ≤ 6 ^ (f + 1) := Nat.pos_of_ne_zero (by simp)
    rw [redI]
    split
    · exact hp
    · have hl : (ldsL w).length ≤ 6 := by
        refine Nat.le_trans (List.length_filter_le _ _) ?_
        rw [List.length_range]; omega
      have key : ∀ L : List Nat, (L.flatMap fun k => (redI f (vsw k w)).map ((k : Int) :: ·)).length ≤ L.length * 6 ^ f := fun L => by
        induction L with
        | nil => simp
        | cons k L ih =>
          rw [List.flatMap_cons, List.length_append, List.length_map, List.length_cons, Nat.add_mul]
          have := redI_count f (vsw k w) (by rw [vsw_len]; exact h)
          omega
      have h2 := key (ldsL w)
      have h3 : (ldsL w).length * 6 ^ f ≤ 6 * 6 ^ f := Nat.mul_le_mul_right _ hl
      rw [Nat.pow_succ]
      omega
end Go.Proofs.Ytgbojgmmingfdaa
