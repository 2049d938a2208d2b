/- Reduced words, in plain words: the program goes from the front of a word, the reference from its end; both find the same words. -/
import Derived.Test.YtgbojgmmingfdaaPlain
namespace Go.Proofs.Ytgbojgmmingfdaa

/-- Two places exchanged that stand one beside the other. -/
def swN : Nat → List Int → List Int
  | 0, a :: b :: r => b :: a :: r
  | j + 1, x :: r => x :: swN j r
  | _, l => l
def sk (k i : Nat) : Nat := if i = k then k + 1 else if i = k + 1 then k else i
theorem sk_sk (k i : Nat) : sk k (sk k i) = i := by unfold sk; split <;> (try split) <;> (try split) <;> omega
theorem sk_lt {k i n : Nat} (hk : k + 1 < n) (h : i < n) : sk k i < n := by unfold sk; split <;> (try split) <;> omega
theorem swN_len : ∀ (j : Nat) (l : List Int), (swN j l).length = l.length
  | 0, [] => rfl
  | 0, [_] => rfl
  | 0, _ :: _ :: _ => rfl
  | _ + 1, [] => rfl
  | j + 1, x :: r => by simp [swN, swN_len j r]
theorem swN_perm : ∀ (j : Nat) (l : List Int), (swN j l).Perm l
  | 0, [] => List.Perm.refl _
  | 0, [_] => List.Perm.refl _
  | 0, a :: b :: r => List.Perm.swap a b r
  | _ + 1, [] => List.Perm.refl _
  | j + 1, x :: r => (swN_perm j r).cons x
theorem nth_cons0 (x : Int) (l : List Int) : nth (x :: l) 0 = x := rfl
theorem nth_consS (x : Int) (l : List Int) (k : Nat) : nth (x :: l) (k + 1) = nth l k := rfl
theorem nth_swN : ∀ (k : Nat) (l : List Int), k + 1 < l.length → ∀ i, nth (swN k l) i = nth l (sk k i)
  | _, [], h, _ => by simp at h
  | 0, [_], h, _ => by simp at h
  | 0, a :: b :: r, _, i => by
    match i with
    | 0 => rfl
    | 1 => rfl
    | i + 2 => show nth r i = nth (a :: b :: r) (sk 0 (i + 2)); rw [show sk 0 (i + 2) = i + 2 by unfold sk; split <;> (try split) <;> omega]; rfl
  | k + 1, x :: r, h, i => by
    have h1 : k + 1 < r.length := by simpa using h
    cases i with
    | zero => rw [show sk (k + 1) 0 = 0 by unfold sk; split <;> (try split) <;> omega]; rfl
    | succ i =>
      show nth (swN k r) i = nth (x :: r) (sk (k + 1) (i + 1))
      rw [nth_swN k r h1, show sk (k + 1) (i + 1) = sk k i + 1 by unfold sk; (repeat' split) <;> omega]
      rfl
theorem swN_map (f : Int → Int) : ∀ (k : Nat) (l : List Int), (swN k l).map f = swN k (l.map f)
  | 0, [] => rfl
  | 0, [_] => rfl
  | 0, _ :: _ :: _ => rfl
  | _ + 1, [] => rfl
  | k + 1, x :: r => by simp [swN, swN_map f k r]
theorem swN_swN {k : Nat} {l : List Int} (h : k + 1 < l.length) : swN k (swN k l) = l := by
  refine ext_nth (by rw [swN_len, swN_len]) fun j _ => ?_
  rw [nth_swN k _ (by rw [swN_len]; exact h), nth_swN k l h, sk_sk]
/-- How many pairs stand the wrong way round. -/
def dnC (x : Int) (l : List Int) : Nat := (l.filter fun y => decide (y < x)).length
def dnv : List Int → Nat
  | [] => 0
  | x :: r => dnC x r + dnv r
theorem dnC_perm {x : Int} {a b : List Int} (h : a.Perm b) : dnC x a = dnC x b := (h.filter _).length_eq
theorem swN_dnv : ∀ (j : Nat) (l : List Int), j + 1 < l.length → nth l (j + 1) < nth l j → dnv (swN j l) + 1 = dnv l
  | _, [], h, _ => by simp at h
  | 0, [a], h, _ => by simp at h
  | 0, a :: b :: r, _, h => by
    have h' : b < a := h
    show dnv (b :: a :: r) + 1 = dnv (a :: b :: r)
    simp only [dnv, dnC, List.filter_cons]
    rw [decide_eq_false (show ¬ a < b by omega), decide_eq_true h']
    simp only [Bool.false_eq_true, if_false, if_true, List.length_cons]
    omega
  | j + 1, x :: r, h, h2 => by
    have h1 : j + 1 < r.length := by simpa using h
    have ih := swN_dnv j r h1 h2
    show dnv (x :: swN j r) + 1 = dnv (x :: r)
    simp only [dnv]
    rw [dnC_perm (swN_perm j r)]
    omega
theorem dnC_le (x : Int) (l : List Int) : dnC x l ≤ l.length := List.length_filter_le _ _
def triN : Nat → Nat
  | 0 => 0
  | n + 1 => n + triN n
theorem dnv_tri : ∀ l : List Int, dnv l ≤ triN l.length
  | [] => Nat.le_refl _
  | x :: r => by
    have h1 := dnv_tri r
    have h2 := dnC_le x r
    simp only [dnv, List.length_cons, triN]
    omega
theorem triN_mono {a b : Nat} (h : a ≤ b) : triN a ≤ triN b := by
  induction h with
  | refl => exact Nat.le_refl _
  | step h ih => simp only [triN]; omega
theorem dnv_21 {l : List Int} (h : l.length ≤ 7) : dnv l ≤ 21 := Nat.le_trans (dnv_tri l) (triN_mono h)
theorem dnC_zero {x : Int} {l : List Int} (h : ∀ y ∈ l, x ≤ y) : dnC x l = 0 := by
  unfold dnC
  rw [List.length_eq_zero_iff, List.filter_eq_nil_iff]
  intro y hy
  have := h y hy
  simp; omega
theorem dnv_zero : ∀ {l : List Int}, l.Pairwise (· ≤ ·) → dnv l = 0
  | [], _ => rfl
  | x :: r, h => by
    rw [List.pairwise_cons] at h
    rw [dnv, dnC_zero h.1, dnv_zero h.2]

/-- A permutation of the numbers from 0 on. -/
structure Prm (w : List Int) : Prop where
  rng : ∀ i, i < w.length → 0 ≤ nth w i ∧ nth w i < w.length
  inj : ∀ i j, i < w.length → j < w.length → nth w i = nth w j → i = j
  sur : ∀ x : Int, 0 ≤ x → x < w.length → ∃ j, j < w.length ∧ nth w j = x
theorem Prm.swN {w : List Int} (h : Prm w) {k : Nat} (hk : k + 1 < w.length) : Prm (swN k w) := by
  refine ⟨fun i hi => ?_, fun i j hi hj e => ?_, fun x h0 h1 => ?_⟩
  · rw [swN_len] at hi ⊢
    rw [nth_swN k w hk]
    exact h.rng _ (sk_lt hk hi)
  · rw [swN_len] at hi hj
    rw [nth_swN k w hk, nth_swN k w hk] at e
    have := h.inj _ _ (sk_lt hk hi) (sk_lt hk hj) e
    rw [← sk_sk k i, ← sk_sk k j, this]
  · rw [swN_len] at h1 ⊢
    obtain ⟨j, hj, e⟩ := h.sur x h0 h1
    exact ⟨sk k j, sk_lt hk hj, by rw [nth_swN k w hk, sk_sk]; exact e⟩
/-- Two numbers exchanged that follow one another. -/
def vs (k : Nat) (x : Int) : Int := if x = k then (k : Int) + 1 else if x = (k : Int) + 1 then k else x
theorem vs_vs (k : Nat) (x : Int) : vs k (vs k x) = x := by unfold vs; split <;> (try split) <;> (try split) <;> omega
theorem vs_in {k n : Nat} {x : Int} (hk : k + 1 < n) (h : 0 ≤ x ∧ x < n) : 0 ≤ vs k x ∧ vs k x < n := by unfold vs; split <;> (try split) <;> omega
def vsw (k : Nat) (w : List Int) : List Int := w.map (vs k)
theorem vsw_len (k : Nat) (w : List Int) : (vsw k w).length = w.length := List.length_map ..
theorem nth_map' {f : Int → Int} {w : List Int} {i : Nat} (h : i < w.length) : nth (w.map f) i = f (nth w i) := by
  rw [nth_lt (by rw [List.length_map]; exact h), nth_lt h, List.getElem_map]
theorem nth_vsw {k : Nat} {w : List Int} {i : Nat} (h : i < w.length) : nth (vsw k w) i = vs k (nth w i) := nth_map' h
theorem Prm.vsw {w : List Int} (h : Prm w) {k : Nat} (hk : k + 1 < w.length) : Prm (vsw k w) := by
  refine ⟨fun i hi => ?_, fun i j hi hj e => ?_, fun x h0 h1 => ?_⟩
  · rw [vsw_len] at hi ⊢
    rw [nth_vsw hi]
    exact vs_in hk (h.rng i hi)
  · rw [vsw_len] at hi hj
    rw [nth_vsw hi, nth_vsw hj] at e
    have e2 := congrArg (vs k) e
    rw [vs_vs, vs_vs] at e2
    exact h.inj i j hi hj e2
  · rw [vsw_len] at h1 ⊢
    obtain ⟨j, hj, e⟩ := h.sur (vs k x) (vs_in hk ⟨h0, h1⟩).1 (vs_in hk ⟨h0, h1⟩).2
    exact ⟨j, hj, by rw [nth_vsw hj, e, vs_vs]⟩
theorem swN_vsw (k j : Nat) (w : List Int) : swN k (vsw j w) = vsw j (swN k w) := (swN_map _ k w).symm
/-- A descent of the inverse; a descent. -/
def ldes (w : List Int) (k : Nat) : Prop := ∃ p q, p < q ∧ q < w.length ∧ nth w p = (k : Int) + 1 ∧ nth w q = k
def rdes (w : List Int) (k : Nat) : Prop := k + 1 < w.length ∧ nth w (k + 1) < nth w k
theorem ldes_lt {w : List Int} {k : Nat} (hp : Prm w) (h : ldes w k) : k + 1 < w.length := by
  obtain ⟨p, q, h1, h2, h3, h4⟩ := h
  have := hp.rng p (by omega)
  omega
/-- Ascending all through. -/
theorem up_of {w : List Int} (h : ∀ k, ¬ rdes w k) : ∀ d i, i + d < w.length → nth w i ≤ nth w (i + d)
  | 0, i, _ => Int.le_refl _
  | d + 1, i, hd => by
    have h1 := up_of h d i (by omega)
    have h2 := h (i + d)
    have h3 : ¬ nth w (i + d + 1) < nth w (i + d) := fun h4 => h2 ⟨by omega, h4⟩
    rw [show i + (d + 1) = i + d + 1 by omega]
    omega
theorem no_l_of_r {w : List Int} (h : ∀ k, ¬ rdes w k) (k : Nat) : ¬ ldes w k := by
  rintro ⟨p, q, h1, h2, h3, h4⟩
  have := up_of h (q - p) p (by omega)
  rw [show p + (q - p) = q by omega] at this
  omega
theorem up_l {w : List Int} (hp : Prm w) (h : ∀ k, ¬ ldes w k) : ∀ (d : Nat) (p q : Nat), p < w.length → q < w.length → nth w q = nth w p + (d + 1 : Nat) → p < q
  | 0, p, q, h1, h2, e => by
    have r := hp.rng p h1
    rcases Nat.lt_trichotomy p q with hlt | rfl | hgt
    · exact hlt
    · omega
    · exact absurd ⟨q, p, hgt, h1, by omega, by omega⟩ (h (nth w p).toNat)
  | d + 1, p, q, h1, h2, e => by
    have rp := hp.rng p h1
    have rq := hp.rng q h2
    obtain ⟨m, hm, em⟩ := hp.sur (nth w p + (d + 1 : Nat)) (by omega) (by omega)
    have a1 := up_l hp h d p m h1 hm em
    have a2 := up_l hp h 0 m q hm h2 (by omega)
    omega
theorem no_r_of_l {w : List Int} (hp : Prm w) (h : ∀ k, ¬ ldes w k) (k : Nat) : ¬ rdes w k := by
  rintro ⟨h1, h2⟩
  have := up_l hp h (nth w k - nth w (k + 1) - 1).toNat (k + 1) k h1 (by omega) (by omega)
  omega
theorem up_lt {w : List Int} (hp : Prm w) (h : ∀ k, ¬ rdes w k) : ∀ i, i + 1 < w.length → nth w i < nth w (i + 1) := fun i hi => by
  have h1 := up_of h 1 i hi
  have h2 : nth w i ≠ nth w (i + 1) := fun e => by have := hp.inj i (i + 1) (by omega) hi e; omega
  omega
theorem ident {w : List Int} (hp : Prm w) (h : ∀ k, ¬ rdes w k) : ∀ i, i < w.length → nth w i = i := by
  have lo : ∀ i, i < w.length → (i : Int) ≤ nth w i := fun i => by
    induction i with
    | zero => intro hi; exact (hp.rng 0 hi).1
    | succ i ih => intro hi; have := ih (by omega); have := up_lt hp h i hi; omega
  have hi : ∀ d i, i + d + 1 = w.length → nth w i ≤ i := fun d => by
    induction d with
    | zero => intro i hd; have := (hp.rng i (by omega)).2; omega
    | succ d ih => intro i hd; have := ih (i + 1) (by omega); have := up_lt hp h i (by omega); omega
  intro i h1
  have := lo i h1
  have := hi (w.length - 1 - i) i (by omega)
  omega
theorem ident_r {w : List Int} (h : ∀ i, i < w.length → nth w i = i) (k : Nat) : ¬ rdes w k := by
  rintro ⟨h1, h2⟩
  rw [h k (by omega), h (k + 1) h1] at h2
  omega
theorem ident_l {w : List Int} (h : ∀ i, i < w.length → nth w i = i) (k : Nat) : ¬ ldes w k := no_l_of_r (ident_r h) k
/-- Whether a list is a reduced word: from the front; from the end (the word turned round). -/
def RedI : List Int → List Int → Prop
  | [], w => ∀ k, ¬ ldes w k
  | j :: u, w => ∃ k : Nat, j = k ∧ ldes w k ∧ RedI u (vsw k w)
def RedS : List Int → List Int → Prop
  | [], w => ∀ k, ¬ rdes w k
  | j :: r, w => ∃ k : Nat, j = k ∧ rdes w k ∧ RedS r (swN k w)
theorem two_sides {w : List Int} (hp : Prm w) {j k : Nat} : (ldes w j ∧ rdes (vsw j w) k) ↔ (rdes w k ∧ ldes (swN k w) j) := by
  constructor
  · rintro ⟨⟨p, q, h1, h2, h3, h4⟩, h5, h6⟩
    rw [vsw_len] at h5
    rw [nth_vsw h5, nth_vsw (by omega)] at h6
    have hkp : nth w k = (j : Int) + 1 → k = p := fun e => hp.inj k p (by omega) (by omega) (by omega)
    have hkq : nth w k = (j : Int) → k = q := fun e => hp.inj k q (by omega) (by omega) (by omega)
    have hkp1 : nth w (k + 1) = (j : Int) + 1 → k + 1 = p := fun e => hp.inj (k + 1) p (by omega) (by omega) (by omega)
    have hkq1 : nth w (k + 1) = (j : Int) → k + 1 = q := fun e => hp.inj (k + 1) q (by omega) (by omega) (by omega)
    have hne : nth w k ≠ nth w (k + 1) := fun e => by have := hp.inj k (k + 1) (by omega) h5 e; omega
    have hnp : ¬ (p = k ∧ q = k + 1) := fun ⟨e1, e2⟩ => by
      subst e1; subst e2
      rw [h3, h4] at h6
      unfold vs at h6
      simp at h6
      split at h6 <;> omega
    refine ⟨⟨h5, ?_⟩, sk k p, sk k q, ?_, ?_, ?_, ?_⟩
    · unfold vs at h6
      repeat' split at h6
      all_goals omega
    · unfold sk; repeat' split
      all_goals omega
    · rw [swN_len]; exact sk_lt h5 h2
    · rw [nth_swN k w h5, sk_sk]; exact h3
    · rw [nth_swN k w h5, sk_sk]; exact h4
  · rintro ⟨⟨h5, h6⟩, p, q, h1, h2, h3, h4⟩
    rw [swN_len] at h2
    rw [nth_swN k w h5] at h3 h4
    have hq := sk_lt h5 h2
    have hpl := sk_lt h5 (show p < w.length by omega)
    have hnp : ¬ (p = k ∧ q = k + 1) := fun ⟨e1, e2⟩ => by
      subst e1; subst e2
      rw [show sk p p = p + 1 by unfold sk; simp] at h3
      rw [show sk p (p + 1) = p by unfold sk; split <;> (try split) <;> omega] at h4
      omega
    have hs : sk k p < sk k q := by
      unfold sk; repeat' split
      all_goals omega
    have hkp : nth w k = (j : Int) + 1 → k = sk k p := fun e => hp.inj k _ (by omega) hpl (by omega)
    have hkq1 : nth w (k + 1) = (j : Int) → k + 1 = sk k q := fun e => hp.inj (k + 1) _ (by omega) hq (by omega)
    refine ⟨⟨sk k p, sk k q, hs, hq, h3, h4⟩, by rw [vsw_len]; exact h5, ?_⟩
    rw [nth_vsw h5, nth_vsw (by omega)]
    by_cases hb : nth w k = (j : Int) + 1 ∧ nth w (k + 1) = (j : Int)
    · have e1 := hkp hb.1
      have e2 := hkq1 hb.2
      unfold sk at e1 e2
      exfalso
      revert e1 e2
      repeat' split
      all_goals (intro e1 e2; omega)
    · unfold vs
      repeat' split
      all_goals omega
theorem one_word {w : List Int} (hp : Prm w) (j : Int) : RedI [j] w ↔ RedS [j] w := by
  constructor
  · rintro ⟨k, rfl, h1, h2⟩
    have hk := ldes_lt hp h1
    have hv := hp.vsw hk
    have hid := ident hv (no_r_of_l hv h2)
    rw [vsw_len] at hid
    have hw : ∀ i, i < w.length → nth w i = vs k i := fun i hi => by
      have := hid i hi
      rw [nth_vsw hi] at this
      rw [← this, vs_vs]
    refine ⟨k, rfl, ⟨hk, ?_⟩, ident_r fun i hi => ?_⟩
    · rw [hw _ hk, hw k (by omega)]
      unfold vs
      repeat' split
      all_goals omega
    · rw [swN_len] at hi
      rw [nth_swN k w hk, hw _ (sk_lt hk hi)]
      unfold vs sk
      repeat' split
      all_goals omega
  · rintro ⟨k, rfl, ⟨hk, h1⟩, h2⟩
    have hid := ident (hp.swN hk) h2
    rw [swN_len] at hid
    have hw : ∀ i, i < w.length → nth w i = (sk k i : Nat) := fun i hi => by
      have := hid _ (sk_lt hk hi)
      rw [nth_swN k w hk, sk_sk] at this
      exact this
    refine ⟨k, rfl, ⟨k, k + 1, by omega, hk, ?_, ?_⟩, ident_l fun i hi => ?_⟩
    · rw [hw k (by omega)]
      unfold sk; repeat' split
      all_goals omega
    · rw [hw _ hk]
      unfold sk; repeat' split
      all_goals omega
    · rw [vsw_len] at hi
      rw [nth_vsw hi, hw i hi]
      unfold vs sk
      repeat' split
      all_goals omega
theorem red_eq : ∀ (N : Nat) (v w : List Int), v.length ≤ N → Prm w → (RedI v w ↔ RedS v.reverse w)
  | N, [], w, _, hp => ⟨fun h => no_r_of_l hp h, fun h => no_l_of_r h⟩
  | N, [j], w, _, hp => one_word hp j
  | N + 1, j :: b :: u', w, hN, hp => by
    obtain ⟨u, k0, hu⟩ : ∃ u k0, b :: u' = u ++ [k0] := ⟨_, _, (List.dropLast_concat_getLast (List.cons_ne_nil b u')).symm⟩
    rw [hu]
    have hl : u.length + 1 = (b :: u').length := by rw [hu, List.length_append]; rfl
    have hul : u.length ≤ N := by simp only [List.length_cons] at hN hl; omega
    have hul2 : u.length + 1 ≤ N := by simp only [List.length_cons] at hN hl; omega
    have e2 : (j :: (u ++ [k0])).reverse = k0 :: (j :: u).reverse := by simp
    rw [e2]
    constructor
    · rintro ⟨k, rfl, h1, h2⟩
      have hk := ldes_lt hp h1
      rw [red_eq N (u ++ [k0]) _ (by rw [List.length_append]; exact hul2) (hp.vsw hk), List.reverse_append] at h2
      obtain ⟨m, rfl, h3, h4⟩ := h2
      have h5 := (two_sides hp).1 ⟨h1, h3⟩
      have hm := h5.1.1
      refine ⟨m, rfl, h5.1, ?_⟩
      rw [← red_eq N (k :: u) _ (by rw [List.length_cons]; exact hul2) (hp.swN hm)]
      refine ⟨k, rfl, h5.2, ?_⟩
      rw [red_eq N u _ hul ((hp.swN hm).vsw (by rw [swN_len]; exact hk)), ← swN_vsw]
      exact h4
    · rintro ⟨m, rfl, h1, h2⟩
      have hm := h1.1
      rw [← red_eq N (j :: u) _ (by rw [List.length_cons]; exact hul2) (hp.swN hm)] at h2
      obtain ⟨k, rfl, h3, h4⟩ := h2
      have h5 := (two_sides hp).2 ⟨h1, h3⟩
      have hk := ldes_lt hp h5.1
      refine ⟨k, rfl, h5.1, ?_⟩
      rw [red_eq N (u ++ [(m : Int)]) _ (by rw [List.length_append]; exact hul2) (hp.vsw hk), List.reverse_append]
      refine ⟨m, rfl, h5.2, ?_⟩
      rw [red_eq N u _ hul ((hp.swN hm).vsw (by rw [swN_len]; exact hk)), ← swN_vsw] at h4
      exact h4
end Go.Proofs.Ytgbojgmmingfdaa
