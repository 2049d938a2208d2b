/- Ascending lists of parts: where a shape stands, and what it is to add it. No program is in sight here. -/
import Derived.Test.YteodckkkjhapgaaPlain
namespace Go.Proofs.Yteodckkkjhapgaa

theorem lex_irr : ∀ a : List Int, lexLt a a = false
  | [] => rfl
  | x :: r => by rw [lexLt, if_pos rfl]; exact lex_irr r
theorem lex_trans : ∀ {a b c : List Int}, lexLt a b = true → lexLt b c = true → lexLt a c = true
  | [], [], _, h, _ => by simp [lexLt] at h
  | [], _ :: _, [], _, h => by simp [lexLt] at h
  | [], _ :: _, _ :: _, _, _ => rfl
  | _ :: _, [], _, h, _ => by simp [lexLt] at h
  | _ :: _, _ :: _, [], _, h => by simp [lexLt] at h
  | x :: a, y :: b, z :: c, h1, h2 => by
    rw [lexLt] at h1 h2 ⊢
    by_cases e1 : x = y
    · rw [if_pos e1] at h1
      by_cases e2 : y = z
      · rw [if_pos e2] at h2
        rw [if_pos (e1.trans e2)]
        exact lex_trans h1 h2
      · rw [if_neg e2] at h2
        rw [if_neg (by rw [e1]; exact e2), e1]
        exact h2
    · rw [if_neg e1] at h1
      by_cases e2 : y = z
      · rw [if_neg (by rw [← e2]; exact e1), ← e2]
        exact h1
      · rw [if_neg e2] at h2
        simp only [decide_eq_true_eq] at h1 h2
        rw [if_neg (by omega)]
        simp only [decide_eq_true_eq]
        omega
theorem lex_total : ∀ {a b : List Int}, lexLt a b = false → a ≠ b → lexLt b a = true
  | [], [], _, h => absurd rfl h
  | [], _ :: _, h, _ => by simp [lexLt] at h
  | _ :: _, [], _, _ => rfl
  | x :: a, y :: b, h, hne => by
    rw [lexLt] at h ⊢
    by_cases e : x = y
    · rw [if_pos e] at h
      rw [if_pos e.symm]
      exact lex_total h (fun e2 => hne (by rw [e, e2]))
    · rw [if_neg e] at h
      rw [if_neg (Ne.symm e)]
      simp only [decide_eq_false_iff_not] at h
      simp only [decide_eq_true_eq]
      omega
theorem lex_asymm {a b : List Int} (h : lexLt a b = true) : lexLt b a = false := by
  rw [Bool.eq_false_iff]
  intro h2
  have := lex_trans h h2
  rw [lex_irr] at this
  cases this
theorem lex_ne {a b : List Int} (h : lexLt a b = true) : a ≠ b := fun e => by rw [e, lex_irr] at h; cases h

/-- -1, 0 or 1. -/
def cmpB (a b : List Int) : Int := if lexLt a b then -1 else if a = b then 0 else 1
theorem cmpB_neg {a b : List Int} : cmpB a b < 0 ↔ lexLt a b = true := by
  unfold cmpB
  by_cases h : lexLt a b = true
  · simp [h]
  · simp only [h, if_false, Bool.false_eq_true]
    split <;> simp
theorem cmpB_zero {a b : List Int} : cmpB a b = 0 ↔ a = b := by
  unfold cmpB
  by_cases h : lexLt a b = true
  · simp [h, lex_ne h]
  · simp only [h, if_false]
    split <;> simp_all
theorem cmpB_range (a b : List Int) : -1 ≤ cmpB a b ∧ cmpB a b ≤ 1 := by
  unfold cmpB
  split
  · omega
  · split <;> omega

/-- Strictly ascending. -/
def Srt (ps : List (List Int × Int)) : Prop := ∀ i j, i < j → j < ps.length → lexLt (nthP ps i).1 (nthP ps j).1 = true
/-- The place of a shape: how many stand ahead of it. -/
structure Place (ps : List (List Int × Int)) (s : List Int) (p : Nat) : Prop where
  le : p ≤ ps.length
  lo : ∀ i, i < p → lexLt (nthP ps i).1 s = true
  hi : ∀ i, p ≤ i → i < ps.length → lexLt (nthP ps i).1 s = false
theorem nthP_cons_take {ps : List (List Int × Int)} {p : Nat} (h : p < ps.length) : ps.drop p = nthP ps p :: ps.drop (p + 1) := by
  rw [nthP_lt h]; exact List.drop_eq_getElem_cons h
theorem nthP_take_succ {ps : List (List Int × Int)} {p : Nat} (h : p < ps.length) : ps.take (p + 1) = ps.take p ++ [nthP ps p] := by
  rw [nthP_lt h]; exact List.take_succ_eq_append_getElem h

theorem addUp_lo {ps : List (List Int × Int)} {s : List Int} {n : Int} {p : Nat} (hn : n ≠ 0) (h : ∀ i, i < p → lexLt (nthP ps i).1 s = true) : ∀ i, i ≤ p → i ≤ ps.length → addUp ps s n i = (ps.take i, false) := by
  intro i
  induction i with
  | zero => intro _ _; simp [addUp]; exact hn
  | succ i ih =>
    intro hi hl
    have e := ih (by omega) (by omega)
    rw [addUp_less (by rw [e]) (h i (by omega)), e, nthP_take_succ (by omega)]
theorem addUp_rest {ps : List (List Int × Int)} {s : List Int} {n : Int} {p : Nat} {X : List (List Int × Int)} (h : addUp ps s n p = (X, true)) : ∀ d, p + d ≤ ps.length → addUp ps s n (p + d) = (X ++ (ps.drop p).take d, true) := by
  intro d
  induction d with
  | zero => intro _; simpa using h
  | succ d ih =>
    intro hd
    have e := ih (by omega)
    rw [← Nat.add_assoc, addUp_keep (by rw [e]), e]
    simp only [Prod.mk.injEq, and_true, List.append_assoc]
    congr 1
    have hl : d < (ps.drop p).length := by rw [List.length_drop]; omega
    rw [List.take_succ_eq_append_getElem hl]
    congr 2
    rw [nthP_lt (by omega)]
    simp
theorem addP_found {ps : List (List Int × Int)} {s : List Int} {n : Int} {p : Nat} (hn : n ≠ 0) (h : ∀ i, i < p → lexLt (nthP ps i).1 s = true) (hp : p < ps.length) (he : (nthP ps p).1 = s) (hz : (nthP ps p).2 + n ≠ 0) :
    addP ps s n = ps.take p ++ [(s, (nthP ps p).2 + n)] ++ ps.drop (p + 1) := by
  have e0 := addUp_lo hn h p (Nat.le_refl _) (by omega)
  have e1 := addUp_more (n := n) (by rw [e0]) (by rw [he]; exact lex_irr s) he hz
  rw [e0] at e1
  have e2 := addUp_rest e1 (ps.length - (p + 1)) (by omega)
  rw [show p + 1 + (ps.length - (p + 1)) = ps.length by omega] at e2
  rw [addP_done rfl (by rw [e2]), e2]
  simp only
  congr 1
  rw [List.take_of_length_le (by rw [List.length_drop]; omega)]
theorem addP_new {ps : List (List Int × Int)} {s : List Int} {n : Int} {p : Nat} (hn : n ≠ 0) (h : Place ps s p) (hf : p < ps.length → (nthP ps p).1 ≠ s) :
    addP ps s n = ps.take p ++ [(s, n)] ++ ps.drop p := by
  have e0 := addUp_lo hn h.lo p (Nat.le_refl _) h.le
  by_cases hp : p < ps.length
  · have e1 := addUp_new (n := n) (by rw [e0]) (h.hi p (Nat.le_refl _) hp) (hf hp)
    rw [e0] at e1
    have e2 := addUp_rest e1 (ps.length - (p + 1)) (by omega)
    rw [show p + 1 + (ps.length - (p + 1)) = ps.length by omega] at e2
    rw [addP_done rfl (by rw [e2]), e2, nthP_cons_take hp]
    simp only [List.append_assoc]
    rw [List.take_of_length_le (l := ps.drop (p + 1)) (by rw [List.length_drop]; omega)]
    simp
  · have hp2 : p = ps.length := by have := h.le; omega
    subst hp2
    rw [addP_last rfl (by rw [e0]), e0]
    simp
theorem nthP_mem {ps : List (List Int × Int)} {k : Nat} (h : k < ps.length) : nthP ps k ∈ ps := by rw [nthP_lt h]; exact List.getElem_mem h
/-- In an ascending list each shape has its place. -/
theorem place_of (ps : List (List Int × Int)) (hs : Srt ps) (s : List Int) : ∃ p, Place ps s p := by
  have key : ∀ m, m ≤ ps.length → (∀ i, ps.length - m ≤ i → i < ps.length → lexLt (nthP ps i).1 s = false) → ∃ p, Place ps s p := by
    intro m
    induction hq : ps.length - m generalizing m with
    | zero => intro hm h; exact ⟨0, Nat.zero_le _, fun i hi => by omega, fun i _ hi => h i (by omega) hi⟩
    | succ q ih =>
      intro hm h
      rcases hl : lexLt (nthP ps q).1 s with _ | _
      · refine ih (m + 1) (by omega) (by omega) fun i h1 h2 => ?_
        by_cases e : i = q
        · subst e; exact hl
        · exact h i (by omega) h2
      · refine ⟨q + 1, by omega, fun i hi => ?_, fun i h1 h2 => h i (by omega) h2⟩
        by_cases e : i = q
        · subst e; exact hl
        · exact lex_trans (hs i q (by omega) (by omega)) hl
  exact key 0 (Nat.zero_le _) fun i h1 h2 => by omega

/-- Strictly ascending, as a chain. -/
theorem srt_mid {xs ys : List (List Int × Int)} {s : List Int} {n : Int} (h1 : Srt xs) (h2 : Srt ys) (h3 : ∀ x ∈ xs, lexLt x.1 s = true) (h4 : ∀ y ∈ ys, lexLt s y.1 = true) : Srt (xs ++ [(s, n)] ++ ys) := by
  have at1 : ∀ i, i < xs.length → nthP (xs ++ [(s, n)] ++ ys) i = nthP xs i := fun i hi => by
    simp [nthP, List.getD, List.getElem?_append_left hi]
  have at2 : nthP (xs ++ [(s, n)] ++ ys) xs.length = (s, n) := by
    simp [nthP, List.getD]
  have at3 : ∀ i, nthP (xs ++ [(s, n)] ++ ys) (xs.length + 1 + i) = nthP ys i := fun i => by
    have : (xs ++ [(s, n)]).length ≤ xs.length + 1 + i := by simp
    unfold nthP List.getD
    rw [List.getElem?_append_right this]
    simp
  intro i j hij hj
  have hlen : (xs ++ [(s, n)] ++ ys).length = xs.length + 1 + ys.length := by simp; omega
  rw [hlen] at hj
  rcases Nat.lt_trichotomy j xs.length with h | h | h
  · rw [at1 i (by omega), at1 j h]; exact h1 i j hij h
  · subst h
    rw [at1 i hij, at2]
    exact h3 _ (nthP_mem hij)
  · obtain ⟨b, rfl⟩ : ∃ b, j = xs.length + 1 + b := ⟨j - (xs.length + 1), by omega⟩
    rw [at3 b]
    have hb : b < ys.length := by omega
    rcases Nat.lt_trichotomy i xs.length with g | g | g
    · rw [at1 i g]; exact lex_trans (h3 _ (nthP_mem g)) (h4 _ (nthP_mem hb))
    · subst g; rw [at2]; exact h4 _ (nthP_mem hb)
    · obtain ⟨a, rfl⟩ : ∃ a, i = xs.length + 1 + a := ⟨i - (xs.length + 1), by omega⟩
      rw [at3 a]
      exact h2 a b (by omega) hb
theorem srt_take {ps : List (List Int × Int)} (h : Srt ps) (p : Nat) : Srt (ps.take p) := by
  intro i j hij hj
  rw [List.length_take] at hj
  have e : ∀ k, k < p → nthP (ps.take p) k = nthP ps k := fun k hk => by simp [nthP, List.getD, List.getElem?_take, hk]
  rw [e i (by omega), e j (by omega)]
  exact h i j hij (by omega)
theorem srt_drop {ps : List (List Int × Int)} (h : Srt ps) (p : Nat) : Srt (ps.drop p) := by
  intro i j hij hj
  rw [List.length_drop] at hj
  have e : ∀ k, nthP (ps.drop p) k = nthP ps (p + k) := fun k => by simp [nthP, List.getD, List.getElem?_drop]
  rw [e i, e j]
  exact h _ _ (by omega) (by omega)
theorem mem_take_nthP {ps : List (List Int × Int)} {p : Nat} {x : List Int × Int} (h : x ∈ ps.take p) : ∃ i, i < p ∧ i < ps.length ∧ nthP ps i = x := by
  obtain ⟨i, hi, e⟩ := List.getElem_of_mem h
  rw [List.length_take] at hi
  refine ⟨i, by omega, by omega, ?_⟩
  rw [nthP_lt (by omega), ← e, List.getElem_take]
theorem mem_drop_nthP {ps : List (List Int × Int)} {p : Nat} {x : List Int × Int} (h : x ∈ ps.drop p) : ∃ i, p ≤ i ∧ i < ps.length ∧ nthP ps i = x := by
  obtain ⟨i, hi, e⟩ := List.getElem_of_mem h
  rw [List.length_drop] at hi
  refine ⟨p + i, by omega, by omega, ?_⟩
  rw [nthP_lt (by omega), ← e, List.getElem_drop]
theorem place_mid {ps : List (List Int × Int)} {s : List Int} {p : Nat} {n : Int} (hs : Srt ps) (h : Place ps s p) (hf : p < ps.length → (nthP ps p).1 ≠ s) : Srt (ps.take p ++ [(s, n)] ++ ps.drop p) := by
  refine srt_mid (srt_take hs p) (srt_drop hs p) (fun x hx => ?_) (fun y hy => ?_)
  · obtain ⟨i, h1, h2, rfl⟩ := mem_take_nthP hx
    exact h.lo i h1
  · obtain ⟨i, h1, h2, rfl⟩ := mem_drop_nthP hy
    refine lex_total (h.hi i h1 h2) fun e => ?_
    rcases Nat.lt_or_ge p i with hpi | hpi
    · have := hs p i hpi h2
      rw [e] at this
      have h3 := h.hi p (Nat.le_refl _) (by omega)
      rw [this] at h3; cases h3
    · obtain rfl : i = p := by omega
      exact hf h2 e
theorem place_set {ps : List (List Int × Int)} {s : List Int} {p : Nat} {n : Int} (hs : Srt ps) (h : Place ps s p) (hp : p < ps.length) (he : (nthP ps p).1 = s) : Srt (ps.take p ++ [(s, n)] ++ ps.drop (p + 1)) := by
  refine srt_mid (srt_take hs p) (srt_drop hs (p + 1)) (fun x hx => ?_) (fun y hy => ?_)
  · obtain ⟨i, h1, h2, rfl⟩ := mem_take_nthP hx
    exact h.lo i h1
  · obtain ⟨i, h1, h2, rfl⟩ := mem_drop_nthP hy
    rw [← he]
    exact hs p i (by omega) h2
/-- What adding one leaves: ascending; the counts grow by one at most; each shape is an old one or the new one. -/
structure Grows (ps : List (List Int × Int)) (N : Int) : Prop where
  srt : Srt ps
  len : (ps.length : Int) ≤ N
  cnt : ∀ x ∈ ps, 1 ≤ x.2 ∧ x.2 ≤ N
theorem grows_nil : Grows [] 0 := ⟨fun i j _ h => by simp at h, by simp, fun x h => by simp at h⟩
theorem Grows.add {ps : List (List Int × Int)} {N : Int} (h : Grows ps N) (s : List Int) : Grows (addP ps s 1) (N + 1) := by
  obtain ⟨p, hp⟩ := place_of ps h.srt s
  have hle := hp.le
  have hl := h.len
  by_cases hf : p < ps.length ∧ (nthP ps p).1 = s
  · have hc := h.cnt _ (nthP_mem hf.1)
    rw [addP_found (by omega) hp.lo hf.1 hf.2 (by omega)]
    refine ⟨place_set h.srt hp hf.1 hf.2, by simp; omega, fun x hx => ?_⟩
    rw [List.append_assoc, List.mem_append, List.mem_append, List.mem_singleton] at hx
    rcases hx with hx | rfl | hx
    · have := h.cnt x (List.mem_of_mem_take hx); omega
    · simp only; omega
    · have := h.cnt x (List.mem_of_mem_drop hx); omega
  · have hf2 : p < ps.length → (nthP ps p).1 ≠ s := fun h1 h2 => hf ⟨h1, h2⟩
    rw [addP_new (by omega) hp hf2]
    refine ⟨place_mid h.srt hp hf2, by simp; omega, fun x hx => ?_⟩
    rw [List.append_assoc, List.mem_append, List.mem_append, List.mem_singleton] at hx
    rcases hx with hx | rfl | hx
    · have := h.cnt x (List.mem_of_mem_take hx); omega
    · have : (0 : Int) ≤ N := by omega
      simp only; omega
    · have := h.cnt x (List.mem_of_mem_drop hx); omega
theorem addP_shapes {ps : List (List Int × Int)} {s : List Int} (hs : Srt ps) (hc : ∀ x ∈ ps, 1 ≤ x.2) {x : List Int × Int} (hx : x ∈ addP ps s 1) : x.1 = s ∨ ∃ y ∈ ps, y.1 = x.1 := by
  obtain ⟨p, hp⟩ := place_of ps hs s
  by_cases hf : p < ps.length ∧ (nthP ps p).1 = s
  · rw [addP_found (by omega) hp.lo hf.1 hf.2 (by have := hc _ (nthP_mem hf.1); omega)] at hx
    rw [List.append_assoc, List.mem_append, List.mem_append, List.mem_singleton] at hx
    rcases hx with hx | rfl | hx
    · exact .inr ⟨x, List.mem_of_mem_take hx, rfl⟩
    · exact .inl rfl
    · exact .inr ⟨x, List.mem_of_mem_drop hx, rfl⟩
  · rw [addP_new (by omega) hp (fun h1 h2 => hf ⟨h1, h2⟩)] at hx
    rw [List.append_assoc, List.mem_append, List.mem_append, List.mem_singleton] at hx
    rcases hx with hx | rfl | hx
    · exact .inr ⟨x, List.mem_of_mem_take hx, rfl⟩
    · exact .inl rfl
    · exact .inr ⟨x, List.mem_of_mem_drop hx, rfl⟩
end Go.Proofs.Yteodckkkjhapgaa
