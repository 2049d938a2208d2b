/- Quantum products of three, in whatever order: what the checks say. Plain. -/
import Derived.Test.YtbemglmnnehllaaQRingB
namespace Go.Proofs.Ytbemglmnnehllaa

/-- Counts are positive. -/
def PosL (l : List (List Int × Int)) : Prop := ∀ x ∈ l, 1 ≤ x.2
theorem addLR_eq {p cn : Int} (h : 1 ≤ cn) : ∀ (l acc : List (List Int × Int)), PosL l → addLR p cn l acc = addL p cn l acc
  | [], _, _ => rfl
  | y :: r, acc, hl => by
    have h1 := hl y List.mem_cons_self
    have h2 : 1 ≤ cn * y.2 := by
      have := Int.mul_le_mul h h1 (by omega) (by omega)
      omega
    rw [addLR, addL, addLR_eq h r _ fun z hz => hl z (List.mem_cons_of_mem _ hz), addP_rec (by omega)]
theorem mulF_eq {c : List Int} {k n : Int} : ∀ (l acc : List (List Int × Int)), PosL l → (∀ x ∈ l, PosL (qpB x.1.tail c k n)) → mulF c k n l acc = mulL c k n l acc
  | [], _, _, _ => rfl
  | x :: r, acc, h1, h2 => by
    rw [mulF, frcL_eq, mulL, addLR_eq (h1 x List.mem_cons_self) _ _ (h2 x List.mem_cons_self)]
    exact mulF_eq r _ (fun z hz => h1 z (List.mem_cons_of_mem _ hz)) fun z hz => h2 z (List.mem_cons_of_mem _ hz)
theorem boxF_at {K M : Nat} (h : 2 ≤ K + M ∧ K + M ≤ 6) (hK : 1 ≤ K) : boxF K M = true := by
  by_cases h5 : K + M ≤ 5
  · have h1 := boxF_small
    rw [List.all_eq_true] at h1
    have h2 := h1 K (by rw [List.mem_range]; omega)
    rw [List.all_eq_true] at h2
    have h3 := h2 M (by rw [List.mem_range]; omega)
    rw [Bool.or_eq_true, decide_eq_true_eq] at h3
    exact h3.resolve_left (by omega)
  · have hc : (K = 1 ∧ M = 5) ∨ (K = 2 ∧ M = 4) ∨ (K = 3 ∧ M = 3) ∨ (K = 4 ∧ M = 2) ∨ (K = 5 ∧ M = 1) ∨ (K = 6 ∧ M = 0) := by omega
    rcases hc with ⟨rfl, rfl⟩ | ⟨rfl, rfl⟩ | ⟨rfl, rfl⟩ | ⟨rfl, rfl⟩ | ⟨rfl, rfl⟩ | ⟨rfl, rfl⟩
    · exact boxF_15
    · exact boxF_24
    · exact boxF_33
    · exact boxF_42
    · exact boxF_51
    · exact boxF_60
theorem box_mem {K M : Nat} {t : List Int} (ht : inBoxB t K ((K : Int) + M) = true) : t ∈ shapesIn K M := by
  refine shIn_mem K M t ?_
  obtain ⟨h1, h2, h3, h4⟩ := inBoxB_iff.1 ht
  refine ⟨by omega, fun j hj => ?_, fun j hj => ?_⟩
  · have h5 := shape_desc h2 j
    unfold isShapeB at h2
    rw [Bool.and_eq_true] at h2
    have h6 := shapeAt_iff.1 (allB_at h2.2 hj)
    omega
  · unfold isShapeB at h2
    rw [Bool.and_eq_true] at h2
    have h6 := (shapeAt_iff.1 (allB_at h2.2 hj)).2 (by omega)
    simpa using h6
section
variable {K M : Nat} (h : 2 ≤ K + M ∧ K + M ≤ 6) (hK : 1 ≤ K)
include h hK
theorem two_mem {a b : List Int} (ha : a ∈ shapesIn K M) (hb : b ∈ shapesIn K M) : twoF K ((K : Int) + M) a b = true := by
  have h1 := boxF_at h hK
  unfold boxF at h1
  rw [Bool.and_eq_true, List.all_eq_true] at h1
  have h2 := h1.1 a ha
  rw [frcL_eq, List.all_eq_true] at h2
  have h3 := h2 b hb
  rwa [frcL_eq] at h3
theorem two_at {a b : List Int} (ha : a ∈ shapesIn K M) (hb : b ∈ shapesIn K M) :
    qpB a b K ((K : Int) + M) = qpB b a K ((K : Int) + M) ∧ (qpB a b K ((K : Int) + M)).length ≤ 100 ∧ ∀ x ∈ qpB a b K ((K : Int) + M), (1 ≤ x.2 ∧ x.2 ≤ 100) ∧ (0 ≤ x.1.headD 0 ∧ x.1.headD 0 ≤ 100) ∧ x.1 ≠ [] ∧ inBoxB x.1.tail K ((K : Int) + M) = true := by
  have h1 := two_mem h hK ha hb
  unfold twoF at h1
  simp only [Bool.and_eq_true, decide_eq_true_eq, List.all_eq_true] at h1
  exact h1
theorem pos_at {a b : List Int} (ha : a ∈ shapesIn K M) (hb : b ∈ shapesIn K M) : PosL (qpB a b K ((K : Int) + M)) := fun x hx => ((two_at h hK ha hb).2.2 x hx).1.1
theorem mul3F_at {a b c : List Int} (ha : a ∈ shapesIn K M) (hb : b ∈ shapesIn K M) (hc : c ∈ shapesIn K M) : mul3F a b c K ((K : Int) + M) = mul3 a b c K ((K : Int) + M) := by
  rw [mul3F, frcL_eq, frcL_eq, frcL_eq, mul3]
  exact mulF_eq _ _ (pos_at h hK ha hb) fun x hx => pos_at h hK (box_mem ((two_at h hK ha hb).2.2 x hx).2.2.2) hc
end
/-- Three in whatever order. -/
def Eq3 (k n : Int) (a b c : List Int) : Prop := mul3F a b c k n = mul3F b c a k n ∧ mul3F a c b k n = mul3F b c a k n
theorem two3_mem {k n : Int} {a : List Int} : ∀ {l : List (List Int)}, two3F k n a l = true → ∀ b ∈ l, ∀ c ∈ l, Eq3 k n a b c ∨ Eq3 k n a c b
  | [], _, b, hb, _, _ => by cases hb
  | x :: r, h, b, hb, c, hc => by
    rw [two3F, Bool.and_eq_true, List.all_eq_true] at h
    have key : ∀ c ∈ x :: r, Eq3 k n a x c := fun c hc => by
      have h1 := h.1 c hc
      unfold one3F at h1
      rw [Bool.and_eq_true, decide_eq_true_eq, decide_eq_true_eq] at h1
      exact h1
    rcases List.mem_cons.1 hb with rfl | hb'
    · exact .inl (key c hc)
    · rcases List.mem_cons.1 hc with rfl | hc'
      · exact .inr (key b hb)
      · exact two3_mem h.2 b hb' c hc'
/-- Where the first two may be exchanged, the order of three does not count. -/
theorem all3_mem {k n : Int} : ∀ {l : List (List Int)}, (∀ a ∈ l, ∀ b ∈ l, ∀ c, mul3F a b c k n = mul3F b a c k n) → all3F k n l = true → ∀ a ∈ l, ∀ b ∈ l, ∀ c ∈ l, mul3F a b c k n = mul3F b c a k n
  | [], _, _, a, ha, _, _, _, _ => by cases ha
  | x :: r, hs, h, a, ha, b, hb, c, hc => by
    rw [all3F, Bool.and_eq_true] at h
    have key : ∀ b ∈ x :: r, ∀ c ∈ x :: r, mul3F x b c k n = mul3F b c x k n ∧ mul3F x c b k n = mul3F b c x k n := fun b hb c hc => by
      rcases two3_mem h.1 b hb c hc with h1 | h1
      · exact h1
      · obtain ⟨h2, h3⟩ := h1
        have e := hs b hb c hc x
        exact ⟨by rw [h3, e], by rw [h2, e]⟩
    have hx : x ∈ x :: r := List.mem_cons_self
    by_cases h1 : a = x
    · rw [h1]; exact (key b hb c hc).1
    · by_cases h2 : b = x
      · rw [h2, hs a ha x hx c, (key a ha c hc).1, (key a ha c hc).2]
      · by_cases h3 : c = x
        · rw [h3, hs b hb x hx a, (key a ha b hb).2]
        · have ra := (List.mem_cons.1 ha).resolve_left h1
          have rb := (List.mem_cons.1 hb).resolve_left h2
          have rc := (List.mem_cons.1 hc).resolve_left h3
          exact all3_mem (fun a ha b hb c => hs a (List.mem_cons_of_mem _ ha) b (List.mem_cons_of_mem _ hb) c) h.2 a ra b rb c rc
/-- The order of three does not count. -/
theorem ring_at {K M : Nat} {a b c : List Int} (h : 2 ≤ K + M ∧ K + M ≤ 6) (hK : 1 ≤ K) (ha : a ∈ shapesIn K M) (hb : b ∈ shapesIn K M) (hc : c ∈ shapesIn K M) : mul3 a b c K ((K : Int) + M) = mul3 b c a K ((K : Int) + M) := by
  have h1 := boxF_at h hK
  unfold boxF at h1
  rw [Bool.and_eq_true] at h1
  rw [← mul3F_at h hK ha hb hc, ← mul3F_at h hK hb hc ha]
  refine all3_mem (fun x hx y hy z => ?_) h1.2 a ha b hb c hc
  rw [mul3F, frcL_eq, frcL_eq, frcL_eq, mul3F, frcL_eq, frcL_eq, frcL_eq, (two_at h hK hx hy).1]
theorem mulL_app {c : List Int} {k n : Int} (x : List Int × Int) : ∀ (l acc : List (List Int × Int)), mulL c k n (l ++ [x]) acc = addL (x.1.headD 0) x.2 (qpB x.1.tail c k n) (mulL c k n l acc)
  | [], _ => rfl
  | y :: r, acc => by rw [List.cons_append, mulL, mulL_app x r, mulL]
theorem addL_app {p cn : Int} (y : List Int × Int) : ∀ (l acc : List (List Int × Int)), addL p cn (l ++ [y]) acc = addP (addL p cn l acc) ((p + y.1.headD 0) :: y.1.tail) (cn * y.2)
  | [], _ => rfl
  | z :: r, acc => by rw [List.cons_append, addL, addL_app y r, addL]
/-- How large a sum may be behind t additions. -/
def UpA (t : Nat) (acc : List (List Int × Int)) : Prop := acc.length ≤ t ∧ ∀ x ∈ acc, x.1 ≠ [] ∧ x.1.length ≤ 17 ∧ -((t : Int) * 10000) ≤ x.2 ∧ x.2 ≤ (t : Int) * 10000
theorem UpA.nil : UpA 0 [] := ⟨Nat.le_refl _, fun x h => by cases h⟩
theorem addR_mem {s : List Int} {n : Int} : ∀ {ps : List (List Int × Int)} {x : List Int × Int}, x ∈ addR ps s n → x ∈ ps ∨ (x.1 = s ∧ (x.2 = n ∨ ∃ y ∈ ps, x.2 = y.2 + n))
  | [], x, h => by simp [addR] at h; rw [h]; exact .inr ⟨rfl, .inl rfl⟩
  | y :: r, x, h => by
    rw [addR] at h
    split at h
    · rcases List.mem_cons.1 h with h | h
      · exact .inl (by rw [h]; simp)
      · rcases addR_mem h with h | ⟨h1, h2⟩
        · exact .inl (List.mem_cons_of_mem _ h)
        · exact .inr ⟨h1, h2.imp id fun ⟨z, hz, e⟩ => ⟨z, List.mem_cons_of_mem _ hz, e⟩⟩
    · split at h
      · split at h
        · exact .inl (List.mem_cons_of_mem _ h)
        · rcases List.mem_cons.1 h with h | h
          · exact .inr ⟨by rw [h], .inr ⟨y, List.mem_cons_self, by rw [h]⟩⟩
          · exact .inl (List.mem_cons_of_mem _ h)
      · rcases List.mem_cons.1 h with h | h
        · exact .inr ⟨by rw [h], .inl (by rw [h])⟩
        · exact .inl h
theorem addR_len {s : List Int} {n : Int} : ∀ (ps : List (List Int × Int)), (addR ps s n).length ≤ ps.length + 1
  | [] => by simp [addR]
  | y :: r => by
    have := addR_len (s := s) (n := n) r
    rw [addR]
    repeat' split
    all_goals simp <;> omega
theorem UpA.next {t : Nat} {acc : List (List Int × Int)} {q n : Int} {s : List Int} (h : UpA t acc) (h0 : n ≠ 0) (h1 : -10000 ≤ n ∧ n ≤ 10000) (hs : s.length ≤ 16) : UpA (t + 1) (addP acc (q :: s) n) := by
  rw [addP_rec h0]
  refine ⟨?_, fun x hx => ?_⟩
  · have := addR_len (s := q :: s) (n := n) acc
    have := h.1
    omega
  · rcases addR_mem hx with h2 | ⟨h2, h3⟩
    · have := h.2 x h2
      exact ⟨this.1, this.2.1, by omega, by omega⟩
    · refine ⟨by rw [h2]; simp, by rw [h2]; simp; omega, ?_⟩
      rcases h3 with h3 | ⟨y, hy, h3⟩
      · omega
      · have := h.2 y hy
        omega
theorem addPn_len (ps : List (List Int × Int)) (s : List Int) (n : Int) : (addP ps s n).length ≤ ps.length + 1 := by
  obtain ⟨h1, h2⟩ := addUp_len ps s n ps.length
  unfold addP
  rcases hd : (addUp ps s n ps.length).2 with _ | _
  · have := h2 hd
    simp; omega
  · simpa using h1
theorem addL_len {p cn : Int} : ∀ (l acc : List (List Int × Int)), (addL p cn l acc).length ≤ acc.length + l.length
  | [], acc => by simp [addL]
  | y :: r, acc => by
    have h1 := addL_len (p := p) (cn := cn) r (addP acc ((p + y.1.headD 0) :: y.1.tail) (cn * y.2))
    have h2 : (addP acc ((p + y.1.headD 0) :: y.1.tail) (cn * y.2)).length ≤ acc.length + 1 := addPn_len _ _ _
    rw [addL, List.length_cons]
    omega
theorem mulL_len {c : List Int} {k n : Int} {B : Nat} : ∀ (l acc : List (List Int × Int)), (∀ x ∈ l, (qpB x.1.tail c k n).length ≤ B) → (mulL c k n l acc).length ≤ acc.length + l.length * B
  | [], acc, _ => by simp [mulL]
  | x :: r, acc, h => by
    have h1 := mulL_len r (addL (x.1.headD 0) x.2 (qpB x.1.tail c k n) acc) fun z hz => h z (List.mem_cons_of_mem _ hz)
    have h2 := addL_len (p := x.1.headD 0) (cn := x.2) (qpB x.1.tail c k n) acc
    have h3 := h x List.mem_cons_self
    rw [mulL, List.length_cons, Nat.add_mul, Nat.one_mul]
    omega
theorem mul_len {c : List Int} {k n : Int} {l : List (List Int × Int)} (h : l.length ≤ 100) (hx : ∀ x ∈ l, (qpB x.1.tail c k n).length ≤ 100) : (mulL c k n l []).length ≤ 10000 := by
  have h1 := mulL_len l [] hx
  simp only [List.length_nil] at h1
  have h2 : l.length * 100 ≤ 100 * 100 := Nat.mul_le_mul_right _ h
  omega
end Go.Proofs.Ytbemglmnnehllaa
