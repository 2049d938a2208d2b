/- Puzzles with three sides, turned and reflected: as many. Plain. -/
import Derived.Test.YtnljlophgolejaaPzFinT1
import Derived.Test.YtnljlophgolejaaPzFinT2
import Derived.Test.YtnljlophgolejaaPzFinT3
import Derived.Test.YtnljlophgolejaaPzFinT4
namespace Go.Proofs.Ytnljlophgolejaa

theorem chkT_n {n : Nat} (h : n ≤ 6) {a b : List Int} (ha : a ∈ strs n) (hb : b ∈ strs n) (hab : alikeB a b = true) {c : List Int} (hc : c ∈ thirds n a b) :
    (thirds n b a).count c = (thirds n a b).count c ∧ (thirds n c.reverse a).count b.reverse = (thirds n a b).count c ∧ (thirds n (cmpl b) (cmpl a)).count (cmpl c) = (thirds n a b).count c := by
  have fin : ∀ xs, chkA n xs = true → a ∈ xs → (thirds n b a).count c = (thirds n a b).count c ∧ (thirds n c.reverse a).count b.reverse = (thirds n a b).count c ∧ (thirds n (cmpl b) (cmpl a)).count (cmpl c) = (thirds n a b).count c := fun xs h1 hx => by
    unfold chkA at h1
    rw [List.all_eq_true] at h1
    have h2 := h1 a hx
    rw [List.all_eq_true] at h2
    have h3 := h2 b hb
    rw [if_pos hab, List.all_eq_true] at h3
    have h4 := h3 c hc
    rw [Bool.and_eq_true, Bool.and_eq_true, decide_eq_true_eq, decide_eq_true_eq, decide_eq_true_eq] at h4
    exact h4
  have hn : n = 0 ∨ n = 1 ∨ n = 2 ∨ n = 3 ∨ n = 4 ∨ n = 5 ∨ n = 6 := by omega
  rcases hn with rfl | rfl | rfl | rfl | rfl | rfl | rfl
  · have := (isStrB_iff.1 (by unfold alikeB at hab; rw [Bool.and_eq_true] at hab; exact hab.1)).1
    simp [strs] at ha
    subst ha
    simp at this
  · exact fin _ chkT1 ha
  · exact fin _ chkT2 ha
  · exact fin _ chkT3 ha
  · exact fin _ chkT4 ha
  · exact fin _ chkT5 ha
  · have e : strs 6 = ((strs 6).drop 0).take 16 ++ (((strs 6).drop 16).take 16 ++ (((strs 6).drop 32).take 16 ++ ((strs 6).drop 48).take 16)) := by decide +kernel
    rw [e] at ha
    rcases List.mem_append.1 ha with ha | ha
    · exact fin _ chkT6_1 ha
    rcases List.mem_append.1 ha with ha | ha
    · exact fin _ chkT6_2 ha
    rcases List.mem_append.1 ha with ha | ha
    · exact fin _ chkT6_3 ha
    · exact fin _ chkT6_4 ha
def chkC (n : Nat) (a : List Int) : Bool := decide (sumL a.reverse = sumL a) && (decide (sumL (cmpl a) = n - sumL a) && ((decide (n = 0) || (isStrB a.reverse && isStrB (cmpl a))) && (decide (cmpl (cmpl a) = a) && decide ((cmpl a).length = n))))
theorem chkC_all : ((List.range 7).all fun n => (strs n).all fun a => chkC n a) = true := by decide +kernel
theorem flips {a : List Int} (h : isStrB a = true) (h6 : a.length ≤ 6) : sumL a.reverse = sumL a ∧ sumL (cmpl a) = a.length - sumL a ∧ isStrB a.reverse = true ∧ isStrB (cmpl a) = true ∧ cmpl (cmpl a) = a ∧ (cmpl a).length = a.length := by
  have h1 := chkC_all
  rw [List.all_eq_true] at h1
  have h2 := h1 a.length (by rw [List.mem_range]; omega)
  rw [List.all_eq_true] at h2
  have h3 := h2 a (str_strs h)
  unfold chkC at h3
  simp only [Bool.and_eq_true, Bool.or_eq_true, decide_eq_true_eq] at h3
  have hl := (isStrB_iff.1 h).1
  obtain ⟨e1, e2, e3, e4, e5⟩ := h3
  have e3 := e3.resolve_left (by omega)
  exact ⟨e1, e2, e3.1, e3.2, e4, e5⟩
theorem alike_of {a b : List Int} (h1 : isStrB a = true) (h2 : isStrB b = true) (h3 : a.length = b.length) (h4 : sumL a = sumL b) : alikeB a b = true := by
  simp [alikeB, h1, h2, h3, h4]
theorem alike_flip {a b : List Int} (h : alikeB a b = true) : alikeB b a = true := by
  obtain ⟨h1, h2, h3, h4⟩ := alike_str h
  exact alike_of h2 h1 h3.symm h4.symm
theorem alike_two {a b c : List Int} (h : alikeB a b = true) (h' : alikeB a c = true) : alikeB b c = true := by
  obtain ⟨h1, h2, h3, h4⟩ := alike_str h
  obtain ⟨-, h6, h7, h8⟩ := alike_str h'
  exact alike_of h2 h6 (h3.symm.trans h7) (h4.symm.trans h8)
theorem alike_not {a b c : List Int} : (alikeB a b = true ∧ alikeB a c = true) ↔ (alikeB b a = true ∧ alikeB b c = true) :=
  ⟨fun ⟨h1, h2⟩ => ⟨alike_flip h1, alike_two h1 h2⟩, fun ⟨h1, h2⟩ => ⟨alike_flip h1, alike_two h1 h2⟩⟩
theorem cnt_fold (n : Nat) (c : List Int) : ∀ (l : List PZ) (s : Int), l.foldl (cntS n c) s = s + ((l.map fun p => sideB n p.2.2 n).count c : Nat)
  | [], s => by simp
  | p :: l, s => by
    rw [List.foldl_cons, cnt_fold n c l, List.map_cons, List.count_cons, cntS]
    by_cases h : sideB n p.2.2 n = c
    · rw [if_pos h, if_pos (by simpa using h)]; omega
    · rw [if_neg h, if_neg (by simpa using h)]; omega
theorem cntPz_thirds {a b c : List Int} (h1 : alikeB a b = true) (h2 : alikeB a c = true) : cntPz a b c = ((thirds a.length a b).count c : Nat) := by
  rw [cntPz, if_pos ⟨h1, h2⟩, cnt_fold, thirds, Int.zero_add]
theorem cnt_none {l : List (List Int)} {c : List Int} (h : c ∉ l) : l.count c = 0 := List.count_eq_zero.2 h
theorem thirds_swap {a b : List Int} (c : List Int) (h1 : alikeB a b = true) (h6 : a.length ≤ 6) : (thirds a.length b a).count c = (thirds a.length a b).count c := by
  obtain ⟨s1, s2, s3, s4⟩ := alike_str h1
  have ma := str_strs s1
  have mb := str_strs s2
  rw [← s3] at mb
  by_cases hc : c ∈ thirds a.length a b
  · exact (chkT_n h6 ma mb h1 hc).1
  · by_cases hc2 : c ∈ thirds a.length b a
    · exact (chkT_n h6 mb ma (alike_flip h1) hc2).1.symm
    · rw [cnt_none hc, cnt_none hc2]
section
variable {a b c : List Int} (h1 : alikeB a b = true) (h2 : alikeB a c = true) (h6 : a.length ≤ 6)
include h1 h2 h6
theorem thirds_turn : (thirds a.length c.reverse a).count b.reverse = (thirds a.length a b).count c := by
  obtain ⟨s1, s2, s3, s4⟩ := alike_str h1
  obtain ⟨-, t2, t3, t4⟩ := alike_str h2
  have fa := flips s1 h6
  have fb := flips s2 (by omega)
  have fc := flips t2 (by omega)
  have ma := str_strs s1
  have mb := str_strs s2
  rw [← s3] at mb
  have mc := str_strs fc.2.2.1
  rw [List.length_reverse, ← t3] at mc
  have k1 : alikeB c.reverse a = true := alike_of fc.2.2.1 s1 (by rw [List.length_reverse]; omega) (by rw [fc.1]; omega)
  have k2 : alikeB b c.reverse = true := alike_of s2 fc.2.2.1 (by rw [List.length_reverse]; omega) (by rw [fc.1]; omega)
  by_cases hc : c ∈ thirds a.length a b
  · exact (chkT_n h6 ma mb h1 hc).2.1
  · rw [cnt_none hc]
    by_cases hb : b.reverse ∈ thirds a.length c.reverse a
    · have e1 := (chkT_n h6 mc ma k1 hb).2.1
      rw [List.reverse_reverse] at e1
      by_cases hr : a.reverse ∈ thirds a.length b c.reverse
      · have e2 := (chkT_n h6 mb mc k2 hr).2.1
        rw [List.reverse_reverse, List.reverse_reverse] at e2
        rw [← e1, ← e2, cnt_none hc]
      · rw [← e1, cnt_none hr]
    · exact cnt_none hb
theorem thirds_mirror : (thirds a.length (cmpl b) (cmpl a)).count (cmpl c) = (thirds a.length a b).count c := by
  obtain ⟨s1, s2, s3, s4⟩ := alike_str h1
  obtain ⟨-, t2, t3, t4⟩ := alike_str h2
  have fa := flips s1 h6
  have fb := flips s2 (by omega)
  have fc := flips t2 (by omega)
  obtain ⟨-, a2, a3, a4, a5, a6⟩ := fa
  obtain ⟨-, b2, b3, b4, b5, b6⟩ := fb
  obtain ⟨-, c2, c3, c4, c5, c6⟩ := fc
  have ma := str_strs s1
  have mb := str_strs s2
  rw [← s3] at mb
  have na := str_strs a4
  rw [a6] at na
  have nb := str_strs b4
  rw [b6, ← s3] at nb
  have k1 : alikeB (cmpl b) (cmpl a) = true := alike_of b4 a4 (by omega) (by omega)
  by_cases hc : c ∈ thirds a.length a b
  · exact (chkT_n h6 ma mb h1 hc).2.2
  · rw [cnt_none hc]
    by_cases hb : cmpl c ∈ thirds a.length (cmpl b) (cmpl a)
    · have e1 := (chkT_n h6 nb na k1 hb).2.2
      rw [a5, b5, c5, cnt_none hc] at e1
      exact e1.symm
    · exact cnt_none hb
/-- Turned and reflected: as many. -/
theorem turns : cntPz b a c = cntPz a b c ∧ cntPz c.reverse a b.reverse = cntPz a b c ∧ cntPz (cmpl b) (cmpl a) (cmpl c) = cntPz a b c ∧ 0 ≤ cntPz a b c := by
  obtain ⟨s1, s2, s3, s4⟩ := alike_str h1
  obtain ⟨-, t2, t3, t4⟩ := alike_str h2
  obtain ⟨a1, a2, a3, a4, a5, a6⟩ := flips s1 h6
  obtain ⟨b1, b2, b3, b4, b5, b6⟩ := flips s2 (by omega)
  obtain ⟨c1, c2, c3, c4, c5, c6⟩ := flips t2 (by omega)
  rw [cntPz_thirds h1 h2]
  refine ⟨?_, ?_, ?_, by omega⟩
  · rw [cntPz_thirds (alike_flip h1) (alike_two h1 h2), ← s3, thirds_swap c h1 h6]
  · rw [cntPz_thirds (alike_of c3 s1 (by rw [List.length_reverse]; omega) (by rw [c1]; omega)) (alike_of c3 b3 (by rw [List.length_reverse, List.length_reverse]; omega) (by rw [c1, b1]; omega)), List.length_reverse, ← t3, thirds_turn h1 h2 h6]
  · rw [cntPz_thirds (alike_of b4 a4 (by omega) (by omega)) (alike_of b4 c4 (by omega) (by omega)), b6, ← s3, thirds_mirror h1 h2 h6]
end
theorem turns_no {a b c : List Int} (h : ¬ (alikeB a b = true ∧ alikeB a c = true)) : cntPz a b c = -1 ∧ cntPz b a c = -1 := by
  rw [cntPz, if_neg h, cntPz, if_neg fun h2 => h (alike_not.2 h2)]
  exact ⟨rfl, rfl⟩
end Go.Proofs.Ytnljlophgolejaa
