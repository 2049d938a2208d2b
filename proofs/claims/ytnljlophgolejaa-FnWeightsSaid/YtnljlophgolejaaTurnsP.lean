/- Puzzles with three sides, turned and reflected: as many. Plain. -/
import Derived.Test.YtnljlophgolejaaPzFinT1
import Derived.Test.YtnljlophgolejaaPzFinT2
import Derived.Test.YtnljlophgolejaaPzFinT3
import Derived.Test.YtnljlophgolejaaPzFinT4
import Derived.Test.YtnljlophgolejaaWtsP
import Derived.Test.YtnljlophgolejaaPzOf
import Derived.Test.YtnljlophgolejaaQDraw
import Derived.Test.YtnljlophgolejaaBytes
import Derived.ShutString
import Derived.ChangeOld
namespace Go.Proofs.Ytnljlophgolejaa

theorem chkT_n {n : Nat} (h : n ≤ 6) {a b : List Int} (ha : a ∈ strs n) (hb : b ∈ strs n) (hab : alikeB a b = true) {c : List Int} (hc : c ∈ thirds n a b) :
    (thirds n b a).count c = (thirds n a b).count c ∧ (thirds n c.reverse a).count b.reverse = (thirds n a b).count c ∧ (thirds n (cmpl b) (cmpl a)).count (cmpl c) = (thirds n a b).count c := by
  have fin : ∀ xs, chkA n xs = true → a ∈ xs → (thirds n b a).count c = (thirds n a b).count c ∧ (thirds n c.reverse a).count b.reverse = (thirds n a b).count c ∧ (thirds n (cmpl b) (cmpl a)).count (cmpl c) = (thirds n a b).count c := fun xs h1 hx => by
    unfold chkA at h1
    rw [List.all_eq_true] at h1
    have h2 := h1 a hx
    rw [List.all_eq_true] at h2
    have h3 := h2 b hb
    rw [if_pos hab, List.all_eq_true] at h3
    have h4 := h3 c hc
    rw [Bool.and_eq_true, Bool.and_eq_true, decide_eq_true_eq, decide_eq_true_eq, decide_eq_true_eq] at h4
    exact h4
  have hn : n = 0 ∨ n = 1 ∨ n = 2 ∨ n = 3 ∨ n = 4 ∨ n = 5 ∨ n = 6 := by omega
  rcases hn with rfl | rfl | rfl | rfl | rfl | rfl | rfl
  · have := (isStrB_iff.1 (by unfold alikeB at hab; rw [Bool.and_eq_true] at hab; exact hab.1)).1
    simp [strs] at ha
    subst ha
    simp at this
  · exact fin _ chkT1 ha
  · exact fin _ chkT2 ha
  · exact fin _ chkT3 ha
  · exact fin _ chkT4 ha
  · exact fin _ chkT5 ha
  · have e : strs 6 = ((strs 6).drop 0).take 16 ++ (((strs 6).drop 16).take 16 ++ (((strs 6).drop 32).take 16 ++ ((strs 6).drop 48).take 16)) := by decide +kernel
    rw [e] at ha
    rcases List.mem_append.1 ha with ha | ha
    · exact fin _ chkT6_1 ha
    rcases List.mem_append.1 ha with ha | ha
    · exact fin _ chkT6_2 ha
    rcases List.mem_append.1 ha with ha | ha
    · exact fin _ chkT6_3 ha
    · exact fin _ chkT6_4 ha
def chkC (n : Nat) (a : List Int) : Bool := decide (sumL a.reverse = sumL a) && (decide (sumL (cmpl a) = n - sumL a) && ((decide (n = 0) || (isStrB a.reverse && isStrB (cmpl a))) && (decide (cmpl (cmpl a) = a) && decide ((cmpl a).length = n))))
theorem chkC_all : ((List.range 7).all fun n => (strs n).all fun a => chkC n a) = true := by decide +kernel
theorem flips {a : List Int} (h : isStrB a = true) (h6 : a.length ≤ 6) : sumL a.reverse = sumL a ∧ sumL (cmpl a) = a.length - sumL a ∧ isStrB a.reverse = true ∧ isStrB (cmpl a) = true ∧ cmpl (cmpl a) = a ∧ (cmpl a).length = a.length := by
  have h1 := chkC_all
  rw [List.all_eq_true] at h1
  have h2 := h1 a.length (by rw [List.mem_range]; omega)
  rw [List.all_eq_true] at h2
  have h3 := h2 a (str_strs h)
  unfold chkC at h3
  simp only [Bool.and_eq_true, Bool.or_eq_true, decide_eq_true_eq] at h3
  have hl := (isStrB_iff.1 h).1
  obtain ⟨e1, e2, e3, e4, e5⟩ := h3
  have e3 := e3.resolve_left (by omega)
  exact ⟨e1, e2, e3.1, e3.2, e4, e5⟩
theorem alike_of {a b : List Int} (h1 : isStrB a = true) (h2 : isStrB b = true) (h3 : a.length = b.length) (h4 : sumL a = sumL b) : alikeB a b = true := by
  simp [alikeB, h1, h2, h3, h4]
theorem alike_flip {a b : List Int} (h : alikeB a b = true) : alikeB b a = true := by
  obtain ⟨h1, h2, h3, h4⟩ := alike_str h
  exact alike_of h2 h1 h3.symm h4.symm
theorem alike_two {a b c : List Int} (h : alikeB a b = true) (h' : alikeB a c = true) : alikeB b c = true := by
  obtain ⟨h1, h2, h3, h4⟩ := alike_str h
  obtain ⟨-, h6, h7, h8⟩ := alike_str h'
  exact alike_of h2 h6 (h3.symm.trans h7) (h4.symm.trans h8)
theorem alike_not {a b c : List Int} : (alikeB a b = true ∧ alikeB a c = true) ↔ (alikeB b a = true ∧ alikeB b c = true) :=
  ⟨fun ⟨h1, h2⟩ => ⟨alike_flip h1, alike_two h1 h2⟩, fun ⟨h1, h2⟩ => ⟨alike_flip h1, alike_two h1 h2⟩⟩
theorem cnt_fold (n : Nat) (c : List Int) : ∀ (l : List PZ) (s : Int), l.foldl (cntS n c) s = s + ((l.map fun p => sideB n p.2.2 n).count c : Nat)
  | [], s => by simp
  | p :: l, s => by
    rw [List.foldl_cons, cnt_fold n c l, List.map_cons, List.count_cons, cntS]
    by_cases h : sideB n p.2.2 n = c
    · rw [if_pos h, if_pos (by simpa using h)]; omega
    · rw [if_neg h, if_neg (by simpa using h)]; omega
theorem cntPz_thirds {a b c : List Int} (h1 : alikeB a b = true) (h2 : alikeB a c = true) : cntPz a b c = ((thirds a.length a b).count c : Nat) := by
  rw [cntPz, if_pos ⟨h1, h2⟩, cnt_fold, thirds, Int.zero_add]
theorem cnt_none {l : List (List Int)} {c : List Int} (h : c ∉ l) : l.count c = 0 := List.count_eq_zero.2 h
theorem thirds_swap {a b : List Int} (c : List Int) (h1 : alikeB a b = true) (h6 : a.length ≤ 6) : (thirds a.length b a).count c = (thirds a.length a b).count c := by
  obtain ⟨s1, s2, s3, s4⟩ := alike_str h1
  have ma := str_strs s1
  have mb := str_strs s2
  rw [← s3] at mb
  by_cases hc : c ∈ thirds a.length a b
  · exact (chkT_n h6 ma mb h1 hc).1
  · by_cases hc2 : c ∈ thirds a.length b a
    · exact (chkT_n h6 mb ma (alike_flip h1) hc2).1.symm
    · rw [cnt_none hc, cnt_none hc2]
section
variable {a b c : List Int} (h1 : alikeB a b = true) (h2 : alikeB a c = true) (h6 : a.length ≤ 6)
include h1 h2 h6
theorem thirds_turn : (thirds a.length c.reverse a).count b.reverse = (thirds a.length a b).count c := by
  obtain ⟨s1, s2, s3, s4⟩ := alike_str h1
  obtain ⟨-, t2, t3, t4⟩ := alike_str h2
  have fa := flips s1 h6
  have fb := flips s2 (by omega)
  have fc := flips t2 (by omega)
  have ma := str_strs s1
  have mb := str_strs s2
  rw [← s3] at mb
  have mc := str_strs fc.2.2.1
  rw [List.length_reverse, ← t3] at mc
  have k1 : alikeB c.reverse a = true := alike_of fc.2.2.1 s1 (by rw [List.length_reverse]; omega) (by rw [fc.1]; omega)
  have k2 : alikeB b c.reverse = true := alike_of s2 fc.2.2.1 (by rw [List.length_reverse]; omega) (by rw [fc.1]; omega)
  by_cases hc : c ∈ thirds a.length a b
  · exact (chkT_n h6 ma mb h1 hc).2.1
  · rw [cnt_none hc]
    by_cases hb : b.reverse ∈ thirds a.length c.reverse a
    · have e1 := (chkT_n h6 mc ma k1 hb).2.1
      rw [List.reverse_reverse] at e1
      by_cases hr : a.reverse ∈ thirds a.length b c.reverse
      · have e2 := (chkT_n h6 mb mc k2 hr).2.1
        rw [List.reverse_reverse, List.reverse_reverse] at e2
        rw [← e1, ← e2, cnt_none hc]
      · rw [← e1, cnt_none hr]
    · exact cnt_none hb
theorem thirds_mirror : (thirds a.length (cmpl b) (cmpl a)).count (cmpl c) = (thirds a.length a b).count c := by
  obtain ⟨s1, s2, s3, s4⟩ := alike_str h1
  obtain ⟨-, t2, t3, t4⟩ := alike_str h2
  have fa := flips s1 h6
  have fb := flips s2 (by omega)
  have fc := flips t2 (by omega)
  obtain ⟨-, a2, a3, a4, a5, a6⟩ := fa
  obtain ⟨-, b2, b3, b4, b5, b6⟩ := fb
  obtain ⟨-, c2, c3, c4, c5, c6⟩ := fc
  have ma := str_strs s1
  have mb := str_strs s2
  rw [← s3] at mb
  have na := str_strs a4
  rw [a6] at na
  have nb := str_strs b4
  rw [b6, ← s3] at nb
  have k1 : alikeB (cmpl b) (cmpl a) = true := alike_of b4 a4 (by omega) (by omega)
  by_cases hc : c ∈ thirds a.length a b
  · exact (chkT_n h6 ma mb h1 hc).2.2
  · rw [cnt_none hc]
    by_cases hb : cmpl c ∈ thirds a.length (cmpl b) (cmpl a)
    · have e1 := (chkT_n h6 nb na k1 hb).2.2
      rw [a5, b5, c5, cnt_none hc] at e1
      exact e1.symm
    · exact cnt_none hb
/-- Turned and reflected: as many. -/
theorem turns : cntPz b a c = cntPz a b c ∧ cntPz c.reverse a b.reverse = cntPz a b c ∧ cntPz (cmpl b) (cmpl a) (cmpl c) = cntPz a b c ∧ 0 ≤ cntPz a b c := by
  obtain ⟨s1, s2, s3, s4⟩ := alike_str h1
  obtain ⟨-, t2, t3, t4⟩ := alike_str h2
  obtain ⟨a1, a2, a3, a4, a5, a6⟩ := flips s1 h6
  obtain ⟨b1, b2, b3, b4, b5, b6⟩ := flips s2 (by omega)
  obtain ⟨c1, c2, c3, c4, c5, c6⟩ := flips t2 (by omega)
  rw [cntPz_thirds h1 h2]
  refine ⟨?_, ?_, ?_, by omega⟩
  · rw [cntPz_thirds (alike_flip h1) (alike_two h1 h2), ← s3, thirds_swap c h1 h6]
  · rw [cntPz_thirds (alike_of c3 s1 (by rw [List.length_reverse]; omega) (by rw [c1]; omega)) (alike_of c3 b3 (by rw [List.length_reverse, List.length_reverse]; omega) (by rw [c1, b1]; omega)), List.length_reverse, ← t3, thirds_turn h1 h2 h6]
  · rw [cntPz_thirds (alike_of b4 a4 (by omega) (by omega)) (alike_of b4 c4 (by omega) (by omega)), b6, ← s3, thirds_mirror h1 h2 h6]
end
theorem turns_no {a b c : List Int} (h : ¬ (alikeB a b = true ∧ alikeB a c = true)) : cntPz a b c = -1 ∧ cntPz b a c = -1 := by
  rw [cntPz, if_neg h, cntPz, if_neg fun h2 => h (alike_not.2 h2)]
  exact ⟨rfl, rfl⟩
end Go.Proofs.Ytnljlophgolejaa

/- The walk of FnWeights. -/
namespace Go.Proofs.Ytnljlophgolejaa.lawWeights
open Go.ChangeShapes Go.WideShapes Go.ChangeAt Go.RowKit
open Go.ChangeMaps (open_string shut_string)

theorem pzW_facts {a b : List Int} (h : pzOk true a b = true) : alikeB a b = true ∧ a.length ≤ 5 ∧ pzB true a b = spAll true a b := by
  refine ⟨?_, ?_, by unfold pzB; rw [if_pos h]⟩
  · unfold pzOk at h
    rw [Bool.and_eq_true] at h
    exact h.1
  · unfold pzOk at h
    simp at h
    exact h.2.1

set_option maxRecDepth 100000 in
set_option maxHeartbeats 4000000 in
theorem walk {A : Option Addr} {n : Nat} (c : Nat) {w : World} (hx : RB w A n) : Calls Try.prog 11 #[.slice A n c] w (Law w) := by
  obtain ⟨w0, ew⟩ : ∃ w0 : World, w0 = w := ⟨_, rfl⟩
  subst ew
  rcases hbig : decide (1048576 < n) with _ | _
  · go_enter Try.func11, Try.ntmps11
    go_wp2_with (go_at_call 31; refine (big_any _).mono ?_; rintro e w' ⟨rfl, q0, rfl⟩)
    clear hbig
    refine (drawWPro_any _ (hx.below (Quiet.below ⟨_, rfl⟩))).mono ?_
    rintro e w1 ⟨A1, n1, c1, A2, n2, c2, A3, n3, c3, l1, l2, Y, rfl, hl1, ⟨hst, hl2⟩, ⟨hy1, hy2⟩, o1, o2, o3, b1⟩
    have g1 : Below w0.heap.size w0 w1 := bnext (Quiet.below ⟨_, rfl⟩) b1 (by simp)
    have hn1 : n1 ≤ 7 := by rw [← o1.ri.1]; exact hl1
    have hn2 : n2 ≤ 5 := by rw [← o2.ri.1]; exact hl2
    have hn3 : n3 ≤ 5 := by rw [← o3.ri.1]; omega
    have R1 := Lib.hid o1.ri
    have R2 := Lib.hid o2.ri
    have R3 := Lib.hid o3.ri
    have G1 := Lib.hid g1
    have HY := Lib.hid (⟨hy1, hy2⟩ : _ ∧ _)
    clear b1 o1 o2 o3 hl1 hl2 g1 hy1 hy2 hst
    obtain ⟨t, ht⟩ : ∃ t, t = pzOk true l1 l2 := ⟨_, rfl⟩
    have H1 := Lib.hid (iWPro_any (w := w1) c1 c2 c3 R1.out R2.out R3.out (by omega) (by omega) (by omega))
    have H2 : Hid (∀ W, Below w1.heap.size w1 W → Calls Try.prog 23 #[.slice A1 n1 c1, .slice A2 n2 c2] W (MakesPzB W (l1.length : Int) (pzB true l1 l2) t)) := fun W bW => by rw [ht]; exact iWPz_any c1 c2 (R1.out.below bW) (R2.out.below bW) (by omega) (by omega)
    have H3 : Hid (∀ W, Below w1.heap.size w1 W → Calls Try.prog 22 #[.slice A1 n1 c1, .slice A2 n2 c2] W (MakesPzB W (l1.length : Int) (pzB true l1 l2) t)) := fun W bW => by rw [ht]; exact sWPz_any c1 c2 (R1.out.below bW) (R2.out.below bW) (by omega) (by omega)
    have htt : (t != t) = false := by simp
    have HT := Lib.hid ht
    clear ht
    go_wp2_with fail
    refine H1.out.mono ?_
    rintro e w2 ⟨A4, n4, c4, cs4, rfl, o4, l4, -, b2⟩
    have HO4 := Lib.hid o4
    have HL4 := Lib.hid l4
    clear o4 l4
    go_wp2_with fail
    refine (H2.out _ b2).mono ?_
    rintro e w3 ⟨A5, n5, c5, cs5, rfl, o5, l5, -, b3'⟩
    have HO4 := Lib.hid (OF.below HO4.out b3')
    have HO5 := Lib.hid o5
    have HL5 := Lib.hid l5
    have b3 := bnext b2 b3' b2.size
    clear o5 l5 b3'
    go_wp2_with fail
    refine (H3.out _ b3).mono ?_
    rintro e w4 ⟨A6, n6, c6, cs6, rfl, -, -, -, b4'⟩
    have HO4 := Lib.hid (OF.below HO4.out b4')
    have HO5 := Lib.hid (OF.below HO5.out b4')
    have b4 := bnext b3 b4' b3.size
    have HB4 := Lib.hid b4
    have HS2 := Lib.hid (⟨b2.size, b3.size⟩ : _ ∧ _)
    clear b4' b4 b3 b2
    rcases t with _ | _
    · have HF := Lib.hid (bnext G1.out HB4.out G1.out.size)
      go_wp2
      go_ret
      exact ⟨rfl, HF.out⟩
    obtain ⟨hal, h5, hpz⟩ := pzW_facts HT.out.symm
    have hlen : l1.length = l2.length := (alike_str hal).2.2.1
    have hn12 : n1 = n2 := by rw [← R1.out.1, ← R2.out.1, hlen]
    have hn13 : n1 = n3 := by rw [← R1.out.1, ← R3.out.1, hlen, HY.out.1]
    subst hn12
    subst hn13
    have hL1 : l1.length = n1 := R1.out.1
    have hsh : shB (n1 : Int) Y = true := shB_yes (by omega) R3.out.1 rfl fun j _ => inB_iff.2 (HY.out.2 j)
    have hwp : wpOk l1 l2 Y = true := by
      unfold wpOk
      rw [hal, hL1, hsh]; rfl
    have hfew : (pzB true l1 l2).length ≤ 10000 := pzB_small.1
    obtain ⟨PZs, hPZ⟩ : ∃ PZs, PZs = pzB true l1 l2 := ⟨_, rfl⟩
    obtain ⟨PS, hPS⟩ : ∃ PS, PS = wpB l1 l2 Y := ⟨_, rfl⟩
    have hsum := sum_wp hwp
    have hpl := plain_wp hwp
    have hkey := wpB_keys (a := l1) (b := l2) (Y := Y)
    have hsm := wpB_small (a := l1) (b := l2) (Y := Y)
    have hOK := tl_okP (wt := true) hal
    have hOK2 : ∀ q ∈ PZs, okP n1 q := fun q hq => by
      rw [hPZ, hpz] at hq
      have h := hOK q ((tlAll_perm true (alike_str hal).1).mem_iff.2 hq)
      rw [hL1] at h
      exact h
    rw [← hpz, ← hPZ, ← hPS, hL1] at hsum
    rw [← hPS] at hpl hkey hsm HO4 HL4
    rw [← hPZ] at HO5 HL5 hfew
    rw [hL1] at HO5
    have HSH := Lib.hid hsh
    have HWP := Lib.hid hwp
    have HSUM := Lib.hid hsum
    have HPL := Lib.hid hpl
    have HKEY := Lib.hid hkey
    have HSM := Lib.hid hsm
    have HOK2 := Lib.hid hOK2
    have HAL := Lib.hid hal
    have S1 := Lib.hid (alike_str hal).1
    have S2 := Lib.hid (alike_str hal).2.1
    have hn4 : n4 ≤ 300000000 := by rw [← HL4.out]; exact hsm.1
    have hn5 : n5 ≤ 10000 := by rw [← HL5.out]; exact hfew
    clear hal h5 hpz hlen hsh hwp hfew hPZ hPS hsum hpl hkey hsm hOK hOK2 hL1 HT H1 H2 H3
    obtain ⟨X1, hX1⟩ : ∃ X, X = shapeStr l1 := ⟨_, rfl⟩
    obtain ⟨X2, hX2⟩ : ∃ X, X = shapeStr l2 := ⟨_, rfl⟩
    have HX1 := Lib.hid hX1
    have HX2 := Lib.hid hX2
    have K1 : Hid (∀ W, Below w1.heap.size w1 W → Calls Try.prog 48 #[.slice A1 n1 c1] W (Makes3 W X1 (onesStr l1) true)) := fun W bW => by
      have h := iShapeStr_any c1 (R1.out.below bW) (by omega)
      rw [S1.out, ← hX1] at h
      exact h
    have K2 : Hid (∀ W, Below w1.heap.size w1 W → Calls Try.prog 48 #[.slice A2 n1 c2] W (Makes3 W X2 (onesStr l2) true)) := fun W bW => by
      have h := iShapeStr_any c2 (R2.out.below bW) (by omega)
      rw [S2.out, ← hX2] at h
      exact h
    clear hX1 hX2
    go_wp2_with fail
    refine (K1.out _ HB4.out).mono ?_
    rintro e w5 ⟨A7, n7, c7, rfl, -, r7, -, b5⟩
    have hn7 : n7 ≤ 7 := by rw [← r7.1, HX1.out]; exact shapeStr_len7 _
    have R7 := Lib.hid r7
    have HB5 := Lib.hid (bnext HB4.out b5 HB4.out.size)
    have HO4 := Lib.hid (OF.below HO4.out b5)
    have HO5 := Lib.hid (OF.below HO5.out b5)
    clear r7 b5
    go_wp2_with fail
    refine (K2.out _ HB5.out).mono ?_
    rintro e w6 ⟨A8, n8, c8, rfl, -, r8, -, b6⟩
    have hn8 : n8 ≤ 7 := by rw [← r8.1, HX2.out]; exact shapeStr_len7 _
    have R8 := Lib.hid r8
    have R7 := Lib.hid (R7.out.below b6)
    have HB6 := Lib.hid (bnext HB5.out b6 HB5.out.size)
    have HO4 := Lib.hid (OF.below HO4.out b6)
    have HO5 := Lib.hid (OF.below HO5.out b6)
    clear r8 b6 HB4 HB5
    have m7 : Small X1 := by rw [HX1.out]; exact shapeStr_small _
    have m8 : Small X2 := by rw [HX2.out]; exact shapeStr_small _
    obtain ⟨v1, hv1⟩ : ∃ v, v = sumL X1 := ⟨_, rfl⟩
    obtain ⟨v2, hv2⟩ : ∃ v, v = sumL X2 := ⟨_, rfl⟩
    have q1 : -7000000 ≤ v1 ∧ v1 ≤ 7000000 := by rw [hv1]; have := sumTo_bound m7 (Nat.le_refl _); have e := R7.out.1; unfold sumL; omega
    have q2 : -7000000 ≤ v2 ∧ v2 ≤ 7000000 := by rw [hv2]; have := sumTo_bound m8 (Nat.le_refl _); have e := R8.out.1; unfold sumL; omega
    have D1 : Hid (∀ W, Below w6.heap.size w6 W → Calls Try.prog 49 #[.slice A7 n7 c7] W (Gives W (.int .i64 v1))) := fun W bW => by rw [hv1]; exact lsum_any c7 (R7.out.below bW) m7 (by omega)
    have D2 : Hid (∀ W, Below w6.heap.size w6 W → Calls Try.prog 49 #[.slice A8 n8 c8] W (Gives W (.int .i64 v2))) := fun W bW => by rw [hv2]; exact lsum_any c8 (R8.out.below bW) m8 (by omega)
    have HF : Hid (∀ s, addsB l1 l2 s = decide (sumL s = v1 + v2)) := fun s => by rw [hv1, hv2, HX1.out, HX2.out]; rfl
    have W12 : IntKind.i64.wrap (v1 + v2) = v1 + v2 := IntWalk.i64_in _ (by omega)
    have HPM := Lib.hid (iPPro_any (w := w1) (a := l1) (b := l2) c1 c2 R1.out R2.out (by omega) (by omega))
    have H4 : Hid (∀ W, Below w1.heap.size w1 W → Calls Try.prog 25 #[.slice A1 n1 c1, .slice A2 n1 c2] W (MakesPB W (ppB l1 l2) true)) := fun W bW => by
      have h := iPPro_any c1 c2 (R1.out.below bW) (R2.out.below bW) (by omega) (by omega)
      rw [HAL.out] at h
      exact h
    obtain ⟨F, hF⟩ : ∃ F, F = addsB l1 l2 := ⟨_, rfl⟩
    rw [← hF] at HF HPL
    clear K1 K2 m7 m8 hv1 hv2 hF HPM
    go_wp2
    have hbase : w1.heap.size ≤ w6.heap.size := HB6.out.size
    go_loopw [18, 19] (fun v i wr => ∃ (k : Nat) (cs : List Value), k ≤ n4 ∧ i = .int .i64 (k : Int) ∧ OP wr w6.heap.size w1.heap.size v (onlyP F (PS.take k)) cs ∧ Hid (∀ u ∈ cs, ∃ j, j < 2 * k ∧ cs4[j]? = some u) ∧ Below w6.heap.size w6 wr) (fun _ i _ => n4 - (intOf i).toNat)
    case atStart => exact ⟨0, [], Nat.zero_le _, rfl, OP.lit w6 w6.heap.size w1.heap.size (Nat.le_refl _), fun u hu => (by cases hu), (Below.refl _ _).alloc (Nat.le_refl _) _⟩
    case round =>
      obtain ⟨k, cs, hk, rfl, ho, hcs, hb⟩ := hrel
      by_cases hlt : k < n4
      · have hkl : k < PS.length := by rw [HL4.out]; exact hlt
        have ho4 := OP.below HO4.out hb
        obtain ⟨G, cc, hGG, _⟩ := OF.shape ho4 (by rw [HL4.out]; omega)
        obtain ⟨rfl, e2, e3⟩ := slice_inj hGG
        clear e2 e3 hGG
        obtain ⟨A9, n9, c9, k1, kc, k2, _, k4⟩ := OP.cell ho4 hkl
        have hmem := nthP_mem hkl
        have hl9 := HSM.out.2 _ hmem
        have hsm9 := HKEY.out _ hmem
        obtain ⟨sh, hsh⟩ : ∃ sh, sh = (nthP PS k).1 := ⟨_, rfl⟩
        obtain ⟨cn, hcn⟩ : ∃ cn, cn = (nthP PS k).2 := ⟨_, rfl⟩
        rw [← hsh] at hl9 hsm9 k2
        rw [← hcn] at k4
        have hk1 : wr.cell? ⟨G, k * 2, none⟩ = some (.slice A9 n9 c9) := k1
        have hk4 : wr.cell? ⟨G, k * 2 + 1, none⟩ = some (.int .i64 cn) := k4
        have hn9 : n9 ≤ 16 := by rw [← k2.ri.1]; exact hl9
        obtain ⟨v9, hv9⟩ : ∃ v, v = sumL sh := ⟨_, rfl⟩
        have q9 : -16000000 ≤ v9 ∧ v9 ≤ 16000000 := by rw [hv9]; have := sumTo_bound hsm9 (Nat.le_refl _); unfold sumL; omega
        have D9 : Hid (∀ W, Below wr.heap.size wr W → Calls Try.prog 49 #[.slice A9 n9 c9] W (Gives W (.int .i64 v9))) := fun W bW => by rw [hv9]; exact lsum_any c9 (k2.ri.below bW) hsm9 (by omega)
        have D1' : Hid (∀ W, Below wr.heap.size wr W → Calls Try.prog 49 #[.slice A7 n7 c7] W (Gives W (.int .i64 v1))) := fun W bW => D1.out W (bnext hb bW hb.size)
        have D2' : Hid (∀ W, Below wr.heap.size wr W → Calls Try.prog 49 #[.slice A8 n8 c8] W (Gives W (.int .i64 v2))) := fun W bW => D2.out W (bnext hb bW hb.size)
        have HK2 := Lib.hid k2
        have HKC := Lib.hid kc
        have HO := Lib.hid ho
        have HB := Lib.hid hb
        have hFs : F (nthP PS k).1 = decide (v9 = v1 + v2) := by rw [← hsh, HF.out, hv9]
        have HNX : Hid (onlyP F (PS.take (k + 1)) = if v9 = v1 + v2 then onlyP F (PS.take k) ++ [(sh, cn)] else onlyP F (PS.take k)) := by
          show _ = _
          rw [only_take hkl, hFs, show nthP PS k = (sh, cn) by rw [hsh, hcn]]
          simp only [decide_eq_true_eq]
        have hDist : Hid (∀ u' ∈ cs, u'.ownBlock = none ∨ u'.ownBlock ≠ (Value.slice A9 n9 c9).ownBlock) := fun u' hu' => by
          obtain ⟨j, hj, hju⟩ := hcs.out u' hu'
          exact HO4.out.2.2 j (k * 2) u' _ (by omega) hju kc
        have hplen : (onlyP F (PS.take k)).length + 1 ≤ 1000000000000 := by
          have h1 : (onlyP F (PS.take k)).length ≤ (PS.take k).length := List.length_filter_le _ _
          rw [List.length_take] at h1
          omega
        have HFR : Hid (∀ j, wr.frozen? ⟨G, j, none⟩ = false) := fun j => OP.frozen ho4 j
        have HNC : Hid (∀ u ∈ cs ++ [.slice A9 n9 c9, .int .i64 cn], ∃ j, j < 2 * (k + 1) ∧ cs4[j]? = some u) := fun u hu => by
          rcases List.mem_append.1 hu with h | h
          · obtain ⟨j, hj, e⟩ := hcs.out u h
            exact ⟨j, by omega, e⟩
          · rcases List.mem_cons.1 h with rfl | h
            · exact ⟨k * 2, by omega, kc⟩
            · rw [List.mem_singleton] at h
              subst h
              obtain ⟨u2, hu2, hf2⟩ := HO4.out.2.1.at_ (partF_at1 hkl)
              have hf2' : u2 = .int .i64 (nthP PS k).2 := hf2
              exact ⟨k * 2 + 1, by omega, by rw [hu2, hf2', hcn]⟩
        clear ho4 k1 kc k2 k4 hmem hl9 hsm9 hsh hcn hv9 ho hb hFs
        go_wp2_with fail
        refine (D9.out _ (Below.refl _ _)).mono ?_
        rintro e w7 ⟨rfl, z7, rfl⟩
        go_wp2_with fail
        refine (D1'.out _ (Quiet.below ⟨_, rfl⟩)).mono ?_
        rintro e w7 ⟨rfl, z8, rfl⟩
        rw [World.drewN_drewN]
        go_wp2_with fail
        refine (D2'.out _ (Quiet.below ⟨_, rfl⟩)).mono ?_
        rintro e w7 ⟨rfl, z9, rfl⟩
        rw [World.drewN_drewN]
        obtain ⟨w7, ew7⟩ : ∃ W : World, W = wr.drewN (z7 + z8 + z9) := ⟨_, rfl⟩
        have bw7 : Below wr.heap.size wr w7 := by rw [ew7]; exact Quiet.below ⟨_, rfl⟩
        rw [← ew7]
        have hk1 := one_cell bw7 hk1
        have hk4 := one_cell bw7 hk4
        have ho7 := OP.below HO.out bw7
        have hu7 := HK2.out.below bw7
        have HB7 := Lib.hid (bnext HB.out bw7 HB.out.size)
        clear ew7
        by_cases he : v9 = v1 + v2
        · have hee : (v9 == v1 + v2) = true := by simpa using he
          have HE : Hid (onlyP F (PS.take (k + 1)) = onlyP F (PS.take k) ++ [(sh, cn)]) := by show _ = _; rw [HNX.out, if_pos he]
          have hb7 : w6.heap.size ≤ w7.heap.size := HB7.out.size
          have hlt7 := OF.lt ho7
          have HLT := Lib.hid hlt7
          have HDD := hDist.out
          have hdd : ∀ u' ∈ cs, u'.ownBlock = none ∨ u'.ownBlock ≠ (Value.slice A9 n9 c9).ownBlock := HDD
          have HO7 := Lib.hid ho7
          have HU7 := Lib.hid hu7
          clear he HDD hlt7 hdd ho7 hu7
          go_wp2_with (at_builtin; refine wpAppP rfl _ _ rfl w6.heap.size w1.heap.size u18 (.slice A9 n9 c9) (onlyP F (PS.take k)) cs sh cn rfl rfl (by exact HO7.out) (by exact HU7.out) (by exact hDist.out) (by exact hplen) (by exact hb7) ?_; intro v' w' h1 h2 h3)
          have HN : Hid (OP w' w6.heap.size w1.heap.size v' (onlyP F (PS.take (k + 1))) (cs ++ [.slice A9 n9 c9, .int .i64 cn]) ∧ Below w6.heap.size w6 w') :=
            ⟨by rw [HE.out]; exact h1, (HB7.out.alloc hb7 _).grown h2 (by simp; omega) (fun j hj => (HLT.out j hj).1)⟩
          clear h1 h2 h3
          go_roundw
          case rel => exact ⟨k + 1, _, by omega, by go_num, HN.out.1, HNC.out, HN.out.2⟩
          case measure => simp [intOf]; omega
        · have hee : (v9 == v1 + v2) = false := by simpa using he
          have HE : Hid (onlyP F (PS.take (k + 1)) = onlyP F (PS.take k)) := by show _ = _; rw [HNX.out, if_neg he]
          have HO7 := Lib.hid ho7
          clear he ho7 hu7
          go_wp2
          go_roundw
          case rel => exact ⟨k + 1, cs, by omega, by go_num, by rw [HE.out]; exact HO7.out, fun u hu => (by obtain ⟨j, hj, e⟩ := hcs.out u hu; exact ⟨j, by omega, e⟩), HB7.out⟩
          case measure => simp [intOf]; omega
      · obtain rfl : n4 = k := by omega
        have hpp : onlyP F (PS.take n4) = ppB l1 l2 := by rw [List.take_of_length_le (by rw [HL4.out]; exact Nat.le_refl _)]; exact HPL.out
        rw [hpp] at ho
        have hb1 := bnext HB6.out hb HB6.out.size
        have HP1 := Lib.hid ho
        have HO4 := Lib.hid (OP.below HO4.out hb)
        have HO5 := Lib.hid (OF.below HO5.out hb)
        have HB1 := Lib.hid hb1
        clear ho hb hb1 hpp hcs D1 D2 W12 q1 q2 HF HKEY R7 R8
        go_wp2_with fail
        refine (H4.out _ HB1.out).mono ?_
        rintro e w8 ⟨A10, n10, c10, cs10, rfl, o10, l10, -, b8⟩
        have HO10 := Lib.hid o10
        have HP1 := Lib.hid (OP.below HP1.out b8)
        have HO4 := Lib.hid (OP.below HO4.out b8)
        have HO5 := Lib.hid (OF.below HO5.out b8)
        have HB8 := Lib.hid (bnext HB1.out b8 HB1.out.size)
        have hppl : (ppB l1 l2).length ≤ 1000000000 := Nat.le_trans ppB_small.1 (by omega)
        obtain ⟨PP, hPP⟩ : ∃ PP, PP = ppB l1 l2 := ⟨_, rfl⟩
        rw [← hPP] at HP1 HO10 hppl
        obtain ⟨f, hf⟩ : ∃ f, f = wtF n1 Y := ⟨_, rfl⟩
        have HFW : Hid (∀ q, f q = wtF n1 Y q) := fun q => by rw [hf]
        rw [← hf] at HSUM
        have HRY : Hid (RI w8 A3 n1 Y) := R3.out.below HB8.out
        clear o10 l10 b8 hPP hf H4 HB1 HB6 HPL HX1 HX2
        go_wp2
        go_loopw [22, 23, 24, 25] (fun tv i _ _ wr => ∃ (k : Nat) (T : Int), k ≤ n5 ∧ i = .int .i64 (k : Int) ∧ tv = .int .i64 T ∧ Hid (T = IntKind.i64.wrap (sumF f (PZs.take k))) ∧ Hid (Below w8.heap.size w8 wr)) (fun _ i _ _ _ => n5 - (intOf i).toNat)
        case atStart => exact ⟨0, 0, Nat.zero_le _, rfl, rfl, (by show _ = _; simp [sumF]; rfl), Below.refl _ _⟩
        case round =>
          obtain ⟨k, T, hk, rfl, rfl, HT, BR⟩ := hrel
          by_cases hlt : k < n5
          · have hkl : k < PZs.length := by rw [HL5.out]; exact hlt
            have ho5 := OF.below HO5.out BR.out
            obtain ⟨G, cg, hG, -⟩ := OF.shape ho5 (by omega)
            obtain ⟨rfl, e2, e3⟩ := slice_inj hG
            clear hG e2 e3
            obtain ⟨u1, u2, u3, k0, k1, k2, k3, o1, o2, o3⟩ := OZ.cell ho5 hkl
            obtain ⟨B4, m4, d4, rfl, r4, -⟩ := o1.form
            obtain ⟨B5, m5, d5, rfl, r5, -⟩ := o2.form
            obtain ⟨B6, m6, d6, rfl, r6, -⟩ := o3.form
            obtain ⟨q, hq⟩ : ∃ q, q = nthZ PZs k := ⟨_, rfl⟩
            have hqok := HOK2.out _ (nthZ_mem hkl)
            rw [← hq] at r4 r5 r6 hqok
            have hql := (puz_len hqok).1
            have hr4 := r4.1
            have hr5 := r5.1
            have hr6 := r6.1
            have hk0 : wr.cell? ⟨G, k * 4, none⟩ = some (.int .i64 (n1 : Int)) := k0
            have hk1 : wr.cell? ⟨G, k * 4 + 1, none⟩ = some (.slice B4 m4 d4) := k1
            have hk2 : wr.cell? ⟨G, k * 4 + 2, none⟩ = some (.slice B5 m5 d5) := k2
            have hk3 : wr.cell? ⟨G, k * 4 + 3, none⟩ = some (.slice B6 m6 d6) := k3
            obtain ⟨x, hx⟩ : ∃ x, x = f q := ⟨_, rfl⟩
            obtain ⟨T2, hT2⟩ : ∃ T2, T2 = IntKind.i64.wrap (T + x) := ⟨_, rfl⟩
            have HT2 : Hid (T2 = IntKind.i64.wrap (sumF f (PZs.take (k + 1)))) := by
              show _ = _
              rw [hT2, HT.out, wrap_more, sumF_take hkl, hx, hq, nthZ_lt hkl]
            have hxw : x = wtW (n1 : Int) q.1 q.2.1 q.2.2 Y := by
              rw [hx, HFW.out, wtF_ok hqok, wtW, if_pos]
              · rfl
              · unfold okW; rw [HSH.out]; unfold okP at hqok; rw [hqok]; rfl
            have hokw : okW (n1 : Int) q.1 q.2.1 q.2.2 Y = true := by unfold okW; rw [HSH.out]; unfold okP at hqok; rw [hqok]; rfl
            have C1 : Hid (∀ W, Below wr.heap.size wr W → Calls Try.prog 50 #[.agg #[.int .i64 (n1 : Int), .slice B4 m4 d4, .slice B5 m5 d5, .slice B6 m6 d6], .slice A3 n1 c3] W (GivesB W (.tuple #[.int .i64 x, .bool true]))) := fun W bW => by
              have h := iWeight_any d4 d5 d6 c3 (n1 : Int) (r4.below bW) (r5.below bW) (r6.below bW) (HRY.out.below (bnext BR.out bW BR.out.size)) (by omega) (by omega) (by omega) (by omega)
              rw [← hxw, hokw] at h
              exact h
            have C2 : Hid (∀ W, Below wr.heap.size wr W → Calls Try.prog 51 #[.agg #[.int .i64 (n1 : Int), .slice B4 m4 d4, .slice B5 m5 d5, .slice B6 m6 d6]] W (GivesB W (.bool true))) := fun W bW => by
              have h := iWeightedOk_any d4 d5 d6 (n1 : Int) (r4.below bW) (r5.below bW) (r6.below bW) (by omega) (by omega) (by omega)
              unfold okP at hqok
              rw [hqok] at h
              exact h
            have hW1 : IntKind.i64.wrap (T + x) = T2 := hT2.symm
            clear ho5 k0 k1 k2 k3 o1 o2 o3 r4 r5 r6 hq hqok hql hr4 hr5 hr6 hx hxw hokw hT2
            have KC : Hid (∀ W, Below wr.heap.size wr W → W.cell? ⟨G, k * 4, none⟩ = some (.int .i64 (n1 : Int)) ∧ W.cell? ⟨G, k * 4 + 1, none⟩ = some (.slice B4 m4 d4) ∧ W.cell? ⟨G, k * 4 + 2, none⟩ = some (.slice B5 m5 d5) ∧ W.cell? ⟨G, k * 4 + 3, none⟩ = some (.slice B6 m6 d6)) := fun W bW => ⟨one_cell bW hk0, one_cell bW hk1, one_cell bW hk2, one_cell bW hk3⟩
            go_wp2_with fail
            refine (C1.out _ (Below.refl _ _)).mono ?_
            rintro e w9 ⟨rfl, b9⟩
            clear hk0 hk1 hk2 hk3
            obtain ⟨hk0, hk1, hk2, hk3⟩ := KC.out w9 b9
            go_wp2_with fail
            refine (C2.out _ b9).mono ?_
            rintro e w10 ⟨rfl, b10'⟩
            have HB10 := Lib.hid (bnext BR.out (bnext b9 b10' b9.size) BR.out.size)
            clear b9 b10' hk0 hk1 hk2 hk3
            go_wp2
            go_roundw
            case rel => exact ⟨k + 1, T2, by omega, by go_num, rfl, HT2, HB10⟩
            case measure => simp [intOf]; omega
          · obtain rfl : n5 = k := by omega
            have HTZ : Hid (T = IntKind.i64.wrap (sumC PS)) := by
              show _ = _
              rw [HT.out, List.take_of_length_le (by rw [HL5.out]; exact Nat.le_refl _), HSUM.out]
            have HO4 := Lib.hid (OP.below HO4.out BR.out)
            have HP1 := Lib.hid (OP.below HP1.out BR.out)
            have HO10 := Lib.hid (OP.below HO10.out BR.out)
            have HBR := Lib.hid (bnext G1.out (bnext HB8.out BR.out HB8.out.size) G1.out.size)
            clear BR HT HSUM HOK2 HFW HRY HB8 HO5
            go_wp2
            go_loopw [22, 26] (fun tv i wx => ∃ (j : Nat) (U : Int), j ≤ n4 ∧ i = .int .i64 (j : Int) ∧ tv = .int .i64 U ∧ Hid (U = IntKind.i64.wrap (sumC PS - sumC (PS.take j))) ∧ Quiet wr wx) (fun _ i _ => n4 - (intOf i).toNat)
            case atStart => exact ⟨0, T, Nat.zero_le _, rfl, rfl, (by show _ = _; rw [HTZ.out]; simp [sumC]), (by first | exact ⟨_, rfl⟩ | exact ⟨_, (World.drewN_drewN _ _ _).symm⟩ | exact Quiet.refl _ | (simp only [World.drewN_drewN]; exact ⟨_, rfl⟩))⟩
            case round =>
              obtain ⟨j, U, hj, rfl, rfl, HU, ⟨qq, rfl⟩⟩ := hrel
              by_cases hlt : j < n4
              · have hjl : j < PS.length := by rw [HL4.out]; exact hlt
                have ho4 := OP.below HO4.out (Quiet.below (w := wr) ⟨qq, rfl⟩)
                obtain ⟨G, cc, hGG, _⟩ := OF.shape ho4 (by rw [HL4.out]; omega)
                obtain ⟨rfl, e2, e3⟩ := slice_inj hGG
                clear e2 e3 hGG
                obtain ⟨A9, n9, c9, -, -, -, -, k4⟩ := OP.cell ho4 hjl
                obtain ⟨cn, hcn⟩ : ∃ cn, cn = (nthP PS j).2 := ⟨_, rfl⟩
                rw [← hcn] at k4
                have hk4 : (wr.drewN qq).cell? ⟨G, j * 2 + 1, none⟩ = some (.int .i64 cn) := k4
                obtain ⟨U2, hU2⟩ : ∃ U2, U2 = IntKind.i64.wrap (U - cn) := ⟨_, rfl⟩
                have HU2 : Hid (U2 = IntKind.i64.wrap (sumC PS - sumC (PS.take (j + 1)))) := by
                  show _ = _
                  rw [hU2, HU.out, wrap_less, sumC_take hjl, ← hcn, Int.sub_sub]
                have hW1 : IntKind.i64.wrap (U - cn) = U2 := hU2.symm
                clear ho4 k4 hcn hU2
                go_wp2
                go_roundw
                case rel => exact ⟨j + 1, U2, by omega, by go_num, rfl, HU2, (by first | exact ⟨_, rfl⟩ | exact ⟨_, (World.drewN_drewN _ _ _).symm⟩ | exact Quiet.refl _ | (simp only [World.drewN_drewN]; exact ⟨_, rfl⟩))⟩
                case measure => simp [intOf]; omega
              · obtain rfl : n4 = j := by omega
                obtain rfl : U = 0 := by
                  rw [HU.out, List.take_of_length_le (by rw [HL4.out]; exact Nat.le_refl _), Int.sub_self]; rfl
                have HPA : Hid (∀ W, Below wr.heap.size wr W → Calls Try.prog 37 #[u18, .slice A10 n10 c10] W (GivesB W (.bool true))) := fun W bW => parts_any (OP.below HP1.out bW) (OP.below HO10.out bW) hppl
                clear HU
                rw [HWP.out]
                go_wp2_with fail
                refine (HPA.out _ (Quiet.below ⟨_, rfl⟩)).mono ?_
                rintro e w11 ⟨rfl, b11⟩
                have HFIN := Lib.hid (bnext HBR.out (bnext (Quiet.below (w := wr) (w' := wr.drewN qq) ⟨_, rfl⟩) b11 (by simp)) HBR.out.size)
                clear b11
                go_wp2
                go_ret
                exact ⟨rfl, HFIN.out⟩
  · go_enter Try.func11, Try.ntmps11
    go_wp2_with (go_at_call 31; refine (big_any _).mono ?_; rintro e w' ⟨rfl, q0, rfl⟩)
    go_ret
    exact ⟨rfl, Quiet.below ⟨_, rfl⟩⟩
end Go.Proofs.Ytnljlophgolejaa.lawWeights
