/- All shapes in boxes of at most six: where they lie in the list of shapes; what they are as permutations and strings. -/
import Derived.Test.YtnljlophgolejaaPlain
import Derived.Test.YtnljlophgolejaaDraw
import Derived.Test.YtnljlophgolejaaShapes
import Derived.Test.YtnljlophgolejaaQDraw
import Derived.Test.YtnljlophgolejaaStrOf
import Derived.Test.YtnljlophgolejaaAlike
namespace Go.Proofs.Ytnljlophgolejaa

theorem mem_upto {f : Nat → List (List Int)} {x y : Nat} {l : List Int} (h : l ∈ f (y + 1)) (hy : y < x) : ((y + 1 : Nat) : Int) :: l ∈ shapesUpto f x := by
  induction x with
  | zero => omega
  | succ x ih =>
    unfold shapesUpto
    rw [List.mem_append]
    by_cases e : y = x
    · subst e
      exact .inr (List.mem_map.2 ⟨l, h, rfl⟩)
    · exact .inl (ih (by omega))
theorem nth_cons (a : Int) (l : List Int) (j : Nat) : nth (a :: l) (j + 1) = nth l j := by simp [nth, List.getD]
theorem shIn_mem : ∀ (K M : Nat) (l : List Int), ShIn l K M → l ∈ shapesIn K M
  | 0, M, l, h => by
    have := h.len
    obtain rfl : l = [] := List.eq_nil_of_length_eq_zero (by omega)
    exact List.mem_singleton.2 rfl
  | K + 1, M, [], h => by unfold shapesIn; exact List.mem_cons_self
  | K + 1, M, a :: l, h => by
    have h0 := h.pos 0 (by simp)
    have e0 : nth (a :: l) 0 = a := rfl
    rw [e0] at h0
    obtain ⟨y, hy⟩ := Int.eq_ofNat_of_zero_le (a := a - 1) (by omega)
    have ha : a = ((y + 1 : Nat) : Int) := by omega
    have hl : ShIn l K (y + 1) := by
      have hlen := h.len
      have hdn : ∀ j, j < l.length → nth l j ≤ a := by
        intro j
        induction j with
        | zero =>
          intro hj
          have := h.down 0 (by simp; omega)
          rwa [nth_cons, e0] at this
        | succ j ih =>
          intro hj
          have := h.down (j + 1) (by simp; omega)
          rw [nth_cons, nth_cons] at this
          have := ih (by omega)
          omega
      refine ⟨by simp at hlen; omega, fun j hj => ?_, fun j hj => ?_⟩
      · have := h.pos (j + 1) (by simp; omega)
        rw [nth_cons] at this
        have := hdn j hj
        omega
      · have := h.down (j + 1) (by simp; omega)
        rwa [nth_cons, nth_cons] at this
    have := shIn_mem K (y + 1) l hl
    unfold shapesIn
    refine List.mem_cons_of_mem _ ?_
    rw [ha]
    exact mem_upto this (by omega)

/-- What is asked of a shape in a box. -/
def boxedB (l : List Int) (K M : Nat) : Bool :=
  let n : Int := (K : Int) + M
  let w := grassB l K n
  let s := strB l K n
  grassmannB w && (decide (lengthB w = sumL l) && (isStrB s && (decide (onesStr s = K) && (decide (shapeStr s = l) && (decide (conjB (conjB l) = l) &&
    (decide (oneDesc w = decide (0 < l.length)) && (!oneDesc w || (decide (shpK w = K) && decide (shpB w = l)))))))))
theorem boxed_all : (List.range 7).all (fun K => (List.range (7 - K)).all fun M => decide (K + M < 2) || (shapesIn K M).all fun l => boxedB l K M) = true := by decide +kernel
theorem boxed_at {K M : Nat} {l : List Int} (h : 2 ≤ K + M ∧ K + M ≤ 6) (hl : ShIn l K M) : boxedB l K M = true := by
  have h0 := boxed_all
  rw [List.all_eq_true] at h0
  have h1 := h0 K (by rw [List.mem_range]; omega)
  rw [List.all_eq_true] at h1
  have h2 := h1 M (by rw [List.mem_range]; omega)
  rw [Bool.or_eq_true, decide_eq_true_eq] at h2
  have h3 := h2.resolve_left (by omega)
  rw [List.all_eq_true] at h3
  exact h3 l (shIn_mem K M l hl)
theorem boxed_facts {K M : Nat} {l w s : List Int} (hw : w = grassB l K ((K : Int) + M)) (hs : s = strB l K ((K : Int) + M)) (h : boxedB l K M = true) :
    grassmannB w = true ∧ lengthB w = sumL l ∧ isStrB s = true ∧ onesStr s = K ∧ shapeStr s = l ∧ conjB (conjB l) = l ∧ oneDesc w = decide (0 < l.length) ∧ (0 < l.length → shpK w = K ∧ shpB w = l) := by
  unfold boxedB at h
  simp only [← hw, ← hs, Bool.and_eq_true, decide_eq_true_eq] at h
  obtain ⟨h1, h2, h3, h4, h5, h6, h7, h8⟩ := h
  refine ⟨h1, h2, h3, h4, h5, h6, h7, fun hl => ?_⟩
  rw [h7] at h8
  simp only [hl, decide_true, Bool.not_true, Bool.false_or, Bool.and_eq_true, decide_eq_true_eq] at h8
  exact h8
end Go.Proofs.Ytnljlophgolejaa

/- Draws of strings and of shifts. -/
namespace Go.Proofs.Ytnljlophgolejaa
open Go.RowKit

def chkStr (K M : Nat) : Bool := (shapesIn K M).all fun a => isStrB (strB a K ((K : Int) + M)) && (decide ((strB a K ((K : Int) + M)).length = K + M) && decide (sumL (strB a K ((K : Int) + M)) = K))
theorem chkStr_all : ((List.range 7).all fun K => (List.range (7 - K)).all fun M => decide (K + M < 2) || chkStr K M) = true := by decide +kernel
theorem str_at {K M : Nat} {a : List Int} (h : 2 ≤ K + M ∧ K + M ≤ 6) (ha : ShIn a K M) : isStrB (strB a K ((K : Int) + M)) = true ∧ (strB a K ((K : Int) + M)).length = K + M ∧ sumL (strB a K ((K : Int) + M)) = K := by
  have h1 := chkStr_all
  rw [List.all_eq_true] at h1
  have h2 := h1 K (by rw [List.mem_range]; omega)
  rw [List.all_eq_true] at h2
  have h3 := h2 M (by rw [List.mem_range]; omega)
  rw [Bool.or_eq_true, decide_eq_true_eq] at h3
  have h4 := h3.resolve_left (by omega)
  unfold chkStr at h4
  rw [List.all_eq_true] at h4
  have h5 := h4 a (shIn_mem K M a ha)
  rw [Bool.and_eq_true, Bool.and_eq_true] at h5
  exact ⟨h5.1, of_decide_eq_true h5.2.1, of_decide_eq_true h5.2.2⟩
/-- A string drawn. -/
def DrawsSt (w : World) (g : Nat) (A : Option Addr) (n c : Nat) (K M : Nat) : Ending → World → Prop := fun e w' =>
  ∃ A' n' c' l, e = .returned (.slice A' n' c') ∧ OI w' w.heap.size (.slice A' n' c') l ∧ (isStrB l = true ∧ l.length = K + M ∧ sumL l = K) ∧ Cur w' g A n c ∧ w.grownBy w' (some g)
theorem dString_any {w : World} {g : Nat} {A : Option Addr} {n c : Nat} {K M : Nat} (h : Dr w g A n c) (hKM : 2 ≤ K + M ∧ K + M ≤ 6) :
    Calls Try.prog 76 #[.pointer (some ⟨g, 0, none⟩), .int .i64 (K : Int), .int .i64 ((K : Int) + M)] w (DrawsSt w g A n c K M) := by
  have hsub : (K : Int) + M - K = M := by omega
  have hglt := h.cur.lt
  go_enter Try.func76, Try.ntmps76
  go_wp2_with fail
  refine (dShape_any K M _ _ h rfl (by first | rfl | omega) (by omega) (by omega)).mono ?_
  rintro e w1 ⟨A1, n1, c1, l1, rfl, o1, sh, hc1, hg1⟩
  have d1 := h.next hc1 hg1
  have HG1 := Lib.hid hg1
  have hs1 := hg1.size
  have hn1 : n1 ≤ 6 := by rw [← o1.ri.1]; have := sh.len; omega
  have hbx := sh.box hKM
  have HST := Lib.hid (str_at hKM sh)
  clear hg1 hc1
  go_wp2_with fail
  refine (l5String_any c1 (K : Int) ((K : Int) + M) o1.ri (by omega) hbx).mono ?_
  rintro e w2 ⟨A2, n2, c2, rfl, o2, r2, ⟨cp2, le2⟩, b2⟩
  have d2 := d1.below b2
  have HG2 := Lib.hid (grown_below HG1.out b2)
  clear b2
  go_wp2
  go_ret
  exact ⟨A2, n2, c2, _, rfl, o2.mono hs1, HST.out, d2.cur, HG2.out⟩
/-- Shifts drawn. -/
def DrawsY (w : World) (g : Nat) (A : Option Addr) (n c : Nat) (m : Nat) : Ending → World → Prop := fun e w' =>
  ∃ A' n' c' l, e = .returned (.slice A' n' c') ∧ OI w' w.heap.size (.slice A' n' c') l ∧ (l.length = m ∧ ∀ j, -9 ≤ nth l j ∧ nth l j ≤ 9) ∧ Cur w' g A n c ∧ w.grownBy w' (some g)
theorem nth_range_app {l : List Int} {x : Int} (h : ∀ j, -9 ≤ nth l j ∧ nth l j ≤ 9) (h1 : -9 ≤ x) (h2 : x ≤ 9) : ∀ j, -9 ≤ nth (l ++ [x]) j ∧ nth (l ++ [x]) j ≤ 9 := fun j => by
  rcases Nat.lt_trichotomy j l.length with h3 | h3 | h3
  · rw [nth_append_left h3]; exact h j
  · subst h3
    have e : nth (l ++ [x]) l.length = x := by rw [nth_append_right (Nat.le_refl _)]; simp [nth]
    rw [e]; omega
  · rw [nth_ge (by simp; omega)]; omega
set_option maxHeartbeats 1000000 in
theorem dShifts_any {w : World} {g : Nat} {A : Option Addr} {n c : Nat} (m : Nat) (mI : Int) (h : Dr w g A n c) (hm : mI = (m : Int)) (hM : m ≤ 16) :
    Calls Try.prog 87 #[.pointer (some ⟨g, 0, none⟩), .int .i64 mI] w (DrawsY w g A n c m) := by
  subst hm
  have hglt := h.cur.lt
  go_enter Try.func87, Try.ntmps87
  go_wp2
  go_loopw [5, 6] (fun u i wr => ∃ (l : List Int), l.length ≤ m ∧ (∀ j, -9 ≤ nth l j ∧ nth l j ≤ 9) ∧ i = .int .i64 (l.length : Int) ∧ OI wr w.heap.size u l ∧ Dr wr g A n c ∧ w.grownBy wr (some g)) (fun _ i _ => m - (intOf i).toNat)
  case atStart =>
    have b3 : Below w.heap.size w (w.alloc (.cells #[] 3)) := (Below.refl _ _).alloc (Nat.le_refl _) _
    exact ⟨[], by simp, fun j => by simp [nth], rfl, OI.lit w w.heap.size [] 0 rfl (Nat.le_refl _) (by simp), h.below b3, grown_below (World.grownBy.refl _ _) b3⟩
  case round =>
    obtain ⟨l, hl, hs, rfl, ho, hd, hg⟩ := hrel
    have HS := Lib.hid hs
    have HG := Lib.hid hg
    clear hs hg
    obtain ⟨k, hkk⟩ : ∃ k, k = l.length := ⟨_, rfl⟩
    rw [← hkk] at hl ⊢
    have HK := Lib.hid hkk
    clear hkk
    by_cases hlt : k < m
    · go_wp2_with fail
      refine (l1Below_any 19 hd (by omega) (by omega)).mono ?_
      rintro e w1 ⟨x, rfl, hx, hc, hg1⟩
      have hgb : w.heap.size ≤ wr.heap.size := HG.out.size
      have ho1 := ho.kept_low hg1 (fun b e => by injection e with e; omega)
      have d1 := hd.next hc hg1
      have HG1 := Lib.hid (HG.out.trans hg1)
      have hs1 : w.heap.size ≤ w1.heap.size := HG1.out.size
      have hw1 : IntKind.i64.wrap (x - 9) = x - 9 := IntWalk.i64_in _ (by omega)
      clear hg1 hc ho hd
      have hlen : l.length + 1 ≤ 1000000000000 := by rw [← HK.out]; omega
      go_wp2_with (at_builtin; refine wpApp1 rfl _ _ rfl w.heap.size u5 l (x - 9) rfl (by exact ho1) rfl hlen (by exact hs1) ?_; intro v' w' h1 h2 h3)
      go_roundw
      case rel =>
        have hG := grown_step HG1.out h2 (.inr fun k hk => (ho1.lt k hk).1)
        refine ⟨l ++ [x - 9], ?_, nth_range_app HS.out (by omega) (by omega), ?_, h1, ⟨d1.cur.same ?_, h.byt.low hG h.ne, h.ne⟩, hG⟩
        · rw [List.length_append, ← HK.out]; simp; omega
        · rw [List.length_append, ← HK.out]; simp
        · exact h2.block g (by omega) fun e => by have := (ho1.lt g e.symm).1; omega
      case measure => simp [intOf]; omega
    · obtain rfl : k = m := by omega
      obtain ⟨A', n', c', rfl, _⟩ := ho.form
      have HF : Hid (DrawsY w g A n c k (.returned (.slice A' n' c')) wr) := ⟨A', n', c', l, rfl, ho, ⟨HK.out.symm, HS.out⟩, hd.cur, HG.out⟩
      clear ho hd
      go_wp2
      go_ret
      exact HF.out
theorem l1Below_big {w : World} {g : Nat} {A : Option Addr} {n c : Nat} (m : Int) (h : Dr w g A n c) (h1 : 1 ≤ m) (h2 : m ≤ 1000000000) :
    Calls Try.prog 79 #[.pointer (some ⟨g, 0, none⟩), .int .i64 m] w (Draws w g A n c fun x => 0 ≤ x ∧ x < m) := by
  by_cases h3 : m ≤ 256
  · exact l1Below_any m h h1 h3
  go_enter Try.func79, Try.ntmps79
  go_wp2_with fail
  refine (l1Byte_any h.cur h.byt h.ne).mono ?_
  rintro e w1 ⟨x, rfl, hx, hc, hg⟩
  have d1 := h.next hc hg
  have HG := Lib.hid hg
  clear hg hc
  go_wp2_with fail
  refine (l1Byte_any d1.cur d1.byt d1.ne).mono ?_
  rintro e w2 ⟨y, rfl, hy, hc, hg⟩
  have d2 := d1.next hc hg
  have HG := Lib.hid (HG.out.trans hg)
  clear hg hc
  go_wp2_with fail
  refine (l1Byte_any d2.cur d2.byt d2.ne).mono ?_
  rintro e w3 ⟨z, rfl, hz, hc, hg⟩
  have d3 := d2.next hc hg
  have HG := Lib.hid (HG.out.trans hg)
  clear hg hc
  go_wp2_with fail
  refine (l1Byte_any d3.cur d3.byt d3.ne).mono ?_
  rintro e w4 ⟨u, rfl, hu, hc, hg⟩
  have HG := Lib.hid (HG.out.trans hg)
  clear hg
  have hm0 : (m == 0) = false := by simp; omega
  go_wp2
  go_ret
  exact ⟨_, rfl, ⟨Int.emod_nonneg _ (by omega), Int.emod_lt_of_pos _ (by omega)⟩, hc, HG.out⟩
/-- What is drawn: a list and a string of at most six. -/
def DrawsZ2 (w : World) : Ending → World → Prop := fun e w' =>
  ∃ A1 n1 c1 A2 n2 c2 l1 l2, e = .returned (.tuple #[.slice A1 n1 c1, .slice A2 n2 c2]) ∧ l1.length ≤ 7 ∧ l2.length ≤ 6 ∧ OI w' w.heap.size (.slice A1 n1 c1) l1 ∧ OI w' w.heap.size (.slice A2 n2 c2) l2 ∧ Below w.heap.size w w'
set_option maxHeartbeats 1000000 in
theorem drawPuzzlesOf_any {w : World} {A : Option Addr} {n : Nat} (c : Nat) (hb : RB w A n) :
    Calls Try.prog 39 #[.slice A n c] w (DrawsZ2 w) := by
  go_enter Try.func39, Try.ntmps39
  go_wp2_with fail
  refine (l1New_any hb).mono ?_
  rintro e w1 ⟨g, rfl, hg, d1, b1⟩
  have HB1 := Lib.hid b1
  have hs1 := b1.size
  have hglt := d1.cur.lt
  clear b1
  go_wp2_with fail
  refine (dBox_any d1).mono ?_
  rintro e w2 ⟨k, m, rfl, ⟨⟨hm1, hm2⟩, hk1, hk2⟩, hc2, hg2⟩
  have d2 := d1.next hc2 hg2
  obtain ⟨K, rfl⟩ := Int.eq_ofNat_of_zero_le hk1
  obtain ⟨M, hM⟩ := Int.eq_ofNat_of_zero_le (a := m - K) (by omega)
  obtain rfl : m = (K : Int) + M := by omega
  clear hM hk1
  have HG2 := Lib.hid hg2
  have hs2 := hg2.size
  clear hg2 hc2
  go_wp2_with fail
  refine (dString_any (K := K) (M := M) d2 (by omega)).mono ?_
  rintro e w3 ⟨A3, n3, c3, l3, rfl, o3, ⟨-, hl3, -⟩, hc3, hg3⟩
  have d3 := d2.next hc3 hg3
  have HG3 := Lib.hid (HG2.out.trans hg3)
  have hs3 := hg3.size
  have hn3 : n3 ≤ 6 := by rw [← o3.ri.1]; omega
  clear hg3 hc3
  go_wp2_with fail
  refine (dBent_any d3 o3 (by omega) (by omega) (by omega)).mono ?_
  rintro e w4 ⟨A4, n4, c4, l4, rfl, o4, hl4, hc4, hg4⟩
  have d4 := d3.next hc4 hg4
  have HG4 := Lib.hid (HG3.out.trans hg4)
  have hs4 := hg4.size
  clear hg4 hc4 o3
  go_wp2_with fail
  refine (dString_any (K := K) (M := M) d4 (by omega)).mono ?_
  rintro e w5 ⟨A5, n5, c5, l5, rfl, o5, ⟨-, hl5, -⟩, hc5, hg5⟩
  have o45 := o4.kept_low hg5 (fun b e => by injection e with e; omega)
  have HG5 := Lib.hid (HG4.out.trans hg5)
  have hs5 := hg5.size
  clear hg5 hc5 o4
  have HF : Hid (DrawsZ2 w (.returned (.tuple #[.slice A4 n4 c4, .slice A5 n5 c5])) w5) :=
    ⟨A4, n4, c4, A5, n5, c5, l4, l5, rfl, by omega, by omega, o45.mono (by omega), o5.mono (by omega), HB1.out.grown HG5.out hs1 (fun b e => by injection e with e; omega)⟩
  clear o45 o5
  go_wp2
  go_ret2
  exact HF.out
/-- What is drawn: a list, a string of at most five, as many shifts. -/
def DrawsZ3 (w : World) : Ending → World → Prop := fun e w' =>
  ∃ A1 n1 c1 A2 n2 c2 A3 n3 c3 l1 l2 l3, e = .returned (.tuple #[.slice A1 n1 c1, .slice A2 n2 c2, .slice A3 n3 c3]) ∧ l1.length ≤ 7 ∧ (isStrB l2 = true ∧ l2.length ≤ 5) ∧ (l3.length = l2.length ∧ ∀ j, -9 ≤ nth l3 j ∧ nth l3 j ≤ 9) ∧
    OI w' w.heap.size (.slice A1 n1 c1) l1 ∧ OI w' w.heap.size (.slice A2 n2 c2) l2 ∧ OI w' w.heap.size (.slice A3 n3 c3) l3 ∧ Below w.heap.size w w'
set_option maxHeartbeats 1000000 in
theorem drawWPro_any {w : World} {A : Option Addr} {n : Nat} (c : Nat) (hb : RB w A n) :
    Calls Try.prog 47 #[.slice A n c] w (DrawsZ3 w) := by
  go_enter Try.func47, Try.ntmps47
  go_wp2_with fail
  refine (l1New_any hb).mono ?_
  rintro e w1 ⟨g, rfl, hg, d1, b1⟩
  have HB1 := Lib.hid b1
  have hs1 := b1.size
  have hglt := d1.cur.lt
  clear b1
  go_wp2_with fail
  refine (dBox5_any d1).mono ?_
  rintro e w2 ⟨k, m, rfl, ⟨⟨hm1, hm2⟩, hk1, hk2⟩, hc2, hg2⟩
  have d2 := d1.next hc2 hg2
  obtain ⟨K, rfl⟩ := Int.eq_ofNat_of_zero_le hk1
  obtain ⟨M, hM⟩ := Int.eq_ofNat_of_zero_le (a := m - K) (by omega)
  obtain rfl : m = (K : Int) + M := by omega
  clear hM hk1
  have HG2 := Lib.hid hg2
  have hs2 := hg2.size
  clear hg2 hc2
  go_wp2_with fail
  refine (dString_any (K := K) (M := M) d2 (by omega)).mono ?_
  rintro e w3 ⟨A3, n3, c3, l3, rfl, o3, ⟨-, hl3, -⟩, hc3, hg3⟩
  have d3 := d2.next hc3 hg3
  have HG3 := Lib.hid (HG2.out.trans hg3)
  have hs3 := hg3.size
  have hn3 : n3 ≤ 6 := by rw [← o3.ri.1]; omega
  clear hg3 hc3
  go_wp2_with fail
  refine (dBent_any d3 o3 (by omega) (by omega) (by omega)).mono ?_
  rintro e w4 ⟨A4, n4, c4, l4, rfl, o4, hl4, hc4, hg4⟩
  have d4 := d3.next hc4 hg4
  have HG4 := Lib.hid (HG3.out.trans hg4)
  have hs4 := hg4.size
  clear hg4 hc4 o3
  go_wp2_with fail
  refine (dString_any (K := K) (M := M) d4 (by omega)).mono ?_
  rintro e w5 ⟨A5, n5, c5, l5, rfl, o5, ⟨hst5, hl5, -⟩, hc5, hg5⟩
  have d5 := d4.next hc5 hg5
  have o45 := o4.kept_low hg5 (fun b e => by injection e with e; omega)
  have HG5 := Lib.hid (HG4.out.trans hg5)
  have hs5 := hg5.size
  have HST := Lib.hid hst5
  clear hg5 hc5 o4 hst5
  go_wp2_with fail
  refine (dShifts_any (K + M) _ d5 (by omega) (by omega)).mono ?_
  rintro e w6 ⟨A6, n6, c6, l6, rfl, o6, ⟨hl6, hy6⟩, hc6, hg6⟩
  have o46 := o45.kept_low hg6 (fun b e => by injection e with e; omega)
  have o56 := o5.kept_low hg6 (fun b e => by injection e with e; omega)
  have HG6 := Lib.hid (HG5.out.trans hg6)
  have hs6 := hg6.size
  clear hg6 hc6 o45 o5
  have HF : Hid (DrawsZ3 w (.returned (.tuple #[.slice A4 n4 c4, .slice A5 n5 c5, .slice A6 n6 c6])) w6) :=
    ⟨A4, n4, c4, A5, n5, c5, A6, n6, c6, l4, l5, l6, rfl, by omega, ⟨HST.out, by omega⟩, ⟨by omega, hy6⟩, o46.mono (by omega), o56.mono (by omega), o6.mono (by omega), HB1.out.grown HG6.out hs1 (fun b e => by injection e with e; omega)⟩
  clear o46 o56 o6 hy6
  go_wp2
  refine bodyPost_ret (v := .tuple #[.slice A4 n4 c4, .slice A5 n5 c5, .slice A6 n6 c6]) (by simp [results, Try.results47, go_sem]; try rfl) rfl ?_
  exact HF.out
end Go.Proofs.Ytnljlophgolejaa
