/- slices.Compare and slices.Clone at []int; the closures that compare a part's shape with another. -/
import Derived.Test.YtgbojgmmingfdaaPlain
import Derived.Test.YtgbojgmmingfdaaShapes
import Derived.Test.YtgbojgmmingfdaaDraw
namespace Go.Proofs.Ytgbojgmmingfdaa
open Go.RowKit

theorem cmpB_same {a b : List Int} {k : Nat} (ha : k < a.length) (hb : k < b.length) (h : nth a k = nth b k) : cmpB (a.drop k) (b.drop k) = cmpB (a.drop (k + 1)) (b.drop (k + 1)) := by
  unfold cmpB
  rw [lexLt_same ha hb h, drop_nth ha, drop_nth hb, h]
  simp only [List.cons.injEq, true_and]
theorem cmpB_lt {a b : List Int} {k : Nat} (ha : k < a.length) (hb : k < b.length) (h : nth a k < nth b k) : cmpB (a.drop k) (b.drop k) = -1 := by
  unfold cmpB
  rw [lexLt_diff ha hb (by omega), if_pos (by simpa using h)]
theorem cmpB_gt {a b : List Int} {k : Nat} (ha : k < a.length) (hb : k < b.length) (h : nth b k < nth a k) : cmpB (a.drop k) (b.drop k) = 1 := by
  unfold cmpB
  rw [lexLt_diff ha hb (by omega), if_neg (by simp; omega), drop_nth ha, drop_nth hb, if_neg (by simp; omega)]
theorem cmpB_end1 {a b : List Int} {k : Nat} (ha : k = a.length) (hb : k < b.length) : cmpB (a.drop k) (b.drop k) = -1 := by
  unfold cmpB
  rw [lexLt_end (.inl ha) (by omega) (by omega), if_pos (by simp; omega)]
theorem cmpB_end0 {a b : List Int} {k : Nat} (ha : k = a.length) (hb : k = b.length) : cmpB (a.drop k) (b.drop k) = 0 := by
  unfold cmpB
  rw [lexLt_end (.inl ha) (by omega) (by omega), if_neg (by simp; omega), List.drop_eq_nil_of_le (by omega), List.drop_eq_nil_of_le (by omega), if_pos rfl]
theorem cmpB_end2 {a b : List Int} {k : Nat} (ha : k < a.length) (hb : k = b.length) : cmpB (a.drop k) (b.drop k) = 1 := by
  unfold cmpB
  rw [lexLt_end (.inr hb) (by omega) (by omega), if_neg (by simp; omega), drop_nth ha, show b.drop k = [] from List.drop_eq_nil_of_le (by omega), if_neg (by simp)]

theorem isNaN_any {w : World} (a : Int) : Calls Try.prog 185 #[.int .i64 a] w (Gives w (.bool false)) := by
  go_enter Try.func185, Try.ntmps185
  go_wp2
  go_ret
  exact ⟨by simp, Quiet.refl _⟩
theorem icmp_lt {w : World} {a b : Int} (h : a < b) : Calls Try.prog 147 #[.int .i64 a, .int .i64 b] w (Gives w (.int .i64 (-1))) := by
  go_enter Try.func147, Try.ntmps147
  go_wp2_with (go_at_call 185; refine (isNaN_any _).mono ?_; rintro e w' ⟨rfl, q0, rfl⟩)
  go_ret
  exact ⟨rfl, (by first | exact ⟨_, rfl⟩ | exact ⟨_, (World.drewN_drewN _ _ _).symm⟩ | exact Quiet.refl _ | (simp only [World.drewN_drewN]; exact ⟨_, rfl⟩))⟩
theorem icmp_gt {w : World} {a b : Int} (h : b < a) : Calls Try.prog 147 #[.int .i64 a, .int .i64 b] w (Gives w (.int .i64 1)) := by
  have h' : ¬ a < b := by omega
  go_enter Try.func147, Try.ntmps147
  go_wp2_with (go_at_call 185; refine (isNaN_any _).mono ?_; rintro e w' ⟨rfl, q0, rfl⟩)
  go_ret
  exact ⟨rfl, (by first | exact ⟨_, rfl⟩ | exact ⟨_, (World.drewN_drewN _ _ _).symm⟩ | exact Quiet.refl _ | (simp only [World.drewN_drewN]; exact ⟨_, rfl⟩))⟩
theorem icmp_eq {w : World} {a : Int} : Calls Try.prog 147 #[.int .i64 a, .int .i64 a] w (Gives w (.int .i64 0)) := by
  go_enter Try.func147, Try.ntmps147
  go_wp2_with (go_at_call 185; refine (isNaN_any _).mono ?_; rintro e w' ⟨rfl, q0, rfl⟩)
  go_ret
  exact ⟨rfl, (by first | exact ⟨_, rfl⟩ | exact ⟨_, (World.drewN_drewN _ _ _).symm⟩ | exact Quiet.refl _ | (simp only [World.drewN_drewN]; exact ⟨_, rfl⟩))⟩
theorem ret_int {a b : Int} (h : a = b) : Ending.returned (.int .i64 a) = .returned (.int .i64 b) := by rw [h]

theorem compare_any {A C : Option Addr} {n m : Nat} {xs ys : List Int} {w : World} (c d : Nat) (hx : RI w A n xs) (hy : RI w C m ys) (hn : n ≤ 9223372036854775807) (hm : m ≤ 9223372036854775807) :
    Calls Try.prog 82 #[.slice A n c, .slice C m d] w (Gives w (.int .i64 (cmpB xs ys))) := by
  have HL1 := Lib.hid hx.1
  have HL2 := Lib.hid hy.1
  go_enter Try.func82, Try.ntmps82
  go_wp2
  go_loopw [5, 6, 7, 8, 11] (fun _ _ _ _ i wr => ∃ k : Nat, k ≤ n ∧ k ≤ m ∧ i = .int .i64 k ∧ Quiet w wr ∧ Hid (cmpB (xs.drop k) (ys.drop k) = cmpB xs ys)) (fun _ _ _ _ i _ => n - (intOf i).toNat)
  case atStart => exact ⟨0, Nat.zero_le _, Nat.zero_le _, rfl, (by first | exact ⟨_, rfl⟩ | exact ⟨_, (World.drewN_drewN _ _ _).symm⟩ | exact Quiet.refl _ | (simp only [World.drewN_drewN]; exact ⟨_, rfl⟩)), rfl⟩
  case round =>
    obtain ⟨k, hk, hk2, rfl, ⟨q, rfl⟩, HT⟩ := hrel
    by_cases hlt : k < n
    · obtain ⟨ad, hA, hc⟩ := hx.cell hlt
      subst hA
      by_cases hlt2 : k < m
      · obtain ⟨ad', hA', hc'⟩ := hy.cell hlt2
        subst hA'
        obtain ⟨x, hxx⟩ : ∃ x, x = nth xs k := ⟨_, rfl⟩
        obtain ⟨y, hyy⟩ : ∃ y, y = nth ys k := ⟨_, rfl⟩
        rw [← hxx] at hc
        rw [← hyy] at hc'
        have HX := Lib.hid hxx
        have HY := Lib.hid hyy
        clear hxx hyy
        rcases Int.lt_trichotomy x y with h | h | h
        · go_wp2_with (go_at_call 147; refine (icmp_lt h).mono ?_; rintro e w' ⟨rfl, q0, rfl⟩)
          go_ret
          exact ⟨ret_int ((cmpB_lt (by rw [HL1.out]; exact hlt) (by rw [HL2.out]; exact hlt2) (by rw [← HX.out, ← HY.out]; exact h)).symm.trans HT.out), (by first | exact ⟨_, rfl⟩ | exact ⟨_, (World.drewN_drewN _ _ _).symm⟩ | exact Quiet.refl _ | (simp only [World.drewN_drewN]; exact ⟨_, rfl⟩))⟩
        · subst h
          go_wp2_with (go_at_call 147; refine (icmp_eq).mono ?_; rintro e w' ⟨rfl, q0, rfl⟩)
          go_roundw
          case rel => exact ⟨k + 1, by omega, by omega, by go_num, (by first | exact ⟨_, rfl⟩ | exact ⟨_, (World.drewN_drewN _ _ _).symm⟩ | exact Quiet.refl _ | (simp only [World.drewN_drewN]; exact ⟨_, rfl⟩)), (cmpB_same (by rw [HL1.out]; exact hlt) (by rw [HL2.out]; exact hlt2) (by rw [← HX.out, ← HY.out])).symm.trans HT.out⟩
          case measure => simp [intOf]; omega
        · go_wp2_with (go_at_call 147; refine (icmp_gt h).mono ?_; rintro e w' ⟨rfl, q0, rfl⟩)
          go_ret
          exact ⟨ret_int ((cmpB_gt (by rw [HL1.out]; exact hlt) (by rw [HL2.out]; exact hlt2) (by rw [← HX.out, ← HY.out]; exact h)).symm.trans HT.out), (by first | exact ⟨_, rfl⟩ | exact ⟨_, (World.drewN_drewN _ _ _).symm⟩ | exact Quiet.refl _ | (simp only [World.drewN_drewN]; exact ⟨_, rfl⟩))⟩
      · go_wp2
        go_ret
        exact ⟨ret_int ((cmpB_end2 (by rw [HL1.out]; exact hlt) (by rw [HL2.out]; omega)).symm.trans HT.out), (by first | exact ⟨_, rfl⟩ | exact ⟨_, (World.drewN_drewN _ _ _).symm⟩ | exact Quiet.refl _ | (simp only [World.drewN_drewN]; exact ⟨_, rfl⟩))⟩
    · obtain rfl : k = n := by omega
      by_cases hlt2 : k < m
      · go_wp2
        go_ret
        exact ⟨ret_int ((cmpB_end1 HL1.out.symm (by rw [HL2.out]; exact hlt2)).symm.trans HT.out), (by first | exact ⟨_, rfl⟩ | exact ⟨_, (World.drewN_drewN _ _ _).symm⟩ | exact Quiet.refl _ | (simp only [World.drewN_drewN]; exact ⟨_, rfl⟩))⟩
      · go_wp2
        go_ret
        exact ⟨ret_int ((cmpB_end0 HL1.out.symm (by rw [HL2.out]; omega)).symm.trans HT.out), (by first | exact ⟨_, rfl⟩ | exact ⟨_, (World.drewN_drewN _ _ _).symm⟩ | exact Quiet.refl _ | (simp only [World.drewN_drewN]; exact ⟨_, rfl⟩))⟩

theorem clone_any {A : Option Addr} {n : Nat} {l : List Int} {w : World} (c : Nat) (hx : RI w A n l) (hn : n ≤ 1000000000) :
    Calls Try.prog 134 #[.slice A n c] w (Makes w l) := by
  have heq := fun (w : World) (a : Option Addr) (n c : Nat) => Lib.run_eql_slice_nil (P := Try.prog) w 22 3 a n c 0 0 Try.underlying22
  rcases A with _ | ad
  · have hn0 : n = 0 := by
      rcases Nat.eq_zero_or_pos n with h | h
      · exact h
      · obtain ⟨_, e, _⟩ := hx.2 h; cases e
    subst hn0
    obtain rfl : l = [] := List.eq_nil_of_length_eq_zero hx.1
    go_enter Try.func134, Try.ntmps134
    go_wp2
    go_ret
    exact Makes.nil (Below.refl _ _)
  · have HL := Lib.hid hx.1
    go_enter Try.func134, Try.ntmps134
    go_wp2_with (at_builtin; refine wpAppI2 rfl _ _ rfl w.heap.size (.slice (some ⟨w.heap.size, 0, none⟩) 0 0) [] l (some ad) n c rfl rfl (by exact OI.lit w w.heap.size [] 0 rfl (Nat.le_refl _) (by simp)) (by exact hx.alloc _) (by simp; omega) (by simp) ?_; intro A3 n3 c3 w3 h1 h2 h3)
    go_ret
    rw [List.nil_append] at h1
    exact Makes.of h1 (((Below.refl _ _).alloc (Nat.le_refl _) _).grown h2 (by simp) (by simp [Value.ownBlock])) (by rw [HL.out]; omega)

/-- A part's shape is compared with another. -/
theorem partCmp_any {A C : Option Addr} {n m : Nat} {xs ys : List Int} {w : World} (p : Int) (c d : Nat) (hx : RI w A n xs) (hy : RI w C m ys) (hn : n ≤ 9223372036854775807) (hm : m ≤ 9223372036854775807) :
    Calls Try.prog 178 #[.agg #[.slice A n c, .int .i64 p], .slice C m d] w (GivesB w (.int .i64 (cmpB xs ys))) := by
  go_enter Try.func178, Try.ntmps178
  go_wp2_with fail
  refine (compare_any _ _ (hx.alloc _) (hy.alloc _) hn hm).mono ?_
  rintro e w1 ⟨rfl, q, rfl⟩
  go_wp2
  go_ret
  exact ⟨rfl, below_drewN ((Below.refl _ _).alloc (Nat.le_refl _) _) _⟩
end Go.Proofs.Ytgbojgmmingfdaa
