/- slices.Contains, l1Has; GrassmannianPerm of the program and of the reference. -/
import Derived.Test.YtmodpicemlkbjaaShapes
namespace Go.Proofs.Ytmodpicemlkbjaa
open Go.RowKit

theorem l1Has_any {A : Option Addr} {n : Nat} {l : List Int} {w : World} (c : Nat) (x : Int) (hx : RI w A n l) (hn : n ≤ 1000000000) :
    Calls Try.prog 118 #[.slice A n c, .int .i64 x] w (Gives w (.bool (hasB l x))) := by
  have HL := Lib.hid hx.1
  go_enter Try.func118, Try.ntmps118
  go_wp2
  go_loopw [5] (fun i wr => ∃ k : Nat, k ≤ n ∧ i = .int .i64 k ∧ Quiet w wr ∧ ∀ j, j < k → nth l j ≠ x) (fun i _ => n - (intOf i).toNat)
  case atStart => exact ⟨0, Nat.zero_le _, rfl, (by first | exact ⟨_, rfl⟩ | exact ⟨_, (World.drewN_drewN _ _ _).symm⟩ | exact Quiet.refl _ | (simp only [World.drewN_drewN]; exact ⟨_, rfl⟩)), by simp⟩
  case round =>
    obtain ⟨k, hk, rfl, ⟨q, rfl⟩, ht⟩ := hrel
    have HT := Lib.hid ht
    clear ht
    by_cases hlt : k < n
    · obtain ⟨ad, hA, hc⟩ := hx.cell hlt
      subst hA
      by_cases he : nth l k = x
      · have HE := Lib.hid he
        have he' : (nth l k == x) = true := by simpa using he
        clear he
        go_wp2
        go_ret
        exact ⟨ret_bool (hasB_yes HL.out hlt HE.out).symm, (by first | exact ⟨_, rfl⟩ | exact ⟨_, (World.drewN_drewN _ _ _).symm⟩ | exact Quiet.refl _ | (simp only [World.drewN_drewN]; exact ⟨_, rfl⟩))⟩
      · have he' : (nth l k == x) = false := by simpa using he
        have HE := Lib.hid he
        clear he
        go_wp2
        go_roundw
        case rel => exact ⟨k + 1, by omega, by go_num, (by first | exact ⟨_, rfl⟩ | exact ⟨_, (World.drewN_drewN _ _ _).symm⟩ | exact Quiet.refl _ | (simp only [World.drewN_drewN]; exact ⟨_, rfl⟩)), upTo (P := fun j => nth l j ≠ x) HT.out HE.out⟩
        case measure => simp [intOf]; omega
    · go_wp2
      go_ret
      exact ⟨ret_bool (hasB_no HL.out (fun j hj => HT.out j (by omega))).symm, (by first | exact ⟨_, rfl⟩ | exact ⟨_, (World.drewN_drewN _ _ _).symm⟩ | exact Quiet.refl _ | (simp only [World.drewN_drewN]; exact ⟨_, rfl⟩))⟩

/-- slices.Index at []int: 0 or more where the number is there, else -1. -/
theorem index_any {A : Option Addr} {n : Nat} {l : List Int} {w : World} (c : Nat) (x : Int) (hx : RI w A n l) (hn : n ≤ 1000000000) :
    Calls Try.prog 147 #[.slice A n c, .int .i64 x] w (fun e w' => ∃ i : Int, e = .returned (.int .i64 i) ∧ Quiet w w' ∧ decide (i ≥ 0) = hasB l x) := by
  have HL := Lib.hid hx.1
  go_enter Try.func147, Try.ntmps147
  go_wp2
  go_loopw [5, 8] (fun _ i wr => ∃ k : Nat, k ≤ n ∧ i = .int .i64 k ∧ Quiet w wr ∧ ∀ j, j < k → nth l j ≠ x) (fun _ i _ => n - (intOf i).toNat)
  case atStart => exact ⟨0, Nat.zero_le _, rfl, (by first | exact ⟨_, rfl⟩ | exact ⟨_, (World.drewN_drewN _ _ _).symm⟩ | exact Quiet.refl _ | (simp only [World.drewN_drewN]; exact ⟨_, rfl⟩)), by simp⟩
  case round =>
    obtain ⟨k, hk, rfl, ⟨q, rfl⟩, ht⟩ := hrel
    have HT := Lib.hid ht
    clear ht
    by_cases hlt : k < n
    · obtain ⟨ad, hA, hc⟩ := hx.cell hlt
      subst hA
      by_cases he : nth l k = x
      · have HE := Lib.hid he
        have he' : (x == nth l k) = true := by rw [he]; simp
        clear he
        go_wp2
        go_ret
        exact ⟨_, rfl, (by first | exact ⟨_, rfl⟩ | exact ⟨_, (World.drewN_drewN _ _ _).symm⟩ | exact Quiet.refl _ | (simp only [World.drewN_drewN]; exact ⟨_, rfl⟩)), by rw [hasB_yes HL.out hlt HE.out]; simp⟩
      · have he' : (x == nth l k) = false := by simp; exact fun h => he h.symm
        have HE := Lib.hid he
        clear he
        go_wp2
        go_roundw
        case rel => exact ⟨k + 1, by omega, by go_num, (by first | exact ⟨_, rfl⟩ | exact ⟨_, (World.drewN_drewN _ _ _).symm⟩ | exact Quiet.refl _ | (simp only [World.drewN_drewN]; exact ⟨_, rfl⟩)), upTo (P := fun j => nth l j ≠ x) HT.out HE.out⟩
        case measure => simp [intOf]; omega
    · go_wp2
      go_ret
      exact ⟨_, rfl, (by first | exact ⟨_, rfl⟩ | exact ⟨_, (World.drewN_drewN _ _ _).symm⟩ | exact Quiet.refl _ | (simp only [World.drewN_drewN]; exact ⟨_, rfl⟩)), by rw [hasB_no HL.out (fun j hj => HT.out j (by omega))]; simp⟩

theorem contains_any {A : Option Addr} {n : Nat} {l : List Int} {w : World} (c : Nat) (x : Int) (hx : RI w A n l) (hn : n ≤ 1000000000) :
    Calls Try.prog 129 #[.slice A n c, .int .i64 x] w (Gives w (.bool (hasB l x))) := by
  go_enter Try.func129, Try.ntmps129
  go_wp2_with fail
  refine (index_any _ _ hx hn).mono ?_
  rintro e w1 ⟨i, rfl, ⟨q, rfl⟩, hi⟩
  have HI := Lib.hid hi
  clear hi
  go_wp2
  go_ret
  exact ⟨ret_bool HI.out, (by first | exact ⟨_, rfl⟩ | exact ⟨_, (World.drewN_drewN _ _ _).symm⟩ | exact Quiet.refl _ | (simp only [World.drewN_drewN]; exact ⟨_, rfl⟩))⟩

theorem iGrass_any {A : Option Addr} {n0 : Nat} {l : List Int} {w : World} (c : Nat) (k n : Int) (hx : RI w A n0 l) (hn : n0 ≤ 1000000000) :
    Calls Try.prog 101 #[.slice A n0 c, .int .i64 k, .int .i64 n] w (Makes w (grassB l k n)) := by
  rcases Bool.eq_false_or_eq_true (inBoxB l k n) with hb | hb
  · obtain ⟨hb1, hb2, hb3, hb4⟩ := inBoxB_iff.1 hb
    obtain ⟨⟨b1, b2⟩, b3, b4⟩ := boxB_iff.1 hb1
    obtain ⟨K, rfl⟩ := Int.eq_ofNat_of_zero_le b3
    obtain ⟨M, rfl⟩ := Int.eq_ofNat_of_zero_le (a := n) (by omega)
    have HG := Lib.hid (grassB_yes hb)
    have HB := Lib.hid hb
    clear hb1 hb2 hb3 hb4
    go_enter Try.func101, Try.ntmps101
    go_wp2_with (go_at_call 49; refine (iIsInBox_any _ _ _ hx hn).mono ?_; rintro e w' ⟨rfl, q0, rfl⟩)
    clear hb
    go_loopw [7, 8, 17] (fun v _ i wr => ∃ j : Nat, j ≤ K ∧ i = .int .i64 j ∧ OI wr w.heap.size v (gen (grassRow l K) j) ∧ Below w.heap.size w wr) (fun _ _ i _ => K - (intOf i).toNat)
    case atStart => exact ⟨0, by omega, rfl, (OI.lit w w.heap.size [] 0 rfl (Nat.le_refl _) (by simp)).below (Quiet.below ⟨_, rfl⟩), below_drewN ((Below.refl _ _).alloc (Nat.le_refl _) _) _⟩
    case round =>
      obtain ⟨j, hj, rfl, ho, hbl⟩ := hrel
      have hxr := hx.below hbl
      by_cases hlt : j < K
      · obtain ⟨r1, r2⟩ := grassRow_range HB.out hlt
        unfold grassRow at r1 r2
        have ht : ((K : Int) - 1 - j).toNat = K - 1 - j := by omega
        go_wp2_with (first
          | (go_at_call 73; refine (rowOf_any _ _ hxr (by omega) (by omega)).mono ?_; rintro e w' ⟨rfl, q0, rfl⟩)
          | (at_builtin; refine wpAppI rfl _ _ rfl w.heap.size _ (gen (grassRow l K) j) [grassRow l K j] (some ⟨wr.heap.size, 0, none⟩) 1 1 rfl rfl (by exact ho.alloc _) (by exact RI.one wr _) (by rw [gen_len]; omega) (by have := hbl.size; simp; omega) ?_; intro v' w' h1 h2 h3))
        go_roundw
        case rel => exact ⟨j + 1, by omega, by go_num, by rw [gen_succ]; exact h1, (below_drewN (hbl.alloc hbl.size _) _).grown h2 (by have := hbl.size; simp; omega) (fun k hk => (ho.lt k hk).1)⟩
        case measure => simp [intOf]; omega
      · obtain rfl : j = K := by omega
        clear hxr
        obtain ⟨wo, rfl⟩ : ∃ wo : World, wo = wr := ⟨_, rfl⟩
        go_wp2
        go_loopw [7, 9, 33] (fun v _ i wr2 => ∃ m : Nat, m ≤ M ∧ i = .int .i64 m ∧ OI wr2 w.heap.size v (gen (grassRow l j) j ++ restTo (gen (grassRow l j) j) m) ∧ Below w.heap.size w wr2) (fun _ _ i _ => M - (intOf i).toNat)
        case atStart => exact ⟨0, by omega, rfl, by simpa [restTo] using ho, hbl⟩
        case round =>
          clear ho hbl
          obtain ⟨m, hm, rfl, ho, hbl⟩ := hrel
          by_cases hlt2 : m < M
          · obtain ⟨A1, n1, c1, rfl, hr, hcc, hm1, _⟩ := ho.form
            have hlen := hr.1
            rw [List.length_append, gen_len] at hlen
            have hrl := restTo_len (gen (grassRow l j) j) m
            have hj1 : j ≤ n1 := by omega
            have hn1 : n1 ≤ 100 := by omega
            clear hlen hrl
            have ht1 := hr.take hj1
            have e1 : (gen (grassRow l j) j ++ restTo (gen (grassRow l j) j) m).take j = gen (grassRow l j) j := by
              have := List.take_left (l₁ := gen (grassRow l j) j) (l₂ := restTo (gen (grassRow l j) j) m)
              rwa [gen_len] at this
            rw [e1] at ht1
            clear e1
            rcases Bool.eq_false_or_eq_true (hasB (gen (grassRow l j) j) m) with hh | hh
            · have HH := Lib.hid hh
              go_wp2_with (go_at_call 129; refine (contains_any _ _ ht1 (by omega)).mono ?_; rintro e w' ⟨rfl, q0, rfl⟩)
              go_roundw
              case rel => exact ⟨m + 1, by omega, by go_num, by rw [restTo_has HH.out]; exact ho.below (Quiet.below ⟨_, rfl⟩), below_drewN hbl _⟩
              case measure => simp [intOf]; omega
            · have HH := Lib.hid hh
              go_wp2_with (first
                | (go_at_call 129; refine (contains_any _ _ ht1 (by omega)).mono ?_; rintro e w' ⟨rfl, q0, rfl⟩)
                | (at_builtin; refine wpAppI rfl _ _ rfl w.heap.size _ (gen (grassRow l j) j ++ restTo (gen (grassRow l j) j) m) [(m : Int)] (some ⟨wr.heap.size, 0, none⟩) 1 1 rfl rfl (by exact ho.alloc _) (by exact RI.one wr _) (by rw [hr.1]; omega) (by have := hbl.size; simp; omega) ?_; intro v' w' h1 h2 h3))
              go_roundw
              case rel => exact ⟨m + 1, by omega, by go_num, by rw [restTo_not HH.out, ← List.append_assoc]; exact h1, (below_drewN (hbl.alloc hbl.size _) _).grown h2 (by have := hbl.size; simp; omega) (fun k hk => (ho.lt k hk).1)⟩
              case measure => simp [intOf]; omega
          · obtain rfl : m = M := by omega
            go_wp2
            go_ret
            rw [HG.out]
            exact Makes.of ho hbl (by have := restTo_len (gen (grassRow l j) j) m; rw [List.length_append, gen_len]; omega)
  · have HG := Lib.hid (grassB_no hb)
    go_enter Try.func101, Try.ntmps101
    go_wp2_with (go_at_call 49; refine (iIsInBox_any _ _ _ hx hn).mono ?_; rintro e w' ⟨rfl, q0, rfl⟩)
    go_ret
    rw [HG.out]
    exact Makes.nil (Quiet.below ⟨_, rfl⟩)

end Go.Proofs.Ytmodpicemlkbjaa
