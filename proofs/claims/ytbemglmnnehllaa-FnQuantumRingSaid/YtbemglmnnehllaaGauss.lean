/- The shapes in a box; GaussCounts of the program and of the reference. -/
import Derived.Test.YtbemglmnnehllaaWords
import Derived.Test.YtbemglmnnehllaaShapes
namespace Go.Proofs.Ytbemglmnnehllaa
open Go.RowKit

/-- What l4Shapes leaves: the shapes behind those that were there. -/
def Adds (w : World) (base b : Nat) (v : Value) (ls : List (List Int)) : Ending → World → Prop := fun e w' =>
  ∃ v' cells', e = .returned v' ∧ OS w' base b v' ls cells' ∧ w.grownBy w' v.ownBlock ∧ From w v v'

set_option maxHeartbeats 800000 in
theorem shapesIn_any (r : Nat) : ∀ (c : Nat) (R C : Int) (w : World), R = (r : Int) → C = (c : Int) → r ≤ 7 → c ≤ 7 → Calls Try.prog 22 #[.int .i64 R, .int .i64 C] w (MakesS w (shapesIn r c)) := by
  induction r with
  | zero =>
    intro c R C w hR hC hr hc
    subst hR hC
    go_enter Try.func22, Try.ntmps22
    go_wp2
    go_loopw [5, 6, 8] (fun u i _ wr => u = .slice (some ⟨w.heap.size + 1, 0, none⟩) 1 1 ∧ i = .int .i64 1 ∧ Hid (wr = (w.alloc (.cells #[] 3)).alloc (.cells #[.slice (some ⟨w.heap.size, 0, none⟩) 0 0] 24))) (fun _ _ _ _ => 0)
    case atStart => exact ⟨rfl, rfl, rfl⟩
    case round =>
      obtain ⟨rfl, rfl, hw⟩ := hrel
      go_wp2
      go_ret
      rw [hw.out]
      refine MakesS.of (cells := [.slice (some ⟨w.heap.size, 0, none⟩) 0 0]) ?_ (((Below.refl _ _).alloc (Nat.le_refl _) _).alloc (by simp) _)
      have := OS.lit (w.alloc (.cells #[] 3)) w.heap.size w.heap.size [[]] [.slice (some ⟨w.heap.size, 0, none⟩) 0 0] (by simp) (FRs.one_ (x := .inr []) (OI.lit w w.heap.size [] 0 rfl (Nat.le_refl _) (by simp))) (Dist.one _) (by simp) 1 rfl
      simpa [shapesIn] using this
  | succ r ih =>
    intro c R C w hR hC hr hc
    have hR1 : R ≤ (r : Int) + 1 := by omega
    have hR2 : (r : Int) + 1 ≤ R := by omega
    have hC1 : C ≤ (c : Int) := by omega
    have hC2 : (c : Int) ≤ C := by omega
    have hR0 : decide (R > 0) = true := by simp; omega
    clear hR hC
    have IH := Lib.hid ih
    have hcnt := shapesIn_small hr hc
    have hcnt : 1 + (shapesUpto (shapesIn r) c).length ≤ 10000 := by simp only [shapesIn, List.length_cons] at hcnt; omega
    clear ih
    go_enter Try.func22, Try.ntmps22
    go_wp2
    go_loopw [5, 6, 8, 25] (fun u i _ _ wr => ∃ (x : Nat) (cs : List Value), x ≤ c ∧ i = .int .i64 ((x : Int) + 1) ∧ OS wr w.heap.size w.heap.size u ([[]] ++ shapesUpto (shapesIn r) x) cs ∧ Below w.heap.size w wr) (fun _ i _ _ _ => (c + 1 - intOf i).toNat)
    case atStart =>
      refine ⟨0, [.slice (some ⟨w.heap.size, 0, none⟩) 0 0], Nat.zero_le _, by simp, ?_, ((Below.refl _ _).alloc (Nat.le_refl _) _).alloc (by simp) _⟩
      have := OS.lit (w.alloc (.cells #[] 3)) w.heap.size w.heap.size [[]] [.slice (some ⟨w.heap.size, 0, none⟩) 0 0] (by simp) (FRs.one_ (x := .inr []) (OI.lit w w.heap.size [] 0 rfl (Nat.le_refl _) (by simp))) (Dist.one _) (by simp) 1 rfl
      simpa [shapesUpto] using this
    case round =>
      obtain ⟨x, cs, hx, rfl, hos, hbl⟩ := hrel
      by_cases hlt : x < c
      · have hst := upto_step (shapesIn r) hlt
        obtain ⟨wo, rfl⟩ : ∃ wo : World, wo = wr := ⟨_, rfl⟩
        go_wp2_with fail
        refine (IH.out (x + 1) _ _ wo (by omega) (by omega) (by omega) (by omega)).mono ?_
        rintro e w1 ⟨AL, nL, cL, csL, rfl, osL, hL1, ⟨hL2, hL3⟩, b1⟩
        have HL1 := Lib.hid hL1
        have hnL : nL ≤ 10000 := by omega
        have hap := OF.apart hos osL (Nat.le_refl _)
        have hos1 := OS.below hos b1
        have hty := OF.typed' hos1 (by decide)
        clear hos hL1
        have hbl1 := bnext hbl b1 hbl.size
        obtain ⟨u0, hu0⟩ : ∃ u0 : Value, u0 = u5 := ⟨_, rfl⟩
        have HU := Lib.hid hu0
        rw [← hu0] at hos1 hap hty
        clear hu0
        go_wp2
        go_loopw [5, 8, 25] (fun u _ i wr => ∃ (j : Nat) (cs2 : List Value), j ≤ nL ∧ i = .int .i64 (j : Int) ∧ OS wr w.heap.size w.heap.size u (([[]] ++ shapesUpto (shapesIn r) x) ++ ((shapesIn r (x + 1)).take j).map (fun l => ((x : Int) + 1) :: l)) cs2 ∧ Below w.heap.size w wr ∧ w1.grownBy wr u0.ownBlock ∧ From w1 u0 u) (fun _ _ i _ => (nL - intOf i).toNat)
        case atStart => exact ⟨0, cs, Nat.zero_le _, rfl, by rw [← HU.out]; simpa using hos1, hbl1, World.grownBy.refl _ _, by rw [← HU.out]; exact From.refl _ _⟩
        case round =>
          obtain ⟨j, cs2, hj, rfl, hos2, hbl2, hg2, hf2⟩ := hrel
          by_cases hlt2 : j < nL
          · have osL2 := OF.kept osL hg2 hap hty
            obtain ⟨ad, A', n', c', hA, hcell, hcs, hoi, hcc⟩ := OS.cell osL2 hlt2
            subst hA
            have hmem := nthL_lt (ls := shapesIn r (x + 1)) (k := j) (by rw [HL1.out]; exact hlt2)
            have hrow := (shapesIn_rows (r := r) (c := x + 1) (l := nthL (shapesIn r (x + 1)) j) (by rw [hmem]; exact List.getElem_mem _)).1
            rw [hoi.ri.1] at hrow
            have HM := Lib.hid hmem
            have hlen2 : (([[]] ++ shapesUpto (shapesIn r) x) ++ ((shapesIn r (x + 1)).take j).map (fun l => ((x : Int) + 1) :: l)).length + 1 ≤ 1000000000000 := by
              simp only [List.length_append, List.length_map, List.length_take, List.length_singleton]; omega
            have hsz2 := hbl2.size
            clear hmem
            go_wp2_with (first
              | (at_builtin; refine wpAppI2 rfl (.tmp 31) (.tmp 32) rfl wr.heap.size (.slice (some ⟨wr.heap.size, 0, none⟩) 1 1) [(x : Int) + 1] (nthL (shapesIn r (x + 1)) j) A' n' c' rfl rfl (by exact OI.lit wr _ [(x : Int) + 1] 1 rfl (Nat.le_refl _) (by simp)) (by exact hoi.ri.alloc _) (by simp; omega) (by simp) ?_; intro A3 n3 c3 w3 h1 h2 h3)
              | (at_builtin; refine wpAppS rfl (.tmp 29) (.tmp 34) rfl w.heap.size w.heap.size u5 _ cs2 (.slice A3 n3 c3) ([(x : Int) + 1] ++ nthL (shapesIn r (x + 1)) j) rfl rfl (by exact OS.below hos2 (((Below.refl _ _).alloc (Nat.le_refl _) _).grown h2 (by simp) (by simp [Value.ownBlock]))) (by exact h1.mono hsz2) (by exact apart_new hos2.2.1 (Nat.le_refl _) h1) hlen2 (by have := h2.size; simp at this; omega) ?_; intro v4 w4 k1 k2 k3))
            have b3 : Below wr.heap.size wr w3 := ((Below.refl _ _).alloc (Nat.le_refl _) _).grown h2 (by simp) (by simp [Value.ownBlock])
            go_roundw
            case rel =>
              refine ⟨j + 1, cs2 ++ [.slice A3 n3 c3], by omega, by go_num, ?_, ?_, ?_, ?_⟩
              · rw [map_take_succ (by rw [HL1.out]; exact hlt2), ← List.append_assoc]
                exact k1
              · exact ((bnext hbl2 b3 hsz2).alloc (Nat.le_trans hsz2 b3.size) _).grown k2 (by have := b3.size; simp; omega) (fun k hk => (OF.lt hos2 k hk).1)
              · exact grown_step (grown_alloc (grown_below hg2 b3) _) k2 (hf2.imp id fun h k hk => h k hk)
              · exact hf2.app (n := w3.heap.size + 1) (by have := hg2.size; have := b3.size; omega) k3
            case measure => simp [intOf]; omega
          · obtain rfl : j = nL := by omega
            go_wp2
            go_roundw
            case rel =>
              refine ⟨x + 1, cs2, by omega, by go_num, ?_, hbl2⟩
              have e : (shapesIn r (x + 1)).take j = shapesIn r (x + 1) := List.take_of_length_le (by rw [HL1.out]; exact Nat.le_refl _)
              rw [e] at hos2
              have e2 : [[]] ++ shapesUpto (shapesIn r) (x + 1) = ([[]] ++ shapesUpto (shapesIn r) x) ++ (shapesIn r (x + 1)).map (fun l => ((x : Int) + 1) :: l) := by
                simp [shapesUpto]
              rw [e2]
              exact hos2
            case measure => simp [intOf]; omega
      · obtain rfl : x = c := by omega
        go_wp2
        go_ret
        exact MakesS.of (by simpa [shapesIn] using hos) hbl

theorem iGauss_any {w : World} (k n : Int) : Calls Try.prog 7 #[.int .i64 k, .int .i64 n] w (Makes w (gaussB k n)) := by
  rcases Bool.eq_false_or_eq_true (boxB k n) with hb | hb
  · obtain ⟨⟨b1, b2⟩, b3, b4⟩ := boxB_iff.1 hb
    obtain ⟨K, rfl⟩ := Int.eq_ofNat_of_zero_le b3
    obtain ⟨M, hM⟩ := Int.eq_ofNat_of_zero_le (a := n - K) (by omega)
    obtain rfl : n = (K : Int) + M := by omega
    clear hM
    have HG := Lib.hid (gaussB_yes hb)
    have hKM : K * M ≤ 49 := Nat.le_trans (Nat.mul_le_mul (show K ≤ 7 by omega) (show M ≤ 7 by omega)) (by omega)
    have hsub : (K : Int) + M - K = M := by omega
    have hmul : (K : Int) * M = ((K * M : Nat) : Int) := by simp
    obtain ⟨KM, hkm⟩ : ∃ KM, KM = K * M := ⟨_, rfl⟩
    rw [← hkm] at hmul hKM
    have HKM := Lib.hid hkm
    clear hkm
    go_enter Try.func7, Try.ntmps7
    go_wp2_with (first | (go_at_call 21; refine (isBox_any _ _).mono ?_; rintro e w' ⟨rfl, q0, rfl⟩) | (at_make; refine wpMake rfl _ _ rfl (KM + 1) _ _ rfl rfl (by go_num) (by go_num) (by omega) ?_; intro w2 o2 g2 s2))
    obtain ⟨G, hG⟩ : ∃ G, G = w.heap.size := ⟨_, rfl⟩
    have o2' : OI w2 G (.slice (some ⟨G, 0, none⟩) (KM + 1) (KM + 1)) (List.replicate (KM + 1) 0) := by rw [hG]; exact o2
    have g2' : Below w.heap.size w w2 := bnext (Quiet.below ⟨_, rfl⟩) g2 (Nat.le_refl _)
    have s2' : G < w2.heap.size := by rw [hG]; exact s2
    have HGG := Lib.hid hG
    clear o2 g2 s2 hsub hmul
    rw [← hG]
    clear hG hb
    refine (shapesIn_any K M _ _ w2 rfl rfl (by omega) (by omega)).mono ?_
    rintro e w3 ⟨AL, nL, cL, csL, rfl, osL, hL1, ⟨hL2, hL3⟩, b3'⟩
    have hL4 : nL ≤ 10000 := by rw [← hL1]; exact shapesIn_small (by omega) (by omega)
    have HL1 := Lib.hid hL1
    have o3 := o2'.below b3'
    have g3 := bnext g2' b3' g2'.size
    clear hL1 o2' g2'
    go_wp2
    go_loopw [7, 25] (fun _ i wr => ∃ j : Nat, j ≤ nL ∧ i = .int .i64 (j : Int) ∧ OI wr G (.slice (some ⟨G, 0, none⟩) (KM + 1) (KM + 1)) (countsTo (shapesIn K M) (List.replicate (KM + 1) 0) j) ∧ Below w.heap.size w wr ∧ w3.grownBy wr (some G)) (fun _ i _ => nL - (intOf i).toNat)
    case atStart => exact ⟨0, Nat.zero_le _, rfl, o3, g3, World.grownBy.refl _ _⟩
    case round =>
      clear o3 g3
      obtain ⟨j, hj, rfl, ho, hbl, hg⟩ := hrel
      by_cases hlt : j < nL
      · have osL2 := OF.kept_low osL hg (fun g e => by injection e with e; omega)
        obtain ⟨ad, A', n', c', hA, hcell, _, hoi, hcc⟩ := OS.cell osL2 hlt
        subst hA
        have hmem := nthL_mem (ls := shapesIn K M) (k := j) (by rw [HL1.out]; exact hlt)
        obtain ⟨q1, q2⟩ := shapesIn_sum hmem
        have hsm := shapesIn_small_sum (by omega) hmem
        have hn' := (shapesIn_rows hmem).1
        rw [hoi.ri.1] at hn'
        rw [← HKM.out] at q2
        have hri := hoi.ri
        obtain ⟨S, hS⟩ := Int.eq_ofNat_of_zero_le q1
        have HS := Lib.hid hS
        rw [hS] at q1 q2
        have hS2 : S < KM + 1 := by omega
        have hcb := countsTo_bound (shapesIn K M) (KM + 1) j S
        have hc2 := ho.cellAt hS2
        have hf := ho.frozenAt S
        obtain ⟨T, hT⟩ : ∃ T, T = nth (countsTo (shapesIn K M) (List.replicate (KM + 1) 0) j) S := ⟨_, rfl⟩
        rw [← hT] at hcb hc2
        have hst := Lib.hid (ho.stored S (T + 1))
        have HT := Lib.hid hT
        have hsm' := Lib.hid hsm
        obtain ⟨t1, t2⟩ := hcb
        clear ho hT hsm hmem osL2 hoi
        go_wp2_with (go_at_call 23; refine (iSum_any _ hri hsm'.out (by omega)).mono ?_; rintro e w' ⟨rfl, q0, rfl⟩)
        go_roundw
        case rel =>
          refine ⟨j + 1, by omega, by go_num, ?_, below_drewN (hbl.setCell (by rw [HGG.out]; exact Nat.le_refl _) _) _, ?_⟩
          · rw [countsTo, HS.out, Int.toNat_natCast, ← HT.out]
            exact hst.out.1.below (Quiet.below ⟨_, rfl⟩)
          · exact (hg.trans hst.out.2).trans ⟨rfl, rfl, rfl, Nat.le_refl _, fun _ _ _ => rfl⟩
        case measure => simp [intOf]; omega
      · obtain rfl : j = nL := by omega
        have HO := Lib.hid ho
        clear ho
        go_wp2
        go_ret
        have e : countsTo (shapesIn K M) (List.replicate (KM + 1) 0) j = gaussB (K : Int) ((K : Int) + M) := by rw [HG.out, HL1.out, HKM.out]
        rw [← e]
        exact Makes.of (HO.out.mono (by rw [HGG.out]; exact Nat.le_refl _)) hbl (by rw [countsTo_len, List.length_replicate]; omega)
  · have HG := Lib.hid (gaussB_no hb)
    go_enter Try.func7, Try.ntmps7
    go_wp2_with (go_at_call 21; refine (isBox_any _ _).mono ?_; rintro e w' ⟨rfl, q0, rfl⟩)
    go_ret
    rw [HG.out]
    exact Makes.nil (Quiet.below ⟨_, rfl⟩)

end Go.Proofs.Ytbemglmnnehllaa
