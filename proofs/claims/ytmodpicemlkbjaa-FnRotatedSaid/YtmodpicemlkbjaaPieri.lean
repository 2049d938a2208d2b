/- PieriShapes of the program and of the reference. -/
import Derived.Test.YtmodpicemlkbjaaAdd
import Derived.Test.YtmodpicemlkbjaaGauss
namespace Go.Proofs.Ytmodpicemlkbjaa
open Go.RowKit

/-- What a function leaves that returns a new slice of parts and a bool. -/
def MakesPb (w : World) (ps : List (List Int × Int)) (ok : Bool) : Ending → World → Prop := fun e w' =>
  ∃ A n c cells, e = .returned (.tuple #[.slice A n c, .bool ok]) ∧ OP w' w.heap.size w.heap.size (.slice A n c) ps cells ∧ ps.length = n ∧ (n ≤ c ∧ c ≤ 9223372036854775807) ∧ Below w.heap.size w w'
theorem MakesPb.of {w w' : World} {v : Value} {ps : List (List Int × Int)} {cells : List Value} {ok : Bool} (h : OP w' w.heap.size w.heap.size v ps cells) (hb : Below w.heap.size w w') : MakesPb w ps ok (.returned (.tuple #[v, .bool ok])) w' := by
  obtain ⟨A, n, c, rfl, h1, h2, h3⟩ := h.form
  exact ⟨A, n, c, cells, rfl, h, h1, ⟨h2, h3⟩, hb⟩

theorem apart_sub {cs csL : List Value} {j : Nat} {u : Value} (h : Hid (∀ u' ∈ cs, u'.ownBlock = none ∨ ∃ i, i < j ∧ csL[i]? = some u')) (hd : Dist csL) (hu : csL[j]? = some u) : ∀ u' ∈ cs, u'.ownBlock = none ∨ u'.ownBlock ≠ u.ownBlock := by
  intro u' hu'
  rcases h.out u' hu' with h1 | ⟨i, hi, h1⟩
  · exact .inl h1
  · exact hd i j u' u hi h1 hu

set_option maxHeartbeats 1600000 in
theorem iPieri_any {A : Option Addr} {n0 : Nat} {s : List Int} {w : World} (c : Nat) (k n p : Int) (hx : RI w A n0 s) (hn : n0 ≤ 1000000000) :
    Calls Try.prog 24 #[.slice A n0 c, .int .i64 k, .int .i64 n, .int .i64 p] w (MakesPb w (pieriB s k n p) (pieriOk s k n p)) := by
  rcases Bool.eq_false_or_eq_true (inBoxB s k n) with hb | hb
  · obtain ⟨hb1, hb2, hb3, hb4⟩ := inBoxB_iff.1 hb
    obtain ⟨⟨b1, b2⟩, b3, b4⟩ := boxB_iff.1 hb1
    obtain ⟨K, rfl⟩ := Int.eq_ofNat_of_zero_le b3
    obtain ⟨M, hM⟩ := Int.eq_ofNat_of_zero_le (a := n - K) (by omega)
    obtain rfl : n = (K : Int) + M := by omega
    clear hM
    have hsub : (K : Int) + M - K = M := by omega
    have HS := Lib.hid hb2
    have hss := sumL_shape hb2
    have HSm := Lib.hid (small_shape hb2)
    have hsl : n0 ≤ 7 := by rw [hx.1] at hb3; omega
    have HB := Lib.hid hb
    clear hb1 hb2 hb3 hb4
    by_cases hp : 0 ≤ p ∧ p ≤ M
    · obtain ⟨hp1, hp2⟩ := hp
      have HO : Hid (pieriOk s K ((K : Int) + M) p = true) := by show pieriOk _ _ _ _ = true; simp [pieriOk, HB.out, inB]; omega
      go_enter Try.func24, Try.ntmps24
      go_wp2_with (go_at_call 49; refine (iIsInBox_any _ _ _ hx hn).mono ?_; rintro e w' ⟨rfl, q0, rfl⟩)
      obtain ⟨u0, hu0⟩ : ∃ u0 : Value, u0 = .slice (some ⟨w.heap.size, 0, none⟩) 0 0 := ⟨_, rfl⟩
      have hos0 : OP ((w.drewN q0).alloc (.cells #[] 65)) w.heap.size w.heap.size u0 [] [] := by rw [hu0]; exact OP.lit w _ _ (Nat.le_refl _)
      clear hb
      refine (shapesIn_any K M _ _ _ rfl rfl (by omega) (by omega)).mono ?_
      rintro e w1 ⟨AL, nL, cL, csL, rfl, osL, hL1, ⟨hL2, hL3⟩, b1'⟩
      have hL4 : nL ≤ 10000 := by rw [← hL1]; exact shapesIn_small (by omega) (by omega)
      have HL1 := Lib.hid hL1
      have HU := Lib.hid hu0
      have hos1 := OP.below hos0 b1'
      have hap := OF.apart hos0 osL (by simp)
      have hty := OF.typed' hos1 (by decide)
      have g1 : Below w.heap.size w w1 := bnext (below_drewN ((Below.refl _ _).alloc (Nat.le_refl _) _) _) b1' (by simp)
      clear hos0 hL1 hu0
      go_wp2
      go_loopw [10, 12, 13, 14, 38] (fun u _ _ _ i wr => ∃ (j : Nat) (cs : List Value), j ≤ nL ∧ i = .int .i64 (j : Int) ∧ OP wr w.heap.size w.heap.size u (pieriTo (shapesIn K M) s p (K - 1) j) cs ∧ Below w.heap.size w wr ∧ w1.grownBy wr u0.ownBlock ∧ From w1 u0 u ∧ Hid (∀ u' ∈ cs, u'.ownBlock = none ∨ ∃ i, i < j ∧ csL[i]? = some u')) (fun _ _ _ _ i _ => nL - (intOf i).toNat)
      case atStart => exact ⟨0, [], Nat.zero_le _, rfl, by rw [← HU.out]; exact hos1, g1, World.grownBy.refl _ _, by rw [← HU.out]; exact From.refl _ _, fun u' h => by cases h⟩
      case round =>
        clear hos1 g1
        obtain ⟨j, cs, hj, rfl, hos, hbl, hg, hf, hcs⟩ := hrel
        by_cases hlt : j < nL
        · obtain ⟨wo, rfl⟩ : ∃ wo : World, wo = wr := ⟨_, rfl⟩
          have osL2 := OF.kept osL hg hap hty
          obtain ⟨ad, A', n', c', hA, hcell, hcs2, hoi, hcc⟩ := OS.cell osL2 hlt
          subst hA
          have hmem := nthL_mem (ls := shapesIn K M) (k := j) (by rw [HL1.out]; exact hlt)
          have hshape := (box_ok (k := K) (m := M) (by omega)).2 _ hmem
          have hn' := (shapesIn_rows hmem).1
          rw [hoi.ri.1] at hn'
          have hsc := sumL_shape hshape
          have hsm := Lib.hid (small_shape hshape)
          have hri := hoi.ri
          have hxr := hx.below hbl
          obtain ⟨C, hC⟩ : ∃ C, C = nthL (shapesIn K M) j := ⟨_, rfl⟩
          have HC := Lib.hid hC
          rw [← hC] at hri hoi hsc hsm
          have HW := Lib.hid (containsB_within hshape HS.out)
          rw [← hC] at HW
          have HCL := Lib.hid hri.1
          clear hmem hshape osL2 hC
          rcases hcb : containsB C s with _ | _
          · have HF0 : Hid (fitTo C s p 0 = false) := by
              show fitTo C s p 0 = false
              rw [fitTo_zero, fit0, ← HW.out, hcb]; simp
            have hqb := trivial
            go_wp2_with (first
              | (go_at_call 71; refine (contains_any' _ _ hri hxr (by omega) (by omega)).mono ?_; rintro e w' ⟨rfl, q0, rfl⟩)
              | (go_at_call 72; refine (iSum_any _ (by first | exact hri.drewN _ | exact hxr.drewN _ | exact hri | exact hxr) (by first | exact hsm.out | exact HSm.out) (by omega)).mono ?_; rintro e w' ⟨rfl, q0, rfl⟩))
            clear hcb hqb
            go_loopw [13, 14] (fun f i wr => ∃ q : Nat, (q + 1 ≤ n' ∨ q = 0) ∧ i = .int .i64 ((q : Int) + 1) ∧ f = .bool (fitTo C s p q) ∧ Quiet wo wr) (fun _ i _ => (n' + 1 - intOf i).toNat)
            case atStart => exact ⟨0, .inr rfl, by simp, by rw [HF0.out], (by first | exact ⟨_, rfl⟩ | exact ⟨_, (World.drewN_drewN _ _ _).symm⟩ | exact Quiet.refl _ | (simp only [World.drewN_drewN]; exact ⟨_, rfl⟩))⟩
            case round =>
              obtain ⟨q, hq, rfl, rfl, ⟨qq, rfl⟩⟩ := hrel
              by_cases hlt2 : q + 1 < n'
              · obtain ⟨ad2, hA2, hc2⟩ := hri.cell (k := q + 1) hlt2
                subst hA2
                have hc2' : wo.cell? ⟨ad2.block, ad2.off + (q + 1), none⟩ = some (.int .i64 (nth C (q + 1))) := by simpa [Addr.add] using hc2
                have hw1 : IntKind.i64.wrap ((q : Int) + 1 - 1) = q := by rw [IntWalk.i64_in _ (by omega)]; omega
                have HS1 := Lib.hid (fitTo_succ C s p q)
                have hb1 : ((q : Int) + 1) < (n' : Int) := by omega
                have hb2 : (0 : Int) ≤ (q : Int) + 1 := by omega
                have hb3 : ((q : Int) + 1).toNat = q + 1 := by omega
                rcases hfq : fitTo C s p q with _ | _
                · have HFQ := Lib.hid hfq
                  clear hfq
                  go_wp2_with fail
                  go_quiet ((go_at_call 73; first | exact qcall (rowOf_any _ _ (hxr.drewN _) (by omega) (by omega)) | exact qcall_add (rowOf_any _ _ (hxr.drewN _) (by omega) (by omega))))
                  clear hw1
                  go_wp2
                  go_roundw
                  case rel => exact ⟨q + 1, by omega, by go_num, by rw [HS1.out, HFQ.out]; simp, (by first | exact ⟨_, rfl⟩ | exact ⟨_, (World.drewN_drewN _ _ _).symm⟩ | exact Quiet.refl _ | (simp only [World.drewN_drewN]; exact ⟨_, rfl⟩))⟩
                  case measure => simp [intOf]; omega
                · have HFQ := Lib.hid hfq
                  clear hfq
                  go_wp2_with fail
                  go_quiet ((go_at_call 73; first | exact qcall (rowOf_any _ _ (hxr.drewN _) (by omega) (by omega)) | exact qcall_add (rowOf_any _ _ (hxr.drewN _) (by omega) (by omega))))
                  clear hw1
                  go_wp2
                  go_roundw
                  case rel => exact ⟨q + 1, by omega, by go_num, by rw [HS1.out, HFQ.out]; simp, (by first | exact ⟨_, rfl⟩ | exact ⟨_, (World.drewN_drewN _ _ _).symm⟩ | exact Quiet.refl _ | (simp only [World.drewN_drewN]; exact ⟨_, rfl⟩))⟩
                  case measure => simp [intOf]; omega
              · have HE := Lib.hid (fitTo_mono (c := C) (s := s) (p := p) (m := q) (n := K - 1) (fun i => (shape_range HS.out i).1) (by rw [HCL.out]; omega) (by omega))
                rcases hfq : fitTo C s p q with _ | _
                · have HFQ : Hid (fitTo (nthL (shapesIn K M) j) s p (K - 1) = false) := by
                    show fitTo _ s p _ = false
                    rw [← HC.out, HE.out, hfq]
                  clear hfq
                  go_wp2
                  go_roundw
                  case rel => exact ⟨j + 1, cs, by omega, by go_num, by rw [pieriTo_no HFQ.out]; exact OP.below hos (Quiet.below ⟨_, rfl⟩), below_drewN hbl _, grown_drewN hg _, hf, fun u' hu' => (hcs u' hu').imp id fun ⟨i, h1, h2⟩ => ⟨i, by omega, h2⟩⟩
                  case measure => simp [intOf]; omega
                · have HFQ : Hid (fitTo (nthL (shapesIn K M) j) s p (K - 1) = true) := by
                    show fitTo _ s p _ = true
                    rw [← HC.out, HE.out, hfq]
                  clear hfq
                  have hpl := pieriTo_len (shapesIn K M) s p (K - 1) j
                  have hbs := hbl.size
                  go_wp2_with (at_builtin; refine wpAppP rfl _ _ rfl w.heap.size w.heap.size u10 (.slice A' n' c') (pieriTo (shapesIn K M) s p (K - 1) j) cs C 1 rfl rfl (by exact hos) (by exact hoi.mono (by simp)) (by exact apart_sub hcs osL.2.2 hcs2) (by omega) (by exact hbs) ?_; intro v5 w5 h1 h2 h3)
                  go_roundw
                  case rel =>
                    refine ⟨j + 1, cs ++ [.slice A' n' c', .int .i64 1], by omega, by go_num, by rw [pieriTo_yes HFQ.out, ← HC.out]; exact h1, (below_drewN (hbl.alloc hbs _) _).grown h2 (by simp; omega) (fun k hk => (OF.lt hos k hk).1), grown_step (grown_drewN (grown_alloc hg _) _) h2 (hf.imp id fun h k hk => h k hk), hf.app (n := wo.heap.size + 1) (by have := hg.size; omega) h3, ?_⟩
                    intro u' hu'
                    rw [List.mem_append] at hu'
                    rcases hu' with hu' | hu'
                    · exact (hcs u' hu').imp id fun ⟨i, h1, h2⟩ => ⟨i, by omega, h2⟩
                    · simp at hu'
                      rcases hu' with rfl | rfl
                      · exact .inr ⟨j, by omega, hcs2⟩
                      · exact .inl rfl
                  case measure => simp [intOf]; omega
          · rcases hqb : (sumL C == sumL s + p) with _ | _
            · have HF0 : Hid (fitTo C s p 0 = false) := by
                show fitTo C s p 0 = false
                rw [fitTo_zero, fit0, hqb]; simp
              go_wp2_with (first
                | (go_at_call 71; refine (contains_any' _ _ hri hxr (by omega) (by omega)).mono ?_; rintro e w' ⟨rfl, q0, rfl⟩)
                | (go_at_call 72; refine (iSum_any _ (by first | exact hri.drewN _ | exact hxr.drewN _ | exact hri | exact hxr) (by first | exact hsm.out | exact HSm.out) (by omega)).mono ?_; rintro e w' ⟨rfl, q0, rfl⟩))
              clear hcb hqb
              go_loopw [13, 14] (fun f i wr => ∃ q : Nat, (q + 1 ≤ n' ∨ q = 0) ∧ i = .int .i64 ((q : Int) + 1) ∧ f = .bool (fitTo C s p q) ∧ Quiet wo wr) (fun _ i _ => (n' + 1 - intOf i).toNat)
              case atStart => exact ⟨0, .inr rfl, by simp, by rw [HF0.out], (by first | exact ⟨_, rfl⟩ | exact ⟨_, (World.drewN_drewN _ _ _).symm⟩ | exact Quiet.refl _ | (simp only [World.drewN_drewN]; exact ⟨_, rfl⟩))⟩
              case round =>
                obtain ⟨q, hq, rfl, rfl, ⟨qq, rfl⟩⟩ := hrel
                by_cases hlt2 : q + 1 < n'
                · obtain ⟨ad2, hA2, hc2⟩ := hri.cell (k := q + 1) hlt2
                  subst hA2
                  have hc2' : wo.cell? ⟨ad2.block, ad2.off + (q + 1), none⟩ = some (.int .i64 (nth C (q + 1))) := by simpa [Addr.add] using hc2
                  have hw1 : IntKind.i64.wrap ((q : Int) + 1 - 1) = q := by rw [IntWalk.i64_in _ (by omega)]; omega
                  have HS1 := Lib.hid (fitTo_succ C s p q)
                  have hb1 : ((q : Int) + 1) < (n' : Int) := by omega
                  have hb2 : (0 : Int) ≤ (q : Int) + 1 := by omega
                  have hb3 : ((q : Int) + 1).toNat = q + 1 := by omega
                  rcases hfq : fitTo C s p q with _ | _
                  · have HFQ := Lib.hid hfq
                    clear hfq
                    go_wp2_with fail
                    go_quiet ((go_at_call 73; first | exact qcall (rowOf_any _ _ (hxr.drewN _) (by omega) (by omega)) | exact qcall_add (rowOf_any _ _ (hxr.drewN _) (by omega) (by omega))))
                    clear hw1
                    go_wp2
                    go_roundw
                    case rel => exact ⟨q + 1, by omega, by go_num, by rw [HS1.out, HFQ.out]; simp, (by first | exact ⟨_, rfl⟩ | exact ⟨_, (World.drewN_drewN _ _ _).symm⟩ | exact Quiet.refl _ | (simp only [World.drewN_drewN]; exact ⟨_, rfl⟩))⟩
                    case measure => simp [intOf]; omega
                  · have HFQ := Lib.hid hfq
                    clear hfq
                    go_wp2_with fail
                    go_quiet ((go_at_call 73; first | exact qcall (rowOf_any _ _ (hxr.drewN _) (by omega) (by omega)) | exact qcall_add (rowOf_any _ _ (hxr.drewN _) (by omega) (by omega))))
                    clear hw1
                    go_wp2
                    go_roundw
                    case rel => exact ⟨q + 1, by omega, by go_num, by rw [HS1.out, HFQ.out]; simp, (by first | exact ⟨_, rfl⟩ | exact ⟨_, (World.drewN_drewN _ _ _).symm⟩ | exact Quiet.refl _ | (simp only [World.drewN_drewN]; exact ⟨_, rfl⟩))⟩
                    case measure => simp [intOf]; omega
                · have HE := Lib.hid (fitTo_mono (c := C) (s := s) (p := p) (m := q) (n := K - 1) (fun i => (shape_range HS.out i).1) (by rw [HCL.out]; omega) (by omega))
                  rcases hfq : fitTo C s p q with _ | _
                  · have HFQ : Hid (fitTo (nthL (shapesIn K M) j) s p (K - 1) = false) := by
                      show fitTo _ s p _ = false
                      rw [← HC.out, HE.out, hfq]
                    clear hfq
                    go_wp2
                    go_roundw
                    case rel => exact ⟨j + 1, cs, by omega, by go_num, by rw [pieriTo_no HFQ.out]; exact OP.below hos (Quiet.below ⟨_, rfl⟩), below_drewN hbl _, grown_drewN hg _, hf, fun u' hu' => (hcs u' hu').imp id fun ⟨i, h1, h2⟩ => ⟨i, by omega, h2⟩⟩
                    case measure => simp [intOf]; omega
                  · have HFQ : Hid (fitTo (nthL (shapesIn K M) j) s p (K - 1) = true) := by
                      show fitTo _ s p _ = true
                      rw [← HC.out, HE.out, hfq]
                    clear hfq
                    have hpl := pieriTo_len (shapesIn K M) s p (K - 1) j
                    have hbs := hbl.size
                    go_wp2_with (at_builtin; refine wpAppP rfl _ _ rfl w.heap.size w.heap.size u10 (.slice A' n' c') (pieriTo (shapesIn K M) s p (K - 1) j) cs C 1 rfl rfl (by exact hos) (by exact hoi.mono (by simp)) (by exact apart_sub hcs osL.2.2 hcs2) (by omega) (by exact hbs) ?_; intro v5 w5 h1 h2 h3)
                    go_roundw
                    case rel =>
                      refine ⟨j + 1, cs ++ [.slice A' n' c', .int .i64 1], by omega, by go_num, by rw [pieriTo_yes HFQ.out, ← HC.out]; exact h1, (below_drewN (hbl.alloc hbs _) _).grown h2 (by simp; omega) (fun k hk => (OF.lt hos k hk).1), grown_step (grown_drewN (grown_alloc hg _) _) h2 (hf.imp id fun h k hk => h k hk), hf.app (n := wo.heap.size + 1) (by have := hg.size; omega) h3, ?_⟩
                      intro u' hu'
                      rw [List.mem_append] at hu'
                      rcases hu' with hu' | hu'
                      · exact (hcs u' hu').imp id fun ⟨i, h1, h2⟩ => ⟨i, by omega, h2⟩
                      · simp at hu'
                        rcases hu' with rfl | rfl
                        · exact .inr ⟨j, by omega, hcs2⟩
                        · exact .inl rfl
                    case measure => simp [intOf]; omega
            · have HF0 : Hid (fitTo C s p 0 = true) := by
                show fitTo C s p 0 = true
                rw [fitTo_zero, fit0, ← HW.out, hcb, hqb]; simp
              go_wp2_with (first
                | (go_at_call 71; refine (contains_any' _ _ hri hxr (by omega) (by omega)).mono ?_; rintro e w' ⟨rfl, q0, rfl⟩)
                | (go_at_call 72; refine (iSum_any _ (by first | exact hri.drewN _ | exact hxr.drewN _ | exact hri | exact hxr) (by first | exact hsm.out | exact HSm.out) (by omega)).mono ?_; rintro e w' ⟨rfl, q0, rfl⟩))
              clear hcb hqb
              go_loopw [13, 14] (fun f i wr => ∃ q : Nat, (q + 1 ≤ n' ∨ q = 0) ∧ i = .int .i64 ((q : Int) + 1) ∧ f = .bool (fitTo C s p q) ∧ Quiet wo wr) (fun _ i _ => (n' + 1 - intOf i).toNat)
              case atStart => exact ⟨0, .inr rfl, by simp, by rw [HF0.out], (by first | exact ⟨_, rfl⟩ | exact ⟨_, (World.drewN_drewN _ _ _).symm⟩ | exact Quiet.refl _ | (simp only [World.drewN_drewN]; exact ⟨_, rfl⟩))⟩
              case round =>
                obtain ⟨q, hq, rfl, rfl, ⟨qq, rfl⟩⟩ := hrel
                by_cases hlt2 : q + 1 < n'
                · obtain ⟨ad2, hA2, hc2⟩ := hri.cell (k := q + 1) hlt2
                  subst hA2
                  have hc2' : wo.cell? ⟨ad2.block, ad2.off + (q + 1), none⟩ = some (.int .i64 (nth C (q + 1))) := by simpa [Addr.add] using hc2
                  have hw1 : IntKind.i64.wrap ((q : Int) + 1 - 1) = q := by rw [IntWalk.i64_in _ (by omega)]; omega
                  have HS1 := Lib.hid (fitTo_succ C s p q)
                  have hb1 : ((q : Int) + 1) < (n' : Int) := by omega
                  have hb2 : (0 : Int) ≤ (q : Int) + 1 := by omega
                  have hb3 : ((q : Int) + 1).toNat = q + 1 := by omega
                  rcases hfq : fitTo C s p q with _ | _
                  · have HFQ := Lib.hid hfq
                    clear hfq
                    go_wp2_with fail
                    go_quiet ((go_at_call 73; first | exact qcall (rowOf_any _ _ (hxr.drewN _) (by omega) (by omega)) | exact qcall_add (rowOf_any _ _ (hxr.drewN _) (by omega) (by omega))))
                    clear hw1
                    go_wp2
                    go_roundw
                    case rel => exact ⟨q + 1, by omega, by go_num, by rw [HS1.out, HFQ.out]; simp, (by first | exact ⟨_, rfl⟩ | exact ⟨_, (World.drewN_drewN _ _ _).symm⟩ | exact Quiet.refl _ | (simp only [World.drewN_drewN]; exact ⟨_, rfl⟩))⟩
                    case measure => simp [intOf]; omega
                  · have HFQ := Lib.hid hfq
                    clear hfq
                    go_wp2_with fail
                    go_quiet ((go_at_call 73; first | exact qcall (rowOf_any _ _ (hxr.drewN _) (by omega) (by omega)) | exact qcall_add (rowOf_any _ _ (hxr.drewN _) (by omega) (by omega))))
                    clear hw1
                    go_wp2
                    go_roundw
                    case rel => exact ⟨q + 1, by omega, by go_num, by rw [HS1.out, HFQ.out]; simp, (by first | exact ⟨_, rfl⟩ | exact ⟨_, (World.drewN_drewN _ _ _).symm⟩ | exact Quiet.refl _ | (simp only [World.drewN_drewN]; exact ⟨_, rfl⟩))⟩
                    case measure => simp [intOf]; omega
                · have HE := Lib.hid (fitTo_mono (c := C) (s := s) (p := p) (m := q) (n := K - 1) (fun i => (shape_range HS.out i).1) (by rw [HCL.out]; omega) (by omega))
                  rcases hfq : fitTo C s p q with _ | _
                  · have HFQ : Hid (fitTo (nthL (shapesIn K M) j) s p (K - 1) = false) := by
                      show fitTo _ s p _ = false
                      rw [← HC.out, HE.out, hfq]
                    clear hfq
                    go_wp2
                    go_roundw
                    case rel => exact ⟨j + 1, cs, by omega, by go_num, by rw [pieriTo_no HFQ.out]; exact OP.below hos (Quiet.below ⟨_, rfl⟩), below_drewN hbl _, grown_drewN hg _, hf, fun u' hu' => (hcs u' hu').imp id fun ⟨i, h1, h2⟩ => ⟨i, by omega, h2⟩⟩
                    case measure => simp [intOf]; omega
                  · have HFQ : Hid (fitTo (nthL (shapesIn K M) j) s p (K - 1) = true) := by
                      show fitTo _ s p _ = true
                      rw [← HC.out, HE.out, hfq]
                    clear hfq
                    have hpl := pieriTo_len (shapesIn K M) s p (K - 1) j
                    have hbs := hbl.size
                    go_wp2_with (at_builtin; refine wpAppP rfl _ _ rfl w.heap.size w.heap.size u10 (.slice A' n' c') (pieriTo (shapesIn K M) s p (K - 1) j) cs C 1 rfl rfl (by exact hos) (by exact hoi.mono (by simp)) (by exact apart_sub hcs osL.2.2 hcs2) (by omega) (by exact hbs) ?_; intro v5 w5 h1 h2 h3)
                    go_roundw
                    case rel =>
                      refine ⟨j + 1, cs ++ [.slice A' n' c', .int .i64 1], by omega, by go_num, by rw [pieriTo_yes HFQ.out, ← HC.out]; exact h1, (below_drewN (hbl.alloc hbs _) _).grown h2 (by simp; omega) (fun k hk => (OF.lt hos k hk).1), grown_step (grown_drewN (grown_alloc hg _) _) h2 (hf.imp id fun h k hk => h k hk), hf.app (n := wo.heap.size + 1) (by have := hg.size; omega) h3, ?_⟩
                      intro u' hu'
                      rw [List.mem_append] at hu'
                      rcases hu' with hu' | hu'
                      · exact (hcs u' hu').imp id fun ⟨i, h1, h2⟩ => ⟨i, by omega, h2⟩
                      · simp at hu'
                        rcases hu' with rfl | rfl
                        · exact .inr ⟨j, by omega, hcs2⟩
                        · exact .inl rfl
                    case measure => simp [intOf]; omega
        · obtain rfl : j = nL := by omega
          have HE := Lib.hid ((pieriB_yes HO.out).trans (stripsB_eq.trans (by rw [HL1.out])))
          go_wp2
          go_ret2
          rw [HE.out, HO.out]
          exact MakesPb.of hos hbl
    · have HO : Hid (pieriOk s K ((K : Int) + M) p = false) := by show pieriOk _ _ _ _ = false; simp [pieriOk, HB.out, inB]; omega
      have HE := Lib.hid (pieriB_no HO.out)
      by_cases hp1 : p < 0
      · go_enter Try.func24, Try.ntmps24
        go_wp2_with (go_at_call 49; refine (iIsInBox_any _ _ _ hx hn).mono ?_; rintro e w' ⟨rfl, q0, rfl⟩)
        go_ret2
        rw [HE.out, HO.out]
        exact MakesPb.of (OF.nil_ _ _ _ _ _) (Quiet.below ⟨_, rfl⟩)
      · have hp2 : (M : Int) < p := by omega
        have hp0 : 0 ≤ p := by omega
        clear hp hp1
        go_enter Try.func24, Try.ntmps24
        go_wp2_with (go_at_call 49; refine (iIsInBox_any _ _ _ hx hn).mono ?_; rintro e w' ⟨rfl, q0, rfl⟩)
        all_goals
          go_ret2
          rw [HE.out, HO.out]
          exact MakesPb.of (OF.nil_ _ _ _ _ _) (Quiet.below ⟨_, rfl⟩)
  · have HO : Hid (pieriOk s k n p = false) := by show pieriOk _ _ _ _ = false; simp [pieriOk, hb]
    have HE := Lib.hid (pieriB_no HO.out)
    go_enter Try.func24, Try.ntmps24
    go_wp2_with (go_at_call 49; refine (iIsInBox_any _ _ _ hx hn).mono ?_; rintro e w' ⟨rfl, q0, rfl⟩)
    go_ret2
    rw [HE.out, HO.out]
    exact MakesPb.of (OF.nil_ _ _ _ _ _) (Quiet.below ⟨_, rfl⟩)
end Go.Proofs.Ytmodpicemlkbjaa
