/- QuantumProduct of the reference. -/
import Derived.Test.YtmodpicemlkbjaaQProP
import Derived.Test.YtmodpicemlkbjaaQAdd
import Derived.Test.YtmodpicemlkbjaaWrapS
import Derived.Test.YtmodpicemlkbjaaGrW
import Derived.Test.YtmodpicemlkbjaaWords
namespace Go.Proofs.Ytmodpicemlkbjaa
open Go.RowKit

theorem smallK_sub {ps : List (List Int × Int)} {T : Int} (h : QIn ps T) (hT : T ≤ 1000000000) : SmallK (nz ps) := fun k hk => by
  have h1 := h.sub.2.1 _ (nthP_mem hk)
  have h2 := h.sub.2.2 _ (nthP_mem hk)
  exact ⟨by omega, by omega, by omega⟩

set_option maxRecDepth 100000 in
set_option maxHeartbeats 4000000 in
theorem sQPro_no {w : World} {Aa Ab : Option Addr} {na nb ba bb : Nat} {a b : List Int} (ca cb : Nat) (k n : Int) (ha : OI w ba (.slice Aa na ca) a) (hb : OI w bb (.slice Ab nb cb) b) (hna : na ≤ 1000000000) (hnb : nb ≤ 1000000000) (h : qOk a b k n = false) :
    Calls Try.prog 44 #[.slice Aa na ca, .slice Ab nb cb, .int .i64 k, .int .i64 n] w (MakesUb w [] false) := by
  have hax := ha.ri
  have hbx := hb.ri
  have HBA : Hid (∀ W, RI W Aa na a → Calls Try.prog 57 #[.slice Aa na ca, .int .i64 k, .int .i64 n] W (Gives W (.bool (inBoxB a k n)))) := fun W h => l4Box_any _ _ _ h hna
  have HBB : Hid (∀ W, RI W Ab nb b → Calls Try.prog 57 #[.slice Ab nb cb, .int .i64 k, .int .i64 n] W (Gives W (.bool (inBoxB b k n)))) := fun W h => l4Box_any _ _ _ h hnb
  clear ha hb
  have hc : inBoxB a k n = false ∨ (inBoxB a k n = true ∧ inBoxB b k n = false) ∨ (inBoxB a k n = true ∧ inBoxB b k n = true ∧ k = 0) := by
    rcases h1 : inBoxB a k n with _ | _
    · exact .inl rfl
    · rcases h2 : inBoxB b k n with _ | _
      · exact .inr (.inl ⟨rfl, rfl⟩)
      · exact .inr (.inr ⟨rfl, rfl, by simpa [qOk, h1, h2] using h⟩)
  clear h
  rcases hc with h1 | ⟨h1, h2⟩ | ⟨h1, h2, rfl⟩
  · rw [h1] at HBA
    go_enter Try.func44, Try.ntmps44
    go_wp2_with (first | (go_at_call 57; (with_reducible refine (HBA.out _ ?_).mono ?_); (first | exact hax | exact hax.drewN _); rintro e w' ⟨rfl, q0, rfl⟩) | (go_at_call 57; (with_reducible refine (HBB.out _ ?_).mono ?_); (first | exact hbx | exact hbx.drewN _); rintro e w' ⟨rfl, q1, rfl⟩))
    go_ret2
    exact MakesUb.of (OU.nil_ _ _ _) (by first | exact Below.refl _ _ | exact Quiet.below ⟨_, rfl⟩)
  · rw [h1] at HBA
    rw [h2] at HBB
    go_enter Try.func44, Try.ntmps44
    go_wp2_with (first | (go_at_call 57; (with_reducible refine (HBA.out _ ?_).mono ?_); (first | exact hax | exact hax.drewN _); rintro e w' ⟨rfl, q0, rfl⟩) | (go_at_call 57; (with_reducible refine (HBB.out _ ?_).mono ?_); (first | exact hbx | exact hbx.drewN _); rintro e w' ⟨rfl, q1, rfl⟩))
    go_ret2
    exact MakesUb.of (OU.nil_ _ _ _) (by first | exact Below.refl _ _ | exact Quiet.below ⟨_, rfl⟩)
  · rw [h1] at HBA
    rw [h2] at HBB
    go_enter Try.func44, Try.ntmps44
    go_wp2_with (first | (go_at_call 57; (with_reducible refine (HBA.out _ ?_).mono ?_); (first | exact hax | exact hax.drewN _); rintro e w' ⟨rfl, q0, rfl⟩) | (go_at_call 57; (with_reducible refine (HBB.out _ ?_).mono ?_); (first | exact hbx | exact hbx.drewN _); rintro e w' ⟨rfl, q1, rfl⟩))
    go_ret2
    exact MakesUb.of (OU.nil_ _ _ _) (by first | exact Below.refl _ _ | exact Quiet.below ⟨_, rfl⟩)

set_option maxRecDepth 100000 in
set_option maxHeartbeats 8000000 in
theorem sQPro_yes {w : World} {Aa Ab : Option Addr} {na nb ba bb K M N : Nat} {a b : List Int} (ca cb : Nat) (ha : OI w ba (.slice Aa na ca) a) (hb : OI w bb (.slice Ab nb cb) b) (hna : na ≤ 1000000000) (hnb : nb ≤ 1000000000) (h1 : inBoxB a K N = true) (h2 : inBoxB b K N = true) (hA : SD a K M) (hB : SD b K M) (hKM : K + M ≤ 7) (hN : N = K + M) (hK : 1 ≤ K) :
    Calls Try.prog 44 #[.slice Aa na ca, .slice Ab nb cb, .int .i64 (K : Int), .int .i64 (N : Int)] w (MakesUb w (decL (qSpe (fillB a b K 14) K N (fillB a b K 14).length)) true) := by
  have hax := ha.ri
  have hbx := hb.ri
  have hcaps := ha.caps
  have HBA : Hid (∀ W, RI W Aa na a → Calls Try.prog 57 #[.slice Aa na ca, .int .i64 K, .int .i64 N] W (Gives W (.bool true))) := fun W h => by have := l4Box_any ca (K : Int) (N : Int) h hna; rwa [h1] at this
  have HBB : Hid (∀ W, RI W Ab nb b → Calls Try.prog 57 #[.slice Ab nb cb, .int .i64 K, .int .i64 N] W (Gives W (.bool true))) := fun W h => by have := l4Box_any cb (K : Int) (N : Int) h hnb; rwa [h2] at this
  have hk : (((K : Nat) : Int) == 0) = false := by simp; omega
  have hK0 : ¬ (K : Int) = 0 := by omega
  obtain ⟨hw0, hsh⟩ := fill_shapes hA hB hKM
  have hlb := hbx.1
  have hBl := hB.len
  have HFL : Hid (∀ W : World, Below w.heap.size w W → Calls Try.prog 89 #[.slice Aa na ca, .slice Ab nb cb, .int .i64 (K : Int), .int .i64 14] W (MakesP W (fillB a b K 14))) := fun W bW =>
    l4Product_any (rows := K) (M := 14) ca cb (hax.below bW) hcaps.1 (hbx.below bW) ⟨hA.len, hA.lo, hA.desc, fun j => by have := hA.top j; omega⟩ hB.lo (fun c hc => by have := hB.nats c hc; omega) (by omega) (by omega) (by omega) (Nat.le_trans (box_len hB hKM) (by omega))
  obtain ⟨L, hL⟩ : ∃ L, L = fillB a b K 14 := ⟨_, rfl⟩
  rw [← hL] at HFL hw0 hsh ⊢
  have HWT := Lib.hid hw0
  have HSH := Lib.hid hsh
  have HLL := hw0.len
  have hN7 : N ≤ 7 := by omega
  have hKN : K ≤ N := by omega
  clear ha hb hA hB hL hw0 hsh h1 h2 hN hlb hBl
  go_enter Try.func44, Try.ntmps44
  go_wp2_with (first | (go_at_call 57; (with_reducible refine (HBA.out _ ?_).mono ?_); (first | exact hax | exact hax.drewN _); rintro e w' ⟨rfl, q0, rfl⟩) | (go_at_call 57; (with_reducible refine (HBB.out _ ?_).mono ?_); (first | exact hbx | exact hbx.drewN _); rintro e w' ⟨rfl, q1, rfl⟩))
  obtain ⟨wa, hwa⟩ : ∃ wa, wa = (w.drewN (q0 + q1)).alloc (.cells #[] 46) := ⟨_, rfl⟩
  have HUA : Hid (OU wa w.heap.size w.heap.size (.slice (some ⟨w.heap.size, 0, none⟩) 0 0) (decL (qSpe L K N 0)) []) := by show OU _ _ _ _ _ _; rw [hwa]; exact OU.lit _ _ _ (by simp)
  have hba : Below w.heap.size w wa := by rw [hwa]; exact (Quiet.below ⟨_, rfl⟩ : Below w.heap.size w (w.drewN (q0 + q1))).alloc (by simp) _
  have HBA2 := Lib.hid hba
  have hsa := hba.size
  rw [← hwa]
  clear hwa
  refine (HFL.out _ hba).mono ?_
  rintro e w1 ⟨A1, n1, c1, csL, rfl, o1, l1, ⟨cp1, le1⟩, bl1⟩
  have HB1 := Lib.hid (HBA2.out.trans (bl1.mono hsa))
  have HO1 := Lib.hid o1
  have HL1 := Lib.hid l1
  have hs1 : w.heap.size ≤ w1.heap.size := HB1.out.size
  have hn1 : n1 ≤ 20000000 := by omega
  have HQ : Hid (∀ z, z ≤ n1 → Keyed (qSpe L K N z) ∧ SmallK (qSpe L K N z) ∧ (qSpe L K N z).length ≤ z) := fun z hz => by
    have h := qImp_in (K := K) (N := N) (by omega) (by omega) HWT.out.pos (fun x hx => (HSH.out x hx).1) z (by rw [HL1.out]; exact hz)
    have h2 := h.1.mono (Int.le_trans (total_part HWT.out.pos z).2 HWT.out.tot)
    rw [qSpe_nz (K := K) (N := N) (by omega) (by omega) HWT.out.pos (fun x hx => (HSH.out x hx).1) z (by rw [HL1.out]; exact hz)]
    exact ⟨h2.sub.1, smallK_sub h2 (by omega), Nat.le_trans (nz_len _) h.2⟩
  have HU1 := Lib.hid (HUA.out.below bl1)
  clear o1 l1 bl1 hba
  go_wp2
  go_loopw [10, 12, 13] (fun u i _ wr => ∃ (z : Nat) (cs : List Value), z ≤ n1 ∧ i = .int .i64 (z : Int) ∧ OU wr w.heap.size w.heap.size u (decL (qSpe L K N z)) cs ∧ Hid (Below w1.heap.size w1 wr)) (fun _ i _ _ => n1 - (intOf i).toNat)
  case atStart => exact ⟨0, [], Nat.zero_le _, rfl, HU1.out, Below.refl _ _⟩
  case round =>
    obtain ⟨z, cs, hz, rfl, ho, hb⟩ := hrel
    by_cases hlt : z < n1
    · have hzl : z < L.length := by rw [HL1.out]; exact hlt
      have hL2 := HO1.out.below hb.out
      obtain ⟨G0, cc, hGG, _⟩ := OF.shape hL2 (by rw [HL1.out]; omega)
      obtain ⟨rfl, e2, e3⟩ := slice_inj hGG
      clear e2 e3 hGG
      obtain ⟨A4, n4, c4, k1, _, k2, k3, k4⟩ := OP.cell hL2 (k := z) hzl
      have hmem := nthP_mem hzl
      obtain ⟨x, hx⟩ : ∃ x, x = nthP L z := ⟨_, rfl⟩
      rw [← hx] at k2 k4 hmem
      have HXX := Lib.hid hx
      obtain ⟨hsx, hlx⟩ := HSH.out x hmem
      have hcx := HWT.out.cnt x hmem
      have hxl := k2.ri.1
      rw [hxl] at hlx
      have HQZ := Lib.hid (HQ.out z (by omega))
      obtain ⟨ps, hps⟩ : ∃ ps, ps = qSpe L K N z := ⟨_, rfl⟩
      have HPS := Lib.hid hps
      rw [← hps] at ho HQZ
      obtain ⟨r, hr⟩ : ∃ r, r = reduceW x.1 K N := ⟨_, rfl⟩
      have HR := Lib.hid hr
      have hrr := reduce_range (x := x) (K := K) (N := N) hsx (by omega) (by omega)
      rw [← hr] at hrr
      obtain ⟨⟨hr1, hr2⟩, hr3⟩ := hrr
      have HWR : Hid (∀ X : World, Below wr.heap.size wr X → Calls Try.prog 78 #[.slice A4 n4 c4, .int .i64 (K : Int), .int .i64 (N : Int)] X (MakesW X r.1 r.2.1 r.2.2)) := fun X bX => by
        have h := sReduce_any c4 K N (k2.ri.below bX) (by omega) hsx (by omega) hN7 hK hKN
        rw [← hr] at h
        exact h
      obtain ⟨Y, hY⟩ : ∃ Y, Y = r.2.2 * x.2 := ⟨_, rfl⟩
      have hYc : Y = cntW x K N := by rw [hY, HR.out]; rfl
      have hYr := cnt_range (K := K) (N := N) hcx.1
      rw [← hYc] at hYr
      have hw : IntKind.i64.wrap (r.2.2 * x.2) = Y := by rw [← hY]; exact IntWalk.i64_in _ (by omega)
      have HSP : Hid (qSpe L K N (z + 1) = addP ps (r.1 :: r.2.1) Y) := by
        show _ = _
        rw [qSpe, ← HXX.out, ← HPS.out, ← hYc, keyW, ← HR.out]
      have HO := Lib.hid ho
      have HB := Lib.hid hb.out
      have hsz := hb.out.size
      clear k2 hx hr ho hps hsx hL2 hY hYc
      go_wp2_with fail
      refine (HWR.out _ (Below.refl _ _)).mono ?_
      rintro e w2 ⟨A5, n5, c5, rfl, o5, le5, b5⟩
      have hl5 : n5 ≤ 1000000 := by rw [← o5.ri.1]; omega
      obtain ⟨W3, hW3⟩ : ∃ W3, W3 = w2.alloc (.cells #[.int .i64 r.1, .slice A5 n5 c5, .int .i64 r.2.2] 46) := ⟨_, rfl⟩
      have HW3 := Lib.hid hW3
      have kbx : BK W3 w2.heap.size 46 [.int .i64 r.1, .slice A5 n5 c5, .int .i64 r.2.2] := by rw [hW3]; exact BK.new w2 _ _
      have hx0 := kbx.cell (j := 0) rfl
      have hx1 := kbx.cell (j := 1) rfl
      have hx2 := kbx.cell (j := 2) rfl
      have hb23 : Below w2.heap.size w2 W3 := by rw [hW3]; exact (Below.refl _ _).alloc (Nat.le_refl _) _
      have hb3 : Below wr.heap.size wr W3 := b5.trans (hb23.mono b5.size)
      have k4' := one_cell hb3 k4
      have HC : Hid (∀ X : World, Below W3.heap.size W3 X → Calls Try.prog 85 #[u10, .int .i64 r.1, .slice A5 n5 c5, .int .i64 Y] X (MakesU X (decL (addP ps (r.1 :: r.2.1) Y)))) := fun X bX =>
        l6Add_any c5 r.1 Y ((HO.out.below hb3).below bX) HQZ.out.1 ((OI.below o5 hb23).ri.below bX) hl5 (by have := HQZ.out.2.2; omega) HQZ.out.2.1 (by omega) (by omega)
      have HB3 := Lib.hid (HB.out.trans (hb3.mono hsz))
      clear hW3 kbx hb23 hb3 o5 b5
      have HCX := Lib.hid (⟨hx0, hx1, hx2, k4'⟩ : _ ∧ _ ∧ _ ∧ _)
      clear k4 k4' hx0 hx1 hx2
      go_wp2_with fail
      rw [← HW3.out]
      go_region_held3 (fun w' => w'.cell? ⟨w2.heap.size, 0, none⟩ = some (.int .i64 r.1) ∧ w'.cell? ⟨w2.heap.size, 1, none⟩ = some (.slice A5 n5 c5) ∧ w'.cell? ⟨w2.heap.size, 2, none⟩ = some (.int .i64 r.2.2) ∧ w'.cell? ⟨G0, z * 2 + 1, none⟩ = some (.int .i64 x.2)) (first | exact HCX.out | exact ⟨one_cell b6 HCX.out.1, one_cell b6 HCX.out.2.1, one_cell b6 HCX.out.2.2.1, one_cell b6 HCX.out.2.2.2⟩) (first
        | (go_at_call 85; (with_reducible refine (HC.out _ ?_).mono ?_); (exact ⟨rfl, rfl, rfl, Nat.le_refl _, fun _ _ => rfl⟩); rintro e w6 ⟨A6, n6, c6, cs6, rfl, o6, l6, -, b6'⟩; have b6 : Below W3.heap.size W3 w6 := ⟨b6'.os, b6'.tape, b6'.output, b6'.size, b6'.block⟩))
      have HF : Hid (OU w6 w.heap.size w.heap.size (.slice A6 n6 c6) (decL (qSpe L K N (z + 1))) cs6 ∧ Below w1.heap.size w1 w6) :=
        ⟨by rw [HSP.out]; exact OF.mono o6 (by have := HB3.out.size; simp; omega) (by have := HB3.out.size; simp; omega), HB3.out.trans (b6.mono HB3.out.size)⟩
      clear o6 l6 b6 b6'
      go_wp2
      go_roundw
      case rel => exact ⟨z + 1, cs6, by omega, by go_num, HF.out.1, HF.out.2⟩
      case measure => simp [intOf]; omega
    · obtain rfl : z = n1 := by omega
      have HF : Hid (OU wr w.heap.size w.heap.size u10 (decL (qSpe L K N L.length)) cs ∧ Below w.heap.size w wr) := ⟨by rw [HL1.out]; exact ho, HB1.out.trans (hb.out.mono hs1)⟩
      clear ho hb
      go_wp2
      go_ret2
      exact MakesUb.of HF.out.1 HF.out.2
theorem sQPro_any {w : World} {Aa Ab : Option Addr} {na nb ba bb : Nat} {a b : List Int} (ca cb : Nat) (k n : Int) (ha : OI w ba (.slice Aa na ca) a) (hb : OI w bb (.slice Ab nb cb) b) (hna : na ≤ 1000000000) (hnb : nb ≤ 1000000000) :
    Calls Try.prog 44 #[.slice Aa na ca, .slice Ab nb cb, .int .i64 k, .int .i64 n] w (MakesUb w (decL (qpB a b k n)) (qOk a b k n)) := by
  rcases h : qOk a b k n with _ | _
  · rw [qpB_no h]
    exact sQPro_no ca cb k n ha hb hna hnb h
  · have h' := h
    simp only [qOk, Bool.and_eq_true, Bool.not_eq_true', decide_eq_false_iff_not] at h
    obtain ⟨h1, h2, h3⟩ := h
    obtain ⟨K, M, rfl, hn, hKM, hA⟩ := box_split h1
    obtain ⟨N, rfl⟩ : ∃ N : Nat, n = (N : Int) := ⟨K + M, by omega⟩
    have hN : N = K + M := by omega
    have hB : SD b K M := SD.box (by rw [← hn]; exact h2)
    rw [qpB_yes h']
    exact sQPro_yes ca cb ha hb hna hnb h1 h2 hA hB hKM hN (by omega)
/-- What is known of a quantum product. -/
theorem qp_in {a b : List Int} {k n : Int} (h : qOk a b k n = true) : (qpB a b k n).length ≤ 20000000 ∧ ∀ x ∈ qpB a b k n, x.1 ≠ [] ∧ x.1.length ≤ 17 ∧ -20000000 ≤ x.2 ∧ x.2 ≤ 20000000 := by
  have h' := h
  simp only [qOk, Bool.and_eq_true, Bool.not_eq_true', decide_eq_false_iff_not] at h
  obtain ⟨h1, h2, h3⟩ := h
  obtain ⟨K, M, rfl, hn, hKM, hA⟩ := box_split h1
  obtain ⟨N, rfl⟩ : ∃ N : Nat, n = (N : Int) := ⟨K + M, by omega⟩
  have hB : SD b K M := SD.box (by rw [← hn]; exact h2)
  obtain ⟨hw0, hsh⟩ := fill_shapes hA hB hKM
  obtain ⟨q1, q2⟩ := qImp_in (K := K) (N := N) (by omega) (by omega) hw0.pos (fun x hx => (hsh x hx).1) _ (Nat.le_refl _)
  have q3 := q1.mono (Int.le_trans (total_part hw0.pos _).2 hw0.tot)
  rw [qpB_yes h', qSpe_nz (by omega) (by omega) hw0.pos (fun x hx => (hsh x hx).1) _ (Nat.le_refl _)]
  have hl := hw0.len
  refine ⟨by have := nz_len (qImp (fillB a b K 14) K N (fillB a b K 14).length); omega, fun x hx => ⟨q3.sub.1 x hx, q3.sub.2.2 x hx, q3.sub.2.1 x hx⟩⟩
end Go.Proofs.Ytmodpicemlkbjaa
