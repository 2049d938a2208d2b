/- Products of the program and of the reference. -/
import Derived.Test.YtmodpicemlkbjaaRef
import Derived.Test.YtmodpicemlkbjaaLayerA
import Derived.Test.YtmodpicemlkbjaaGrP
import Derived.Test.YtmodpicemlkbjaaPieri
namespace Go.Proofs.Ytmodpicemlkbjaa
open Go.RowKit

theorem OI.caps {w : World} {base n c : Nat} {A : Option Addr} {l : List Int} (h : OI w base (.slice A n c) l) : n ≤ c ∧ c ≤ 9223372036854775807 := by
  obtain ⟨A', n', c', hv, _, h1, h2, _⟩ := h.form
  obtain ⟨rfl, rfl, rfl⟩ := slice_inj hv
  exact ⟨h1, h2⟩
theorem fI_nats {l : List Int} (h : ∀ j, 0 ≤ nth l j) : fI (natsOf l) = l := fI_natsOf h

set_option maxRecDepth 100000 in
set_option maxHeartbeats 1000000 in
theorem l4Product_any {w : World} {Aa Ab : Option Addr} {na nb rows M : Nat} {a b : List Int} (ca cb : Nat) (ha : RI w Aa na a) (hca : na ≤ ca) (hb : RI w Ab nb b) (hA : SD a rows M) (hb0 : ∀ j, 0 ≤ nth b j) (hbs : ∀ c ∈ natsOf b, c ≤ 1000) (hbl : nb ≤ 1000)
    (hr : rows ≤ 16) (hM : M ≤ 1000) (hlen : (layerC rows M b (padL a rows) none).length ≤ 100000000000) :
    Calls Try.prog 89 #[.slice Aa na ca, .slice Ab nb cb, .int .i64 (rows : Int), .int .i64 (M : Int)] w (MakesP w (fillB a b rows M)) := by
  have hbe := fI_nats hb0
  have hla := ha.1
  have hlb := hb.1
  have HL := Lib.hid (lat_any (natsOf b) (natsOf b).length 0 (by omega))
  have hna := hA.len
  rw [hla] at hna
  have hpl : (padL a rows).length = rows := padL_len hA.len
  have hI : Inv rows 0 M (padL a rows) (padL a rows) (List.replicate rows 0) none := Inv.first hpl (fun j => by rw [nth_padL]; have h1 := hA.lo j; have h2 := hA.top j; omega) (fun j => by rw [nth_padL, nth_padL]; exact hA.desc j) (fun j => by rw [nth_padL]; exact hA.top j)
  have HCALL : Hid (∀ W : World, Below w.heap.size w W → OI W w.heap.size (.slice (some ⟨w.heap.size, 0, none⟩) rows rows) (List.replicate rows 0) → Calls Try.prog 123 #[.slice Aa na ca, .slice Ab nb cb, .int .i64 (rows : Int), .int .i64 (M : Int), .int .i64 0, .slice (some ⟨w.heap.size, 0, none⟩) rows rows, .slice none 0 0] W (MakesP w (fillB a b rows M))) := fun W bW oz => by
    have h1 := HL.out W w.heap.size w.heap.size rows M Aa Ab (some ⟨w.heap.size, 0, none⟩) na ca nb cb rows a (padL a rows) (List.replicate rows 0) none (.slice none 0 0) [] [] 0
      (ha.below bW) hca rfl hna hr (by omega) (by omega) (by rw [hbe]; exact hb.below bW) oz.ri (Nat.le_refl _) rfl (fun _ => hI) hbs (by rw [natsOf, List.length_map, hlb]; exact hbl) (OF.nil_ _ _ _ _ _) Okp.nil_ (by rw [List.drop_zero, hbe]; show (0 : Int) + ((layerC rows M b (padL a rows) none).length : Int) ≤ _; omega) bW.size bW.size
    rw [List.drop_zero, hbe] at h1
    refine h1.mono fun e w' ⟨v', cells', h2, h3, h4⟩ => ?_
    rw [h2]
    exact MakesP.of h3 (bW.trans (h4.mono bW.size))
  clear HL hI hpl hbe hla hlb ha hb hA
  go_enter Try.func89, Try.ntmps89
  go_wp2_with (at_make; refine wpMake rfl _ _ rfl rows _ _ rfl rfl rfl rfl (by omega) ?_; intro w2 o2 b2 s2)
  refine (HCALL.out _ b2 o2).mono ?_
  rintro e w3 ⟨A3, n3, c3, cells3, rfl, o3, r3, ⟨cp3, le3⟩, b3⟩
  have HM := Lib.hid (MakesP.of o3 b3)
  clear o3 b3 r3
  go_wp2
  go_ret
  exact HM.out

set_option maxRecDepth 100000 in
theorem l6Gr_any {w : World} {Aa Ab : Option Addr} {na nb K M : Nat} {a b : List Int} (ca cb : Nat) (ha : RI w Aa na a) (hca : na ≤ ca) (hb : RI w Ab nb b) (hA : SD a K M) (hB : SD b K M) (hKM : K + M ≤ 7) :
    Calls Try.prog 58 #[.slice Aa na ca, .slice Ab nb cb, .int .i64 (K : Int), .int .i64 ((K : Int) + M)] w (MakesP w (fillB a b K M)) := by
  have hlb := hb.1
  have hBl := hB.len
  have HP := Lib.hid (l4Product_any (rows := K) (M := M) ca cb ha hca hb hA hB.lo (fun c hc => by have := hB.nats c hc; omega) (by omega) (by omega) (by omega) (Nat.le_trans (box_len hB hKM) (by omega)))
  have hw : IntKind.i64.wrap ((K : Int) + M - K) = (M : Int) := by rw [show (K : Int) + M - K = M by omega]; exact IntWalk.i64_in _ (by omega)
  have hw2 : (K : Int) + M - K = M := by omega
  clear ha hb hA hB
  go_enter Try.func58, Try.ntmps58
  go_wp2_with fail
  refine HP.out.mono ?_
  rintro e w3 ⟨A3, n3, c3, cells3, rfl, o3, r3, ⟨cp3, le3⟩, b3⟩
  have HM := Lib.hid (MakesP.of o3 b3)
  clear o3 b3 r3
  go_wp2
  go_ret
  exact HM.out

set_option maxRecDepth 100000 in
set_option maxHeartbeats 1000000 in
theorem iGr_any {w : World} {Aa Ab : Option Addr} {na nb ba bb : Nat} {a b : List Int} (ca cb : Nat) (k n : Int) (ha : OI w ba (.slice Aa na ca) a) (hb : OI w bb (.slice Ab nb cb) b) (hna : na ≤ 1000000000) (hnb : nb ≤ 1000000000) :
    Calls Try.prog 23 #[.slice Aa na ca, .slice Ab nb cb, .int .i64 k, .int .i64 n] w (MakesPb w (grB a b k n) (grOk a b k n)) := by
  have hax := ha.ri
  have hbx := hb.ri
  rcases h1 : inBoxB a k n with _ | _
  · have HO : Hid (grOk a b k n = false) := by show _ = _; simp [grOk, h1]
    have HE := Lib.hid (grB_no HO.out)
    go_enter Try.func23, Try.ntmps23
    go_wp2_with (go_at_call 49; refine (iIsInBox_any _ _ _ (by first | exact hax | exact hax.drewN _) hna).mono ?_; rintro e w' ⟨rfl, q0, rfl⟩)
    go_ret2
    rw [HE.out, HO.out]
    exact MakesPb.of (OF.nil_ _ _ _ _ _) (Quiet.below ⟨_, rfl⟩)
  have HBA : Hid (∀ W, RI W Aa na a → Calls Try.prog 49 #[.slice Aa na ca, .int .i64 k, .int .i64 n] W (Gives W (.bool (inBoxB a k n)))) := fun W h => iIsInBox_any _ _ _ h hna
  have HBB : Hid (∀ W, RI W Ab nb b → Calls Try.prog 49 #[.slice Ab nb cb, .int .i64 k, .int .i64 n] W (Gives W (.bool (inBoxB b k n)))) := fun W h => iIsInBox_any _ _ _ h hnb
  rcases h2 : inBoxB b k n with _ | _
  · have HO : Hid (grOk a b k n = false) := by show _ = _; simp [grOk, h2]
    have HE := Lib.hid (grB_no HO.out)
    go_enter Try.func23, Try.ntmps23
    go_wp2_with (first | (go_at_call 49; (with_reducible refine (HBA.out _ ?_).mono ?_); (first | exact hax | exact hax.drewN _); rintro e w' ⟨rfl, q0, rfl⟩) | (go_at_call 49; (with_reducible refine (HBB.out _ ?_).mono ?_); (first | exact hbx | exact hbx.drewN _); rintro e w' ⟨rfl, q1, rfl⟩))
    go_ret2
    rw [HE.out, HO.out]
    exact MakesPb.of (OF.nil_ _ _ _ _ _) (Quiet.below ⟨_, rfl⟩)
  · obtain ⟨K, M, rfl, rfl, hKM, hA⟩ := box_split h1
    have hB := SD.box h2
    have HO : Hid (grOk a b K ((K : Int) + M) = true) := by show _ = _; simp [grOk, h1, h2]
    have HE := Lib.hid (grB_yes HO.out)
    have hcaps := ha.caps
    have HA := Lib.hid hA
    have HB := Lib.hid hB
    have H1 := Lib.hid h1
    have hKb := hB.len
    have HFL : Hid (∀ W : World, Below w.heap.size w W → Calls Try.prog 69 #[.slice Aa na ca, .slice Ab nb cb, .int .i64 (K : Int), .int .i64 (M : Int)] W (MakesP W (fillB a b K M))) := fun W bW => by
      have h3 := fillings_any (rows := K) (most := (M : Int)) (a := a) (bs := natsOf b) (w := W) ca cb (hax.below bW) (by rw [fI_nats hB.lo]; exact RT.of_OI (OI.below hb bW)) hb.caps.1 hb.caps.2 (by omega) (by rw [← hax.1]; exact hA.len) (by omega) (fun j => by have h1 := hA.lo j; have h2 := hA.top j; omega) (fun c hc => by have := hB.nats c hc; omega) (by rw [fI_nats hB.lo]; exact Nat.le_trans (box_len hB hKM) (by omega))
      rw [fI_nats hB.lo] at h3
      exact h3
    have hw : IntKind.i64.wrap ((K : Int) + M - K) = (M : Int) := by rw [show (K : Int) + M - K = M by omega]; exact IntWalk.i64_in _ (by omega)
    have hw2 : (K : Int) + M - K = M := by omega
    clear ha hb hA hB
    go_enter Try.func23, Try.ntmps23
    go_wp2_with (first | (go_at_call 49; (with_reducible refine (HBA.out _ ?_).mono ?_); (first | exact hax | exact hax.drewN _); rintro e w' ⟨rfl, q0, rfl⟩) | (go_at_call 49; (with_reducible refine (HBB.out _ ?_).mono ?_); (first | exact hbx | exact hbx.drewN _); rintro e w' ⟨rfl, q1, rfl⟩))
    refine (HFL.out _ (Quiet.below ⟨_, rfl⟩)).mono ?_
    rintro e w1 ⟨A1, n1, c1, cells, rfl, o1, l1, ⟨cp1, le1⟩, bl1⟩
    go_wp2
    go_ret2
    rw [HE.out, HO.out]
    exact MakesPb.of (by simpa using o1) ((Quiet.below ⟨_, rfl⟩).trans (by simpa using bl1))
end Go.Proofs.Ytmodpicemlkbjaa
