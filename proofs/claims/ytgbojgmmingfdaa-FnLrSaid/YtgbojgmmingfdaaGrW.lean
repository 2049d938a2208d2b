/- Products of the program and of the reference. -/
import Derived.Test.YtgbojgmmingfdaaRef
import Derived.Test.YtgbojgmmingfdaaLayerA
import Derived.Test.YtgbojgmmingfdaaGrP
import Derived.Test.YtgbojgmmingfdaaGauss
namespace Go.Proofs.Ytgbojgmmingfdaa
open Go.RowKit

theorem OI.caps {w : World} {base n c : Nat} {A : Option Addr} {l : List Int} (h : OI w base (.slice A n c) l) : n ≤ c ∧ c ≤ 9223372036854775807 := by
  obtain ⟨A', n', c', hv, _, h1, h2, _⟩ := h.form
  obtain ⟨rfl, rfl, rfl⟩ := slice_inj hv
  exact ⟨h1, h2⟩
theorem fI_nats {l : List Int} (h : ∀ j, 0 ≤ nth l j) : fI (natsOf l) = l := fI_natsOf h

set_option maxRecDepth 100000 in
set_option maxHeartbeats 1000000 in
theorem l4Product_any {w : World} {Aa Ab : Option Addr} {na nb rows M : Nat} {a b : List Int} (ca cb : Nat) (ha : RI w Aa na a) (hca : na ≤ ca) (hb : RI w Ab nb b) (hA : SD a rows M) (hb0 : ∀ j, 0 ≤ nth b j) (hbs : ∀ c ∈ natsOf b, c ≤ 1000) (hbl : nb ≤ 1000)
    (hr : rows ≤ 16) (hM : M ≤ 1000) (hlen : (layerC rows M b (padL a rows) none).length ≤ 100000000000) :
    Calls Try.prog 124 #[.slice Aa na ca, .slice Ab nb cb, .int .i64 (rows : Int), .int .i64 (M : Int)] w (MakesP w (fillB a b rows M)) := by
  have hbe := fI_nats hb0
  have hla := ha.1
  have hlb := hb.1
  have HL := Lib.hid (lat_any (natsOf b) (natsOf b).length 0 (by omega))
  have hna := hA.len
  rw [hla] at hna
  have hpl : (padL a rows).length = rows := padL_len hA.len
  have hI : Inv rows 0 M (padL a rows) (padL a rows) (List.replicate rows 0) none := Inv.first hpl (fun j => by rw [nth_padL]; have h1 := hA.lo j; have h2 := hA.top j; omega) (fun j => by rw [nth_padL, nth_padL]; exact hA.desc j) (fun j => by rw [nth_padL]; exact hA.top j)
  have HCALL : Hid (∀ W : World, Below w.heap.size w W → OI W w.heap.size (.slice (some ⟨w.heap.size, 0, none⟩) rows rows) (List.replicate rows 0) → Calls Try.prog 180 #[.slice Aa na ca, .slice Ab nb cb, .int .i64 (rows : Int), .int .i64 (M : Int), .int .i64 0, .slice (some ⟨w.heap.size, 0, none⟩) rows rows, .slice none 0 0] W (MakesP w (fillB a b rows M))) := fun W bW oz => by
    have h1 := HL.out W w.heap.size w.heap.size rows M Aa Ab (some ⟨w.heap.size, 0, none⟩) na ca nb cb rows a (padL a rows) (List.replicate rows 0) none (.slice none 0 0) [] [] 0
      (ha.below bW) hca rfl hna hr (by omega) (by omega) (by rw [hbe]; exact hb.below bW) oz.ri (Nat.le_refl _) rfl (fun _ => hI) hbs (by rw [natsOf, List.length_map, hlb]; exact hbl) (OF.nil_ _ _ _ _ _) Okp.nil_ (by rw [List.drop_zero, hbe]; show (0 : Int) + ((layerC rows M b (padL a rows) none).length : Int) ≤ _; omega) bW.size bW.size
    rw [List.drop_zero, hbe] at h1
    refine h1.mono fun e w' ⟨v', cells', h2, h3, h4⟩ => ?_
    rw [h2]
    exact MakesP.of h3 (bW.trans (h4.mono bW.size))
  clear HL hI hpl hbe hla hlb ha hb hA
  go_enter Try.func124, Try.ntmps124
  go_wp2_with (at_make; refine wpMake rfl _ _ rfl rows _ _ rfl rfl rfl rfl (by omega) ?_; intro w2 o2 b2 s2)
  refine (HCALL.out _ b2 o2).mono ?_
  rintro e w3 ⟨A3, n3, c3, cells3, rfl, o3, r3, ⟨cp3, le3⟩, b3⟩
  have HM := Lib.hid (MakesP.of o3 b3)
  clear o3 b3 r3
  go_wp2
  go_ret
  exact HM.out

end Go.Proofs.Ytgbojgmmingfdaa

/- ShapeProduct of the program and of the reference. -/
namespace Go.Proofs.Ytgbojgmmingfdaa
open Go.RowKit

set_option maxRecDepth 100000 in
set_option maxHeartbeats 1000000 in
theorem sSh_any {w : World} {Aa Ab : Option Addr} {na nb ba bb : Nat} {a b : List Int} (ca cb : Nat) (ha : OI w ba (.slice Aa na ca) a) (hb : OI w bb (.slice Ab nb cb) b) (hna : na ≤ 1000000000) (hnb : nb ≤ 1000000000) :
    Calls Try.prog 50 #[.slice Aa na ca, .slice Ab nb cb] w (MakesPb w (shB a b) (shOk a b)) := by
  have hax := ha.ri
  have hbx := hb.ri
  have HBA : Hid (∀ W, RI W Aa na a → Calls Try.prog 123 #[.slice Aa na ca] W (Gives W (.bool (smallB a)))) := fun W h => l4Small_any _ h hna
  have HBB : Hid (∀ W, RI W Ab nb b → Calls Try.prog 123 #[.slice Ab nb cb] W (Gives W (.bool (smallB b)))) := fun W h => l4Small_any _ h hnb
  rcases h1 : smallB a with _ | _
  · have HO : Hid (shOk a b = false) := by show _ = _; simp [shOk, h1]
    have HE := Lib.hid (shB_no HO.out)
    go_enter Try.func50, Try.ntmps50
    go_wp2_with (go_at_call 123; (with_reducible refine (HBA.out _ ?_).mono ?_); (first | exact hax | exact hax.drewN _); rintro e w' ⟨rfl, q0, rfl⟩)
    go_ret2
    rw [HE.out, HO.out]
    exact MakesPb.of (OF.nil_ _ _ _ _ _) (Quiet.below ⟨_, rfl⟩)
  rcases h2 : smallB b with _ | _
  · have HO : Hid (shOk a b = false) := by show _ = _; simp [shOk, h2]
    have HE := Lib.hid (shB_no HO.out)
    go_enter Try.func50, Try.ntmps50
    go_wp2_with (first | (go_at_call 123; (with_reducible refine (HBA.out _ ?_).mono ?_); (first | exact hax | exact hax.drewN _); rintro e w' ⟨rfl, q0, rfl⟩) | (go_at_call 123; (with_reducible refine (HBB.out _ ?_).mono ?_); (first | exact hbx | exact hbx.drewN _); rintro e w' ⟨rfl, q1, rfl⟩))
    go_ret2
    rw [HE.out, HO.out]
    exact MakesPb.of (OF.nil_ _ _ _ _ _) (Quiet.below ⟨_, rfl⟩)
  · have HO : Hid (shOk a b = true) := by show _ = _; simp [shOk, h1, h2]
    have HE := Lib.hid (shB_yes HO.out)
    have hA := smallB_SD h1
    have hB := smallB_SD h2
    have hbl := hB.len
    rw [hbx.1] at hbl
    have HFL : Hid (∀ W : World, Below w.heap.size w W → Calls Try.prog 124 #[.slice Aa na ca, .slice Ab nb cb, .int .i64 16, .int .i64 16] W (MakesP W (fillB a b 16 16))) := fun W bW =>
      l4Product_any (rows := 16) (M := 16) ca cb (hax.below bW) ha.caps.1 (hbx.below bW) hA hB.lo (fun c hc => by have := hB.nats c hc; omega) (by omega) (by omega) (by omega) (Nat.le_trans (sh_len h2) (by omega))
    clear ha hb hA hB
    go_enter Try.func50, Try.ntmps50
    go_wp2_with (first | (go_at_call 123; (with_reducible refine (HBA.out _ ?_).mono ?_); (first | exact hax | exact hax.drewN _); rintro e w' ⟨rfl, q0, rfl⟩) | (go_at_call 123; (with_reducible refine (HBB.out _ ?_).mono ?_); (first | exact hbx | exact hbx.drewN _); rintro e w' ⟨rfl, q1, rfl⟩))
    refine (HFL.out _ (Quiet.below ⟨_, rfl⟩)).mono ?_
    rintro e w1 ⟨A1, n1, c1, cells, rfl, o1, l1, ⟨cp1, le1⟩, bl1⟩
    go_wp2
    go_ret2
    rw [HE.out, HO.out]
    exact MakesPb.of (by simpa using o1) ((Quiet.below ⟨_, rfl⟩).trans (by simpa using bl1))
set_option maxRecDepth 100000 in
set_option maxHeartbeats 1000000 in
theorem iSh_any {w : World} {Aa Ab : Option Addr} {na nb ba bb : Nat} {a b : List Int} (ca cb : Nat) (ha : OI w ba (.slice Aa na ca) a) (hb : OI w bb (.slice Ab nb cb) b) (hna : na ≤ 1000000000) (hnb : nb ≤ 1000000000) :
    Calls Try.prog 49 #[.slice Aa na ca, .slice Ab nb cb] w (MakesPb w (shB a b) (shOk a b)) := by
  have hax := ha.ri
  have hbx := hb.ri
  have HBA : Hid (∀ W, RI W Aa na a → Calls Try.prog 62 #[.slice Aa na ca] W (Gives W (.bool (smallB a)))) := fun W h => iSmall_any _ h hna
  have HBB : Hid (∀ W, RI W Ab nb b → Calls Try.prog 62 #[.slice Ab nb cb] W (Gives W (.bool (smallB b)))) := fun W h => iSmall_any _ h hnb
  rcases h1 : smallB a with _ | _
  · have HO : Hid (shOk a b = false) := by show _ = _; simp [shOk, h1]
    have HE := Lib.hid (shB_no HO.out)
    go_enter Try.func49, Try.ntmps49
    go_wp2_with (go_at_call 62; (with_reducible refine (HBA.out _ ?_).mono ?_); (first | exact hax | exact hax.drewN _); rintro e w' ⟨rfl, q0, rfl⟩)
    go_ret2
    rw [HE.out, HO.out]
    exact MakesPb.of (OF.nil_ _ _ _ _ _) (Quiet.below ⟨_, rfl⟩)
  rcases h2 : smallB b with _ | _
  · have HO : Hid (shOk a b = false) := by show _ = _; simp [shOk, h2]
    have HE := Lib.hid (shB_no HO.out)
    go_enter Try.func49, Try.ntmps49
    go_wp2_with (first | (go_at_call 62; (with_reducible refine (HBA.out _ ?_).mono ?_); (first | exact hax | exact hax.drewN _); rintro e w' ⟨rfl, q0, rfl⟩) | (go_at_call 62; (with_reducible refine (HBB.out _ ?_).mono ?_); (first | exact hbx | exact hbx.drewN _); rintro e w' ⟨rfl, q1, rfl⟩))
    go_ret2
    rw [HE.out, HO.out]
    exact MakesPb.of (OF.nil_ _ _ _ _ _) (Quiet.below ⟨_, rfl⟩)
  · have HO : Hid (shOk a b = true) := by show _ = _; simp [shOk, h1, h2]
    have HE := Lib.hid (shB_yes HO.out)
    have hA := smallB_SD h1
    have hB := smallB_SD h2
    have hbl := hB.len
    rw [hbx.1] at hbl
    have HFL : Hid (∀ W : World, Below w.heap.size w W → Calls Try.prog 122 #[.slice Aa na ca, .slice Ab nb cb, .int .i64 16, .int .i64 16] W (MakesP W (fillB a b 16 16))) := fun W bW => by
      have h3 := fillings_any (rows := 16) (most := 16) (a := a) (bs := natsOf b) (w := W) ca cb (hax.below bW) (by rw [fI_nats hB.lo]; exact RT.of_OI (OI.below hb bW)) hb.caps.1 hb.caps.2 (by omega) (by rw [← hax.1]; exact hA.len) (by omega) (fun j => by have h1 := hA.lo j; have h2 := hA.top j; omega) (fun c hc => by have := hB.nats c hc; omega) (by rw [fI_nats hB.lo]; exact Nat.le_trans (sh_len h2) (by omega))
      rw [fI_nats hB.lo] at h3
      exact h3
    clear ha hb hA hB
    go_enter Try.func49, Try.ntmps49
    go_wp2_with (first | (go_at_call 62; (with_reducible refine (HBA.out _ ?_).mono ?_); (first | exact hax | exact hax.drewN _); rintro e w' ⟨rfl, q0, rfl⟩) | (go_at_call 62; (with_reducible refine (HBB.out _ ?_).mono ?_); (first | exact hbx | exact hbx.drewN _); rintro e w' ⟨rfl, q1, rfl⟩))
    refine (HFL.out _ (Quiet.below ⟨_, rfl⟩)).mono ?_
    rintro e w1 ⟨A1, n1, c1, cells, rfl, o1, l1, ⟨cp1, le1⟩, bl1⟩
    go_wp2
    go_ret2
    rw [HE.out, HO.out]
    exact MakesPb.of (by simpa using o1) ((Quiet.below ⟨_, rfl⟩).trans (by simpa using bl1))
end Go.Proofs.Ytgbojgmmingfdaa
