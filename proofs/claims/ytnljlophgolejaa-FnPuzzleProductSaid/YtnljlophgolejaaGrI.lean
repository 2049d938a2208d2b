/- Products of the program (where the reference's are not in the seat). -/
import Derived.Test.YtnljlophgolejaaLayerA
import Derived.Test.YtnljlophgolejaaGrP
import Derived.Test.YtnljlophgolejaaPieri
namespace Go.Proofs.Ytnljlophgolejaa
open Go.RowKit

theorem OI.caps {w : World} {base n c : Nat} {A : Option Addr} {l : List Int} (h : OI w base (.slice A n c) l) : n ≤ c ∧ c ≤ 9223372036854775807 := by
  obtain ⟨A', n', c', hv, _, h1, h2, _⟩ := h.form
  obtain ⟨rfl, rfl, rfl⟩ := slice_inj hv
  exact ⟨h1, h2⟩
theorem fI_nats {l : List Int} (h : ∀ j, 0 ≤ nth l j) : fI (natsOf l) = l := fI_natsOf h

set_option maxRecDepth 100000 in
set_option maxHeartbeats 1000000 in
theorem iGr_any {w : World} {Aa Ab : Option Addr} {na nb ba bb : Nat} {a b : List Int} (ca cb : Nat) (k n : Int) (ha : OI w ba (.slice Aa na ca) a) (hb : OI w bb (.slice Ab nb cb) b) (hna : na ≤ 1000000000) (hnb : nb ≤ 1000000000) :
    Calls Try.prog 36 #[.slice Aa na ca, .slice Ab nb cb, .int .i64 k, .int .i64 n] w (MakesPb w (grB a b k n) (grOk a b k n)) := by
  have hax := ha.ri
  have hbx := hb.ri
  rcases h1 : inBoxB a k n with _ | _
  · have HO : Hid (grOk a b k n = false) := by show _ = _; simp [grOk, h1]
    have HE := Lib.hid (grB_no HO.out)
    go_enter Try.func36, Try.ntmps36
    go_wp2_with (go_at_call 82; refine (iIsInBox_any _ _ _ (by first | exact hax | exact hax.drewN _) hna).mono ?_; rintro e w' ⟨rfl, q0, rfl⟩)
    go_ret2
    rw [HE.out, HO.out]
    exact MakesPb.of (OF.nil_ _ _ _ _ _) (Quiet.below ⟨_, rfl⟩)
  have HBA : Hid (∀ W, RI W Aa na a → Calls Try.prog 82 #[.slice Aa na ca, .int .i64 k, .int .i64 n] W (Gives W (.bool (inBoxB a k n)))) := fun W h => iIsInBox_any _ _ _ h hna
  have HBB : Hid (∀ W, RI W Ab nb b → Calls Try.prog 82 #[.slice Ab nb cb, .int .i64 k, .int .i64 n] W (Gives W (.bool (inBoxB b k n)))) := fun W h => iIsInBox_any _ _ _ h hnb
  rcases h2 : inBoxB b k n with _ | _
  · have HO : Hid (grOk a b k n = false) := by show _ = _; simp [grOk, h2]
    have HE := Lib.hid (grB_no HO.out)
    go_enter Try.func36, Try.ntmps36
    go_wp2_with (first | (go_at_call 82; (with_reducible refine (HBA.out _ ?_).mono ?_); (first | exact hax | exact hax.drewN _); rintro e w' ⟨rfl, q0, rfl⟩) | (go_at_call 82; (with_reducible refine (HBB.out _ ?_).mono ?_); (first | exact hbx | exact hbx.drewN _); rintro e w' ⟨rfl, q1, rfl⟩))
    go_ret2
    rw [HE.out, HO.out]
    exact MakesPb.of (OF.nil_ _ _ _ _ _) (Quiet.below ⟨_, rfl⟩)
  · obtain ⟨K, M, rfl, rfl, hKM, hA⟩ := box_split h1
    have hB := SD.box h2
    have HO : Hid (grOk a b K ((K : Int) + M) = true) := by show _ = _; simp [grOk, h1, h2]
    have HE := Lib.hid (grB_yes HO.out)
    have hcaps := ha.caps
    have HA := Lib.hid hA
    have HB := Lib.hid hB
    have H1 := Lib.hid h1
    have hKb := hB.len
    have HFL : Hid (∀ W : World, Below w.heap.size w W → Calls Try.prog 83 #[.slice Aa na ca, .slice Ab nb cb, .int .i64 (K : Int), .int .i64 (M : Int)] W (MakesP W (fillB a b K M))) := fun W bW => by
      have h3 := fillings_any (rows := K) (most := (M : Int)) (a := a) (bs := natsOf b) (w := W) ca cb (hax.below bW) (by rw [fI_nats hB.lo]; exact RT.of_OI (OI.below hb bW)) hb.caps.1 hb.caps.2 (by omega) (by rw [← hax.1]; exact hA.len) (by omega) (fun j => by have h1 := hA.lo j; have h2 := hA.top j; omega) (fun c hc => by have := hB.nats c hc; omega) (by rw [fI_nats hB.lo]; exact Nat.le_trans (box_len hB hKM) (by omega))
      rw [fI_nats hB.lo] at h3
      exact h3
    have hw : IntKind.i64.wrap ((K : Int) + M - K) = (M : Int) := by rw [show (K : Int) + M - K = M by omega]; exact IntWalk.i64_in _ (by omega)
    have hw2 : (K : Int) + M - K = M := by omega
    clear ha hb hA hB
    go_enter Try.func36, Try.ntmps36
    go_wp2_with (first | (go_at_call 82; (with_reducible refine (HBA.out _ ?_).mono ?_); (first | exact hax | exact hax.drewN _); rintro e w' ⟨rfl, q0, rfl⟩) | (go_at_call 82; (with_reducible refine (HBB.out _ ?_).mono ?_); (first | exact hbx | exact hbx.drewN _); rintro e w' ⟨rfl, q1, rfl⟩))
    refine (HFL.out _ (Quiet.below ⟨_, rfl⟩)).mono ?_
    rintro e w1 ⟨A1, n1, c1, cells, rfl, o1, l1, ⟨cp1, le1⟩, bl1⟩
    go_wp2
    go_ret2
    rw [HE.out, HO.out]
    exact MakesPb.of (by simpa using o1) ((Quiet.below ⟨_, rfl⟩).trans (by simpa using bl1))
end Go.Proofs.Ytnljlophgolejaa
