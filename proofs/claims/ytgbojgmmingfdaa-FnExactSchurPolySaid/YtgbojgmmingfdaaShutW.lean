/- l2Shut of the reference: keys become terms. -/
import Derived.Test.YtgbojgmmingfdaaUnitE
import Derived.Deep.RegionHeld3
namespace Go.Proofs.Ytgbojgmmingfdaa
open Go.RowKit

theorem OT.belowB {w w' : World} {base b : Nat} {v : Value} {ps : List (List Int × Int)} {cells : List Value} (h : OT w base b v ps cells) (hb : Below w.heap.size w w') : OT w' base b v ps cells := OF.below h hb
set_option maxRecDepth 100000 in
set_option maxHeartbeats 1000000 in
theorem l2Shut_any {w : World} {base g n c : Nat} {L : List (Int × Int)} (h : OM w base (.slice (some ⟨g, 0, none⟩) n c) L) (hn : n ≤ 1000000000) (hk : ∀ x ∈ L, 0 ≤ x.1 ∧ x.1 ≤ 9223372036854775807) :
    Calls Try.prog 60 #[.slice (some ⟨g, 0, none⟩) n c] w (MakesTm w (shutT L) (shutB L)) := by
  have HL : Hid (L.length = n) := h.len
  have H := Lib.hid h
  have HK := Lib.hid hk
  clear h hk
  go_enter Try.func60, Try.ntmps60
  by_cases hbig : n ≤ 600
  case neg =>
    have e : Hid (shutB L = false) := by show _ = _; rw [shutB, HL.out, decide_eq_false hbig]; rfl
    go_wp2
    go_ret2
    rw [e.out, shut_no e.out]
    exact ⟨_, _, rfl, OF.nil_ _ _ _ _ _, Below.refl _ _⟩
  obtain ⟨w1, e1⟩ : ∃ W, W = w.alloc (.cells #[] 81) := ⟨_, rfl⟩
  have HO1 : Hid (OT w1 w.heap.size w.heap.size (.slice (some ⟨w.heap.size, 0, none⟩) 0 0) [] []) := by rw [e1]; exact OT.lit w _ _ (Nat.le_refl _)
  have HB1 : Hid (Below w.heap.size w w1) := by rw [e1]; exact (Below.refl _ _).alloc (Nat.le_refl _) _
  have E1 := Lib.hid e1
  clear e1
  go_wp2
  have hal : w.alloc (.cells #[] 81) = w1 := E1.out.symm
  rw [hal]
  clear hal
  go_loopw [4, 5] (fun ov kv wr => ∃ (k n' c' : Nat) (A' : Option Addr) (cs : List Value), ov = .slice A' n' c' ∧ kv = .int .i64 (k : Int) ∧ k ≤ n ∧ Hid (OT wr w.heap.size w.heap.size (.slice A' n' c') ((L.take k).map exT) cs ∧ Below w.heap.size w wr)) (fun _ kv _ => n - (intOf kv).toNat)
  case atStart => exact ⟨0, _, _, _, _, rfl, rfl, Nat.zero_le _, HO1.out, HB1.out⟩
  case round =>
    obtain ⟨k, n', c', A', cs, rfl, rfl, hkn, HX⟩ := hrel
    by_cases hlt : k < n
    · obtain ⟨x1, x2⟩ := (H.out.below HX.out.2).cell (k := k) (by rw [HL.out]; exact hlt)
      obtain ⟨p, hp⟩ : ∃ p, p = (nthM L k).1 := ⟨_, rfl⟩
      obtain ⟨q, hq⟩ : ∃ p, p = (nthM L k).2 := ⟨_, rfl⟩
      rw [← hp] at x1
      rw [← hq] at x2
      have hpb : 0 ≤ p ∧ p ≤ 9223372036854775807 := by rw [hp]; exact HK.out _ (by rw [nthM_lt (by rw [HL.out]; exact hlt)]; exact List.getElem_mem _)
      have HP := Lib.hid hp
      have HQ := Lib.hid hq
      have HXX : Hid (wr.cell? ⟨g, k * 2, none⟩ = some (.int .i64 p) ∧ wr.cell? ⟨g, k * 2 + 1, none⟩ = some (.int .i64 q)) := ⟨x1, x2⟩
      have HC : Hid (∀ W, Calls Try.prog 127 #[.int .i64 p] W (Makes W (expL p))) := fun W => l2Exp_any p hpb
      have HSZ : Hid (w.heap.size ≤ wr.heap.size) := HX.out.2.size
      have HLN : Hid (((L.take k).map exT).length + 1 ≤ 1000000000000) := by show _ ≤ _; rw [List.length_map, List.length_take]; omega
      have HFR := Lib.hid HX.out.1.2.1
      have HXW : Hid (∀ W, Below w.heap.size w W → W.cell? ⟨g, k * 2, none⟩ = some (.int .i64 p) ∧ W.cell? ⟨g, k * 2 + 1, none⟩ = some (.int .i64 q)) := fun W bW => by
        have h := (H.out.below bW).cell (k := k) (by rw [HL.out]; exact hlt)
        rw [HP.out, HQ.out]
        exact h
      clear hp hq hpb
      go_wp2
      go_region_held3 (fun w' => w'.cell? ⟨g, k * 2, none⟩ = some (.int .i64 p) ∧ w'.cell? ⟨g, k * 2 + 1, none⟩ = some (.int .i64 q)) (first | exact HXX.out | exact two_cells b8 HXX.out.1 HXX.out.2 | exact two_cells (b8.alloc b8.size _) HXX.out.1 HXX.out.2 | exact HXW.out _ bb5 | fail) (first
        | (go_at_call 127; (with_reducible refine (HC.out _).mono ?_); rintro e w8 ⟨A8, n8, c8, rfl, o8, r8, -, b8'⟩; have b8 : Below wr.heap.size wr w8 := ⟨b8'.os, b8'.tape, b8'.output, b8'.size, b8'.block⟩)
        | (refine stepAppT rfl _ _ rfl w.heap.size w.heap.size (.slice A' n' c') (.slice A8 n8 c8) ((L.take k).map exT) cs (expL p) q rfl rfl (OF.below HX.out.1 b8) (OI.mono o8 HSZ.out) (apart_new (H := wr.heap.size) HFR.out (Nat.le_refl _) o8) HLN.out (Nat.le_trans HSZ.out b8.size) ?_; intro v5 w5 h1 h2 h3; have bb5 : Below w.heap.size w w5 := ((HX.out.2.trans (b8.mono HSZ.out)).alloc (Nat.le_trans HSZ.out b8.size) _).grown h2 (by simp; have := b8.size; have := HSZ.out; omega) fun k hk => (OF.lt HX.out.1 k hk).1)
        | fail)
      go_wp2
      obtain ⟨A5, c5, rfl, -⟩ := OF.form h1
      have HF : Hid (OT w5 w.heap.size w.heap.size (.slice A5 ((L.take k).map exT ++ [(expL p, q)]).length c5) ((L.take (k + 1)).map exT) (cs ++ [.slice A8 n8 c8, .int .i64 q]) ∧ Below w.heap.size w w5) := by
        refine ⟨?_, bb5⟩
        rw [takeK (by rw [HL.out]; exact hlt), List.map_append]
        have e : [nthM L k].map exT = [(expL p, q)] := by rw [HP.out, HQ.out]; rfl
        rw [e]
        exact h1
      go_roundw
      case rel => exact ⟨k + 1, _, c5, A5, _, rfl, by go_num, by omega, HF.out⟩
      case measure => simp [intOf]; omega
    · have hm : Hid ((L.take k).map exT = L.map exT) := by show _ = _; rw [List.take_of_length_le (by rw [HL.out]; omega)]
      obtain ⟨A1, c1, hv, -⟩ := OF.form HX.out.1
      obtain ⟨rfl, hnn, rfl⟩ := slice_inj hv
      have hn' : Hid (n' = n) := by show _ = _; rw [hnn, List.length_map, List.length_take, HL.out]; omega
      have HRT := Lib.hid (OT.rt HX.out.1)
      rw [hm.out] at HRT
      clear hv hnn
      go_wp2_with (go_at_call 128; refine (sPolyOk_any _ HRT.out (by rw [hn'.out]; omega)).mono ?_; rintro e w6 ⟨rfl, q6, rfl⟩)
      all_goals rename_i hpb
      all_goals go_ret2
      · have e : shutB L = false := by rw [shutB]; simp at hpb; rw [hpb]; simp
        rw [e, shut_no e]
        exact ⟨_, _, rfl, OF.nil_ _ _ _ _ _, below_drewN HX.out.2 _⟩
      · have e : shutB L = true := by rw [shutB, HL.out, decide_eq_true hbig]; simp at hpb; rw [hpb]; rfl
        rw [e, shut_yes e, ← hm.out]
        exact ⟨_, _, rfl, OT.belowB HX.out.1 (below_drewN (Below.refl _ _) _), below_drewN HX.out.2 _⟩
end Go.Proofs.Ytgbojgmmingfdaa
