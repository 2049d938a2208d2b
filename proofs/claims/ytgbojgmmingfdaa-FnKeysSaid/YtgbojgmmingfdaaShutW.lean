/- l2Shut of the reference: keys become terms. -/
import Derived.Test.YtgbojgmmingfdaaPolySp
import Derived.Deep.RegionHeld3
import Derived.Test.YtgbojgmmingfdaaSchurB
namespace Go.Proofs.Ytgbojgmmingfdaa
open Go.RowKit

theorem OT.belowB {w w' : World} {base b : Nat} {v : Value} {ps : List (List Int × Int)} {cells : List Value} (h : OT w base b v ps cells) (hb : Below w.heap.size w w') : OT w' base b v ps cells := OF.below h hb
set_option maxRecDepth 100000 in
set_option maxHeartbeats 1000000 in
theorem l2Shut_any {w : World} {base g n c : Nat} {L : List (Int × Int)} (h : OM w base (.slice (some ⟨g, 0, none⟩) n c) L) (hn : n ≤ 1000000000) (hk : ∀ x ∈ L, 0 ≤ x.1 ∧ x.1 ≤ 9223372036854775807) :
    Calls Try.prog 60 #[.slice (some ⟨g, 0, none⟩) n c] w (MakesTm w (shutT L) (shutB L)) := by
  have HL : Hid (L.length = n) := h.len
  have H := Lib.hid h
  have HK := Lib.hid hk
  clear h hk
  go_enter Try.func60, Try.ntmps60
  by_cases hbig : n ≤ 600
  case neg =>
    have e : Hid (shutB L = false) := by show _ = _; rw [shutB, HL.out, decide_eq_false hbig]; rfl
    go_wp2
    go_ret2
    rw [e.out, shut_no e.out]
    exact ⟨_, _, rfl, OF.nil_ _ _ _ _ _, Below.refl _ _⟩
  obtain ⟨w1, e1⟩ : ∃ W, W = w.alloc (.cells #[] 81) := ⟨_, rfl⟩
  have HO1 : Hid (OT w1 w.heap.size w.heap.size (.slice (some ⟨w.heap.size, 0, none⟩) 0 0) [] []) := by rw [e1]; exact OT.lit w _ _ (Nat.le_refl _)
  have HB1 : Hid (Below w.heap.size w w1) := by rw [e1]; exact (Below.refl _ _).alloc (Nat.le_refl _) _
  have E1 := Lib.hid e1
  clear e1
  go_wp2
  have hal : w.alloc (.cells #[] 81) = w1 := E1.out.symm
  rw [hal]
  clear hal
  go_loopw [4, 5] (fun ov kv wr => ∃ (k n' c' : Nat) (A' : Option Addr) (cs : List Value), ov = .slice A' n' c' ∧ kv = .int .i64 (k : Int) ∧ k ≤ n ∧ Hid (OT wr w.heap.size w.heap.size (.slice A' n' c') ((L.take k).map exT) cs ∧ Below w.heap.size w wr)) (fun _ kv _ => n - (intOf kv).toNat)
  case atStart => exact ⟨0, _, _, _, _, rfl, rfl, Nat.zero_le _, HO1.out, HB1.out⟩
  case round =>
    obtain ⟨k, n', c', A', cs, rfl, rfl, hkn, HX⟩ := hrel
    by_cases hlt : k < n
    · obtain ⟨x1, x2⟩ := (H.out.below HX.out.2).cell (k := k) (by rw [HL.out]; exact hlt)
      obtain ⟨p, hp⟩ : ∃ p, p = (nthM L k).1 := ⟨_, rfl⟩
      obtain ⟨q, hq⟩ : ∃ p, p = (nthM L k).2 := ⟨_, rfl⟩
      rw [← hp] at x1
      rw [← hq] at x2
      have hpb : 0 ≤ p ∧ p ≤ 9223372036854775807 := by rw [hp]; exact HK.out _ (by rw [nthM_lt (by rw [HL.out]; exact hlt)]; exact List.getElem_mem _)
      have HP := Lib.hid hp
      have HQ := Lib.hid hq
      have HXX : Hid (wr.cell? ⟨g, k * 2, none⟩ = some (.int .i64 p) ∧ wr.cell? ⟨g, k * 2 + 1, none⟩ = some (.int .i64 q)) := ⟨x1, x2⟩
      have HC : Hid (∀ W, Calls Try.prog 127 #[.int .i64 p] W (Makes W (expL p))) := fun W => l2Exp_any p hpb
      have HSZ : Hid (w.heap.size ≤ wr.heap.size) := HX.out.2.size
      have HLN : Hid (((L.take k).map exT).length + 1 ≤ 1000000000000) := by show _ ≤ _; rw [List.length_map, List.length_take]; omega
      have HFR := Lib.hid HX.out.1.2.1
      have HXW : Hid (∀ W, Below w.heap.size w W → W.cell? ⟨g, k * 2, none⟩ = some (.int .i64 p) ∧ W.cell? ⟨g, k * 2 + 1, none⟩ = some (.int .i64 q)) := fun W bW => by
        have h := (H.out.below bW).cell (k := k) (by rw [HL.out]; exact hlt)
        rw [HP.out, HQ.out]
        exact h
      clear hp hq hpb
      go_wp2
      go_region_held3 (fun w' => w'.cell? ⟨g, k * 2, none⟩ = some (.int .i64 p) ∧ w'.cell? ⟨g, k * 2 + 1, none⟩ = some (.int .i64 q)) (first | exact HXX.out | exact two_cells b8 HXX.out.1 HXX.out.2 | exact two_cells (b8.alloc b8.size _) HXX.out.1 HXX.out.2 | exact HXW.out _ bb5 | fail) (first
        | (go_at_call 127; (with_reducible refine (HC.out _).mono ?_); rintro e w8 ⟨A8, n8, c8, rfl, o8, r8, -, b8'⟩; have b8 : Below wr.heap.size wr w8 := ⟨b8'.os, b8'.tape, b8'.output, b8'.size, b8'.block⟩)
        | (refine stepAppT rfl _ _ rfl w.heap.size w.heap.size (.slice A' n' c') (.slice A8 n8 c8) ((L.take k).map exT) cs (expL p) q rfl rfl (OF.below HX.out.1 b8) (OI.mono o8 HSZ.out) (apart_new (H := wr.heap.size) HFR.out (Nat.le_refl _) o8) HLN.out (Nat.le_trans HSZ.out b8.size) ?_; intro v5 w5 h1 h2 h3; have bb5 : Below w.heap.size w w5 := ((HX.out.2.trans (b8.mono HSZ.out)).alloc (Nat.le_trans HSZ.out b8.size) _).grown h2 (by simp; have := b8.size; have := HSZ.out; omega) fun k hk => (OF.lt HX.out.1 k hk).1)
        | fail)
      go_wp2
      obtain ⟨A5, c5, rfl, -⟩ := OF.form h1
      have HF : Hid (OT w5 w.heap.size w.heap.size (.slice A5 ((L.take k).map exT ++ [(expL p, q)]).length c5) ((L.take (k + 1)).map exT) (cs ++ [.slice A8 n8 c8, .int .i64 q]) ∧ Below w.heap.size w w5) := by
        refine ⟨?_, bb5⟩
        rw [takeK (by rw [HL.out]; exact hlt), List.map_append]
        have e : [nthM L k].map exT = [(expL p, q)] := by rw [HP.out, HQ.out]; rfl
        rw [e]
        exact h1
      go_roundw
      case rel => exact ⟨k + 1, _, c5, A5, _, rfl, by go_num, by omega, HF.out⟩
      case measure => simp [intOf]; omega
    · have hm : Hid ((L.take k).map exT = L.map exT) := by show _ = _; rw [List.take_of_length_le (by rw [HL.out]; omega)]
      obtain ⟨A1, c1, hv, -⟩ := OF.form HX.out.1
      obtain ⟨rfl, hnn, rfl⟩ := slice_inj hv
      have hn' : Hid (n' = n) := by show _ = _; rw [hnn, List.length_map, List.length_take, HL.out]; omega
      have HRT := Lib.hid (OT.rt HX.out.1)
      rw [hm.out] at HRT
      clear hv hnn
      go_wp2_with (go_at_call 128; refine (sPolyOk_any _ HRT.out (by rw [hn'.out]; omega)).mono ?_; rintro e w6 ⟨rfl, q6, rfl⟩)
      all_goals rename_i hpb
      all_goals go_ret2
      · have e : shutB L = false := by rw [shutB]; simp at hpb; rw [hpb]; simp
        rw [e, shut_no e]
        exact ⟨_, _, rfl, OF.nil_ _ _ _ _ _, below_drewN HX.out.2 _⟩
      · have e : shutB L = true := by rw [shutB, HL.out, decide_eq_true hbig]; simp at hpb; rw [hpb]; rfl
        rw [e, shut_yes e, ← hm.out]
        exact ⟨_, _, rfl, OT.belowB HX.out.1 (below_drewN (Below.refl _ _) _), below_drewN HX.out.2 _⟩
end Go.Proofs.Ytgbojgmmingfdaa

/- l4Schur of the reference. -/
namespace Go.Proofs.Ytgbojgmmingfdaa
open Go.RowKit

theorem OM.keptO {w w' : World} {base : Nat} {v : Value} {L : List (Int × Int)} {row : Option Nat} (h : OM w base v L) (hg : w.grownBy w' row) (hne : ∀ k, v.ownBlock = some k → row ≠ some k) : OM w' base v L :=
  h.same fun k hk => hg.block k (h.lt k hk).2 (Ne.symm (hne k hk))
theorem OM.typed {w : World} {base : Nat} {v : Value} {L : List (Int × Int)} (h : OM w base v L) : ∀ g, v.ownBlock = some g → ∃ cs m, w.heap[g]? = some (.cells cs 120 m) := OF.typed h
/-- A slice of rows, and a slice of keys: they lie apart. -/
theorem OS.neM {w : World} {b b' base : Nat} {v u : Value} {ls : List (List Int)} {cells : List Value} {L : List (Int × Int)} (h : OS w b b' v ls cells) (hm : OM w base u L) : v.ownBlock = none ∨ v.ownBlock ≠ u.ownBlock := by
  rcases hv : v.ownBlock with _ | k
  · exact .inl rfl
  · refine .inr fun e => ?_
    obtain ⟨c1, m1, h1⟩ := OF.typed h k hv
    obtain ⟨c2, m2, h2⟩ := hm.typed k e.symm
    rw [h1] at h2
    injection h2 with h2
    injection h2 with _ h2
    exact absurd h2 (by decide)
theorem OM.typedI {w : World} {base : Nat} {v : Value} {L : List (Int × Int)} (h : OM w base v L) : ∀ g, v.ownBlock = some g → ∃ cs e m, w.heap[g]? = some (.cells cs e m) ∧ e ≠ 3 := OF.typed' h (by decide)
/-- What holds in the loops of l4Schur. -/
structure SchL (w w' : World) (b0 : Nat) (shape : Value) (ms : List Int) (out : Value) (Lo : List (Int × Int)) (l : Value) (ls : List (List Int)) (cells : List Value) : Prop where
  out : OM w' w.heap.size out Lo
  rows : OS w' w.heap.size w.heap.size l ls cells
  shp : OI w' b0 shape ms
  bel : Below w.heap.size w w'
section
variable {w w1 w2 : World} {b0 : Nat} {shape out l : Value} {ms : List Int} {Lo : List (Int × Int)} {ls : List (List Int)} {cells : List Value}
theorem SchL.below (h : SchL w w1 b0 shape ms out Lo l ls cells) (b : Below w1.heap.size w1 w2) : SchL w w2 b0 shape ms out Lo l ls cells :=
  ⟨h.out.below b, OS.below h.rows b, h.shp.below b, h.bel.trans (b.mono h.bel.size)⟩
theorem SchL.app {out' : Value} {Lo' : List (Int × Int)} (h : SchL w w1 b0 shape ms out Lo l ls cells) (hg : w1.grownBy w2 out.ownBlock) (ho : OM w2 w.heap.size out' Lo') : SchL w w2 b0 shape ms out' Lo' l ls cells :=
  ⟨ho, OF.kept h.rows hg (OS.neM h.rows h.out) fun g e => h.out.typedI g e, h.shp.kept_type hg fun g e => h.out.typedI g e, h.bel.grown hg h.bel.size fun k hk => (h.out.lt k hk).1⟩
end
theorem stripsG_zero (ms : List Int) : stripsG ms 0 = stripsR ms := by simp [stripsG]
set_option maxRecDepth 100000 in
set_option maxHeartbeats 4000000 in
theorem l4Schur_any (N : Nat) : ∀ (w : World) (b0 m c : Nat) (A : Option Addr) (ms : List Int), OI w b0 (.slice A m c) ms → Desc ms → Pos ms → ms.sum ≤ 8 → N ≤ 7 → (∀ j, nth ms j ≤ 1000) → ms.length ≤ 100 →
    Calls Try.prog 61 #[.slice A m c, .int .i64 (N : Int)] w (MakesM w (schurK N ms)) := by
  induction N with
  | zero =>
    intro w b0 m c A ms hs hd hp h8 hN h1000 hl100
    have hml : ms.length = m := hs.ri.1
    rcases Nat.eq_zero_or_pos m with h0 | h0
    · subst h0
      have hE : Hid (schurK 0 ms = [(0, 1)]) := by show _ = _; rw [schurK, if_neg (by omega)]
      have HLIT := Lib.hid (OM.lit1 w w.heap.size 0 1 (Nat.le_refl _))
      go_enter Try.func61, Try.ntmps61
      go_wp2
      go_ret
      rw [hE.out]
      exact ⟨_, _, _, rfl, HLIT.out, (Below.refl _ _).alloc (Nat.le_refl _) _⟩
    · have hE : Hid (schurK 0 ms = []) := by show _ = _; rw [schurK, if_pos (by omega)]
      have HLIT := Lib.hid (OM.lit w w.heap.size (Nat.le_refl _))
      go_enter Try.func61, Try.ntmps61
      go_wp2
      go_ret
      rw [hE.out]
      exact ⟨_, _, _, rfl, HLIT.out, (Below.refl _ _).alloc (Nat.le_refl _) _⟩
  | succ N ih =>
    intro w b0 m c A ms hs hd hp h8 hN h1000 hl100
    have hml : ms.length = m := hs.ri.1
    have IH := Lib.hid ih
    clear ih
    by_cases hbig : N + 1 < m
    · have hE : Hid (schurK (N + 1) ms = []) := by show _ = _; rw [schurK, if_pos (by omega)]
      have hlit := OM.lit w w.heap.size (Nat.le_refl _)
      have HLIT := Lib.hid hlit
      clear hlit
      go_enter Try.func61, Try.ntmps61
      go_wp2
      go_ret
      rw [hE.out]
      exact ⟨_, _, _, rfl, HLIT.out, (Below.refl _ _).alloc (Nat.le_refl _) _⟩
    rcases Nat.eq_zero_or_pos m with h0 | h0
    · subst h0
      have hE : Hid (schurK (N + 1) ms = [(0, 1)]) := by show _ = _; rw [schurK, if_neg (by omega), if_pos hml]
      have HLIT := Lib.hid (OM.lit1 w w.heap.size 0 1 (Nat.le_refl _))
      go_enter Try.func61, Try.ntmps61
      go_wp2
      go_ret
      rw [hE.out]
      exact ⟨_, _, _, rfl, HLIT.out, (Below.refl _ _).alloc (Nat.le_refl _) _⟩
    · have hE : Hid (schurK (N + 1) ms = gatherK ((stripsR ms).flatMap (partK N ms))) := by show _ = _; rw [schurK, if_neg (by omega), if_neg (by omega)]; rfl
      obtain ⟨w1, e1⟩ : ∃ W, W = w.alloc (.cells #[] 120) := ⟨_, rfl⟩
      have HO1 : Hid (OM w1 w.heap.size (.slice (some ⟨w.heap.size, 0, none⟩) 0 0) []) := by rw [e1]; exact OM.lit w _ (Nat.le_refl _)
      have HB1 : Hid (Below w.heap.size w w1) := by rw [e1]; exact (Below.refl _ _).alloc (Nat.le_refl _) _
      have hs1 : w1.heap.size = w.heap.size + 1 := by rw [e1]; simp
      have E1 := Lib.hid e1
      have HS1 : Hid (OI w1 b0 (.slice A m c) ms) := hs.below HB1.out
      have hsl : (stripsR ms).length ≤ 256 := by
        refine Nat.le_trans (stripsR_len hd) ?_
        have := sum_nat hd
        exact Nat.le_trans (Nat.pow_le_pow_right (by omega) (show _ ≤ 8 by omega)) (by decide)
      have HCS : Hid (Calls Try.prog 129 #[.slice A m c, .int .i64 0, .slice none 0 0] w1 (PostG w1 w1.heap.size (.slice none 0 0) (stripsR ms))) := by
        have h := l4Strips_any m w1 w1.heap.size b0 0 m c 0 0 A none ms [] [] HS1.out (OF.nil_ _ _ _ _ _) (by omega) (by omega) (fun j => by
            have := h1000 j
            by_cases hj : j < ms.length
            · have := hp j hj; omega
            · rw [nth_ge (by omega)]; omega) (fun h => by omega) (Nat.le_refl _) (by rw [stripsG_zero]; simp; omega)
        rw [stripsG_zero, List.nil_append] at h
        exact h
      have HPA : Hid (absK ((stripsR ms).flatMap (partK N ms)) ≤ 5764801 ∧ ((stripsR ms).flatMap (partK N ms)).length ≤ 5764801) := parts_abs hd hp h8 hN
      have HD := Lib.hid (⟨hd, hp, h8⟩ : Desc ms ∧ Pos ms ∧ ms.sum ≤ 8)
      have H1000 := Lib.hid h1000
      clear e1 hs hd hp h8 h1000
      go_enter Try.func61, Try.ntmps61
      go_wp2_with (rw [← E1.out]; go_at_call 129; refine HCS.out.mono ?_; rintro e w2 ⟨A2, n2, c2, cells, rfl, o2, g2, k2⟩)
      have hb2 : Below w1.heap.size w1 w2 := ⟨g2.os, g2.tape, g2.output, g2.size, fun k hk => g2.block k hk (by simp [Value.ownBlock])⟩
      have HSL : Hid (SchL w w2 b0 (.slice A m c) ms (.slice (some ⟨w.heap.size, 0, none⟩) 0 0) [] (.slice A2 n2 c2) (stripsR ms) cells) :=
        ⟨HO1.out.below hb2, OF.mono o2 (by omega) (by omega), HS1.out.below hb2, HB1.out.trans (hb2.mono (by omega))⟩
      have HN2 : Hid ((stripsR ms).length = n2) := by
        obtain ⟨A', n', c', e, h1, -⟩ := OS.form o2
        show _ = _
        rw [h1, (slice_inj e).2.1]
      have hn2 : n2 ≤ 256 := by have := HN2.out; omega
      clear o2 g2 k2 hb2
      go_loopw [5, 7, 8, 9, 10] (fun ov kv _ _ _ wr => ∃ (k go no co : Nat) (Lo : List (Int × Int)), ov = .slice (some ⟨go, 0, none⟩) no co ∧ kv = .int .i64 (k : Int) ∧ k ≤ n2 ∧ Hid (SchL w wr b0 (.slice A m c) ms (.slice (some ⟨go, 0, none⟩) no co) Lo (.slice A2 n2 c2) (stripsR ms) cells ∧ Lo = ((stripsR ms).take k).flatMap (partK N ms))) (fun _ kv _ _ _ _ => n2 - (intOf kv).toNat)
      case atStart => exact ⟨0, _, _, _, _, rfl, rfl, Nat.zero_le _, HSL.out, rfl⟩
      case round =>
        obtain ⟨k, go, no, co, Lo, rfl, rfl, hk, HX⟩ := hrel
        by_cases hlt : k < n2
        · obtain ⟨ad, A3, n3, c3, rfl, x1, -, o3, hc3⟩ := OS.cell HX.out.1.rows (k := k) hlt
          obtain ⟨mu, hmu⟩ : ∃ mu, mu = nthL (stripsR ms) k := ⟨_, rfl⟩
          rw [← hmu] at o3
          have hmem : mu ∈ stripsR ms := by
            rw [hmu]; unfold nthL
            rw [List.getD_eq_getElem?_getD, List.getElem?_eq_getElem (by rw [HN2.out]; exact hlt)]
            exact List.getElem_mem _
          have HMU := Lib.hid hmu
          have HBM : Hid ((Desc (bare mu) ∧ Pos (bare mu)) ∧ (bare mu).sum ≤ 8 ∧ 0 ≤ (bare mu).sum ∧ (bare mu).sum ≤ ms.sum ∧ (∀ j, nth (bare mu) j ≤ 1000) ∧ (bare mu).length ≤ 100) := by
            obtain ⟨hd, hp, h8⟩ := HD.out
            have h1 := strips_bare hd hp hmem
            have h2 := strips_sum hd hmem
            have h3 := sum_nonneg h1.1
            obtain ⟨d1, d2, d3⟩ := strips_desc hd hmem
            rw [← sum_bare] at h2
            refine ⟨h1, by omega, h3, h2, fun j => ?_, by unfold bare; rw [List.length_take]; omega⟩
            by_cases hj : j < (bare mu).length
            · have e : nth (bare mu) j = nth mu j := by
                unfold bare at hj ⊢
                rw [nth_take (by rw [List.length_take] at hj; omega)]
              rw [e]
              exact Int.le_trans (d3 j).2 (H1000.out j)
            · rw [nth_ge (by omega)]; omega
          have hn3 : n3 ≤ 1000000000 := by
            have h1 := o3.ri.1
            obtain ⟨-, d2, -⟩ := strips_desc HD.out.1 hmem
            omega
          have HCB : Hid (∀ W, Below wr.heap.size wr W → Calls Try.prog 130 #[.slice A3 n3 c3] W (Makes W (bare mu))) := fun W bW => l4Bare_any _ (o3.ri.below bW) hn3 hc3
          have HGO : Hid (go < wr.heap.size ∧ w.heap.size ≤ wr.heap.size) := ⟨(HX.out.1.out.lt go rfl).2, HX.out.1.bel.size⟩
          clear hmu o3 hmem
          obtain ⟨wo, hwo⟩ : ∃ wo : World, wo = wr := ⟨_, rfl⟩
          rw [← hwo] at HX HCB HGO x1 ⊢
          clear hwo
          have HCI : Hid (∀ (W : World) (A' : Option Addr) (n' c' : Nat), OI W wo.heap.size (.slice A' n' c') (bare mu) → Calls Try.prog 61 #[.slice A' n' c', .int .i64 (N : Int)] W (MakesM W (schurK N (bare mu)))) := fun W A' n' c' h =>
            IH.out W wo.heap.size n' c' A' (bare mu) h HBM.out.1.1 HBM.out.1.2 HBM.out.2.1 (by omega) HBM.out.2.2.2.2.1 HBM.out.2.2.2.2.2
          go_wp2_with (first
            | (go_at_call 130; (with_reducible refine (HCB.out _ ?_).mono ?_); (exact Below.refl _ _); rintro e w4 ⟨A4, n4, c4, rfl, o4, -, -, b4⟩; have O4 := Lib.hid o4; have B4 := Lib.hid b4; clear o4 b4)
            | (go_at_call 61; (with_reducible refine (HCI.out _ _ _ _ ?_).mono ?_); (exact O4.out); rintro e w5 ⟨g5, n5, c5, rfl, o5, b5⟩; have O5 := Lib.hid o5; have B5 := Lib.hid b5; clear o5 b5)
            | fail)
          have HFL : Hid ((schurK N (bare mu)).length = n5) := O5.out.len
          obtain ⟨F, hF⟩ : ∃ F, F = schurK N (bare mu) := ⟨_, rfl⟩
          rw [← hF] at O5 HFL
          have HFE := Lib.hid hF
          have HPM : Hid (partK N ms mu = F.map fun x => (x.1 + (ms.sum - (bare mu).sum) * 128 ^ N, x.2)) := by show _ = _; rw [partK, hF]
          have HFR : Hid (∀ x ∈ F, 0 ≤ x.1 ∧ x.1 ≤ 4503599627370496) := fun x hx => by rw [hF] at hx; exact schurK_range HBM.out.1.1 HBM.out.1.2 HBM.out.2.1 (by omega) hx
          have HTK : Hid (((stripsR ms).take (k + 1)).flatMap (partK N ms) = Lo ++ partK N ms mu) := by
            show _ = _
            rw [List.take_succ_eq_append_getElem (by rw [HN2.out]; exact hlt), List.flatMap_append, ← HX.out.2]
            have e : mu = (stripsR ms)[k]'(by rw [HN2.out]; exact hlt) := by rw [HMU.out]; unfold nthL; rw [List.getD_eq_getElem?_getD, List.getElem?_eq_getElem (by rw [HN2.out]; exact hlt)]; rfl
            rw [← e]; simp
          have HLB : Hid ((Lo ++ partK N ms mu).length ≤ 5764801) := by
            show _ ≤ _
            rw [← HTK.out]
            have h := HPA.out.2
            rw [← List.take_append_drop (k + 1) (stripsR ms), List.flatMap_append, List.length_append] at h
            omega
          clear hF
          have hn5 : n5 ≤ 10000000 := by
            have h := HLB.out
            rw [List.length_append, HPM.out, List.length_map, HFL.out] at h
            omega
          have HG5 : Hid (go ≠ g5 ∧ w4.heap.size ≤ g5 ∧ g5 < w5.heap.size) := by
            have h1 := O5.out.lt g5 rfl
            have h2 := HGO.out.1
            have h3 := B4.out.size
            exact ⟨by omega, h1.1, h1.2⟩
          have HS5 : Hid (SchL w w5 b0 (.slice A m c) ms (.slice (some ⟨go, 0, none⟩) no co) Lo (.slice (some ad) n2 c2) (stripsR ms) cells) := (HX.out.1.below B4.out).below B5.out
          have HL5 : Hid (OI w5 wo.heap.size (.slice A4 n4 c4) (bare mu)) := O4.out.below B5.out
          go_loopw [5, 10] (fun ov jv wq => ∃ (j go no co : Nat) (Lj : List (Int × Int)), ov = .slice (some ⟨go, 0, none⟩) no co ∧ jv = .int .i64 (j : Int) ∧ j ≤ n5 ∧ Hid (SchL w wq b0 (.slice A m c) ms (.slice (some ⟨go, 0, none⟩) no co) Lj (.slice (some ad) n2 c2) (stripsR ms) cells ∧ Lj = Lo ++ (partK N ms mu).take j ∧ OI wq wo.heap.size (.slice A4 n4 c4) (bare mu) ∧ OM wq w4.heap.size (.slice (some ⟨g5, 0, none⟩) n5 c5) F ∧ go ≠ g5 ∧ w5.heap.size ≤ wq.heap.size)) (fun _ jv _ => n5 - (intOf jv).toNat)
          case atStart => exact ⟨0, go, no, co, Lo, rfl, rfl, Nat.zero_le _, HS5.out, by simp, HL5.out, O5.out, HG5.out.1, Nat.le_refl _⟩
          case round =>
            obtain ⟨j, go, no, co, Lj, rfl, rfl, hj, HJ⟩ := hrel
            by_cases hjl : j < n5
            · obtain ⟨x1, x2⟩ := HJ.out.2.2.2.1.cell (k := j) (by rw [HFL.out]; exact hjl)
              obtain ⟨p, hp⟩ : ∃ p, p = (nthM F j).1 := ⟨_, rfl⟩
              obtain ⟨q, hq⟩ : ∃ p, p = (nthM F j).2 := ⟨_, rfl⟩
              rw [← hp] at x1
              rw [← hq] at x2
              have hpb : 0 ≤ p ∧ p ≤ 4503599627370496 := by rw [hp]; exact HFR.out _ (by rw [nthM_lt (by rw [HFL.out]; exact hjl)]; exact List.getElem_mem _)
              obtain ⟨S1, hS1⟩ : ∃ x, x = ms.sum := ⟨_, rfl⟩
              obtain ⟨S2, hS2⟩ : ∃ x, x = (bare mu).sum := ⟨_, rfl⟩
              obtain ⟨dS, hdS⟩ : ∃ x, x = S1 - S2 := ⟨_, rfl⟩
              obtain ⟨U, hU⟩ : ∃ x : Int, x = 128 ^ N := ⟨_, rfl⟩
              obtain ⟨P, hP⟩ : ∃ x, x = dS * U := ⟨_, rfl⟩
              obtain ⟨K, hK⟩ : ∃ x, x = p + P := ⟨_, rfl⟩
              have hUb : 0 ≤ U ∧ U ≤ 4398046511104 := by
                have : N = 0 ∨ N = 1 ∨ N = 2 ∨ N = 3 ∨ N = 4 ∨ N = 5 ∨ N = 6 := by omega
                rw [hU]
                rcases this with rfl | rfl | rfl | rfl | rfl | rfl | rfl <;> decide
              have hdb : 0 ≤ dS ∧ dS ≤ 8 := by have := HBM.out; have := HD.out.2.2; omega
              have hPb : 0 ≤ P ∧ P ≤ 35184372088832 := by
                have h1 : 0 ≤ dS * U := Int.mul_nonneg hdb.1 hUb.1
                have h2 : dS * U ≤ 8 * U := Int.mul_le_mul_of_nonneg_right hdb.2 hUb.1
                omega
              have hw1 : IntKind.i64.wrap (S1 - S2) = dS := by rw [← hdS]; exact IntWalk.i64_in _ (by omega)
              have hw2 : IntKind.i64.wrap (dS * U) = P := by rw [← hP]; exact IntWalk.i64_in _ (by omega)
              have hw3 : IntKind.i64.wrap (p + P) = K := by rw [← hK]; exact IntWalk.i64_in _ (by omega)
              have HPE : Hid (partK N ms mu = F.map fun x => (x.1 + P, x.2)) := by show _ = _; rw [HPM.out, hP, hdS, hS1, hS2, hU]
              have HNW : Hid (Lj ++ [(K, q)] = Lo ++ (partK N ms mu).take (j + 1)) := by
                show _ = _
                rw [HJ.out.2.1, HPE.out, takeK (by rw [List.length_map, HFL.out]; exact hjl), List.append_assoc]
                congr 2
                rw [nthM_lt (by rw [List.length_map, HFL.out]; exact hjl), List.getElem_map, ← nthM_lt (by rw [HFL.out]; exact hjl), ← hp, ← hq, hK]
              have HSA : Hid (∀ W, Below wr.heap.size wr W → Calls Try.prog 58 #[.slice A m c] W (Gives W (.int .i64 S1))) := fun W bW => by
                have h := sSum_any c ((HJ.out.1.shp.below bW).ri) (fun i hi => by have := H1000.out i; have := HD.out.2.1 i hi; omega) (by omega)
                rw [sumL_sum, ← hS1] at h
                exact h
              have HSB : Hid (∀ W, Below wr.heap.size wr W → Calls Try.prog 58 #[.slice A4 n4 c4] W (Gives W (.int .i64 S2))) := fun W bW => by
                have h := sSum_any c4 ((HJ.out.2.2.1.below bW).ri) (fun i hi => by have := HBM.out.2.2.2.2.1 i; have := HBM.out.1.2 i hi; omega) (by have := (HJ.out.2.2.1).ri.1; have := HBM.out.2.2.2.2.2; omega)
                rw [sumL_sum, ← hS2] at h
                exact h
              have HSU : Hid (∀ W, Calls Try.prog 131 #[.int .i64 (N : Int)] W (Gives W (.int .i64 U))) := fun W => by
                have h := l2Unit_any (w := W) (N : Int) (by omega)
                rw [Int.toNat_natCast, ← hU] at h
                exact h
              have HXX : Hid (wr.cell? ⟨g5, j * 2, none⟩ = some (.int .i64 p) ∧ wr.cell? ⟨g5, j * 2 + 1, none⟩ = some (.int .i64 q)) := ⟨x1, x2⟩
              have HXA : Hid (∀ (nq : Nat) (o : Obj), ((wr.drewN nq).alloc o).cell? ⟨g5, j * 2, none⟩ = some (.int .i64 p) ∧ ((wr.drewN nq).alloc o).cell? ⟨g5, j * 2 + 1, none⟩ = some (.int .i64 q)) := fun nq o =>
                two_cells ((below_drewN (Below.refl wr.heap.size wr) nq).alloc (Nat.le_refl _) o) x1 x2
              have HLN : Hid (Lj.length + 1 ≤ 1000000000000) := by
                show _ ≤ _
                have h1 := HLB.out
                rw [HJ.out.2.1, List.length_append, List.length_take]
                rw [List.length_append] at h1
                omega
              have HOJ := Lib.hid HJ.out.1.out
              have HSJ : Hid (w.heap.size ≤ wr.heap.size) := HJ.out.1.bel.size
              have hwN : IntKind.i64.wrap (N : Int) = (N : Int) := IntWalk.i64_in _ (by omega)
              have HKF : Hid (∀ (nq : Nat) (o : Obj) (W : World), ((wr.drewN nq).alloc o).grownBy W (Value.slice (some ⟨go, 0, none⟩) no co).ownBlock → OM W w4.heap.size (.slice (some ⟨g5, 0, none⟩) n5 c5) F ∧ (W.cell? ⟨g5, j * 2, none⟩ = some (.int .i64 p) ∧ W.cell? ⟨g5, j * 2 + 1, none⟩ = some (.int .i64 q))) := fun nq o W hg => by
                have h1 := OM.alloc (HJ.out.2.2.2.1.below (below_drewN (Below.refl _ _) nq)) o
                have h2 := h1.keptO hg (fun k hk => by simp [Value.ownBlock] at hk ⊢; rw [← hk]; exact HJ.out.2.2.2.2.1)
                have h3 := h2.cell (k := j) (by rw [HFL.out]; exact hjl)
                rw [← hp, ← hq] at h3
                exact ⟨h2, h3⟩
              clear hp hq hS1 hS2 hdS hU hP hK
              go_wp2
              go_region_held3 (fun w' => w'.cell? ⟨g5, j * 2, none⟩ = some (.int .i64 p) ∧ w'.cell? ⟨g5, j * 2 + 1, none⟩ = some (.int .i64 q)) (first | exact HXX.out | exact HXA.out _ _ | exact hkf.2 | fail) (first
                | (go_at_call 58; (with_reducible refine (HSA.out _ ?_).mono ?_); (exact ⟨rfl, rfl, rfl, Nat.le_refl _, fun _ _ => rfl⟩); rintro e w8 ⟨rfl, q8, rfl⟩)
                | (go_at_call 58; (with_reducible refine (HSB.out _ ?_).mono ?_); (exact ⟨rfl, rfl, rfl, Nat.le_refl _, fun _ _ => rfl⟩); rintro e w8 ⟨rfl, q8, rfl⟩)
                | (go_at_call 131; (with_reducible refine (HSU.out _).mono ?_); rintro e w8 ⟨rfl, q8, rfl⟩)
                | (refine stepAppM1 rfl _ _ rfl w.heap.size (.slice (some ⟨go, 0, none⟩) no co) Lj K q rfl rfl (HOJ.out.below ⟨rfl, rfl, rfl, Nat.le_refl _, fun _ _ => rfl⟩) HLN.out HSJ.out ?_; intro A6 n6 c6 w6 o6 g6 k6; have hkf := HKF.out _ _ _ g6)
                | fail)
              go_wp2
              have HF : Hid (∃ g', A6 = some ⟨g', 0, none⟩ ∧ SchL w w6 b0 (.slice A m c) ms (.slice (some ⟨g', 0, none⟩) n6 c6) (Lj ++ [(K, q)]) (.slice (some ad) n2 c2) (stripsR ms) cells ∧ Lj ++ [(K, q)] = Lo ++ (partK N ms mu).take (j + 1) ∧ OI w6 wo.heap.size (.slice A4 n4 c4) (bare mu) ∧ OM w6 w4.heap.size (.slice (some ⟨g5, 0, none⟩) n5 c5) F ∧ g' ≠ g5 ∧ w5.heap.size ≤ w6.heap.size) := by
                have hlen := o6.len
                obtain ⟨g', rfl, -, hlt6⟩ := o6.shape (by rw [← hlen, List.length_append, List.length_singleton]; omega)
                have bq : ∀ nq o, Below wr.heap.size wr ((wr.drewN nq).alloc o) := fun nq o => (below_drewN (Below.refl _ _) nq).alloc (Nat.le_refl _) o
                refine ⟨g', rfl, (HJ.out.1.below (bq _ _)).app g6 o6, HNW.out, (HJ.out.2.2.1.below (bq _ _)).kept_type g6 (fun g e => OM.typedI (HJ.out.1.out.below (bq _ _)) g e), hkf.1, ?_, Nat.le_trans HJ.out.2.2.2.2.2 (Nat.le_trans (bq _ _).size g6.size)⟩
                rcases k6 with k6 | k6
                · simp [Value.ownBlock] at k6; rw [k6]; exact HJ.out.2.2.2.2.1
                · simp [Value.ownBlock] at k6
                  have h1 := HJ.out.2.2.2.2.2
                  have h2 := HG5.out.2.2
                  omega
              clear o6 g6 k6 hkf
              obtain ⟨g', rfl, hf⟩ := HF.out
              have HF' := Lib.hid hf
              clear hf HF
              go_roundw
              case rel => exact ⟨j + 1, g', n6, c6, _, rfl, by go_num, by omega, HF'.out⟩
              case measure => simp [intOf]; omega
            · have HF : Hid (SchL w wr b0 (.slice A m c) ms (.slice (some ⟨go, 0, none⟩) no co) Lj (.slice (some ad) n2 c2) (stripsR ms) cells ∧ Lj = ((stripsR ms).take (k + 1)).flatMap (partK N ms)) := by
                refine ⟨HJ.out.1, ?_⟩
                rw [HTK.out, HJ.out.2.1, List.take_of_length_le (by rw [HPM.out, List.length_map, HFL.out]; omega)]
              go_wp2
              go_roundw
              case rel => exact ⟨k + 1, go, no, co, _, rfl, by go_num, by omega, HF.out⟩
              case measure => simp [intOf]; omega
        · have HF : Hid (Lo = (stripsR ms).flatMap (partK N ms)) := by
            show _ = _
            rw [HX.out.2, List.take_of_length_le (by rw [HN2.out]; omega)]
          have HCG : Hid (Calls Try.prog 132 #[.slice (some ⟨go, 0, none⟩) no co] wr (MakesM wr (gatherK Lo))) := l2Gather_any HX.out.1.out (by rw [HF.out]; have := HPA.out.2; omega) (by rw [HF.out]; have := HPA.out.1; omega)
          go_wp2_with (go_at_call 132; refine HCG.out.mono ?_; rintro e w6 ⟨g6, n6, c6, rfl, o6, b6⟩)
          go_ret
          rw [hE.out, ← HF.out]
          exact ⟨_, _, _, rfl, o6.mono HX.out.1.bel.size, HX.out.1.bel.trans (b6.mono HX.out.1.bel.size)⟩
end Go.Proofs.Ytgbojgmmingfdaa
