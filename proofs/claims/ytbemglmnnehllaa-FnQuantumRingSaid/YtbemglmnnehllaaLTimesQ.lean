/- timesQ of the laws: a quantum sum times a shape. -/
import Derived.Test.YtbemglmnnehllaaLAddQ
import Derived.Test.YtbemglmnnehllaaQProJ
import Derived.Test.YtbemglmnnehllaaQRingP
namespace Go.Proofs.Ytbemglmnnehllaa
open Go.RowKit

/-- What timesQ leaves. -/
def TimesQ (w : World) (ps : List QT) : Ending → World → Prop := fun e w' =>
  ∃ A' n' c' cs, e = .returned (.slice A' n' c') ∧ OU w' w.heap.size w.heap.size (.slice A' n' c') ps cs ∧ Below w.heap.size w w'
theorem five_cells {w W : World} {a b c d f : Addr} {v1 v2 v3 v4 v5 : Value} (bb : Below w.heap.size w W) (h1 : w.cell? a = some v1) (h2 : w.cell? b = some v2) (h3 : w.cell? c = some v3) (h4 : w.cell? d = some v4) (h5 : w.cell? f = some v5) :
    W.cell? a = some v1 ∧ W.cell? b = some v2 ∧ W.cell? c = some v3 ∧ W.cell? d = some v4 ∧ W.cell? f = some v5 := ⟨one_cell bb h1, one_cell bb h2, one_cell bb h3, one_cell bb h4, one_cell bb h5⟩
theorem UpA.small {t : Nat} {acc : List (List Int × Int)} (h : UpA t acc) (ht : t ≤ 10000) : SmallK acc ∧ Keyed acc ∧ acc.length ≤ 10000 := by
  refine ⟨fun k hk => ?_, fun x hx => (h.2 x hx).1, by have := h.1; omega⟩
  obtain ⟨h1, h2, h3, h4⟩ := h.2 _ (nthP_mem hk)
  omega
theorem UpA.addL {t : Nat} {p cn : Int} (hc : 1 ≤ cn ∧ cn ≤ 100) : ∀ (l acc : List (List Int × Int)), UpA t acc → (∀ y ∈ l, (1 ≤ y.2 ∧ y.2 ≤ 100) ∧ y.1.tail.length ≤ 16) → UpA (t + l.length) (addL p cn l acc)
  | [], _, h, _ => h
  | y :: r, acc, h, hl => by
    have h1 := hl y List.mem_cons_self
    have h2 : 1 ≤ cn * y.2 ∧ cn * y.2 ≤ 10000 := by
      have a1 := Int.mul_le_mul hc.1 h1.1.1 (by omega) (by omega)
      have a2 := Int.mul_le_mul hc.2 h1.1.2 (by omega) (by omega)
      omega
    have h3 := UpA.addL (p := p) (t := t + 1) hc r _ (h.next (q := p + y.1.headD 0) (s := y.1.tail) (n := cn * y.2) (by omega) (by omega) h1.2) fun z hz => hl z (List.mem_cons_of_mem _ hz)
    rw [List.length_cons, show t + (r.length + 1) = t + 1 + r.length by omega]
    exact h3

theorem UpA.more {t t' : Nat} {acc : List (List Int × Int)} (h : UpA t acc) (ht : t ≤ t') : UpA t' acc := ⟨Nat.le_trans h.1 ht, fun x hx => by
  obtain ⟨h1, h2, h3, h4⟩ := h.2 x hx
  exact ⟨h1, h2, by omega, by omega⟩⟩

set_option maxRecDepth 100000 in
set_option maxHeartbeats 4000000 in
theorem ltimesQ_any {As : Option Addr} {ns : Nat} {s : List Int} {v0 : Value} {base b bs : Nat} {L : List (List Int × Int)} {cells : List Value} {w : World} (cs0 : Nat) {K M : Nat} (hKM : 2 ≤ K + M ∧ K + M ≤ 6) (hK : 1 ≤ K) (h : OU w base b v0 (decL L) cells) (hs : OI w bs (.slice As ns cs0) s)
    (hsb : inBoxB s K ((K : Int) + M) = true) (hns : ns ≤ 16) (hL : L.length ≤ 100) (hLx : ∀ x ∈ L, (1 ≤ x.2 ∧ x.2 ≤ 100) ∧ (0 ≤ x.1.headD 0 ∧ x.1.headD 0 ≤ 100) ∧ x.1 ≠ [] ∧ inBoxB x.1.tail K ((K : Int) + M) = true) :
    Calls Try.prog 9 #[v0, .slice As ns cs0, .int .i64 (K : Int), .int .i64 ((K : Int) + M)] w (TimesQ w (decL (mulL s K ((K : Int) + M) L []))) := by
  obtain ⟨A0, m, c0, rfl, hl0, hc0, _⟩ := h.form
  rw [decL_len] at hl0
  have HL := Lib.hid hl0
  have HH := Lib.hid h
  have HS := Lib.hid hs
  have HLX := Lib.hid hLx
  have HKM := Lib.hid (⟨hKM, hK⟩ : _ ∧ _)
  have HSM := Lib.hid (box_mem hsb)
  have HSB := Lib.hid hsb
  have hm : m ≤ 100 := by omega
  obtain ⟨N, hN⟩ : ∃ N : Int, N = (K : Int) + M := ⟨_, rfl⟩
  rw [← hN]
  have HN := Lib.hid hN
  clear hl0 h hs hLx hKM hK hsb hN hL
  go_enter Try.func9, Try.ntmps9
  go_wp2
  go_loopw [9, 10, 11, 12, 13] (fun u i _ _ _ wr => ∃ (k : Nat) (cs : List Value), k ≤ m ∧ i = .int .i64 (k : Int) ∧ OU wr w.heap.size w.heap.size u (decL (mulL s K N (L.take k) [])) cs ∧ Hid (UpA (k * 100) (mulL s K N (L.take k) [])) ∧ Below w.heap.size w wr) (fun _ i _ _ _ _ => m - (intOf i).toNat)
  case atStart => exact ⟨0, [], Nat.zero_le _, rfl, OU.lit w _ _ (Nat.le_refl _), UpA.nil, (Below.refl _ _).alloc (Nat.le_refl _) _⟩
  case round =>
    obtain ⟨k, cs, hk, rfl, ho, hup, hbl⟩ := hrel
    by_cases hlt : k < m
    · have hkl : k < L.length := by rw [HL.out]; exact hlt
      obtain ⟨G, cc, hG, _⟩ := OF.shape HH.out (by rw [decL_len, HL.out]; omega)
      obtain ⟨rfl, e2, e3⟩ := slice_inj hG
      clear e2 e3 hG
      have hmem := HLX.out _ (nthP_mem hkl)
      obtain ⟨q, t, cn, hqt⟩ : ∃ q t cn, nthP L k = (q :: t, cn) := by
        rcases hx : nthP L k with ⟨l, cn⟩
        cases l with
        | nil => rw [hx] at hmem; exact absurd rfl hmem.2.2.1
        | cons q t => exact ⟨q, t, cn, rfl⟩
      rw [hqt] at hmem
      simp only [List.headD_cons, List.tail_cons] at hmem
      obtain ⟨⟨m1, m2⟩, ⟨m3, m4⟩, -, m5⟩ := hmem
      obtain ⟨A1, n1, c1, k0, k1, _, k2, _, k4⟩ := OU.cell HH.out (k := k) (by rw [decL_len]; exact hkl)
      rw [nthQ_dec hkl hqt] at k0 k2 k4
      simp only at k0 k2 k4
      have htm := box_mem m5
      have hn1 : n1 ≤ 16 := by
        rw [← k2.ri.1]
        have h1 := (inBoxB_iff.1 m5).2.1
        unfold isShapeB at h1
        rw [Bool.and_eq_true] at h1
        exact of_decide_eq_true h1.1
      have KW : Hid (∀ W, Below w.heap.size w W → W.cell? ⟨G, k * 3, none⟩ = some (.int .i64 q) ∧ W.cell? ⟨G, k * 3 + 1, none⟩ = some (.slice A1 n1 c1) ∧ W.cell? ⟨G, k * 3 + 2, none⟩ = some (.int .i64 cn)) := fun W bW => ⟨one_cell bW k0, one_cell bW k1, one_cell bW k4⟩
      have htwo := two_at HKM.out.1 HKM.out.2 htm HSM.out
      have hqok : qOk t s K N = true := by
        have h1 := HSB.out
        unfold qOk
        rw [← HN.out] at m5 h1
        rw [m5, h1]
        simp
        have := HKM.out.2
        omega
      rw [← HN.out] at htwo
      obtain ⟨Q, hQ⟩ : ∃ Q, Q = qpB t s K N := ⟨_, rfl⟩
      have hqp := iQPro_any (w := wr) c1 cs0 (K : Int) N (OI.below k2 hbl) (OI.below HS.out hbl) (by omega) (by omega)
      rw [hqok, ← hQ] at hqp
      rw [← hQ] at htwo
      have HQP := Lib.hid hqp
      have HTW := Lib.hid htwo.2.2
      have hQl := htwo.2.1
      have HNX : Hid (mulL s K N (L.take (k + 1)) [] = addL q cn Q (mulL s K N (L.take k) [])) := by
        show _ = _
        rw [List.take_succ_eq_append_getElem hkl, mulL_app]
        have e : L[k] = (q :: t, cn) := by rw [← nthP_lt hkl, hqt]
        rw [e, hQ]; rfl
      obtain ⟨acc, hacc⟩ : ∃ acc, acc = mulL s K N (L.take k) [] := ⟨_, rfl⟩
      rw [← hacc] at ho hup HNX
      have HO := Lib.hid ho
      have HOr := Lib.hid ho
      have HB := Lib.hid hbl
      clear ho k0 k1 k2 k4 m5 htm htwo hqp hqok hqt hacc hQ hbl
      obtain ⟨hk0, hk1, hk4⟩ := KW.out wr HB.out
      go_wp2_with fail
      refine HQP.out.mono ?_
      rintro e w2 ⟨A2, n2, c2, cs2, rfl, o2, l2, -, b2⟩
      rw [decL_len] at l2
      have hn2 : n2 ≤ 100 := by omega
      have HOn := Lib.hid (OU.below HO.out b2)
      have HB2 := Lib.hid (bnext HB.out b2 HB.out.size)
      have HO2 := Lib.hid o2
      have HL2 := Lib.hid l2
      have hs2 := b2.size
      have hsr := HB.out.size
      have HLOW : Hid (∀ u ∈ cs, ∀ g, u.ownBlock = some g → g < wr.heap.size) := fun u hu g hg => (FRs.in_ HOr.out.2.1 u hu g hg).2
      clear hk0 hk1 hk4 o2 l2 b2 HOr
      go_wp2
      obtain ⟨wo, rfl⟩ : ∃ wo : World, wo = wr := ⟨_, rfl⟩
      go_loopw [9, 13] (fun u j wx => ∃ (i : Nat) (cx : List Value), i ≤ n2 ∧ j = .int .i64 (i : Int) ∧ OU wx w.heap.size w.heap.size u (decL (addL q cn (Q.take i) acc)) cx ∧ Hid (∀ x ∈ cx, x.ownBlock = none ∨ (∃ g, x.ownBlock = some g ∧ g < wo.heap.size) ∨ ∃ z, z < i * 3 ∧ cs2[z]? = some x) ∧ Below w2.heap.size w2 wx) (fun _ j _ => n2 - (intOf j).toNat)
      case atStart => exact ⟨0, cs, Nat.zero_le _, rfl, HOn.out, fun x hx => (by
          rcases h1 : x.ownBlock with _ | g
          · exact .inl rfl
          · exact .inr (.inl ⟨g, rfl, HLOW.out x hx g h1⟩)), Below.refl _ _⟩
      case round =>
        obtain ⟨i, cx, hi, rfl, hox, hcx, hbx⟩ := hrel
        by_cases hil : i < n2
        · have hiq : i < Q.length := by rw [HL2.out]; exact hil
          have hmem := HTW.out _ (nthP_mem hiq)
          obtain ⟨q2, t2, cn2, hqt⟩ : ∃ q t cn, nthP Q i = (q :: t, cn) := by
            rcases hx : nthP Q i with ⟨l, cn⟩
            cases l with
            | nil => rw [hx] at hmem; exact absurd rfl hmem.2.2.1
            | cons q t => exact ⟨q, t, cn, rfl⟩
          rw [hqt] at hmem
          simp only [List.headD_cons, List.tail_cons] at hmem
          obtain ⟨⟨x1, x2⟩, ⟨x3, x4⟩, -, x5⟩ := hmem
          have hx2 := OU.below HO2.out hbx
          obtain ⟨G2, cc2, hG2, _⟩ := OF.shape HO2.out (by rw [decL_len, HL2.out]; omega)
          obtain ⟨rfl, e2, e3⟩ := slice_inj hG2
          clear e2 e3 hG2
          obtain ⟨A3, n3, c3, y0, y1, yc, y2, _, y4⟩ := OU.cell hx2 (k := i) (by rw [decL_len]; exact hiq)
          rw [nthQ_dec hiq hqt] at y0 y2 y4
          simp only at y0 y2 y4
          have ht16 : t2.length ≤ 16 := by
            have h1 := (inBoxB_iff.1 x5).2.1
            unfold isShapeB at h1
            rw [Bool.and_eq_true] at h1
            exact of_decide_eq_true h1.1
          have hn3 : n3 ≤ 16 := by rw [← y2.ri.1]; exact ht16
          obtain ⟨z0, -, z4⟩ := KW.out wr (bnext HB2.out hbx HB2.out.size)
          have HUP : Hid (UpA (k * 100 + i) (addL q cn (Q.take i) acc)) := by
            have h1 := UpA.addL (p := q) ⟨m1, m2⟩ (Q.take i) acc hup.out fun y hy => by
              have h2 := HTW.out y (List.mem_of_mem_take hy)
              refine ⟨h2.1, ?_⟩
              have h3 := (inBoxB_iff.1 h2.2.2.2).2.1
              unfold isShapeB at h3
              rw [Bool.and_eq_true] at h3
              exact of_decide_eq_true h3.1
            rw [List.length_take, Nat.min_eq_left (by omega)] at h1
            exact h1
          have hsm := HUP.out.small (by omega)
          have hprod : 1 ≤ cn * cn2 ∧ cn * cn2 ≤ 10000 := by
            have a1 := Int.mul_le_mul m1 x1 (by omega) (by omega)
            have a2 := Int.mul_le_mul m2 x2 (by omega) (by omega)
            omega
          obtain ⟨pr, hpr⟩ : ∃ pr, pr = cn * cn2 := ⟨_, rfl⟩
          obtain ⟨pw, hpw⟩ : ∃ pw, pw = q + q2 := ⟨_, rfl⟩
          have hap : ∀ u' ∈ cx, u'.ownBlock = none ∨ u'.ownBlock ≠ (Value.slice A3 n3 c3).ownBlock := fun u' hu' => by
            rcases hcx.out u' hu' with h1 | ⟨g, h1, h2⟩ | ⟨z, hz, h1⟩
            · exact .inl h1
            · refine .inr fun e => ?_
              rw [h1] at e
              have := (y2.lt g e.symm).1
              omega
            · exact HO2.out.2.2 z (i * 3 + 1) u' _ (by omega) h1 yc
          have hsx := hbx.size
          have hNX2 : addL q cn (Q.take (i + 1)) acc = addP (addL q cn (Q.take i) acc) (pw :: t2) pr := by
            rw [List.take_succ_eq_append_getElem hiq, addL_app]
            have e : Q[i] = (q2 :: t2, cn2) := by rw [← nthP_lt hiq, hqt]
            rw [e, hpr, hpw]; rfl
          have HADD : Hid (∀ W, Below wr.heap.size wr W → Calls Try.prog 25 #[u9, .int .i64 pw, .slice A3 n3 c3, .int .i64 pr] W (fun e w' => ∃ A' n' c' cy, e = .returned (.slice A' n' c') ∧ OU w' w.heap.size w.heap.size (.slice A' n' c') (decL (addL q cn (Q.take (i + 1)) acc)) cy ∧ (∀ x ∈ cy, x.ownBlock = none ∨ (∃ g, x.ownBlock = some g ∧ g < wo.heap.size) ∨ ∃ z, z < (i + 1) * 3 ∧ cs2[z]? = some x) ∧ Below wr.heap.size wr w')) := fun W bW => by
            rw [hNX2]
            refine (laddQ_any (w := W) c3 pw pr (OU.below hox bW) hsm.2.1 ((OI.below y2 bW).mono (by omega)) hap (by omega) (by have := hsm.2.2; omega) hsm.1 (by omega) (by omega)).mono ?_
            rintro e w' ⟨A', n', c', cy, rfl, h1, h2, h3⟩
            refine ⟨A', n', c', cy, rfl, OF.mono h1 (by have := bW.size; omega) (Nat.le_refl _), fun x hx => ?_, bnext bW h3 bW.size⟩
            rcases h2 x hx with h4 | h4 | rfl
            · exact .inl h4
            · rcases hcx.out x h4 with h5 | h5 | ⟨z, hz, h5⟩
              · exact .inl h5
              · exact .inr (.inl h5)
              · exact .inr (.inr ⟨z, by omega, h5⟩)
            · exact .inr (.inr ⟨i * 3 + 1, by omega, yc⟩)
          have hk0 : wr.cell? ⟨G, k * 3, none⟩ = some (.int .i64 q) := z0
          have hk4 : wr.cell? ⟨G, k * 3 + 2, none⟩ = some (.int .i64 cn) := z4
          have hj0 : wr.cell? ⟨G2, i * 3, none⟩ = some (.int .i64 q2) := y0
          have hj1 : wr.cell? ⟨G2, i * 3 + 1, none⟩ = some (.slice A3 n3 c3) := y1
          have hj4 : wr.cell? ⟨G2, i * 3 + 2, none⟩ = some (.int .i64 cn2) := y4
          have HCX := Lib.hid (⟨hk0, hk4, hj0, hj1, hj4⟩ : _ ∧ _ ∧ _ ∧ _ ∧ _)
          have HCS : Hid (∀ W, Below wr.heap.size wr W → W.cell? ⟨G, k * 3, none⟩ = some (.int .i64 q) ∧ W.cell? ⟨G, k * 3 + 2, none⟩ = some (.int .i64 cn) ∧ W.cell? ⟨G2, i * 3, none⟩ = some (.int .i64 q2) ∧ W.cell? ⟨G2, i * 3 + 1, none⟩ = some (.slice A3 n3 c3) ∧ W.cell? ⟨G2, i * 3 + 2, none⟩ = some (.int .i64 cn2)) := fun W bW => five_cells bW hk0 hk4 hj0 hj1 hj4
          have hW1 : IntKind.i64.wrap (q + q2) = pw := by rw [hpw]; exact IntWalk.i64_in _ (by omega)
          have hW2 : IntKind.i64.wrap (cn * cn2) = pr := by rw [← hpr]; exact IntWalk.i64_in _ (by omega)
          have hBX := Lib.hid hbx
          clear y0 y1 y2 y4 yc hx2 hsm hap hox hNX2 hqt hpr hpw hbx z0 z4 hprod
          go_upto_region 9 with (fail)
          go_region_held3 (fun W => W.cell? ⟨G, k * 3, none⟩ = some (.int .i64 q) ∧ W.cell? ⟨G, k * 3 + 2, none⟩ = some (.int .i64 cn) ∧ W.cell? ⟨G2, i * 3, none⟩ = some (.int .i64 q2) ∧ W.cell? ⟨G2, i * 3 + 1, none⟩ = some (.slice A3 n3 c3) ∧ W.cell? ⟨G2, i * 3 + 2, none⟩ = some (.int .i64 cn2)) (first | exact HCX.out | exact HCS.out _ b5) (first
            | (go_at_call 25; (with_reducible refine (HADD.out _ ?_).mono ?_); (exact ⟨rfl, rfl, rfl, Nat.le_refl _, fun _ _ => rfl⟩); rintro e w5 ⟨A5, n5, c5, cy, rfl, o5, f5, b5⟩))
          have HF := Lib.hid (⟨o5, f5, bnext hBX.out b5 hBX.out.size⟩ : _ ∧ _ ∧ _)
          clear o5 f5 b5
          go_wp2
          go_roundw
          case rel => exact ⟨i + 1, cy, by omega, by go_num, HF.out.1, HF.out.2.1, HF.out.2.2⟩
          case measure => simp [intOf]; omega
        · obtain rfl : n2 = i := by omega
          have HF : Hid (OU wr w.heap.size w.heap.size u9 (decL (mulL s K N (L.take (k + 1)) [])) cx ∧ UpA ((k + 1) * 100) (mulL s K N (L.take (k + 1)) []) ∧ Below w.heap.size w wr) := by
            rw [HNX.out]
            rw [List.take_of_length_le (by rw [HL2.out]; exact Nat.le_refl _)] at hox
            refine ⟨hox, ?_, bnext HB2.out hbx HB2.out.size⟩
            have h1 := UpA.addL (p := q) ⟨m1, m2⟩ Q acc hup.out fun y hy => by
              have h2 := HTW.out y hy
              refine ⟨h2.1, ?_⟩
              have h3 := (inBoxB_iff.1 h2.2.2.2).2.1
              unfold isShapeB at h3
              rw [Bool.and_eq_true] at h3
              exact of_decide_eq_true h3.1
            exact h1.more (by rw [HL2.out]; omega)
          clear hox hbx
          go_wp2
          go_roundw
          case rel => exact ⟨k + 1, cx, by omega, by go_num, HF.out.1, HF.out.2.1, HF.out.2.2⟩
          case measure => simp [intOf]; omega
    · obtain rfl : m = k := by omega
      have hF : Hid (TimesQ w (decL (mulL s K N L [])) (.returned u9) wr) := by
        rw [List.take_of_length_le (by rw [HL.out]; exact Nat.le_refl _)] at ho
        obtain ⟨A', c', rfl, _⟩ := OF.form ho
        exact ⟨A', _, c', cs, rfl, ho, hbl⟩
      clear ho hbl
      go_wp2
      go_ret
      exact hF.out
end Go.Proofs.Ytbemglmnnehllaa
