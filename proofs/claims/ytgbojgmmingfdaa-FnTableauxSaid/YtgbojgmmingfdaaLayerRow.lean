/- layer of the program: a row. -/
import Derived.Test.YtgbojgmmingfdaaLayer
import Derived.IntWalk
import Derived.WalkSpells
namespace Go.Proofs.Ytgbojgmmingfdaa
open Go.RowKit

theorem From.trans {w w1 : World} {v v1 v2 : Value} (h1 : From w v v1) (h2 : From w1 v1 v2) (hs : w.heap.size ≤ w1.heap.size) : From w v v2 := by
  rcases h2 with h2 | h2
  · rw [show From w v v2 = (v2.ownBlock = v.ownBlock ∨ _) from rfl, h2]; exact h1
  · exact .inr fun k hk => Nat.le_trans hs (h2 k hk)
theorem OI.some_ {w : World} {base n c : Nat} {A : Option Addr} {l : List Int} (h : OI w base (.slice A n c) l) (hn : 0 < n) : ∃ g, A = some ⟨g, 0, none⟩ := by
  rcases h.2 with ⟨he, hl⟩ | ⟨g, cap, cur, he, _⟩
  · injection he with h1 h2 h3
    omega
  · injection he with h1 h2 h3
    exact ⟨g, h1⟩
theorem Bd.take {l : List Int} {M : Int} (h : Bd l M) (hM : 0 ≤ M) (r : Nat) : Bd (l.take r) M := by
  intro j
  rcases Nat.lt_or_ge j r with hj | hj
  · rw [nth_take hj]; exact h j
  · rw [nth_ge (by rw [List.length_take]; omega)]; omega
theorem Bd.small {l : List Int} (h : Bd l 1000) : Small l := by
  intro j _
  have := h j
  omega

set_option maxRecDepth 100000 in
set_option maxHeartbeats 2000000 in
theorem layer_row (rest : List Nat) (d : Nat) (ih : LayerP rest d) : LayerP rest (d + 1) := by
  intro w g base b rows most As Ac Ao Ap cs cc co cp c0 shape old put L vu v under ps cells N r left nc hs hcs hcont hcc hcc63 hold hput hcp hu ho hl hr hL hok hN hb1 hb2
  have hd := hl.d_le
  obtain ⟨R, hR⟩ : ∃ R, R = rows - (d + 1) := ⟨_, rfl⟩
  have hRr : R < rows := by omega
  rw [← hR] at hr
  subst hr hL
  have h16 := hl.rows16
  have hL1000 := hl.left
  have hmost := hl.most0
  rw [layerR_row] at hN
  rw [layerR_row]
  rw [← hR] at hN ⊢
  obtain ⟨m, hm⟩ : ∃ m, m = mostAt most old under put L R := ⟨_, rfl⟩
  rw [← hm] at hN ⊢
  have hm_iff : ∀ k : Nat, k ≤ L → ((k : Int) ≤ m ↔ ¬ overB most old under put R k) := fun k hk => by rw [hm]; exact mostAt_iff (by omega)
  have hmL : m ≤ L := by rw [hm]; exact mostAt_left _ _ _ _ _ _
  obtain ⟨cnt, hcnt⟩ : ∃ c, c = (m + 1).toNat := ⟨_, rfl⟩
  rw [← hcnt] at hN ⊢
  have HK : Hid (∀ k : Nat, k ≤ L → (overB most old under put R k ↔ cnt ≤ k)) := fun k hk => by
    have h1 := hm_iff k hk
    constructor
    · intro h2
      have : ¬ (k : Int) ≤ m := fun h3 => (h1.mp h3) h2
      omega
    · intro h2
      by_cases h3 : overB most old under put R k
      · exact h3
      · have := h1.mpr h3
        omega
  have HCL : cnt ≤ L + 1 := by omega
  have HN := Lib.hid hN
  clear hm hm_iff hN hcnt hmL
  have hsumR := hl.bput.sum R
  have hsmall : Small (put.take R) := (hl.bput.take (by omega) R).small
  have HSM := Lib.hid hsmall
  have HST := Lib.hid (sumL_take (l := put) (r := R) (by rw [hl.lput]; omega))
  have HTK := Lib.hid (hput.ri.take (k := R) (by omega))
  have hold1 := hl.bold R
  have hsame := hl.same R (by omega)
  obtain ⟨oR, hoR⟩ : ∃ x, x = nth old R := ⟨_, rfl⟩
  obtain ⟨before, hbe⟩ : ∃ x, x = sumTo put R := ⟨_, rfl⟩
  rw [← hbe] at hsumR
  rw [← hoR] at hold1 hsame
  have HBE := Lib.hid hbe
  have HOR := Lib.hid hoR
  have HL := Lib.hid hl
  have HPUT := Lib.hid hput
  have HS := Lib.hid hs
  have HC := Lib.hid hcont
  have HO := Lib.hid hold
  have HU := Lib.hid hu
  have HV := Lib.hid ho
  have HOK := Lib.hid hok
  have IH := Lib.hid ih
  have HR := Lib.hid hR
  clear hR hbe hoR hl hput hs hcont hold hu ho hok ih hsmall
  have hRI : ((R : Nat) : Int) ≠ (rows : Int) := by omega
  have hRcp : (R : Int) ≤ (cp : Int) := by omega
  have hRI2 : ¬ (R = rows) := by omega
  have hRI3 : decide ((R : Int) = (rows : Int)) = false := decide_eq_false hRI
  have hRcp2 : R ≤ cp := by omega
  go_enter Try.func179, Try.ntmps179
  go_wp2_with (go_at_call 93; refine (iSum_any _ HTK.out HSM.out (by omega)).mono ?_; rintro e w' ⟨rfl, q0, rfl⟩)
  rw [HST.out, ← HBE.out]
  have HU2 : Hid (∀ W v' ps' cells', VO w g base b v ps cells → VO W g base b v' ps' cells' → True) := fun _ _ _ _ _ _ => trivial
  go_loopw [23, 24, 25] (fun i _ _ wr => ∃ k : Nat, k ≤ cnt ∧ i = .int .i64 (k : Int) ∧ ∃ v' cells', Hid (VO wr g base b v' (addAll ps (layerN rows most (layerK rows most (fI rest)) old under d shape L put k)) cells' ∧ Turn g v w wr ∧ From w v v')) (fun i _ _ _ => L + 1 - (intOf i).toNat)
  case atStart => exact ⟨0, Nat.zero_le _, rfl, v, cells, by rw [layerN_zero, addAll_nil]; exact HV.out.below (Quiet.below ⟨_, rfl⟩), Turn.of_below (Quiet.below ⟨_, rfl⟩), From.refl _ _⟩
  case round =>
    obtain ⟨k, hk, rfl, v', cells', hh⟩ := hrel
    by_cases hkl : k ≤ L
    · have HOV := Lib.hid (HK.out k hkl)
      obtain ⟨ado, hAo, hco⟩ := (HO.out.turn HV.out hh.out.2.1).ri.cell hRr
      subst hAo
      rw [← HOR.out] at hco
      go_wp2
      obtain ⟨wq, hwq⟩ : ∃ wq, wq = wr := ⟨_, rfl⟩
      go_cut [119] from 80 to 119 (fun v119 wx => v119 = .bool (decide (cnt ≤ k)) ∧ ∃ q, wx = wr.drewN q)
      case first =>
        obtain ⟨s, hs⟩ : ∃ s, s = oR + (k : Int) := ⟨_, rfl⟩
        obtain ⟨z, hz⟩ : ∃ z, z = before + (k : Int) := ⟨_, rfl⟩
        have hw1 : IntKind.i64.wrap (oR + (k : Int)) = s := by rw [hs]; exact IntWalk.i64_in _ (by omega)
        have hw2 : IntKind.i64.wrap (before + (k : Int)) = z := by rw [hz]; exact IntWalk.i64_in _ (by omega)
        have FIN1 : Hid (∀ wx, overB most old under put R k → (∃ q, wx = wr.drewN q) → Value.bool true = .bool (decide (cnt ≤ k)) ∧ ∃ q, wx = wr.drewN q) := fun wx h q => ⟨by rw [decide_eq_true (HOV.out.mp h)], q⟩
        have FIN0 : Hid (∀ wx, ¬ overB most old under put R k → (∃ q, wx = wr.drewN q) → Value.bool false = .bool (decide (cnt ≤ k)) ∧ ∃ q, wx = wr.drewN q) := fun wx h q => ⟨by rw [decide_eq_false (fun h2 => h (HOV.out.mpr h2))], q⟩
        have hRR : (R : Int) < (rows : Int) := by omega
        have h2T : Hid (most < s → overB most old under put R k) := fun h => by
          refine .inr (.inl ?_)
          rw [← HOR.out, ← hs]; exact h
        have hunder : Hid ((under = none ∧ vu = .slice none 0 0) ∨ ∃ u au cu x, under = some u ∧ vu = .slice (some au) rows cu ∧ x = nth u R ∧ wr.cell? (au.add R) = some (.int .i64 x)) := by
          have h1 := HU.out
          cases under with
          | none => exact .inl ⟨rfl, h1⟩
          | some u =>
            obtain ⟨au, cu, h2, h3, _⟩ := h1
            obtain ⟨ad, hA, hc⟩ := (h3.turn HV.out hh.out.2.1).ri.cell hRr
            obtain rfl := Option.some.inj hA
            exact .inr ⟨u, au, cu, _, rfl, h2, rfl, hc⟩
        have HSI := Lib.hid hs
        have HZI := Lib.hid hz
        clear hs hz hwq
        have h3T : Hid (∀ u x, under = some u → x = nth u R → x < z → overB most old under put R k) := fun u x h1 h2 h3 => .inr (.inr ⟨u, h1, by rw [← h2, ← HBE.out, ← HZI.out]; exact h3⟩)
        have NOTN : Hid (¬ (0 < R ∧ nth old (R - 1) < s) → ¬ most < s → under = none → ¬ overB most old under put R k) := fun h1 h2 h3 h4 => by
          rcases h4 with h4 | h4 | ⟨u, h4, _⟩
          · exact h1 ⟨h4.1, by rw [HSI.out, HOR.out]; exact h4.2⟩
          · exact h2 (by rw [HSI.out, HOR.out]; exact h4)
          · rw [h3] at h4; cases h4
        have NOTS : Hid (∀ u x, under = some u → x = nth u R → ¬ (0 < R ∧ nth old (R - 1) < s) → ¬ most < s → ¬ x < z → ¬ overB most old under put R k) := fun u x h3 hx h1 h2 h5 h4 => by
          rcases h4 with h4 | h4 | ⟨u', h4, h6⟩
          · exact h1 ⟨h4.1, by rw [HSI.out, HOR.out]; exact h4.2⟩
          · exact h2 (by rw [HSI.out, HOR.out]; exact h4)
          · rw [h3] at h4
            obtain rfl := Option.some.inj h4
            exact h5 (by rw [hx, HZI.out, HBE.out]; exact h6)
        have qn := fun (W : World) (a : Option Addr) (n c n' c' : Nat) => run_neq_slice_nil_any (P := Try.prog) W 22 3 a n c n' c' Try.underlying22
        by_cases hR0 : R = 0
        · have hp0 : decide ((0 : Int) < (R : Int)) = false := decide_eq_false (by omega)
          have hp0' : decide (0 < R) = false := decide_eq_false (by omega)
          have HF1 : Hid (¬ (0 < R ∧ nth old (R - 1) < s)) := fun h => by omega
          clear hR0
          by_cases h2 : most < s
          · have H := Lib.hid (h2T.out h2)
            have h2d : decide (most < s) = true := decide_eq_true h2
            go_quiet (fail)
            go_wp2
            go_meet
            exact FIN1.out _ H.out ⟨_, rfl⟩
          · have h2d : decide (most < s) = false := decide_eq_false h2
            rcases hunder.out with ⟨hu1, hu2⟩ | ⟨u, au, cu, x, hu1, hu2, hux, huc⟩
            · have H := Lib.hid (NOTN.out HF1.out h2 hu1)
              subst hu2
              clear hu1
              go_quiet (fail)
              go_wp2
              go_meet
              exact FIN0.out _ H.out ⟨_, rfl⟩
            · by_cases h3 : x < z
              · have H := Lib.hid (h3T.out u x hu1 hux h3)
                have h3d : decide (x < z) = true := decide_eq_true h3
                subst hu2
                clear hu1 hux
                go_quiet (fail)
                go_wp2
                go_meet
                exact FIN1.out _ H.out ⟨_, rfl⟩
              · have H := Lib.hid (NOTS.out u x hu1 hux HF1.out h2 h3)
                have h3d : decide (x < z) = false := decide_eq_false h3
                subst hu2
                clear hu1 hux
                go_quiet (fail)
                go_wp2
                go_meet
                exact FIN0.out _ H.out ⟨_, rfl⟩
        · obtain ⟨P, hP⟩ : ∃ P, P = R - 1 := ⟨_, rfl⟩
          obtain ⟨ad2, hA2, hco2⟩ := (HO.out.turn HV.out hh.out.2.1).ri.cell (k := P) (by omega)
          obtain rfl := Option.some.inj hA2
          obtain ⟨oP, hoP⟩ : ∃ x, x = nth old P := ⟨_, rfl⟩
          rw [← hoP] at hco2
          have hp0 : decide ((0 : Int) < (R : Int)) = true := decide_eq_true (by omega)
          have hp0' : decide (0 < R) = true := decide_eq_true (by omega)
          have hPr : (P : Int) < (rows : Int) := by omega
          have hw3 : IntKind.i64.wrap ((R : Int) - 1) = (P : Int) := by rw [show (R : Int) - 1 = (P : Int) by omega]; exact IntWalk.i64_in _ (by omega)
          by_cases h1 : oP < s
          · have H : Hid (overB most old under put R k) := .inl ⟨by omega, by rw [← hP, ← hoP, ← HOR.out, ← HSI.out]; exact h1⟩
            have h1d : decide (oP < s) = true := decide_eq_true h1
            clear hP hoP hR0
            go_quiet (fail)
            go_wp2
            go_meet
            exact FIN1.out _ H.out ⟨_, rfl⟩
          · have HF1 : Hid (¬ (0 < R ∧ nth old (R - 1) < s)) := fun h => h1 (by rw [hoP, hP]; exact h.2)
            have h1d : decide (oP < s) = false := decide_eq_false h1
            clear hP hoP hR0
            by_cases h2 : most < s
            · have H := Lib.hid (h2T.out h2)
              have h2d : decide (most < s) = true := decide_eq_true h2
              go_quiet (fail)
              go_wp2
              go_meet
              exact FIN1.out _ H.out ⟨_, rfl⟩
            · have h2d : decide (most < s) = false := decide_eq_false h2
              rcases hunder.out with ⟨hu1, hu2⟩ | ⟨u, au, cu, x, hu1, hu2, hux, huc⟩
              · have H := Lib.hid (NOTN.out HF1.out h2 hu1)
                subst hu2
                clear hu1
                go_quiet (fail)
                go_wp2
                go_meet
                exact FIN0.out _ H.out ⟨_, rfl⟩
              · by_cases h3 : x < z
                · have H := Lib.hid (h3T.out u x hu1 hux h3)
                  have h3d : decide (x < z) = true := decide_eq_true h3
                  subst hu2
                  clear hu1 hux
                  go_quiet (fail)
                  go_wp2
                  go_meet
                  exact FIN1.out _ H.out ⟨_, rfl⟩
                · have H := Lib.hid (NOTS.out u x hu1 hux HF1.out h2 h3)
                  have h3d : decide (x < z) = false := decide_eq_false h3
                  subst hu2
                  clear hu1 hux
                  go_quiet (fail)
                  go_wp2
                  go_meet
                  exact FIN0.out _ H.out ⟨_, rfl⟩
      case rest =>
        obtain ⟨rfl, hq⟩ := hcut
        have hB : Below wr.heap.size wr wc := Quiet.below (hq.imp fun _ h => h.symm)
        by_cases hkc : cnt ≤ k
        · have hdc : decide (cnt ≤ k) = true := decide_eq_true hkc
          have hke : k = cnt := by omega
          have HF : Hid (∀ wx, Below wr.heap.size wr wx → Sees w g base b v (addAll ps (layerN rows most (layerK rows most (fI rest)) old under d shape L put cnt)) (.returned (.tuple #[])) wx) := fun wx hb => by
            have h := hh.out
            rw [hke] at h
            exact ⟨v', cells', rfl, h.1.below hb, h.2.1.trans h.2.2 (Turn.of_below hb), h.2.2⟩
          clear hke
          go_wp2
          go_end0
          exact HF.out _ hB
        · have hdc : decide (cnt ≤ k) = false := decide_eq_false hkc
          have HVk := Lib.hid (hh.out.1.below hB)
          have HTk := Lib.hid (hh.out.2.1.trans hh.out.2.2 (Turn.of_below hB))
          have HFk := Lib.hid hh.out.2.2
          have hri : RI wc As rows shape := (HS.out.turn HV.out HTk.out).ri
          have hrp : RI wc Ap rows put := (HPUT.out.turn HV.out HTk.out).ri
          have hkL : k ≤ 1000 := by omega
          have hs0 : oR + (k : Int) ≤ most := by
            have h1 : ¬ overB most old under put R k := fun h => hkc (HOV.out.mp h)
            have h2 : ¬ most < nth old R + (k : Int) := fun h => h1 (.inr (.inl h))
            rw [← HOR.out] at h2
            omega
          clear hB hq hh
          go_wp2_with fail
          refine (clone_any _ hri (by omega)).mono ?_
          rintro e w1 ⟨A1, n1, c1, rfl, o1, r1, ⟨cp1, le1⟩, b1⟩
          obtain rfl : rows = n1 := by rw [← r1.1]; exact HL.out.lsh.symm
          obtain ⟨g1, rfl⟩ := o1.some_ (by omega)
          have hc1 := o1.cellAt hRr
          have hf1 := o1.frozenAt R
          rw [hsame] at hc1
          have hw1 : IntKind.i64.wrap (oR + (k : Int)) = oR + (k : Int) := IntWalk.i64_in _ (by omega)
          have HO1 := Lib.hid (o1.stored R (oR + (k : Int)))
          have HB1 : Hid (∀ y, Below wc.heap.size wc (w1.setCell ⟨g1, R, none⟩ y)) := fun y => b1.setCell (o1.lt g1 rfl).1 y
          have hg1 : g1 < w1.heap.size := (o1.lt g1 rfl).2
          have hrp1 : RI (w1.setCell ⟨g1, R, none⟩ (.int .i64 (oR + (k : Int)))) Ap rows put := hrp.below (HB1.out _)
          have hsz1 : (w1.setCell ⟨g1, R, none⟩ (.int .i64 (oR + (k : Int)))).heap.size = w1.heap.size := by simp [World.setCell]
          obtain ⟨W1, hW1⟩ : ∃ W1, W1 = w1.setCell ⟨g1, R, none⟩ (.int .i64 (oR + (k : Int))) := ⟨_, rfl⟩
          have HW1 := Lib.hid hW1
          have HG1 : Hid (g1 < W1.heap.size) := by show g1 < W1.heap.size; rw [hW1, hsz1]; exact hg1
          rw [← hW1] at hrp1
          clear o1 r1 b1 hsz1 hg1 hW1 hrp hri
          go_wp2_with fail
          rw [← HW1.out]
          refine (clone_any _ hrp1 (by omega)).mono ?_
          rintro e w2 ⟨A2, n2, c2, rfl, o2, r2, ⟨cp2, le2⟩, b2⟩
          obtain rfl : rows = n2 := by rw [← r2.1]; exact HL.out.lput.symm
          obtain ⟨g2, rfl⟩ := o2.some_ (by omega)
          have hc2 := o2.cellAt hRr
          have hf2 := o2.frozenAt R
          have HO2 := Lib.hid (o2.stored R (k : Int))
          have HGG : Hid (g1 ≠ g2) := fun e => by
            have h1 := HG1.out
            have h2 := (o2.lt g2 rfl).1
            omega
          obtain ⟨W2, hW2⟩ : ∃ W2, W2 = w2.setCell ⟨g2, R, none⟩ (.int .i64 (k : Int)) := ⟨_, rfl⟩
          have HW2 := Lib.hid hW2
          have hBW1 : Below wc.heap.size wc W1 := by rw [HW1.out]; exact HB1.out _
          have hB12 : Below W1.heap.size W1 W2 := by rw [hW2]; exact b2.setCell (o2.lt g2 rfl).1 _
          have hB2 : Below wc.heap.size wc W2 := hBW1.trans (hB12.mono hBW1.size)
          have HSH : Hid (OI W2 wc.heap.size (.slice (some ⟨g1, 0, none⟩) rows c1) (shape.set R (oR + (k : Int)))) := by
            show OI W2 _ _ _
            have h1 := HO1.out.1
            rw [← HW1.out] at h1
            exact OI.below h1 hB12
          have HPT : Hid (OI W2 W1.heap.size (.slice (some ⟨g2, 0, none⟩) rows c2) (put.set R (k : Int))) := by
            show OI W2 _ _ _
            rw [hW2]; exact HO2.out.1
          have HB2 := Lib.hid hB2
          have HTW : Hid (Turn g v w W2) := HTk.out.trans HFk.out (Turn.of_below hB2)
          have HLEN : Hid (∀ t ∈ layerN rows most (layerK rows most (fI rest)) old under d shape L put k, t.length ≤ 1000) := fun t ht => by
            rw [layerN_rows (m := rows) (fun s p hs => layerK_rows _ s p rows hs) HL.out.lsh k t ht]; omega
          have HNN : Hid (N + ((layerN rows most (layerK rows most (fI rest)) old under d shape L put k).length : Int) + ((layerR rows most (layerK rows most (fI rest)) old under d (shape.set R (oR + (k : Int))) ((L - k : Nat) : Int) (put.set R (k : Int))).length : Int) ≤ 100000000000 ∧ layerN rows most (layerK rows most (fI rest)) old under d shape L put (k + 1) = layerN rows most (layerK rows most (fI rest)) old under d shape L put k ++ layerR rows most (layerK rows most (fI rest)) old under d (shape.set R (oR + (k : Int))) ((L - k : Nat) : Int) (put.set R (k : Int))) := by
            have h1 := layerN_succ (rows := rows) (most := most) (K := layerK rows most (fI rest)) (old := old) (under := under) (d := d) (shape := shape) (left := (L : Int)) (put := put) k
            rw [← HR.out, hsame, show (L : Int) - (k : Int) = ((L - k : Nat) : Int) by omega] at h1
            refine ⟨?_, h1⟩
            have h2 := layerN_mono (rows := rows) (most := most) (K := layerK rows most (fI rest)) (old := old) (under := under) (d := d) (shape := shape) (left := (L : Int)) (put := put) (c1 := k + 1) (c2 := cnt) (by omega)
            rw [h1, List.length_append] at h2
            have h3 := HN.out
            omega
          have HLAY : Hid (Lay rows d most (shape.set R (oR + (k : Int))) old (put.set R (k : Int)) (L - k) rest) :=
            ⟨h16, hmost, by omega, by rw [List.length_set]; exact HL.out.lsh, HL.out.lold, by rw [List.length_set]; exact HL.out.lput,
              HL.out.bsh.set (by omega) (by omega), HL.out.bold, HL.out.bput.set (by omega) (by omega),
              fun j hj => by have h1 := HR.out; rw [nth_set_ne (by omega)]; exact HL.out.same j (by omega), by omega, HL.out.cont⟩
          have HCALL : Hid (∀ r' l' : Int, r' = (R : Int) + 1 → l' = (L : Int) - (k : Int) → Calls Try.prog 179 #[.slice (some ⟨g1, 0, none⟩) rows c1, .slice Ac (rest.length + 1) cc, .slice (some ado) rows co, .int .i64 r', .int .i64 l', vu, .slice (some ⟨g2, 0, none⟩) rows c2, .int .i64 most, .func (.func 176) #[] #[.pointer (some ⟨g, 0, none⟩)]] W2
              (Sees W2 g base b v' (addAll ps (layerN rows most (layerK rows most (fI rest)) old under d shape L put (k + 1))))) := fun r' l' hr' hl' => by
            have h1 := HR.out
            rw [HNN.out.2, addAll_append]
            exact IH.out W2 g base b rows most (some ⟨g1, 0, none⟩) Ac (some ado) (some ⟨g2, 0, none⟩) c1 cc co c2 c0 (shape.set R (oR + (k : Int))) old (put.set R (k : Int)) (L - k) vu v' under _ cells' _ r' l' 0
              (RT.of_OI HSH.out) (by omega) (HC.out.turn HV.out HTW.out) hcc hcc63 (HO.out.turn HV.out HTW.out) (RT.of_OI HPT.out) (by omega) (HU.out.turn HV.out HTW.out) (HVk.out.below HB2.out) HLAY.out (by omega) (by omega)
              (HOK.out.all _ HLEN.out) HNN.out.1 (Nat.le_trans hb1 HTW.out.size) (Nat.le_trans hb2 HTW.out.size)
          clear o2 r2 b2 hB2 hB12 hBW1 hW2 hrp1
          go_wp2_with fail
          rw [← HW2.out]
          refine (HCALL.out _ _ rfl rfl).mono ?_
          rintro e w3 ⟨v3, cells3, rfl, ho3, t3, f3⟩
          have HF3 : Hid (VO w3 g base b v3 (addAll ps (layerN rows most (layerK rows most (fI rest)) old under d shape L put (k + 1))) cells3 ∧ Turn g v w w3 ∧ From w v v3) :=
            ⟨ho3, HTW.out.trans HFk.out t3, HFk.out.trans f3 HTW.out.size⟩
          clear ho3 t3 f3
          go_wp2
          go_roundw
          case rel => exact ⟨k + 1, by omega, by go_num, v3, cells3, HF3.out⟩
          case measure => simp [intOf]; omega
    · obtain rfl : k = cnt := by omega
      have hkl2 : L < k := by omega
      go_wp2
      go_end0
      exact ⟨v', cells', rfl, hh.out⟩
end Go.Proofs.Ytgbojgmmingfdaa
