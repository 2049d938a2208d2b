/- key and KeyPoly of the program. -/
import Derived.Test.YtgbojgmmingfdaaKeyP
import Derived.Test.YtgbojgmmingfdaaPerms
namespace Go.Proofs.Ytgbojgmmingfdaa
open Go.RowKit

set_option maxRecDepth 100000 in
set_option maxHeartbeats 2000000 in
theorem key_step {H : Type} {A : Option Addr} {m C : Nat} {l : List Int} {w : World} {R : List (Int × Int)} (c : Nat) (hx : RI w A m l) (hm : m ≤ 5) (hl : ∀ j, 0 ≤ nth l j ∧ nth l j ≤ 4)
    (hrec : ∀ j, j + 1 < m → nth l j < nth l (j + 1) → (∀ i, i < j → ¬ nth l i < nth l (i + 1)) → ∃ (Cr : Nat) (L : List (Int × Int)), C = Cr * 5 ∧ Cr ≤ 10000000 ∧ R = demK j L ∧ ∀ W A' c', RI W A' m (swA j l) → Calls Try.prog 116 #[.slice A' m c'] W (MakesK H W 4 Cr L))
    (hnone : (∀ i, i + 1 < m → ¬ nth l i < nth l (i + 1)) → R = monoK l ∧ 1 ≤ C) :
    Calls Try.prog 116 #[.slice A m c] w (MakesK H w 4 C R) := by
  have HLn : Hid (l.length = m) := hx.1
  have HX := Lib.hid hx
  have HREC := Lib.hid hrec
  have HNONE := Lib.hid hnone
  have HMO : Hid (∀ q, Calls Try.prog 172 #[.slice A m c] (w.drewN q) (MakesR1 (w.drewN q) (padL l 7, 1))) := fun q => monomial_any c (HX.out.drewN q) (by omega) fun j => by have := hl j; omega
  have hp7 : (padL l 7).length = 7 := padL_len (by rw [HLn.out]; omega)
  have HP7 := Lib.hid hp7
  have HPO : Hid (polyB [(padL l 7, 1)] = true) := one_poly hp7 fun j => by rw [nth_padL]; have := hl j; omega
  have HL4 := Lib.hid hl
  clear hx hl hp7 hrec hnone
  go_enter Try.func116, Try.ntmps116
  go_wp2
  go_loopw [3] (fun i wr => ∃ k : Nat, 1 ≤ k ∧ i = .int .i64 (k : Int) ∧ Quiet w wr ∧ Hid (∀ j, j + 1 < k → ¬ nth l j < nth l (j + 1))) (fun i _ => m - (intOf i).toNat)
  case atStart => exact ⟨1, Nat.le_refl _, rfl, (by first | exact ⟨_, rfl⟩ | exact ⟨_, (World.drewN_drewN _ _ _).symm⟩ | exact Quiet.refl _ | (simp only [World.drewN_drewN]; exact ⟨_, rfl⟩)), fun j hj => by omega⟩
  case round =>
    obtain ⟨k, hk1, rfl, ⟨q, rfl⟩, HT⟩ := hrel
    by_cases hlt : k < m
    · obtain ⟨r, rfl⟩ : ∃ r, k = r + 1 := ⟨k - 1, by omega⟩
      have hlt' : decide (((r : Int) + 1) < (m : Int)) = true := decide_eq_true (by omega)
      obtain ⟨ad, rfl, z0⟩ := HX.out.cell (k := r) (by omega)
      obtain ⟨ad', e, z1⟩ := HX.out.cell (k := r + 1) (by omega)
      obtain rfl := Option.some.inj e
      obtain ⟨u, hu⟩ : ∃ u, u = nth l r := ⟨_, rfl⟩
      obtain ⟨v, hv⟩ : ∃ u, u = nth l (r + 1) := ⟨_, rfl⟩
      rw [← hu] at z0
      rw [← hv] at z1
      have HUV : Hid (u = nth l r ∧ v = nth l (r + 1)) := ⟨hu, hv⟩
      have hw1 : IntKind.i64.wrap ((r : Int) + 1 - 1) = (r : Int) := by rw [show (r : Int) + 1 - 1 = (r : Int) by omega]; exact IntWalk.i64_in _ (by omega)
      have hw2 : IntKind.i64.wrap (r : Int) = (r : Int) := IntWalk.i64_in _ (by omega)
      have hw3 : IntKind.i64.wrap ((r : Int) + 1 + 1) = (r : Int) + 1 + 1 := IntWalk.i64_in _ (by omega)
      have hr0 : (r : Int) < (m : Int) := by omega
      have hr1 : (r : Int) + 1 < (m : Int) := by omega
      have hr2 : (0 : Int) ≤ (r : Int) + 1 := by omega
      have hr3 : r < m := by omega
      clear hu hv e
      rw [show (((r + 1 : Nat)) : Int) = (r : Int) + 1 from rfl]
      have z0' : (w.drewN q).cell? (ad.add r) = some (.int .i64 u) := z0
      have z1' : w.cell? ⟨ad.block, ad.off + (r + 1), none⟩ = some (.int .i64 v) := by
        have e2 : ad.add (r + 1) = ⟨ad.block, ad.off + (r + 1), none⟩ := by unfold Addr.add; rw [if_neg (Nat.succ_ne_zero r)]
        rw [← e2]; exact z1
      rcases hna : decide (u < v) with _ | _
      · have HNA := Lib.hid hna
        go_wp2_with fail
        go_region
        go_wp2_with fail
        go_roundw
        case rel => exact ⟨r + 2, by omega, by go_num, (by first | exact ⟨_, rfl⟩ | exact ⟨_, (World.drewN_drewN _ _ _).symm⟩ | exact Quiet.refl _ | (simp only [World.drewN_drewN]; exact ⟨_, rfl⟩)), fun j hj => by
          by_cases h : j = r
          · subst h; rw [← HUV.out.1, ← HUV.out.2]; have := of_decide_eq_false HNA.out; omega
          · have := HT.out j (by omega); omega⟩
        case measure => simp [intOf]; omega
      · obtain ⟨Cr, L, hC, hCr, hR, hcall⟩ := HREC.out r (by omega) (by rw [← HUV.out.1, ← HUV.out.2]; exact of_decide_eq_true hna) (fun i hi => by have := HT.out i (by omega); omega)
        have HC : Hid (C = Cr * 5 ∧ Cr ≤ 10000000 ∧ R = demK r L) := ⟨hC, hCr, hR⟩
        have HCALL := Lib.hid hcall
        have HEX : Hid (∀ W, RI W (some ad) m l → Calls Try.prog 99 #[.slice (some ad) m c, .int .i64 (r : Int), .int .i64 ((r : Int) + 1)] W (Makes W (swA r l))) := fun W h => by
          have h2 := exchanged_any (w := W) c r (r + 1) h (by omega) (by omega) (by omega) (by omega)
          rw [swapL_swA r l (by rw [HLn.out]; omega)] at h2
          exact h2
        clear hC hCr hR hcall
        go_wp2_with fail
        go_region
        go_wp2_with (first
          | (go_at_call 99; refine (HEX.out _ (by exact HX.out.drewN _)).mono ?_; rintro e w2 ⟨A2, n2, c2, rfl, o2, r2, ⟨cp2, le2⟩, b2⟩)
          | fail)
        have HR2 := Lib.hid r2
        have h02 : Below w.heap.size w (w.drewN (q + 1)) := below_drewN (Below.refl _ _) _
        have HB2 : Hid (Below w.heap.size w w2) := h02.trans (b2.mono h02.size)
        clear h02
        obtain rfl : n2 = m := by rw [← r2.1, (swA_perm r l).length_eq]; exact HLn.out
        clear o2 r2 b2
        go_wp2_with (first
          | (go_at_call 116; refine (HCALL.out _ _ _ HR2.out).mono ?_; rintro e w3 ⟨b3, rfl, l3, p3, c3⟩)
          | fail)
        have P3 := Lib.hid p3
        have HB3 : Hid (Below w.heap.size w w3) := HB2.out.trans (c3.mono HB2.out.size)
        have hlen := p3.len (by omega)
        have HDM : Hid (Calls Try.prog 171 #[.map (some b3), .int .i64 (r : Int)] w3 (MakesK H w3 4 C R)) := by
          rw [HC.out.1, HC.out.2.2]
          have h5 : ((4 : Int) + 1).toNat = 5 := rfl
          have h := demazureK_any (H := H) r (by omega) (by omega) P3.out (by rw [h5]; have := HC.out.2.1; omega) (by rw [h5]; have := HC.out.2.1; omega)
          rw [h5] at h
          exact h
        clear p3 c3 l3 hlen
        go_wp2_with (first
          | (go_at_call 171; refine HDM.out.mono ?_; rintro e w4 ⟨b4, rfl, l4, p4, c4⟩)
          | fail)
        go_ret
        exact ⟨b4, rfl, by have := HB3.out.size; omega, p4, HB3.out.trans (c4.mono HB3.out.size)⟩
    · have hlt' : decide ((k : Int) < (m : Int)) = false := decide_eq_false (by omega)
      have hno := HNONE.out (fun i hi => by have := HT.out i (by omega); omega)
      have HNO := Lib.hid hno
      clear hno
      go_wp2_with (first
        | (go_at_call 172; refine (HMO.out _).mono ?_; rintro e w2 ⟨A2, c2, rfl, r2, b2⟩)
        | fail)
      have HR2 := Lib.hid r2
      have h02 : Below w.heap.size w (w.drewN q) := below_drewN (Below.refl _ _) _
      have HB2 : Hid (Below w.heap.size w w2) := h02.trans (b2.mono h02.size)
      clear h02
      have HOP : Hid (Calls Try.prog 169 #[.slice A2 1 c2] w2 (MakesK H w2 4 C R)) := by
        refine (open_any H c2 HR2.out HPO.out).mono ?_
        rintro e w3 ⟨b3, rfl, l3, p3, c3⟩
        refine ⟨b3, rfl, l3, ?_, c3⟩
        rw [HNO.out.1]
        exact (PK.one p3 HP7.out fun j => by rw [nth_padL]; exact HL4.out j).mono HNO.out.2
      clear r2 b2
      go_wp2_with (first
        | (go_at_call 169; refine HOP.out.mono ?_; rintro e w4 ⟨b4, rfl, l4, p4, c4⟩)
        | fail)
      go_ret
      exact ⟨b4, rfl, by have := HB2.out.size; omega, p4, HB2.out.trans (c4.mono HB2.out.size)⟩
theorem swA_len (j : Nat) (l : List Int) : (swA j l).length = l.length := (swA_perm j l).length_eq
theorem pow5_pos : ∀ n : Nat, 1 ≤ 5 ^ n
  | 0 => Nat.le_refl _
  | n + 1 => by have := pow5_pos n; rw [Nat.pow_succ]; omega
theorem pow5_le {n : Nat} (h : n ≤ 9) : 5 ^ n ≤ 10000000 := Nat.le_trans (Nat.pow_le_pow_right (by omega) h) (by decide)
theorem key_any {H : Type} : ∀ (fuel : Nat) {A : Option Addr} {m : Nat} {l : List Int} {w : World} (c : Nat), RI w A m l → m ≤ 5 → (∀ j, 0 ≤ nth l j ∧ nth l j ≤ 4) → invL l ≤ fuel → fuel ≤ 10 →
    Calls Try.prog 116 #[.slice A m c] w (MakesK H w 4 (5 ^ fuel) (keyM fuel l)) := by
  intro fuel
  induction fuel with
  | zero =>
    intro A m l w c hx hm hl hinv _
    have hlen := hx.1
    refine key_step c hx hm hl (fun j hj h _ => ?_) fun _ => ⟨rfl, Nat.le_refl _⟩
    have := inv_pos j l (by omega) h
    omega
  | succ fuel ih =>
    intro A m l w c hx hm hl hinv hf
    have hlen : l.length = m := hx.1
    refine key_step c hx hm hl (fun j hj h h0 => ?_) fun h0 => ⟨keyM_none _ (firstAsc_none (fun i hi => h0 i (by omega))), pow5_pos _⟩
    have h1 := swA_inv j l (by omega) h
    refine ⟨5 ^ fuel, keyM fuel (swA j l), Nat.pow_succ .., pow5_le (by omega), keyM_some _ (firstAsc_some (by omega) h h0), fun W A' c' hx' => ?_⟩
    exact ih c' hx' hm (swA_all (P := fun x => 0 ≤ x ∧ x ≤ 4) ⟨by omega, by omega⟩ hl) (by omega) (by omega)
def keyOk (e : List Int) : Bool := decide (1 ≤ e.length) && (decide (e.length ≤ 5) && allB (fun k => inB (nth e k) 0 4) e.length)
def keyB (e : List Int) : Bool := keyOk e && shutB (keyM 10 e)
def keyR (e : List Int) : List (List Int × Int) := if keyB e then shutT (keyM 10 e) else []
theorem keyR_yes {e : List Int} (h : keyOk e = true) : keyR e = shutT (keyM 10 e) ∧ keyB e = shutB (keyM 10 e) := by
  have h2 : keyB e = shutB (keyM 10 e) := by rw [keyB, h]; rfl
  refine ⟨?_, h2⟩
  unfold keyR
  rw [h2]
  split
  · rfl
  · rename_i h3
    rw [shut_no (by simpa using h3)]
theorem keyR_no {e : List Int} (h : keyOk e = false) : keyR e = [] ∧ keyB e = false := by
  have h2 : keyB e = false := by rw [keyB, h]; rfl
  refine ⟨?_, h2⟩
  unfold keyR
  rw [h2]; rfl
set_option maxRecDepth 100000 in
set_option maxHeartbeats 2000000 in
theorem iKeyPoly_any {A : Option Addr} {m : Nat} {l : List Int} {w : World} (c : Nat) (hx : RI w A m l) (hm : m ≤ 1000000000) :
    Calls Try.prog 43 #[.slice A m c] w (MakesTm w (keyR l) (keyB l)) := by
  have HLn : Hid (l.length = m) := hx.1
  have HX := Lib.hid hx
  have HNIL : Hid (keyOk l = false → ∀ wr, Below w.heap.size w wr → MakesTm w (keyR l) (keyB l) (.returned (.tuple #[.slice none 0 0, .bool false])) wr) := fun h wr hb => by
    rw [(keyR_no h).1, (keyR_no h).2]
    exact ⟨_, _, rfl, OF.nil_ _ _ _ _ _, hb⟩
  clear hx
  go_enter Try.func43, Try.ntmps43
  by_cases h1 : m < 1
  · have hN := Lib.hid (HNIL.out (by rw [keyOk, HLn.out, decide_eq_false (by omega)]; rfl))
    have h1' : decide ((m : Int) < 1) = true := decide_eq_true (by omega)
    go_wp2
    go_ret2
    exact hN.out _ (Below.refl _ _)
  by_cases h2 : 5 < m
  · have hN := Lib.hid (HNIL.out (by rw [keyOk, HLn.out, decide_eq_false (show ¬ m ≤ 5 by omega)]; simp))
    have h1' : decide ((m : Int) < 1) = false := decide_eq_false (by omega)
    have h2' : decide (5 < (m : Int)) = true := decide_eq_true (by omega)
    go_wp2
    go_ret2
    exact hN.out _ (Below.refl _ _)
  have h1' : decide ((m : Int) < 1) = false := decide_eq_false (by omega)
  have h2' : decide (5 < (m : Int)) = false := decide_eq_false (by omega)
  have HM : Hid (1 ≤ m ∧ m ≤ 5) := ⟨by omega, by omega⟩
  clear h1 h2
  go_wp2
  go_loopw [5, 16] (fun _ i wr => ∃ k : Nat, k ≤ m ∧ i = .int .i64 (k : Int) ∧ Quiet w wr ∧ Hid (∀ j, j < k → 0 ≤ nth l j ∧ nth l j ≤ 4)) (fun _ i _ => m - (intOf i).toNat)
  case atStart => exact ⟨0, Nat.zero_le _, rfl, (by first | exact ⟨_, rfl⟩ | exact ⟨_, (World.drewN_drewN _ _ _).symm⟩ | exact Quiet.refl _ | (simp only [World.drewN_drewN]; exact ⟨_, rfl⟩)), fun j hj => by omega⟩
  case round =>
    obtain ⟨k, hk, rfl, ⟨q, rfl⟩, HT⟩ := hrel
    by_cases hlt : k < m
    · obtain ⟨ad, rfl, z0⟩ := HX.out.cell hlt
      obtain ⟨u, hu⟩ : ∃ u, u = nth l k := ⟨_, rfl⟩
      rw [← hu] at z0
      have HU := Lib.hid hu
      clear hu
      by_cases u0 : 0 ≤ u ∧ u ≤ 4
      · have a1 : decide (u < 0) = false := decide_eq_false (by omega)
        have a2 : decide (4 < u) = false := decide_eq_false (by omega)
        have HU4 := Lib.hid u0
        clear u0
        go_wp2_with fail
        go_roundw
        case rel => exact ⟨k + 1, by omega, by go_num, (by first | exact ⟨_, rfl⟩ | exact ⟨_, (World.drewN_drewN _ _ _).symm⟩ | exact Quiet.refl _ | (simp only [World.drewN_drewN]; exact ⟨_, rfl⟩)), fun j hj => by
          by_cases h : j = k
          · subst h; rw [← HU.out]; exact HU4.out
          · exact HT.out j (by omega)⟩
        case measure => simp [intOf]; omega
      · have hno : keyOk l = false := by
          rw [keyOk, allB_no (k := k) (by rw [HLn.out]; exact hlt) (by rw [← HU.out]; simp [inB]; omega)]; simp
        have hN := Lib.hid (HNIL.out hno)
        by_cases u1 : u < 0
        · have a1 : decide (u < 0) = true := decide_eq_true u1
          clear u0 u1
          go_wp2_with fail
          go_ret2
          exact hN.out _ (below_drewN (Below.refl _ _) _)
        · have a1 : decide (u < 0) = false := decide_eq_false u1
          have a2 : decide (4 < u) = true := decide_eq_true (by omega)
          clear u0 u1
          go_wp2_with fail
          go_ret2
          exact hN.out _ (below_drewN (Below.refl _ _) _)
    · have hall : ∀ j, 0 ≤ nth l j ∧ nth l j ≤ 4 := fun j => by
        by_cases h : j < m
        · exact HT.out j (by omega)
        · rw [nth_ge (by rw [HLn.out]; omega)]; omega
      have hyes : keyOk l = true := by
        have h3 := HM.out
        rw [keyOk, HLn.out, decide_eq_true h3.1, decide_eq_true h3.2, allB_yes fun j _ => by have := hall j; simp [inB]; omega]; rfl
      have HY := Lib.hid (keyR_yes hyes)
      have HKY : Hid (Calls Try.prog 116 #[.slice A m c] (w.drewN q) (MakesK Unit (w.drewN q) 4 (5 ^ 10) (keyM 10 l))) := key_any 10 c (HX.out.drewN q) HM.out.2 hall (inv_five (by rw [HLn.out]; exact HM.out.2)) (Nat.le_refl _)
      clear hall hyes
      go_wp2_with (first
        | (go_at_call 116; refine HKY.out.mono ?_; rintro e w2 ⟨b2, rfl, l2, p2, d2⟩)
        | (go_at_call 66; refine (closedK_any p2 (by omega)).mono ?_; rintro e w6 ⟨v6, cs6, rfl, o6, c6⟩)
        | fail)
      go_ret2
      have h02 : Below w.heap.size w (w.drewN q) := below_drewN (Below.refl _ _) _
      have h2 : Below w.heap.size w w2 := h02.trans (d2.mono h02.size)
      rw [HY.out.1, HY.out.2]
      exact ⟨v6, cs6, rfl, OF.mono o6 h2.size h2.size, h2.trans (c6.mono h2.size)⟩
end Go.Proofs.Ytgbojgmmingfdaa

/- lowered and schubert of the program. -/
namespace Go.Proofs.Ytgbojgmmingfdaa
open Go.RowKit

theorem dvT_in {E : Int} {x : List Int × Int} {i : Nat} (hi : i < 6) (h : x.1.length = 7 ∧ ∀ j, 0 ≤ nth x.1 j ∧ nth x.1 j ≤ E) : ∀ y ∈ dvT i x, ∀ j, 0 ≤ nth y.1 j ∧ nth y.1 j ≤ E := by
  intro y hy j
  obtain ⟨k, hk, rfl⟩ := List.mem_map.1 hy
  rw [List.mem_range] at hk
  have a0 := h.2 i
  have a1 := h.2 (i + 1)
  unfold dLo dHi at hk ⊢
  by_cases j0 : j = i
  · rw [j0, swE_at0 _ _ (by omega)]; omega
  by_cases j1 : j = i + 1
  · rw [j1, swE_at1 _ _ (by omega)]; omega
  · rw [swE_ne _ _ j0 j1]
    exact h.2 j
theorem dividedK_any {H : Type} {w : World} {b C : Nat} {E : Int} {L : List (Int × Int)} (i : Nat) (hi : i ≤ 5) (hE : 0 ≤ E ∧ E ≤ 100) (h : PK H w b E C L) (hC : C * E.toNat ≤ 1000000000000000000) (hC2 : C ≤ 1000000000000000000) (hL : L.length * E.toNat ≤ 80000000) :
    Calls Try.prog 164 #[.map (some b), .int .i64 (i : Int)] w (MakesK H w E (C * E.toNat) (divK i L)) := by
  obtain ⟨n, f, f1, f2, f3, f4, f5⟩ := h
  have hlen : f.length = L.length := by rw [← f5, (f3.perm (by omega)).length_eq, List.length_map]
  have hab : absT f * E.toNat ≤ C * E.toNat := Nat.mul_le_mul_right _ f4
  refine (divided_any (E' := E) i hi f1 f3 (by omega) (by omega) (fun x hx => dvT_in (by omega) (f3.ok x hx).1) (by omega) (by omega) (by rw [hlen]; exact hL)).mono ?_
  rintro e w2 ⟨b2, rfl, hb2, ⟨n2, acc, a1, a2, a3, a4, a5⟩, h3⟩
  refine ⟨b2, rfl, hb2, ⟨n2, acc, a1, a2, a3, by omega, ?_⟩, h3⟩
  rw [a5]
  have p3 := f3.back (by omega)
  rw [f5] at p3
  exact gatherK_perm ((divL_perm p3.symm).map kc)
/-- The divided differences that make a permutation's polynomial. -/
def lowM : Nat → List Int → List (Int × Int) → List (Int × Int)
  | 0, _, L => L
  | n + 1, l, L => match firstAsc l with
    | none => L
    | some i => divK i (lowM n (swA i l) L)
def lowOk : Nat → List Int → List (Int × Int) → Bool
  | 0, _, _ => true
  | n + 1, l, L => match firstAsc l with
    | none => true
    | some i => lowOk n (swA i l) L && decide ((lowM n (swA i l) L).length ≤ 1000000)
theorem lowM_none {l : List Int} (n : Nat) (L : List (Int × Int)) (h : firstAsc l = none) : lowM n l L = L := by
  cases n with
  | zero => rfl
  | succ n => rw [lowM, h]
theorem lowM_some {l : List Int} {i : Nat} (n : Nat) (L : List (Int × Int)) (h : firstAsc l = some i) : lowM (n + 1) l L = divK i (lowM n (swA i l) L) := by rw [lowM, h]
theorem lowOk_some {l : List Int} {i : Nat} (n : Nat) (L : List (Int × Int)) (h : firstAsc l = some i) (h2 : lowOk (n + 1) l L = true) : lowOk n (swA i l) L = true ∧ (lowM n (swA i l) L).length ≤ 1000000 := by
  rw [lowOk, h] at h2
  simpa using h2
set_option maxRecDepth 100000 in
set_option maxHeartbeats 4000000 in
theorem low_step {H : Type} {A : Option Addr} {m C b0 : Nat} {l : List Int} {w : World} {R L0 : List (Int × Int)} (c : Nat) (hx : RI w A m l) (hm : 1 ≤ m ∧ m ≤ 6) (h0 : PK H w b0 5 1 L0)
    (hrec : ∀ j, j + 1 < m → nth l j < nth l (j + 1) → (∀ i, i < j → ¬ nth l i < nth l (i + 1)) → ∃ (Cr : Nat) (L : List (Int × Int)), C = Cr * 5 ∧ Cr ≤ 100000000000000000 ∧ L.length ≤ 1000000 ∧ R = divK j L ∧ ∀ W A' c', RI W A' m (swA j l) → PK H W b0 5 1 L0 → Calls Try.prog 162 #[.slice A' m c', .map (some b0), .func (.func 164) #[] #[]] W (fun e w' => ∃ b, e = .returned (.map (some b)) ∧ PK H w' b 5 Cr L ∧ Below W.heap.size W w'))
    (hnone : (∀ i, i + 1 < m → ¬ nth l i < nth l (i + 1)) → R = L0 ∧ 1 ≤ C) :
    Calls Try.prog 162 #[.slice A m c, .map (some b0), .func (.func 164) #[] #[]] w (fun e w' => ∃ b, e = .returned (.map (some b)) ∧ PK H w' b 5 C R ∧ Below w.heap.size w w') := by
  have HLn : Hid (l.length = m) := hx.1
  have HX := Lib.hid hx
  have HREC := Lib.hid hrec
  have HNONE := Lib.hid hnone
  have HP0 := Lib.hid h0
  have hw0 : IntKind.i64.wrap ((m : Int) - 1) = (m : Int) - 1 := by rw [IntKind.wrap_i64]; omega
  clear hx hrec hnone h0
  go_enter Try.func162, Try.ntmps162
  go_upto_region 2 with fail
  go_loopw [7, 11] (fun _ i wr => ∃ k : Nat, k ≤ m - 1 ∧ i = .int .i64 (k : Int) ∧ Hid (Below w.heap.size w wr ∧ ∀ j, j < k → ¬ nth l j < nth l (j + 1))) (fun _ i _ => m - (intOf i).toNat)
  case atStart => exact ⟨0, Nat.zero_le _, rfl, Below.refl _ _, fun j hj => by omega⟩
  case round =>
    obtain ⟨k, hk, rfl, HY⟩ := hrel
    by_cases hlt : k + 1 < m
    · have hltI : (k : Int) < (m : Int) - 1 := by omega
      obtain ⟨ad, rfl, hcl⟩ := (HX.out.below HY.out.1).2 (by omega)
      have z0 := hcl k (by omega)
      have z1 := hcl (k + 1) hlt
      rw [show ad.add (k + 1) = ⟨ad.block, ad.off + (k + 1), none⟩ by unfold Addr.add; rw [if_neg (by omega)]] at z1
      obtain ⟨u, hu⟩ : ∃ u, u = nth l k := ⟨_, rfl⟩
      obtain ⟨v, hv⟩ : ∃ u, u = nth l (k + 1) := ⟨_, rfl⟩
      rw [← hu] at z0
      rw [← hv] at z1
      have HUV : Hid (u = nth l k ∧ v = nth l (k + 1)) := ⟨hu, hv⟩
      have hw1 : IntKind.i64.wrap ((k : Int) + 1) = (k : Int) + 1 := by rw [IntKind.wrap_i64]; omega
      have hk0 : (k : Int) < (m : Int) := by omega
      have hk1 : (k : Int) + 1 < (m : Int) := by omega
      have hk2 : (0 : Int) ≤ (k : Int) + 1 := by omega
      have hk3 : k < m := by omega
      clear hu hv hcl
      rcases hna : decide (u < v) with _ | _
      · have HNA := Lib.hid hna
        go_wp2_with fail
        go_region
        go_wp2_with fail
        go_roundw
        case rel => exact ⟨k + 1, by omega, by go_num, HY.out.1.drew, fun j hj => by
          by_cases h : j = k
          · subst h; rw [← HUV.out.1, ← HUV.out.2]; have := of_decide_eq_false HNA.out; omega
          · have := HY.out.2 j (by omega); omega⟩
        case measure => simp [intOf]; omega
      · obtain ⟨Cr, L, hC, hCr, hL, hR, hcall⟩ := HREC.out k hlt (by rw [← HUV.out.1, ← HUV.out.2]; exact of_decide_eq_true hna) (fun i hi => by have := HY.out.2 i hi; omega)
        have HC : Hid (C = Cr * 5 ∧ Cr ≤ 100000000000000000 ∧ L.length ≤ 1000000 ∧ R = divK k L) := ⟨hC, hCr, hL, hR⟩
        have HCALL := Lib.hid hcall
        have BD : Hid (Below w.heap.size w wr.drew) := HY.out.1.drew
        have HEX : Hid (Calls Try.prog 99 #[.slice (some ad) m c, .int .i64 (k : Int), .int .i64 ((k : Int) + 1)] wr.drew (Makes wr.drew (swA k l))) := by
          have h2 := exchanged_any (w := wr.drew) c k (k + 1) (HX.out.below BD.out) (by omega) (by omega) (by omega) (by omega)
          rw [swapL_swA k l (by rw [HLn.out]; omega)] at h2
          exact h2
        clear hC hCr hL hR hcall
        go_wp2_with fail
        go_region
        obtain ⟨wd, ed⟩ : ∃ W, W = wr.drew := ⟨_, rfl⟩
        rw [← ed] at BD HEX ⊢
        clear ed z0 z1
        go_upto_region 6 with (first
          | (go_at_call 99; refine HEX.out.mono ?_; rintro e w2 ⟨A2, n2, c2, rfl, o2, r2, ⟨cp2, le2⟩, b2⟩; have HB2 : Hid (Below w.heap.size w w2) := BD.out.trans (b2.mono BD.out.size); obtain rfl : n2 = m := (by rw [← r2.1, (swA_perm k l).length_eq]; exact HLn.out); have HR2 := Lib.hid r2; have P02 := Lib.hid (HP0.out.same (HB2.out.block _ HP0.out.lt)))
          | (go_at_call 162; refine (HCALL.out _ _ _ HR2.out P02.out).mono ?_; rintro e w3 ⟨b3, rfl, p3, c3⟩; have P3 := Lib.hid p3)
          | (go_at_call 164; refine (dividedK_any k (by omega) (by omega) P3.out (by have := HC.out.2.1; show Cr * 5 ≤ _; omega) (by have := HC.out.2.1; omega) (by have := HC.out.2.2.1; show L.length * 5 ≤ _; omega)).mono ?_; rintro e w4 ⟨b4, rfl, l4, p4, c4⟩)
          | fail)
        go_ret
        have h23 := HB2.out.trans (c3.mono HB2.out.size)
        refine ⟨b4, rfl, ?_, h23.trans (c4.mono h23.size)⟩
        rw [HC.out.1, HC.out.2.2.2]
        exact p4
    · have hltI : ¬ (k : Int) < (m : Int) - 1 := by omega
      have hno := HNONE.out (fun i hi => by have := HY.out.2 i (by omega); omega)
      have HNO := Lib.hid hno
      clear hno
      go_wp2_with fail
      go_ret
      obtain ⟨n0, acc, a1, a2, a3, a4, a5⟩ := HP0.out.same (HY.out.1.block _ HP0.out.lt)
      exact ⟨b0, rfl, ⟨n0, acc, a1, a2, a3, by have := HNO.out.2; omega, by rw [HNO.out.1]; exact a5⟩, HY.out.1⟩
theorem pow5_le2 {n : Nat} (h : n ≤ 20) : 5 ^ n ≤ 100000000000000000 := Nat.le_trans (Nat.pow_le_pow_right (by omega) h) (by decide)
theorem low_any {H : Type} : ∀ (fuel : Nat) {A : Option Addr} {m b0 : Nat} {l : List Int} {w : World} {L0 : List (Int × Int)} (c : Nat), RI w A m l → 1 ≤ m ∧ m ≤ 6 → PK H w b0 5 1 L0 → invL l ≤ fuel → fuel ≤ 20 → lowOk fuel l L0 = true →
    Calls Try.prog 162 #[.slice A m c, .map (some b0), .func (.func 164) #[] #[]] w (fun e w' => ∃ b, e = .returned (.map (some b)) ∧ PK H w' b 5 (5 ^ fuel) (lowM fuel l L0) ∧ Below w.heap.size w w') := by
  intro fuel
  induction fuel with
  | zero =>
    intro A m b0 l w L0 c hx hm h0 hinv _ _
    have hlen := hx.1
    refine low_step c hx hm h0 (fun j hj h _ => ?_) fun _ => ⟨rfl, Nat.le_refl _⟩
    have := inv_pos j l (by omega) h
    omega
  | succ fuel ih =>
    intro A m b0 l w L0 c hx hm h0 hinv hf hok
    have hlen : l.length = m := hx.1
    refine low_step c hx hm h0 (fun j hj h hlo => ?_) fun hno => ⟨lowM_none _ _ (firstAsc_none (fun i hi => hno i (by omega))), pow5_pos _⟩
    have h1 := swA_inv j l (by omega) h
    have hfa := firstAsc_some (by omega) h hlo
    have h2 := lowOk_some fuel L0 hfa hok
    exact ⟨5 ^ fuel, lowM fuel (swA j l) L0, Nat.pow_succ .., pow5_le2 (by omega), h2.2, lowM_some _ _ hfa, fun W A' c' hx' h0' => ih c' hx' hm h0' (by omega) (by omega) h2.1⟩
end Go.Proofs.Ytgbojgmmingfdaa

/- schubert and SchubertPoly of the program. -/
namespace Go.Proofs.Ytgbojgmmingfdaa
open Go.RowKit

def triM : Nat → Nat
  | 0 => 0
  | n + 1 => n + triM n
theorem invL_tri : ∀ l : List Int, invL l ≤ triM l.length
  | [] => Nat.le_refl _
  | x :: r => by
    have h1 := upC_le x r
    have h2 := invL_tri r
    rw [invL, List.length_cons, triM]
    omega
theorem triM_mono {a b : Nat} (h : a ≤ b) : triM a ≤ triM b := by
  induction b with
  | zero => rw [Nat.le_zero.1 h]; exact Nat.le_refl _
  | succ b ih =>
    rcases Nat.lt_or_eq_of_le h with h1 | h1
    · have := ih (by omega)
      rw [triM]
      omega
    · rw [h1]; exact Nat.le_refl _
theorem trimN_pos (l : List Int) : ∀ k, 1 ≤ k → 1 ≤ trimN l k
  | 0, h => by omega
  | 1, _ => Nat.le_refl _
  | k + 2, _ => by
    rw [trimN]
    split
    · exact trimN_pos l (k + 1) (by omega)
    · omega
theorem trimL_len {l : List Int} : (trimL l).length = trimN l l.length := by
  have := trimN_le l l.length
  rw [trimL, List.length_take]
  omega
/-- The key of the staircase, as a polynomial. -/
def stairK (m : Nat) : List (Int × Int) := [(keyL (stairC m m), 1)]
/-- Schubert polynomials, as keys. -/
def schK (l : List Int) : List (Int × Int) := lowM 15 (trimL l) (stairK (trimL l).length)
def schOk (l : List Int) : Bool := lowOk 15 (trimL l) (stairK (trimL l).length)
set_option maxRecDepth 100000 in
set_option maxHeartbeats 2000000 in
theorem schubert_any {H : Type} {A : Option Addr} {n : Nat} {l : List Int} {w : World} (c : Nat) (hx : RI w A n l) (hp : permB l = true) (hc : n ≤ c) (h6 : (trimL l).length ≤ 6) (hok : schOk l = true) :
    Calls Try.prog 102 #[.slice A n c] w (fun e w' => ∃ b, e = .returned (.map (some b)) ∧ PK H w' b 5 (5 ^ 15) (schK l) ∧ Below w.heap.size w w') := by
  have HTR : Hid (Calls Try.prog 161 #[.slice A n c] w (Makes w (trimL l))) := iTrim_any c hx hp hc
  have hsz := permB_size hp
  have h1 : 1 ≤ (trimL l).length := by rw [trimL_len]; exact trimN_pos l _ hsz.1
  have hinv : invL (trimL l) ≤ 15 := Nat.le_trans (invL_tri _) (Nat.le_trans (triM_mono h6) (by decide))
  obtain ⟨t, ht⟩ : ∃ t, t = trimL l := ⟨_, rfl⟩
  have HK : Hid (schK l = lowM 15 t (stairK t.length)) := by show _ = _; rw [ht]; rfl
  have HOK : Hid (lowOk 15 t (stairK t.length) = true) := by show _ = _; rw [ht]; exact hok
  rw [← ht] at HTR h1 h6 hinv
  have HM := Lib.hid (And.intro h1 h6)
  have HINV := Lib.hid hinv
  clear hx hp hc hok hsz ht h1 h6 hinv
  go_enter Try.func102, Try.ntmps102
  go_wp2_with (first
    | (go_at_call 161; refine HTR.out.mono ?_; rintro e w1 ⟨A1, n1, c1, rfl, o1, r1, -, b1⟩; have HR1 := Lib.hid r1; have HN1 : Hid (t.length = n1) := r1.1)
    | (go_at_call 163; refine (stair_any (H := H) n1 (by have h1 := HM.out; have h2 := HN1.out; omega)).mono ?_; rintro e w2 ⟨b2, rfl, l2, p2, c2⟩; have HP2 := Lib.hid p2)
    | (go_at_call 162; refine (low_any (H := H) 15 c1 (HR1.out.below c2) (by have h1 := HM.out; have h2 := HN1.out; omega) HP2.out HINV.out (by omega) (by have h := HOK.out; rw [HN1.out] at h; exact h)).mono ?_; rintro e w3 ⟨b3, rfl, p3, c3⟩)
    | fail)
  go_ret
  have h12 := b1.trans (c2.mono b1.size)
  refine ⟨b3, rfl, ?_, h12.trans (c3.mono h12.size)⟩
  rw [HK.out, HN1.out]
  exact p3
set_option maxRecDepth 100000 in
set_option maxHeartbeats 2000000 in
theorem iSchubert_any {A : Option Addr} {n : Nat} {l : List Int} {w : World} (c : Nat) (hx : RI w A n l) (hp : permB l = true) (hc : n ≤ c) (h6 : (trimL l).length ≤ 6) (hok : schOk l = true) :
    Calls Try.prog 34 #[.slice A n c] w (MakesTm w (shutT (schK l)) (shutB (schK l))) := by
  have HIS : Hid (Calls Try.prog 94 #[.slice A n c] w (GivesB w (.bool true))) := by
    have h := isPerm_any (w := w) c hx (by have := permB_size hp; have := hx.1; omega)
    rw [hp] at h
    exact h
  have HSC : Hid (∀ W, Below w.heap.size w W → Calls Try.prog 102 #[.slice A n c] W (fun e w' => ∃ b, e = .returned (.map (some b)) ∧ PK Unit w' b 5 (5 ^ 15) (schK l) ∧ Below W.heap.size W w')) := fun W b => schubert_any c (hx.below b) hp hc h6 hok
  clear hx hp hc h6 hok
  go_enter Try.func34, Try.ntmps34
  go_wp2_with (first
    | (go_at_call 94; refine HIS.out.mono ?_; rintro e w1 ⟨rfl, b1⟩)
    | (go_at_call 102; (with_reducible refine (HSC.out _ ?_).mono ?_); (exact b1); rintro e w2 ⟨b2, rfl, p2, d2⟩)
    | (go_at_call 66; refine (closedK_any p2 (by omega)).mono ?_; rintro e w6 ⟨v6, cs6, rfl, o6, c6⟩)
    | fail)
  go_ret2
  have h2 : Below w.heap.size w w2 := b1.trans (d2.mono b1.size)
  exact ⟨v6, cs6, rfl, OF.mono o6 h2.size h2.size, h2.trans (c6.mono h2.size)⟩
end Go.Proofs.Ytgbojgmmingfdaa
