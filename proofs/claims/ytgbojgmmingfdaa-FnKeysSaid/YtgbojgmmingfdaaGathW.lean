/- l2Gather of the reference: a merge sort, then like keys are added. -/
import Derived.Test.YtgbojgmmingfdaaMons
import Derived.BigRegion
import Derived.Deep.DeepCutAuto
import Derived.Deep.CutRange
namespace Go.Proofs.Ytgbojgmmingfdaa
open Go.RowKit

def MakesM (w : World) (L : List (Int × Int)) : Ending → World → Prop := fun e w' => ∃ g n c, e = .returned (.slice (some ⟨g, 0, none⟩) n c) ∧ OM w' w.heap.size (.slice (some ⟨g, 0, none⟩) n c) L ∧ Below w.heap.size w w'
theorem OM.somev {w : World} {base : Nat} {v : Value} {L : List (Int × Int)} {k : Nat} (h : OM w base v L) (hk : v.ownBlock = some k) : ∃ n c, v = .slice (some ⟨k, 0, none⟩) n c := by
  rcases h.1.2 with ⟨rfl, -⟩ | ⟨g, cap, cur, rfl, -⟩
  · simp [Value.ownBlock] at hk
  · simp [Value.ownBlock] at hk
    subst hk
    exact ⟨_, _, rfl⟩
set_option maxRecDepth 100000 in
set_option maxHeartbeats 4000000 in
theorem l2Gather_any {w : World} {base g n c : Nat} {L : List (Int × Int)} (h : OM w base (.slice (some ⟨g, 0, none⟩) n c) L) (hn : L.length ≤ 1000000000) (hab : absK L ≤ 1000000000000000000) :
    Calls Try.prog 132 #[.slice (some ⟨g, 0, none⟩) n c] w (MakesM w (gatherK L)) := by
  obtain ⟨w1, e1⟩ : ∃ W, W = w.alloc (.cells #[] 120) := ⟨_, rfl⟩
  have b1 : Below w.heap.size w w1 := by rw [e1]; exact (Below.refl _ _).alloc (Nat.le_refl _) _
  have HL1 : Hid (OM w1 w.heap.size (.slice (some ⟨w.heap.size, 0, none⟩) 0 0) []) := by rw [e1]; exact OM.lit w _ (Nat.le_refl _)
  have H1 : Hid (OM w1 base (.slice (some ⟨g, 0, none⟩) n c) L) := h.below b1
  have B1 := Lib.hid b1
  have HS1 : Hid (w1.heap.size = w.heap.size + 1) := by show _ = _; rw [e1]; simp
  have E1 := Lib.hid e1
  have HAB := Lib.hid hab
  clear b1 e1 h hab
  go_enter Try.func132, Try.ntmps132
  go_wp2_with (at_builtin; rw [← E1.out]; refine wpAppM rfl _ _ rfl w.heap.size (.slice (some ⟨w.heap.size, 0, none⟩) 0 0) [] L ⟨g, 0, none⟩ n c rfl rfl HL1.out H1.out (by simpa using (by omega : L.length ≤ 1000000000000)) B1.out.size ?_; intro A3 n3 c3 w3 o3 g3 k3)
  have O3 := Lib.hid o3
  have G3 := Lib.hid g3
  have K3 := Lib.hid k3
  clear o3 g3 k3
  have h3 : ∃ k, (Value.slice A3 n3 c3).ownBlock = some k := by
    rcases K3.out with h | h
    · exact ⟨_, h.trans rfl⟩
    · exact ⟨_, h⟩
  obtain ⟨k, hk⟩ := h3
  obtain ⟨n3', c3', hv⟩ := OM.somev O3.out hk
  obtain ⟨rfl, -, -⟩ := slice_inj hv
  have HB3 : Hid (Below w.heap.size w w3) := B1.out.grown G3.out B1.out.size fun q hq => by simp [Value.ownBlock] at hq; omega
  obtain ⟨N, hN⟩ : ∃ N, N = L.length := ⟨_, rfl⟩
  have hn3 : n3 = N := by have := OM.len O3.out; rw [hN, ← this]; simp
  subst hn3
  have hnb : n3 ≤ 1000000000 := by omega
  have HN := Lib.hid hN
  have HO3 : Hid (OM w3 w.heap.size (.slice (some ⟨k, 0, none⟩) n3 c3) L) := by have h := O3.out; rw [List.nil_append] at h; exact h
  clear hv hk hN O3 G3 K3 hn
  go_loopw [3, 4, 5, 6, 7, 8, 9, 10] (fun o z _ _ _ _ _ _ wr => ∃ (go co s : Nat) (X : List (Int × Int)), o = .slice (some ⟨go, 0, none⟩) n3 co ∧ z = .int .i64 (s : Int) ∧ 1 ≤ s ∧ s ≤ 2000000000 ∧ Hid (OM wr w.heap.size (.slice (some ⟨go, 0, none⟩) n3 co) X ∧ X.Perm L ∧ Chunk s X ∧ Below w.heap.size w wr)) (fun _ z _ _ _ _ _ _ _ => n3 - (intOf z).toNat)
  case atStart => exact ⟨k, c3, 1, L, rfl, rfl, Nat.le_refl _, by omega, HO3.out, List.Perm.refl _, chunk_one L, HB3.out⟩
  case round =>
    obtain ⟨go, co, s, X, rfl, rfl, hs1, hs2, HX⟩ := hrel
    by_cases hlt : s < n3
    · go_wp2_with (at_make; refine wpMakeM rfl _ _ rfl n3 _ rfl rfl rfl (by omega) ?_; intro w4 o4 b4)
      have O4 := Lib.hid o4
      have B4 := Lib.hid b4
      clear o4 b4
      obtain ⟨wo, hwo⟩ : ∃ wo : World, wo = wr := ⟨_, rfl⟩
      rw [← hwo] at HX O4 B4 ⊢
      clear hwo
      go_loopw [5, 6, 7, 8, 9, 10] (fun nx z _ _ _ _ wq => ∃ (a gn nn cn : Nat) (Y : List (Int × Int)), nx = .slice (some ⟨gn, 0, none⟩) nn cn ∧ z = .int .i64 (a : Int) ∧ a ≤ 6000000000 ∧ Hid (OM wq wo.heap.size (.slice (some ⟨gn, 0, none⟩) nn cn) Y ∧ Below wo.heap.size wo wq ∧ Lvl s X (min a n3) Y ∧ ∃ q, a = 2 * s * q)) (fun _ z _ _ _ _ _ => n3 - (intOf z).toNat)
      case atStart => exact ⟨0, _, _, _, [], rfl, rfl, by omega, O4.out, B4.out, ⟨by omega, by rw [Nat.zero_min, seg_nil], fun i j _ hj => by simp at hj⟩, 0, by simp⟩
      case round =>
        obtain ⟨a, gn, nn, cn, Y, rfl, rfl, ha, HY⟩ := hrel
        by_cases hat : a < n3
        · obtain ⟨mid, hmid⟩ : ∃ m, m = min (a + s) n3 := ⟨_, rfl⟩
          obtain ⟨en, hen⟩ : ∃ m, m = min (a + 2 * s) n3 := ⟨_, rfl⟩
          have HMID := Lib.hid hmid
          have HEN := Lib.hid hen
          have hb : a ≤ mid ∧ mid ≤ en ∧ en ≤ n3 := by omega
          clear hmid hen
          go_upto_region 10 with fail
          go_cut [8] (fun v8 wx => v8 = .int .i64 (mid : Int) ∧ wx = wr)
          case first =>
            have hv : ∀ z : Int, z = (if (n3 : Int) < (a : Int) + s then (n3 : Int) else (a : Int) + s) → Value.int .i64 z = .int .i64 (mid : Int) := fun z h => by
              rw [h]
              have := HMID.out
              congr 1
              split <;> omega
            have HV := Lib.hid hv
            clear hv
            go_wp2
            all_goals go_meet
            all_goals exact ⟨HV.out _ (by split <;> omega), rfl⟩
          case rest =>
            obtain ⟨rfl, rfl⟩ := hcut
            go_upto_region 12 with fail
            go_cut [10] (fun v10 wx => v10 = .int .i64 (en : Int) ∧ wx = wc)
            case first =>
              have hv : ∀ z : Int, z = (if (n3 : Int) < (a : Int) + 2 * s then (n3 : Int) else (a : Int) + 2 * s) → Value.int .i64 z = .int .i64 (en : Int) := fun z h => by
                rw [h]
                have := HEN.out
                congr 1
                split <;> omega
              have HV := Lib.hid hv
              clear hv
              go_wp2
              all_goals go_meet
              all_goals exact ⟨HV.out _ (by split <;> omega), rfl⟩
            case rest =>
              obtain ⟨rfl, rfl⟩ := hcut
              go_wp2
              obtain ⟨wq, hwq⟩ : ∃ wq : World, wq = wc := ⟨_, rfl⟩
              rw [← hwq] at HY ⊢
              clear hwq
              have hlv : Hid (Lvl s X a Y ∧ ∃ q, a = 2 * s * q) := by
                have h := HY.out.2.2
                rw [show min a n3 = a by omega] at h
                exact h
              have hXl : X.length = n3 := by rw [HX.out.2.1.length_eq, ← HN.out]
              have HXL := Lib.hid hXl
              have HC1 : Hid (∀ i k, a ≤ i → i < k → k < mid → keyAt X k ≤ keyAt X i) := fun i k h1 h2 h3 => by
                obtain ⟨q, hq⟩ := hlv.out.2
                have hm := HMID.out
                have e : a = s * (2 * q) := by rw [hq, Nat.mul_comm 2 s, Nat.mul_assoc]
                refine HX.out.2.2.1 i k h2 (by omega) ?_
                rw [div_next (s := s) (a := 2 * q) (i := i) (by omega) (by omega), div_next (s := s) (a := 2 * q) (i := k) (by omega) (by omega)]
              have HC2 : Hid (∀ i k, mid ≤ i → i < k → k < en → keyAt X k ≤ keyAt X i) := fun i k h1 h2 h3 => by
                obtain ⟨q, hq⟩ := hlv.out.2
                have hm := HMID.out
                have hen := HEN.out
                have e : a + s = s * (2 * q + 1) := by rw [hq, Nat.mul_comm 2 s, Nat.mul_assoc, Nat.mul_add, Nat.mul_one]
                refine HX.out.2.2.1 i k h2 (by omega) ?_
                rw [div_next (s := s) (a := 2 * q + 1) (i := i) (by omega) (by omega), div_next (s := s) (a := 2 * q + 1) (i := k) (by omega) (by omega)]
              clear hXl
              go_loopw [5, 7, 9] (fun nx iv jv wz => ∃ (i j gn nn cn : Nat) (M : List (Int × Int)), nx = .slice (some ⟨gn, 0, none⟩) nn cn ∧ iv = .int .i64 (i : Int) ∧ jv = .int .i64 (j : Int) ∧ i ≤ mid ∧ j ≤ en ∧ Hid (OM wz wo.heap.size (.slice (some ⟨gn, 0, none⟩) nn cn) (Y ++ M) ∧ Below wo.heap.size wo wz ∧ Mrg X a mid en i j M)) (fun _ iv jv _ => (mid - (intOf iv).toNat) + (en - (intOf jv).toNat))
              case atStart =>
                refine ⟨a, mid, gn, nn, cn, [], rfl, rfl, rfl, hb.1, hb.2.1, ?_, HY.out.2.1, Mrg.start hb.1 hb.2.1 (by rw [HX.out.2.1.length_eq, ← HN.out]; exact hb.2.2)⟩
                rw [List.append_nil]; exact HY.out.1
              case round =>
                obtain ⟨i, j, gn, nn, cn, M, rfl, rfl, rfl, hi, hj, HM⟩ := hrel
                have HOX : Hid (OM wr w.heap.size (.slice (some ⟨go, 0, none⟩) n3 co) X) := HX.out.1.below HM.out.2.1
                have HNX : Hid (∀ nq, OM (wr.drewN nq) wo.heap.size (.slice (some ⟨gn, 0, none⟩) nn cn) (Y ++ M)) := fun nq => HM.out.1.below (below_drewN (Below.refl _ _) nq)
                have HNS : Hid (∀ nq, wo.heap.size ≤ (wr.drewN nq).heap.size) := fun nq => HM.out.2.1.size
                have HLEN : Hid ((Y ++ M).length + 1 ≤ 1000000000000) := by
                  have h1 := hlv.out.1.perm.length_eq
                  have h2 := HM.out.2.2.perm.length_eq
                  have h3 := HM.out.2.2.b5
                  have hm := HM.out.2.2
                  rw [seg_len hlv.out.1.le] at h1
                  rw [List.length_append, seg_len (by have := hm.b3; have := hm.b4; have := hm.b2; omega), seg_len (by have := hm.b4; omega)] at h2
                  have := HXL.out
                  have := hm.b2; have := hm.b4
                  show _ ≤ _
                  rw [List.length_append]; omega
                have HST : Hid (∀ (nq : Nat) (p q : Int) (A' : Option Addr) (n' c' : Nat) (w5 : World), OM w5 wo.heap.size (.slice A' n' c') (Y ++ M ++ [(p, q)]) → ((wr.drewN nq).alloc (.cells #[.int .i64 p, .int .i64 q] 120)).grownBy w5 (Value.slice (some ⟨gn, 0, none⟩) nn cn).ownBlock → (∃ g', A' = some ⟨g', 0, none⟩) ∧ OM w5 wo.heap.size (.slice A' n' c') (Y ++ (M ++ [(p, q)])) ∧ Below wo.heap.size wo w5) := fun nq p q A' n' c' w5 h1 h2 => by
                  have hlen := h1.len
                  obtain ⟨g', e, -⟩ := h1.shape (by rw [← hlen, List.length_append, List.length_singleton]; omega)
                  refine ⟨⟨g', e⟩, by rw [← List.append_assoc]; exact h1, ((below_drewN HM.out.2.1 nq).alloc (HNS.out nq) _).grown h2 (by simp; exact Nat.le_succ_of_le HM.out.2.1.size) fun k hk => (HM.out.1.lt k hk).1⟩
                by_cases hii : i < mid
                · obtain ⟨pi, hpi⟩ : ∃ p, p = (nthM X i).1 := ⟨_, rfl⟩
                  obtain ⟨qi, hqi⟩ : ∃ p, p = (nthM X i).2 := ⟨_, rfl⟩
                  obtain ⟨x1, x2⟩ := HOX.out.cell (k := i) (by have := HXL.out; omega)
                  rw [← hpi] at x1
                  rw [← hqi] at x2
                  have HPI := Lib.hid hpi
                  have HQI := Lib.hid hqi
                  have hi1 : decide (i < mid) = true := decide_eq_true (by omega)
                  clear hpi hqi
                  by_cases hjj : j < en
                  · obtain ⟨pj, hpj⟩ : ∃ p, p = (nthM X j).1 := ⟨_, rfl⟩
                    obtain ⟨qj, hqj⟩ : ∃ p, p = (nthM X j).2 := ⟨_, rfl⟩
                    obtain ⟨y1, y2⟩ := HOX.out.cell (k := j) (by have := HXL.out; omega)
                    rw [← hpj] at y1
                    rw [← hqj] at y2
                    have HPJ := Lib.hid hpj
                    have HQJ := Lib.hid hqj
                    have hj1 : decide (en ≤ j) = false := decide_eq_false (by omega)
                    clear hpj hqj
                    by_cases hc : pj ≤ pi
                    · have hc1 : decide (pj ≤ pi) = true := decide_eq_true hc
                      have HCC := Lib.hid hc
                      clear hc
                      go_wp2
                      go_quiet (fail)
                      go_wp2_with (at_builtin; refine wpAppM1 rfl _ _ rfl wo.heap.size (.slice (some ⟨gn, 0, none⟩) nn cn) (Y ++ M) pi qi rfl rfl (HNX.out _) HLEN.out (HNS.out _) ?_; intro A5 n5 c5 w5 o5 g5 k5)
                      obtain ⟨⟨g', rfl⟩, o6, b6⟩ := HST.out _ _ _ _ _ _ _ o5 g5
                      have HF : Hid (OM w5 wo.heap.size (.slice (some ⟨g', 0, none⟩) n5 c5) (Y ++ (M ++ [nthM X i])) ∧ Below wo.heap.size wo w5 ∧ Mrg X a mid en (i + 1) j (M ++ [nthM X i])) := by
                        refine ⟨by rw [HPI.out, HQI.out] at o6; exact o6, b6, HM.out.2.2.left hii (fun k h1 h2 => HC1.out i k HM.out.2.2.b1 h1 h2) fun _ k h1 h2 => ?_⟩
                        have e : keyAt X j ≤ keyAt X i := by have := HCC.out; rw [HPI.out, HPJ.out] at this; exact this
                        rcases Nat.eq_or_lt_of_le h1 with h3 | h3
                        · rw [← h3]; exact e
                        · exact Int.le_trans (HC2.out j k HM.out.2.2.b3 h3 h2) e
                      clear o5 g5 k5 o6 b6
                      go_roundw
                      case rel => exact ⟨i + 1, j, g', n5, c5, _, rfl, by go_num, rfl, by omega, hj, HF.out⟩
                      case measure => simp [intOf]; omega
                    · have hc1 : decide (pj ≤ pi) = false := decide_eq_false hc
                      have HCC := Lib.hid hc
                      clear hc
                      go_wp2
                      go_quiet (fail)
                      go_wp2_with (at_builtin; refine wpAppM1 rfl _ _ rfl wo.heap.size (.slice (some ⟨gn, 0, none⟩) nn cn) (Y ++ M) pj qj rfl rfl (HNX.out _) HLEN.out (HNS.out _) ?_; intro A5 n5 c5 w5 o5 g5 k5)
                      obtain ⟨⟨g', rfl⟩, o6, b6⟩ := HST.out _ _ _ _ _ _ _ o5 g5
                      have HF : Hid (OM w5 wo.heap.size (.slice (some ⟨g', 0, none⟩) n5 c5) (Y ++ (M ++ [nthM X j])) ∧ Below wo.heap.size wo w5 ∧ Mrg X a mid en i (j + 1) (M ++ [nthM X j])) := by
                        refine ⟨by rw [HPJ.out, HQJ.out] at o6; exact o6, b6, HM.out.2.2.right hjj (fun k h1 h2 => HC2.out j k HM.out.2.2.b3 h1 h2) fun _ k h1 h2 => ?_⟩
                        have e : keyAt X i ≤ keyAt X j := by have := HCC.out; rw [HPI.out, HPJ.out] at this; unfold keyAt; omega
                        rcases Nat.eq_or_lt_of_le h1 with h3 | h3
                        · rw [← h3]; exact e
                        · exact Int.le_trans (HC1.out i k HM.out.2.2.b1 h3 h2) e
                      clear o5 g5 k5 o6 b6
                      go_roundw
                      case rel => exact ⟨i, j + 1, g', n5, c5, _, rfl, rfl, by go_num, hi, by omega, HF.out⟩
                      case measure => simp [intOf]; omega
                  · have hj1 : decide (en ≤ j) = true := decide_eq_true (by omega)
                    go_wp2
                    go_quiet (fail)
                    go_wp2_with (at_builtin; refine wpAppM1 rfl _ _ rfl wo.heap.size (.slice (some ⟨gn, 0, none⟩) nn cn) (Y ++ M) pi qi rfl rfl (HNX.out _) HLEN.out (HNS.out _) ?_; intro A5 n5 c5 w5 o5 g5 k5)
                    obtain ⟨⟨g', rfl⟩, o6, b6⟩ := HST.out _ _ _ _ _ _ _ o5 g5
                    have HF : Hid (OM w5 wo.heap.size (.slice (some ⟨g', 0, none⟩) n5 c5) (Y ++ (M ++ [nthM X i])) ∧ Below wo.heap.size wo w5 ∧ Mrg X a mid en (i + 1) j (M ++ [nthM X i])) := by
                      refine ⟨by rw [HPI.out, HQI.out] at o6; exact o6, b6, HM.out.2.2.left hii (fun k h1 h2 => HC1.out i k HM.out.2.2.b1 h1 h2) fun h1 => absurd h1 hjj⟩
                    clear o5 g5 k5 o6 b6
                    go_roundw
                    case rel => exact ⟨i + 1, j, g', n5, c5, _, rfl, by go_num, rfl, by omega, hj, HF.out⟩
                    case measure => simp [intOf]; omega
                · have hi1 : decide (i < mid) = false := decide_eq_false (by omega)
                  by_cases hjj : j < en
                  · obtain ⟨pj, hpj⟩ : ∃ p, p = (nthM X j).1 := ⟨_, rfl⟩
                    obtain ⟨qj, hqj⟩ : ∃ p, p = (nthM X j).2 := ⟨_, rfl⟩
                    obtain ⟨y1, y2⟩ := HOX.out.cell (k := j) (by have := HXL.out; omega)
                    rw [← hpj] at y1
                    rw [← hqj] at y2
                    have HPJ := Lib.hid hpj
                    have HQJ := Lib.hid hqj
                    have hj1 : decide (en ≤ j) = false := decide_eq_false (by omega)
                    clear hpj hqj
                    go_wp2
                    go_quiet (fail)
                    go_wp2_with (at_builtin; refine wpAppM1 rfl _ _ rfl wo.heap.size (.slice (some ⟨gn, 0, none⟩) nn cn) (Y ++ M) pj qj rfl rfl (HNX.out _) HLEN.out (HNS.out _) ?_; intro A5 n5 c5 w5 o5 g5 k5)
                    obtain ⟨⟨g', rfl⟩, o6, b6⟩ := HST.out _ _ _ _ _ _ _ o5 g5
                    have HF : Hid (OM w5 wo.heap.size (.slice (some ⟨g', 0, none⟩) n5 c5) (Y ++ (M ++ [nthM X j])) ∧ Below wo.heap.size wo w5 ∧ Mrg X a mid en i (j + 1) (M ++ [nthM X j])) :=
                      ⟨by rw [HPJ.out, HQJ.out] at o6; exact o6, b6, HM.out.2.2.right hjj (fun k h1 h2 => HC2.out j k HM.out.2.2.b3 h1 h2) fun h1 => absurd h1 hii⟩
                    clear o5 g5 k5 o6 b6
                    go_roundw
                    case rel => exact ⟨i, j + 1, g', n5, c5, _, rfl, rfl, by go_num, hi, by omega, HF.out⟩
                    case measure => simp [intOf]; omega
                  · have HF : Hid (Lvl s X (min (a + 2 * s) n3) (Y ++ M)) := by
                      have hm := HM.out.2.2
                      obtain rfl : i = mid := by omega
                      obtain rfl : j = en := by omega
                      obtain ⟨hl, q, hq⟩ := hlv.out
                      have hen := HEN.out
                      rw [← hen]
                      rw [hq] at hl hm
                      exact hl.next (by omega) hm (by rw [← hq]; omega)
                    go_wp2
                    go_roundw
                    case rel =>
                      refine ⟨a + 2 * s, gn, nn, cn, Y ++ M, rfl, by go_num, by omega, HM.out.1, HM.out.2.1, HF.out, ?_⟩
                      obtain ⟨q, hq⟩ := hlv.out.2
                      exact ⟨q + 1, by rw [hq, Nat.mul_add, Nat.mul_one]⟩
                    case measure => simp [intOf]; omega
        · have HF : Hid (OM wr w.heap.size (.slice (some ⟨gn, 0, none⟩) nn cn) Y ∧ Y.Perm L ∧ Chunk (2 * s) Y ∧ Below w.heap.size w wr) := by
            obtain ⟨o1, b1, lv, -⟩ := HY.out
            have hl : X.length = n3 := by rw [HX.out.2.1.length_eq, ← HN.out]
            rw [show min a n3 = X.length by omega] at lv
            have hp := lv.perm
            rw [seg_all] at hp
            exact ⟨o1.mono HX.out.2.2.2.size, hp.trans HX.out.2.1, lv.chunk, HX.out.2.2.2.trans (b1.mono HX.out.2.2.2.size)⟩
          obtain rfl : nn = n3 := by have := HF.out.1.len; have := HF.out.2.1.length_eq; have := HN.out; omega
          go_wp2
          go_roundw
          case rel => exact ⟨gn, cn, 2 * s, Y, rfl, by go_num, by omega, by omega, HF.out⟩
          case measure => simp [intOf]; omega
    · have hXl : X.length = n3 := by rw [HX.out.2.1.length_eq, ← HN.out]
      have HXL := Lib.hid hXl
      have HSR : Hid (X.Pairwise fun x y => y.1 ≤ x.1) := chunk_all HX.out.2.2.1 (by omega)
      obtain ⟨w4, e4⟩ : ∃ W, W = wr.alloc (.cells #[] 120) := ⟨_, rfl⟩
      have b4 : Below wr.heap.size wr w4 := by rw [e4]; exact (Below.refl _ _).alloc (Nat.le_refl _) _
      have HL4 : Hid (OM w4 wr.heap.size (.slice (some ⟨wr.heap.size, 0, none⟩) 0 0) []) := by rw [e4]; exact OM.lit wr _ (Nat.le_refl _)
      have B4 := Lib.hid b4
      have E4 := Lib.hid e4
      clear b4 e4 hXl
      go_wp2
      have hal : wr.alloc (.cells #[] 120) = w4 := E4.out.symm
      rw [hal]
      clear hal
      obtain ⟨wo, hwo⟩ : ∃ wo : World, wo = wr := ⟨_, rfl⟩
      rw [← hwo] at HX HL4 B4 ⊢
      clear hwo
      go_loopw [11, 12] (fun sv kv wq => ∃ (k gs n c : Nat) (S : List (Int × Int)), sv = .slice (some ⟨gs, 0, none⟩) n c ∧ kv = .int .i64 (k : Int) ∧ k ≤ n3 ∧ Hid (OM wq wo.heap.size (.slice (some ⟨gs, 0, none⟩) n c) S ∧ Below wo.heap.size wo wq ∧ Sums X k S)) (fun _ kv _ => n3 - (intOf kv).toNat)
      case atStart => exact ⟨0, _, _, _, [], rfl, rfl, Nat.zero_le _, HL4.out, B4.out, Sums.start X⟩
      case round =>
        obtain ⟨k, gs, ns, cs, S, rfl, rfl, hk, HS⟩ := hrel
        by_cases hkk : k < n3
        · have HOX : Hid (OM wr w.heap.size (.slice (some ⟨go, 0, none⟩) n3 co) X) := HX.out.1.below HS.out.2.1
          obtain ⟨x1, x2⟩ := HOX.out.cell (k := k) (by have := HXL.out; omega)
          obtain ⟨pk, hpk⟩ : ∃ p, p = (nthM X k).1 := ⟨_, rfl⟩
          obtain ⟨qk, hqk⟩ : ∃ p, p = (nthM X k).2 := ⟨_, rfl⟩
          rw [← hpk] at x1
          rw [← hqk] at x2
          have HPK := Lib.hid hpk
          have HQK := Lib.hid hqk
          have HLS : Hid (S.length = ns) := HS.out.1.len
          have hns : ns ≤ 1000000000 := by have := HS.out.2.2.len; have := HLS.out; omega
          have HNX : Hid (∀ nq, OM (wr.drewN nq) wo.heap.size (.slice (some ⟨gs, 0, none⟩) ns cs) S) := fun nq => HS.out.1.below (below_drewN (Below.refl _ _) nq)
          have HNS : Hid (∀ nq, wo.heap.size ≤ (wr.drewN nq).heap.size) := fun nq => HS.out.2.1.size
          have HLEN : Hid (S.length + 1 ≤ 1000000000000) := by have := HLS.out; show _ ≤ _; omega
          have HST : Hid (∀ (nq : Nat) (A' : Option Addr) (n' c' : Nat) (w5 : World), (0 < S.length → (nthM S (S.length - 1)).1 ≠ keyAt X k) → OM w5 wo.heap.size (.slice A' n' c') (S ++ [(pk, qk)]) → ((wr.drewN nq).alloc (.cells #[.int .i64 pk, .int .i64 qk] 120)).grownBy w5 (Value.slice (some ⟨gs, 0, none⟩) ns cs).ownBlock →
              (∃ g', A' = some ⟨g', 0, none⟩) ∧ OM w5 wo.heap.size (.slice A' n' c') (S ++ [nthM X k]) ∧ Below wo.heap.size wo w5 ∧ Sums X (k + 1) (S ++ [nthM X k])) := fun nq A' n' c' w5 h0 h1 h2 => by
            have hlen := h1.len
            obtain ⟨g', e, -⟩ := h1.shape (by rw [← hlen, List.length_append, List.length_singleton]; omega)
            exact ⟨⟨g', e⟩, by rw [HPK.out, HQK.out] at h1; exact h1, ((below_drewN HS.out.2.1 nq).alloc (HNS.out nq) _).grown h2 (by simp; exact Nat.le_succ_of_le HS.out.2.1.size) fun k hk => (HS.out.1.lt k hk).1, HS.out.2.2.other HSR.out (by have := HXL.out; omega) h0⟩
          clear hpk hqk
          rcases Nat.eq_zero_or_pos ns with h0 | h0
          · subst h0
            go_wp2
            go_quiet (fail)
            go_wp2_with (at_builtin; refine wpAppM1 rfl _ _ rfl wo.heap.size (.slice (some ⟨gs, 0, none⟩) 0 cs) S pk qk rfl rfl (HNX.out _) HLEN.out (HNS.out _) ?_; intro A5 n5 c5 w5 o5 g5 k5)
            obtain ⟨⟨g', rfl⟩, HF⟩ := HST.out _ _ _ _ _ (fun h => by have := HLS.out; omega) o5 g5
            have HF' := Lib.hid HF
            clear o5 g5 k5 HF
            go_roundw
            case rel => exact ⟨k + 1, g', n5, c5, _, rfl, by go_num, by omega, HF'.out⟩
            case measure => simp [intOf]; omega
          · obtain ⟨T, rfl⟩ : ∃ T, ns = T + 1 := ⟨ns - 1, by omega⟩
            obtain ⟨y1, y2⟩ := HS.out.1.cell (k := T) (by have := HLS.out; omega)
            obtain ⟨pl, hpl⟩ : ∃ p, p = (nthM S T).1 := ⟨_, rfl⟩
            obtain ⟨ql, hql⟩ : ∃ p, p = (nthM S T).2 := ⟨_, rfl⟩
            rw [← hpl] at y1
            rw [← hql] at y2
            have HPL := Lib.hid hpl
            have HQL := Lib.hid hql
            have z2 := HS.out.1.frozen (T * 2 + 1)
            have ht1 : decide (0 < T + 1) = true := decide_eq_true (by omega)
            clear hpl hql
            by_cases he : pl = pk
            · have he1 : (pl == pk) = true := by simpa using he
              have HE := Lib.hid he
              have hbd : -1000000000000000000 ≤ ql + qk ∧ ql + qk ≤ 1000000000000000000 := by
                have h1 := absK_mem (L := X.take (k + 1)) (x := nthM X k) (by rw [takeK (by have := HXL.out; omega)]; simp)
                have h2 := HS.out.2.2.abs
                have h3 := absK_mem (L := S) (x := nthM S T) (by rw [nthM_lt (by have := HLS.out; omega)]; exact List.getElem_mem _)
                have h4 : absK (X.take (k + 1)) ≤ absK X := by
                  conv => rhs; rw [← List.take_append_drop (k + 1) X, absK_app]
                  omega
                have h5 := absK_perm HX.out.2.1
                have h6 := HAB.out
                have h7 : absK (X.take (k + 1)) = absK (X.take k) + (nthM X k).2.natAbs := by rw [takeK (by have := HXL.out; omega), absK_app]; simp [absK]
                have h8 := HQL.out
                have h9 := HQK.out
                omega
              have hw : IntKind.i64.wrap (ql + qk) = ql + qk := IntWalk.i64_in _ (by omega)
              clear he
              go_wp2
              go_quiet (fail)
              go_wp2
              go_region
              go_wp2
              go_roundw
              case rel =>
                have h1 := HLS.out
                refine ⟨k + 1, gs, T + 1, cs, setC S T (ql + qk), rfl, by go_num, by omega, ((HNX.out (nq + 1)).setCoef (by omega) _).1, (below_drewN HS.out.2.1 (nq + 1)).setCell (HS.out.1.lt gs rfl).1 _, ?_⟩
                have h2 := HS.out.2.2.like (by have := HXL.out; omega) (by omega) (by rw [show S.length - 1 = T by omega, ← HPL.out, HE.out, HPK.out]; rfl)
                rw [show S.length - 1 = T by omega, ← HQL.out, ← HQK.out] at h2
                exact h2
              case measure => simp [intOf]; omega
            · have he1 : (pl == pk) = false := by simpa using he
              have HE := Lib.hid he
              clear he
              go_wp2
              go_quiet (fail)
              go_wp2_with (at_builtin; refine wpAppM1 rfl _ _ rfl wo.heap.size (.slice (some ⟨gs, 0, none⟩) (T + 1) cs) S pk qk rfl rfl (HNX.out _) HLEN.out (HNS.out _) ?_; intro A5 n5 c5 w5 o5 g5 k5)
              obtain ⟨⟨g', rfl⟩, HF⟩ := HST.out _ _ _ _ _ (fun _ => by have h1 := HLS.out; rw [show S.length - 1 = T by omega, ← HPL.out]; intro e; exact HE.out (by rw [e, HPK.out]; rfl)) o5 g5
              have HF' := Lib.hid HF
              clear o5 g5 k5 HF
              go_roundw
              case rel => exact ⟨k + 1, g', n5, c5, _, rfl, by go_num, by omega, HF'.out⟩
              case measure => simp [intOf]; omega
        · have HSE : Hid (OM wr wo.heap.size (.slice (some ⟨gs, 0, none⟩) ns cs) S ∧ Below wo.heap.size wo wr ∧ S.filter (fun x => decide (x.2 ≠ 0)) = gatherK L) := by
            obtain ⟨a1, a2, a3⟩ := HS.out
            rw [show k = X.length by have := HXL.out; omega] at a3
            exact ⟨a1, a2, gath_end HX.out.2.1 a3⟩
          have HLS : Hid (S.length = ns) := HS.out.1.len
          have hns : ns ≤ 1000000000 := by have := HS.out.2.2.len; have := HLS.out; omega
          obtain ⟨w5, e5⟩ : ∃ W, W = wr.alloc (.cells #[] 120) := ⟨_, rfl⟩
          have b5 : Below wr.heap.size wr w5 := by rw [e5]; exact (Below.refl _ _).alloc (Nat.le_refl _) _
          have HL5 : Hid (OM w5 wr.heap.size (.slice (some ⟨wr.heap.size, 0, none⟩) 0 0) []) := by rw [e5]; exact OM.lit wr _ (Nat.le_refl _)
          have B5 := Lib.hid b5
          have E5 := Lib.hid e5
          clear b5 e5
          go_wp2
          have hal : wr.alloc (.cells #[] 120) = w5 := E5.out.symm
          rw [hal]
          clear hal
          obtain ⟨wp, hwp⟩ : ∃ wp : World, wp = wr := ⟨_, rfl⟩
          rw [← hwp] at HSE HL5 B5 ⊢
          clear hwp HS
          go_loopw [13, 14] (fun sv kv wq => ∃ (k gl n c : Nat), sv = .slice (some ⟨gl, 0, none⟩) n c ∧ kv = .int .i64 (k : Int) ∧ k ≤ ns ∧ Hid (OM wq wp.heap.size (.slice (some ⟨gl, 0, none⟩) n c) ((S.take k).filter (fun x => decide (x.2 ≠ 0))) ∧ Below wp.heap.size wp wq)) (fun _ kv _ => ns - (intOf kv).toNat)
          case atStart => exact ⟨0, _, _, _, rfl, rfl, Nat.zero_le _, HL5.out, B5.out⟩
          case round =>
            obtain ⟨k, gl, nl, cl, rfl, rfl, hk, HR⟩ := hrel
            by_cases hkk : k < ns
            · have HOS : Hid (OM wr wo.heap.size (.slice (some ⟨gs, 0, none⟩) ns cs) S) := HSE.out.1.below HR.out.2
              obtain ⟨x1, x2⟩ := HOS.out.cell (k := k) (by have := HLS.out; omega)
              obtain ⟨pk, hpk⟩ : ∃ p, p = (nthM S k).1 := ⟨_, rfl⟩
              obtain ⟨qk, hqk⟩ : ∃ p, p = (nthM S k).2 := ⟨_, rfl⟩
              rw [← hpk] at x1
              rw [← hqk] at x2
              have htk : Hid ((S.take (k + 1)).filter (fun x => decide (x.2 ≠ 0)) = (S.take k).filter (fun x => decide (x.2 ≠ 0)) ++ (if qk = 0 then [] else [(pk, qk)])) := by
                show _ = _
                rw [takeK (by have := HLS.out; omega), List.filter_append]
                congr 1
                by_cases h : qk = 0
                · rw [if_pos h, List.filter_cons_of_neg (by rw [← hqk]; simpa using h)]; rfl
                · rw [if_neg h, List.filter_cons_of_pos (by rw [← hqk]; simpa using h), hpk, hqk]; rfl
              have HLEN : Hid (((S.take k).filter (fun x => decide (x.2 ≠ 0))).length + 1 ≤ 1000000000000) := by
                have h1 := List.length_filter_le (fun x : Int × Int => decide (x.2 ≠ 0)) (S.take k)
                rw [List.length_take] at h1
                show _ ≤ _
                omega
              have HNS : Hid (wp.heap.size ≤ wr.heap.size) := HR.out.2.size
              clear hpk hqk
              by_cases hq0 : qk = 0
              · subst hq0
                go_wp2
                go_roundw
                case rel => exact ⟨k + 1, gl, nl, cl, rfl, by go_num, by omega, by rw [htk.out, if_pos rfl, List.append_nil]; exact HR.out.1, HR.out.2⟩
                case measure => simp [intOf]; omega
              · have hq1 : (qk == 0) = false := by simpa using hq0
                go_wp2_with (at_builtin; refine wpAppM1 rfl _ _ rfl wp.heap.size (.slice (some ⟨gl, 0, none⟩) nl cl) ((S.take k).filter (fun x => decide (x.2 ≠ 0))) pk qk rfl rfl HR.out.1 HLEN.out HNS.out ?_; intro A6 n6 c6 w6 o6 g6 k6)
                have hlen := o6.len
                obtain ⟨g', rfl, -⟩ := o6.shape (by rw [← hlen, List.length_append, List.length_singleton]; omega)
                have HF : Hid (OM w6 wp.heap.size (.slice (some ⟨g', 0, none⟩) n6 c6) ((S.take (k + 1)).filter (fun x => decide (x.2 ≠ 0))) ∧ Below wp.heap.size wp w6) := by
                  refine ⟨by rw [htk.out, if_neg hq0]; exact o6, (HR.out.2.alloc HNS.out _).grown g6 (by simp; exact Nat.le_succ_of_le HNS.out) fun k hk => (HR.out.1.lt k hk).1⟩
                clear o6 g6 k6 hlen
                go_roundw
                case rel => exact ⟨k + 1, g', n6, c6, rfl, by go_num, by omega, HF.out⟩
                case measure => simp [intOf]; omega
            · have HF : Hid (MakesM w (gatherK L) (.returned (.slice (some ⟨gl, 0, none⟩) nl cl)) wr) := by
                obtain ⟨a1, a2⟩ := HR.out
                rw [List.take_of_length_le (by have := HLS.out; omega), HSE.out.2.2] at a1
                have hb1 := HX.out.2.2.2
                have hb2 := hb1.trans (HSE.out.2.1.mono hb1.size)
                exact ⟨gl, nl, cl, rfl, a1.mono hb2.size, hb2.trans (a2.mono hb2.size)⟩
              go_wp2
              go_ret
              exact HF.out
end Go.Proofs.Ytgbojgmmingfdaa
