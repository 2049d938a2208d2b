/- l2Times of the reference, by one monomial. -/
import Derived.Test.YtgbojgmmingfdaaKeyS
import Derived.Test.YtgbojgmmingfdaaShutW
namespace Go.Proofs.Ytgbojgmmingfdaa
open Go.RowKit

def mulU (U : Int) (F : List (Int × Int)) : List (Int × Int) := F.map fun x => (x.1 + U, x.2)
theorem mulU_len (U : Int) (F : List (Int × Int)) : (mulU U F).length = F.length := by simp [mulU]
theorem mulU_abs (U : Int) (F : List (Int × Int)) : absK (mulU U F) = absK F := by unfold mulU absK; rw [List.map_map]; rfl
theorem mulU_take {U : Int} {F : List (Int × Int)} {k : Nat} (h : k < F.length) : (mulU U F).take (k + 1) = (mulU U F).take k ++ [((nthM F k).1 + U, (nthM F k).2)] := by
  have h' : k < (mulU U F).length := by rw [mulU_len]; exact h
  rw [takeK h']
  congr 2
  have e : nthM (mulU U F) k = ((F[k]).1 + U, (F[k]).2) := by
    rw [nthM_lt h']
    exact List.getElem_map ..
  rw [e, nthM_lt h]
set_option maxRecDepth 100000 in
set_option maxHeartbeats 4000000 in
theorem l2TimesU_any {w : World} {bs bu gs ns cs gu cu : Nat} {F : List (Int × Int)} {U : Int} (hF : OM w bs (.slice (some ⟨gs, 0, none⟩) ns cs) F) (hU : OM w bu (.slice (some ⟨gu, 0, none⟩) 1 cu) [(U, 1)])
    (hk : ∀ x ∈ F, 0 ≤ x.1 ∧ x.1 ≤ 1000000000000000000) (hUb : 0 ≤ U ∧ U ≤ 1000000000000000000) (hab : absK F ≤ 1000000000000000000) (hn : F.length ≤ 100000000) :
    Calls Try.prog 174 #[.slice (some ⟨gs, 0, none⟩) ns cs, .slice (some ⟨gu, 0, none⟩) 1 cu] w (MakesM w (gatherK (mulU U F))) := by
  have HLn : Hid (F.length = ns) := hF.len
  have hns : ns ≤ 100000000 := by rw [← HLn.out]; exact hn
  have HF := Lib.hid hF
  have HU := Lib.hid hU
  have HK := Lib.hid hk
  have HAB := Lib.hid hab
  have HN := Lib.hid hn
  have hmw : IntKind.i64.wrap (ns : Int) = (ns : Int) := IntWalk.i64_in _ (by omega)
  have hmw1 : IntKind.i64.wrap ((ns : Int) * 1) = (ns : Int) := by rw [Int.mul_one]; exact hmw
  clear hF hU hk hab hn
  go_enter Try.func174, Try.ntmps174
  go_wp2_with (first | (refine wpMakeM rfl _ _ rfl ns (ns : Int) rfl rfl rfl (by omega) ?_; intro w1 o1 b1) | fail)
  have HO1 := Lib.hid o1
  have HB1 : Hid (Below w.heap.size w w1) := b1
  clear o1 b1
  go_wp2_with fail
  go_loopw [5, 6, 7] (fun ov iv _ wr => ∃ (i go no co : Nat), ov = .slice (some ⟨go, 0, none⟩) no co ∧ iv = .int .i64 (i : Int) ∧ i ≤ ns ∧ Hid (OM wr w.heap.size (.slice (some ⟨go, 0, none⟩) no co) ((mulU U F).take i) ∧ Below w.heap.size w wr)) (fun _ iv _ _ => ns - (intOf iv).toNat)
  case atStart => exact ⟨0, _, _, _, rfl, rfl, Nat.zero_le _, by simpa using HO1.out, HB1.out⟩
  case round =>
    obtain ⟨i, go, no, co, rfl, rfl, hi, HX⟩ := hrel
    by_cases hlt : i < ns
    · obtain ⟨wo, hwo⟩ : ∃ wo : World, wo = wr := ⟨_, rfl⟩
      rw [← hwo] at HX ⊢
      clear hwo
      go_wp2_with fail
      go_loopw [5, 7] (fun ov jv wq => ∃ (j go no co : Nat), ov = .slice (some ⟨go, 0, none⟩) no co ∧ jv = .int .i64 (j : Int) ∧ j ≤ 1 ∧ Hid (OM wq w.heap.size (.slice (some ⟨go, 0, none⟩) no co) ((mulU U F).take (i + j)) ∧ Below w.heap.size w wq)) (fun _ jv _ => 1 - (intOf jv).toNat)
      case atStart => exact ⟨0, go, no, co, rfl, rfl, by omega, HX.out⟩
      case round =>
        obtain ⟨j, go, no, co, rfl, rfl, hj, HJ⟩ := hrel
        by_cases hj1 : j < 1
        · obtain rfl : j = 0 := by omega
          obtain ⟨x1, x2⟩ := (HF.out.below HJ.out.2).cell (k := i) (by rw [HLn.out]; exact hlt)
          obtain ⟨y1, y2⟩ := (HU.out.below HJ.out.2).cell (k := 0) (by simp)
          have y1' : wr.cell? ⟨gu, 0, none⟩ = some (.int .i64 U) := y1
          have y2' : wr.cell? ⟨gu, 1, none⟩ = some (.int .i64 1) := y2
          obtain ⟨p, hp⟩ : ∃ p, p = (nthM F i).1 := ⟨_, rfl⟩
          obtain ⟨q, hq⟩ : ∃ p, p = (nthM F i).2 := ⟨_, rfl⟩
          rw [← hp] at x1
          rw [← hq] at x2
          have hmem : nthM F i ∈ F := by rw [nthM_lt (by rw [HLn.out]; exact hlt)]; exact List.getElem_mem _
          have hpb : 0 ≤ p ∧ p ≤ 1000000000000000000 := by rw [hp]; exact HK.out _ hmem
          have hqb : q.natAbs ≤ 1000000000000000000 := by rw [hq]; exact Nat.le_trans (absK_mem hmem) HAB.out
          obtain ⟨K, hK⟩ : ∃ x, x = p + U := ⟨_, rfl⟩
          have hw1 : IntKind.i64.wrap (p + U) = K := by rw [← hK]; exact IntWalk.i64_in _ (by omega)
          have hw2 : IntKind.i64.wrap q = q := IntWalk.i64_in _ (by omega)
          have hw3 : IntKind.i64.wrap (q * 1) = q := by rw [Int.mul_one]; exact hw2
          have HNW : Hid ((mulU U F).take (i + 0) ++ [(K, q)] = (mulU U F).take (i + 1)) := by
            show _ = _
            rw [mulU_take (by rw [HLn.out]; exact hlt), ← hp, ← hq, hK]; rfl
          have HXX : Hid (wr.cell? ⟨gs, i * 2, none⟩ = some (.int .i64 p) ∧ wr.cell? ⟨gs, i * 2 + 1, none⟩ = some (.int .i64 q) ∧ wr.cell? ⟨gu, 0, none⟩ = some (.int .i64 U) ∧ wr.cell? ⟨gu, 1, none⟩ = some (.int .i64 1)) := ⟨x1, x2, y1', y2'⟩
          have HXA : Hid (∀ (nq : Nat) (o : Obj), ((wr.drewN nq).alloc o).cell? ⟨gs, i * 2, none⟩ = some (.int .i64 p) ∧ ((wr.drewN nq).alloc o).cell? ⟨gs, i * 2 + 1, none⟩ = some (.int .i64 q) ∧ ((wr.drewN nq).alloc o).cell? ⟨gu, 0, none⟩ = some (.int .i64 U) ∧ ((wr.drewN nq).alloc o).cell? ⟨gu, 1, none⟩ = some (.int .i64 1)) := fun nq o => by
            have b := (below_drewN (Below.refl wr.heap.size wr) nq).alloc (Nat.le_refl _) o
            exact ⟨one_cell b x1, one_cell b x2, one_cell b y1', one_cell b y2'⟩
          have HKF : Hid (∀ (nq : Nat) (o : Obj) (W : World), ((wr.drewN nq).alloc o).grownBy W (Value.slice (some ⟨go, 0, none⟩) no co).ownBlock → Below w.heap.size w W ∧ W.cell? ⟨gs, i * 2, none⟩ = some (.int .i64 p) ∧ W.cell? ⟨gs, i * 2 + 1, none⟩ = some (.int .i64 q) ∧ W.cell? ⟨gu, 0, none⟩ = some (.int .i64 U) ∧ W.cell? ⟨gu, 1, none⟩ = some (.int .i64 1)) := fun nq o W hg => by
            have b := (below_drewN (Below.refl wr.heap.size wr) nq).alloc (Nat.le_refl _) o
            have h0 : Below w.heap.size w W := (HJ.out.2.trans (b.mono HJ.out.2.size)).grown hg (HJ.out.2.trans (b.mono HJ.out.2.size)).size fun k hk => by
              simp [Value.ownBlock] at hk
              rw [← hk]; exact (HJ.out.1.lt go rfl).1
            obtain ⟨a1, a2⟩ := (HF.out.below h0).cell (k := i) (by rw [HLn.out]; exact hlt)
            obtain ⟨a3, a4⟩ := (HU.out.below h0).cell (k := 0) (by simp)
            rw [← hp] at a1
            rw [← hq] at a2
            exact ⟨h0, a1, a2, a3, a4⟩
          have HLN : Hid (((mulU U F).take (i + 0)).length + 1 ≤ 1000000000000) := by
            show _ ≤ _
            have h1 := HN.out
            rw [List.length_take, mulU_len]; omega
          have HOJ := Lib.hid HJ.out.1
          have HSJ : Hid (w.heap.size ≤ wr.heap.size) := HJ.out.2.size
          obtain ⟨Lj, hLj⟩ : ∃ Lj, Lj = (mulU U F).take (i + 0) := ⟨_, rfl⟩
          rw [← hLj] at HNW HLN HOJ
          have hi0 : (0 : Int) ≤ (i : Int) := by omega
          clear hp hq hK hmem y1 y2 hLj
          go_wp2_with fail
          go_region_held3 (fun w' => w'.cell? ⟨gs, i * 2, none⟩ = some (.int .i64 p) ∧ w'.cell? ⟨gs, i * 2 + 1, none⟩ = some (.int .i64 q) ∧ w'.cell? ⟨gu, 0, none⟩ = some (.int .i64 U) ∧ w'.cell? ⟨gu, 1, none⟩ = some (.int .i64 1)) (first | exact HXX.out | exact HXA.out _ _ | exact hkf.2 | fail) (first
            | (refine stepAppM1 (w0 := wr.drewN 1) rfl _ _ rfl w.heap.size (.slice (some ⟨go, 0, none⟩) no co) Lj K q rfl rfl (HOJ.out.below ⟨rfl, rfl, rfl, Nat.le_refl _, fun _ _ => rfl⟩) HLN.out HSJ.out ?_; intro A6 n6 c6 w6 o6 g6 k6; have hkf := HKF.out 1 _ _ g6)
            | (refine stepAppM1 (w0 := wr.drewN 0) rfl _ _ rfl w.heap.size (.slice (some ⟨go, 0, none⟩) no co) Lj K q rfl rfl (HOJ.out.below ⟨rfl, rfl, rfl, Nat.le_refl _, fun _ _ => rfl⟩) HLN.out HSJ.out ?_; intro A6 n6 c6 w6 o6 g6 k6; have hkf := HKF.out 0 _ _ g6)
            | fail)
          go_wp2
          have HFN : Hid (∃ g', A6 = some ⟨g', 0, none⟩ ∧ OM w6 w.heap.size (.slice (some ⟨g', 0, none⟩) n6 c6) ((mulU U F).take (i + 1)) ∧ Below w.heap.size w w6) := by
            have hlen := o6.len
            obtain ⟨g', rfl, -, hlt6⟩ := o6.shape (by rw [← hlen, List.length_append, List.length_singleton]; omega)
            refine ⟨g', rfl, ?_, ?_⟩
            · rw [← HNW.out]; exact o6
            · exact hkf.1
          clear o6 g6 k6 hkf
          obtain ⟨g', rfl, hf⟩ := HFN.out
          have HF' := Lib.hid hf
          clear hf HFN
          go_roundw
          case rel => exact ⟨1, g', n6, c6, rfl, rfl, by omega, HF'.out⟩
          case measure => simp [intOf]
        · have HJ2 : Hid (OM wr w.heap.size (.slice (some ⟨go, 0, none⟩) no co) ((mulU U F).take (i + 1)) ∧ Below w.heap.size w wr) := by
            obtain rfl : j = 1 := by omega
            exact HJ.out
          go_wp2_with fail
          go_roundw
          case rel => exact ⟨i + 1, go, no, co, rfl, by go_num, by omega, HJ2.out⟩
          case measure => simp [intOf]; omega
    · have HFI : Hid (OM wr w.heap.size (.slice (some ⟨go, 0, none⟩) no co) (mulU U F)) := by
        have h := HX.out.1
        rw [List.take_of_length_le (by rw [mulU_len, HLn.out]; omega)] at h
        exact h
      have HGA : Hid (Calls Try.prog 132 #[.slice (some ⟨go, 0, none⟩) no co] wr (MakesM wr (gatherK (mulU U F)))) := l2Gather_any HFI.out (by rw [mulU_len]; have := HN.out; omega) (by rw [mulU_abs]; exact HAB.out)
      go_wp2_with (first | (go_at_call 132; refine HGA.out.mono ?_; rintro e w4 ⟨g4, n4, c4, rfl, o4, b4⟩) | fail)
      go_ret
      exact ⟨g4, n4, c4, rfl, o4.mono HX.out.2.size, HX.out.2.trans (b4.mono HX.out.2.size)⟩
end Go.Proofs.Ytgbojgmmingfdaa

/- l2Divided of the reference. -/
namespace Go.Proofs.Ytgbojgmmingfdaa
open Go.RowKit

def rsK (i : Nat) (k : Int) : Int := k - atK k i * 128 ^ i - atK k (i + 1) * 128 ^ (i + 1)
def loK (i : Nat) (k : Int) : Int := min (atK k i) (atK k (i + 1))
def nK (i : Nat) (k : Int) : Nat := (atK k i - atK k (i + 1)).natAbs
def cK (i : Nat) (x : Int × Int) : Int := if atK x.1 i - atK x.1 (i + 1) < 0 then 0 - x.2 else x.2
def dvK (i : Nat) (x : Int × Int) (m : Nat) : List (Int × Int) := (List.range m).map fun j : Nat => (rsK i x.1 + (loK i x.1 + (nK i x.1 : Int) - 1 - j) * 128 ^ i + (loK i x.1 + j) * 128 ^ (i + 1), cK i x)
def dvKT (i : Nat) (x : Int × Int) : List (Int × Int) := dvK i x (nK i x.1)
def divKK (i : Nat) (L : List (Int × Int)) : List (Int × Int) := L.flatMap (dvKT i)
theorem dvK_succ (i : Nat) (x : Int × Int) (m : Nat) : dvK i x (m + 1) = dvK i x m ++ [(rsK i x.1 + (loK i x.1 + (nK i x.1 : Int) - 1 - m) * 128 ^ i + (loK i x.1 + m) * 128 ^ (i + 1), cK i x)] := by simp [dvK, List.range_succ]
theorem dvK_len (i : Nat) (x : Int × Int) (m : Nat) : (dvK i x m).length = m := by simp [dvK]
theorem atK_in (k : Int) (i : Nat) : 0 ≤ atK k i ∧ atK k i ≤ 127 := by unfold atK; omega
set_option maxRecDepth 100000 in
set_option maxHeartbeats 4000000 in
theorem l2Divided_any {w : World} {bs gs ns cs : Nat} {F : List (Int × Int)} (i : Nat) (hi : i ≤ 5) (hF : OM w bs (.slice (some ⟨gs, 0, none⟩) ns cs) F)
    (hk : ∀ x ∈ F, 0 ≤ x.1 ∧ x.1 ≤ 562949953421311) (hab : absK (divKK i F) ≤ 1000000000000000000) (hn : (divKK i F).length ≤ 1000000000) (hnF : F.length ≤ 100000000) (habF : absK F ≤ 1000000000000000000) :
    Calls Try.prog 173 #[.slice (some ⟨gs, 0, none⟩) ns cs, .int .i64 (i : Int)] w (MakesM w (gatherK (divKK i F))) := by
  have HLn : Hid (F.length = ns) := hF.len
  have hns : ns ≤ 100000000 := by rw [← HLn.out]; exact hnF
  have HF := Lib.hid hF
  have HK := Lib.hid hk
  have HAB := Lib.hid hab
  have HABF := Lib.hid habF
  have HN := Lib.hid hn
  have HI := Lib.hid hi
  obtain ⟨U0, hU0⟩ : ∃ U : Int, U = 128 ^ i := ⟨_, rfl⟩
  obtain ⟨U1, hU1⟩ : ∃ U : Int, U = 128 ^ (i + 1) := ⟨_, rfl⟩
  have hub : 1 ≤ U0 ∧ U0 ≤ 34359738368 ∧ 1 ≤ U1 ∧ U1 ≤ 4398046511104 := by
    rw [hU0, hU1]
    have : i = 0 ∨ i = 1 ∨ i = 2 ∨ i = 3 ∨ i = 4 ∨ i = 5 := by omega
    rcases this with rfl | rfl | rfl | rfl | rfl | rfl <;> decide
  have HUU : Hid (U0 = 128 ^ i ∧ U1 = 128 ^ (i + 1)) := ⟨hU0, hU1⟩
  have HUN0 : Hid (∀ W, Calls Try.prog 131 #[.int .i64 (i : Int)] W (Gives W (.int .i64 U0))) := fun W => by
    have h := l2Unit_any (w := W) (i : Int) (by omega)
    rw [Int.toNat_natCast, ← hU0] at h
    exact h
  have HUN1 : Hid (∀ W, Calls Try.prog 131 #[.int .i64 ((i : Int) + 1)] W (Gives W (.int .i64 U1))) := fun W => by
    have h := l2Unit_any (w := W) ((i : Int) + 1) (by omega)
    rw [show ((i : Int) + 1).toNat = i + 1 by omega, ← hU1] at h
    exact h
  have hwi : IntKind.i64.wrap ((i : Int) + 1) = (i : Int) + 1 := IntWalk.i64_in _ (by omega)
  obtain ⟨w1, e1⟩ : ∃ W, W = w.alloc (.cells #[] 120) := ⟨_, rfl⟩
  have HO1 : Hid (OM w1 w.heap.size (.slice (some ⟨w.heap.size, 0, none⟩) 0 0) []) := by rw [e1]; exact OM.lit w _ (Nat.le_refl _)
  have HB1 : Hid (Below w.heap.size w w1) := by rw [e1]; exact (Below.refl _ _).alloc (Nat.le_refl _) _
  have E1 := Lib.hid e1
  clear hF hk hab hn hnF habF hU0 hU1 e1
  go_enter Try.func173, Try.ntmps173
  go_wp2_with fail
  rw [← E1.out]
  go_loopw [5, 6, 7, 8, 9, 10, 11, 12, 13] (fun ov kv _ _ _ _ _ _ _ wr => ∃ (k go no co : Nat), ov = .slice (some ⟨go, 0, none⟩) no co ∧ kv = .int .i64 (k : Int) ∧ k ≤ ns ∧ Hid (OM wr w.heap.size (.slice (some ⟨go, 0, none⟩) no co) (divKK i (F.take k)) ∧ Below w.heap.size w wr)) (fun _ kv _ _ _ _ _ _ _ _ => ns - (intOf kv).toNat)
  case atStart => exact ⟨0, _, _, _, rfl, rfl, Nat.zero_le _, by simpa [divKK] using HO1.out, HB1.out⟩
  case round =>
    obtain ⟨k, go, no, co, rfl, rfl, hk, HX⟩ := hrel
    by_cases hlt : k < ns
    · obtain ⟨x1, x2⟩ := (HF.out.below HX.out.2).cell (k := k) (by rw [HLn.out]; exact hlt)
      have hmem : nthM F k ∈ F := by rw [nthM_lt (by rw [HLn.out]; exact hlt)]; exact List.getElem_mem _
      have htk : F.take (k + 1) = F.take k ++ [nthM F k] := takeK (by rw [HLn.out]; exact hlt)
      obtain ⟨X, hX⟩ : ∃ X, X = nthM F k := ⟨_, rfl⟩
      rw [← hX] at x1 x2 hmem htk
      have hpb := HK.out X hmem
      have hqb : X.2.natAbs ≤ 1000000000000000000 := Nat.le_trans (absK_mem hmem) HABF.out
      obtain ⟨p, q⟩ := X
      simp only at x1 x2 hpb hqb
      have HTK : Hid (F.take (k + 1) = F.take k ++ [(p, q)]) := htk
      have HMEM : Hid ((p, q) ∈ F) := hmem
      obtain ⟨a, ha⟩ : ∃ a, a = atK p i := ⟨_, rfl⟩
      obtain ⟨b, hb⟩ : ∃ a, a = atK p (i + 1) := ⟨_, rfl⟩
      have hab0 := atK_in p i
      have hbb0 := atK_in p (i + 1)
      rw [← ha] at hab0
      rw [← hb] at hbb0
      have HAA : Hid (a = atK p i ∧ b = atK p (i + 1)) := ⟨ha, hb⟩
      have HAT0 : Hid (∀ W, Calls Try.prog 194 #[.int .i64 p, .int .i64 (i : Int)] W (Gives W (.int .i64 a))) := fun W => by rw [ha]; exact l2At_any p i (by omega) (by omega)
      have HAT1 : Hid (∀ W, Calls Try.prog 194 #[.int .i64 p, .int .i64 ((i : Int) + 1)] W (Gives W (.int .i64 b))) := fun W => by rw [hb]; exact l2At_any p (i + 1) (by omega) (by omega)
      obtain ⟨A0, hA0⟩ : ∃ z, z = a * U0 := ⟨_, rfl⟩
      obtain ⟨B0, hB0⟩ : ∃ z, z = b * U1 := ⟨_, rfl⟩
      have hA0b : 0 ≤ A0 ∧ A0 ≤ 4398046511104 := by
        rw [hA0]
        have h1 : a * U0 ≤ 127 * U0 := Int.mul_le_mul_of_nonneg_right hab0.2 (by omega)
        exact ⟨Int.mul_nonneg hab0.1 (by omega), by omega⟩
      have hB0b : 0 ≤ B0 ∧ B0 ≤ 562949953421312 := by
        rw [hB0]
        have h1 : b * U1 ≤ 127 * U1 := Int.mul_le_mul_of_nonneg_right hbb0.2 (by omega)
        exact ⟨Int.mul_nonneg hbb0.1 (by omega), by omega⟩
      have hw1 : IntKind.i64.wrap (a * U0) = A0 := by rw [← hA0]; exact IntWalk.i64_in _ (by omega)
      have hw2 : IntKind.i64.wrap (p - A0) = p - A0 := IntWalk.i64_in _ (by omega)
      have hw3 : IntKind.i64.wrap (b * U1) = B0 := by rw [← hB0]; exact IntWalk.i64_in _ (by omega)
      obtain ⟨R, hR⟩ : ∃ R, R = p - A0 - B0 := ⟨_, rfl⟩
      have hRb : -600000000000000 ≤ R ∧ R ≤ 600000000000000 := by omega
      have hw4 : IntKind.i64.wrap (p - A0 - B0) = R := by rw [← hR]; exact IntWalk.i64_in _ (by omega)
      have hw5 : IntKind.i64.wrap (a - b) = a - b := IntWalk.i64_in _ (by omega)
      have HRS : Hid (R = rsK i p) := by
        show _ = _
        rw [hR, rsK, hA0, hB0, ha, hb, HUU.out.1, HUU.out.2]
      have X1 := Lib.hid x1
      have X2 := Lib.hid x2
      clear ha hb hA0 hB0 htk hmem hX hR
      go_wp2_with (first
        | (go_at_call 194; (with_reducible refine (HAT0.out _).mono ?_); rintro e w2 ⟨rfl, q2, rfl⟩)
        | (go_at_call 194; (with_reducible refine (HAT1.out _).mono ?_); rintro e w2 ⟨rfl, q3, rfl⟩)
        | fail)
      clear HAT0 HAT1
      go_quiet (first | (go_at_call 131; first | (with_reducible exact qcall (HUN0.out _)) | (with_reducible exact qcall_add (HUN0.out _)) | (with_reducible exact qcall (HUN1.out _)) | (with_reducible exact qcall_add (HUN1.out _))))
      clear hw1 hw2 hw3 hw4 hA0b hB0b
      obtain ⟨lo, hlo⟩ : ∃ lo, lo = min a b := ⟨_, rfl⟩
      obtain ⟨D, hD⟩ : ∃ D : Nat, D = (a - b).natAbs := ⟨_, rfl⟩
      obtain ⟨C, hC⟩ : ∃ C, C = if a - b < 0 then 0 - q else q := ⟨_, rfl⟩
      have hlob : 0 ≤ lo ∧ lo + (D : Int) ≤ 127 := by omega
      have HPK : Hid (loK i p = lo ∧ nK i p = D ∧ cK i (p, q) = C) := by
        refine ⟨?_, ?_, ?_⟩
        · rw [loK, ← HAA.out.1, ← HAA.out.2, hlo]
        · rw [nK, ← HAA.out.1, ← HAA.out.2, hD]
        · rw [cK]; simp only; rw [← HAA.out.1, ← HAA.out.2, hC]
      have hmin : min a b = lo := hlo.symm
      have HLO := Lib.hid hlo
      clear hlo
      rcases Int.lt_or_le a b with hlt2 | hlt2
      · obtain ⟨d, hd⟩ : ∃ d, d = a - b := ⟨_, rfl⟩
        have hd0 : decide (d < 0) = true := decide_eq_true (by omega)
        have hw6 : IntKind.i64.wrap (0 - d) = (D : Int) := by rw [show 0 - d = (D : Int) by omega]; exact IntWalk.i64_in _ (by omega)
        have hw6b : IntKind.i64.wrap (-d) = (D : Int) := by rw [show - d = (D : Int) by omega]; exact IntWalk.i64_in _ (by omega)
        have hw7 : IntKind.i64.wrap (0 - q) = C := by rw [hC, if_pos (by omega)]; exact IntWalk.i64_in _ (by omega)
        have hw7b : IntKind.i64.wrap (-q) = C := by rw [hC, if_pos (by omega), show 0 - q = -q by omega]; exact IntWalk.i64_in _ (by omega)
        rw [show a - b = d from hd.symm] at hw5
        have hw5' : IntKind.i64.wrap (a - b) = d := by rw [← hd]; exact hw5
        have HDD : Hid (d = a - b ∧ a < b) := ⟨hd, hlt2⟩
        clear hd hC hD hlt2
        go_wp2_with fail
        go_loopw [5, 13] (fun ov jv wq => ∃ (j go no co : Nat), ov = .slice (some ⟨go, 0, none⟩) no co ∧ jv = .int .i64 (j : Int) ∧ j ≤ D ∧ Hid (OM wq w.heap.size (.slice (some ⟨go, 0, none⟩) no co) (divKK i (F.take k) ++ dvK i (p, q) j) ∧ Below w.heap.size w wq)) (fun _ jv _ => D - (intOf jv).toNat)
        case atStart => exact ⟨0, go, no, co, rfl, rfl, Nat.zero_le _, by simpa [dvK] using HX.out.1.below (below_drewN (Below.refl _ _) _), below_drewN HX.out.2 _⟩
        case round =>
          obtain ⟨j, go, no, co, rfl, rfl, hj, HJ⟩ := hrel
          by_cases hjD : j < D
          · obtain ⟨S, hS⟩ : ∃ S, S = lo + (D : Int) - 1 - (j : Int) := ⟨_, rfl⟩
            obtain ⟨V, hV⟩ : ∃ S, S = lo + (j : Int) := ⟨_, rfl⟩
            obtain ⟨SU, hSU⟩ : ∃ z, z = S * U0 := ⟨_, rfl⟩
            obtain ⟨VU, hVU⟩ : ∃ z, z = V * U1 := ⟨_, rfl⟩
            obtain ⟨K1, hK1⟩ : ∃ z, z = R + SU := ⟨_, rfl⟩
            obtain ⟨K, hK⟩ : ∃ z, z = K1 + VU := ⟨_, rfl⟩
            have hSUb : 0 ≤ SU ∧ SU ≤ 4398046511104 := by
              rw [hSU]
              have h1 : S * U0 ≤ 127 * U0 := Int.mul_le_mul_of_nonneg_right (by omega) (by omega)
              exact ⟨Int.mul_nonneg (by omega) (by omega), by omega⟩
            have hVUb : 0 ≤ VU ∧ VU ≤ 562949953421312 := by
              rw [hVU]
              have h1 : V * U1 ≤ 127 * U1 := Int.mul_le_mul_of_nonneg_right (by omega) (by omega)
              exact ⟨Int.mul_nonneg (by omega) (by omega), by omega⟩
            have w8 : IntKind.i64.wrap (lo + (D : Int)) = lo + (D : Int) := IntWalk.i64_in _ (by omega)
            have w9 : IntKind.i64.wrap (lo + (D : Int) - 1) = lo + (D : Int) - 1 := IntWalk.i64_in _ (by omega)
            have w10 : IntKind.i64.wrap (lo + (D : Int) - 1 - (j : Int)) = S := by rw [← hS]; exact IntWalk.i64_in _ (by omega)
            have w11 : IntKind.i64.wrap (S * U0) = SU := by rw [← hSU]; exact IntWalk.i64_in _ (by omega)
            have w12 : IntKind.i64.wrap (R + SU) = K1 := by rw [← hK1]; exact IntWalk.i64_in _ (by omega)
            have w13 : IntKind.i64.wrap (lo + (j : Int)) = V := by rw [← hV]; exact IntWalk.i64_in _ (by omega)
            have w14 : IntKind.i64.wrap (V * U1) = VU := by rw [← hVU]; exact IntWalk.i64_in _ (by omega)
            have w15 : IntKind.i64.wrap (K1 + VU) = K := by rw [← hK]; exact IntWalk.i64_in _ (by omega)
            have hjlt : decide ((j : Int) < (D : Int)) = true := decide_eq_true (by omega)
            have HNW : Hid ((divKK i (F.take k) ++ dvK i (p, q) j) ++ [(K, C)] = divKK i (F.take k) ++ dvK i (p, q) (j + 1)) := by
              show _ = _
              rw [dvK_succ, HPK.out.1, HPK.out.2.1, HPK.out.2.2, ← HRS.out, ← HUU.out.1, ← HUU.out.2, List.append_assoc, hK, hK1, hSU, hVU, hS, hV]
            have HLE : Hid ((divKK i (F.take k) ++ dvK i (p, q) j).length + 1 ≤ 1000000000000) := by
              show _ ≤ _
              have h1 := HN.out
              have h2 : divKK i F = divKK i (F.take (k + 1)) ++ divKK i (F.drop (k + 1)) := by
                unfold divKK
                rw [← List.flatMap_append, List.take_append_drop]
              have h3 : divKK i (F.take (k + 1)) = divKK i (F.take k) ++ dvKT i (p, q) := by rw [HTK.out]; unfold divKK; rw [List.flatMap_append]; simp
              rw [h2, h3, List.length_append, List.length_append, dvKT, dvK_len, HPK.out.2.1] at h1
              rw [List.length_append, dvK_len]
              omega
            have HOJ := Lib.hid HJ.out.1
            have HSJ : Hid (w.heap.size ≤ wr.heap.size) := HJ.out.2.size
            obtain ⟨Lj, hLj⟩ : ∃ Lj, Lj = divKK i (F.take k) ++ dvK i (p, q) j := ⟨_, rfl⟩
            rw [← hLj] at HNW HLE HOJ
            clear hS hV hSU hVU hK1 hK hLj hSUb hVUb
            go_wp2_with (first
              | (go_at_call 131; (with_reducible refine (HUN0.out _).mono ?_); rintro e w8 ⟨rfl, q8, rfl⟩)
              | (go_at_call 131; (with_reducible refine (HUN1.out _).mono ?_); rintro e w8 ⟨rfl, q9, rfl⟩)
              | (at_builtin; refine wpAppM1 rfl _ _ rfl w.heap.size (.slice (some ⟨go, 0, none⟩) no co) Lj K C rfl rfl (HOJ.out.below (by first | exact below_drewN (Below.refl _ _) _ | exact below_drewN (below_drewN (Below.refl _ _) _) _)) HLE.out (by first | exact HSJ.out | (simp; exact HSJ.out)) ?_; intro A6 n6 c6 w6 o6 g6 k6)
              | fail)
            have HFN : Hid (∃ g', A6 = some ⟨g', 0, none⟩ ∧ OM w6 w.heap.size (.slice (some ⟨g', 0, none⟩) n6 c6) (divKK i (F.take k) ++ dvK i (p, q) (j + 1)) ∧ Below w.heap.size w w6) := by
              have hlen := o6.len
              have hbel : Below w.heap.size w w6 := ((below_drewN HJ.out.2 _).alloc (by have := HSJ.out; simp; omega) _).grown g6 (by have := HSJ.out; simp; omega) (fun k hk => by
                simp [Value.ownBlock] at hk
                rw [← hk]; exact (HJ.out.1.lt go rfl).1)
              obtain ⟨g', rfl, -, hlt6⟩ := o6.shape (by rw [← hlen, List.length_append, List.length_singleton]; omega)
              refine ⟨g', rfl, ?_, hbel⟩
              rw [← HNW.out]; exact o6
            clear o6 g6 k6
            obtain ⟨g', rfl, hf⟩ := HFN.out
            have HF' := Lib.hid hf
            clear hf HFN
            exact ⟨⟨j + 1, g', n6, c6, rfl, rfl, hjD, HF'.out⟩, by simp [intOf]; omega⟩
          · have hjlt : decide ((j : Int) < (D : Int)) = false := decide_eq_false (by omega)
            have HJ2 : Hid (OM wr w.heap.size (.slice (some ⟨go, 0, none⟩) no co) (divKK i (F.take (k + 1))) ∧ Below w.heap.size w wr) := by
              obtain rfl : j = D := by omega
              refine ⟨?_, HJ.out.2⟩
              have h3 : divKK i (F.take (k + 1)) = divKK i (F.take k) ++ dvKT i (p, q) := by rw [HTK.out]; unfold divKK; rw [List.flatMap_append]; simp
              rw [h3, dvKT, HPK.out.2.1]
              exact HJ.out.1
            go_wp2_with fail
            go_roundw
            case rel => exact ⟨k + 1, go, no, co, rfl, by go_num, by omega, HJ2.out⟩
            case measure => simp [intOf]; omega
      · have hd0 : decide ((D : Int) < 0) = false := decide_eq_false (by omega)
        have hw5' : IntKind.i64.wrap (a - b) = (D : Int) := by rw [show a - b = (D : Int) by omega]; exact IntWalk.i64_in _ (by omega)
        have hCq : C = q := by rw [hC, if_neg (by omega)]
        clear hC hD hlt2 hw5
        go_wp2_with fail
        rw [← hCq]
        clear hCq
        go_loopw [5, 13] (fun ov jv wq => ∃ (j go no co : Nat), ov = .slice (some ⟨go, 0, none⟩) no co ∧ jv = .int .i64 (j : Int) ∧ j ≤ D ∧ Hid (OM wq w.heap.size (.slice (some ⟨go, 0, none⟩) no co) (divKK i (F.take k) ++ dvK i (p, q) j) ∧ Below w.heap.size w wq)) (fun _ jv _ => D - (intOf jv).toNat)
        case atStart => exact ⟨0, go, no, co, rfl, rfl, Nat.zero_le _, by simpa [dvK] using HX.out.1.below (below_drewN (Below.refl _ _) _), below_drewN HX.out.2 _⟩
        case round =>
          obtain ⟨j, go, no, co, rfl, rfl, hj, HJ⟩ := hrel
          by_cases hjD : j < D
          · obtain ⟨S, hS⟩ : ∃ S, S = lo + (D : Int) - 1 - (j : Int) := ⟨_, rfl⟩
            obtain ⟨V, hV⟩ : ∃ S, S = lo + (j : Int) := ⟨_, rfl⟩
            obtain ⟨SU, hSU⟩ : ∃ z, z = S * U0 := ⟨_, rfl⟩
            obtain ⟨VU, hVU⟩ : ∃ z, z = V * U1 := ⟨_, rfl⟩
            obtain ⟨K1, hK1⟩ : ∃ z, z = R + SU := ⟨_, rfl⟩
            obtain ⟨K, hK⟩ : ∃ z, z = K1 + VU := ⟨_, rfl⟩
            have hSUb : 0 ≤ SU ∧ SU ≤ 4398046511104 := by
              rw [hSU]
              have h1 : S * U0 ≤ 127 * U0 := Int.mul_le_mul_of_nonneg_right (by omega) (by omega)
              exact ⟨Int.mul_nonneg (by omega) (by omega), by omega⟩
            have hVUb : 0 ≤ VU ∧ VU ≤ 562949953421312 := by
              rw [hVU]
              have h1 : V * U1 ≤ 127 * U1 := Int.mul_le_mul_of_nonneg_right (by omega) (by omega)
              exact ⟨Int.mul_nonneg (by omega) (by omega), by omega⟩
            have w8 : IntKind.i64.wrap (lo + (D : Int)) = lo + (D : Int) := IntWalk.i64_in _ (by omega)
            have w9 : IntKind.i64.wrap (lo + (D : Int) - 1) = lo + (D : Int) - 1 := IntWalk.i64_in _ (by omega)
            have w10 : IntKind.i64.wrap (lo + (D : Int) - 1 - (j : Int)) = S := by rw [← hS]; exact IntWalk.i64_in _ (by omega)
            have w11 : IntKind.i64.wrap (S * U0) = SU := by rw [← hSU]; exact IntWalk.i64_in _ (by omega)
            have w12 : IntKind.i64.wrap (R + SU) = K1 := by rw [← hK1]; exact IntWalk.i64_in _ (by omega)
            have w13 : IntKind.i64.wrap (lo + (j : Int)) = V := by rw [← hV]; exact IntWalk.i64_in _ (by omega)
            have w14 : IntKind.i64.wrap (V * U1) = VU := by rw [← hVU]; exact IntWalk.i64_in _ (by omega)
            have w15 : IntKind.i64.wrap (K1 + VU) = K := by rw [← hK]; exact IntWalk.i64_in _ (by omega)
            have hjlt : decide ((j : Int) < (D : Int)) = true := decide_eq_true (by omega)
            have HNW : Hid ((divKK i (F.take k) ++ dvK i (p, q) j) ++ [(K, C)] = divKK i (F.take k) ++ dvK i (p, q) (j + 1)) := by
              show _ = _
              rw [dvK_succ, HPK.out.1, HPK.out.2.1, HPK.out.2.2, ← HRS.out, ← HUU.out.1, ← HUU.out.2, List.append_assoc, hK, hK1, hSU, hVU, hS, hV]
            have HLE : Hid ((divKK i (F.take k) ++ dvK i (p, q) j).length + 1 ≤ 1000000000000) := by
              show _ ≤ _
              have h1 := HN.out
              have h2 : divKK i F = divKK i (F.take (k + 1)) ++ divKK i (F.drop (k + 1)) := by
                unfold divKK
                rw [← List.flatMap_append, List.take_append_drop]
              have h3 : divKK i (F.take (k + 1)) = divKK i (F.take k) ++ dvKT i (p, q) := by rw [HTK.out]; unfold divKK; rw [List.flatMap_append]; simp
              rw [h2, h3, List.length_append, List.length_append, dvKT, dvK_len, HPK.out.2.1] at h1
              rw [List.length_append, dvK_len]
              omega
            have HOJ := Lib.hid HJ.out.1
            have HSJ : Hid (w.heap.size ≤ wr.heap.size) := HJ.out.2.size
            obtain ⟨Lj, hLj⟩ : ∃ Lj, Lj = divKK i (F.take k) ++ dvK i (p, q) j := ⟨_, rfl⟩
            rw [← hLj] at HNW HLE HOJ
            clear hS hV hSU hVU hK1 hK hLj hSUb hVUb
            go_wp2_with (first
              | (go_at_call 131; (with_reducible refine (HUN0.out _).mono ?_); rintro e w8 ⟨rfl, q8, rfl⟩)
              | (go_at_call 131; (with_reducible refine (HUN1.out _).mono ?_); rintro e w8 ⟨rfl, q9, rfl⟩)
              | (at_builtin; refine wpAppM1 rfl _ _ rfl w.heap.size (.slice (some ⟨go, 0, none⟩) no co) Lj K C rfl rfl (HOJ.out.below (by first | exact below_drewN (Below.refl _ _) _ | exact below_drewN (below_drewN (Below.refl _ _) _) _)) HLE.out (by first | exact HSJ.out | (simp; exact HSJ.out)) ?_; intro A6 n6 c6 w6 o6 g6 k6)
              | fail)
            have HFN : Hid (∃ g', A6 = some ⟨g', 0, none⟩ ∧ OM w6 w.heap.size (.slice (some ⟨g', 0, none⟩) n6 c6) (divKK i (F.take k) ++ dvK i (p, q) (j + 1)) ∧ Below w.heap.size w w6) := by
              have hlen := o6.len
              have hbel : Below w.heap.size w w6 := ((below_drewN HJ.out.2 _).alloc (by have := HSJ.out; simp; omega) _).grown g6 (by have := HSJ.out; simp; omega) (fun k hk => by
                simp [Value.ownBlock] at hk
                rw [← hk]; exact (HJ.out.1.lt go rfl).1)
              obtain ⟨g', rfl, -, hlt6⟩ := o6.shape (by rw [← hlen, List.length_append, List.length_singleton]; omega)
              refine ⟨g', rfl, ?_, hbel⟩
              rw [← HNW.out]; exact o6
            clear o6 g6 k6
            obtain ⟨g', rfl, hf⟩ := HFN.out
            have HF' := Lib.hid hf
            clear hf HFN
            exact ⟨⟨j + 1, g', n6, c6, rfl, rfl, hjD, HF'.out⟩, by simp [intOf]; omega⟩
          · have hjlt : decide ((j : Int) < (D : Int)) = false := decide_eq_false (by omega)
            have HJ2 : Hid (OM wr w.heap.size (.slice (some ⟨go, 0, none⟩) no co) (divKK i (F.take (k + 1))) ∧ Below w.heap.size w wr) := by
              obtain rfl : j = D := by omega
              refine ⟨?_, HJ.out.2⟩
              have h3 : divKK i (F.take (k + 1)) = divKK i (F.take k) ++ dvKT i (p, q) := by rw [HTK.out]; unfold divKK; rw [List.flatMap_append]; simp
              rw [h3, dvKT, HPK.out.2.1]
              exact HJ.out.1
            go_wp2_with fail
            go_roundw
            case rel => exact ⟨k + 1, go, no, co, rfl, by go_num, by omega, HJ2.out⟩
            case measure => simp [intOf]; omega
    · have HFI : Hid (OM wr w.heap.size (.slice (some ⟨go, 0, none⟩) no co) (divKK i F)) := by
        have h := HX.out.1
        rw [List.take_of_length_le (by rw [HLn.out]; omega)] at h
        exact h
      have HGA : Hid (Calls Try.prog 132 #[.slice (some ⟨go, 0, none⟩) no co] wr (MakesM wr (gatherK (divKK i F)))) := l2Gather_any HFI.out (by have := HN.out; omega) HAB.out
      go_wp2_with (first | (go_at_call 132; refine HGA.out.mono ?_; rintro e w4 ⟨g4, n4, c4, rfl, o4, b4⟩) | fail)
      go_ret
      exact ⟨g4, n4, c4, rfl, o4.mono HX.out.2.size, HX.out.2.trans (b4.mono HX.out.2.size)⟩
end Go.Proofs.Ytgbojgmmingfdaa
