/- SwapVariables of the program. -/
import Derived.Test.YtgbojgmmingfdaaTabS
import Derived.Test.YtgbojgmmingfdaaTimesX
import Derived.Test.YtgbojgmmingfdaaPolyOk
import Derived.Test.YtgbojgmmingfdaaCnt
namespace Go.Proofs.Ytgbojgmmingfdaa
open Go.RowKit Go.Maps Go.MapKept Go.WideMaps

theorem swX_len (i : Nat) (e : List Int) : (swX i e).length = e.length := swE_len ..
theorem swX_ok {E : Int} {e : List Int} {i : Nat} (hi : i < 6) (h : e.length = 7 ∧ ∀ j, 0 ≤ nth e j ∧ nth e j ≤ E) : (swX i e).length = 7 ∧ ∀ j, 0 ≤ nth (swX i e) j ∧ nth (swX i e) j ≤ E := by
  refine ⟨by rw [swX_len]; exact h.1, fun j => ?_⟩
  unfold swX
  by_cases j0 : j = i
  · rw [j0, swE_at0 _ _ (by omega)]; exact h.2 _
  by_cases j1 : j = i + 1
  · rw [j1, swE_at1 _ _ (by omega)]; exact h.2 _
  · rw [swE_ne _ _ j0 j1]; exact h.2 j
theorem swL_snoc (i : Nat) (f : List (List Int × Int)) (x : List Int × Int) : swL i (f ++ [x]) = swL i f ++ [(swX i x.1, x.2)] := by simp [swL]
theorem swL_perm {i : Nat} {f g : List (List Int × Int)} (h : f.Perm g) : (swL i f).Perm (swL i g) := h.map _
theorem swL_abs (i : Nat) (f : List (List Int × Int)) : absT (swL i f) = absT f := by
  unfold absT swL
  rw [List.map_map]; rfl
set_option maxRecDepth 100000 in
set_option maxHeartbeats 4000000 in
theorem swap_any {A : Option Addr} {n : Nat} {T : List (List Int × Int)} {w : World} (c : Nat) (i : Nat) (hi : i ≤ 5) (hf : RTm w A n T) (hp : polyB T = true) (hn : n ≤ 1000000) :
    Calls Try.prog 109 #[.slice A n c, .int .i64 (i : Int)] w (fun e w' => ∃ v cells, e = .returned v ∧ OT w' w.heap.size w.heap.size v (shutT (swK i (T.map kc))) cells ∧ Below w.heap.size w w') := by
  have hmm := fun t w => run_makeMap (P := Try.prog) t w
  have HF := Lib.hid hf
  have HP := Lib.hid hp
  have HOK : Hid (Calls Try.prog 106 #[.slice A n c] w (GivesB w (.bool true))) := by
    have h := iPolyOk_any c hf (by omega)
    rw [hp] at h; exact h
  have HVR : Hid (∀ W : World, Calls Try.prog 107 #[.int .i64 (i : Int)] W (Gives W (.bool true))) := fun W => isVar_any (by omega)
  clear hf hp
  go_enter Try.func109, Try.ntmps109
  go_upto_region 4 with (first
    | (go_at_call 106; refine HOK.out.mono ?_; rintro e wa ⟨rfl, ba⟩)
    | (go_at_call 107; (with_reducible refine (HVR.out _).mono ?_); rintro e wb ⟨rfl, qb, rfl⟩)
    | fail)
  obtain ⟨wP, eP⟩ : ∃ W, W = wa.drewN qb := ⟨_, rfl⟩
  have BP : Hid (Below w.heap.size w wP) := by rw [eP]; exact below_drewN ba _
  have hsP : wa.heap.size = wP.heap.size := by rw [eP]; rfl
  rw [← eP, hsP]
  clear eP hsP ba HOK HVR
  obtain ⟨w1, e1⟩ : ∃ W, W = wP.alloc (.map #[] 0) := ⟨_, rfl⟩
  have B1 : Hid (Below wP.heap.size wP w1) := by rw [e1]; exact (Below.refl _ _).alloc (Nat.le_refl _) _
  have HO1 : Hid (TimS Unit wP w1 24 0 []) := by rw [e1]; exact ⟨⟨[], PM.made wP, PolE.nil_ _, Nat.le_refl _, fun q => rfl⟩, (Below.refl _ _).alloc (Nat.le_refl _) _⟩
  have HOPN : Hid (Calls Try.prog 169 #[.slice A n c] w1 (MakesK Unit w1 24 600000000 (T.map kc))) := open_any Unit c ((HF.out.below BP.out).below B1.out) HP.out
  rw [← e1]
  clear e1
  go_wp2_with (first
    | (go_at_call 169; refine HOPN.out.mono ?_; rintro e wo ⟨b1, rfl, lb1, ⟨n1, f, pm1, hn1, pf, hA, hkf⟩, bo⟩; have HFM := Lib.hid pm1; have HGF := Lib.hid (pf.good (by omega)))
    | (at_range; refine wpList_range_poly _ rfl _ rfl b1 n1 f rfl HFM.out HGF.out ?_; intro w2 hpr g2 s2)
    | fail)
  have HR2 := Lib.hid hpr
  have HPF := Lib.hid pf
  have HNA := Lib.hid (And.intro hn1 (And.intro hA hkf))
  have b12 : Below wo.heap.size wo w2 := ⟨g2.os, g2.tape, g2.output, g2.size, fun i hi => g2.block i hi (by simp)⟩
  have HO2 : Hid (TimS Unit wP w2 24 0 []) := (HO1.out.below bo).below b12
  have HR1 : Hid (wP.heap.size < w1.heap.size ∧ w1.heap.size ≤ b1 ∧ b1 < wo.heap.size ∧ wo.heap.size < w2.heap.size) := ⟨HO1.out.lt, lb1, HFM.out.lt, by omega⟩
  have HFL : Hid (f.length ≤ 10000000) := by
    have h1 := (pf.perm (by omega)).length_eq
    rw [hkf, List.length_map, List.length_map] at h1
    have h2 := HF.out.1
    show _ ≤ _
    omega
  clear hpr g2 s2 b12 bo lb1 pm1 hn1 pf hA hkf HO1
  go_frame
  go_loopw [6, 7, 22, 23] (fun _ _ _ _ wr => ∃ (L : List (List Int × Int)) (cnt : Nat), Hid (PR Unit wr b1 wo.heap.size n1 f L cnt ∧ TimS Unit wP wr 24 L.length (swL i L) ∧ w2.heap.size ≤ wr.heap.size)) (fun _ _ _ _ wr => wr.rangeLeft b1 wo.heap.size)
  case atStart => exact ⟨[], _, HR2.out, HO2.out, Nat.le_refl _⟩
  case round =>
    obtain ⟨L, cnt, HX⟩ := hrel
    go_wp2_with (first | (at_next; refine wpList_next_poly _ rfl _ rfl b1 wo.heap.size n1 f L cnt rfl HX.out.1 HGF.out ?_ ?_) | fail)
    · intro h0 hperm
      have HPK : Hid (PK Unit wr wP.heap.size 24 600000000 (swK i (T.map kc))) := by
        obtain ⟨-, ⟨⟨acc, a1, a2, a3, a4⟩, a5⟩, -⟩ := HX.out
        refine ⟨_, acc, a1, by rw [hperm.length_eq]; have := HFL.out; omega, a2, ?_, ?_⟩
        · rw [swL_abs, absT_perm hperm] at a3
          have := HNA.out.2.1
          omega
        · have p3 := HPF.out.back (by omega)
          rw [HNA.out.2.2] at p3
          show kf acc = gatherK ((swL i ((T.map kc).map exT)).map kc)
          unfold kf
          refine gatherK_congr fun q => ?_
          rw [a4, coefK_perm ((swL_perm (hperm.trans p3.symm)).map kc)]
      have HBW : Hid (Below w.heap.size w wr) := BP.out.trans (HX.out.2.1.bel.mono BP.out.size)
      clear hperm
      go_wp2_with (first
        | (go_at_call 66; refine (closedK_any HPK.out (by omega)).mono ?_; rintro e w6 ⟨v6, cs6, rfl, o6, c6⟩)
        | fail)
      go_ret
      exact ⟨v6, cs6, rfl, OF.mono o6 HBW.out.size HBW.out.size, HBW.out.trans (c6.mono HBW.out.size)⟩
    · intro ea za w3 cnt' hec hpr3 hlt g3 s3 hen
      have hE7 := (HGF.out.2 _ hec).1
      have HEA : Hid (ea.length = 7 ∧ ∀ j, 0 ≤ nth ea j ∧ nth ea j ≤ 24) := (HPF.out.ok _ hec).1
      obtain ⟨x, hx⟩ : ∃ x, x = ea := ⟨_, rfl⟩
      obtain ⟨x0, x1, x2, x3, x4, x5, x6, rfl⟩ := hE7.seven
      have hen' : (Instr.entry (.pointer (some ⟨wo.heap.size, 0, none⟩))).run Try.prog w3 = .ok (.tuple #[.agg #[.int .i64 x0, .int .i64 x1, .int .i64 x2, .int .i64 x3, .int .i64 x4, .int .i64 x5, .int .i64 x6], .int .i64 za]) w3 := hen
      have HY : Hid (PR Unit w3 b1 wo.heap.size n1 f (L ++ [(x, za)]) cnt' ∧ cnt' < cnt ∧ TimS Unit wP w3 24 L.length (swL i L) ∧ w2.heap.size ≤ w3.heap.size) := by
        rw [hx]
        have h1 := HR1.out
        refine ⟨hpr3, hlt, HX.out.2.1.kept g3 (by omega), by have := HX.out.2.2; omega⟩
      obtain ⟨w4, e4⟩ : ∃ W, W = w3.alloc (.cells #[.int .i64 x0, .int .i64 x1, .int .i64 x2, .int .i64 x3, .int .i64 x4, .int .i64 x5, .int .i64 x6] 76) := ⟨_, rfl⟩
      have b4 : Below w3.heap.size w3 w4 := by rw [e4]; exact (Below.refl _ _).alloc (Nat.le_refl _) _
      have K4 : Hid (BK w4 w3.heap.size 76 (cellsI x)) := by rw [e4, hx]; exact BK.new w3 _ _
      have B4 := Lib.hid b4
      have E4 := Lib.hid e4
      have hs4 : w4.heap.size = w3.heap.size + 1 := by rw [e4]; simp
      rw [← hx] at HEA
      clear hec hpr3 hlt g3 s3 hen hE7 hx
      obtain ⟨ga, hga⟩ : ∃ g, g = w3.heap.size := ⟨_, rfl⟩
      rw [← hga] at K4
      have HWG : Hid (wP.heap.size < ga ∧ wo.heap.size < ga ∧ b1 < ga ∧ w4.heap.size = ga + 1 ∧ ga = w3.heap.size) := by
        have h1 := HR1.out
        have h3 := HY.out.2.2.2
        exact ⟨by omega, by omega, by omega, by omega, hga⟩
      have HY4 : Hid (PR Unit w4 b1 wo.heap.size n1 f (L ++ [(x, za)]) cnt' ∧ TimS Unit wP w4 24 L.length (swL i L) ∧ w2.heap.size ≤ w4.heap.size) := ⟨HY.out.1.below B4.out, HY.out.2.2.1.below B4.out, by have := HY.out.2.2.2; omega⟩
      obtain ⟨u, hu⟩ : ∃ u, u = nth x i := ⟨_, rfl⟩
      obtain ⟨v, hv⟩ : ∃ u, u = nth x (i + 1) := ⟨_, rfl⟩
      have c0 : w4.cell? ⟨ga, i, none⟩ = some (.int .i64 u) := by
        rw [hu]; exact K4.out.cell (cellsI_at x i (by rw [HEA.out.1]; omega))
      have c1 : w4.cell? ⟨ga, i + 1, none⟩ = some (.int .i64 v) := by
        rw [hv]; exact K4.out.cell (cellsI_at x (i + 1) (by rw [HEA.out.1]; omega))
      have f0 : w4.frozen? ⟨ga, i, none⟩ = false := K4.out.frozen
      have f1 : w4.frozen? ⟨ga, i + 1, none⟩ = false := K4.out.frozen
      have hi0 : (i : Int) < 7 := by omega
      have hi1 : (i : Int) + 1 < 7 := by omega
      have hi2 : i < 7 := by omega
      have hi3 : (0 : Int) ≤ (i : Int) + 1 := by omega
      have hwi : IntKind.i64.wrap ((i : Int) + 1) = (i : Int) + 1 := by rw [IntKind.wrap_i64]; omega
      clear hs4 b4 e4
      go_upto_region 7 with (fail)
      rw [show w3.alloc (.cells #[.int .i64 x0, .int .i64 x1, .int .i64 x2, .int .i64 x3, .int .i64 x4, .int .i64 x5, .int .i64 x6] 76) = w4 from E4.out.symm, ← hga]
      clear hga hen'
      go_region
      obtain ⟨W5, e5⟩ : ∃ W, W = ((w4.setCell ⟨ga, i, none⟩ (.int .i64 (nth x (i + 1)))).setCell ⟨ga, i + 1, none⟩ (.int .i64 (nth x i))).drew := ⟨_, rfl⟩
      rw [← e5]
      obtain ⟨e', he'⟩ : ∃ e', e' = swX i x := ⟨_, rfl⟩
      have hexy := swX_ok (i := i) (by omega) HEA.out
      have HG1 : Hid (w4.grownBy (w4.setCell ⟨ga, i, none⟩ (.int .i64 (nth x (i + 1)))) (some ga)) := setCell_grown w4 ga i _
      have HG2 : Hid (w4.grownBy W5 (some ga)) := by
        have h1 := HG1.out.trans (setCell_grown (w4.setCell ⟨ga, i, none⟩ (.int .i64 (nth x (i + 1)))) ga (i + 1) (.int .i64 (nth x i)))
        rw [e5]
        exact grown_below h1 ((Below.refl _ _).drew)
      have HBK : Hid (BK W5 ga 76 (cellsI e')) := by
        have h := (K4.out.set i (.int .i64 (nth x (i + 1)))).set (i + 1) (.int .i64 (nth x i))
        rw [cellsI_set, cellsI_set] at h
        have e : (x.set i (nth x (i + 1))).set (i + 1) (nth x i) = e' := by
          rw [he', swX, swE, List.set_comm _ _ (by omega)]
        rw [e] at h
        rw [e5]
        exact h.below ((Below.refl _ _).drew) h.lt
      have HTS : Hid (TimS Unit wP W5 24 L.length (swL i L)) := HY4.out.2.1.kept HG2.out HWG.out.1
      have HPR5 : Hid (PR Unit W5 b1 wo.heap.size n1 f (L ++ [(x, za)]) cnt') := HY4.out.1.grownE HG2.out (by have := HWG.out; omega) (by have := HWG.out; omega)
      have hlenL := HY.out.1.len
      rw [List.length_append, List.length_singleton] at hlenL
      have HADD : Hid (Calls Try.prog 65 #[.map (some wP.heap.size), kv e', .int .i64 za] W5 (fun r w' => r = .returned (.tuple #[]) ∧ TimS Unit wP w' 24 (L.length + 1) (swL i (L ++ [(x, za)])) ∧ W5.grownBy w' (some wP.heap.size))) := by
        have h := TimS.add (x := (e', za)) HTS.out (by rw [he']; exact hexy) (by omega) (by have := HFL.out; omega) (by
          rw [he', ← swL_snoc i L (x, za), swL_abs]
          have h1 := HY.out.1.met.abs
          have h2 := HNA.out.2.1
          omega)
        rw [he', ← swL_snoc i L (x, za)] at h
        rw [he']
        exact h
      have HSZ : Hid (w2.heap.size ≤ W5.heap.size) := Nat.le_trans HY4.out.2.2 HG2.out.size
      have hl7 : e'.length = 7 := by rw [he']; exact hexy.1
      obtain ⟨s0, s1, s2, s3, s4, s5, s6, rfl⟩ : ∃ s0 s1 s2 s3 s4 s5 s6, e' = [s0, s1, s2, s3, s4, s5, s6] := by
        clear he' HBK HADD hexy
        rcases e' with _ | ⟨p0, _ | ⟨p1, _ | ⟨p2, _ | ⟨p3, _ | ⟨p4, _ | ⟨p5, _ | ⟨p6, _ | ⟨p7, r⟩⟩⟩⟩⟩⟩⟩⟩
        all_goals first | exact ⟨_, _, _, _, _, _, _, rfl⟩ | (simp only [List.length_cons, List.length_nil] at hl7; omega)
      have q0 := HBK.out.cell (j := 0) rfl
      have q1 := HBK.out.cell (j := 1) rfl
      have q2 := HBK.out.cell (j := 2) rfl
      have q3 := HBK.out.cell (j := 3) rfl
      have q4 := HBK.out.cell (j := 4) rfl
      have q5 := HBK.out.cell (j := 5) rfl
      have q6 := HBK.out.cell (j := 6) rfl
      have HADD' : Hid (Calls Try.prog 65 #[.map (some wP.heap.size), .agg #[.int .i64 s0, .int .i64 s1, .int .i64 s2, .int .i64 s3, .int .i64 s4, .int .i64 s5, .int .i64 s6], .int .i64 za] W5 (fun r w' => r = .returned (.tuple #[]) ∧ TimS Unit wP w' 24 (L.length + 1) (swL i (L ++ [(x, za)])) ∧ W5.grownBy w' (some wP.heap.size))) := HADD.out
      clear he' hexy hlenL hl7 e5 c0 c1 f0 f1
      go_wp2_with (first | (go_at_call 65; refine HADD'.out.mono ?_; rintro r wE ⟨rfl, p5, g5⟩) | fail)
      have HPRE : Hid (PR Unit wE b1 wo.heap.size n1 f (L ++ [(x, za)]) cnt') := HPR5.out.grownE g5 (by have := HR1.out; omega) (by have := HR1.out; omega)
      have HFI : Hid (TimS Unit wP wE 24 (L ++ [(x, za)]).length (swL i (L ++ [(x, za)])) ∧ w2.heap.size ≤ wE.heap.size) := ⟨by rw [List.length_append, List.length_singleton]; exact p5, Nat.le_trans HSZ.out g5.size⟩
      clear p5 g5
      go_roundw
      case rel => exact ⟨_, cnt', HPRE.out, HFI.out⟩
      case measure =>
        rw [HPRE.out.left_eq, HX.out.1.left_eq]
        exact HY.out.2.1
end Go.Proofs.Ytgbojgmmingfdaa

/- samePoly and IsSymmetricAt of the program, where they say yes. -/
namespace Go.Proofs.Ytgbojgmmingfdaa
open Go.RowKit

set_option maxRecDepth 100000 in
set_option maxHeartbeats 1000000 in
theorem sameClos_any {w : World} {A B : Option Addr} {n m : Nat} {l : List Int} (c d : Nat) (z : Int) (hx : RI w A n l) (hy : RI w B m l) (hn : n ≤ 1000000) :
    Calls Try.prog 168 #[.agg #[.slice A n c, .int .i64 z], .agg #[.slice B m d, .int .i64 z]] w (GivesB w (.bool true)) := by
  have hm : m ≤ 1000000 := by rw [← hy.1, hx.1]; exact hn
  have HE : Hid (∀ W, Below w.heap.size w W → Calls Try.prog 79 #[.slice A n c, .slice B m d] W (Gives W (.bool true))) := fun W b => equal_any true c d (hx.below b) (hy.below b) (by simp) (by omega) (by omega)
  obtain ⟨w1, e1⟩ : ∃ W, W = (w.alloc (.cells #[.slice A n c, .int .i64 z] 81)).alloc (.cells #[.slice B m d, .int .i64 z] 81) := ⟨_, rfl⟩
  have b1 : Below w.heap.size w w1 := by rw [e1]; exact ((Below.refl _ _).alloc (Nat.le_refl _) _).alloc (by simp) _
  have B1 := Lib.hid b1
  have E1 := Lib.hid e1
  clear hx hy b1 e1
  go_enter Try.func168, Try.ntmps168
  go_wp2_with (first | (go_at_call 79; (with_reducible refine (HE.out _ ?_).mono ?_); (exact E1.out ▸ B1.out); rintro e w2 ⟨rfl, q2, rfl⟩) | fail)
  go_ret
  exact ⟨rfl, below_drewN (E1.out ▸ B1.out) _⟩
set_option maxRecDepth 100000 in
set_option maxHeartbeats 2000000 in
theorem sameTerms_any {w : World} {A B : Option Addr} {n : Nat} {T : List (List Int × Int)} (c d : Nat) (hx : RTm w A n T) (hy : RTm w B n T) (hl : ∀ x ∈ T, x.1.length ≤ 100) (hn : n ≤ 1000000) :
    Calls Try.prog 167 #[.slice A n c, .slice B n d, .func (.func 168) #[] #[]] w (GivesB w (.bool true)) := by
  have HX := Lib.hid hx
  have HY := Lib.hid hy
  have HL := Lib.hid hl
  have HN : Hid (T.length = n) := hx.1
  clear hx hy hl
  go_enter Try.func167, Try.ntmps167
  go_wp2_with fail
  go_loopw [7, 8, 9, 17] (fun _ _ _ i wr => ∃ k : Nat, k ≤ n ∧ i = .int .i64 (k : Int) ∧ Hid (Below w.heap.size w wr)) (fun _ _ _ i _ => n - (intOf i).toNat)
  case atStart => exact ⟨0, Nat.zero_le _, rfl, Below.refl _ _⟩
  case round =>
    obtain ⟨k, hk, rfl, HB⟩ := hrel
    by_cases hlt : k < n
    · obtain ⟨ad, rfl, hq⟩ := (HX.out.below HB.out).2 k hlt
      obtain ⟨ad2, rfl, hq2⟩ := (HY.out.below HB.out).2 k hlt
      obtain ⟨A', n', c', x1, x2, x3, x4⟩ := hq.cells
      obtain ⟨A'', n'', c'', y1, y2, y3, y4⟩ := hq2.cells
      have hn' : n' ≤ 100 := by rw [← x3.1]; exact HL.out _ (nthP_mem (by rw [HN.out]; exact hlt))
      have HC : Hid (∀ W, Below wr.heap.size wr W → Calls Try.prog 168 #[.agg #[.slice A' n' c', .int .i64 (nthP T k).2], .agg #[.slice A'' n'' c'', .int .i64 (nthP T k).2]] W (GivesB W (.bool true))) := fun W b => sameClos_any c' c'' _ (x3.below b) (y3.below b) (by omega)
      obtain ⟨z, hz⟩ : ∃ z, z = (nthP T k).2 := ⟨_, rfl⟩
      rw [← hz] at x2 y2 HC
      have hy1 : ∀ o, (wr.alloc o).cell? (ad2.add (k * 2)) = some (.slice A'' n'' c'') := fun o => one_cell ((Below.refl _ _).alloc (Nat.le_refl _) o) y1
      have hy2 : ∀ o, (wr.alloc o).cell? ⟨(ad2.add (k * 2)).block, (ad2.add (k * 2)).off + 1, none⟩ = some (.int .i64 z) := fun o => one_cell ((Below.refl _ _).alloc (Nat.le_refl _) o) y2
      have BA : Hid (∀ o o2, Below wr.heap.size wr ((wr.alloc o).alloc o2)) := fun o o2 => ((Below.refl _ _).alloc (Nat.le_refl _) o).alloc (by simp) o2
      clear hz x3 y3 hq hq2 x4 y4
      go_wp2_with (first | (go_at_call 168; (with_reducible refine (HC.out _ ?_).mono ?_); (exact BA.out _ _); rintro e w2 ⟨rfl, b2⟩) | fail)
      have b2' := (BA.out (.cells #[.slice A' n' c', .int .i64 z] 81) (.cells #[.slice A'' n'' c'', .int .i64 z] 81)).trans (b2.mono (BA.out _ _).size)
      go_roundw
      case rel => exact ⟨k + 1, by omega, by go_num, HB.out.trans (b2'.mono HB.out.size)⟩
      case measure => simp [intOf]; omega
    · go_wp2_with fail
      go_ret
      exact ⟨rfl, HB.out⟩
set_option maxRecDepth 100000 in
set_option maxHeartbeats 2000000 in
theorem iSym_any {w : World} {A : Option Addr} {n : Nat} {T : List (List Int × Int)} (c i : Nat) (hi : i ≤ 5) (hx : RTm w A n T) (hp : polyB T = true) (hl : ∀ x ∈ T, x.1.length ≤ 100) (hn : n ≤ 1000000) (hs : shutT (swK i (T.map kc)) = T) :
    Calls Try.prog 37 #[.slice A n c, .int .i64 (i : Int)] w (GivesB w (.bool true)) := by
  have HX := Lib.hid hx
  have HP := Lib.hid hp
  have HL := Lib.hid hl
  have HS := Lib.hid hs
  have HOK : Hid (Calls Try.prog 106 #[.slice A n c] w (GivesB w (.bool true))) := by
    have h := iPolyOk_any c hx (by omega)
    rw [hp] at h; exact h
  have HVR : Hid (∀ W : World, Calls Try.prog 107 #[.int .i64 (i : Int)] W (Gives W (.bool true))) := fun W => isVar_any (by omega)
  have HSW : Hid (∀ W, Below w.heap.size w W → Calls Try.prog 109 #[.slice A n c, .int .i64 (i : Int)] W (fun e w' => ∃ B d, e = .returned (.slice B n d) ∧ RTm w' B n T ∧ Below W.heap.size W w')) := fun W b => by
    refine (swap_any c i hi (HX.out.below b) HP.out hn).mono ?_
    rintro e w' ⟨v, cells, rfl, o, bb⟩
    rw [HS.out] at o
    obtain ⟨B, d, rfl, -⟩ := OF.form o
    have hr := o.rt
    rw [HX.out.1] at hr ⊢
    exact ⟨B, d, rfl, hr, bb⟩
  have HSM : Hid (∀ W B d, Below w.heap.size w W → RTm W B n T → Calls Try.prog 108 #[.slice A n c, .slice B n d] W (GivesB W (.bool true))) := fun W B d b hy => by
    have HEQ : Hid (Calls Try.prog 167 #[.slice A n c, .slice B n d, .func (.func 168) #[] #[]] W (GivesB W (.bool true))) := sameTerms_any c d (HX.out.below b) hy HL.out hn
    go_enter Try.func108, Try.ntmps108
    go_wp2_with (first | (go_at_call 167; refine HEQ.out.mono ?_; rintro e w2 ⟨rfl, b2⟩) | fail)
    go_ret
    exact ⟨rfl, b2⟩
  clear hx hp hl hs
  go_enter Try.func37, Try.ntmps37
  go_wp2_with (first
    | (go_at_call 106; refine HOK.out.mono ?_; rintro e w1 ⟨rfl, b1⟩)
    | (go_at_call 107; (with_reducible refine (HVR.out _).mono ?_); rintro e w2 ⟨rfl, q2, rfl⟩)
    | (go_at_call 109; (with_reducible refine (HSW.out _ ?_).mono ?_); (exact below_drewN b1 _); rintro e w3 ⟨B, d, rfl, r3, b3⟩; have b13 : Below w.heap.size w w3 := (below_drewN b1 q2).trans (b3.mono (below_drewN b1 q2).size))
    | (go_at_call 108; (with_reducible refine (HSM.out _ _ _ ?_ ?_).mono ?_); (exact b13); (exact r3); rintro e w4 ⟨rfl, b4⟩)
    | fail)
  go_ret
  exact ⟨rfl, b13.trans (b4.mono b13.size)⟩
end Go.Proofs.Ytgbojgmmingfdaa
