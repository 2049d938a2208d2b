/- StanleyShapes of the program: the walk. -/
import Derived.Test.YtgbojgmmingfdaaRedW
import Derived.Test.YtgbojgmmingfdaaGauss
namespace Go.Proofs.Ytgbojgmmingfdaa
open Go.RowKit

set_option maxRecDepth 100000 in
set_option maxHeartbeats 8000000 in
theorem iStan_any {A : Option Addr} {n : Nat} {l : List Int} {w : World} (c : Nat) (hx : RI w A n l) (hn : n ≤ 1000000000) :
    Calls Try.prog 18 #[.slice A n c] w (MakesPb w (stanR l) (redOk l)) := by
  have HL : Hid (l.length = n) := hx.1
  have HRD : Hid (Calls Try.prog 75 #[.slice A n c] w (MakesSb w (redB l) (redOk l))) := iRed_any c hx hn
  have HX := Lib.hid hx
  clear hx
  rcases hok : redOk l with _ | _
  · have HE : Hid (stanR l = []) := by show _ = _; rw [stanR, hok]; rfl
    rw [hok] at HRD
    clear hok
    go_enter Try.func18, Try.ntmps18
    go_wp2_with (first | (go_at_call 75; refine HRD.out.mono ?_; rintro e w1 ⟨A1, n1, c1, wc, rfl, o1, l1, q1, b1⟩) | fail)
    go_ret2
    rw [HE.out]
    exact ⟨_, _, _, [], rfl, OF.nil_ _ _ _ _ _, rfl, by omega, b1⟩
  have hpb : permB l = true ∧ wordsN l ≤ 800 := by
    rw [redOk, Bool.and_eq_true, decide_eq_true_eq] at hok
    exact hok
  have hsz := permB_size hpb.1
  rw [HL.out] at hsz
  have HPB := Lib.hid hpb
  obtain ⟨ws, hws⟩ : ∃ ws, ws = redI 21 l := ⟨_, rfl⟩
  have HWS : Hid (ws = redI 21 l ∧ ws.length ≤ 800 ∧ ∀ v ∈ ws, RedOf l v) := ⟨hws, by rw [hws]; exact hpb.2, fun v hv => RedOf.of hpb.1 (fin_21 (permB_size hpb.1).2) (by rw [← hws]; exact hv)⟩
  have HE : Hid (stanR l = stanS (distT ws)) := by show _ = _; rw [stanR, hok, hws]; rfl
  have hrb : redB l = ws := by rw [redB, hok, hws]; rfl
  rw [hok, hrb] at HRD
  clear hpb hok hws hrb
  go_enter Try.func18, Try.ntmps18
  go_upto_region 4 with (first | (go_at_call 75; refine HRD.out.mono ?_; rintro e w1 ⟨A1, n1, c1, wc, rfl, o1, l1, q1, b1⟩) | fail)
  have S0 : Hid (StA w (w1.alloc (.cells #[] 42)) (.slice A1 n1 c1) (.slice (some ⟨w1.heap.size, 0, none⟩) 0 0) ws wc [] []) := by
    have b2 : Below w1.heap.size w1 (w1.alloc (.cells #[] 42)) := (Below.refl _ _).alloc (Nat.le_refl _) _
    exact ⟨OF.below o1 b2, O3.lit w1 w.heap.size b1.size, bnext b1 b2 b1.size⟩
  have HN1 : Hid (ws.length = n1) := l1
  have hn1 : n1 ≤ 800 := by rw [← l1]; exact HWS.out.2.1
  clear o1 l1 q1 b1
  go_wp2_with fail
  go_loopw [6, 30] (fun av i wr => ∃ (k : Nat) (D : Option Addr) (dn dd : Nat) (ac : List Value), k ≤ n1 ∧ i = .int .i64 (k : Int) ∧ av = .slice D dn dd ∧ Hid (StA w wr (.slice A1 n1 c1) (.slice D dn dd) ws wc (distT (ws.take k)) ac)) (fun _ i _ => n1 - (intOf i).toNat)
  case atStart => exact ⟨0, _, _, _, [], Nat.zero_le _, rfl, rfl, by
    have h : distT (ws.take 0) = [] := by simp [distT]
    rw [h]; exact S0.out⟩
  case round =>
    clear S0
    obtain ⟨k, D, dn, dd, ac, hk, rfl, rfl, HY⟩ := hrel
    by_cases hlt : k < n1
    · obtain ⟨ad, A2, n2, c2, rfl, z0, -, o2, -⟩ := OS.cell HY.out.ws hlt
      obtain ⟨v, hv⟩ : ∃ v, v = nthL ws k := ⟨_, rfl⟩
      rw [← hv] at o2
      have hkw : k < ws.length := by rw [HN1.out]; exact hlt
      have HRO : Hid (RedOf l v) := HWS.out.2.2 v (by rw [hv, nthL_lt hkw]; exact List.getElem_mem _)
      have HEG : Hid (Calls Try.prog 24 #[.int .i64 (n : Int), .slice A2 n2 c2] wr (MakesSSb wr (egT v) (egQ v v.length))) := by
        have h := iEg_any c2 o2.ri HRO.out
        rw [HL.out] at h
        exact h
      have HDT : Hid (distT (ws.take (k + 1)) = if egT v ∈ distT (ws.take k) then distT (ws.take k) else distT (ws.take k) ++ [egT v]) := by show _ = _; rw [distT_take hkw, hv]
      have HLOW : Hid (∀ T ∈ distT (ws.take k), Low T) := fun T hT => by
        obtain ⟨u, hu, rfl⟩ := distT_of k (by omega) T hT
        exact (HWS.out.2.2 u hu).tab.2
      have HDN : Hid ((distT (ws.take k)).length = dn) := HY.out.al.len
      have hdn : dn ≤ 800 := by rw [← HDN.out]; have := distT_len ws k (by omega); omega
      clear hv o2 hkw
      go_upto_region 9 with (first | (go_at_call 24; refine HEG.out.mono ?_; rintro e w2 ⟨A3, n3, c3, pc, A4, n4, c4, qc, rfl, o3, o4, b2⟩) | fail)
      obtain ⟨w3, e3⟩ : ∃ W, W = w2.alloc (.cells #[.slice A3 n3 c3] 42) := ⟨_, rfl⟩
      have hb3 : Below w2.heap.size w2 w3 := by rw [e3]; exact (Below.refl _ _).alloc (Nat.le_refl _) _
      have hx3 : w3.cell? ⟨w2.heap.size, 0, none⟩ = some (.slice A3 n3 c3) := by
        rw [e3]
        have h := new_cells w2 [Value.slice A3 n3 c3] 42 0 _ rfl
        rw [add_zero_] at h
        exact h
      rw [← e3]
      have HY3 : Hid (StA w w3 (.slice (some ad) n1 c1) (.slice D dn dd) ws wc (distT (ws.take k)) ac) := HY.out.below (b2.trans (hb3.mono b2.size))
      have P3 : Hid (OS w3 w.heap.size w.heap.size (.slice A3 n3 c3) (egT v) pc) := OF.mono (OF.below o3 hb3) HY.out.bel.size HY.out.bel.size
      have HCT : Hid (∀ b, decide (egT v ∈ distT (ws.take k)) = b → Calls Try.prog 76 #[.slice D dn dd, .func (.func 77) #[] #[.pointer (some ⟨w2.heap.size, 0, none⟩)]] w3 (Gives w3 (.bool b))) := fun b hb => by
        rw [← hb]
        exact cont3_any dd c3 HY3.out.al (OS.rs P3.out (OS.lenS P3.out).symm) HLOW.out HRO.out.tab.2 hx3 (by omega)
      have HLN : Hid ((distT (ws.take k)).length + 1 ≤ 1000000000000) := by show _ ≤ _; rw [HDN.out]; omega
      have HSZ : Hid (w.heap.size ≤ w3.heap.size) := HY3.out.bel.size
      clear e3 hb3 o3 o4 b2 z0
      rcases hd : decide (egT v ∈ distT (ws.take k)) with _ | _
      · have HD := Lib.hid hd
        have HNEW : Hid (distT (ws.take (k + 1)) = distT (ws.take k) ++ [egT v]) := by show _ = _; rw [HDT.out, if_neg (of_decide_eq_false hd)]
        clear hd
        go_upto_region 10 with (first | (go_at_call 76; refine (HCT.out _ HD.out).mono ?_; rintro e w4 ⟨rfl, q4, rfl⟩) | fail)
        obtain ⟨w4, e4⟩ : ∃ W, W = w3.drewN q4 := ⟨_, rfl⟩
        rw [← e4]
        have HY4 : Hid (StA w w4 (.slice (some ad) n1 c1) (.slice D dn dd) ws wc (distT (ws.take k)) ac) := by rw [e4]; exact HY3.out.below (below_drewN (Below.refl _ _) _)
        have P4 : Hid (OS w4 w.heap.size w.heap.size (.slice A3 n3 c3) (egT v) pc) := by rw [e4]; exact OF.below P3.out (below_drewN (Below.refl _ _) _)
        have hx4 : w4.cell? ⟨w2.heap.size, 0, none⟩ = some (.slice A3 n3 c3) := by rw [e4]; exact hx3
        have HSZ4 : Hid (w.heap.size ≤ w4.heap.size) := HY4.out.bel.size
        clear e4 hx3
        go_wp2_with (first
          | (at_builtin; refine wpApp3 rfl _ _ rfl w.heap.size (.slice D dn dd) (.slice A3 n3 c3) (distT (ws.take k)) ac pc (egT v) rfl rfl HY4.out.al P4.out HLN.out HSZ4.out ?_; intro v5 w5 o5 g5)
          | fail)
        obtain ⟨D5, dn5, dd5, rfl, -⟩ := o5.form
        have hb5 : Below w4.heap.size w4 (w4.alloc (.cells #[.slice A3 n3 c3] 42)) := (Below.refl _ _).alloc (Nat.le_refl _) _
        have F5 := Lib.hid ((HY4.out.below hb5).app g5 o5)
        clear o5 g5 hb5
        go_roundw
        case rel => exact ⟨k + 1, _, _, _, _, by omega, by go_num, rfl, by rw [HNEW.out]; exact F5.out⟩
        case measure => simp [intOf]; omega
      · have HD := Lib.hid hd
        have HOLD : Hid (distT (ws.take (k + 1)) = distT (ws.take k)) := by show _ = _; rw [HDT.out, if_pos (of_decide_eq_true hd)]
        clear hd
        go_wp2_with (first | (go_at_call 76; refine (HCT.out _ HD.out).mono ?_; rintro e w4 ⟨rfl, q4, rfl⟩) | fail)
        go_roundw
        case rel => exact ⟨k + 1, _, _, _, _, by omega, by go_num, rfl, by rw [HOLD.out]; exact HY3.out.below (below_drewN (Below.refl _ _) _)⟩
        case measure => simp [intOf]; omega
    · have hds : Hid (distT (ws.take k) = distT ws) := by show _ = _; rw [List.take_of_length_le (by rw [HN1.out]; omega)]
      have HTS : Hid (∀ T ∈ distT ws, ∃ v ∈ ws, T = egT v) := fun T hT => by
        have h := distT_of ws.length (Nat.le_refl _) T
        rw [List.take_length] at h
        exact h hT
      have HLEN : Hid ((distT ws).length ≤ 800) := by
        have h := distT_len ws ws.length (Nat.le_refl _)
        rw [List.take_length] at h
        have := HWS.out.2.1
        show _ ≤ _
        omega
      have HAL : Hid (O3 wr w.heap.size (.slice D dn dd) (distT ws) ac) := by
        have h := HY.out.al
        rw [hds.out] at h
        exact h
      have HBW : Hid (Below w.heap.size w wr) := HY.out.bel
      obtain ⟨Ts, hTs⟩ : ∃ Ts, Ts = distT ws := ⟨_, rfl⟩
      rw [← hTs] at HTS HLEN HAL HE
      have HDN : Hid (Ts.length = dn) := HAL.out.len
      have hdn : dn ≤ 800 := by rw [← HDN.out]; exact HLEN.out
      clear hds HY hTs
      obtain ⟨wo, rfl⟩ : ∃ wo : World, wo = wr := ⟨_, rfl⟩
      have T0 : Hid (StB w (wo.alloc (.cells #[] 47)) (.slice D dn dd) (.slice (some ⟨wo.heap.size, 0, none⟩) 0 0) Ts ac [] []) := by
        have b2 : Below wo.heap.size wo (wo.alloc (.cells #[] 47)) := (Below.refl _ _).alloc (Nat.le_refl _) _
        exact ⟨HAL.out.below b2, OP.lit wo _ _ HBW.out.size, HBW.out.trans (b2.mono HBW.out.size)⟩
      have HT800 : Hid (∀ k, k ≤ dn → (stanS (Ts.take k)).length ≤ 800) := fun k hk => by
        have h := (stanS_grows Ts k (by rw [HDN.out]; exact hk)).len
        omega
      go_wp2_with fail
      go_loopw [12, 54] (fun ov i wr => ∃ (k : Nat) (O : Option Addr) (on od : Nat) (pc : List Value), k ≤ dn ∧ i = .int .i64 (k : Int) ∧ ov = .slice O on od ∧ Hid (StB w wr (.slice D dn dd) (.slice O on od) Ts ac (stanS (Ts.take k)) pc)) (fun _ i _ => dn - (intOf i).toNat)
      case atStart => exact ⟨0, _, _, _, [], Nat.zero_le _, rfl, rfl, by
        have h : stanS (Ts.take 0) = [] := by simp [stanS]
        rw [h]; exact T0.out⟩
      case round =>
        clear T0
        obtain ⟨k, O, on, od, pc, hk, rfl, rfl, HY⟩ := hrel
        by_cases hlt : k < dn
        · obtain ⟨wp, rfl⟩ : ∃ wp : World, wp = wr := ⟨_, rfl⟩
          have hkt : k < Ts.length := by rw [HDN.out]; exact hlt
          obtain ⟨ad, A3, n3, c3, tc, rfl, z0, -, o3, -⟩ := HY.out.al.cell hlt
          obtain ⟨T, hT⟩ : ∃ T, T = Ts.getD k [] := ⟨_, rfl⟩
          rw [← hT] at o3
          have HTK : Hid (stanS (Ts.take (k + 1)) = addP (stanS (Ts.take k)) (shapeT T) 1) := by show _ = _; rw [stanS_take hkt, hT]
          have HTL : Hid (Low T) := by
            obtain ⟨v, hv, e⟩ := HTS.out T (by rw [hT, List.getD, List.getElem?_eq_getElem hkt]; exact List.getElem_mem _)
            rw [e]
            exact (HWS.out.2.2 v hv).tab.2
          have HN3 : Hid (T.length = n3) := OS.lenS o3
          have hn3 : n3 ≤ 1000 := by rw [← HN3.out]; exact HTL.out.1
          have HO3 := Lib.hid o3
          have HSP : Hid (w.heap.size ≤ wp.heap.size) := HY.out.bel.size
          have HPC : Hid (∀ u ∈ pc, ∀ g, u.ownBlock = some g → g < wp.heap.size) := fun u hu g e => (HY.out.ps.2.1.ltD hu g e).2
          have HSH0 : Hid (OI (wp.alloc (.cells #[] 3)) wp.heap.size (.slice (some ⟨wp.heap.size, 0, none⟩) 0 0) [] ∧ Below wp.heap.size wp (wp.alloc (.cells #[] 3))) := by
            refine ⟨?_, (Below.refl _ _).alloc (Nat.le_refl _) _⟩
            have h := OI.lit wp wp.heap.size [] 0 rfl (Nat.le_refl _) (by simp)
            exact h
          clear hT o3 hkt
          go_wp2_with fail
          go_loopw [15, 61] (fun sv i wr => ∃ (j : Nat) (E : Option Addr) (en ed : Nat), j ≤ n3 ∧ i = .int .i64 (j : Int) ∧ sv = .slice E en ed ∧ Hid (OI wr wp.heap.size (.slice E en ed) ((shapeT T).take j) ∧ Below wp.heap.size wp wr)) (fun _ i _ => n3 - (intOf i).toNat)
          case atStart => exact ⟨0, _, _, _, Nat.zero_le _, rfl, rfl, by rw [List.take_zero]; exact HSH0.out⟩
          case round =>
            clear HSH0
            obtain ⟨j, E, en, ed, hj, rfl, rfl, HZ⟩ := hrel
            by_cases hlt2 : j < n3
            · obtain ⟨ad3, A5, n5, c5, rfl, z5, -, o5, -⟩ := OS.cell (OF.below HO3.out HZ.out.2) hlt2
              have hjl : j < (shapeT T).length := by rw [shapeT_len, HN3.out]; exact hlt2
              have HN5 : Hid ((shapeT T).take (j + 1) = (shapeT T).take j ++ [(n5 : Int)]) := by
                show _ = _
                rw [take_succ_nth hjl, nth_shapeT (by rw [HN3.out]; exact hlt2), o5.ri.1]
              have HLE : Hid (((shapeT T).take j).length + 1 ≤ 1000000000000) := by show _ ≤ _; rw [List.length_take]; omega
              have HSZ : Hid (wp.heap.size ≤ wr.heap.size) := HZ.out.2.size
              clear o5 hjl
              go_wp2_with (first
                | (at_builtin; refine wpApp1 rfl _ _ rfl wp.heap.size (.slice E en ed) ((shapeT T).take j) (n5 : Int) rfl (by exact HZ.out.1) rfl HLE.out HSZ.out ?_; intro v6 w6 o6 g6 k6)
                | fail)
              obtain ⟨A6, n6, c6, rfl, -⟩ := o6.form
              have F6 : Hid (OI w6 wp.heap.size (.slice A6 n6 c6) ((shapeT T).take (j + 1)) ∧ Below wp.heap.size wp w6) := by
                refine ⟨by rw [HN5.out]; exact o6, HZ.out.2.grown g6 HZ.out.2.size fun q hq => (HZ.out.1.lt q hq).1⟩
              clear o6 g6 k6
              go_roundw
              case rel => exact ⟨j + 1, _, _, _, by omega, by go_num, rfl, F6.out⟩
              case measure => simp [intOf]; omega
            · have hse : (shapeT T).take j = shapeT T := List.take_of_length_le (by rw [shapeT_len, HN3.out]; omega)
              obtain ⟨w7, hw7⟩ : ∃ W : World, W = wr := ⟨_, rfl⟩
              subst hw7
              have HSH : Hid (OI w7 wp.heap.size (.slice E en ed) (shapeT T)) := by
                have h := HZ.out.1
                rw [hse] at h
                exact h
              have HY7 : Hid (StB w w7 (.slice (some ad) dn dd) (.slice O on od) Ts ac (stanS (Ts.take k)) pc) := HY.out.below HZ.out.2
              have HEN : Hid (en = n3) := by show _ = _; rw [← HSH.out.ri.1, shapeT_len]; exact HN3.out
              have hen : en ≤ 1000 := by rw [HEN.out]; exact hn3
              obtain ⟨ps, hps⟩ : ∃ ps, ps = stanS (Ts.take k) := ⟨_, rfl⟩
              have HGR : Hid (Grows ps k) := by show Grows ps k; rw [hps]; exact stanS_grows Ts k (by rw [HDN.out]; exact hk)
              have HPL : Hid (ps.length ≤ 800) := by show _ ≤ _; rw [hps]; exact HT800.out k hk
              have HPM : Hid (∀ j, j < ps.length → (nthP ps j).1.length ≤ 1000000000000) := fun j hj => by
                obtain ⟨T', hT', e⟩ := stanS_mem k (by rw [HDN.out]; exact hk) (nthP ps j) (by rw [← hps]; exact nthP_mem hj)
                obtain ⟨v, hv, e2⟩ := HTS.out T' hT'
                rw [e, shapeT_len, e2]
                have := (HWS.out.2.2 v hv).tab.2.1
                omega
              rw [← hps] at HY7 HTK
              have HON : Hid (ps.length = on) := by
                obtain ⟨A', n', c', hv, h1, -⟩ := OP.form HY7.out.ps
                show _ = _
                rw [h1, (slice_inj hv).2.1]
              have hon : on ≤ 800 := by rw [← HON.out]; exact HPL.out
              obtain ⟨p, hp⟩ := place_of ps HGR.out.srt (shapeT T)
              have hple := hp.le
              rw [HON.out] at hple
              have HP := Lib.hid hp
              have HBS : Hid (Calls Try.prog 80 #[.slice O on od, .slice E en ed, .func (.func 81) #[] #[]] w7 (fun e w' => e = .returned (.tuple #[.int .i64 (p : Int), .bool (fndB ps (shapeT T) p)]) ∧ Below w7.heap.size w7 w')) := bin_stan od ed HY7.out.ps HSH.out.ri hp (by omega) (by omega) HPM.out
              clear hse hps hp HY HZ
              rcases hf : fndB ps (shapeT T) p with _ | _
              · have hfn := fnd_no hf
                have HADD := Lib.hid (addP_new (n := 1) (by omega) HP.out hfn)
                rw [hf] at HBS
                clear hf hfn
                go_upto_region 24 with (first | (go_at_call 80; refine HBS.out.mono ?_; rintro e w8 ⟨rfl, b8⟩) | fail)
                have HY8 := Lib.hid (HY7.out.below b8)
                have S8 : Hid (OI w8 w.heap.size (.slice E en ed) (shapeT T)) := (HSH.out.below b8).mono HSP.out
                have HAP : Hid (∀ u' ∈ pc, u'.ownBlock = none ∨ u'.ownBlock ≠ (Value.slice E en ed).ownBlock) := fun u' hu' => by
                  rcases hq : u'.ownBlock with _ | g
                  · exact .inl rfl
                  · refine .inr fun e => ?_
                    have h1 := HPC.out u' hu' g hq
                    have h2 := (HSH.out.lt g e.symm).1
                    omega
                have HSZ8 : Hid (w.heap.size ≤ w8.heap.size) := HY8.out.bel.size
                clear b8
                go_upto_region 25 with (first | (go_at_call 83; refine (insert_any (y := 0) od HY8.out.ps S8.out HAP.out hple (by omega) HSZ8.out).mono ?_; rintro e w9 ⟨v9, cells9, rfl, o9, gr9, f9⟩) | fail)
                obtain ⟨A9, n9, c9, rfl, hn9, hc9, hc963⟩ := o9.form
                have hn9' : n9 = on + 1 := by rw [← hn9, putAt_len _ _ _ (by rw [HON.out]; exact hple), HON.out]; rfl
                subst hn9'
                obtain ⟨G, cc, hGG, hGb, hGlt⟩ := OF.shape o9 (by rw [hn9]; omega)
                obtain ⟨rfl, e2, e3⟩ := slice_inj hGG
                clear e2 e3 hGG
                have hpl9 : p < (putAt ps p [(shapeT T, (0 : Int))]).length := by rw [hn9]; omega
                obtain ⟨A10, n10, c10, k1, _, k2, _, k4⟩ := OP.cell o9 hpl9
                rw [putAt_at (by rw [HON.out]; exact hple)] at k4
                have k4' : w9.cell? ⟨G, p * 2 + 1, none⟩ = some (.int .i64 0) := k4
                have hfz : w9.frozen? ⟨G, p * 2 + 1, none⟩ = false := OP.frozen o9 _
                obtain ⟨o11, gr11⟩ := OP.setCount o9 hpl9 1
                have hbA : Below w8.heap.size w8 (w8.alloc (.cells #[.slice E en ed, .int .i64 0] 47)) := (Below.refl _ _).alloc (Nat.le_refl _) _
                have h9 := (HY8.out.below hbA).grow gr9 o9
                have h11 := h9.grow gr11 o11
                rw [putAt_at (by rw [HON.out]; exact hple), putAt_again (by rw [HON.out]; exact hple)] at h11
                have F11 : Hid (StB w (w9.setCell ⟨G, p * 2 + 1, none⟩ (.int .i64 1)) (.slice (some ad) dn dd) (.slice (some ⟨G, 0, none⟩) (on + 1) c9) Ts ac (stanS (Ts.take (k + 1))) (cells9.set (p * 2 + 1) (.int .i64 1))) := by
                  rw [HTK.out, HADD.out]
                  exact h11
                have hpn : p < on + 1 := by omega
                have hpn2 : (p : Int) < ((on + 1 : Nat) : Int) := by omega
                clear o9 gr9 f9 o11 gr11 hbA h9 h11 k1 k2 k4 hn9 hpl9
                go_wp2_with fail
                go_roundw
                case rel => exact ⟨k + 1, _, _, _, _, by omega, by go_num, rfl, F11.out⟩
                case measure => simp [intOf]; omega
              · obtain ⟨hpl, hpe⟩ := fnd_yes hf
                have hcnt := HGR.out.cnt _ (nthP_mem hpl)
                have HADD := Lib.hid (addP_found (n := 1) (by omega) HP.out.lo hpl hpe (by omega))
                rw [hf] at HBS
                clear hf
                go_upto_region 25 with (first | (go_at_call 80; refine HBS.out.mono ?_; rintro e w8 ⟨rfl, b8⟩) | fail)
                have HY8 := Lib.hid (HY7.out.below b8)
                obtain ⟨G, cc, hGG, hGb, hGlt⟩ := OF.shape HY8.out.ps (by omega)
                obtain ⟨rfl, e2, e3⟩ := slice_inj hGG
                clear e2 e3 hGG
                obtain ⟨A4, n4, c4, k1, _, k2, _, k4⟩ := OP.cell HY8.out.ps hpl
                have hfz : w8.frozen? ⟨G, p * 2 + 1, none⟩ = false := OP.frozen HY8.out.ps _
                obtain ⟨x, hx2⟩ : ∃ x, x = (nthP ps p).2 := ⟨_, rfl⟩
                rw [← hx2] at k4 hcnt
                obtain ⟨o5, gr5⟩ := OP.setCount HY8.out.ps hpl (x + 1)
                have h9 := HY8.out.grow gr5 o5
                rw [hpe] at h9
                have F9 : Hid (StB w (w8.setCell ⟨G, p * 2 + 1, none⟩ (.int .i64 (x + 1))) (.slice (some ad) dn dd) (.slice (some ⟨G, 0, none⟩) on od) Ts ac (stanS (Ts.take (k + 1))) (pc.set (p * 2 + 1) (.int .i64 (x + 1)))) := by
                  rw [HTK.out, HADD.out, ← hx2]
                  exact h9
                have hpn : p < on := by rw [← HON.out]; exact hpl
                have hpn2 : (p : Int) < (on : Int) := by omega
                have hw : IntKind.i64.wrap (x + 1) = x + 1 := by rw [IntKind.wrap_i64]; omega
                clear o5 gr5 hx2 hpe hpl h9 k1 k2 b8
                go_wp2_with fail
                go_roundw
                case rel => exact ⟨k + 1, _, _, _, _, by omega, by go_num, rfl, F9.out⟩
                case measure => simp [intOf]; omega
        · have hds : Hid (stanS (Ts.take k) = stanS Ts) := by show _ = _; rw [List.take_of_length_le (by rw [HDN.out]; omega)]
          go_wp2_with fail
          go_ret2
          rw [HE.out, ← hds.out]
          exact MakesPb.of HY.out.ps HY.out.bel
end Go.Proofs.Ytgbojgmmingfdaa
