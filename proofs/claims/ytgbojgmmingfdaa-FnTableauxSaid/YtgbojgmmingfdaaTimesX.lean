/- times of the program: the walk. -/
import Derived.Test.YtgbojgmmingfdaaPlusW
import Derived.BigRegion
namespace Go.Proofs.Ytgbojgmmingfdaa
open Go.RowKit Go.Maps Go.MapKept Go.WideMaps

theorem PR.grownE {H : Type} {w w' : World} {b r n cnt k : Nat} {acc L : List (List Int × Int)} (h : PR H w b r n acc L cnt) (hg : w.grownBy w' (some k)) (h1 : b ≠ k) (h2 : r ≠ k) : PR H w' b r n acc L cnt :=
  h.kept hg (fun e => h1 (by injection e)) (fun e => h2 (by injection e))
theorem kv_cells (e : List Int) : kv e = .agg (cellsI e).toArray := rfl
set_option maxRecDepth 100000 in
set_option maxHeartbeats 4000000 in
theorem times_any {H : Type} {w : World} {b1 b2 n1 n2 : Nat} {E1 E2 : Int} {f g : List (List Int × Int)} (hf : PM H w b1 n1 f) (hg : PM H w b2 n2 g) (pf : PolE E1 f) (pg : PolE E2 g) (hE : 0 ≤ E1 + E2 ∧ E1 + E2 ≤ 127) (hE1 : E1 ≤ 127) (hE2 : E2 ≤ 127) (hA : absT f * absT g ≤ 1000000000000000000)
    (hL : f.length * g.length ≤ 10000000) (hL1 : f.length ≤ 10000000) (hL2 : g.length ≤ 10000000) :
    Calls Try.prog 181 #[.map (some b1), .map (some b2)] w (MakesK H w (E1 + E2) (absT f * absT g) (gatherK ((prodT f g).map kc))) := by
  have gf := pf.good (by omega)
  have gg := pg.good (by omega)
  have HF := Lib.hid hf
  have HG := Lib.hid hg
  have HGF := Lib.hid gf
  have HGG := Lib.hid gg
  have HPF := Lib.hid pf
  have HPG := Lib.hid pg
  have HA := Lib.hid hA
  have HL := Lib.hid hL
  have hmm := fun t w => run_makeMap (P := Try.prog) t w
  obtain ⟨w1, e1⟩ : ∃ W, W = w.alloc (.map #[] 0) := ⟨_, rfl⟩
  have HO1 : Hid (TimS H w w1 (E1 + E2) 0 []) := by rw [e1]; exact ⟨⟨[], PM.made w, PolE.nil_ _, Nat.le_refl _, fun q => rfl⟩, (Below.refl _ _).alloc (Nat.le_refl _) _⟩
  have HF1 : Hid (PM H w1 b1 n1 f) := by rw [e1]; exact hf.alloc _
  have HSF : Hid (b1 < w.heap.size ∧ b2 < w.heap.size) := ⟨hf.lt, hg.lt⟩
  have E1' := Lib.hid e1
  clear e1 hf hg gf gg pf pg hA hL
  go_enter Try.func181, Try.ntmps181
  go_wp2_with (first | (rw [← E1'.out]; at_range; refine wpList_range_poly _ rfl _ rfl b1 n1 f rfl HF1.out HGF.out ?_; intro w2 hpr g2 s2) | fail)
  have HR2 := Lib.hid hpr
  have b12 : Below w1.heap.size w1 w2 := ⟨g2.os, g2.tape, g2.output, g2.size, fun i hi => g2.block i hi (by simp)⟩
  have HO2 : Hid (TimS H w w2 (E1 + E2) 0 []) := HO1.out.below b12
  have HR1 : Hid (w.heap.size < w1.heap.size ∧ w1.heap.size < w2.heap.size) := ⟨HO1.out.lt, by omega⟩
  clear hpr g2 s2 b12
  go_frame
  go_loopw [6, 7, 8, 9, 10, 11, 15, 16] (fun _ _ _ _ _ _ _ _ wr => ∃ (L : List (List Int × Int)) (cnt : Nat), Hid (PR H wr b1 w1.heap.size n1 f L cnt ∧ TimS H w wr (E1 + E2) (L.length * g.length) (prodT L g) ∧ w2.heap.size ≤ wr.heap.size)) (fun _ _ _ _ _ _ _ _ wr => wr.rangeLeft b1 w1.heap.size)
  case atStart => exact ⟨[], _, HR2.out, by simpa [prodT] using HO2.out, Nat.le_refl _⟩
  case round =>
    obtain ⟨L, cnt, HX⟩ := hrel
    go_wp2_with (first | (at_next; refine wpList_next_poly _ rfl _ rfl b1 w1.heap.size n1 f L cnt rfl HX.out.1 HGF.out ?_ ?_) | fail)
    · intro h0 hperm
      have HFIN : Hid (MakesK H w (E1 + E2) (absT f * absT g) (gatherK ((prodT f g).map kc)) (.returned (.map (some w.heap.size))) wr) := by
        obtain ⟨-, ⟨⟨acc, a1, a2, a3, a4⟩, a5⟩, -⟩ := HX.out
        refine ⟨_, rfl, Nat.le_refl _, ⟨_, acc, a1, by rw [hperm.length_eq]; have := HL.out; omega, a2, ?_, ?_⟩, a5⟩
        · rw [prodT_abs, absT_perm hperm] at a3; exact a3
        · unfold kf
          refine gatherK_congr fun q => ?_
          rw [a4, coefK_perm ((prodT_perm hperm (List.Perm.refl g)).map kc)]
      clear hperm
      go_wp2
      go_ret
      exact HFIN.out
    · intro ea za w3 cnt' hec hpr3 hlt g3 s3 hen
      have hE7 := (HGF.out.2 _ hec).1
      have HEA : Hid (ea.length = 7 ∧ ∀ j, 0 ≤ nth ea j ∧ nth ea j ≤ E1) := (HPF.out.ok _ hec).1
      obtain ⟨x0, x1, x2, x3, x4, x5, x6, rfl⟩ := hE7.seven
      have hen' : (Instr.entry (.pointer (some ⟨w1.heap.size, 0, none⟩))).run Try.prog w3 = .ok (.tuple #[.agg #[.int .i64 x0, .int .i64 x1, .int .i64 x2, .int .i64 x3, .int .i64 x4, .int .i64 x5, .int .i64 x6], .int .i64 za]) w3 := hen
      have HY : Hid (PR H w3 b1 w1.heap.size n1 f (L ++ [([x0, x1, x2, x3, x4, x5, x6], za)]) cnt' ∧ cnt' < cnt ∧ TimS H w w3 (E1 + E2) (L.length * g.length) (prodT L g) ∧ w2.heap.size ≤ w3.heap.size) := by
        refine ⟨hpr3, hlt, HX.out.2.1.kept g3 HR1.out.1, by have := HX.out.2.2; omega⟩
      clear hec hpr3 hlt g3 s3 hen hE7
      obtain ⟨w4, e4⟩ : ∃ W, W = w3.alloc (.cells #[.int .i64 x0, .int .i64 x1, .int .i64 x2, .int .i64 x3, .int .i64 x4, .int .i64 x5, .int .i64 x6] 76) := ⟨_, rfl⟩
      have b4 : Below w3.heap.size w3 w4 := by rw [e4]; exact (Below.refl _ _).alloc (Nat.le_refl _) _
      have K4 : Hid (BK w4 w3.heap.size 76 (cellsI [x0, x1, x2, x3, x4, x5, x6])) := by rw [e4]; exact BK.new w3 _ _
      have B4 := Lib.hid b4
      have E4 := Lib.hid e4
      have HGW : Hid (PM H w4 b2 n2 g) := by
        have h := HY.out.2.2.1.bel
        exact (HG.out.same (h.block _ HG.out.lt)).same (b4.block _ (Nat.lt_of_lt_of_le HG.out.lt h.size))
      have hs4 : w4.heap.size = w3.heap.size + 1 := by rw [e4]; simp
      obtain ⟨wo, rfl⟩ : ∃ wo : World, wo = wr := ⟨_, rfl⟩
      clear b4 e4
      go_wp2_with (first | (rw [← E4.out]; at_range; refine wpList_range_poly _ rfl _ rfl b2 n2 g rfl HGW.out HGG.out ?_; intro w6 hpr6 g6 s6) | fail)
      have b46 : Below w4.heap.size w4 w6 := ⟨g6.os, g6.tape, g6.output, g6.size, fun i hi => g6.block i hi (by simp)⟩
      have HR6 := Lib.hid hpr6
      have HZ : Hid (PR H w6 b1 w1.heap.size n1 f (L ++ [([x0, x1, x2, x3, x4, x5, x6], za)]) cnt' ∧ TimS H w w6 (E1 + E2) (L.length * g.length) (prodT L g) ∧ BK w6 w3.heap.size 76 (cellsI [x0, x1, x2, x3, x4, x5, x6])) :=
        ⟨(HY.out.1.below B4.out).below b46, (HY.out.2.2.1.below B4.out).below b46, K4.out.below b46 (by omega)⟩
      have HRR : Hid (w3.heap.size < w4.heap.size ∧ w1.heap.size < w3.heap.size ∧ w4.heap.size < w6.heap.size) := ⟨by omega, by have := HY.out.2.2.2; have := HR1.out; omega, by omega⟩
      clear hpr6 g6 s6 b46 hs4
      go_frame
      go_loopw [8, 9, 10, 11, 22, 23] (fun _ _ _ _ _ _ wr => ∃ (M : List (List Int × Int)) (cnt2 : Nat), Hid (PR H wr b2 w4.heap.size n2 g M cnt2 ∧ PR H wr b1 w1.heap.size n1 f (L ++ [([x0, x1, x2, x3, x4, x5, x6], za)]) cnt' ∧ TimS H w wr (E1 + E2) (L.length * g.length + M.length) (prodT L g ++ oneT ([x0, x1, x2, x3, x4, x5, x6], za) M) ∧ BK wr w3.heap.size 76 (cellsI [x0, x1, x2, x3, x4, x5, x6]) ∧ w6.heap.size ≤ wr.heap.size)) (fun _ _ _ _ _ _ wr => wr.rangeLeft b2 w4.heap.size)
      case atStart => exact ⟨[], _, HR6.out, HZ.out.1, by simpa [oneT] using HZ.out.2.1, HZ.out.2.2, Nat.le_refl _⟩
      case round =>
        obtain ⟨M, cnt2, HM⟩ := hrel
        go_wp2_with (first | (at_next; refine wpList_next_poly _ rfl _ rfl b2 w4.heap.size n2 g M cnt2 rfl HM.out.1 HGG.out ?_ ?_) | fail)
        · intro h02 hperm2
          have HT : Hid (TimS H w wr (E1 + E2) ((L ++ [([x0, x1, x2, x3, x4, x5, x6], za)]).length * g.length) (prodT (L ++ [([x0, x1, x2, x3, x4, x5, x6], za)]) g)) := by
            obtain ⟨⟨acc, a1, a2, a3, a4⟩, a5⟩ := HM.out.2.2.1
            have hl := hperm2.length_eq
            refine ⟨⟨acc, ?_, a2, ?_, fun q => ?_⟩, a5⟩
            · rw [List.length_append, List.length_singleton, Nat.add_mul, Nat.one_mul, ← hl]
              rw [hl] at a1 ⊢
              exact a1
            · rw [absT_app, oneT_abs, absT_perm hperm2] at a3
              rw [prodT_snoc, absT_app, oneT_abs]; exact a3
            · rw [a4, prodT_snoc, List.map_append, List.map_append, coefK_append, coefK_append]
              congr 1
              exact coefK_perm ((hperm2.map _).map kc) q
          clear hperm2
          go_wp2
          go_roundw
          case rel => exact ⟨_, cnt', HM.out.2.1, HT.out, by have := HM.out.2.2.2.2; have := HRR.out; have := HY.out.2.2.2; omega⟩
          case measure =>
            rw [HM.out.2.1.left_eq, HX.out.1.left_eq]
            exact HY.out.2.1
        · intro eb zb w7 cnt3 hec hpr7 hlt g7 s7 hen
          have hE7 := (HGG.out.2 _ hec).1
          have HEB : Hid (eb.length = 7 ∧ ∀ j, 0 ≤ nth eb j ∧ nth eb j ≤ E2) := (HPG.out.ok _ hec).1
          obtain ⟨y0, y1, y2, y3, y4, y5, y6, rfl⟩ := hE7.seven
          have hen' : (Instr.entry (.pointer (some ⟨w4.heap.size, 0, none⟩))).run Try.prog w7 = .ok (.tuple #[.agg #[.int .i64 y0, .int .i64 y1, .int .i64 y2, .int .i64 y3, .int .i64 y4, .int .i64 y5, .int .i64 y6], .int .i64 zb]) w7 := hen
          have HM7 : Hid (PR H w7 b2 w4.heap.size n2 g (M ++ [([y0, y1, y2, y3, y4, y5, y6], zb)]) cnt3 ∧ cnt3 < cnt2 ∧ PR H w7 b1 w1.heap.size n1 f (L ++ [([x0, x1, x2, x3, x4, x5, x6], za)]) cnt' ∧ TimS H w w7 (E1 + E2) (L.length * g.length + M.length) (prodT L g ++ oneT ([x0, x1, x2, x3, x4, x5, x6], za) M) ∧ BK w7 w3.heap.size 76 (cellsI [x0, x1, x2, x3, x4, x5, x6]) ∧ w6.heap.size ≤ w7.heap.size) := by
            obtain ⟨m1, m2, m3, m4, m5⟩ := HM.out
            have h1 := HRR.out
            have h2 := HR1.out
            have h3 := HSF.out
            exact ⟨hpr7, hlt, m2.grownE g7 (by omega) (by omega), m3.kept g7 (by omega), m4.same (g7.block _ m4.lt fun e => by injection e; omega), by omega⟩
          have HMET : Hid (M.length + 1 ≤ g.length ∧ L.length + 1 ≤ f.length ∧ absT (M ++ [([y0, y1, y2, y3, y4, y5, y6], zb)]) ≤ absT g ∧ absT (L ++ [([x0, x1, x2, x3, x4, x5, x6], za)]) ≤ absT f) := by
            have h1 := hpr7.len
            have h2 := HM.out.2.1.len
            rw [List.length_append, List.length_singleton] at h1 h2
            exact ⟨h1, h2, hpr7.met.abs, HM.out.2.1.met.abs⟩
          obtain ⟨wp, rfl⟩ : ∃ wp : World, wp = wr := ⟨_, rfl⟩
          clear hec hpr7 hlt g7 s7 hen hE7
          obtain ⟨w8, e8⟩ : ∃ W, W = w7.alloc (.cells #[.int .i64 y0, .int .i64 y1, .int .i64 y2, .int .i64 y3, .int .i64 y4, .int .i64 y5, .int .i64 y6] 76) := ⟨_, rfl⟩
          have b8 : Below w7.heap.size w7 w8 := by rw [e8]; exact (Below.refl _ _).alloc (Nat.le_refl _) _
          have K8 : Hid (BK w8 w7.heap.size 76 (cellsI [y0, y1, y2, y3, y4, y5, y6])) := by rw [e8]; exact BK.new w7 _ _
          have hs8 : w8.heap.size = w7.heap.size + 1 := by rw [e8]; simp
          have B8 := Lib.hid b8
          have E8 := Lib.hid e8
          have KA : ∀ o, BK (w7.alloc o) w3.heap.size 76 (cellsI [x0, x1, x2, x3, x4, x5, x6]) := fun o => HM7.out.2.2.2.2.1.alloc o
          have q0 : ∀ o, (w7.alloc o).cell? ⟨w3.heap.size, 0, none⟩ = some (.int .i64 x0) := fun o => (KA o).cell (j := 0) rfl
          have q1 : ∀ o, (w7.alloc o).cell? ⟨w3.heap.size, 1, none⟩ = some (.int .i64 x1) := fun o => (KA o).cell (j := 1) rfl
          have q2 : ∀ o, (w7.alloc o).cell? ⟨w3.heap.size, 2, none⟩ = some (.int .i64 x2) := fun o => (KA o).cell (j := 2) rfl
          have q3 : ∀ o, (w7.alloc o).cell? ⟨w3.heap.size, 3, none⟩ = some (.int .i64 x3) := fun o => (KA o).cell (j := 3) rfl
          have q4 : ∀ o, (w7.alloc o).cell? ⟨w3.heap.size, 4, none⟩ = some (.int .i64 x4) := fun o => (KA o).cell (j := 4) rfl
          have q5 : ∀ o, (w7.alloc o).cell? ⟨w3.heap.size, 5, none⟩ = some (.int .i64 x5) := fun o => (KA o).cell (j := 5) rfl
          have q6 : ∀ o, (w7.alloc o).cell? ⟨w3.heap.size, 6, none⟩ = some (.int .i64 x6) := fun o => (KA o).cell (j := 6) rfl
          obtain ⟨w9, e9⟩ : ∃ W, W = w8.alloc (.cells #[.int .i64 x0, .int .i64 x1, .int .i64 x2, .int .i64 x3, .int .i64 x4, .int .i64 x5, .int .i64 x6] 76) := ⟨_, rfl⟩
          have b9 : Below w8.heap.size w8 w9 := by rw [e9]; exact (Below.refl _ _).alloc (Nat.le_refl _) _
          have K9 : Hid (BK w9 (w7.heap.size + 1) 76 (cellsI [x0, x1, x2, x3, x4, x5, x6])) := by rw [e9, ← hs8]; exact BK.new w8 _ _
          have B9 := Lib.hid b9
          have E9 := Lib.hid e9
          have HS8 : Hid (w8.heap.size = w7.heap.size + 1) := hs8
          clear b8 e8 b9 e9 hs8 KA
          go_wp2
          rw [show w7.alloc (.cells #[.int .i64 y0, .int .i64 y1, .int .i64 y2, .int .i64 y3, .int .i64 y4, .int .i64 y5, .int .i64 y6] 76) = w8 from E8.out.symm]
          rw [show w8.alloc (.cells #[.int .i64 x0, .int .i64 x1, .int .i64 x2, .int .i64 x3, .int .i64 x4, .int .i64 x5, .int .i64 x6] 76) = w9 from E9.out.symm]
          obtain ⟨a, ha⟩ : ∃ a, a = [x0, x1, x2, x3, x4, x5, x6] := ⟨_, rfl⟩
          obtain ⟨b, hb⟩ : ∃ b, b = [y0, y1, y2, y3, y4, y5, y6] := ⟨_, rfl⟩
          rw [← ha] at K9 HEA
          rw [← hb] at K8 HEB
          have HAX := Lib.hid ha
          have HBX := Lib.hid hb
          obtain ⟨g8, hg8⟩ : ∃ g, g = w7.heap.size := ⟨_, rfl⟩
          have HG8 := Lib.hid hg8
          rw [← hg8] at K8 K9 HS8 ⊢
          clear ha hb hg8 q0 q1 q2 q3 q4 q5 q6
          have HK9 : Hid (BK w9 (g8 + 1) 76 (cellsI (mixE a b 0)) ∧ Below w8.heap.size w8 w9) := by rw [mixE_zero HEA.out.1]; exact ⟨K9.out, B9.out⟩
          go_loopw [11, 28] (fun _ iv wq => ∃ i : Nat, i ≤ 7 ∧ iv = .int .i64 (i : Int) ∧ Hid (BK wq (g8 + 1) 76 (cellsI (mixE a b i)) ∧ Below w8.heap.size w8 wq)) (fun _ iv _ => 7 - (intOf iv).toNat)
          case atStart => exact ⟨0, by omega, rfl, HK9.out⟩
          case round =>
            obtain ⟨i, hi, rfl, HQ⟩ := hrel
            by_cases hi7 : i < 7
            · obtain ⟨u, hu⟩ : ∃ u, u = nth a i := ⟨_, rfl⟩
              obtain ⟨v, hv⟩ : ∃ u, u = nth b i := ⟨_, rfl⟩
              have x1' : wr.cell? ⟨g8 + 1, i, none⟩ = some (.int .i64 u) := by
                have h := HQ.out.1.cell (cellsI_at (mixE a b i) i (by rw [mixE_len]; exact hi7))
                rw [mixE_at hi7, ← hu] at h
                exact h
              have x2' : wr.cell? ⟨g8, i, none⟩ = some (.int .i64 v) := by
                have h := (K8.out.below HQ.out.2 (by have := HS8.out; omega)).cell (cellsI_at b i (by rw [HEB.out.1]; exact hi7))
                rw [← hv] at h
                exact h
              have x3' : wr.frozen? ⟨g8 + 1, i, none⟩ = false := HQ.out.1.frozen
              have hub := HEA.out.2 i
              have hvb := HEB.out.2 i
              rw [← hu] at hub
              rw [← hv] at hvb
              have hw : IntKind.i64.wrap (u + v) = u + v := IntWalk.i64_in _ (by omega)
              have HST : Hid (∀ nq, BK ((wr.drewN nq).setCell ⟨g8 + 1, i, none⟩ (.int .i64 (u + v))) (g8 + 1) 76 (cellsI (mixE a b (i + 1))) ∧ Below w8.heap.size w8 ((wr.drewN nq).setCell ⟨g8 + 1, i, none⟩ (.int .i64 (u + v)))) := fun nq => by
                refine ⟨?_, (below_drewN HQ.out.2 nq).setCell (by have := HS8.out; simp only; omega) _⟩
                have h := BK.set (w := wr.drewN nq) HQ.out.1 i (.int .i64 (u + v))
                rw [cellsI_set, hu, hv, mixE_set hi7] at h
                rw [hu, hv]
                exact h
              clear hu hv
              go_wp2
              go_region
              go_wp2
              go_roundw
              case rel => exact ⟨i + 1, by omega, by go_num, HST.out 1⟩
              case measure => simp [intOf]; omega
            · have HQ7 : Hid (BK wr (g8 + 1) 76 (cellsI (addE a b))) := by
                have h := HQ.out.1
                rw [show i = 7 by omega, mixE_all] at h
                exact h
              obtain ⟨ev, hev⟩ : ∃ ev, ev = addE a b := ⟨_, rfl⟩
              rw [← hev] at HQ7
              have HEV := Lib.hid hev
              have hl7 : ev.length = 7 := by rw [hev]; exact gen_len _ _
              have HEB2 : Hid (ev.length = 7 ∧ ∀ j, 0 ≤ nth ev j ∧ nth ev j ≤ E1 + E2) := by
                refine ⟨hl7, fun j => ?_⟩
                by_cases hj : j < 7
                · rw [hev, addE_at _ _ hj]
                  have h1 := HEA.out.2 j
                  have h2 := HEB.out.2 j
                  omega
                · rw [nth_ge (by omega)]; omega
              obtain ⟨Z, hZ⟩ : ∃ Z, Z = za * zb := ⟨_, rfl⟩
              have hsn : (prodT L g ++ oneT (a, za) M) ++ [(ev, Z)] = prodT L g ++ oneT (a, za) (M ++ [(b, zb)]) := by
                rw [oneT_snoc, hev, hZ, List.append_assoc]
              have habs : absT ((prodT L g ++ oneT (a, za) M) ++ [(ev, Z)]) ≤ absT f * absT g := by
                rw [hsn, absT_app, prodT_abs, oneT_abs]
                have h1 := HMET.out.2.2.2
                rw [absT_app, absT_cons] at h1
                have h2 := HMET.out.2.2.1
                have h3 : za.natAbs * absT (M ++ [([y0, y1, y2, y3, y4, y5, y6], zb)]) ≤ za.natAbs * absT g := Nat.mul_le_mul_left _ h2
                have h4 : (absT L + za.natAbs) * absT g ≤ absT f * absT g := Nat.mul_le_mul_right _ (by simp only at h1; omega)
                rw [Nat.add_mul] at h4
                rw [← HBX.out] at h3
                simp only
                omega
              have hZb : -1000000000000000000 ≤ Z ∧ Z ≤ 1000000000000000000 := by
                rw [absT_app, absT_cons] at habs
                have := HA.out
                simp only at habs
                omega
              have hw : IntKind.i64.wrap (za * zb) = Z := by rw [← hZ]; exact IntWalk.i64_in _ (by omega)
              have HTS : Hid (TimS H w wr (E1 + E2) (L.length * g.length + M.length) (prodT L g ++ oneT (a, za) M)) := by
                have h := (HM7.out.2.2.2.1.below B8.out).below HQ.out.2
                rw [← HAX.out] at h
                exact h
              have HADD : Hid (Calls Try.prog 65 #[.map (some w.heap.size), kv ev, .int .i64 Z] wr (fun r w' => r = .returned (.tuple #[]) ∧ TimS H w w' (E1 + E2) (L.length * g.length + M.length + 1) ((prodT L g ++ oneT (a, za) M) ++ [(ev, Z)]) ∧ wr.grownBy w' (some w.heap.size))) := by
                have h1 := HMET.out
                have h2 := HL.out
                have h3 : (L.length + 1) * g.length ≤ f.length * g.length := Nat.mul_le_mul_right _ h1.2.1
                rw [Nat.add_mul, Nat.one_mul] at h3
                exact TimS.add (x := (ev, Z)) HTS.out HEB2.out (by omega) (by omega) (Nat.le_trans habs HA.out)
              have HSN := Lib.hid hsn
              have HPX : Hid (PR H wr b2 w4.heap.size n2 g (M ++ [([y0, y1, y2, y3, y4, y5, y6], zb)]) cnt3 ∧ PR H wr b1 w1.heap.size n1 f (L ++ [([x0, x1, x2, x3, x4, x5, x6], za)]) cnt' ∧ BK wr w3.heap.size 76 (cellsI [x0, x1, x2, x3, x4, x5, x6]) ∧ w6.heap.size ≤ wr.heap.size) := by
                obtain ⟨m1, m2, m3, m4, m5, m6⟩ := HM7.out
                have hb8 := B8.out
                have hq := HQ.out.2
                refine ⟨(m1.below hb8).below hq, (m3.below hb8).below hq, (m5.below hb8 m5.lt).below hq ?_, ?_⟩
                · have := m5.lt; have := hb8.size; omega
                · have := hb8.size; have := hq.size; omega
              obtain ⟨s0, s1, s2, s3, s4, s5, s6, rfl⟩ : ∃ s0 s1 s2 s3 s4 s5 s6, ev = [s0, s1, s2, s3, s4, s5, s6] := by
                rcases ev with _ | ⟨p0, _ | ⟨p1, _ | ⟨p2, _ | ⟨p3, _ | ⟨p4, _ | ⟨p5, _ | ⟨p6, _ | ⟨p7, r⟩⟩⟩⟩⟩⟩⟩⟩
                all_goals first | exact ⟨_, _, _, _, _, _, _, rfl⟩ | (simp only [List.length_cons, List.length_nil] at hl7; omega)
              have q0 := HQ7.out.cell (j := 0) rfl
              have q1 := HQ7.out.cell (j := 1) rfl
              have q2 := HQ7.out.cell (j := 2) rfl
              have q3 := HQ7.out.cell (j := 3) rfl
              have q4 := HQ7.out.cell (j := 4) rfl
              have q5 := HQ7.out.cell (j := 5) rfl
              have q6 := HQ7.out.cell (j := 6) rfl
              have HADD' : Hid (Calls Try.prog 65 #[.map (some w.heap.size), .agg #[.int .i64 s0, .int .i64 s1, .int .i64 s2, .int .i64 s3, .int .i64 s4, .int .i64 s5, .int .i64 s6], .int .i64 Z] wr (fun r w' => r = .returned (.tuple #[]) ∧ TimS H w w' (E1 + E2) (L.length * g.length + M.length + 1) ((prodT L g ++ oneT (a, za) M) ++ [([s0, s1, s2, s3, s4, s5, s6], Z)]) ∧ wr.grownBy w' (some w.heap.size))) := HADD.out
              clear hev hl7 hZ hsn habs
              go_wp2_with (first | (go_at_call 65; refine HADD'.out.mono ?_; rintro r wE ⟨rfl, p5, g5⟩) | fail)
              have P5 := Lib.hid p5
              have G5 := Lib.hid g5
              have HRL : Hid (PR H wE b2 w4.heap.size n2 g (M ++ [([y0, y1, y2, y3, y4, y5, y6], zb)]) cnt3 ∧ PR H wE b1 w1.heap.size n1 f (L ++ [([x0, x1, x2, x3, x4, x5, x6], za)]) cnt' ∧ BK wE w3.heap.size 76 (cellsI [x0, x1, x2, x3, x4, x5, x6]) ∧ w6.heap.size ≤ wE.heap.size) := by
                obtain ⟨a1, a2, a3, a4⟩ := HPX.out
                have h1 := HRR.out
                have h2 := HR1.out
                have h3 := HSF.out
                exact ⟨a1.grownE G5.out (by omega) (by omega), a2.grownE G5.out (by omega) (by omega), a3.same (G5.out.block _ a3.lt fun e => by injection e; omega), Nat.le_trans a4 G5.out.size⟩
              clear p5 g5
              go_roundw
              case rel =>
                refine ⟨_, cnt3, HRL.out.1, HRL.out.2.1, ?_, HRL.out.2.2.1, HRL.out.2.2.2⟩
                have h := P5.out
                rw [HSN.out, HAX.out, HBX.out] at h
                rw [List.length_append, List.length_singleton, ← Nat.add_assoc]
                exact h
              case measure =>
                rw [HRL.out.1.left_eq, HM.out.1.left_eq]
                exact HM7.out.2.1
end Go.Proofs.Ytgbojgmmingfdaa

/- divided of the program: the walk. -/
namespace Go.Proofs.Ytgbojgmmingfdaa
open Go.RowKit Go.Maps Go.MapKept Go.WideMaps

theorem setCell_grown (w : World) (g j : Nat) (v : Value) : w.grownBy (w.setCell ⟨g, j, none⟩ v) (some g) :=
  ⟨rfl, rfl, rfl, by simp [World.setCell], fun k hk hne => Below.heap_setCell _ _ _ _ (fun e => hne (by rw [e]))⟩
set_option maxRecDepth 100000 in
set_option maxHeartbeats 4000000 in
theorem divided_any {H : Type} {w : World} {b1 n1 : Nat} {E E' : Int} {f : List (List Int × Int)} (i : Nat) (hi : i ≤ 5) (hf : PM H w b1 n1 f) (pf : PolE E f) (hE : 0 ≤ E ∧ E ≤ 127) (hE' : 0 ≤ E' ∧ E' ≤ 127) (hout : ∀ x ∈ f, ∀ y ∈ dvT i x, ∀ j, 0 ≤ nth y.1 j ∧ nth y.1 j ≤ E') (hA : absT f * E.toNat ≤ 1000000000000000000) (hA2 : absT f ≤ 1000000000000000000) (hL : f.length * E.toNat ≤ 80000000) :
    Calls Try.prog 164 #[.map (some b1), .int .i64 (i : Int)] w (MakesK H w E' (absT f * E.toNat) (gatherK ((divL i f).map kc))) := by
  have gf := pf.good (by omega)
  have HF := Lib.hid hf
  have HGF := Lib.hid gf
  have HPF := Lib.hid pf
  have HA := Lib.hid hA
  have HL := Lib.hid hL
  have HOUT := Lib.hid hout
  have HA2 := Lib.hid hA2
  have hmm := fun t w => run_makeMap (P := Try.prog) t w
  obtain ⟨w1, e1⟩ : ∃ W, W = w.alloc (.map #[] 0) := ⟨_, rfl⟩
  have HO1 : Hid (TimS H w w1 E' 0 []) := by rw [e1]; exact ⟨⟨[], PM.made w, PolE.nil_ _, Nat.le_refl _, fun q => rfl⟩, (Below.refl _ _).alloc (Nat.le_refl _) _⟩
  have HF1 : Hid (PM H w1 b1 n1 f) := by rw [e1]; exact hf.alloc _
  have HSF : Hid (b1 < w.heap.size) := hf.lt
  have E1' := Lib.hid e1
  clear e1 hf gf pf hA hL hA2 hout
  go_enter Try.func164, Try.ntmps164
  go_wp2_with (first | (rw [← E1'.out]; at_range; refine wpList_range_poly _ rfl _ rfl b1 n1 f rfl HF1.out HGF.out ?_; intro w2 hpr g2 s2) | fail)
  have HR2 := Lib.hid hpr
  have b12 : Below w1.heap.size w1 w2 := ⟨g2.os, g2.tape, g2.output, g2.size, fun i hi => g2.block i hi (by simp)⟩
  have HO2 : Hid (TimS H w w2 E' 0 []) := HO1.out.below b12
  have HR1 : Hid (w.heap.size < w1.heap.size ∧ w1.heap.size < w2.heap.size) := ⟨HO1.out.lt, by omega⟩
  clear hpr g2 s2 b12
  go_frame
  go_loopw [6, 7, 8, 9, 10, 14, 15] (fun _ _ _ _ _ _ _ wr => ∃ (L : List (List Int × Int)) (cnt : Nat), Hid (PR H wr b1 w1.heap.size n1 f L cnt ∧ TimS H w wr E' (divL i L).length (divL i L) ∧ w2.heap.size ≤ wr.heap.size)) (fun _ _ _ _ _ _ _ wr => wr.rangeLeft b1 w1.heap.size)
  case atStart => exact ⟨[], _, HR2.out, by simpa [divL] using HO2.out, Nat.le_refl _⟩
  case round =>
    obtain ⟨L, cnt, HX⟩ := hrel
    go_wp2_with (first | (at_next; refine wpList_next_poly _ rfl _ rfl b1 w1.heap.size n1 f L cnt rfl HX.out.1 HGF.out ?_ ?_) | fail)
    · intro h0 hperm
      have HFIN : Hid (MakesK H w E' (absT f * E.toNat) (gatherK ((divL i f).map kc)) (.returned (.map (some w.heap.size))) wr) := by
        obtain ⟨-, ⟨⟨acc, a1, a2, a3, a4⟩, a5⟩, -⟩ := HX.out
        have hex : ∀ x ∈ f, ∀ j, 0 ≤ nth x.1 j ∧ nth x.1 j ≤ E := fun x hx => (HPF.out.ok x hx).1.2
        have hpd := divL_perm (i := i) hperm
        refine ⟨_, rfl, Nat.le_refl _, ⟨_, acc, a1, ?_, a2, ?_, ?_⟩, a5⟩
        · rw [hpd.length_eq]
          have h1 := divL_len (i := i) hex
          have h2 := HL.out
          omega
        · rw [absT_perm hpd] at a3
          exact Nat.le_trans a3 (divL_abs hex)
        · unfold kf
          refine gatherK_congr fun q => ?_
          rw [a4, coefK_perm (hpd.map kc)]
      clear hperm
      go_wp2
      go_ret
      exact HFIN.out
    · intro ea za w3 cnt' hec hpr3 hlt g3 s3 hen
      have hE7 := (HGF.out.2 _ hec).1
      have HEA : Hid (ea.length = 7 ∧ ∀ j, 0 ≤ nth ea j ∧ nth ea j ≤ E) := (HPF.out.ok _ hec).1
      obtain ⟨x, hx⟩ : ∃ x, x = ea := ⟨_, rfl⟩
      have HXE := Lib.hid hx
      obtain ⟨x0, x1, x2, x3, x4, x5, x6, rfl⟩ := hE7.seven
      have hen' : (Instr.entry (.pointer (some ⟨w1.heap.size, 0, none⟩))).run Try.prog w3 = .ok (.tuple #[.agg #[.int .i64 x0, .int .i64 x1, .int .i64 x2, .int .i64 x3, .int .i64 x4, .int .i64 x5, .int .i64 x6], .int .i64 za]) w3 := hen
      have HY : Hid (PR H w3 b1 w1.heap.size n1 f (L ++ [(x, za)]) cnt' ∧ cnt' < cnt ∧ TimS H w w3 E' (divL i L).length (divL i L) ∧ w2.heap.size ≤ w3.heap.size) := by
        rw [hx]
        refine ⟨hpr3, hlt, HX.out.2.1.kept g3 HR1.out.1, by have := HX.out.2.2; omega⟩
      obtain ⟨w4, e4⟩ : ∃ W, W = w3.alloc (.cells #[.int .i64 x0, .int .i64 x1, .int .i64 x2, .int .i64 x3, .int .i64 x4, .int .i64 x5, .int .i64 x6] 76) := ⟨_, rfl⟩
      have b4 : Below w3.heap.size w3 w4 := by rw [e4]; exact (Below.refl _ _).alloc (Nat.le_refl _) _
      have K4 : Hid (BK w4 w3.heap.size 76 (cellsI x)) := by rw [e4, hx]; exact BK.new w3 _ _
      have B4 := Lib.hid b4
      have E4 := Lib.hid e4
      have hs4 : w4.heap.size = w3.heap.size + 1 := by rw [e4]; simp
      obtain ⟨wo, rfl⟩ : ∃ wo : World, wo = wr := ⟨_, rfl⟩
      rw [← hx] at HEA
      clear hec hpr3 hlt g3 s3 hen hE7 hx
      go_wp2_with fail
      rw [show w3.alloc (.cells #[.int .i64 x0, .int .i64 x1, .int .i64 x2, .int .i64 x3, .int .i64 x4, .int .i64 x5, .int .i64 x6] 76) = w4 from E4.out.symm]
      obtain ⟨ga, hga⟩ : ∃ g, g = w3.heap.size := ⟨_, rfl⟩
      have HGA := Lib.hid hga
      rw [← hga] at K4 ⊢
      obtain ⟨u, hu⟩ : ∃ u, u = nth x (i + 1) := ⟨_, rfl⟩
      obtain ⟨v, hv⟩ : ∃ u, u = nth x i := ⟨_, rfl⟩
      have c1 : w4.cell? ⟨ga, i + 1, none⟩ = some (.int .i64 u) := by
        rw [hu]
        exact K4.out.cell (cellsI_at x (i + 1) (by rw [HEA.out.1]; omega))
      have c0 : w4.cell? ⟨ga, i, none⟩ = some (.int .i64 v) := by
        rw [hv]
        exact K4.out.cell (cellsI_at x i (by rw [HEA.out.1]; omega))
      have hwi : IntKind.i64.wrap ((i : Int) + 1) = (i : Int) + 1 := IntWalk.i64_in _ (by omega)
      have HU := Lib.hid hu
      have HV := Lib.hid hv
      have hub := HEA.out.2 (i + 1)
      have hvb := HEA.out.2 i
      rw [← hu] at hub
      rw [← hv] at hvb
      obtain ⟨N, hN⟩ : ∃ N, N = (dHi x i - dLo x i).toNat := ⟨_, rfl⟩
      have HN := Lib.hid hN
      have HZA : Hid (za.natAbs ≤ absT f ∧ absT f ≤ 1000000000000000000) := by
        refine ⟨?_, HA2.out⟩
        have h1 := HY.out.1.met.abs
        rw [absT_app, absT_cons] at h1
        simp only at h1
        omega
      have HEXL : Hid (∀ y ∈ L ++ [(x, za)], ∀ j, 0 ≤ nth y.1 j ∧ nth y.1 j ≤ E) := fun y hy => (HPF.out.ok y (HY.out.1.met.1 y hy).2).1.2
      have HABS : Hid (∀ m, m ≤ N → absT (divL i L ++ dvs i (x, za) m) ≤ 1000000000000000000) := fun m hm => by
        have h1 := divL_abs (i := i) HEXL.out
        have h2 : absT (L ++ [(x, za)]) * E.toNat ≤ absT f * E.toNat := Nat.mul_le_mul_right _ HY.out.1.met.abs
        rw [divL_snoc, absT_app, dvT, dvs_abs, ← HN.out] at h1
        rw [absT_app, dvs_abs]
        have h3 : m * za.natAbs ≤ N * za.natAbs := Nat.mul_le_mul_right _ hm
        have h4 := HA.out
        have h1' : absT (divL i L) + N * za.natAbs ≤ absT (L ++ [(x, za)]) * E.toNat := h1
        show absT (divL i L) + m * za.natAbs ≤ _
        omega
      have HLEN : Hid ((divL i L).length + N ≤ 90000000) := by
        have h1 := divL_len (i := i) HEXL.out
        have h2 := HY.out.1.len
        rw [divL_snoc, List.length_append, dvT, dvs_len, ← HN.out] at h1
        have h3 : (L ++ [(x, za)]).length * E.toNat ≤ 80000000 := Nat.le_trans (Nat.mul_le_mul_right _ h2) HL.out
        have h1' : (divL i L).length + N ≤ (L ++ [(x, za)]).length * E.toNat := h1
        show _ ≤ _
        omega
      have HWG : Hid (w.heap.size < ga ∧ w1.heap.size < ga ∧ b1 < ga ∧ w4.heap.size = ga + 1) := by
        have h1 := HR1.out
        have h2 := HSF.out
        have h3 := HY.out.2.2.2
        exact ⟨by omega, by omega, by omega, by omega⟩
      have HY4 : Hid (PR H w4 b1 w1.heap.size n1 f (L ++ [(x, za)]) cnt' ∧ TimS H w w4 E' (divL i L).length (divL i L) ∧ w2.heap.size ≤ w4.heap.size) := ⟨HY.out.1.below B4.out, HY.out.2.2.1.below B4.out, by have := HY.out.2.2.2; omega⟩
      have HY4 : Hid (PR H w4.drew b1 w1.heap.size n1 f (L ++ [(x, za)]) cnt' ∧ TimS H w w4.drew E' (divL i L).length (divL i L) ∧ w2.heap.size ≤ w4.heap.size) := ⟨HY4.out.1.below ((Below.refl _ _).drew), HY4.out.2.1.below ((Below.refl _ _).drew), HY4.out.2.2⟩
      clear e4 b4 hga hen' hu hv hN hs4
      go_region
      obtain ⟨lo, hlo⟩ : ∃ lo, lo = dLo x i := ⟨_, rfl⟩
      obtain ⟨hh, hhh⟩ : ∃ lo, lo = dHi x i := ⟨_, rfl⟩
      obtain ⟨C, hC⟩ : ∃ C, C = dC x i za := ⟨_, rfl⟩
      rcases Int.lt_or_le v u with hvu | hvu
      · have e1 : lo = v := by rw [hlo, dLo, ← HU.out, ← HV.out]; omega
        have e2 : hh = u := by rw [hhh, dHi, ← HU.out, ← HV.out]; omega
        have e3 : C = -za := by rw [hC, dC, ← HU.out, ← HV.out, if_pos hvu]
        have hgt : decide (v < u) = true := decide_eq_true hvu
        have hwn : IntKind.i64.wrap (-za) = C := by
          rw [e3]
          have := HZA.out
          exact IntWalk.i64_in _ (by omega)
        have HLO := Lib.hid hlo
        have HHH := Lib.hid hhh
        have HC := Lib.hid hC
        have hlh : lo ≤ hh := by omega
        clear e3 hlo hhh hC hvu
        subst e1
        subst e2
        clear c0 c1 HU HV
        go_wp2_with fail
        have HNv : Hid (((N : Nat) : Int) = hh - lo) := by
          show _ = _
          rw [HN.out, ← HHH.out, ← HLO.out]
          omega
        go_loopw [10] (fun t wr => ∃ (m : Nat) (T : Int), m ≤ N ∧ t = .int .i64 T ∧ Hid (T = lo + m) ∧ Hid (PR H wr b1 w1.heap.size n1 f (L ++ [(x, za)]) cnt' ∧ TimS H w wr E' ((divL i L).length + m) (divL i L ++ dvs i (x, za) m) ∧ w2.heap.size ≤ wr.heap.size ∧ ∃ t0 u0, BK wr ga 76 (cellsI (swE x i t0 u0)))) (fun t _ => (hh - intOf t).toNat)
        case atStart => exact ⟨0, lo, Nat.zero_le _, rfl, by show _ = _; simp, HY4.out.1, by simpa [dvs] using HY4.out.2.1, HY4.out.2.2, nth x (i + 1), nth x i, by rw [swE_same]; exact K4.out⟩
        case round =>
          obtain ⟨m, T, hm, rfl, HT, HM⟩ := hrel
          by_cases hmN : m < N
          · have hTlt : decide (T < hh) = true := decide_eq_true (by have := HT.out; have := HNv.out; omega)
            have hTb : lo ≤ T ∧ T < hh := by have := HT.out; have := HNv.out; omega
            obtain ⟨S, hS⟩ : ∃ S, S = hh - 1 - (m : Int) := ⟨_, rfl⟩
            have hSb : lo ≤ S ∧ S < hh := by have := HNv.out; omega
            have hw1 : IntKind.i64.wrap (lo + hh) = lo + hh := IntWalk.i64_in _ (by omega)
            have hw2 : IntKind.i64.wrap (lo + hh - 1) = lo + hh - 1 := IntWalk.i64_in _ (by omega)
            have hw3 : IntKind.i64.wrap (lo + hh - 1 - T) = S := by rw [show lo + hh - 1 - T = S by have := HT.out; omega]; exact IntWalk.i64_in _ (by omega)
            obtain ⟨t0, u0, hbk⟩ := HM.out.2.2.2
            have f1 : wr.frozen? ⟨ga, i + 1, none⟩ = false := hbk.frozen
            obtain ⟨e', he'⟩ : ∃ e', e' = swE x i T S := ⟨_, rfl⟩
            have hbk1 : BK (wr.setCell ⟨ga, i + 1, none⟩ (.int .i64 T)) ga 76 (cellsI (swE x i T u0)) := by
              have h := hbk.set (i + 1) (.int .i64 T)
              rw [cellsI_set, swE_set1] at h
              exact h
            have f0 : (wr.setCell ⟨ga, i + 1, none⟩ (.int .i64 T)).frozen? ⟨ga, i, none⟩ = false := hbk1.frozen
            have hbk2 : BK ((wr.setCell ⟨ga, i + 1, none⟩ (.int .i64 T)).setCell ⟨ga, i, none⟩ (.int .i64 S)) ga 76 (cellsI e') := by
              have h := hbk1.set i (.int .i64 S)
              rw [cellsI_set, swE_set0, ← he'] at h
              exact h
            have g0 := hbk.cell (cellsI_at (swE x i t0 u0) (i + 1) (by rw [swE_len, HEA.out.1]; omega))
            have g1 := hbk1.cell (cellsI_at (swE x i T u0) i (by rw [swE_len, HEA.out.1]; omega))
            have hl7 : e'.length = 7 := by rw [he', swE_len]; exact HEA.out.1
            have HEB2 : Hid (e'.length = 7 ∧ ∀ j, 0 ≤ nth e' j ∧ nth e' j ≤ E') := by
              refine ⟨hl7, HOUT.out (x, za) (HY.out.1.met.1 (x, za) (by simp)).2 (e', C) ?_⟩
              refine List.mem_map.2 ⟨m, List.mem_range.2 (by rw [← HN.out]; exact hmN), ?_⟩
              rw [he', HC.out, ← HLO.out, ← HHH.out, ← HT.out, hS]
            have HDV : Hid (dvs i (x, za) (m + 1) = dvs i (x, za) m ++ [(e', C)]) := by
              show _ = _
              rw [dvs_succ, he', HC.out, ← HLO.out, ← HHH.out, ← HT.out, hS]
            have HBK2 := Lib.hid hbk2
            have HE' := Lib.hid he'
            obtain ⟨s0, s1, s2, s3, s4, s5, s6, rfl⟩ : ∃ s0 s1 s2 s3 s4 s5 s6, e' = [s0, s1, s2, s3, s4, s5, s6] := by
              clear he' HEB2 HDV hbk2 HBK2
              rcases e' with _ | ⟨p0, _ | ⟨p1, _ | ⟨p2, _ | ⟨p3, _ | ⟨p4, _ | ⟨p5, _ | ⟨p6, _ | ⟨p7, r⟩⟩⟩⟩⟩⟩⟩⟩
              all_goals first | exact ⟨_, _, _, _, _, _, _, rfl⟩ | (simp only [List.length_cons, List.length_nil] at hl7; omega)
            have q0 := HBK2.out.cell (j := 0) rfl
            have q1 := HBK2.out.cell (j := 1) rfl
            have q2 := HBK2.out.cell (j := 2) rfl
            have q3 := HBK2.out.cell (j := 3) rfl
            have q4 := HBK2.out.cell (j := 4) rfl
            have q5 := HBK2.out.cell (j := 5) rfl
            have q6 := HBK2.out.cell (j := 6) rfl
            have hii : (0 : Int) ≤ (i : Int) + 1 ∧ (i : Int) + 1 < 7 := ⟨by omega, by omega⟩
            have hi0 : (i : Int) < 7 := by omega
            have hi1 : i + 1 < 7 := by omega
            have hi2 : i < 7 := by omega
            have HG2 : Hid (wr.grownBy ((wr.setCell ⟨ga, i + 1, none⟩ (.int .i64 T)).setCell ⟨ga, i, none⟩ (.int .i64 S)) (some ga)) := (setCell_grown wr ga (i + 1) _).trans (setCell_grown _ ga i _)
            obtain ⟨W2, hW2⟩ : ∃ W, W = (wr.setCell ⟨ga, i + 1, none⟩ (.int .i64 T)).setCell ⟨ga, i, none⟩ (.int .i64 S) := ⟨_, rfl⟩
            have HW2 := Lib.hid hW2
            rw [← hW2] at HG2 HBK2
            have HTS : Hid (TimS H w W2 E' ((divL i L).length + m) (divL i L ++ dvs i (x, za) m)) := HM.out.2.1.kept HG2.out HWG.out.1
            have HPR2 : Hid (PR H W2 b1 w1.heap.size n1 f (L ++ [(x, za)]) cnt') := HM.out.1.grownE HG2.out (by have := HWG.out; omega) (by have := HWG.out; omega)
            have HSZ : Hid (w2.heap.size ≤ W2.heap.size) := Nat.le_trans HM.out.2.2.1 HG2.out.size
            have HADD : Hid (Calls Try.prog 65 #[.map (some w.heap.size), .agg #[.int .i64 s0, .int .i64 s1, .int .i64 s2, .int .i64 s3, .int .i64 s4, .int .i64 s5, .int .i64 s6], .int .i64 C] W2 (fun r w' => r = .returned (.tuple #[]) ∧ TimS H w w' E' ((divL i L).length + m + 1) ((divL i L ++ dvs i (x, za) m) ++ [([s0, s1, s2, s3, s4, s5, s6], C)]) ∧ W2.grownBy w' (some w.heap.size))) := by
              have h2 := HLEN.out
              refine TimS.add (x := ([s0, s1, s2, s3, s4, s5, s6], C)) HTS.out HEB2.out (by omega) (by omega) ?_
              rw [List.append_assoc, ← HDV.out]
              exact HABS.out (m + 1) hmN
            clear hbk hbk1 hbk2 he' hS hSb hl7 hW2
            go_wp2_with fail
            rw [show (wr.setCell ⟨ga, i + 1, none⟩ (.int .i64 T)).setCell ⟨ga, i, none⟩ (.int .i64 S) = W2 from HW2.out.symm]
            clear q0 q1 q2 q3 q4 q5 q6 f0 f1 g0 g1
            refine HADD.out.mono ?_
            rintro r wE ⟨rfl, p5, g5⟩
            have P5 := Lib.hid p5
            have G5 := Lib.hid g5
            clear p5 g5
            have hwT : IntKind.i64.wrap (T + 1) = T + 1 := IntWalk.i64_in _ (by omega)
            go_wp2_with fail
            go_roundw
            case rel =>
              refine ⟨m + 1, T + 1, hmN, rfl, by show _ = _; rw [HT.out]; omega, HPR2.out.grownE G5.out (by have := HWG.out; have := HSF.out; omega) (by have := HR1.out; omega), ?_, Nat.le_trans HSZ.out G5.out.size, T, S, ?_⟩
              · rw [HDV.out, ← List.append_assoc]
                exact P5.out
              · have hk := HBK2.out.same (G5.out.block _ HBK2.out.lt fun e => by injection e with e; have := HWG.out; omega)
                rw [← HE'.out]
                exact hk
            case measure => simp only [intOf]; omega
          · have hTh : T = hh := by have := HT.out; have := HNv.out; omega
            have hTlt : decide (T < hh) = false := decide_eq_false (by omega)
            have HFT : Hid (TimS H w wr E' (divL i (L ++ [(x, za)])).length (divL i (L ++ [(x, za)]))) := by
              have h := HM.out.2.1
              obtain rfl : m = N := by omega
              rw [divL_snoc, List.length_append, dvT, dvs_len, ← HN.out]
              exact h
            clear hTh
            go_wp2_with fail
            go_roundw
            case rel => exact ⟨_, cnt', HM.out.1, HFT.out, HM.out.2.2.1⟩
            case measure =>
              rw [HM.out.1.left_eq, HX.out.1.left_eq]
              exact HY.out.2.1
      · have e1 : lo = u := by rw [hlo, dLo, ← HU.out, ← HV.out]; omega
        have e2 : hh = v := by rw [hhh, dHi, ← HU.out, ← HV.out]; omega
        have e3 : C = za := by rw [hC, dC, ← HU.out, ← HV.out, if_neg (by omega)]
        have hgt : decide (v < u) = false := decide_eq_false (by omega)
        have HLO := Lib.hid hlo
        have HHH := Lib.hid hhh
        have HC := Lib.hid hC
        have hlh : lo ≤ hh := by omega
        clear hlo hhh hC hvu
        subst e1
        subst e2
        clear c0 c1 HU HV
        go_wp2_with fail
        rw [← e3]
        clear e3
        have HNv : Hid (((N : Nat) : Int) = hh - lo) := by
          show _ = _
          rw [HN.out, ← HHH.out, ← HLO.out]
          omega
        go_loopw [10] (fun t wr => ∃ (m : Nat) (T : Int), m ≤ N ∧ t = .int .i64 T ∧ Hid (T = lo + m) ∧ Hid (PR H wr b1 w1.heap.size n1 f (L ++ [(x, za)]) cnt' ∧ TimS H w wr E' ((divL i L).length + m) (divL i L ++ dvs i (x, za) m) ∧ w2.heap.size ≤ wr.heap.size ∧ ∃ t0 u0, BK wr ga 76 (cellsI (swE x i t0 u0)))) (fun t _ => (hh - intOf t).toNat)
        case atStart => exact ⟨0, lo, Nat.zero_le _, rfl, by show _ = _; simp, HY4.out.1, by simpa [dvs] using HY4.out.2.1, HY4.out.2.2, nth x (i + 1), nth x i, by rw [swE_same]; exact K4.out⟩
        case round =>
          obtain ⟨m, T, hm, rfl, HT, HM⟩ := hrel
          by_cases hmN : m < N
          · have hTlt : decide (T < hh) = true := decide_eq_true (by have := HT.out; have := HNv.out; omega)
            have hTb : lo ≤ T ∧ T < hh := by have := HT.out; have := HNv.out; omega
            obtain ⟨S, hS⟩ : ∃ S, S = hh - 1 - (m : Int) := ⟨_, rfl⟩
            have hSb : lo ≤ S ∧ S < hh := by have := HNv.out; omega
            have hw1 : IntKind.i64.wrap (lo + hh) = lo + hh := IntWalk.i64_in _ (by omega)
            have hw2 : IntKind.i64.wrap (lo + hh - 1) = lo + hh - 1 := IntWalk.i64_in _ (by omega)
            have hw3 : IntKind.i64.wrap (lo + hh - 1 - T) = S := by rw [show lo + hh - 1 - T = S by have := HT.out; omega]; exact IntWalk.i64_in _ (by omega)
            obtain ⟨t0, u0, hbk⟩ := HM.out.2.2.2
            have f1 : wr.frozen? ⟨ga, i + 1, none⟩ = false := hbk.frozen
            obtain ⟨e', he'⟩ : ∃ e', e' = swE x i T S := ⟨_, rfl⟩
            have hbk1 : BK (wr.setCell ⟨ga, i + 1, none⟩ (.int .i64 T)) ga 76 (cellsI (swE x i T u0)) := by
              have h := hbk.set (i + 1) (.int .i64 T)
              rw [cellsI_set, swE_set1] at h
              exact h
            have f0 : (wr.setCell ⟨ga, i + 1, none⟩ (.int .i64 T)).frozen? ⟨ga, i, none⟩ = false := hbk1.frozen
            have hbk2 : BK ((wr.setCell ⟨ga, i + 1, none⟩ (.int .i64 T)).setCell ⟨ga, i, none⟩ (.int .i64 S)) ga 76 (cellsI e') := by
              have h := hbk1.set i (.int .i64 S)
              rw [cellsI_set, swE_set0, ← he'] at h
              exact h
            have g0 := hbk.cell (cellsI_at (swE x i t0 u0) (i + 1) (by rw [swE_len, HEA.out.1]; omega))
            have g1 := hbk1.cell (cellsI_at (swE x i T u0) i (by rw [swE_len, HEA.out.1]; omega))
            have hl7 : e'.length = 7 := by rw [he', swE_len]; exact HEA.out.1
            have HEB2 : Hid (e'.length = 7 ∧ ∀ j, 0 ≤ nth e' j ∧ nth e' j ≤ E') := by
              refine ⟨hl7, HOUT.out (x, za) (HY.out.1.met.1 (x, za) (by simp)).2 (e', C) ?_⟩
              refine List.mem_map.2 ⟨m, List.mem_range.2 (by rw [← HN.out]; exact hmN), ?_⟩
              rw [he', HC.out, ← HLO.out, ← HHH.out, ← HT.out, hS]
            have HDV : Hid (dvs i (x, za) (m + 1) = dvs i (x, za) m ++ [(e', C)]) := by
              show _ = _
              rw [dvs_succ, he', HC.out, ← HLO.out, ← HHH.out, ← HT.out, hS]
            have HBK2 := Lib.hid hbk2
            have HE' := Lib.hid he'
            obtain ⟨s0, s1, s2, s3, s4, s5, s6, rfl⟩ : ∃ s0 s1 s2 s3 s4 s5 s6, e' = [s0, s1, s2, s3, s4, s5, s6] := by
              clear he' HEB2 HDV hbk2 HBK2
              rcases e' with _ | ⟨p0, _ | ⟨p1, _ | ⟨p2, _ | ⟨p3, _ | ⟨p4, _ | ⟨p5, _ | ⟨p6, _ | ⟨p7, r⟩⟩⟩⟩⟩⟩⟩⟩
              all_goals first | exact ⟨_, _, _, _, _, _, _, rfl⟩ | (simp only [List.length_cons, List.length_nil] at hl7; omega)
            have q0 := HBK2.out.cell (j := 0) rfl
            have q1 := HBK2.out.cell (j := 1) rfl
            have q2 := HBK2.out.cell (j := 2) rfl
            have q3 := HBK2.out.cell (j := 3) rfl
            have q4 := HBK2.out.cell (j := 4) rfl
            have q5 := HBK2.out.cell (j := 5) rfl
            have q6 := HBK2.out.cell (j := 6) rfl
            have hii : (0 : Int) ≤ (i : Int) + 1 ∧ (i : Int) + 1 < 7 := ⟨by omega, by omega⟩
            have hi0 : (i : Int) < 7 := by omega
            have hi1 : i + 1 < 7 := by omega
            have hi2 : i < 7 := by omega
            have HG2 : Hid (wr.grownBy ((wr.setCell ⟨ga, i + 1, none⟩ (.int .i64 T)).setCell ⟨ga, i, none⟩ (.int .i64 S)) (some ga)) := (setCell_grown wr ga (i + 1) _).trans (setCell_grown _ ga i _)
            obtain ⟨W2, hW2⟩ : ∃ W, W = (wr.setCell ⟨ga, i + 1, none⟩ (.int .i64 T)).setCell ⟨ga, i, none⟩ (.int .i64 S) := ⟨_, rfl⟩
            have HW2 := Lib.hid hW2
            rw [← hW2] at HG2 HBK2
            have HTS : Hid (TimS H w W2 E' ((divL i L).length + m) (divL i L ++ dvs i (x, za) m)) := HM.out.2.1.kept HG2.out HWG.out.1
            have HPR2 : Hid (PR H W2 b1 w1.heap.size n1 f (L ++ [(x, za)]) cnt') := HM.out.1.grownE HG2.out (by have := HWG.out; omega) (by have := HWG.out; omega)
            have HSZ : Hid (w2.heap.size ≤ W2.heap.size) := Nat.le_trans HM.out.2.2.1 HG2.out.size
            have HADD : Hid (Calls Try.prog 65 #[.map (some w.heap.size), .agg #[.int .i64 s0, .int .i64 s1, .int .i64 s2, .int .i64 s3, .int .i64 s4, .int .i64 s5, .int .i64 s6], .int .i64 C] W2 (fun r w' => r = .returned (.tuple #[]) ∧ TimS H w w' E' ((divL i L).length + m + 1) ((divL i L ++ dvs i (x, za) m) ++ [([s0, s1, s2, s3, s4, s5, s6], C)]) ∧ W2.grownBy w' (some w.heap.size))) := by
              have h2 := HLEN.out
              refine TimS.add (x := ([s0, s1, s2, s3, s4, s5, s6], C)) HTS.out HEB2.out (by omega) (by omega) ?_
              rw [List.append_assoc, ← HDV.out]
              exact HABS.out (m + 1) hmN
            clear hbk hbk1 hbk2 he' hS hSb hl7 hW2
            go_wp2_with fail
            rw [show (wr.setCell ⟨ga, i + 1, none⟩ (.int .i64 T)).setCell ⟨ga, i, none⟩ (.int .i64 S) = W2 from HW2.out.symm]
            clear q0 q1 q2 q3 q4 q5 q6 f0 f1 g0 g1
            refine HADD.out.mono ?_
            rintro r wE ⟨rfl, p5, g5⟩
            have P5 := Lib.hid p5
            have G5 := Lib.hid g5
            clear p5 g5
            have hwT : IntKind.i64.wrap (T + 1) = T + 1 := IntWalk.i64_in _ (by omega)
            go_wp2_with fail
            go_roundw
            case rel =>
              refine ⟨m + 1, T + 1, hmN, rfl, by show _ = _; rw [HT.out]; omega, HPR2.out.grownE G5.out (by have := HWG.out; have := HSF.out; omega) (by have := HR1.out; omega), ?_, Nat.le_trans HSZ.out G5.out.size, T, S, ?_⟩
              · rw [HDV.out, ← List.append_assoc]
                exact P5.out
              · have hk := HBK2.out.same (G5.out.block _ HBK2.out.lt fun e => by injection e with e; have := HWG.out; omega)
                rw [← HE'.out]
                exact hk
            case measure => simp only [intOf]; omega
          · have hTh : T = hh := by have := HT.out; have := HNv.out; omega
            have hTlt : decide (T < hh) = false := decide_eq_false (by omega)
            have HFT : Hid (TimS H w wr E' (divL i (L ++ [(x, za)])).length (divL i (L ++ [(x, za)]))) := by
              have h := HM.out.2.1
              obtain rfl : m = N := by omega
              rw [divL_snoc, List.length_append, dvT, dvs_len, ← HN.out]
              exact h
            clear hTh
            go_wp2_with fail
            go_roundw
            case rel => exact ⟨_, cnt', HM.out.1, HFT.out, HM.out.2.2.1⟩
            case measure =>
              rw [HM.out.1.left_eq, HX.out.1.left_eq]
              exact HY.out.2.1

end Go.Proofs.Ytgbojgmmingfdaa

/- raised of the program. -/
namespace Go.Proofs.Ytgbojgmmingfdaa
open Go.RowKit Go.Maps Go.MapKept Go.WideMaps

theorem PM.put {H : Type} {w : World} {b n : Nat} {acc : List (List Int × Int)} {e : List Int} {c : Int} (h : PM H w b n acc) (hn : n < maxLen) (he : Ex7 e) (h0 : cf acc e = 0) (hc : c ≠ 0) (hw : (Lit.int .i64 c).wf = true) :
    ∃ w', (Instr.mapUpdate TM (.map (some b)) (kv e) (.int .i64 c)).run Try.prog w = .ok () w' ∧ PM H w' b (n + 1) (addP acc e c) ∧ w.grownBy w' (some b) := by
  obtain ⟨D, ho, hr, hs⟩ := h
  obtain ⟨w2, t1, t2, t3⟩ := ho.update lawK Try.underlying74 hn (keyOf_kv he) (plainElem_int Try.underlying3 hw)
  refine ⟨w2, t1, ⟨_, t2, ⟨fun x hx => ?_, fun x hx => ?_⟩, addP_srt hs⟩, t3⟩
  · rw [cf_addP hs]
    by_cases hxe : x = e
    · subst hxe
      rw [atKey_put_same ho.isMap (kl_key x), if_pos rfl, h0, Int.zero_add]
    · rw [atKey_put_other (fun hkl => hxe (kl_inj hx he hkl)), hr.at_ x hx, if_neg hxe, Int.add_zero]
  · rw [cf_addP hs]
    by_cases hxe : x = e
    · subst hxe
      rw [has_put_same ho.isMap (kl_key x), if_pos rfl, h0, Int.zero_add]
      exact (decide_eq_true hc).symm
    · rw [has_put_other (fun hkl => hxe (kl_inj hx he hkl)), hr.has x hx, if_neg hxe, Int.add_zero]
theorem cf_adds_none {e : List Int} : ∀ {X acc : List (List Int × Int)}, Srt acc → (∀ x ∈ X, x.1 ≠ e) → cf (addsP acc X) e = cf acc e
  | [], _, _, _ => rfl
  | x :: X, acc, hs, h => by
    have e1 : addsP acc (x :: X) = addsP (addP acc x.1 x.2) X := rfl
    rw [e1, cf_adds_none (addP_srt hs) fun y hy => h y (List.mem_cons_of_mem _ hy), cf_addP hs, if_neg (fun e2 => h x (by simp) e2.symm), Int.add_zero]
def upE (i : Nat) (e : List Int) : List Int := e.set i (nth e i + 1)
def raL (i : Nat) (f : List (List Int × Int)) : List (List Int × Int) := f.map fun x => (upE i x.1, x.2)
theorem upE_len (i : Nat) (e : List Int) : (upE i e).length = e.length := by simp [upE]
theorem upE_inj {i : Nat} {a b : List Int} (h : upE i a = upE i b) : a = b := by
  have hl : a.length = b.length := by rw [← upE_len i a, h, upE_len]
  refine ext_nth hl fun j hj => ?_
  have h1 : nth (upE i a) j = nth (upE i b) j := by rw [h]
  unfold upE at h1
  by_cases e : i = j
  · subst e
    rw [nth_set_eq hj, nth_set_eq (by omega)] at h1
    omega
  · rw [nth_set_ne e, nth_set_ne e] at h1
    exact h1
theorem upE_ok {E : Int} {e : List Int} {i : Nat} (h : e.length = 7 ∧ ∀ j, 0 ≤ nth e j ∧ nth e j ≤ E) (hi : i < 7) : (upE i e).length = 7 ∧ ∀ j, 0 ≤ nth (upE i e) j ∧ nth (upE i e) j ≤ E + 1 := by
  refine ⟨by rw [upE_len]; exact h.1, fun j => ?_⟩
  unfold upE
  by_cases e' : i = j
  · subst e'
    rw [nth_set_eq (by rw [h.1]; exact hi)]
    have := h.2 i
    omega
  · rw [nth_set_ne e']
    have := h.2 j
    omega
theorem raL_snoc (i : Nat) (f : List (List Int × Int)) (x : List Int × Int) : raL i (f ++ [x]) = raL i f ++ [(upE i x.1, x.2)] := by simp [raL]
theorem raL_abs (i : Nat) (f : List (List Int × Int)) : absT (raL i f) = absT f := by unfold raL absT; rw [List.map_map]; rfl
theorem raL_len (i : Nat) (f : List (List Int × Int)) : (raL i f).length = f.length := by simp [raL]
theorem raL_perm {i : Nat} {f g : List (List Int × Int)} (h : f.Perm g) : (raL i f).Perm (raL i g) := h.map _
theorem adds_snoc (X : List (List Int × Int)) (x : List Int × Int) : addsP [] (X ++ [x]) = addP (addsP [] X) x.1 x.2 := by rw [addsP_app]; rfl
/-- What raised has made on the way. -/
structure RaiS (H : Type) (w w' : World) (i : Nat) (L : List (List Int × Int)) : Prop where
  pm : PM H w' w.heap.size L.length (addsP [] (raL i L))
  bel : Below w.heap.size w w'
theorem RaiS.below {H : Type} {w w1 w2 : World} {i : Nat} {L : List (List Int × Int)} (h : RaiS H w w1 i L) (b : Below w1.heap.size w1 w2) : RaiS H w w2 i L := ⟨h.pm.same (b.block _ h.pm.lt), h.bel.trans (b.mono h.bel.size)⟩
theorem RaiS.kept {H : Type} {w w1 w2 : World} {i r : Nat} {L : List (List Int × Int)} (h : RaiS H w w1 i L) (g : w1.grownBy w2 (some r)) (hr : w.heap.size < r) : RaiS H w w2 i L :=
  ⟨h.pm.same (g.block _ h.pm.lt fun e => by injection e; omega), h.bel.grown g h.bel.size fun k hk => by injection hk; omega⟩
set_option maxRecDepth 100000 in
set_option maxHeartbeats 4000000 in
theorem raised_any {H : Type} {w : World} {b1 n1 : Nat} {E : Int} {f : List (List Int × Int)} (i : Nat) (hi : i ≤ 6) (hf : PM H w b1 n1 f) (pf : PolE E f) (hE : 0 ≤ E ∧ E ≤ 126) (hA2 : absT f ≤ 1000000000000000000) (hL : f.length ≤ 80000000) :
    Calls Try.prog 193 #[.map (some b1), .int .i64 (i : Int)] w (MakesK H w (E + 1) (absT f) (gatherK ((raL i f).map kc))) := by
  have gf := pf.good (by omega)
  have HF := Lib.hid hf
  have HGF := Lib.hid gf
  have HPF := Lib.hid pf
  have HL := Lib.hid hL
  have HA2 := Lib.hid hA2
  have hmm := fun t w => run_makeMap (P := Try.prog) t w
  obtain ⟨w1, e1⟩ : ∃ W, W = w.alloc (.map #[] 0) := ⟨_, rfl⟩
  have HO1 : Hid (RaiS H w w1 i []) := by rw [e1]; exact ⟨PM.made w, (Below.refl _ _).alloc (Nat.le_refl _) _⟩
  have HF1 : Hid (PM H w1 b1 n1 f) := by rw [e1]; exact hf.alloc _
  have HSF : Hid (b1 < w.heap.size) := hf.lt
  have HS1 : Hid (w.heap.size < w1.heap.size) := by show _ < _; rw [e1]; simp
  have E1' := Lib.hid e1
  clear e1 hf gf pf hL hA2
  go_enter Try.func193, Try.ntmps193
  go_wp2_with (first | (rw [← E1'.out]; at_range; refine wpList_range_poly _ rfl _ rfl b1 n1 f rfl HF1.out HGF.out ?_; intro w2 hpr g2 s2) | fail)
  have HR2 := Lib.hid hpr
  have b12 : Below w1.heap.size w1 w2 := ⟨g2.os, g2.tape, g2.output, g2.size, fun i hi => g2.block i hi (by simp)⟩
  have HO2 : Hid (RaiS H w w2 i []) := HO1.out.below b12
  have HR1 : Hid (w.heap.size < w1.heap.size ∧ w1.heap.size < w2.heap.size) := ⟨HS1.out, by omega⟩
  clear hpr g2 s2 b12
  go_frame
  go_loopw [6, 7, 11, 12] (fun _ _ _ _ wr => ∃ (L : List (List Int × Int)) (cnt : Nat), Hid (PR H wr b1 w1.heap.size n1 f L cnt ∧ RaiS H w wr i L ∧ w2.heap.size ≤ wr.heap.size)) (fun _ _ _ _ wr => wr.rangeLeft b1 w1.heap.size)
  case atStart => exact ⟨[], _, HR2.out, HO2.out, Nat.le_refl _⟩
  case round =>
    obtain ⟨L, cnt, HX⟩ := hrel
    go_wp2_with (first | (at_next; refine wpList_next_poly _ rfl _ rfl b1 w1.heap.size n1 f L cnt rfl HX.out.1 HGF.out ?_ ?_) | fail)
    · intro h0 hperm
      have HFIN : Hid (MakesK H w (E + 1) (absT f) (gatherK ((raL i f).map kc)) (.returned (.map (some w.heap.size))) wr) := by
        obtain ⟨-, ⟨a1, a5⟩, -⟩ := HX.out
        refine ⟨_, rfl, Nat.le_refl _, ⟨_, _, a1, ?_, ?_, ?_, ?_⟩, a5⟩
        · rw [hperm.length_eq]; have := HL.out; omega
        · refine (PolE.nil_ _).adds fun x hx => ?_
          obtain ⟨y, hy, rfl⟩ := List.mem_map.1 hx
          exact upE_ok (HPF.out.ok y (hperm.mem_iff.1 hy)).1 (by omega)
        · have h2 := adds_abs (X := raL i L) (acc := [])
          rw [raL_abs, absT_perm hperm] at h2
          have h4 : absT ([] : List (List Int × Int)) = 0 := rfl
          omega
        · rw [kf_adds]
          refine gatherK_congr fun q => ?_
          rw [coefK_append, coefK_perm ((raL_perm (i := i) hperm).map kc)]
          simp [coefK]
      clear hperm
      go_wp2
      go_ret
      exact HFIN.out
    · intro ea za w3 cnt' hec hpr3 hlt g3 s3 hen
      have hE7 := (HGF.out.2 _ hec).1
      have HEA : Hid (ea.length = 7 ∧ ∀ j, 0 ≤ nth ea j ∧ nth ea j ≤ E) := (HPF.out.ok _ hec).1
      have HZ0 : Hid (za ≠ 0) := (HPF.out.ok _ hec).2
      obtain ⟨x, hx⟩ : ∃ x, x = ea := ⟨_, rfl⟩
      obtain ⟨x0, x1, x2, x3, x4, x5, x6, rfl⟩ := hE7.seven
      have hen' : (Instr.entry (.pointer (some ⟨w1.heap.size, 0, none⟩))).run Try.prog w3 = .ok (.tuple #[.agg #[.int .i64 x0, .int .i64 x1, .int .i64 x2, .int .i64 x3, .int .i64 x4, .int .i64 x5, .int .i64 x6], .int .i64 za]) w3 := hen
      have HY : Hid (PR H w3 b1 w1.heap.size n1 f (L ++ [(x, za)]) cnt' ∧ cnt' < cnt ∧ RaiS H w w3 i L ∧ w2.heap.size ≤ w3.heap.size) := by
        rw [hx]
        refine ⟨hpr3, hlt, HX.out.2.1.kept g3 HR1.out.1, by have := HX.out.2.2; omega⟩
      obtain ⟨w4, e4⟩ : ∃ W, W = w3.alloc (.cells #[.int .i64 x0, .int .i64 x1, .int .i64 x2, .int .i64 x3, .int .i64 x4, .int .i64 x5, .int .i64 x6] 76) := ⟨_, rfl⟩
      have b4 : Below w3.heap.size w3 w4 := by rw [e4]; exact (Below.refl _ _).alloc (Nat.le_refl _) _
      have K4 : Hid (BK w4 w3.heap.size 76 (cellsI x)) := by rw [e4, hx]; exact BK.new w3 _ _
      have B4 := Lib.hid b4
      have E4 := Lib.hid e4
      have hs4 : w4.heap.size = w3.heap.size + 1 := by rw [e4]; simp
      obtain ⟨wo, rfl⟩ : ∃ wo : World, wo = wr := ⟨_, rfl⟩
      rw [← hx] at HEA
      clear hec hpr3 hlt g3 s3 hen hE7 hx
      obtain ⟨ga, hga⟩ : ∃ g, g = w3.heap.size := ⟨_, rfl⟩
      obtain ⟨v, hv⟩ : ∃ u, u = nth x i := ⟨_, rfl⟩
      have hvb := HEA.out.2 i
      rw [← hv] at hvb
      rw [← hga] at K4
      have HWG : Hid (w.heap.size < ga ∧ w1.heap.size < ga ∧ b1 < ga ∧ w4.heap.size = ga + 1 ∧ ga = w3.heap.size) := by
        have h1 := HR1.out
        have h2 := HSF.out
        have h3 := HY.out.2.2.2
        exact ⟨by omega, by omega, by omega, by omega, hga⟩
      have HY4 : Hid (PR H w4 b1 w1.heap.size n1 f (L ++ [(x, za)]) cnt' ∧ RaiS H w w4 i L ∧ w2.heap.size ≤ w4.heap.size) := ⟨HY.out.1.below B4.out, HY.out.2.2.1.below B4.out, by have := HY.out.2.2.2; omega⟩
      have hwv : IntKind.i64.wrap (v + 1) = v + 1 := IntWalk.i64_in _ (by omega)
      obtain ⟨e', he'⟩ : ∃ e', e' = upE i x := ⟨_, rfl⟩
      have hl7 : e'.length = 7 := by rw [he', upE_len]; exact HEA.out.1
      have c0 : w4.cell? ⟨ga, i, none⟩ = some (.int .i64 v) := by
        rw [hv]
        exact K4.out.cell (cellsI_at x i (by rw [HEA.out.1]; omega))
      have f0 : w4.frozen? ⟨ga, i, none⟩ = false := K4.out.frozen
      have HBK : Hid (BK (w4.setCell ⟨ga, i, none⟩ (.int .i64 (v + 1))) ga 76 (cellsI e')) := by
        have h := K4.out.set i (.int .i64 (v + 1))
        rw [cellsI_set, hv] at h
        rw [he', hv]
        exact h
      have HG2 : Hid (w4.grownBy (w4.setCell ⟨ga, i, none⟩ (.int .i64 (v + 1))) (some ga)) := setCell_grown w4 ga i _
      obtain ⟨W2, hW2⟩ : ∃ W, W = w4.setCell ⟨ga, i, none⟩ (.int .i64 (v + 1)) := ⟨_, rfl⟩
      have HW2 := Lib.hid hW2
      rw [← hW2] at HG2 HBK
      have HRS : Hid (RaiS H w W2 i L) := HY4.out.2.1.kept HG2.out HWG.out.1
      have HPR2 : Hid (PR H W2 b1 w1.heap.size n1 f (L ++ [(x, za)]) cnt') := HY4.out.1.grownE HG2.out (by have := HWG.out; omega) (by have := HWG.out; omega)
      have hex : Ex7 e' := by
        have h := upE_ok HEA.out (i := i) (by omega)
        rw [← he'] at h
        refine ⟨h.1, fun y hy => ?_⟩
        obtain ⟨j, hj, rfl⟩ := List.getElem_of_mem hy
        have := h.2 j
        rw [nth_lt hj] at this
        exact WalkArith.wf_i64 (by omega)
      have hcf : cf (addsP [] (raL i L)) e' = 0 := by
        rw [cf_adds_none (PolE.nil_ 0).srt fun y hy => ?_]
        · rfl
        · obtain ⟨z, hz, rfl⟩ := List.mem_map.1 hy
          intro e
          have e2 : z.1 = x := upE_inj (e.trans he')
          have hm := HY.out.1.met.2
          rw [List.map_append, List.map_cons, List.map_nil] at hm
          exact (List.pairwise_append.1 hm).2.2 z.1 (List.mem_map_of_mem hz) x (by simp) e2
      have hzb : za.natAbs ≤ absT f := by
        have h1 := HY.out.1.met.abs
        rw [absT_app, absT_cons] at h1
        have h1' : absT L + (za.natAbs + absT []) ≤ absT f := h1
        omega
      have hlenL := HY.out.1.len
      rw [List.length_append, List.length_singleton] at hlenL
      obtain ⟨W3, hrun, hpm, hg3⟩ := HRS.out.pm.put (e := e') (c := za) (by have := HL.out; unfold maxLen; omega) hex hcf HZ0.out (WalkArith.wf_i64 (by have := HA2.out; omega))
      have HFI : Hid (RaiS H w W3 i (L ++ [(x, za)])) := by
        refine ⟨?_, HRS.out.bel.grown hg3 HRS.out.bel.size fun k hk => by injection hk; omega⟩
        rw [raL_snoc, adds_snoc, List.length_append, List.length_singleton, ← he']
        exact hpm
      have HPR3 : Hid (PR H W3 b1 w1.heap.size n1 f (L ++ [(x, za)]) cnt') := HPR2.out.grownE hg3 (by have := HSF.out; omega) (by have := HR1.out; omega)
      have HSZ : Hid (w2.heap.size ≤ W3.heap.size) := Nat.le_trans HY4.out.2.2 (Nat.le_trans HG2.out.size hg3.size)
      obtain ⟨s0, s1, s2, s3, s4, s5, s6, rfl⟩ : ∃ s0 s1 s2 s3 s4 s5 s6, e' = [s0, s1, s2, s3, s4, s5, s6] := by
        clear he' hex hcf HBK hrun hpm HFI
        rcases e' with _ | ⟨p0, _ | ⟨p1, _ | ⟨p2, _ | ⟨p3, _ | ⟨p4, _ | ⟨p5, _ | ⟨p6, _ | ⟨p7, r⟩⟩⟩⟩⟩⟩⟩⟩
        all_goals first | exact ⟨_, _, _, _, _, _, _, rfl⟩ | (simp only [List.length_cons, List.length_nil] at hl7; omega)
      have q0 := HBK.out.cell (j := 0) rfl
      have q1 := HBK.out.cell (j := 1) rfl
      have q2 := HBK.out.cell (j := 2) rfl
      have q3 := HBK.out.cell (j := 3) rfl
      have q4 := HBK.out.cell (j := 4) rfl
      have q5 := HBK.out.cell (j := 5) rfl
      have q6 := HBK.out.cell (j := 6) rfl
      have hi0 : (i : Int) < 7 := by omega
      have hi2 : i < 7 := by omega
      have hrun' : (Instr.mapUpdate TM (.map (some w.heap.size)) (.agg #[.int .i64 s0, .int .i64 s1, .int .i64 s2, .int .i64 s3, .int .i64 s4, .int .i64 s5, .int .i64 s6]) (.int .i64 za)).run Try.prog W2 = .ok () W3 := hrun
      clear he' hex hcf hzb hlenL hrun hpm hg3 hl7 e4 b4 hs4 hv
      go_upto_region 5 with (fail)
      rw [show w3.alloc (.cells #[.int .i64 x0, .int .i64 x1, .int .i64 x2, .int .i64 x3, .int .i64 x4, .int .i64 x5, .int .i64 x6] 76) = w4 from E4.out.symm, ← hga]
      rw [hW2] at q0 q1 q2 q3 q4 q5 q6 hrun'
      clear hga hW2 hen'
      go_wp2_with fail
      go_roundw
      case rel => exact ⟨_, cnt', HPR3.out, HFI.out, HSZ.out⟩
      case measure =>
        rw [HPR3.out.left_eq, HX.out.1.left_eq]
        exact HY.out.2.1
end Go.Proofs.Ytgbojgmmingfdaa
