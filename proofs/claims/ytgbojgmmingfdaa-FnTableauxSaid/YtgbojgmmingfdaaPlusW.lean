/- plus of the program: a polynomial and k times another. -/
import Derived.Test.YtgbojgmmingfdaaSchurB
import Derived.StillTailTactics
namespace Go.Proofs.Ytgbojgmmingfdaa
open Go.RowKit Go.Maps Go.MapKept Go.WideMaps

def sclT (k : Int) (l : List (List Int × Int)) : List (List Int × Int) := l.map fun x => (x.1, k * x.2)
theorem sclT_kc (k : Int) (l : List (List Int × Int)) : (sclT k l).map kc = (l.map kc).map fun x => (x.1, k * x.2) := by
  unfold sclT; rw [List.map_map, List.map_map]; rfl
theorem absT_scl (k : Int) (l : List (List Int × Int)) : absT (sclT k l) = k.natAbs * absT l := by
  induction l with
  | nil => simp [sclT, absT]
  | cons x l ih =>
    have e : sclT k (x :: l) = (x.1, k * x.2) :: sclT k l := rfl
    rw [e, absT_cons, absT_cons, ih, Int.natAbs_mul, Nat.mul_add]
theorem absT_perm {a b : List (List Int × Int)} (h : a.Perm b) : absT a = absT b := by rw [← absT_kc, ← absT_kc]; exact absK_perm (h.map kc)
theorem absT_sub {a b : List (List Int × Int)} (hn : a.Nodup) (hs : ∀ x ∈ a, x ∈ b) : absT a ≤ absT b := by
  have h : ∃ c, b.Perm (a ++ c) := by
    have : ∀ (a b : List (List Int × Int)), a.Nodup → (∀ x ∈ a, x ∈ b) → ∃ c, b.Perm (a ++ c) := by
      intro a
      induction a with
      | nil => intro b _ _; exact ⟨b, by simp⟩
      | cons x a ih =>
        intro b hn hs
        rw [List.nodup_cons] at hn
        have hx := hs x (by simp)
        have hp := List.perm_cons_erase hx
        obtain ⟨c, hc⟩ := ih (b.erase x) hn.2 fun y hy => by
          have hne : y ≠ x := fun e => hn.1 (by rw [← e]; exact hy)
          exact (List.mem_erase_of_ne hne).2 (hs y (List.mem_cons_of_mem _ hy))
        exact ⟨c, hp.trans (hc.cons x)⟩
    exact this a b hn hs
  obtain ⟨c, hc⟩ := h
  rw [absT_perm hc, absT_app]; omega
theorem Met.abs {acc L : List (List Int × Int)} (h : Met acc L) : absT L ≤ absT acc := by
  have n1 : L.Nodup := List.Pairwise.of_map Prod.fst (fun a b (hab : a.1 ≠ b.1) e => hab (by rw [e])) h.2
  exact absT_sub n1 fun x hx => (h.1 x hx).2
theorem PR.met {H : Type} {w : World} {b r n cnt : Nat} {acc L : List (List Int × Int)} (h : PR H w b r n acc L cnt) : Met acc L := by
  obtain ⟨-, -, -, -, hm, -⟩ := h
  exact hm
def plusK (k : Int) (L M : List (Int × Int)) : List (Int × Int) := gatherK (L ++ M.map fun x => (x.1, k * x.2))
theorem gatherK_congr {a b : List (Int × Int)} (h : ∀ q, coefK a q = coefK b q) : gatherK a = gatherK b := srtK_uniq (gatherK_srt a) (gatherK_srt b) fun q => by rw [gatherK_coef, gatherK_coef, h]
theorem coefK_scl (k q : Int) (l : List (Int × Int)) : coefK (l.map fun x => (x.1, k * x.2)) q = k * coefK l q := by
  induction l with
  | nil => simp [coefK]
  | cons x l ih =>
    rw [List.map_cons, coefK_cons, coefK_cons, ih, Int.mul_add]
    simp only
    split
    · rfl
    · simp
set_option maxRecDepth 100000 in
set_option maxHeartbeats 2000000 in
theorem plus_any {H : Type} {w : World} {b1 b2 n1 n2 : Nat} {E k : Int} {f g : List (List Int × Int)} (hf : PM H w b1 n1 f) (hg : PM H w b2 n2 g) (pf : PolE E f) (pg : PolE E g) (hE : E ≤ 127) (hk : -1000000000 ≤ k ∧ k ≤ 1000000000) (hA : absT f + k.natAbs * absT g ≤ 1000000000000000000)
    (hL1 : f.length ≤ 10000000) (hL2 : g.length ≤ 10000000) :
    Calls Try.prog 170 #[.map (some b1), .int .i64 k, .map (some b2)] w (MakesK H w E (absT f + k.natAbs * absT g) (gatherK (f.map kc ++ (sclT k g).map kc))) := by
  have gf := pf.good (by omega)
  have gg := pg.good (by omega)
  have HF := Lib.hid hf
  have HG := Lib.hid hg
  have HGF := Lib.hid gf
  have HGG := Lib.hid gg
  have HPF := Lib.hid pf
  have HPG := Lib.hid pg
  have HA := Lib.hid hA
  have hmm := fun t w => run_makeMap (P := Try.prog) t w
  obtain ⟨w1, e1⟩ : ∃ W, W = w.alloc (.map #[] 0) := ⟨_, rfl⟩
  have HO1 : Hid (PM H w1 w.heap.size 0 []) := by rw [e1]; exact PM.made w
  have HB1 : Hid (Below w.heap.size w w1) := by rw [e1]; exact (Below.refl _ _).alloc (Nat.le_refl _) _
  have HF1 : Hid (PM H w1 b1 n1 f) := by rw [e1]; exact hf.alloc _
  have HS1 : Hid (w1.heap.size = w.heap.size + 1) := by show _ = _; rw [e1]; simp
  have E1 := Lib.hid e1
  clear e1 hf hg gf gg pf pg hA
  go_enter Try.func170, Try.ntmps170
  go_wp2_with (first | (rw [← E1.out]; at_range; refine wpList_range_poly _ rfl _ rfl b1 n1 f rfl HF1.out HGF.out ?_; intro w2 hpr g2 s2) | fail)
  have HR2 := Lib.hid hpr
  have b12 : Below w1.heap.size w1 w2 := ⟨g2.os, g2.tape, g2.output, g2.size, fun i hi => g2.block i hi (by simp)⟩
  have HB2 : Hid (Below w.heap.size w w2) := HB1.out.trans (b12.mono HB1.out.size)
  have HO2 : Hid (PM H w2 w.heap.size 0 []) := HO1.out.same (b12.block _ (by have := HS1.out; omega))
  have HS2 := Lib.hid s2
  have HSF : Hid (b1 < w.heap.size) := HF.out.lt
  clear hpr g2 s2 b12
  go_frame
  go_loopw [8, 9, 15, 16] (fun _ _ _ _ wr => ∃ (L : List (List Int × Int)) (cnt : Nat), Hid (PR H wr b1 w1.heap.size n1 f L cnt ∧ PM H wr w.heap.size L.length (addsP [] L) ∧ Below w.heap.size w wr ∧ w2.heap.size ≤ wr.heap.size)) (fun _ _ _ _ wr => wr.rangeLeft b1 w1.heap.size)
  case atStart => exact ⟨[], _, HR2.out, HO2.out, HB2.out, Nat.le_refl _⟩
  case round =>
    obtain ⟨L, cnt, HX⟩ := hrel
    go_wp2_with (first | (at_next; refine wpList_next_poly _ rfl _ rfl b1 w1.heap.size n1 f L cnt rfl HX.out.1 HGF.out ?_ ?_) | fail)
    · intro h0 hperm
      have HP := Lib.hid hperm
      have HX1 : Hid (PM H wr w.heap.size f.length (addsP [] L) ∧ Below w.heap.size w wr) := by
        refine ⟨?_, HX.out.2.2.1⟩
        have h := HX.out.2.1
        rw [hperm.length_eq] at h
        exact h
      have HGW : Hid (PM H wr b2 n2 g) := HG.out.same (HX.out.2.2.1.block _ HG.out.lt)
      have HMT : Hid (Met f L) := HX.out.1.met
      obtain ⟨wo, hwo⟩ : ∃ wo : World, wo = wr := ⟨_, rfl⟩
      rw [← hwo] at HX1 HGW ⊢
      clear hperm hwo HX
      go_wp2_with (first | (at_range; refine wpList_range_poly _ rfl _ rfl b2 n2 g rfl HGW.out HGG.out ?_; intro w6 hpr6 g6 s6) | fail)
      have HR6 := Lib.hid hpr6
      have b16 : Below wo.heap.size wo w6 := ⟨g6.os, g6.tape, g6.output, g6.size, fun i hi => g6.block i hi (by simp)⟩
      have HB6 : Hid (Below w.heap.size w w6) := HX1.out.2.trans (b16.mono HX1.out.2.size)
      have HO6 : Hid (PM H w6 w.heap.size f.length (addsP [] L)) := HX1.out.1.same (b16.block _ HX1.out.1.lt)
      have HS6 := Lib.hid s6
      have HSG : Hid (b2 < w.heap.size ∧ w.heap.size < wo.heap.size) := ⟨HG.out.lt, HX1.out.1.lt⟩
      clear hpr6 g6 s6 b16
      go_frame
      go_loopw [10, 11, 26, 27] (fun _ _ _ _ wr => ∃ (M : List (List Int × Int)) (cnt : Nat), Hid (PR H wr b2 wo.heap.size n2 g M cnt ∧ PM H wr w.heap.size (f.length + M.length) (addsP (addsP [] L) (sclT k M)) ∧ Below w.heap.size w wr)) (fun _ _ _ _ wr => wr.rangeLeft b2 wo.heap.size)
      case atStart => exact ⟨[], _, HR6.out, HO6.out, HB6.out⟩
      case round =>
        obtain ⟨M, cnt2, HX⟩ := hrel
        go_wp2_with (first | (at_next; refine wpList_next_poly _ rfl _ rfl b2 wo.heap.size n2 g M cnt2 rfl HX.out.1 HGG.out ?_ ?_) | fail)
        · intro h02 hperm2
          have HFIN : Hid (MakesK H w E (absT f + k.natAbs * absT g) (gatherK (f.map kc ++ (sclT k g).map kc)) (.returned (.map (some w.heap.size))) wr) := by
            have h1 := hperm2.length_eq
            refine ⟨_, rfl, Nat.le_refl _, ⟨_, _, HX.out.2.1, by omega, ?_, ?_, ?_⟩, HX.out.2.2⟩
            · refine ((PolE.nil_ E).adds fun x hx => (HPF.out.ok x (HMT.out.1 x hx).2).1).adds fun x hx => ?_
              obtain ⟨y, hy, rfl⟩ := List.mem_map.1 hx
              exact (HPG.out.ok y (hperm2.mem_iff.1 hy)).1
            · have h2 := adds_abs (X := sclT k M) (acc := addsP [] L)
              have h3 := adds_abs (X := L) (acc := [])
              rw [absT_scl, absT_perm hperm2] at h2
              rw [absT_perm HP.out] at h3
              have h4 : absT ([] : List (List Int × Int)) = 0 := rfl
              omega
            · rw [kf_adds]
              refine gatherK_congr fun q => ?_
              rw [coefK_append, coefK_append, coef_adds, coefK_perm (HP.out.map kc), sclT_kc, sclT_kc, coefK_perm ((hperm2.map kc).map _)]
              simp [coefK]
          clear hperm2
          go_wp2
          go_ret
          exact HFIN.out
        · intro e z w3 cnt' hec hpr3 hlt g3 s3 hen
          have hE7 := (HGG.out.2 _ hec).1
          obtain ⟨x0, x1, x2, x3, x4, x5, x6, rfl⟩ := hE7.seven
          have hen' : (Instr.entry (.pointer (some ⟨wo.heap.size, 0, none⟩))).run Try.prog w3 = .ok (.tuple #[.agg #[.int .i64 x0, .int .i64 x1, .int .i64 x2, .int .i64 x3, .int .i64 x4, .int .i64 x5, .int .i64 x6], .int .i64 z]) w3 := hen
          obtain ⟨Z, hZ⟩ : ∃ Z, Z = k * z := ⟨_, rfl⟩
          have HZZ := Lib.hid hZ
          have hab : absT (sclT k (M ++ [([x0, x1, x2, x3, x4, x5, x6], z)])) ≤ k.natAbs * absT g := by
            rw [absT_scl]
            exact Nat.mul_le_mul_left _ hpr3.met.abs
          have hsn : sclT k (M ++ [([x0, x1, x2, x3, x4, x5, x6], z)]) = sclT k M ++ [([x0, x1, x2, x3, x4, x5, x6], Z)] := by rw [hZ]; simp [sclT]
          rw [hsn, absT_app, absT_cons] at hab
          have HSN := Lib.hid hsn
          have hZb : -1000000000000000000 ≤ Z ∧ Z ≤ 1000000000000000000 := by have := HA.out; simp only at hab; omega
          have hw : IntKind.i64.wrap (k * z) = Z := by rw [← hZ]; exact IntWalk.i64_in _ (by omega)
          have HADD : Hid (∀ W, PM H W w.heap.size (f.length + M.length) (addsP (addsP [] L) (sclT k M)) → Calls Try.prog 65 #[.map (some w.heap.size), .agg #[.int .i64 x0, .int .i64 x1, .int .i64 x2, .int .i64 x3, .int .i64 x4, .int .i64 x5, .int .i64 x6], .int .i64 Z] W
              (fun r w' => r = .returned (.tuple #[]) ∧ PM H w' w.heap.size (f.length + (M.length + 1)) (addsP (addsP [] L) (sclT k (M ++ [([x0, x1, x2, x3, x4, x5, x6], z)]))) ∧ W.grownBy w' (some w.heap.size))) := fun W hW => by
            have hm := hpr3.met
            have h2 : PolE E (addsP (addsP [] L) (sclT k M)) := by
              refine ((PolE.nil_ E).adds fun x hx => (HPF.out.ok x (HMT.out.1 x hx).2).1).adds fun x hx => ?_
              obtain ⟨y, hy, rfl⟩ := List.mem_map.1 hx
              exact (HPG.out.ok y (hm.1 y (List.mem_append_left _ hy)).2).1
            have h3 := h2.cf_abs [x0, x1, x2, x3, x4, x5, x6]
            have h4 := adds_abs (X := sclT k M) (acc := addsP [] L)
            have h4' := adds_abs (X := L) (acc := [])
            rw [absT_perm HP.out] at h4'
            have h5 := HA.out
            have h6 : absT ([] : List (List Int × Int)) = 0 := rfl
            have h7 := hpr3.len
            rw [List.length_append, List.length_singleton] at h7
            have e : addsP (addsP [] L) (sclT k (M ++ [([x0, x1, x2, x3, x4, x5, x6], z)])) = addP (addsP (addsP [] L) (sclT k M)) [x0, x1, x2, x3, x4, x5, x6] Z := by rw [HSN.out, addsP_app (addsP [] L)]; rfl
            rw [e, ← Nat.add_assoc]
            exact addM_any hW (by unfold maxLen; omega) hE7 (by simp only at hab; omega)
          have HY := Lib.hid (⟨hec, hpr3, hlt, g3, s3⟩ : _ ∧ _ ∧ _ ∧ _ ∧ _)
          clear hec hpr3 hlt g3 s3 hen hE7 hZ hab hsn
          obtain ⟨w4, e4⟩ : ∃ W, W = w3.alloc (.cells #[.int .i64 x0, .int .i64 x1, .int .i64 x2, .int .i64 x3, .int .i64 x4, .int .i64 x5, .int .i64 x6] 76) := ⟨_, rfl⟩
          have b4 : Below w3.heap.size w3 w4 := by rw [e4]; exact (Below.refl _ _).alloc (Nat.le_refl _) _
          have K4 : BK w4 w3.heap.size 76 [.int .i64 x0, .int .i64 x1, .int .i64 x2, .int .i64 x3, .int .i64 x4, .int .i64 x5, .int .i64 x6] := by rw [e4]; exact BK.new w3 _ _
          have B4 := Lib.hid b4
          have E4 := Lib.hid e4
          have q0 := K4.cell (j := 0) rfl
          have q1 := K4.cell (j := 1) rfl
          have q2 := K4.cell (j := 2) rfl
          have q3 := K4.cell (j := 3) rfl
          have q4 := K4.cell (j := 4) rfl
          have q5 := K4.cell (j := 5) rfl
          have q6 := K4.cell (j := 6) rfl
          have HOW : Hid (PM H w4 w.heap.size (f.length + M.length) (addsP (addsP [] L) (sclT k M))) := by
            have h1 := HX.out.2.1
            have h2 := h1.same (HY.out.2.2.2.1.block _ h1.lt (fun e => by have := HSG.out; injection e; omega))
            exact h2.same (b4.block _ h2.lt)
          clear K4 b4 e4
          go_wp2_with (first | (go_at_call 65; rw [← E4.out]; refine (HADD.out _ HOW.out).mono ?_; rintro r w5 ⟨rfl, p5, g5⟩) | fail)
          have P5 := Lib.hid p5
          have G5 := Lib.hid g5
          have HPR5 : Hid (PR H w5 b2 wo.heap.size n2 g (M ++ [([x0, x1, x2, x3, x4, x5, x6], z)]) cnt') := by
            have h2 := HSG.out
            exact (HY.out.2.1.below B4.out).kept G5.out (fun e => by injection e; omega) (fun e => by injection e; omega)
          clear p5 g5
          go_roundw
          case rel =>
            have hw3 : Below w.heap.size w w3 := HX.out.2.2.grown HY.out.2.2.2.1 HX.out.2.2.size fun k hk => by have := HSG.out; injection hk; omega
            have hw4 := hw3.trans (B4.out.mono hw3.size)
            exact ⟨_, cnt', HPR5.out, by rw [List.length_append]; exact P5.out, hw4.grown G5.out hw4.size fun k hk => by injection hk; omega⟩
          case measure =>
            rw [HPR5.out.left_eq, HX.out.1.left_eq]
            exact HY.out.2.2.1
    · intro e z w3 cnt' hec hpr3 hlt g3 s3 hen
      have hE7 := (HGF.out.2 _ hec).1
      obtain ⟨x0, x1, x2, x3, x4, x5, x6, rfl⟩ := hE7.seven
      have hen' : (Instr.entry (.pointer (some ⟨w1.heap.size, 0, none⟩))).run Try.prog w3 = .ok (.tuple #[.agg #[.int .i64 x0, .int .i64 x1, .int .i64 x2, .int .i64 x3, .int .i64 x4, .int .i64 x5, .int .i64 x6], .int .i64 z]) w3 := hen
      have HADD : Hid (∀ W, PM H W w.heap.size L.length (addsP [] L) → Calls Try.prog 65 #[.map (some w.heap.size), .agg #[.int .i64 x0, .int .i64 x1, .int .i64 x2, .int .i64 x3, .int .i64 x4, .int .i64 x5, .int .i64 x6], .int .i64 z] W
          (fun r w' => r = .returned (.tuple #[]) ∧ PM H w' w.heap.size (L.length + 1) (addsP [] (L ++ [([x0, x1, x2, x3, x4, x5, x6], z)])) ∧ W.grownBy w' (some w.heap.size))) := fun W hW => by
        have hm := hpr3.met
        have h1 := hm.abs
        rw [absT_app, absT_cons] at h1
        have h2 : PolE E (addsP [] L) := (PolE.nil_ E).adds fun x hx => (HPF.out.ok x (hm.1 x (List.mem_append_left _ hx)).2).1
        have h3 := h2.cf_abs [x0, x1, x2, x3, x4, x5, x6]
        have h4 := adds_abs (X := L) (acc := [])
        have h5 := HA.out
        have h6 : absT ([] : List (List Int × Int)) = 0 := rfl
        have h7 := hpr3.len
        rw [List.length_append, List.length_singleton] at h7
        have e : addsP [] (L ++ [([x0, x1, x2, x3, x4, x5, x6], z)]) = addP (addsP [] L) [x0, x1, x2, x3, x4, x5, x6] z := by rw [addsP_app]; rfl
        rw [e]
        exact addM_any hW (by unfold maxLen; omega) hE7 (by omega)
      have HY := Lib.hid (⟨hec, hpr3, hlt, g3, s3⟩ : _ ∧ _ ∧ _ ∧ _ ∧ _)
      clear hec hpr3 hlt g3 s3 hen hE7
      obtain ⟨w4, e4⟩ : ∃ W, W = w3.alloc (.cells #[.int .i64 x0, .int .i64 x1, .int .i64 x2, .int .i64 x3, .int .i64 x4, .int .i64 x5, .int .i64 x6] 76) := ⟨_, rfl⟩
      have b4 : Below w3.heap.size w3 w4 := by rw [e4]; exact (Below.refl _ _).alloc (Nat.le_refl _) _
      have K4 : BK w4 w3.heap.size 76 [.int .i64 x0, .int .i64 x1, .int .i64 x2, .int .i64 x3, .int .i64 x4, .int .i64 x5, .int .i64 x6] := by rw [e4]; exact BK.new w3 _ _
      have B4 := Lib.hid b4
      have E4 := Lib.hid e4
      have q0 := K4.cell (j := 0) rfl
      have q1 := K4.cell (j := 1) rfl
      have q2 := K4.cell (j := 2) rfl
      have q3 := K4.cell (j := 3) rfl
      have q4 := K4.cell (j := 4) rfl
      have q5 := K4.cell (j := 5) rfl
      have q6 := K4.cell (j := 6) rfl
      have HOW : Hid (PM H w4 w.heap.size L.length (addsP [] L)) := by
        have h1 := HX.out.2.1
        have h2 := h1.same (HY.out.2.2.2.1.block _ h1.lt (fun e => by have := HS1.out; injection e; omega))
        exact h2.same (b4.block _ h2.lt)
      clear K4 b4 e4
      go_wp2_with (first | (go_at_call 65; rw [← E4.out]; refine (HADD.out _ HOW.out).mono ?_; rintro r w5 ⟨rfl, p5, g5⟩) | fail)
      have P5 := Lib.hid p5
      have G5 := Lib.hid g5
      have HPR5 : Hid (PR H w5 b1 w1.heap.size n1 f (L ++ [([x0, x1, x2, x3, x4, x5, x6], z)]) cnt') := by
        have h1 := HS1.out
        have h2 := HSF.out
        exact (HY.out.2.1.below B4.out).kept G5.out (fun e => by injection e; omega) (fun e => by injection e; omega)
      clear p5 g5
      go_roundw
      case rel =>
        have hw3 : Below w.heap.size w w3 := HX.out.2.2.1.grown HY.out.2.2.2.1 HX.out.2.2.1.size fun k hk => by have := HS1.out; injection hk; omega
        have hw4 := hw3.trans (B4.out.mono hw3.size)
        refine ⟨_, cnt', HPR5.out, by rw [List.length_append]; exact P5.out, hw4.grown G5.out hw4.size fun k hk => by injection hk; omega, ?_⟩
        have h1 := HX.out.2.2.2
        have h2 := HY.out.2.2.2.2
        have h3 := B4.out.size
        have h4 := G5.out.size
        omega
      case measure =>
        rw [HPR5.out.left_eq, HX.out.1.left_eq]
        exact HY.out.2.2.1
/-- plus, in the words of keys. -/
theorem plusK_any {H : Type} {w : World} {b1 b2 C1 C2 : Nat} {E k : Int} {L M : List (Int × Int)} (hf : PK H w b1 E C1 L) (hg : PK H w b2 E C2 M) (hE : E ≤ 127) (hk : -1000000000 ≤ k ∧ k ≤ 1000000000) (hA : C1 + k.natAbs * C2 ≤ 1000000000000000000) (hL : L.length ≤ 10000000) (hM : M.length ≤ 10000000) :
    Calls Try.prog 170 #[.map (some b1), .int .i64 k, .map (some b2)] w (MakesK H w E (C1 + k.natAbs * C2) (plusK k L M)) := by
  obtain ⟨n1, f, f1, f2, f3, f4, f5⟩ := hf
  obtain ⟨n2, g, g1, g2, g3, g4, g5⟩ := hg
  have l1 := (f3.perm hE).length_eq
  have l2 := (g3.perm hE).length_eq
  rw [f5, List.length_map] at l1
  rw [g5, List.length_map] at l2
  have hm : k.natAbs * absT g ≤ k.natAbs * C2 := Nat.mul_le_mul_left _ g4
  refine (plus_any f1 g1 f3 g3 hE hk (by omega) (by omega) (by omega)).mono ?_
  · rintro e w' ⟨b, h1, h2, ⟨n, acc, a1, a2, a3, a4, a5⟩, h3⟩
    refine ⟨b, h1, h2, ⟨n, acc, a1, a2, a3, by omega, ?_⟩, h3⟩
    rw [a5, sclT_kc, plusK]
    refine gatherK_congr fun q => ?_
    rw [coefK_append, coefK_append, ← f5, ← g5, coefK_perm (f3.perm hE), coefK_scl, coefK_scl, coefK_perm (g3.perm hE)]
end Go.Proofs.Ytgbojgmmingfdaa

/- open of the program: a list of terms becomes a polynomial. -/
namespace Go.Proofs.Ytgbojgmmingfdaa
open Go.RowKit Go.Maps Go.MapKept Go.WideMaps

theorem term_facts {p : List Int × Int} (h : termB p = true) : p.1.length = 7 ∧ p.2 ≠ 0 ∧ (-1000000 ≤ p.2 ∧ p.2 ≤ 1000000) ∧ ∀ j, 0 ≤ nth p.1 j ∧ nth p.1 j ≤ 24 := by
  have h' := h
  simp only [termB, Bool.and_eq_true, decide_eq_true_eq] at h
  refine ⟨h.1, h.2.1, ⟨h.2.2.1, h.2.2.2.1⟩, fun j => ?_⟩
  by_cases hj : j < 7
  · exact term_in h' hj
  · rw [nth_ge (by omega)]; omega
theorem poly_at {ps : List (List Int × Int)} (h : polyB ps = true) : ps.length ≤ 600 ∧ (∀ k, k < ps.length → termB (nthP ps k) = true ∧ stepB ps k = true) := by
  rw [polyB, Bool.and_eq_true, decide_eq_true_eq, List.all_eq_true] at h
  exact ⟨h.1, fun k hk => by have := h.2 k (List.mem_range.2 hk); rwa [Bool.and_eq_true] at this⟩
theorem poly_mem {ps : List (List Int × Int)} (h : polyB ps = true) {x : List Int × Int} (hx : x ∈ ps) : termB x = true := by
  obtain ⟨j, hj, rfl⟩ := List.getElem_of_mem hx
  have := ((poly_at h).2 j hj).1
  rwa [nthP_lt hj] at this
/-- The keys of a polynomial that may stand are in order. -/
theorem poly_srt {ps : List (List Int × Int)} (h : polyB ps = true) : SrtK (ps.map kc) := by
  obtain ⟨-, h2⟩ := poly_at h
  have hx : ∀ k, k < ps.length → Ex128 (nthP ps k).1 := fun k hk j _ => by have := (term_facts (h2 k hk).1).2.2.2 j; omega
  refine ⟨?_, fun x hx => ?_⟩
  · rw [List.pairwise_iff_getElem]
    have step : ∀ k, k + 1 < ps.length → keyL (nthP ps (k + 1)).1 < keyL (nthP ps k).1 := fun k hk => by
      have h3 := (h2 (k + 1) hk).2
      rw [stepB] at h3
      simp only [Nat.add_sub_cancel, Bool.or_eq_true, decide_eq_true_eq] at h3
      rcases h3 with h3 | h3
      · omega
      · exact (byT_key (hx k (by omega)) (hx (k + 1) hk)).1 h3
    have far : ∀ d i, i + d + 1 < ps.length → keyL (nthP ps (i + d + 1)).1 < keyL (nthP ps i).1 := fun d => by
      induction d with
      | zero => intro i hi; exact step i hi
      | succ d ih =>
        intro i hi
        have h4 := ih i (by omega)
        have h5 := step (i + d + 1) hi
        rw [show i + (d + 1) + 1 = i + d + 1 + 1 by omega]
        omega
    intro i j hi hj hij
    rw [List.length_map] at hi hj
    simp only [List.getElem_map, kc]
    have h4 := far (j - i - 1) i (by omega)
    rw [show i + (j - i - 1) + 1 = j by omega, nthP_lt hi, nthP_lt hj] at h4
    exact h4
  · obtain ⟨y, hy, rfl⟩ := List.mem_map.1 hx
    exact (term_facts (poly_mem h hy)).2.1
theorem poly_abs {ps : List (List Int × Int)} (h : polyB ps = true) : absT ps ≤ 600000000 := by
  have h1 := (poly_at h).1
  have h2 : absT ps ≤ ps.length * 1000000 := by
    have : ∀ l : List (List Int × Int), (∀ x ∈ l, x.2.natAbs ≤ 1000000) → absT l ≤ l.length * 1000000 := fun l => by
      induction l with
      | nil => simp [absT]
      | cons x l ih =>
        intro hl
        have a := hl x (by simp)
        have b := ih fun y hy => hl y (List.mem_cons_of_mem _ hy)
        rw [absT_cons, List.length_cons, Nat.add_mul]; omega
    exact this ps fun x hx => by have := (term_facts (poly_mem h hx)).2.2.1; omega
  omega
theorem run_arrayAt7 (w : World) (a : Addr) (c : Nat) : (Instr.arrayAt 76 (.slice (some a) 7 c)).run Try.prog w = .ok (.pointer (some a)) w := by
  simp [Instr.arrayAt, run_underlying Try.underlying76, Result.andThen]
set_option maxRecDepth 100000 in
set_option maxHeartbeats 2000000 in
theorem open_any (H : Type) {A : Option Addr} {n : Nat} {ps : List (List Int × Int)} {w : World} (c : Nat) (h : RTm w A n ps) (hp : polyB ps = true) :
    Calls Try.prog 169 #[.slice A n c] w (MakesK H w 24 600000000 (ps.map kc)) := by
  have HL := Lib.hid h.1
  have HH := Lib.hid h
  have HP := Lib.hid hp
  have hn : n ≤ 600 := by rw [← h.1]; exact (poly_at hp).1
  have hmm := fun t w => run_makeMap (P := Try.prog) t w
  obtain ⟨w1, e1⟩ : ∃ W, W = w.alloc (.map #[] 0) := ⟨_, rfl⟩
  have HO1 : Hid (PM H w1 w.heap.size 0 []) := by rw [e1]; exact PM.made w
  have HB1 : Hid (Below w.heap.size w w1) := by rw [e1]; exact (Below.refl _ _).alloc (Nat.le_refl _) _
  have E1 := Lib.hid e1
  clear e1 h hp
  go_enter Try.func169, Try.ntmps169
  go_wp2
  have hal : w.alloc (.map #[] 0) = w1 := E1.out.symm
  rw [hal]
  clear hal
  go_loopw [5, 9] (fun _ iv wr => ∃ k : Nat, k ≤ n ∧ iv = .int .i64 (k : Int) ∧ Hid (PM H wr w.heap.size k (addsP [] (ps.take k)) ∧ Below w.heap.size w wr)) (fun _ iv _ => n - (intOf iv).toNat)
  case atStart => exact ⟨0, Nat.zero_le _, rfl, HO1.out, HB1.out⟩
  case round =>
    obtain ⟨k, hk, rfl, HX⟩ := hrel
    by_cases hlt : k < n
    · obtain ⟨ad, hA, hq⟩ := (HH.out.below HX.out.2).2 k hlt
      obtain ⟨A', n', c', x1, x2, x3, x4⟩ := hq.cells
      subst hA
      have hT := ((poly_at HP.out).2 k (by rw [HL.out]; exact hlt)).1
      have HT := Lib.hid hT
      obtain rfl : n' = 7 := by rw [← x3.1]; exact (term_facts hT).1
      obtain ⟨z, hz⟩ : ∃ z, z = (nthP ps k).2 := ⟨_, rfl⟩
      obtain ⟨e, he⟩ : ∃ e, e = (nthP ps k).1 := ⟨_, rfl⟩
      rw [← hz] at x2
      rw [← he] at x3
      have HZ := Lib.hid hz
      have HE := Lib.hid he
      have X3 := Lib.hid x3
      clear hT hz he x3 hq
      obtain ⟨ad2, hA2, -⟩ := X3.out.cell (show 0 < 7 by omega)
      subst hA2
      go_wp2_with fail
      obtain ⟨w4, e4⟩ : ∃ W, W = wr.alloc (.cells #[.slice (some ad2) 7 c', .int .i64 z] 81) := ⟨_, rfl⟩
      have b4 : Below wr.heap.size wr w4 := by rw [e4]; exact (Below.refl _ _).alloc (Nat.le_refl _) _
      have K4 : BK w4 wr.heap.size 81 [.slice (some ad2) 7 c', .int .i64 z] := by rw [e4]; exact BK.new wr _ _
      have q0 := K4.cell (j := 0) rfl
      have q1 := K4.cell (j := 1) rfl
      have hr4 : RI w4 (some ad2) 7 e := X3.out.below b4
      have hE7 : Ex7 e := by
        have h1 := term_facts HT.out
        rw [← HE.out] at h1
        refine ⟨h1.1, fun x hx => ?_⟩
        obtain ⟨j, hj, rfl⟩ := List.getElem_of_mem hx
        have := h1.2.2.2 j
        rw [nth_lt hj] at this
        exact WalkArith.wf_i64 (by omega)
      have HE7 := Lib.hid hE7
      obtain ⟨y0, y1, y2, y3, y4, y5, y6, rfl⟩ := hE7.seven
      obtain ⟨W, hW⟩ : ∃ W : World, W = { heap := w4.heap, tape := w4.tape, drawn := w4.drawn + 1, os := w4.os, output := w4.output } := ⟨_, rfl⟩
      have cellW : ∀ a, W.cell? a = w4.cell? a := fun a => by rw [hW]; rfl
      have z : ∀ j, j < 7 → W.cell? (ad2.add j) = some (.int .i64 (nth [y0, y1, y2, y3, y4, y5, y6] j)) := fun j hj => by
        obtain ⟨ad', e', h⟩ := hr4.cell hj
        obtain rfl := Option.some.inj e'
        rw [cellW]; exact h
      have zn : ∀ j, 0 < j → j < 7 → W.cell? ⟨ad2.block, ad2.off + j, none⟩ = some (.int .i64 (nth [y0, y1, y2, y3, y4, y5, y6] j)) := fun j h0 hj => by
        have h := z j hj
        rwa [show ad2.add j = ⟨ad2.block, ad2.off + j, none⟩ by unfold Addr.add; rw [if_neg (by omega)]] at h
      have z0 : W.cell? ad2 = some (.int .i64 y0) := by have h := z 0 (by omega); rwa [add_zero_] at h
      have z1 : W.cell? ⟨ad2.block, ad2.off + 1, none⟩ = some (.int .i64 y1) := zn 1 (by omega) (by omega)
      have z2 : W.cell? ⟨ad2.block, ad2.off + 2, none⟩ = some (.int .i64 y2) := zn 2 (by omega) (by omega)
      have z3 : W.cell? ⟨ad2.block, ad2.off + 3, none⟩ = some (.int .i64 y3) := zn 3 (by omega) (by omega)
      have z4 : W.cell? ⟨ad2.block, ad2.off + 4, none⟩ = some (.int .i64 y4) := zn 4 (by omega) (by omega)
      have z5 : W.cell? ⟨ad2.block, ad2.off + 5, none⟩ = some (.int .i64 y5) := zn 5 (by omega) (by omega)
      have z6 : W.cell? ⟨ad2.block, ad2.off + 6, none⟩ = some (.int .i64 y6) := zn 6 (by omega) (by omega)
      clear zn
      rw [← cellW] at q0 q1
      rw [← e4]
      have HW := Lib.hid hW
      have HCW := Lib.hid cellW
      have E4 := Lib.hid e4
      have B4 := Lib.hid b4
      clear cellW e4 K4 b4 hr4
      refine wp_region_still_tail 7 (by kernel_rfl) (by kernel_rfl) ?_
      simp only [List.take_succ_cons, List.take_zero, List.drop_succ_cons, List.drop_zero]
      rw [← hW]
      clear hW z
      have har := run_arrayAt7 W ad2 c'
      repeat still_step
      refine wpStill_nil ?_
      have HADD : Hid (Calls Try.prog 65 #[.map (some w.heap.size), .agg #[.int .i64 y0, .int .i64 y1, .int .i64 y2, .int .i64 y3, .int .i64 y4, .int .i64 y5, .int .i64 y6], .int .i64 z] W
          (fun r w' => r = .returned (.tuple #[]) ∧ PM H w' w.heap.size (k + 1) (addsP [] (ps.take (k + 1))) ∧ W.grownBy w' (some w.heap.size))) := by
        have h2 : PolE 24 (addsP [] (ps.take k)) := (PolE.nil_ 24).adds fun x hx => by
          have := term_facts (poly_mem HP.out (List.mem_of_mem_take hx))
          exact ⟨this.1, this.2.2.2⟩
        have h3 := h2.cf_abs [y0, y1, y2, y3, y4, y5, y6]
        have h4 := adds_abs (X := ps.take k) (acc := [])
        have h5 := poly_abs HP.out
        have h5' : absT (ps.take k) ≤ absT ps := by
          conv => rhs; rw [← List.take_append_drop k ps, absT_app]
          omega
        have h6 : absT ([] : List (List Int × Int)) = 0 := rfl
        have h7 := (term_facts HT.out).2.2.1
        rw [← HZ.out] at h7
        have e : addsP [] (ps.take (k + 1)) = addP (addsP [] (ps.take k)) [y0, y1, y2, y3, y4, y5, y6] z := by
          rw [List.take_succ_eq_append_getElem (by rw [HL.out]; exact hlt), addsP_app]
          have e2 := nthP_lt (ps := ps) (k := k) (by rw [HL.out]; exact hlt)
          show addP _ _ _ = _
          rw [← e2, ← HE.out, ← HZ.out]
        rw [e]
        refine addM_any ?_ (by unfold maxLen; omega) HE7.out (by omega)
        refine HX.out.1.same ?_
        rw [HW.out]
        exact B4.out.block _ HX.out.1.lt
      go_wp2_with (first | (go_at_call 65; refine HADD.out.mono ?_; rintro r w5 ⟨rfl, p5, g5⟩) | fail)
      have P5 := Lib.hid p5
      have G5 := Lib.hid g5
      clear p5 g5
      go_roundw
      case rel =>
        have hb : Below w.heap.size w W := by
          have h := HX.out.2.trans (B4.out.mono HX.out.2.size)
          rw [HW.out]
          exact ⟨h.os, h.tape, h.output, h.size, h.block⟩
        exact ⟨k + 1, by omega, by go_num, P5.out, hb.grown G5.out hb.size fun k hk => by injection hk; omega⟩
      case measure => simp [intOf]; omega
    · have HF : Hid (MakesK H w 24 600000000 (ps.map kc) (.returned (.map (some w.heap.size))) wr) := by
        have h := HX.out.1
        rw [List.take_of_length_le (by rw [HL.out]; omega)] at h
        refine ⟨_, rfl, Nat.le_refl _, ⟨k, _, h, by omega, (PolE.nil_ 24).adds fun x hx => ?_, ?_, ?_⟩, HX.out.2⟩
        · have := term_facts (poly_mem HP.out hx)
          exact ⟨this.1, this.2.2.2⟩
        · have h4 := adds_abs (X := ps) (acc := [])
          have h5 := poly_abs HP.out
          have h6 : absT ([] : List (List Int × Int)) = 0 := rfl
          omega
        · rw [kf_adds]
          exact (gatherK_is (poly_srt HP.out) fun q => rfl).symm
      go_wp2
      go_ret
      exact HF.out
end Go.Proofs.Ytgbojgmmingfdaa

/- times of the program: the product of two polynomials. -/
namespace Go.Proofs.Ytgbojgmmingfdaa
open Go.RowKit Go.Maps Go.MapKept Go.WideMaps

def addE (a b : List Int) : List Int := gen (fun j => nth a j + nth b j) 7
def mixE (a b : List Int) (i : Nat) : List Int := gen (fun j => if j < i then nth a j + nth b j else nth a j) 7
theorem mixE_len (a b : List Int) (i : Nat) : (mixE a b i).length = 7 := gen_len _ _
theorem mixE_zero {a b : List Int} (h : a.length = 7) : mixE a b 0 = a := by
  refine ext_nth (by rw [mixE_len, h]) fun j hj => ?_
  rw [mixE_len] at hj
  rw [mixE, nth_gen hj, if_neg (by omega)]
theorem mixE_all (a b : List Int) : mixE a b 7 = addE a b := by
  refine ext_nth (by rw [mixE_len, addE, gen_len]) fun j hj => ?_
  rw [mixE_len] at hj
  rw [mixE, addE, nth_gen hj, nth_gen hj, if_pos hj]
theorem mixE_at {a b : List Int} {i : Nat} (h : i < 7) : nth (mixE a b i) i = nth a i := by rw [mixE, nth_gen h, if_neg (by omega)]
theorem mixE_set {a b : List Int} {i : Nat} (h : i < 7) : (mixE a b i).set i (nth a i + nth b i) = mixE a b (i + 1) := by
  refine ext_nth (by rw [List.length_set, mixE_len, mixE_len]) fun j hj => ?_
  rw [List.length_set, mixE_len] at hj
  by_cases hji : i = j
  · subst hji
    rw [nth_set_eq (by rw [mixE_len]; exact hj), mixE, nth_gen hj, if_pos (by omega)]
  · rw [nth_set_ne hji, mixE, mixE, nth_gen hj, nth_gen hj]
    by_cases h2 : j < i
    · rw [if_pos h2, if_pos (by omega)]
    · rw [if_neg h2, if_neg (by omega)]
theorem addE_at (a b : List Int) {j : Nat} (h : j < 7) : nth (addE a b) j = nth a j + nth b j := by rw [addE, nth_gen h]
theorem keyL_add (a b : List Int) : keyL (addE a b) = keyL a + keyL b := by
  rw [keyL_low, keyL_low, keyL_low]
  have : ∀ n, n ≤ 7 → lowN (addE a b) n = lowN a n + lowN b n := fun n => by
    induction n with
    | zero => intro _; rfl
    | succ n ih =>
      intro hn
      rw [lowN, lowN, lowN, ih (by omega), addE_at a b (by omega), Int.add_mul]; omega
  exact this 7 (Nat.le_refl _)
def prodT (f g : List (List Int × Int)) : List (List Int × Int) := f.flatMap fun a => g.map fun b => (addE a.1 b.1, a.2 * b.2)
def timesK (L M : List (Int × Int)) : List (Int × Int) := gatherK (L.flatMap fun a => M.map fun b => (a.1 + b.1, a.2 * b.2))
theorem prodT_kc (f g : List (List Int × Int)) : (prodT f g).map kc = (f.map kc).flatMap fun a => (g.map kc).map fun b => (a.1 + b.1, a.2 * b.2) := by
  unfold prodT
  rw [List.map_flatMap, List.flatMap_map]
  refine flatMap_same fun a _ => ?_
  rw [List.map_map, List.map_map]
  refine List.map_congr_left fun b _ => ?_
  simp only [Function.comp, kc]
  rw [keyL_add]
def oneT (a : List Int × Int) (g : List (List Int × Int)) : List (List Int × Int) := g.map fun b => (addE a.1 b.1, a.2 * b.2)
theorem prodT_snoc (f g : List (List Int × Int)) (a : List Int × Int) : prodT (f ++ [a]) g = prodT f g ++ oneT a g := by simp [prodT, oneT]
theorem oneT_snoc (a b : List Int × Int) (g : List (List Int × Int)) : oneT a (g ++ [b]) = oneT a g ++ [(addE a.1 b.1, a.2 * b.2)] := by simp [oneT]
theorem oneT_abs (a : List Int × Int) (g : List (List Int × Int)) : absT (oneT a g) = a.2.natAbs * absT g := by
  induction g with
  | nil => simp [oneT, absT]
  | cons x g ih =>
    have e : oneT a (x :: g) = (addE a.1 x.1, a.2 * x.2) :: oneT a g := rfl
    rw [e, absT_cons, absT_cons, ih, Int.natAbs_mul, Nat.mul_add]
theorem prodT_abs (f g : List (List Int × Int)) : absT (prodT f g) = absT f * absT g := by
  induction f with
  | nil => simp [prodT, absT]
  | cons a f ih =>
    have e : prodT (a :: f) g = oneT a g ++ prodT f g := by simp [prodT, oneT]
    rw [e, absT_app, oneT_abs, ih, absT_cons, Nat.add_mul]
theorem prodT_perm {f g f' g' : List (List Int × Int)} (h1 : f.Perm f') (h2 : g.Perm g') : (prodT f g).Perm (prodT f' g') := by
  refine (h1.flatMap_right _).trans (perm_flatMap fun a _ => h2.map _)
theorem prodT_ok {E1 E2 : Int} {f g : List (List Int × Int)} (hf : ∀ x ∈ f, x.1.length = 7 ∧ ∀ j, 0 ≤ nth x.1 j ∧ nth x.1 j ≤ E1) (hg : ∀ x ∈ g, x.1.length = 7 ∧ ∀ j, 0 ≤ nth x.1 j ∧ nth x.1 j ≤ E2) (hE : 0 ≤ E1 + E2) : ∀ x ∈ prodT f g, x.1.length = 7 ∧ ∀ j, 0 ≤ nth x.1 j ∧ nth x.1 j ≤ E1 + E2 := fun x hx => by
  obtain ⟨a, ha, hx⟩ := List.mem_flatMap.1 hx
  obtain ⟨b, hb, rfl⟩ := List.mem_map.1 hx
  refine ⟨gen_len _ _, fun j => ?_⟩
  by_cases hj : j < 7
  · rw [addE_at _ _ hj]
    have := (hf a ha).2 j
    have := (hg b hb).2 j
    omega
  · rw [nth_ge (by rw [addE, gen_len]; omega)]; omega
/-- What the product's map holds on the way. -/
structure TimS (H : Type) (w w' : World) (E : Int) (cnt : Nat) (X : List (List Int × Int)) : Prop where
  ex : ∃ acc, PM H w' w.heap.size cnt acc ∧ PolE E acc ∧ absT acc ≤ absT X ∧ ∀ q, coefK (acc.map kc) q = coefK (X.map kc) q
  bel : Below w.heap.size w w'
theorem TimS.below {H : Type} {w w1 w2 : World} {E : Int} {cnt : Nat} {X : List (List Int × Int)} (h : TimS H w w1 E cnt X) (b : Below w1.heap.size w1 w2) : TimS H w w2 E cnt X := by
  obtain ⟨⟨acc, h1, h2⟩, h3⟩ := h
  exact ⟨⟨acc, h1.same (b.block _ h1.lt), h2⟩, h3.trans (b.mono h3.size)⟩
theorem TimS.kept {H : Type} {w w1 w2 : World} {E : Int} {cnt r : Nat} {X : List (List Int × Int)} (h : TimS H w w1 E cnt X) (g : w1.grownBy w2 (some r)) (hr : w.heap.size < r) : TimS H w w2 E cnt X := by
  obtain ⟨⟨acc, h1, h2⟩, h3⟩ := h
  exact ⟨⟨acc, h1.same (g.block _ h1.lt fun e => by injection e; omega), h2⟩, h3.grown g h3.size fun k hk => by injection hk; omega⟩
theorem TimS.lt {H : Type} {w w1 : World} {E : Int} {cnt : Nat} {X : List (List Int × Int)} (h : TimS H w w1 E cnt X) : w.heap.size < w1.heap.size := by
  obtain ⟨⟨acc, h1, h2⟩, h3⟩ := h
  exact h1.lt
/-- One more term. -/
theorem TimS.add {H : Type} {w W : World} {E : Int} {cnt : Nat} {X : List (List Int × Int)} {x : List Int × Int} (h : TimS H w W E cnt X) (hx : x.1.length = 7 ∧ ∀ j, 0 ≤ nth x.1 j ∧ nth x.1 j ≤ E) (hE : E ≤ 1000000) (hn : cnt ≤ 100000000) (hA : absT (X ++ [x]) ≤ 1000000000000000000) :
    Calls Try.prog 65 #[.map (some w.heap.size), kv x.1, .int .i64 x.2] W (fun r w' => r = .returned (.tuple #[]) ∧ TimS H w w' E (cnt + 1) (X ++ [x]) ∧ W.grownBy w' (some w.heap.size)) := by
  obtain ⟨⟨acc, h1, h2, h3, h4⟩, h5⟩ := h
  have h6 := h2.cf_abs x.1
  have he : Ex7 x.1 := ⟨hx.1, fun y hy => by
    obtain ⟨j, hj, rfl⟩ := List.getElem_of_mem hy
    have := hx.2 j
    rw [nth_lt hj] at this
    exact WalkArith.wf_i64 (by omega)⟩
  rw [absT_app, absT_cons] at hA
  refine (addM_any h1 (by unfold maxLen; omega) he (by omega)).mono ?_
  rintro r w' ⟨hr, p1, p2⟩
  refine ⟨hr, ⟨⟨_, p1, h2.add x.2 hx, ?_, fun q => ?_⟩, h5.grown p2 h5.size fun k hk => by injection hk; omega⟩, p2⟩
  · have := addP_abs (acc := acc) (e := x.1) (c := x.2)
    rw [absT_app, absT_cons]; omega
  · rw [coef_addP, h4, List.map_append, coefK_append, List.map_cons, List.map_nil, coefK_cons, coefK_nil]
    show _ = _ + ((if keyL x.1 = q then x.2 else 0) + 0)
    omega
end Go.Proofs.Ytgbojgmmingfdaa

/- divided of the program: what it leaves of each term. -/
namespace Go.Proofs.Ytgbojgmmingfdaa
open Go.RowKit Go.Maps Go.MapKept Go.WideMaps

/-- The exponents with two of them put anew. -/
def swE (e : List Int) (i : Nat) (t u : Int) : List Int := (e.set (i + 1) t).set i u
theorem swE_len (e : List Int) (i : Nat) (t u : Int) : (swE e i t u).length = e.length := by simp [swE]
theorem swE_at0 {e : List Int} {i : Nat} (t u : Int) (h : i < e.length) : nth (swE e i t u) i = u := by rw [swE, nth_set_eq (by rw [List.length_set]; exact h)]
theorem swE_at1 {e : List Int} {i : Nat} (t u : Int) (h : i + 1 < e.length) : nth (swE e i t u) (i + 1) = t := by rw [swE, nth_set_ne (by omega), nth_set_eq h]
theorem swE_ne {e : List Int} {i j : Nat} (t u : Int) (h0 : j ≠ i) (h1 : j ≠ i + 1) : nth (swE e i t u) j = nth e j := by rw [swE, nth_set_ne (by omega), nth_set_ne (by omega)]
theorem swE_same {e : List Int} {i : Nat} : swE e i (nth e (i + 1)) (nth e i) = e := by
  refine ext_nth (swE_len _ _ _ _) fun j hj => ?_
  rw [swE_len] at hj
  by_cases h0 : j = i
  · rw [h0, swE_at0 _ _ (by omega)]
  by_cases h1 : j = i + 1
  · rw [h1, swE_at1 _ _ (by omega)]
  · rw [swE_ne _ _ h0 h1]
theorem swE_set1 (e : List Int) (i : Nat) (t u t' : Int) : (swE e i t u).set (i + 1) t' = swE e i t' u := by
  unfold swE
  rw [List.set_comm _ _ (by omega), List.set_set]
theorem swE_set0 (e : List Int) (i : Nat) (t u u' : Int) : (swE e i t u).set i u' = swE e i t u' := by unfold swE; rw [List.set_set]
def dLo (e : List Int) (i : Nat) : Int := min (nth e i) (nth e (i + 1))
def dHi (e : List Int) (i : Nat) : Int := max (nth e i) (nth e (i + 1))
def dC (e : List Int) (i : Nat) (c : Int) : Int := if nth e i < nth e (i + 1) then -c else c
/-- The first of the terms that a term leaves. -/
def dvs (i : Nat) (x : List Int × Int) (m : Nat) : List (List Int × Int) := (List.range m).map fun k : Nat => (swE x.1 i (dLo x.1 i + k) (dHi x.1 i - 1 - k), dC x.1 i x.2)
def dvT (i : Nat) (x : List Int × Int) : List (List Int × Int) := dvs i x (dHi x.1 i - dLo x.1 i).toNat
def divL (i : Nat) (f : List (List Int × Int)) : List (List Int × Int) := f.flatMap (dvT i)
theorem dvs_zero (i : Nat) (x : List Int × Int) : dvs i x 0 = [] := rfl
theorem dvs_succ (i : Nat) (x : List Int × Int) (m : Nat) : dvs i x (m + 1) = dvs i x m ++ [(swE x.1 i (dLo x.1 i + m) (dHi x.1 i - 1 - m), dC x.1 i x.2)] := by simp [dvs, List.range_succ]
theorem dvs_len (i : Nat) (x : List Int × Int) (m : Nat) : (dvs i x m).length = m := by simp [dvs]
theorem divL_snoc (i : Nat) (f : List (List Int × Int)) (x : List Int × Int) : divL i (f ++ [x]) = divL i f ++ dvT i x := by simp [divL]
theorem dC_abs (e : List Int) (i : Nat) (c : Int) : (dC e i c).natAbs = c.natAbs := by unfold dC; split <;> omega
theorem dvs_abs (i : Nat) (x : List Int × Int) (m : Nat) : absT (dvs i x m) = m * x.2.natAbs := by
  induction m with
  | zero => simp [dvs, absT]
  | succ m ih =>
    rw [dvs_succ, absT_app, ih, absT_cons]
    simp only [dC_abs]
    have : absT [] = 0 := rfl
    rw [this, Nat.add_mul]
    omega
theorem dv_N {E : Int} {e : List Int} {i : Nat} (h : ∀ j, 0 ≤ nth e j ∧ nth e j ≤ E) : (dHi e i - dLo e i).toNat ≤ E.toNat := by
  have := h i
  have := h (i + 1)
  unfold dHi dLo
  omega
theorem divL_abs {E : Int} {i : Nat} {f : List (List Int × Int)} (h : ∀ x ∈ f, ∀ j, 0 ≤ nth x.1 j ∧ nth x.1 j ≤ E) : absT (divL i f) ≤ absT f * E.toNat := by
  induction f with
  | nil => simp [divL, absT]
  | cons x f ih =>
    have e : divL i (x :: f) = dvT i x ++ divL i f := rfl
    rw [e, absT_app, absT_cons, Nat.add_mul, dvT, dvs_abs]
    have h1 := ih fun y hy => h y (List.mem_cons_of_mem _ hy)
    have h2 : (dHi x.1 i - dLo x.1 i).toNat * x.2.natAbs ≤ x.2.natAbs * E.toNat := by
      rw [Nat.mul_comm]
      exact Nat.mul_le_mul_left _ (dv_N (h x (by simp)))
    omega
theorem divL_len {E : Int} {i : Nat} {f : List (List Int × Int)} (h : ∀ x ∈ f, ∀ j, 0 ≤ nth x.1 j ∧ nth x.1 j ≤ E) : (divL i f).length ≤ f.length * E.toNat := by
  induction f with
  | nil => simp [divL]
  | cons x f ih =>
    have e : divL i (x :: f) = dvT i x ++ divL i f := rfl
    rw [e, List.length_append, List.length_cons, Nat.add_mul, Nat.one_mul, dvT, dvs_len]
    have h1 := ih fun y hy => h y (List.mem_cons_of_mem _ hy)
    have h2 := dv_N (i := i) (h x (by simp))
    omega
theorem divL_perm {i : Nat} {f g : List (List Int × Int)} (h : f.Perm g) : (divL i f).Perm (divL i g) := h.flatMap_right _
end Go.Proofs.Ytgbojgmmingfdaa
