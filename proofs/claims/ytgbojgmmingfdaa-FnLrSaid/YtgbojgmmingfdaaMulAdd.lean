/- AddPolys and MulPolys of the program, at polynomials that are right; plus, times and terms of the statements. -/
import Derived.Test.YtgbojgmmingfdaaTimesW
import Derived.Test.YtgbojgmmingfdaaLrQ3
import Derived.Test.YtgbojgmmingfdaaPartsOk
import Derived.Test.YtgbojgmmingfdaaQDraw
import Derived.Test.YtgbojgmmingfdaaTermL
import Derived.ShutString
import Derived.ChangeOld
namespace Go.Proofs.Ytgbojgmmingfdaa
open Go.RowKit Go.Maps Go.MapKept Go.WideMaps

theorem timesK_any {H : Type} {w : World} {b1 b2 C1 C2 : Nat} {E1 E2 : Int} {L M : List (Int × Int)} (hf : PK H w b1 E1 C1 L) (hg : PK H w b2 E2 C2 M) (hE : 0 ≤ E1 + E2 ∧ E1 + E2 ≤ 127) (hE1 : E1 ≤ 127) (hE2 : E2 ≤ 127) (hA : C1 * C2 ≤ 1000000000000000000) (hLM : L.length * M.length ≤ 10000000) (hL : L.length ≤ 10000000) (hM : M.length ≤ 10000000) :
    Calls Try.prog 181 #[.map (some b1), .map (some b2)] w (MakesK H w (E1 + E2) (C1 * C2) (timesK L M)) := by
  obtain ⟨n1, f, f1, f2, f3, f4, f5⟩ := hf
  obtain ⟨n2, g, g1, g2, g3, g4, g5⟩ := hg
  have l1 := (f3.perm hE1).length_eq
  have l2 := (g3.perm hE2).length_eq
  rw [f5, List.length_map] at l1
  rw [g5, List.length_map] at l2
  have hm : absT f * absT g ≤ C1 * C2 := Nat.mul_le_mul f4 g4
  refine (times_any f1 g1 f3 g3 hE hE1 hE2 (by omega) (by rw [← l1, ← l2]; exact hLM) (by omega) (by omega)).mono ?_
  rintro e w' ⟨b, h1, h2, ⟨n, acc, a1, a2, a3, a4, a5⟩, h3⟩
  refine ⟨b, h1, h2, ⟨n, acc, a1, a2, a3, by omega, ?_⟩, h3⟩
  rw [a5, prodT_kc, timesK]
  refine gatherK_perm ?_
  have p1 := f3.perm hE1
  have p2 := g3.perm hE2
  rw [f5] at p1
  rw [g5] at p2
  exact (p1.symm.flatMap_right _).trans (perm_flatMap fun a _ => p2.symm.map _)
/-- What a function leaves that returns terms. -/
def MakesT1 (w : World) (ps : List (List Int × Int)) : Ending → World → Prop := fun e w' =>
  ∃ v cells, e = .returned v ∧ OT w' w.heap.size w.heap.size v ps cells ∧ Below w.heap.size w w'
theorem MakesTm.form {w w' : World} {ps : List (List Int × Int)} {ok : Bool} {e : Ending} (h : MakesTm w ps ok e w') : ∃ A c cells, e = .returned (.tuple #[.slice A ps.length c, .bool ok]) ∧ OT w' w.heap.size w.heap.size (.slice A ps.length c) ps cells ∧ Below w.heap.size w w' := by
  obtain ⟨v, cells, h1, h2, h3⟩ := h
  obtain ⟨A, c, rfl, -⟩ := OF.form h2
  exact ⟨A, c, cells, h1, h2, h3⟩
theorem poly_len600 {ps : List (List Int × Int)} (h : polyB ps = true) : ps.length ≤ 600 := (poly_at h).1
set_option maxRecDepth 100000 in
set_option maxHeartbeats 1000000 in
theorem addPolys_any {w : World} {A B : Option Addr} {n m : Nat} {ps qs : List (List Int × Int)} (c d : Nat) (k : Int) (hf : RTm w A n ps) (hg : RTm w B m qs) (hp : polyB ps = true) (hq : polyB qs = true) (hk : -1000 ≤ k ∧ k ≤ 1000) :
    Calls Try.prog 113 #[.slice A n c, .int .i64 k, .slice B m d] w (MakesTm w (shutT (plusK k (ps.map kc) (qs.map kc))) (shutB (plusK k (ps.map kc) (qs.map kc)))) := by
  have hn : n ≤ 600 := by rw [← hf.1]; exact poly_len600 hp
  have hm : m ≤ 600 := by rw [← hg.1]; exact poly_len600 hq
  have HP1 : Hid (∀ W, Below w.heap.size w W → Calls Try.prog 106 #[.slice A n c] W (GivesB W (.bool true))) := fun W bW => by have := iPolyOk_any c (hf.below bW) (by omega); rw [hp] at this; exact this
  have HP2 : Hid (∀ W, Below w.heap.size w W → Calls Try.prog 106 #[.slice B m d] W (GivesB W (.bool true))) := fun W bW => by have := iPolyOk_any d (hg.below bW) (by omega); rw [hq] at this; exact this
  have HO1 : Hid (∀ W, Below w.heap.size w W → Calls Try.prog 169 #[.slice A n c] W (MakesK Unit W 24 600000000 (ps.map kc))) := fun W bW => open_any Unit c (hf.below bW) hp
  have HO2 : Hid (∀ W, Below w.heap.size w W → Calls Try.prog 169 #[.slice B m d] W (MakesK Unit W 24 600000000 (qs.map kc))) := fun W bW => open_any Unit d (hg.below bW) hq
  have HLL : Hid ((ps.map kc).length ≤ 10000000 ∧ (qs.map kc).length ≤ 10000000) := by rw [List.length_map, List.length_map]; have := poly_len600 hp; have := poly_len600 hq; exact ⟨by omega, by omega⟩
  go_enter Try.func113, Try.ntmps113
  go_wp2_with (first
    | (go_at_call 106; (with_reducible refine (HP1.out _ ?_).mono ?_); (exact Below.refl _ _); rintro e w1 ⟨rfl, b1⟩; have B1 : Hid (Below w.heap.size w w1) := b1; clear b1)
    | (go_at_call 106; (with_reducible refine (HP2.out _ ?_).mono ?_); (exact B1.out); rintro e w2 ⟨rfl, b2⟩; have B2 : Hid (Below w.heap.size w w2) := B1.out.trans (b2.mono B1.out.size); clear b2)
    | (go_at_call 169; (with_reducible refine (HO1.out _ ?_).mono ?_); (exact B2.out); rintro e w3 ⟨b3, rfl, l3, p3, c3⟩; have P3 := Lib.hid p3; have B3 : Hid (Below w.heap.size w w3) := B2.out.trans (c3.mono B2.out.size); clear l3 p3 c3)
    | (go_at_call 169; (with_reducible refine (HO2.out _ ?_).mono ?_); (exact B3.out); rintro e w4 ⟨b4, rfl, l4, p4, c4⟩; have P4 := Lib.hid p4; have Q3 := Lib.hid (P3.out.below c4); have B4 : Hid (Below w.heap.size w w4) := B3.out.trans (c4.mono B3.out.size); clear l4 p4 c4)
    | (go_at_call 170; refine (plusK_any Q3.out P4.out (by omega) (by omega) (by omega) HLL.out.1 HLL.out.2).mono ?_; rintro e w5 ⟨b5, rfl, l5, p5, c5⟩; have P5 := Lib.hid p5; have B5 : Hid (Below w.heap.size w w5) := B4.out.trans (c5.mono B4.out.size); clear l5 p5 c5)
    | (go_at_call 66; refine (closedK_any P5.out (by omega)).mono ?_; rintro e w6 ⟨v6, cs6, rfl, o6, c6⟩)
    | fail)
  go_ret2
  exact ⟨v6, cs6, rfl, OF.mono o6 B5.out.size B5.out.size, B5.out.trans (c6.mono B5.out.size)⟩
set_option maxRecDepth 100000 in
set_option maxHeartbeats 1000000 in
theorem mulPolys_any {w : World} {A B : Option Addr} {n m : Nat} {ps qs : List (List Int × Int)} (c d : Nat) (hf : RTm w A n ps) (hg : RTm w B m qs) (hp : polyB ps = true) (hq : polyB qs = true) :
    Calls Try.prog 126 #[.slice A n c, .slice B m d] w (MakesTm w (shutT (timesK (ps.map kc) (qs.map kc))) (shutB (timesK (ps.map kc) (qs.map kc)))) := by
  have hn : n ≤ 600 := by rw [← hf.1]; exact poly_len600 hp
  have hm : m ≤ 600 := by rw [← hg.1]; exact poly_len600 hq
  have HP1 : Hid (∀ W, Below w.heap.size w W → Calls Try.prog 106 #[.slice A n c] W (GivesB W (.bool true))) := fun W bW => by have := iPolyOk_any c (hf.below bW) (by omega); rw [hp] at this; exact this
  have HP2 : Hid (∀ W, Below w.heap.size w W → Calls Try.prog 106 #[.slice B m d] W (GivesB W (.bool true))) := fun W bW => by have := iPolyOk_any d (hg.below bW) (by omega); rw [hq] at this; exact this
  have HO1 : Hid (∀ W, Below w.heap.size w W → Calls Try.prog 169 #[.slice A n c] W (MakesK Unit W 24 600000000 (ps.map kc))) := fun W bW => open_any Unit c (hf.below bW) hp
  have HO2 : Hid (∀ W, Below w.heap.size w W → Calls Try.prog 169 #[.slice B m d] W (MakesK Unit W 24 600000000 (qs.map kc))) := fun W bW => open_any Unit d (hg.below bW) hq
  have HLL : Hid ((ps.map kc).length * (qs.map kc).length ≤ 10000000 ∧ (ps.map kc).length ≤ 10000000 ∧ (qs.map kc).length ≤ 10000000) := by
    rw [List.length_map, List.length_map]
    have h1 := poly_len600 hp
    have h2 := poly_len600 hq
    exact ⟨Nat.le_trans (Nat.mul_le_mul h1 h2) (by omega), by omega, by omega⟩
  go_enter Try.func126, Try.ntmps126
  go_wp2_with (first
    | (go_at_call 106; (with_reducible refine (HP1.out _ ?_).mono ?_); (exact Below.refl _ _); rintro e w1 ⟨rfl, b1⟩; have B1 : Hid (Below w.heap.size w w1) := b1; clear b1)
    | (go_at_call 106; (with_reducible refine (HP2.out _ ?_).mono ?_); (exact B1.out); rintro e w2 ⟨rfl, b2⟩; have B2 : Hid (Below w.heap.size w w2) := B1.out.trans (b2.mono B1.out.size); clear b2)
    | (go_at_call 169; (with_reducible refine (HO1.out _ ?_).mono ?_); (exact B2.out); rintro e w3 ⟨b3, rfl, l3, p3, c3⟩; have P3 := Lib.hid p3; have B3 : Hid (Below w.heap.size w w3) := B2.out.trans (c3.mono B2.out.size); clear l3 p3 c3)
    | (go_at_call 169; (with_reducible refine (HO2.out _ ?_).mono ?_); (exact B3.out); rintro e w4 ⟨b4, rfl, l4, p4, c4⟩; have P4 := Lib.hid p4; have Q3 := Lib.hid (P3.out.below c4); have B4 : Hid (Below w.heap.size w w4) := B3.out.trans (c4.mono B3.out.size); clear l4 p4 c4)
    | (go_at_call 181; refine (timesK_any Q3.out P4.out (by omega) (by omega) (by omega) (by omega) HLL.out.1 HLL.out.2.1 HLL.out.2.2).mono ?_; rintro e w5 ⟨b5, rfl, l5, p5, c5⟩; have P5 := Lib.hid p5; have B5 : Hid (Below w.heap.size w w5) := B4.out.trans (c5.mono B4.out.size); clear l5 p5 c5)
    | (go_at_call 66; refine (closedK_any P5.out (by omega)).mono ?_; rintro e w6 ⟨v6, cs6, rfl, o6, c6⟩)
    | fail)
  go_ret2
  exact ⟨v6, cs6, rfl, OF.mono o6 B5.out.size B5.out.size, B5.out.trans (c6.mono B5.out.size)⟩
theorem lplus_any {w : World} {A B : Option Addr} {n m : Nat} {ps qs : List (List Int × Int)} (c d : Nat) (k : Int) (hf : RTm w A n ps) (hg : RTm w B m qs) (hp : polyB ps = true) (hq : polyB qs = true) (hk : -1000 ≤ k ∧ k ≤ 1000) :
    Calls Try.prog 40 #[.slice A n c, .int .i64 k, .slice B m d] w (MakesT1 w (shutT (plusK k (ps.map kc) (qs.map kc)))) := by
  go_enter Try.func40, Try.ntmps40
  go_wp2_with (go_at_call 113; refine (addPolys_any c d k hf hg hp hq hk).mono ?_; rintro e w1 ⟨v1, cs1, rfl, o1, b1⟩)
  go_ret
  exact ⟨v1, cs1, rfl, o1, b1⟩
theorem ltimes_any {w : World} {A B : Option Addr} {n m : Nat} {ps qs : List (List Int × Int)} (c d : Nat) (hf : RTm w A n ps) (hg : RTm w B m qs) (hp : polyB ps = true) (hq : polyB qs = true) :
    Calls Try.prog 56 #[.slice A n c, .slice B m d] w (MakesT1 w (shutT (timesK (ps.map kc) (qs.map kc)))) := by
  go_enter Try.func56, Try.ntmps56
  go_wp2_with (go_at_call 126; refine (mulPolys_any c d hf hg hp hq).mono ?_; rintro e w1 ⟨v1, cs1, rfl, o1, b1⟩)
  go_ret
  exact ⟨v1, cs1, rfl, o1, b1⟩
end Go.Proofs.Ytgbojgmmingfdaa

/- The walk of FnLr. -/
namespace Go.Proofs.Ytgbojgmmingfdaa.lawLr
open Go.ChangeShapes Go.WideShapes Go.ChangeAt Go.RowKit
open Go.ChangeMaps (open_string shut_string)

theorem shut_poly (L : List (Int × Int)) : polyB (shutT L) = true := by
  rcases h : shutB L with _ | _
  · rw [shut_no h]; rfl
  · rw [shut_yes h]
    rw [shutB, Bool.and_eq_true] at h
    exact h.2
theorem schur_poly (ms : List Int) (n : Int) : polyB (schurR ms n) = true := by
  rw [schurR]
  split
  · rename_i h
    rw [schurB, Bool.and_eq_true, shutB, Bool.and_eq_true] at h
    exact h.2.2
  · rfl
theorem sum_poly (l f : List (List Int × Int)) (h : polyB f = true) (p : List Int × Int) : polyB (lrStep f p) = true := by
  unfold lrStep
  split
  · exact shut_poly _
  · exact h
structure One (a b : List Int) (p : List Int × Int) : Prop where
  lo : 1 ≤ p.2
  hi : p.2 ≤ 1000
  ca : containsB p.1 a = true
  cb : containsB p.1 b = true
  sc : isShapeB (conjB p.1) = true
  sh : isShapeB p.1 = true
  ct : lrcB (conjB a) (conjB b) (conjB p.1) = p.2
structure Pair (a b : List Int) : Prop where
  sym : shB a b = shB b a
  ok2 : shOk (conjB a) (conjB b) = true
  one : ∀ k, k < (shB a b).length → One a b (nthP (shB a b) k)
  pok : ((List.range (shB a b).length).all (pokAt (shB a b))) = true
theorem pair_of {a b : List Int} (h : lrPair a b = true) : Pair a b := by
  unfold lrPair lrPairG at h
  simp only [Bool.and_eq_true, decide_eq_true_eq] at h
  obtain ⟨h1, h2, h3, h4, h5⟩ := h
  refine ⟨h1, h3, fun k hk => ?_, h5⟩
  have h6 := List.all_eq_true.1 h4 (nthP (shB a b) k) (by rw [nthP_lt hk]; exact List.getElem_mem _)
  simp only [lrOne, Bool.and_eq_true, decide_eq_true_eq] at h6
  obtain ⟨a1, a2, a3, a4, a5, a6, a7⟩ := h6
  exact ⟨a1, a2, a3, a4, a5, a6, by rw [lrcB, if_pos ⟨h3, a5⟩]; exact a7⟩
theorem shape_small {l : List Int} (h : isShapeB l = true) : Small l := fun j _ => by have := shape_range h j; omega
theorem sum_small {l : List Int} (h : smallB l = true) : 0 ≤ sumL l ∧ sumL l ≤ 8 := by
  obtain ⟨h1, h2⟩ := smallB_shape h
  refine ⟨?_, h2⟩
  rw [sumL_sum]
  exact (nth_sum (fun j _ => (shape_range h1 j).1) 0).2
theorem step_take (PL : List (List Int × Int)) {k : Nat} (hk : k < PL.length) : (PL.take (k + 1)).foldl lrStep [] = lrStep ((PL.take k).foldl lrStep []) (nthP PL k) := by
  rw [show PL.take (k + 1) = PL.take k ++ [nthP PL k] by rw [nthP_lt hk]; exact (List.take_append_getElem hk).symm, List.foldl_append]
  rfl

set_option maxRecDepth 100000 in
set_option maxHeartbeats 3200000 in
theorem walk {A : Option Addr} {n : Nat} (c : Nat) {w : World} (hx : RB w A n) : Calls Try.prog 8 #[.slice A n c] w (Law w) := by
  obtain ⟨w0, ew⟩ : ∃ w0 : World, w0 = w := ⟨_, rfl⟩
  subst ew
  rcases hbig : decide (1048576 < n) with _ | _
  case true =>
    go_enter Try.func8, Try.ntmps8
    go_wp2_with (go_at_call 22; refine (big_any _).mono ?_; rintro e w' ⟨rfl, q0, rfl⟩)
    go_ret
    exact ⟨rfl, Quiet.below ⟨_, rfl⟩⟩
  go_enter Try.func8, Try.ntmps8
  go_wp2_with (go_at_call 22; refine (big_any _).mono ?_; rintro e w' ⟨rfl, q0, rfl⟩)
  clear hbig
  refine (drawS_any _ (hx.below (Quiet.below ⟨_, rfl⟩))).mono ?_
  rintro e w1 ⟨A1, n1, c1, A2, n2, c2, a, b, W1, W2, rfl, o1, o2, la4, hsb, b1⟩
  have g1 : Below w0.heap.size w0 w1 := bnext (Quiet.below ⟨_, rfl⟩) b1 (by simp)
  have r1 := o1.ri
  have r2 := o2.ri
  have hn1 : n1 ≤ 4 := by rw [← r1.1]; exact la4
  have hn2 : n2 ≤ 3 := by rw [← r2.1]; exact hsb.len
  have HO1 := Lib.hid o1
  have HO2 := Lib.hid o2
  have R1 := Lib.hid r1
  have R2 := Lib.hid r2
  have HSB := Lib.hid hsb
  have LA4 := Lib.hid la4
  clear b1 o1 o2 r1 r2 hsb la4 hx
  go_wp2_with fail
  refine (iSh_any c1 c2 HO1.out HO2.out (by omega) (by omega)).mono ?_
  rintro e w2 ⟨A5, n5, c5, cs5, rfl, o5, l5, ⟨cp5, le5⟩, b2⟩
  have HO5 := Lib.hid o5
  have L5 := Lib.hid l5
  have g2 := bnext g1 b2 g1.size
  clear o5 l5
  go_wp2_with fail
  refine (sSh_any c1 c2 (OI.below HO1.out b2) (OI.below HO2.out b2) (by omega) (by omega)).mono ?_
  rintro e w3 ⟨A6, n6, c6, cs6, rfl, o6, l6, ⟨cp6, le6⟩, b3⟩
  have g3 := bnext g2 b3 g2.size
  have b13 := bnext b2 b3 b2.size
  have HP5 := Lib.hid (OF.below HO5.out b3)
  clear o6 l6 HO5
  have HSM := Lib.hid (shB_small (a := a) (b := b))
  rcases h1 : shOk a b with _ | _
  · have hlc : lrcB a b a = -1 := by rw [lrcB, if_neg (by rw [h1]; simp)]
    go_wp2_with fail
    refine (lrCount_any c1 c2 c1 (OI.below HO1.out b13) (OI.below HO2.out b13) (R1.out.below b13) (by omega) (by omega) (by omega) (fun k hk => by rw [nthP_lt hk]; have := HSM.out.2 _ (List.getElem_mem hk); omega) (by have := HSM.out.1; omega)).mono ?_
    rw [hlc]
    rintro e w4 ⟨rfl, b4⟩
    go_wp2
    go_ret
    exact ⟨rfl, bnext g3 b4 g3.size⟩
  have H1 := Lib.hid h1
  have hsa : Hid (smallB a = true ∧ smallB b = true) := by show _ ∧ _; rw [shOk, Bool.and_eq_true] at h1; exact h1
  have HPR : Hid (Pair a b) := pair_of (lrPair_at hsa.out.1 LA4.out HSB.out)
  have HMU : Hid (lrMul a b = true) := lrMul_at hsa.out.1 LA4.out HSB.out
  have hok2 : Hid (shOk b a = true) := by show _ = _; rw [shOk, hsa.out.1, hsa.out.2]; rfl
  go_wp2_with fail
  refine (iSh_any c2 c1 (OI.below HO2.out b13) (OI.below HO1.out b13) (by omega) (by omega)).mono ?_
  rw [← HPR.out.sym, hok2.out]
  rintro e w4 ⟨A6, n6, c6, cs6, rfl, o6, l6, ⟨cp6, le6⟩, b4⟩
  have g4 := bnext g3 b4 g3.size
  have b14 := bnext b13 b4 b13.size
  have b24 := bnext b3 b4 b3.size
  have HP6 := Lib.hid o6
  clear o6 l6
  have HPK : Hid (∀ k, k < (shB a b).length → (nthP (shB a b) k).1.length ≤ 1000000) := fun k hk => by rw [nthP_lt hk]; have := HSM.out.2 _ (List.getElem_mem hk); omega
  obtain ⟨PL, hPL⟩ : ∃ PL, PL = shB a b := ⟨_, rfl⟩
  have EPL := Lib.hid hPL
  rw [← hPL] at HP5 HP6 L5 HPK
  have HPN : Hid (PL.length ≤ 4294967296) := by rw [hPL]; exact HSM.out.1
  have HPOK : Hid (((List.range PL.length).all (pokAt PL)) = true) := by rw [hPL]; exact HPR.out.pok
  have HONE : Hid (∀ k, k < PL.length → One a b (nthP PL k)) := by rw [hPL]; exact HPR.out.one
  clear hPL
  have hn5 : n5 ≤ 4294967296 := by rw [← L5.out]; exact HPN.out
  go_wp2_with fail
  refine (parts_any (OF.below HP5.out b4) HP6.out (by have := HPN.out; omega)).mono ?_
  rintro e w5 ⟨rfl, b5⟩
  have g5 := bnext g4 b5 g4.size
  have b15 := bnext b14 b5 b14.size
  have b25 := bnext b24 b5 b24.size
  have bp5 := bnext b4 b5 b4.size
  go_wp2_with fail
  refine (partsOk_any (OF.below HP5.out bp5) (by have := HPN.out; omega) HPK.out HPOK.out).mono ?_
  rintro e w6 ⟨rfl, b6⟩
  have g6 := bnext g5 b6 g5.size
  have b16 := bnext b15 b6 b15.size
  have bp6 := bnext bp5 b6 bp5.size
  have HX2 := HPR.out.ok2
  rw [shOk, Bool.and_eq_true] at HX2
  have hxl : (conjB a).length ≤ 16 := shape_len (smallB_shape HX2.1).1
  have hyl : (conjB b).length ≤ 16 := shape_len (smallB_shape HX2.2).1
  clear HX2
  go_wp2_with fail
  refine (iConj_any c1 (R1.out.below b16) (by omega)).mono ?_
  rintro e w7 ⟨A7, n7, c7, rfl, o7, r7, ⟨cp7, le7⟩, b7⟩
  have g7 := bnext g6 b7 g6.size
  have b17 := bnext b16 b7 b16.size
  have bp7 := bnext bp6 b7 bp6.size
  have hn7 : n7 ≤ 16 := by rw [← r7.1]; exact hxl
  have HO7 := Lib.hid o7
  clear o7 r7
  go_wp2_with fail
  refine (iConj_any c2 (R2.out.below b17) (by omega)).mono ?_
  rintro e w8 ⟨A8, n8, c8, rfl, o8, r8, ⟨cp8, le8⟩, b8⟩
  have g8 := bnext g7 b8 g7.size
  have b18 := bnext b17 b8 b17.size
  have bp8 := bnext bp7 b8 bp7.size
  have hn8 : n8 ≤ 16 := by rw [← r8.1]; exact hyl
  have HO8 := Lib.hid o8
  have HO7b := Lib.hid (OI.below HO7.out b8)
  clear o8 r8
  have HPA := Lib.hid (OF.below HP5.out bp8)
  have HRA := Lib.hid (R1.out.below b18)
  have HRB := Lib.hid (R2.out.below b18)
  have G8 := Lib.hid g8
  have hot : Hid (OT (w8.alloc (.cells #[] 81)) w8.heap.size w8.heap.size (.slice (some ⟨w8.heap.size, 0, none⟩) 0 0) [] []) := OT.lit w8 _ _ (Nat.le_refl _)
  have b8a : Hid (Below w8.heap.size w8 (w8.alloc (.cells #[] 81))) := (Below.refl _ _).alloc (Nat.le_refl _) _
  clear g1 g2 g3 g4 g5 g6 g7 g8 b2 b3 b4 b5 b6 b7 b8 b13 b14 b15 b16 b17 b18 b24 b25 bp5 bp6 bp7 bp8 hxl hyl
  go_wp2_with fail
  go_loopw [13, 14, 15, 16, 17] (fun f i _ _ _ wr => ∃ (k : Nat) (F : List (List Int × Int)) (A9 : Option Addr) (n9 c9 : Nat) (cells : List Value), k ≤ n5 ∧ i = .int .i64 (k : Int) ∧ f = .slice A9 n9 c9 ∧ OT wr w8.heap.size w8.heap.size (.slice A9 n9 c9) F cells ∧ Hid (F = (PL.take k).foldl lrStep []) ∧ Hid (polyB F = true) ∧ Below w8.heap.size w8 wr) (fun _ i _ _ _ _ => n5 - (intOf i).toNat)
  case atStart => exact ⟨0, [], _, _, _, _, Nat.zero_le _, rfl, rfl, hot.out, by show _ = _; simp, rfl, b8a.out⟩
  case round =>
    obtain ⟨k, F, A9, n9, c9, fc, hk, rfl, rfl, ot, hF, hPF, bl⟩ := hrel
    by_cases hlt : k < n5
    · have g5 := OF.below HPA.out bl
      obtain ⟨G, cc, hG, _⟩ := OF.shape g5 (by rw [L5.out]; omega)
      obtain ⟨rfl, e2, e3⟩ := slice_inj hG
      clear hG e2 e3
      have hkP : k < PL.length := by rw [L5.out]; exact hlt
      obtain ⟨A3, n3, c3, x1, _, x2, x2c, x3⟩ := OP.cell g5 (k := k) hkP
      have o := HONE.out k hkP
      have hst := step_take PL hkP
      obtain ⟨P, hP⟩ : ∃ P, P = nthP PL k := ⟨_, rfl⟩
      rw [← hP] at x2 x3 o hst
      obtain ⟨cl, y⟩ := P
      have x3' : wr.cell? ⟨G, k * 2 + 1, none⟩ = some (.int .i64 y) := x3
      have x2' := x2.ri
      have h16 : cl.length ≤ 16 := shape_len o.sh
      have hn3 : n3 ≤ 16 := by rw [← x2'.1]; exact h16
      have HL3 : Hid (cl.length = n3) := x2'.1
      have R3 : Hid (RI wr A3 n3 cl) := x2'
      have OO := Lib.hid o
      have X1 := Lib.hid x1
      have X3 := Lib.hid x3'
      have HST := Lib.hid hst
      have BL := Lib.hid bl
      have OTF := Lib.hid ot
      have hylo2 : decide (y < 1) = false := decide_eq_false (by have := o.lo; exact Int.not_lt.2 this)
      have hyy : (y != y) = false := by simp
      have HCA : Hid (∀ W, Below wr.heap.size wr W → Calls Try.prog 55 #[.slice A3 n3 c3, .slice A1 n1 c1] W (Gives W (.bool true))) := fun W bW => by
        have h := contains_any' (w := W) c3 c1 (R3.out.below bW) ((HRA.out.below BL.out).below bW) (by omega) (by omega)
        rw [OO.out.ca] at h
        exact h
      have HCB : Hid (∀ W, Below wr.heap.size wr W → Calls Try.prog 55 #[.slice A3 n3 c3, .slice A2 n2 c2] W (Gives W (.bool true))) := fun W bW => by
        have h := contains_any' (w := W) c3 c2 (R3.out.below bW) ((HRB.out.below BL.out).below bW) (by omega) (by omega)
        rw [OO.out.cb] at h
        exact h
      have HCJ : Hid (∀ W, Below wr.heap.size wr W → Calls Try.prog 54 #[.slice A3 n3 c3] W (Makes W (conjB cl))) := fun W bW => iConj_any c3 (R3.out.below bW) (by omega)
      have HLR : Hid (∀ W A' n' c', Below wr.heap.size wr W → RI W A' n' (conjB cl) → Calls Try.prog 51 #[.slice A7 n7 c7, .slice A8 n8 c8, .slice A' n' c'] W (GivesB W (.int .i64 y))) := fun W A' n' c' bW hr => by
        have hc16 := shape_len OO.out.sc
        have h := lrCount_any (w := W) c7 c8 c' (OI.below (OI.below HO7b.out BL.out) bW) (OI.below (OI.below HO8.out BL.out) bW) hr (by omega) (by omega) (by rw [← hr.1]; exact Nat.le_trans hc16 (by omega)) (fun k hk => by rw [nthP_lt hk]; have := (shB_small (a := conjB a) (b := conjB b)).2 _ (List.getElem_mem hk); omega) (by have := (shB_small (a := conjB a) (b := conjB b)).1; omega)
        rw [OO.out.ct] at h
        exact h
      clear g5 x2 x3 x2' x2c o hst bl ot hP h16
      go_wp2_with fail
      go_region_held3 (fun w' => w'.cell? ⟨G, k * 2, none⟩ = some (.slice A3 n3 c3) ∧ w'.cell? ⟨G, k * 2 + 1, none⟩ = some (.int .i64 y)) (first
        | exact ⟨X1.out, X3.out⟩
        | exact ⟨one_cell b5 X1.out, one_cell b5 X3.out⟩
        | exact ⟨one_cell b4 X1.out, one_cell b4 X3.out⟩
        | exact ⟨one_cell b3 X1.out, one_cell b3 X3.out⟩
        | exact ⟨one_cell b2 X1.out, one_cell b2 X3.out⟩
        | fail) (first
        | (go_at_call 55; (with_reducible refine (HCA.out _ ?_).mono ?_); (exact ⟨rfl, rfl, rfl, Nat.le_refl _, fun _ _ => rfl⟩); rintro e w2 ⟨rfl, q2⟩; have b2 : Below wr.heap.size wr w2 := (by have b3 := q2.below (B := wr.heap.size); exact ⟨b3.os, b3.tape, b3.output, b3.size, b3.block⟩))
        | (go_at_call 55; (with_reducible refine (HCB.out _ ?_).mono ?_); (exact ⟨b2.os, b2.tape, b2.output, b2.size, b2.block⟩); rintro e w3 ⟨rfl, q3⟩; have b3 : Below wr.heap.size wr w3 := (by have b4 := b2.trans (q3.below (B := wr.heap.size)); exact ⟨b4.os, b4.tape, b4.output, b4.size, b4.block⟩))
        | (go_at_call 54; (with_reducible refine (HCJ.out _ ?_).mono ?_); (exact ⟨b3.os, b3.tape, b3.output, b3.size, b3.block⟩); rintro e w4 ⟨A6, n6, c6, rfl, o6, r6, ⟨cp6, le6⟩, k4⟩; have b4 : Below wr.heap.size wr w4 := (by have b5 := b3.trans (k4.mono b3.size); exact ⟨b5.os, b5.tape, b5.output, b5.size, b5.block⟩))
        | (go_at_call 51; (with_reducible refine (HLR.out _ _ _ _ ?_ ?_).mono ?_); (exact ⟨b4.os, b4.tape, b4.output, b4.size, b4.block⟩); (exact r6); rintro e w5 ⟨rfl, k5⟩; have b5 : Below wr.heap.size wr w5 := (by have b6 := b4.trans (k5.mono b4.size); exact ⟨b6.os, b6.tape, b6.output, b6.size, b6.block⟩))
        | fail)
      have BB5 : Hid (Below wr.heap.size wr w5) := b5
      have HSU : Hid (∀ W, Below wr.heap.size wr W → Calls Try.prog 33 #[.slice A3 n3 c3] W (Gives W (.int .i64 (sumL cl)))) := fun W bW => lsum_any _ (R3.out.below bW) (shape_small OO.out.sh) (by omega)
      clear b2 b3 b4 b5 r6 o6 q2 q3 k4 k5 x1 x3'
      obtain ⟨S, hS⟩ : ∃ S, S = sumL cl := ⟨_, rfl⟩
      rw [← hS] at HSU
      have HS := Lib.hid hS
      clear hS
      by_cases h3 : n3 ≤ 3
      · have h3' : decide ((n3 : Int) ≤ 3) = true := decide_eq_true (by omega)
        by_cases h8 : S ≤ 8
        · have h8' : decide (S ≤ 8) = true := decide_eq_true h8
          have HF2 : Hid (lrStep F (cl, y) = shutT (plusK y (F.map kc) ((schurR cl 3).map kc))) := by
            show _ = _
            rw [lrStep, if_pos ⟨by show cl.length ≤ 3; rw [HL3.out]; exact h3, by show sumL cl ≤ 8; rw [← HS.out]; exact h8⟩]
          clear h8
          go_wp2_with (first | (go_at_call 33; (with_reducible refine (HSU.out _ ?_).mono ?_); (exact BB5.out); rintro e w6 ⟨rfl, q6⟩) | fail)
          have bw6 : Below wr.heap.size wr w6 := BB5.out.trans (q6.below (B := w5.heap.size) |>.mono BB5.out.size)
          go_wp2_with fail
          refine (iSchur_any c3 3 (R3.out.below bw6) (by omega) (by omega)).mono ?_
          intro e w7 h7
          obtain ⟨A10, c10, cs10, rfl, o10, b7⟩ := h7.form
          have bw7 := bnext bw6 b7 bw6.size
          have x37 := one_cell bw7 X3.out
          have RF := Lib.hid (OTF.out.rt.below bw7)
          have RG := Lib.hid o10.rt
          clear o10 h7
          go_wp2_with fail
          refine (lplus_any c9 c10 y RF.out RG.out hPF.out (schur_poly cl 3) ⟨by have := OO.out.lo; simp only at this; omega, OO.out.hi⟩).mono ?_
          rintro e w9 ⟨v9, cs9, rfl, o9, b9⟩
          obtain ⟨A11, c11, rfl, -⟩ := OF.form o9
          have bw9 := bnext bw7 b9 bw7.size
          go_wp2_with fail
          go_roundw
          case rel => exact ⟨k + 1, lrStep F (cl, y), A11, _, c11, cs9, by omega, by go_num, rfl, by rw [HF2.out]; exact OF.mono o9 (Nat.le_trans BL.out.size bw7.size) (Nat.le_trans BL.out.size bw7.size), by show _ = _; rw [HST.out, ← hF.out], sum_poly [] F hPF.out _, bnext BL.out bw9 BL.out.size⟩
          case measure => simp [intOf]; omega
        · have h8' : decide (S ≤ 8) = false := decide_eq_false h8
          have HF2 : Hid (lrStep F (cl, y) = F) := by
            show _ = _
            rw [lrStep, if_neg fun h => h8 (by rw [HS.out]; exact h.2)]
          clear h8
          go_wp2_with (first | (go_at_call 33; (with_reducible refine (HSU.out _ ?_).mono ?_); (exact BB5.out); rintro e w6 ⟨rfl, q6⟩) | fail)
          have bw6 : Below wr.heap.size wr w6 := BB5.out.trans (q6.below (B := w5.heap.size) |>.mono BB5.out.size)
          go_wp2_with fail
          go_roundw
          case rel => exact ⟨k + 1, F, A9, n9, c9, fc, by omega, by go_num, rfl, OF.below OTF.out bw6, by show _ = _; rw [HST.out, ← hF.out, HF2.out], hPF, bnext BL.out bw6 BL.out.size⟩
          case measure => simp [intOf]; omega
      · have h3' : decide ((n3 : Int) ≤ 3) = false := decide_eq_false (by omega)
        have HF2 : Hid (lrStep F (cl, y) = F) := by
          show _ = _
          rw [lrStep, if_neg fun h => h3 (by rw [← HL3.out]; exact h.1)]
        go_wp2_with fail
        go_roundw
        case rel => exact ⟨k + 1, F, A9, n9, c9, fc, by omega, by go_num, rfl, OF.below OTF.out BB5.out, by show _ = _; rw [HST.out, ← hF.out, HF2.out], hPF, bnext BL.out BB5.out BL.out.size⟩
        case measure => simp [intOf]; omega
    · have HFS : Hid (F = lrSum PL) := by
        show _ = _
        rw [hF.out, lrSum, show k = PL.length by rw [L5.out]; omega, List.take_length]
      have hMM := HMU.out
      rw [lrMul, lrMulG, Bool.or_eq_true, Bool.and_eq_true, Bool.and_eq_true, decide_eq_true_eq, decide_eq_true_eq, ← EPL.out] at hMM
      have sa := sum_small hsa.out.1
      have sb := sum_small hsa.out.2
      obtain ⟨S1, hS1⟩ : ∃ S, S = sumL a := ⟨_, rfl⟩
      obtain ⟨S2, hS2⟩ : ∃ S, S = sumL b := ⟨_, rfl⟩
      rw [← hS1] at sa hMM
      rw [← hS2] at sb hMM
      have HSA : Hid (∀ W, Below w8.heap.size w8 W → Calls Try.prog 33 #[.slice A1 n1 c1] W (Gives W (.int .i64 S1))) := fun W bW => by rw [hS1]; exact lsum_any _ (HRA.out.below bW) (shape_small (smallB_shape hsa.out.1).1) (by omega)
      have HSB2 : Hid (∀ W, Below w8.heap.size w8 W → Calls Try.prog 33 #[.slice A2 n2 c2] W (Gives W (.int .i64 S2))) := fun W bW => by rw [hS2]; exact lsum_any _ (HRB.out.below bW) (shape_small (smallB_shape hsa.out.2).1) (by omega)
      have hw : IntKind.i64.wrap (S1 + S2) = S1 + S2 := IntWalk.i64_in _ (by omega)
      have OTF := Lib.hid ot
      have BL : Hid (Below w8.heap.size w8 wr) := bl
      have HMM := Lib.hid hMM
      clear hS1 hS2 sa sb hMM ot bl
      by_cases h8 : 8 < S1 + S2
      · have h8' : decide (8 < S1 + S2) = true := decide_eq_true h8
        clear h8 HMM
        go_wp2_with (first
          | (go_at_call 33; (with_reducible refine (HSA.out _ ?_).mono ?_); (exact BL.out); rintro e w6 ⟨rfl, q6⟩; have B6 : Hid (Below w8.heap.size w8 w6) := BL.out.trans (q6.below (B := wr.heap.size) |>.mono BL.out.size))
          | (go_at_call 33; (with_reducible refine (HSB2.out _ ?_).mono ?_); (exact B6.out); rintro e w7 ⟨rfl, q7⟩; have B7 : Hid (Below w8.heap.size w8 w7) := B6.out.trans (q7.below (B := w6.heap.size) |>.mono B6.out.size))
          | fail)
        go_ret
        exact ⟨rfl, bnext G8.out B7.out G8.out.size⟩
      · have h8' : decide (8 < S1 + S2) = false := decide_eq_false h8
        have HM3 := Lib.hid (HMM.out.resolve_left h8)
        clear h8 HMM
        go_wp2_with (first
          | (go_at_call 33; (with_reducible refine (HSA.out _ ?_).mono ?_); (exact BL.out); rintro e w6 ⟨rfl, q6⟩; have B6 : Hid (Below w8.heap.size w8 w6) := BL.out.trans (q6.below (B := wr.heap.size) |>.mono BL.out.size))
          | (go_at_call 33; (with_reducible refine (HSB2.out _ ?_).mono ?_); (exact B6.out); rintro e w7 ⟨rfl, q7⟩; have B7 : Hid (Below w8.heap.size w8 w7) := B6.out.trans (q7.below (B := w6.heap.size) |>.mono B6.out.size))
          | fail)
        have h67 : Below wr.heap.size wr w6 := q6.below
        have h677 : Below wr.heap.size wr w7 := bnext h67 q7.below h67.size
        have OTF7 := Lib.hid (OF.below OTF.out h677)
        refine (iSchur_any c1 3 (HRA.out.below B7.out) (by omega) (by omega)).mono ?_
        intro e w9 h9
        rw [HM3.out.1] at h9
        obtain ⟨A10, c10, cs10, rfl, o10, b9⟩ := h9.form
        have B9 := Lib.hid (bnext B7.out b9 B7.out.size)
        have OTF9 := Lib.hid (OF.below OTF7.out b9)
        have RG9 := Lib.hid o10.rt
        clear h9 o10
        go_wp2_with fail
        refine (iSchur_any c2 3 (HRB.out.below B9.out) (by omega) (by omega)).mono ?_
        intro e w10 h10
        rw [HM3.out.2.1] at h10
        obtain ⟨A11, c11, cs11, rfl, o11, b10⟩ := h10.form
        have B10 := Lib.hid (bnext B9.out b10 B9.out.size)
        have OTF10 := Lib.hid (OF.below OTF9.out b10)
        have RG10 := Lib.hid (RG9.out.below b10)
        have RH10 := Lib.hid o11.rt
        clear h10 o11
        go_wp2_with fail
        refine (ltimes_any c10 c11 RG10.out RH10.out (schur_poly a 3) (schur_poly b 3)).mono ?_
        rintro e w11 ⟨v12, cs12, rfl, o12, b11⟩
        have HEQ : Hid (F = shutT (timesK ((schurR a 3).map kc) ((schurR b 3).map kc))) := by
          show _ = _
          rw [HFS.out]
          exact HM3.out.2.2
        rw [← HEQ.out] at o12
        have hF6 : F.length ≤ 1000000000 := Nat.le_trans (poly_len600 hPF.out) (by omega)
        have OTF11 := Lib.hid (OF.below OTF10.out b11)
        have O12 := Lib.hid o12
        have B11 := Lib.hid (bnext B10.out b11 B10.out.size)
        obtain ⟨A12, c12, rfl, -⟩ := OF.form o12
        clear o12
        go_wp2_with fail
        refine (terms_any (OT.tp OTF11.out) (OT.tp O12.out) hF6).mono ?_
        rintro e w12 ⟨rfl, b12⟩
        go_wp2
        go_ret
        exact ⟨rfl, bnext G8.out (bnext B11.out b12 B11.out.size) G8.out.size⟩
end Go.Proofs.Ytgbojgmmingfdaa.lawLr
