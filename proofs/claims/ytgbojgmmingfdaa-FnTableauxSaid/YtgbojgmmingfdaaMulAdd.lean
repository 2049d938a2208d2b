/- AddPolys and MulPolys of the program, at polynomials that are right; plus, times and terms of the statements. -/
import Derived.Test.YtgbojgmmingfdaaTimesX
import Derived.Test.YtgbojgmmingfdaaSchurB
namespace Go.Proofs.Ytgbojgmmingfdaa
open Go.RowKit Go.Maps Go.MapKept Go.WideMaps

theorem timesK_any {H : Type} {w : World} {b1 b2 C1 C2 : Nat} {E1 E2 : Int} {L M : List (Int × Int)} (hf : PK H w b1 E1 C1 L) (hg : PK H w b2 E2 C2 M) (hE : 0 ≤ E1 + E2 ∧ E1 + E2 ≤ 127) (hE1 : E1 ≤ 127) (hE2 : E2 ≤ 127) (hA : C1 * C2 ≤ 1000000000000000000) (hLM : L.length * M.length ≤ 10000000) (hL : L.length ≤ 10000000) (hM : M.length ≤ 10000000) :
    Calls Try.prog 181 #[.map (some b1), .map (some b2)] w (MakesK H w (E1 + E2) (C1 * C2) (timesK L M)) := by
  obtain ⟨n1, f, f1, f2, f3, f4, f5⟩ := hf
  obtain ⟨n2, g, g1, g2, g3, g4, g5⟩ := hg
  have l1 := (f3.perm hE1).length_eq
  have l2 := (g3.perm hE2).length_eq
  rw [f5, List.length_map] at l1
  rw [g5, List.length_map] at l2
  have hm : absT f * absT g ≤ C1 * C2 := Nat.mul_le_mul f4 g4
  refine (times_any f1 g1 f3 g3 hE hE1 hE2 (by omega) (by rw [← l1, ← l2]; exact hLM) (by omega) (by omega)).mono ?_
  rintro e w' ⟨b, h1, h2, ⟨n, acc, a1, a2, a3, a4, a5⟩, h3⟩
  refine ⟨b, h1, h2, ⟨n, acc, a1, a2, a3, by omega, ?_⟩, h3⟩
  rw [a5, prodT_kc, timesK]
  refine gatherK_perm ?_
  have p1 := f3.perm hE1
  have p2 := g3.perm hE2
  rw [f5] at p1
  rw [g5] at p2
  exact (p1.symm.flatMap_right _).trans (perm_flatMap fun a _ => p2.symm.map _)
/-- What a function leaves that returns terms. -/
def MakesT1 (w : World) (ps : List (List Int × Int)) : Ending → World → Prop := fun e w' =>
  ∃ v cells, e = .returned v ∧ OT w' w.heap.size w.heap.size v ps cells ∧ Below w.heap.size w w'
theorem MakesTm.form {w w' : World} {ps : List (List Int × Int)} {ok : Bool} {e : Ending} (h : MakesTm w ps ok e w') : ∃ A c cells, e = .returned (.tuple #[.slice A ps.length c, .bool ok]) ∧ OT w' w.heap.size w.heap.size (.slice A ps.length c) ps cells ∧ Below w.heap.size w w' := by
  obtain ⟨v, cells, h1, h2, h3⟩ := h
  obtain ⟨A, c, rfl, -⟩ := OF.form h2
  exact ⟨A, c, cells, h1, h2, h3⟩
theorem poly_len600 {ps : List (List Int × Int)} (h : polyB ps = true) : ps.length ≤ 600 := (poly_at h).1
set_option maxRecDepth 100000 in
set_option maxHeartbeats 1000000 in
theorem addPolys_any {w : World} {A B : Option Addr} {n m : Nat} {ps qs : List (List Int × Int)} (c d : Nat) (k : Int) (hf : RTm w A n ps) (hg : RTm w B m qs) (hp : polyB ps = true) (hq : polyB qs = true) (hk : -1000 ≤ k ∧ k ≤ 1000) :
    Calls Try.prog 113 #[.slice A n c, .int .i64 k, .slice B m d] w (MakesTm w (shutT (plusK k (ps.map kc) (qs.map kc))) (shutB (plusK k (ps.map kc) (qs.map kc)))) := by
  have hn : n ≤ 600 := by rw [← hf.1]; exact poly_len600 hp
  have hm : m ≤ 600 := by rw [← hg.1]; exact poly_len600 hq
  have HP1 : Hid (∀ W, Below w.heap.size w W → Calls Try.prog 106 #[.slice A n c] W (GivesB W (.bool true))) := fun W bW => by have := iPolyOk_any c (hf.below bW) (by omega); rw [hp] at this; exact this
  have HP2 : Hid (∀ W, Below w.heap.size w W → Calls Try.prog 106 #[.slice B m d] W (GivesB W (.bool true))) := fun W bW => by have := iPolyOk_any d (hg.below bW) (by omega); rw [hq] at this; exact this
  have HO1 : Hid (∀ W, Below w.heap.size w W → Calls Try.prog 169 #[.slice A n c] W (MakesK Unit W 24 600000000 (ps.map kc))) := fun W bW => open_any Unit c (hf.below bW) hp
  have HO2 : Hid (∀ W, Below w.heap.size w W → Calls Try.prog 169 #[.slice B m d] W (MakesK Unit W 24 600000000 (qs.map kc))) := fun W bW => open_any Unit d (hg.below bW) hq
  have HLL : Hid ((ps.map kc).length ≤ 10000000 ∧ (qs.map kc).length ≤ 10000000) := by rw [List.length_map, List.length_map]; have := poly_len600 hp; have := poly_len600 hq; exact ⟨by omega, by omega⟩
  go_enter Try.func113, Try.ntmps113
  go_wp2_with (first
    | (go_at_call 106; (with_reducible refine (HP1.out _ ?_).mono ?_); (exact Below.refl _ _); rintro e w1 ⟨rfl, b1⟩; have B1 : Hid (Below w.heap.size w w1) := b1; clear b1)
    | (go_at_call 106; (with_reducible refine (HP2.out _ ?_).mono ?_); (exact B1.out); rintro e w2 ⟨rfl, b2⟩; have B2 : Hid (Below w.heap.size w w2) := B1.out.trans (b2.mono B1.out.size); clear b2)
    | (go_at_call 169; (with_reducible refine (HO1.out _ ?_).mono ?_); (exact B2.out); rintro e w3 ⟨b3, rfl, l3, p3, c3⟩; have P3 := Lib.hid p3; have B3 : Hid (Below w.heap.size w w3) := B2.out.trans (c3.mono B2.out.size); clear l3 p3 c3)
    | (go_at_call 169; (with_reducible refine (HO2.out _ ?_).mono ?_); (exact B3.out); rintro e w4 ⟨b4, rfl, l4, p4, c4⟩; have P4 := Lib.hid p4; have Q3 := Lib.hid (P3.out.below c4); have B4 : Hid (Below w.heap.size w w4) := B3.out.trans (c4.mono B3.out.size); clear l4 p4 c4)
    | (go_at_call 170; refine (plusK_any Q3.out P4.out (by omega) (by omega) (by omega) HLL.out.1 HLL.out.2).mono ?_; rintro e w5 ⟨b5, rfl, l5, p5, c5⟩; have P5 := Lib.hid p5; have B5 : Hid (Below w.heap.size w w5) := B4.out.trans (c5.mono B4.out.size); clear l5 p5 c5)
    | (go_at_call 66; refine (closedK_any P5.out (by omega)).mono ?_; rintro e w6 ⟨v6, cs6, rfl, o6, c6⟩)
    | fail)
  go_ret2
  exact ⟨v6, cs6, rfl, OF.mono o6 B5.out.size B5.out.size, B5.out.trans (c6.mono B5.out.size)⟩
set_option maxRecDepth 100000 in
set_option maxHeartbeats 1000000 in
theorem mulPolys_any {w : World} {A B : Option Addr} {n m : Nat} {ps qs : List (List Int × Int)} (c d : Nat) (hf : RTm w A n ps) (hg : RTm w B m qs) (hp : polyB ps = true) (hq : polyB qs = true) :
    Calls Try.prog 126 #[.slice A n c, .slice B m d] w (MakesTm w (shutT (timesK (ps.map kc) (qs.map kc))) (shutB (timesK (ps.map kc) (qs.map kc)))) := by
  have hn : n ≤ 600 := by rw [← hf.1]; exact poly_len600 hp
  have hm : m ≤ 600 := by rw [← hg.1]; exact poly_len600 hq
  have HP1 : Hid (∀ W, Below w.heap.size w W → Calls Try.prog 106 #[.slice A n c] W (GivesB W (.bool true))) := fun W bW => by have := iPolyOk_any c (hf.below bW) (by omega); rw [hp] at this; exact this
  have HP2 : Hid (∀ W, Below w.heap.size w W → Calls Try.prog 106 #[.slice B m d] W (GivesB W (.bool true))) := fun W bW => by have := iPolyOk_any d (hg.below bW) (by omega); rw [hq] at this; exact this
  have HO1 : Hid (∀ W, Below w.heap.size w W → Calls Try.prog 169 #[.slice A n c] W (MakesK Unit W 24 600000000 (ps.map kc))) := fun W bW => open_any Unit c (hf.below bW) hp
  have HO2 : Hid (∀ W, Below w.heap.size w W → Calls Try.prog 169 #[.slice B m d] W (MakesK Unit W 24 600000000 (qs.map kc))) := fun W bW => open_any Unit d (hg.below bW) hq
  have HLL : Hid ((ps.map kc).length * (qs.map kc).length ≤ 10000000 ∧ (ps.map kc).length ≤ 10000000 ∧ (qs.map kc).length ≤ 10000000) := by
    rw [List.length_map, List.length_map]
    have h1 := poly_len600 hp
    have h2 := poly_len600 hq
    exact ⟨Nat.le_trans (Nat.mul_le_mul h1 h2) (by omega), by omega, by omega⟩
  go_enter Try.func126, Try.ntmps126
  go_wp2_with (first
    | (go_at_call 106; (with_reducible refine (HP1.out _ ?_).mono ?_); (exact Below.refl _ _); rintro e w1 ⟨rfl, b1⟩; have B1 : Hid (Below w.heap.size w w1) := b1; clear b1)
    | (go_at_call 106; (with_reducible refine (HP2.out _ ?_).mono ?_); (exact B1.out); rintro e w2 ⟨rfl, b2⟩; have B2 : Hid (Below w.heap.size w w2) := B1.out.trans (b2.mono B1.out.size); clear b2)
    | (go_at_call 169; (with_reducible refine (HO1.out _ ?_).mono ?_); (exact B2.out); rintro e w3 ⟨b3, rfl, l3, p3, c3⟩; have P3 := Lib.hid p3; have B3 : Hid (Below w.heap.size w w3) := B2.out.trans (c3.mono B2.out.size); clear l3 p3 c3)
    | (go_at_call 169; (with_reducible refine (HO2.out _ ?_).mono ?_); (exact B3.out); rintro e w4 ⟨b4, rfl, l4, p4, c4⟩; have P4 := Lib.hid p4; have Q3 := Lib.hid (P3.out.below c4); have B4 : Hid (Below w.heap.size w w4) := B3.out.trans (c4.mono B3.out.size); clear l4 p4 c4)
    | (go_at_call 181; refine (timesK_any Q3.out P4.out (by omega) (by omega) (by omega) (by omega) HLL.out.1 HLL.out.2.1 HLL.out.2.2).mono ?_; rintro e w5 ⟨b5, rfl, l5, p5, c5⟩; have P5 := Lib.hid p5; have B5 : Hid (Below w.heap.size w w5) := B4.out.trans (c5.mono B4.out.size); clear l5 p5 c5)
    | (go_at_call 66; refine (closedK_any P5.out (by omega)).mono ?_; rintro e w6 ⟨v6, cs6, rfl, o6, c6⟩)
    | fail)
  go_ret2
  exact ⟨v6, cs6, rfl, OF.mono o6 B5.out.size B5.out.size, B5.out.trans (c6.mono B5.out.size)⟩
theorem lplus_any {w : World} {A B : Option Addr} {n m : Nat} {ps qs : List (List Int × Int)} (c d : Nat) (k : Int) (hf : RTm w A n ps) (hg : RTm w B m qs) (hp : polyB ps = true) (hq : polyB qs = true) (hk : -1000 ≤ k ∧ k ≤ 1000) :
    Calls Try.prog 40 #[.slice A n c, .int .i64 k, .slice B m d] w (MakesT1 w (shutT (plusK k (ps.map kc) (qs.map kc)))) := by
  go_enter Try.func40, Try.ntmps40
  go_wp2_with (go_at_call 113; refine (addPolys_any c d k hf hg hp hq hk).mono ?_; rintro e w1 ⟨v1, cs1, rfl, o1, b1⟩)
  go_ret
  exact ⟨v1, cs1, rfl, o1, b1⟩
theorem ltimes_any {w : World} {A B : Option Addr} {n m : Nat} {ps qs : List (List Int × Int)} (c d : Nat) (hf : RTm w A n ps) (hg : RTm w B m qs) (hp : polyB ps = true) (hq : polyB qs = true) :
    Calls Try.prog 56 #[.slice A n c, .slice B m d] w (MakesT1 w (shutT (timesK (ps.map kc) (qs.map kc)))) := by
  go_enter Try.func56, Try.ntmps56
  go_wp2_with (go_at_call 126; refine (mulPolys_any c d hf hg hp hq).mono ?_; rintro e w1 ⟨v1, cs1, rfl, o1, b1⟩)
  go_ret
  exact ⟨v1, cs1, rfl, o1, b1⟩
end Go.Proofs.Ytgbojgmmingfdaa

/- demazure of the program, in the words of keys; DemazureOf at polynomials that are right. -/
namespace Go.Proofs.Ytgbojgmmingfdaa
open Go.RowKit Go.Maps Go.MapKept Go.WideMaps

theorem exT_kc {x : List Int × Int} (h : x.1.length = 7) (h2 : Ex128 x.1) : exT (kc x) = x := by
  show (expL (keyL x.1), x.2) = x
  rw [expL_keyL h h2]
theorem PolE.back {E : Int} {f : List (List Int × Int)} (h : PolE E f) (hE : E ≤ 127) : ((kf f).map exT).Perm f := by
  have h1 := (h.perm hE).map exT
  rw [List.map_map] at h1
  have h2 : f.map (exT ∘ kc) = f := by
    have : f.map (exT ∘ kc) = f.map id := List.map_congr_left fun x hx => exT_kc (h.ex128 hE x hx).1 (h.ex128 hE x hx).2
    rw [this, List.map_id]
  rw [h2] at h1
  exact h1
theorem insK_len (k c : Int) : ∀ l : List (Int × Int), (insK k c l).length ≤ l.length + 1
  | [] => by unfold insK; split <;> simp
  | y :: l => by
    have h := insK_len k c l
    unfold insK
    split
    · simp only [List.length_cons]; omega
    · split
      · split
        · simp only [List.length_cons]; omega
        · simp only [List.length_cons]; omega
      · split
        · simp only [List.length_cons]; omega
        · simp only [List.length_cons]; omega
theorem gatherK_len : ∀ {l : List (Int × Int)}, (gatherK l).length ≤ l.length
  | [] => Nat.le_refl _
  | x :: l => by
    have h1 := gatherK_len (l := l)
    have h2 := insK_len x.1 x.2 (gatherK l)
    have e : gatherK (x :: l) = insK x.1 x.2 (gatherK l) := rfl
    rw [e, List.length_cons]
    omega
def divK (i : Nat) (L : List (Int × Int)) : List (Int × Int) := gatherK ((divL i (L.map exT)).map kc)
def raiK (i : Nat) (L : List (Int × Int)) : List (Int × Int) := gatherK ((raL i (L.map exT)).map kc)
def demK (i : Nat) (L : List (Int × Int)) : List (Int × Int) := divK i (raiK i L)
theorem upE_at {i : Nat} {e : List Int} (h : i < e.length) : nth (upE i e) i = nth e i + 1 := by rw [upE, nth_set_eq h]
theorem upE_ne {i j : Nat} {e : List Int} (h : i ≠ j) : nth (upE i e) j = nth e j := by rw [upE, nth_set_ne h]
/-- What is left of a term that was raised. -/
theorem dvT_up {E : Int} {e : List Int} {c : Int} {i : Nat} (hi : i < 6) (h : e.length = 7 ∧ ∀ j, 0 ≤ nth e j ∧ nth e j ≤ E) : ∀ y ∈ dvT i (upE i e, c), ∀ j, 0 ≤ nth y.1 j ∧ nth y.1 j ≤ E := by
  intro y hy j
  obtain ⟨k, hk, rfl⟩ := List.mem_map.1 hy
  rw [List.mem_range] at hk
  have a0 := h.2 i
  have a1 := h.2 (i + 1)
  have u0 : nth (upE i e) i = nth e i + 1 := upE_at (by omega)
  have u1 : nth (upE i e) (i + 1) = nth e (i + 1) := upE_ne (by omega)
  unfold dLo dHi at hk ⊢
  simp only [u0, u1] at hk ⊢
  by_cases j0 : j = i
  · rw [j0, swE_at0 _ _ (by rw [upE_len]; omega)]; omega
  by_cases j1 : j = i + 1
  · rw [j1, swE_at1 _ _ (by rw [upE_len]; omega)]; omega
  · rw [swE_ne _ _ j0 j1, upE_ne (by omega)]
    exact h.2 j
set_option maxRecDepth 100000 in
theorem demazureK_any {H : Type} {w : World} {b C : Nat} {E : Int} {L : List (Int × Int)} (i : Nat) (hi : i ≤ 5) (hE : 0 ≤ E ∧ E ≤ 100) (h : PK H w b E C L) (hC : C * (E + 1).toNat ≤ 1000000000000000000) (hL : L.length * (E + 1).toNat ≤ 80000000) :
    Calls Try.prog 171 #[.map (some b), .int .i64 (i : Int)] w (MakesK H w E (C * (E + 1).toNat) (demK i L)) := by
  obtain ⟨n, f, f1, f2, f3, f4, f5⟩ := h
  have hlen : f.length = L.length := by rw [← f5, (f3.perm (by omega)).length_eq, List.length_map]
  have hC1 : C ≤ C * (E + 1).toNat := Nat.le_mul_of_pos_right _ (by omega)
  have hL1 : L.length ≤ L.length * (E + 1).toNat := Nat.le_mul_of_pos_right _ (by omega)
  have HR : Hid (Calls Try.prog 193 #[.map (some b), .int .i64 (i : Int)] w (MakesK H w (E + 1) (absT f) (gatherK ((raL i f).map kc)))) := raised_any i (by omega) f1 f3 (by omega) (by omega) (by omega)
  have HD : Hid (∀ w' g, w.heap.size ≤ g → PK H w' g (E + 1) (absT f) (gatherK ((raL i f).map kc)) → Calls Try.prog 164 #[.map (some g), .int .i64 (i : Int)] w' (MakesK H w' E (C * (E + 1).toNat) (demK i L))) := by
    intro w' g _ hg
    obtain ⟨m, r, r1, r2, r3, r4, r5⟩ := hg
    have hrl : r.length ≤ L.length := by
      have h1 := (r3.perm (by omega)).length_eq
      rw [r5, List.length_map] at h1
      have h2 := gatherK_len (l := (raL i f).map kc)
      rw [List.length_map, raL_len] at h2
      omega
    have hout : ∀ x ∈ r, ∀ y ∈ dvT i x, ∀ j, 0 ≤ nth y.1 j ∧ nth y.1 j ≤ E := by
      intro x hx
      have h1 : kc x ∈ gatherK ((raL i f).map kc) := by
        rw [← r5]
        exact (r3.perm (by omega)).mem_iff.2 (List.mem_map_of_mem hx)
      obtain ⟨y, hy, e1⟩ := gatherK_mem h1
      obtain ⟨z, hz, rfl⟩ := List.mem_map.1 hy
      obtain ⟨t, ht, rfl⟩ := List.mem_map.1 hz
      have ht7 := (f3.ok t ht).1
      have hup := upE_ok ht7 (i := i) (by omega)
      have hx7 := (r3.ok x hx).1
      have e2 : upE i t.1 = x.1 := keyL_inj hup.1 hx7.1 (fun j _ => by have := hup.2 j; omega) (fun j _ => by have := hx7.2 j; omega) e1
      have e3 : x = (upE i t.1, x.2) := by rw [e2]
      rw [e3]
      exact dvT_up (by omega) ht7
    have hab : absT r * (E + 1).toNat ≤ C * (E + 1).toNat := Nat.mul_le_mul_right _ (Nat.le_trans r4 f4)
    have hrL : r.length * (E + 1).toNat ≤ L.length * (E + 1).toNat := Nat.mul_le_mul_right _ hrl
    refine (divided_any (E' := E) i hi r1 r3 (by omega) (by omega) hout (by omega) (by omega) (by omega)).mono ?_
    rintro e w2 ⟨b2, rfl, hb2, ⟨n2, acc, a1, a2, a3, a4, a5⟩, h3⟩
    refine ⟨b2, rfl, hb2, ⟨n2, acc, a1, a2, a3, by omega, ?_⟩, h3⟩
    rw [a5]
    have p1 : (kf r).Perm (kf r) := List.Perm.refl _
    show _ = gatherK ((divL i ((raiK i L).map exT)).map kc)
    have p2 : ((raiK i L).map exT).Perm r := by
      have p3 := r3.back (by omega)
      rw [r5] at p3
      have e4 : gatherK ((raL i f).map kc) = raiK i L := by
        unfold raiK
        refine gatherK_perm ((raL_perm ?_).map kc)
        rw [← f5]
        exact (f3.back (by omega)).symm
      rw [e4] at p3
      exact p3
    exact gatherK_perm ((divL_perm p2.symm).map kc)
  clear f1 f2 f3 f4 f5
  go_enter Try.func171, Try.ntmps171
  go_wp2_with (first | (go_at_call 193; refine HR.out.mono ?_; rintro e w1 ⟨g, rfl, hg, p1, c1⟩) | fail)
  have P1 := Lib.hid p1
  clear p1
  go_wp2_with (first | (go_at_call 164; refine (HD.out _ _ hg P1.out).mono ?_; rintro e w2 ⟨g2, rfl, hg2, p2, c2⟩) | fail)
  go_ret
  exact ⟨g2, rfl, by have := c1.size; omega, p2, c1.trans (c2.mono c1.size)⟩
theorem isVar_any {w : World} {i : Int} (hi : 0 ≤ i ∧ i ≤ 5) : Calls Try.prog 107 #[.int .i64 i] w (Gives w (.bool true)) := by
  have h0 : decide (0 ≤ i) = true := decide_eq_true hi.1
  have h1 : decide (i ≤ 5) = true := decide_eq_true hi.2
  clear hi
  go_enter Try.func107, Try.ntmps107
  go_wp2
  go_ret
  exact ⟨rfl, (by first | exact ⟨_, rfl⟩ | exact ⟨_, (World.drewN_drewN _ _ _).symm⟩ | exact Quiet.refl _ | (simp only [World.drewN_drewN]; exact ⟨_, rfl⟩))⟩
set_option maxRecDepth 100000 in
set_option maxHeartbeats 1000000 in
theorem operated_any {w : World} {A : Option Addr} {n : Nat} {ps : List (List Int × Int)} (c : Nat) (i : Nat) (hi : i ≤ 5) (hf : RTm w A n ps) (hp : polyB ps = true) :
    Calls Try.prog 175 #[.slice A n c, .int .i64 (i : Int), .func (.func 171) #[] #[]] w (MakesTm w (shutT (demK i (ps.map kc))) (shutB (demK i (ps.map kc)))) := by
  have hn : n ≤ 600 := by rw [← hf.1]; exact poly_len600 hp
  have HP1 : Hid (∀ W, Below w.heap.size w W → Calls Try.prog 106 #[.slice A n c] W (GivesB W (.bool true))) := fun W bW => by have := iPolyOk_any c (hf.below bW) (by omega); rw [hp] at this; exact this
  have HO1 : Hid (∀ W, Below w.heap.size w W → Calls Try.prog 169 #[.slice A n c] W (MakesK Unit W 24 600000000 (ps.map kc))) := fun W bW => open_any Unit c (hf.below bW) hp
  have HV : Hid (∀ W, Calls Try.prog 107 #[.int .i64 (i : Int)] W (Gives W (.bool true))) := fun W => isVar_any (by omega)
  have HLL : Hid ((ps.map kc).length * ((24 : Int) + 1).toNat ≤ 80000000) := by
    have h := poly_len600 hp
    show (ps.map kc).length * 25 ≤ 80000000
    rw [List.length_map]; omega
  go_enter Try.func175, Try.ntmps175
  go_wp2_with (first
    | (go_at_call 106; (with_reducible refine (HP1.out _ ?_).mono ?_); (exact Below.refl _ _); rintro e w1 ⟨rfl, b1⟩; have B1 : Hid (Below w.heap.size w w1) := b1; clear b1)
    | (go_at_call 107; refine (HV.out _).mono ?_; rintro e w2 ⟨rfl, q2⟩; have B2 : Hid (Below w.heap.size w w2) := B1.out.trans (q2.below (B := w1.heap.size) |>.mono B1.out.size); clear q2)
    | (go_at_call 169; (with_reducible refine (HO1.out _ ?_).mono ?_); (exact B2.out); rintro e w3 ⟨b3, rfl, l3, p3, c3⟩; have P3 := Lib.hid p3; have B3 : Hid (Below w.heap.size w w3) := B2.out.trans (c3.mono B2.out.size); clear l3 p3 c3)
    | (go_at_call 171; refine (demazureK_any i hi (by omega) P3.out (by decide) HLL.out).mono ?_; rintro e w5 ⟨b5, rfl, l5, p5, c5⟩; have P5 := Lib.hid p5; have B5 : Hid (Below w.heap.size w w5) := B3.out.trans (c5.mono B3.out.size); clear l5 p5 c5)
    | (go_at_call 66; refine (closedK_any P5.out (by omega)).mono ?_; rintro e w6 ⟨v6, cs6, rfl, o6, c6⟩)
    | fail)
  go_ret2
  exact ⟨v6, cs6, rfl, OF.mono o6 B5.out.size B5.out.size, B5.out.trans (c6.mono B5.out.size)⟩
theorem demazureOf_any {w : World} {A : Option Addr} {n : Nat} {ps : List (List Int × Int)} (c : Nat) (i : Nat) (hi : i ≤ 5) (hf : RTm w A n ps) (hp : polyB ps = true) :
    Calls Try.prog 121 #[.slice A n c, .int .i64 (i : Int)] w (MakesTm w (shutT (demK i (ps.map kc))) (shutB (demK i (ps.map kc)))) := by
  go_enter Try.func121, Try.ntmps121
  go_wp2_with (go_at_call 175; refine (operated_any c i hi hf hp).mono ?_; rintro e w6 ⟨v6, cs6, rfl, o6, c6⟩)
  go_ret2
  exact ⟨v6, cs6, rfl, o6, c6⟩
theorem ldemazure_any {w : World} {A : Option Addr} {n : Nat} {ps : List (List Int × Int)} (c : Nat) (i : Nat) (hi : i ≤ 5) (hf : RTm w A n ps) (hp : polyB ps = true) :
    Calls Try.prog 45 #[.slice A n c, .int .i64 (i : Int)] w (MakesT1 w (shutT (demK i (ps.map kc)))) := by
  go_enter Try.func45, Try.ntmps45
  go_wp2_with (go_at_call 121; refine (demazureOf_any c i hi hf hp).mono ?_; rintro e w6 ⟨v6, cs6, rfl, o6, c6⟩)
  go_ret
  exact ⟨v6, cs6, rfl, o6, c6⟩
end Go.Proofs.Ytgbojgmmingfdaa
