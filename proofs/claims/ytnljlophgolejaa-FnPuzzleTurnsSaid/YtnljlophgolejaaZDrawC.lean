/- DrawCountPuzzles. -/
import Derived.Test.YtnljlophgolejaaZDraw
import Derived.Test.YtnljlophgolejaaPuzS
import Derived.Test.YtnljlophgolejaaTurnsP
namespace Go.Proofs.Ytnljlophgolejaa
open Go.RowKit

/-- What is drawn: three lists, the second one of at most six. -/
def DrawsC (w : World) : Ending → World → Prop := fun e w' =>
  ∃ A1 n1 c1 A2 n2 c2 A3 n3 c3 l1 l2 l3, e = .returned (.tuple #[.slice A1 n1 c1, .slice A2 n2 c2, .slice A3 n3 c3]) ∧ l1.length ≤ 7 ∧ l2.length ≤ 6 ∧ l3.length ≤ 7 ∧
    OI w' w.heap.size (.slice A1 n1 c1) l1 ∧ OI w' w.heap.size (.slice A2 n2 c2) l2 ∧ OI w' w.heap.size (.slice A3 n3 c3) l3 ∧ Below w.heap.size w w'
set_option maxRecDepth 100000 in
set_option maxHeartbeats 2000000 in
theorem drawCount_any {w : World} {A : Option Addr} {n : Nat} (c : Nat) (hb : RB w A n) :
    Calls Try.prog 32 #[.slice A n c] w (DrawsC w) := by
  go_enter Try.func32, Try.ntmps32
  go_wp2_with fail
  refine (l1New_any hb).mono ?_
  rintro e w1 ⟨g, rfl, hg, d1, b1⟩
  have HB1 := Lib.hid b1
  have hs1 := b1.size
  have hglt := d1.cur.lt
  clear b1
  go_wp2_with fail
  refine (dBox_any d1).mono ?_
  rintro e w2 ⟨k, m, rfl, ⟨⟨hm1, hm2⟩, hk1, hk2⟩, hc2, hg2⟩
  have d2 := d1.next hc2 hg2
  obtain ⟨K, rfl⟩ := Int.eq_ofNat_of_zero_le hk1
  obtain ⟨M, hM⟩ := Int.eq_ofNat_of_zero_le (a := m - K) (by omega)
  obtain rfl : m = (K : Int) + M := by omega
  clear hM hk1
  have HG2 := Lib.hid hg2
  have hs2 := hg2.size
  clear hg2 hc2
  go_wp2_with fail
  refine (dString_any (K := K) (M := M) d2 (by omega)).mono ?_
  rintro e w3 ⟨A3, n3, c3, l3, rfl, o3, ⟨hst3, hl3, hsm3⟩, hc3, hg3⟩
  have d3 := d2.next hc3 hg3
  have HG3 := Lib.hid (HG2.out.trans hg3)
  have hs3 := hg3.size
  have hn3' : n3 = K + M := by rw [← o3.ri.1]; exact hl3
  have HN3' := Lib.hid hn3'
  have HS3 := Lib.hid (⟨hst3, hl3, hsm3⟩ : _ ∧ _ ∧ _)
  clear hg3 hc3 hn3' hst3 hl3 hsm3
  go_wp2_with fail
  refine (dString_any (K := K) (M := M) d3 (by omega)).mono ?_
  rintro e w4 ⟨A4, n4, c4, l4, rfl, o4, ⟨hst4, hl4, hsm4⟩, hc4, hg4⟩
  have d4 := d3.next hc4 hg4
  have o34 := o3.kept_low hg4 (fun b e => by injection e with e; omega)
  have HG4 := Lib.hid (HG3.out.trans hg4)
  have hs4 := hg4.size
  have hn3 := HN3'.out
  obtain ⟨hst3, hl3, hsm3⟩ := HS3.out
  obtain rfl : n4 = n3 := by rw [← o4.ri.1, hn3]; exact hl4
  have hal := alike_of hst3 hst4 (by omega) (by omega)
  have HB4 : Hid (Below w.heap.size w w4) := HB1.out.grown HG4.out hs1 (fun b e => by injection e with e; omega)
  clear hg4 hc4 o3
  have hn6 : 2 ≤ n4 ∧ n4 ≤ 6 := by omega
  have HN3 := Lib.hid hn3
  have HL3 : Hid (l3.length = n4) := by show _ = _; omega
  have HL4 : Hid (l4.length = n4) := by show _ = _; omega
  clear hn3 hl3 hl4 HN3' HS3
  obtain ⟨PS, hPS⟩ : ∃ PS, PS = spAll false l3 l4 := ⟨_, rfl⟩
  have hlen : PS.length ≤ 268435456 := by rw [hPS]; exact spAll_len7 hst3
  have HP := Lib.hid (sPuzzles_any (w := w4) c3 c4 false o34.ri o4.ri hst3 (by rw [← hPS]; omega))
  rw [← hPS] at HP
  have HOK : Hid (∀ q ∈ PS, okP n4 q) := by
    show ∀ q ∈ PS, okP n4 q
    have := tl_okP (wt := false) hal
    rw [HL3.out, tlAll_eq hst3, ← hPS] at this
    exact this
  clear hPS hal hst3 hst4 hsm3 hsm4
  go_wp2_with fail
  refine HP.out.mono ?_
  rintro e w5 ⟨A5, n5, c5, cs5, rfl, o5, l5, b5⟩
  have d5 := d4.below b5
  have o35 := OI.below o34 b5
  have o45 := OI.below o4 b5
  have hs5 := b5.size
  have HB5 := Lib.hid (HB4.out.trans (b5.mono (by omega)))
  have HL5 := Lib.hid l5
  have HO5 := Lib.hid o5
  have hn5 : n5 ≤ 268435456 := by omega
  clear b5 l5 o5 o34 o4 hlen
  go_wp2_with fail
  refine (l1Once_any 5 d5 (by omega) (by omega)).mono ?_
  rintro e w6 ⟨b, rfl, hc6, hg6⟩
  have d6 := d5.next hc6 hg6
  have o36 := o35.kept_low hg6 (fun b e => by injection e with e; omega)
  have o46 := o45.kept_low hg6 (fun b e => by injection e with e; omega)
  have HO6 := Lib.hid (OF.kept_low HO5.out hg6 (fun b e => by injection e with e; omega))
  have hs6 := hg6.size
  have HB6 : Hid (Below w.heap.size w w6) := HB5.out.grown hg6 (by omega) (fun b e => by injection e with e; omega)
  clear hg6 hc6 o35 o45
  have hcase : (b = true ∨ (b = false ∧ n5 = 0)) ∨ (b = false ∧ 0 < n5) := by
    cases b
    · rcases Nat.eq_zero_or_pos n5 with h | h
      · exact .inl (.inr ⟨rfl, h⟩)
      · exact .inr ⟨rfl, h⟩
    · exact .inl (.inl rfl)
  rcases hcase with hcase | ⟨rfl, hn0⟩
  · have HREST : Hid (∀ w7, w7 = w6 → True) := fun _ _ => trivial
    rcases hcase with rfl | ⟨rfl, rfl⟩
    all_goals
      go_wp2_with fail
      refine (dBent_any d6 (o36.mono (Nat.le_refl _)) (by omega) (by omega) (by omega)).mono ?_
      rintro e w7 ⟨A7, n7, c7, l7, rfl, o7, hl7, hc7, hg7⟩
      have d7 := d6.next hc7 hg7
      have o47 := o46.kept_low hg7 (fun b e => by injection e with e; omega)
      have HG7 := Lib.hid hg7
      have hs7 := hg7.size
      clear hg7 hc7
      go_wp2_with fail
      refine (dString_any (K := K) (M := M) d7 (by have := HN3.out; omega)).mono ?_
      rintro e w8 ⟨A8, n8, c8, l8, rfl, o8, ⟨-, hl8, -⟩, hc8, hg8⟩
      have o78 := o7.kept_low hg8 (fun b e => by injection e with e; omega)
      have o48 := o47.kept_low hg8 (fun b e => by injection e with e; omega)
      have HG8 := Lib.hid (HG7.out.trans hg8)
      have hs8 := hg8.size
      have hkm := HN3.out
      have hl4 := HL4.out
      have HF : Hid (DrawsC w (.returned (.tuple #[.slice A7 n7 c7, .slice A4 n4 c4, .slice A8 n8 c8])) w8) :=
        ⟨A7, n7, c7, A4, n4, c4, A8, n8, c8, l7, l4, l8, rfl, by omega, by omega, by omega, o78.mono (by omega), o48.mono (by omega), o8.mono (by omega), HB6.out.grown HG8.out (by omega) (fun b e => by injection e with e; omega)⟩
      clear hg8 hc8 o78 o48 o8 o7 o47 hkm hl4
      go_wp2
      refine bodyPost_ret (v := .tuple #[.slice A7 n7 c7, .slice A4 n4 c4, .slice A8 n8 c8]) (by simp [results, Try.results32, go_sem]; try rfl) rfl ?_
      exact HF.out
  · have hn0b : ((n5 : Int) == 0) = false := by simp; omega
    go_wp2_with fail
    refine (l1Below_big n5 d6 (by omega) (by omega)).mono ?_
    rintro e w7 ⟨y, rfl, hy, hc7, hg7⟩
    obtain ⟨Y, rfl⟩ := Int.eq_ofNat_of_zero_le hy.1
    have hYn : Y < n5 := by omega
    have o37 := o36.kept_low hg7 (fun b e => by injection e with e; omega)
    have o47 := o46.kept_low hg7 (fun b e => by injection e with e; omega)
    have ho7 := OF.kept_low HO6.out hg7 (fun b e => by injection e with e; omega)
    have HB7 : Hid (Below w.heap.size w w7) := HB6.out.grown hg7 (by omega) (fun b e => by injection e with e; omega)
    have hs7 := hg7.size
    clear hg7 hc7 o36 o46
    have hkl : Y < PS.length := by rw [HL5.out]; exact hYn
    obtain ⟨G, cg, hG, -⟩ := OF.shape ho7 (by omega)
    obtain ⟨rfl, e2, e3⟩ := slice_inj hG
    clear hG e2 e3
    obtain ⟨u1, u2, u3, k0, k1, k2, k3, p1, p2, p3⟩ := OZ.cell ho7 hkl
    obtain ⟨B4, m4, d4', rfl, r4, -⟩ := p1.form
    obtain ⟨B5, m5, d5', rfl, r5, -⟩ := p2.form
    obtain ⟨B6, m6, d6', rfl, r6, -⟩ := p3.form
    obtain ⟨q, hq⟩ : ∃ q, q = nthZ PS Y := ⟨_, rfl⟩
    rw [← hq] at r4 r5 r6
    have hqok := HOK.out q (by rw [hq]; exact nthZ_mem hkl)
    have hql := (puz_len hqok).1
    have hr4 := r4.1
    have hr5 := r5.1
    have hr6 := r6.1
    have hk0 : w7.cell? ⟨G, Y * 4, none⟩ = some (.int .i64 (n4 : Int)) := k0
    have hk1 : w7.cell? ⟨G, Y * 4 + 1, none⟩ = some (.slice B4 m4 d4') := k1
    have hk2 : w7.cell? ⟨G, Y * 4 + 2, none⟩ = some (.slice B5 m5 d5') := k2
    have hk3 : w7.cell? ⟨G, Y * 4 + 3, none⟩ = some (.slice B6 m6 d6') := k3
    have R4 := Lib.hid r4
    have R5 := Lib.hid r5
    have R6 := Lib.hid r6
    have OKQ := Lib.hid hqok
    have hn4' : m4 ≤ 36 := by omega
    have hn5' : m5 ≤ 36 := by omega
    have hn6' : m6 ≤ 36 := by omega
    clear ho7 k0 k1 k2 k3 p1 p2 p3 r4 r5 r6 hq hqok hql hr4 hr5 hr6
    go_wp2_with fail
    refine (l5Sides_any d4' d5' d6' n4 R4.out R5.out R6.out (by omega) (by omega) (by omega) OKQ.out).mono ?_
    rintro e w8 ⟨A7, n7, c7, A8, n8, c8, A9, n9, c9, rfl, t3, b8⟩
    have HB8 := Lib.hid (HB7.out.trans (b8.mono HB7.out.size))
    have o38 := OI.below o37 b8
    have o48 := OI.below o47 b8
    have hl9 : (sideB n4 q.2.2 n4).length = n4 := gen_len _ _
    have hl3 := HL3.out
    have hl4 := HL4.out
    have hb7 := HB7.out.size
    have HF : Hid (DrawsC w (.returned (.tuple #[.slice A3 n4 c3, .slice A4 n4 c4, .slice A9 n9 c9])) w8) :=
      ⟨A3, n4, c3, A4, n4, c4, A9, n9, c9, l3, l4, _, rfl, by omega, by omega, by omega, o38.mono (by omega), o48.mono (by omega), t3.2.2.1.mono (by omega), HB8.out⟩
    clear t3 b8 o38 o48 hl9 hl3 hl4 hb7 o37 o47
    go_wp2
    refine bodyPost_ret (v := .tuple #[.slice A3 n4 c3, .slice A4 n4 c4, .slice A9 n9 c9]) (by simp [results, Try.results32, go_sem]; try rfl) rfl ?_
    exact HF.out
end Go.Proofs.Ytnljlophgolejaa
