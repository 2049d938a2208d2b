/- summed of the program: a shape is added some times to an ascending list of parts, in place. -/
import Derived.Test.YtmodpicemlkbjaaSee
namespace Go.Proofs.Ytmodpicemlkbjaa
open Go.RowKit

set_option maxRecDepth 100000 in
set_option maxHeartbeats 2000000 in
theorem summed_any {w : World} {base b n : Nat} {A : Option Addr} {s : List Int} {v : Value} {ps : List (List Int × Int)} {cells : List Value} (c : Nat) (y : Int) (hx : RI w A n s) (hn : n ≤ 1000000) (ho : OP w base b v ps cells)
    (hS : Srt ps) (hC : ∀ x ∈ ps, 1 ≤ x.2 ∧ x.2 ≤ 1000000000000) (hN : ps.length ≤ 100000000000) (hy : 1 ≤ y ∧ y ≤ 1000000000000) (hl : ∀ k, k < ps.length → (nthP ps k).1.length ≤ 1000000) (hb1 : base ≤ w.heap.size) (hb2 : b ≤ w.heap.size) :
    Calls Try.prog 63 #[v, .slice A n c, .int .i64 y] w (InsP w base b v (addP ps s y)) := by
  obtain ⟨A0, n0, c0, rfl, hn0, hc0, hc63⟩ := ho.form
  obtain ⟨p, hp⟩ := place_of ps hS s
  have hple := hp.le
  rw [hn0] at hple hN
  have HN0 := Lib.hid hn0
  have HX := Lib.hid hx
  have HLEN : Hid (∀ k, k < ps.length → (nthP ps k).1.length ≤ 1000000000000) := fun k hk => Nat.le_trans (hl k hk) (by omega)
  have HCC := Lib.hid hC
  obtain ⟨y1, y2⟩ := hy
  clear hn0 hl hC
  rcases hf : fndB ps s p with _ | _
  · -- a new shape
    have hfn := fnd_no hf
    have HF0 := Lib.hid hf
    have HADD := Lib.hid (addP_new (n := y) (by omega) hp hfn)
    clear hfn
    go_enter Try.func63, Try.ntmps63
    go_wp2_with fail
    refine (bin_sum _ _ ho hx hp (by omega) (by omega) HLEN.out).mono ?_
    rintro e w2 ⟨rfl, b2⟩
    have ho2 := ho.below b2
    have hx2 := hx.below b2
    have hs2 := b2.size
    go_wp2_with fail
    refine (clone_any _ hx2 (by omega)).mono ?_
    rintro e w3 ⟨A1, n1, c1, rfl, o3, r3, ⟨cp3, le3⟩, b3⟩
    have g3 : Below w.heap.size w w3 := b2.trans (b3.mono hs2)
    have ho3 := ho2.below b3
    have hs3 := g3.size
    have hap : ∀ u' ∈ cells, u'.ownBlock = none ∨ u'.ownBlock ≠ Value.ownBlock (.slice A1 n1 c1) := by
      intro u' hu'
      have hin := FRs.in_ ho2.2.1 u' hu'
      rcases hk : u'.ownBlock with _ | k
      · exact .inl rfl
      · refine .inr fun e => ?_
        have h1 := hin k hk
        have h2 := (o3.lt k e.symm).1
        omega
    have HAP := Lib.hid hap
    clear hap hf
    go_wp2_with fail
    refine (insert_any (y := 0) c0 ho3 (o3.mono (by omega)) HAP.out hple (by omega) (by omega)).mono ?_
    rintro e w4 ⟨v4, cells4, rfl, o4, gr4, f4⟩
    obtain ⟨A4, n4, c4, rfl, hn4, hc4, hc463⟩ := o4.form
    have hn4' : n4 = n0 + 1 := by rw [← hn4, putAt_len _ _ _ (by rw [HN0.out]; exact hple), HN0.out]; rfl
    subst hn4'
    obtain ⟨G, cc, hGG, hGb, hGlt⟩ := OF.shape o4 (by rw [hn4]; omega)
    obtain ⟨rfl, e2, e3⟩ := slice_inj hGG
    clear e2 e3 hGG
    have hpl4 : p < (putAt ps p [(s, (0 : Int))]).length := by rw [hn4]; omega
    obtain ⟨A5, n5, c5, k1, _, k2, _, k4⟩ := OP.cell o4 hpl4
    rw [putAt_at (by rw [HN0.out]; exact hple)] at k4
    have hfz : w4.frozen? ⟨G, p * 2 + 1, none⟩ = false := OP.frozen o4 _
    obtain ⟨o5, gr5⟩ := OP.setCount o4 hpl4 y
    have hF : From w (.slice A0 n0 c0) (.slice (some ⟨G, 0, none⟩) (n0 + 1) c4) := f4.imp id fun h k hk => by have := h k hk; simp at this; omega
    have gAll : w.grownBy (w4.setCell ⟨G, p * 2 + 1, none⟩ (.int .i64 y)) (Value.ownBlock (.slice A0 n0 c0)) := by
      have g4 : w3.heap.size ≤ w4.heap.size := by have := gr4.size; simp at this; omega
      refine ⟨gr5.os.trans (gr4.os.trans g3.os), gr5.tape.trans (gr4.tape.trans g3.tape), gr5.output.trans (gr4.output.trans g3.output), Nat.le_trans (Nat.le_trans hs3 g4) gr5.size, fun k hk hne => ?_⟩
      have h1 : some k ≠ some G := fun e => by
        have e2 := Option.some.inj e
        subst e2
        rcases hF with h2 | h2
        · exact hne h2
        · have := h2 k rfl; omega
      refine (gr5.block k (by omega) h1).trans ((gr4.block k (by simp; omega) hne).trans ((Below.heap_alloc w3 _ k (by omega)).trans (g3.block k hk)))
    have hfin : InsP w base b (.slice A0 n0 c0) (addP ps s y) (.returned (.slice (some ⟨G, 0, none⟩) (n0 + 1) c4)) (w4.setCell ⟨G, p * 2 + 1, none⟩ (.int .i64 y)) := by
      rw [HADD.out]
      rw [putAt_at (by rw [HN0.out]; exact hple), putAt_again (by rw [HN0.out]; exact hple)] at o5
      exact ⟨_, _, rfl, o5, gAll, hF⟩
    have HF := Lib.hid hfin
    have hpn : p < n0 + 1 := by omega
    clear hfin o5 gr5 hF f4 gr4 g3 gAll
    go_wp2
    go_ret
    exact HF.out
  · -- a shape that was there
    obtain ⟨hpl, hpe⟩ := fnd_yes hf
    have HF0 := Lib.hid hf
    have hcnt := HCC.out _ (nthP_mem hpl)
    have HADD := Lib.hid (addP_found (n := y) (by omega) hp.lo hpl hpe (by omega))
    go_enter Try.func63, Try.ntmps63
    go_wp2_with fail
    refine (bin_sum _ _ ho hx hp (by omega) (by omega) HLEN.out).mono ?_
    rintro e w2 ⟨rfl, b2⟩
    have ho2 := ho.below b2
    obtain ⟨G, cc, hGG, hGb, hGlt⟩ := OF.shape ho2 (by omega)
    obtain ⟨rfl, e2, e3⟩ := slice_inj hGG
    clear e2 e3 hGG
    obtain ⟨A4, n4, c4, k1, _, k2, _, k4⟩ := OP.cell ho2 hpl
    have hfz : w2.frozen? ⟨G, p * 2 + 1, none⟩ = false := OP.frozen ho2 _
    obtain ⟨x, hx2⟩ : ∃ x, x = (nthP ps p).2 := ⟨_, rfl⟩
    rw [← hx2] at k4 hcnt
    obtain ⟨o5, gr5⟩ := OP.setCount ho2 hpl (x + y)
    have gAll : w.grownBy (w2.setCell ⟨G, p * 2 + 1, none⟩ (.int .i64 (x + y))) (some G) :=
      ⟨gr5.os.trans b2.os, gr5.tape.trans b2.tape, gr5.output.trans b2.output, Nat.le_trans b2.size gr5.size, fun k hk hne => (gr5.block k (Nat.lt_of_lt_of_le hk b2.size) hne).trans (b2.block k hk)⟩
    have hfin : InsP w base b (.slice (some ⟨G, 0, none⟩) n0 c0) (addP ps s y) (.returned (.slice (some ⟨G, 0, none⟩) n0 c0)) (w2.setCell ⟨G, p * 2 + 1, none⟩ (.int .i64 (x + y))) := by
      rw [HADD.out, ← hx2]
      rw [hpe] at o5
      exact ⟨_, _, rfl, o5, gAll, From.refl _ _⟩
    have HF := Lib.hid hfin
    have hpn : p < n0 := by rw [← HN0.out]; exact hpl
    have hw : IntKind.i64.wrap (x + y) = x + y := by rw [IntKind.wrap_i64]; omega
    clear hfin o5 gr5 hx2 hpe hpl gAll
    go_wp2
    go_ret
    exact HF.out
end Go.Proofs.Ytmodpicemlkbjaa
