/- summed of the program, counts of any sign; what the cells are. -/
import Derived.Test.YtnljlophgolejaaSee
import Derived.Test.YtnljlophgolejaaPlain
namespace Go.Proofs.Ytnljlophgolejaa
open Go.RowKit

/-- What summed leaves, and where its cells lie. -/
def SumQ (w : World) (base b : Nat) (v0 : Value) (ps : List (List Int × Int)) (cells : List Value) : Ending → World → Prop := fun e w' =>
  ∃ v' cells', e = .returned v' ∧ OP w' base b v' ps cells' ∧ w.grownBy w' v0.ownBlock ∧ From w v0 v' ∧ ∀ x ∈ cells', ∀ k, x.ownBlock = some k → (∃ x' ∈ cells, x'.ownBlock = some k) ∨ w.heap.size ≤ k
theorem mem_setV {x : Value} {y : Int} {cells : List Value} {i : Nat} (h : x ∈ cells.set i (.int .i64 y)) : x ∈ cells ∨ x.ownBlock = none := by
  rcases List.mem_or_eq_of_mem_set h with h | h
  · exact .inl h
  · exact .inr (by rw [h]; rfl)
set_option maxRecDepth 100000 in
set_option maxHeartbeats 2000000 in
theorem summedZ_any {w : World} {base b n : Nat} {A : Option Addr} {s : List Int} {v : Value} {ps : List (List Int × Int)} {cells : List Value} (c : Nat) (y : Int) (hx : RI w A n s) (hn : n ≤ 1000000) (ho : OP w base b v ps cells)
    (hS : Srt ps) (hC : ∀ x ∈ ps, -1000000000000000000 ≤ x.2 ∧ x.2 ≤ 1000000000000000000) (hN : ps.length ≤ 100000000000) (hy : -1000000000000000000 ≤ y ∧ y ≤ 1000000000000000000) (hl : ∀ k, k < ps.length → (nthP ps k).1.length ≤ 1000000) (hb1 : base ≤ w.heap.size) (hb2 : b ≤ w.heap.size) :
    Calls Try.prog 66 #[v, .slice A n c, .int .i64 y] w (SumQ w base b v (insZ ps s y) cells) := by
  obtain ⟨A0, n0, c0, rfl, hn0, hc0, hc63⟩ := ho.form
  obtain ⟨p, hp⟩ := place_of ps hS s
  have hple := hp.le
  rw [hn0] at hple hN
  have HN0 := Lib.hid hn0
  have HX := Lib.hid hx
  have HLEN : Hid (∀ k, k < ps.length → (nthP ps k).1.length ≤ 1000000000000) := fun k hk => Nat.le_trans (hl k hk) (by omega)
  have HCC := Lib.hid hC
  obtain ⟨y1, y2⟩ := hy
  clear hn0 hl hC
  rcases hf : fndB ps s p with _ | _
  · -- a new shape
    have hfn := fnd_no hf
    have HF0 := Lib.hid hf
    have HADD := Lib.hid (insZ_new (n := y) hp hfn)
    clear hfn
    go_enter Try.func66, Try.ntmps66
    go_wp2_with fail
    refine (bin_sum _ _ ho hx hp (by omega) (by omega) HLEN.out).mono ?_
    rintro e w2 ⟨rfl, b2⟩
    have ho2 := ho.below b2
    have hx2 := hx.below b2
    have hs2 := b2.size
    go_wp2_with fail
    refine (clone_any _ hx2 (by omega)).mono ?_
    rintro e w3 ⟨A1, n1, c1, rfl, o3, r3, ⟨cp3, le3⟩, b3⟩
    have g3 : Below w.heap.size w w3 := b2.trans (b3.mono hs2)
    have ho3 := ho2.below b3
    have hs3 := g3.size
    have hap : ∀ u' ∈ cells, u'.ownBlock = none ∨ u'.ownBlock ≠ Value.ownBlock (.slice A1 n1 c1) := by
      intro u' hu'
      have hin := FRs.in_ ho2.2.1 u' hu'
      rcases hk : u'.ownBlock with _ | k
      · exact .inl rfl
      · refine .inr fun e => ?_
        have h1 := hin k hk
        have h2 := (o3.lt k e.symm).1
        omega
    have HAP := Lib.hid hap
    clear hap hf
    go_wp2_with fail
    refine (insertQ_any (y := 0) c0 ho3 (o3.mono (by omega)) HAP.out hple (by omega) (by omega)).mono ?_
    rintro e w4 ⟨v4, cells4, rfl, o4, gr4, f4, mc4⟩
    obtain ⟨A4, n4, c4, rfl, hn4, hc4, hc463⟩ := o4.form
    have hn4' : n4 = n0 + 1 := by rw [← hn4, putAt_len _ _ _ (by rw [HN0.out]; exact hple), HN0.out]; rfl
    subst hn4'
    obtain ⟨G, cc, hGG, hGb, hGlt⟩ := OF.shape o4 (by rw [hn4]; omega)
    obtain ⟨rfl, e2, e3⟩ := slice_inj hGG
    clear e2 e3 hGG
    have hpl4 : p < (putAt ps p [(s, (0 : Int))]).length := by rw [hn4]; omega
    obtain ⟨A5, n5, c5, k1, _, k2, _, k4⟩ := OP.cell o4 hpl4
    rw [putAt_at (by rw [HN0.out]; exact hple)] at k4
    have hfz : w4.frozen? ⟨G, p * 2 + 1, none⟩ = false := OP.frozen o4 _
    obtain ⟨o5, gr5⟩ := OP.setCount o4 hpl4 y
    have hF : From w (.slice A0 n0 c0) (.slice (some ⟨G, 0, none⟩) (n0 + 1) c4) := f4.imp id fun h k hk => by have := h k hk; simp at this; omega
    have gAll : w.grownBy (w4.setCell ⟨G, p * 2 + 1, none⟩ (.int .i64 y)) (Value.ownBlock (.slice A0 n0 c0)) := by
      have g4 : w3.heap.size ≤ w4.heap.size := by have := gr4.size; simp at this; omega
      refine ⟨gr5.os.trans (gr4.os.trans g3.os), gr5.tape.trans (gr4.tape.trans g3.tape), gr5.output.trans (gr4.output.trans g3.output), Nat.le_trans (Nat.le_trans hs3 g4) gr5.size, fun k hk hne => ?_⟩
      have h1 : some k ≠ some G := fun e => by
        have e2 := Option.some.inj e
        subst e2
        rcases hF with h2 | h2
        · exact hne h2
        · have := h2 k rfl; omega
      refine (gr5.block k (by omega) h1).trans ((gr4.block k (by simp; omega) hne).trans ((Below.heap_alloc w3 _ k (by omega)).trans (g3.block k hk)))
    have hfin : SumQ w base b (.slice A0 n0 c0) (insZ ps s y) cells (.returned (.slice (some ⟨G, 0, none⟩) (n0 + 1) c4)) (w4.setCell ⟨G, p * 2 + 1, none⟩ (.int .i64 y)) := by
      rw [HADD.out]
      rw [putAt_at (by rw [HN0.out]; exact hple), putAt_again (by rw [HN0.out]; exact hple)] at o5
      refine ⟨_, _, rfl, o5, gAll, hF, fun x hx k hk => ?_⟩
      rcases mem_setV hx with h | h
      · rcases mc4 x h with h | rfl | h
        · exact .inl ⟨x, h, hk⟩
        · exact .inr (by have := (o3.lt k hk).1; omega)
        · rw [h] at hk; cases hk
      · rw [h] at hk; cases hk
    have HF := Lib.hid hfin
    have hpn : p < n0 + 1 := by omega
    clear hfin o5 gr5 hF f4 gr4 g3 gAll
    go_wp2
    go_ret
    exact HF.out
  · -- a shape that was there
    obtain ⟨hpl, hpe⟩ := fnd_yes hf
    have HF0 := Lib.hid hf
    have hcnt := HCC.out _ (nthP_mem hpl)
    have HADD := Lib.hid (insZ_found (n := y) hp.lo hpl hpe)
    go_enter Try.func66, Try.ntmps66
    go_wp2_with fail
    refine (bin_sum _ _ ho hx hp (by omega) (by omega) HLEN.out).mono ?_
    rintro e w2 ⟨rfl, b2⟩
    have ho2 := ho.below b2
    obtain ⟨G, cc, hGG, hGb, hGlt⟩ := OF.shape ho2 (by omega)
    obtain ⟨rfl, e2, e3⟩ := slice_inj hGG
    clear e2 e3 hGG
    obtain ⟨A4, n4, c4, k1, _, k2, _, k4⟩ := OP.cell ho2 hpl
    have hfz : w2.frozen? ⟨G, p * 2 + 1, none⟩ = false := OP.frozen ho2 _
    obtain ⟨x, hx2⟩ : ∃ x, x = (nthP ps p).2 := ⟨_, rfl⟩
    rw [← hx2] at k4 hcnt
    obtain ⟨o5, gr5⟩ := OP.setCount ho2 hpl (x + y)
    have gAll : w.grownBy (w2.setCell ⟨G, p * 2 + 1, none⟩ (.int .i64 (x + y))) (some G) :=
      ⟨gr5.os.trans b2.os, gr5.tape.trans b2.tape, gr5.output.trans b2.output, Nat.le_trans b2.size gr5.size, fun k hk hne => (gr5.block k (Nat.lt_of_lt_of_le hk b2.size) hne).trans (b2.block k hk)⟩
    have hfin : SumQ w base b (.slice (some ⟨G, 0, none⟩) n0 c0) (insZ ps s y) cells (.returned (.slice (some ⟨G, 0, none⟩) n0 c0)) (w2.setCell ⟨G, p * 2 + 1, none⟩ (.int .i64 (x + y))) := by
      rw [HADD.out, ← hx2]
      rw [hpe] at o5
      refine ⟨_, _, rfl, o5, gAll, From.refl _ _, fun x hx k hk => ?_⟩
      rcases mem_setV hx with h | h
      · exact .inl ⟨x, h, hk⟩
      · rw [h] at hk; cases hk
    have HF := Lib.hid hfin
    have hpn : p < n0 := by rw [← HN0.out]; exact hpl
    have hw : IntKind.i64.wrap (x + y) = x + y := by rw [IntKind.wrap_i64]; omega
    clear hfin o5 gr5 hx2 hpe hpl gAll
    go_wp2
    go_ret
    exact HF.out
end Go.Proofs.Ytnljlophgolejaa
