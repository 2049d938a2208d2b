/- fill of the program: all tableaux are seen. -/
import Derived.Test.YtgbojgmmingfdaaFillD
import Derived.Test.YtgbojgmmingfdaaCmp
import Derived.BigRegion
import Derived.Deep.RegionHeld3
namespace Go.Proofs.Ytgbojgmmingfdaa
open Go.RowKit

section
variable {F : FuncId} {caps : Array Value} {S : Type} {inv : World → S → (Nat → Prop) → Prop} {step : S → List (List Int) → S} {go : S → List (List Int) → Bool} {fit : S → Nat → Prop} {okp : List (List Int) → Prop}
set_option maxRecDepth 100000 in
set_option maxHeartbeats 1000000 in
theorem fillA_step {w0 : World} {shape : List Int} {As : Option Addr} {ns cs : Nat} {n : Int} (C : ClosT Try.prog F caps w0.heap.size S inv step go fit okp) (hs : RI w0 As ns shape) (hns : ns ≤ 1000000000) (hp : Pos shape) (d : Nat)
    (ih : ∀ d', d' < d → FillB w0 shape As ns cs n C d') : FillA w0 shape As ns cs n C d := by
  intro w s O T A m c cells hi hT hb hF hd hfit hok
  have hm : T.length = m := by
    obtain ⟨A', n', c', e, h1, -⟩ := OS.form hT.1
    rw [h1, (slice_inj e).2.1]
  have hL := hs.1
  have hsw := hs.below hb
  have HT := Lib.hid hT
  have HI := Lib.hid hi
  have HF := Lib.hid hF
  have HB := Lib.hid hb
  have HENT := Lib.hid C.ent
  have hle := hF.le
  by_cases hend : T.length = shape.length
  · have hone : goA shape n T = [T] := goA_end (by omega)
    rw [hone, seeT_one]
    have HOK := Lib.hid (hok T (by rw [hone]; simp))
    have HFIT : Hid (fit s (0 + 1)) := by rw [hone] at hfit; exact hfit
    have HCL : Hid (∀ W, Quiet w W → Calls Try.prog F (#[.slice A m c] ++ caps) W (fun e w' => e = .returned (.bool (go s T)) ∧ ∃ O' : Nat → Prop, inv w' (step s T) O' ∧ (∀ k, O' k → O k ∨ w.heap.size ≤ k) ∧ Kept O w w')) := fun W q => by
      have bq : Below w.heap.size w W := q.below
      refine (C.call (C.keep HI.out (Kept.of_below bq)) HFIT.out HOK.out (HT.out.below bq)).mono ?_
      rintro e w' ⟨he, O', h1, h2, h3⟩
      exact ⟨he, O', h1, fun k hk => (h2 k hk).imp id fun h => Nat.le_trans bq.size h, (Kept.of_below bq).trans (fun k h => .inl h) h3⟩
    clear hone hok hfit ih hi hT hF hd
    obtain ⟨z, hz⟩ : ∃ z, z = go s T := ⟨_, rfl⟩
    have HZ := Lib.hid hz
    rw [← hz] at HCL ⊢
    clear hz
    go_enter Try.func63, Try.ntmps63
    rcases Nat.eq_zero_or_pos m with h0 | h0
    · subst h0
      obtain rfl : ns = 0 := by omega
      go_wp2
      go_quiet (fail)
      go_wp2
      rw [HENT.out]
      refine (HCL.out _ (by first | exact ⟨_, rfl⟩ | exact ⟨_, (World.drewN_drewN _ _ _).symm⟩ | exact Quiet.refl _ | (simp only [World.drewN_drewN]; exact ⟨_, rfl⟩))).mono ?_
      rintro e w' ⟨rfl, O', h1, h2, h3⟩
      go_wp2
      go_ret
      exact ⟨rfl, O', h1, h2, h3.mono fun k h => .inl h⟩
    · obtain ⟨M, rfl⟩ : ∃ M, m = M + 1 := ⟨m - 1, by omega⟩
      obtain rfl : ns = M + 1 := by omega
      obtain ⟨ad, A1, n1, c1, rfl, x1, -, x3, -⟩ := OS.cell HT.out.1 (k := M) (by omega)
      have e1 : (n1 : Int) = nth shape M := by rw [← x3.ri.1]; exact HF.out.row M (by omega)
      obtain ⟨ad2, rfl, x2⟩ := hsw.cell (show M < M + 1 by omega)
      rw [← e1] at x2
      clear x3 e1
      have hneg : decide ((M : Int) < 0) = false := decide_eq_false (by omega)
      go_wp2
      go_quiet (fail)
      go_wp2
      rw [HENT.out]
      refine (HCL.out _ (by first | exact ⟨_, rfl⟩ | exact ⟨_, (World.drewN_drewN _ _ _).symm⟩ | exact Quiet.refl _ | (simp only [World.drewN_drewN]; exact ⟨_, rfl⟩))).mono ?_
      rintro e w' ⟨rfl, O', h1, h2, h3⟩
      go_wp2
      go_ret
      exact ⟨rfl, O', h1, h2, h3.mono fun k h => .inl h⟩
  · have hlt : T.length < shape.length := by omega
    have hpos := hp T.length hlt
    obtain ⟨k, hk⟩ : ∃ k : Nat, nth shape T.length = ((k + 1 : Nat) : Int) := ⟨(nth shape T.length - 1).toNat, by omega⟩
    have hrow : goA shape n T = goB shape n T [] (k + 1) := by rw [goA_row hlt, hk, Int.toNat_natCast]
    rw [hrow] at hfit hok ⊢
    have hst := stepsR_drop hlt
    have HGE := Lib.hid (C.ge hi)
    have HN : Hid (∀ (W0 : World) (u : Value) (v' : Value) (w' : World), Below w.heap.size w W0 → (∀ k, u.ownBlock = some k → w.heap.size ≤ k) → OS w' w0.heap.size w0.heap.size v' (T ++ [[]]) (cells ++ [u]) → W0.grownBy w' (Value.slice A m c).ownBlock →
        (v'.ownBlock = (Value.slice A m c).ownBlock ∨ ∀ k, v'.ownBlock = some k → W0.heap.size ≤ k) → Calls Try.prog 63 #[.slice As ns cs, .int .i64 n, v', .func (.func F) #[] caps] w' (PostT inv O (.slice A m c) w (seeT step go s (goB shape n T [] (k + 1))))) := fun W0 u v' w' b0 hu ho hg hv => by
      have hlow := HB.out.size
      have kw : Kept (fun k => (Value.slice A m c).ownBlock = some k) w w' := (Kept.of_below b0).trans (fun k h => .inl h) ⟨hg.os, hg.tape, hg.output, hg.size, fun k hk hn => hg.block k hk fun e => hn e.symm⟩
      have hsz := kw.size
      have hown : ∀ k, v'.ownBlock = some k → (Value.slice A m c).ownBlock = some k ∨ w.heap.size ≤ k := fun k hk => by
        rcases hv with hv | hv
        · exact .inl (by rw [← hv]; exact hk)
        · exact .inr (Nat.le_trans b0.size (hv k hk))
      have hO : ∀ k, (Value.slice A m c).ownBlock = some k ∨ w.heap.size ≤ k → ¬ O k := fun k h1 h2 => by
        rcases h1 with h1 | h1
        · exact HT.out.2.1 k h1 h2
        · have := (HGE.out k h2).2; omega
      obtain ⟨A', m', c', rfl, -⟩ := OS.form ho
      have hinv := C.keep HI.out (kw.mono fun k h1 => ⟨(OF.lt HT.out.1 k h1).1, HT.out.2.1 k h1⟩)
      have hto : TO w0.heap.size w' O (.slice A' m' c') (T ++ [[]]) (cells ++ [u]) := ⟨ho, fun k hk => hO k (hown k hk), fun u' hu' k hk => by
        rcases List.mem_append.1 hu' with hu' | hu'
        · exact HT.out.2.2 u' hu' k hk
        · rw [List.mem_singleton.1 hu'] at hk; exact hO k (.inr (hu k hk))⟩
      refine (ih _ (by omega) w' s O T [] k A' m' c' _ hinv hto (HB.out.trans (kw.low (fun k hk => (OF.lt HT.out.1 k hk).1) hlow)) HF.out hlt (by rw [hk]; simp) (by simp) rfl hfit hok).mono ?_
      rintro e w'' ⟨he, O', h1, h2, h3⟩
      refine ⟨he, O', h1, fun k hk => (h2 k hk).imp id fun h => Nat.le_trans hsz h, (kw.mono fun k h => .inr h).trans (fun k hk => ?_) h3⟩
      rcases hk with hk | hk
      · exact .inl (.inl hk)
      · exact (hown k hk).imp .inr id
    have hmN : m ≤ 1000000000 := by omega
    have hbase := hb.size
    have HB0 : Hid (∀ nq, Below w.heap.size w ((w.drewN nq).alloc (.cells #[] 3))) := fun nq => (below_drewN (Below.refl _ w) nq).alloc (Nat.le_refl _) _
    have HOU : Hid (∀ nq, OI ((w.drewN nq).alloc (.cells #[] 3)) w0.heap.size (.slice (some ⟨w.heap.size, 0, none⟩) 0 0) []) := fun nq => OI.lit (w.drewN nq) w0.heap.size [] 0 rfl hbase (by simp)
    have HOT : Hid (∀ nq, OS ((w.drewN nq).alloc (.cells #[] 3)) w0.heap.size w0.heap.size (.slice A m c) T cells) := fun nq => OS.below HT.out.1 (HB0.out nq)
    have HAP : Hid (∀ u' ∈ cells, u'.ownBlock = none ∨ u'.ownBlock ≠ (Value.slice (some ⟨w.heap.size, 0, none⟩) 0 0).ownBlock) := fun u' hu' => by
      rcases h : u'.ownBlock with _ | q
      · exact .inl rfl
      · refine .inr fun e => ?_
        have := (HT.out.1.2.1.ltC hu' q h).2
        simp [Value.ownBlock] at e
        omega
    have HL5 : Hid (T.length + 1 ≤ 1000000000000) := by show _ ≤ _; omega
    have HBS : Hid (∀ nq, w0.heap.size ≤ ((w.drewN nq).alloc (.cells #[] 3)).heap.size) := fun nq => Nat.le_trans hbase (HB0.out nq).size
    have HN2 : Hid (∀ (nq : Nat) (v' : Value) (w' : World), OS w' w0.heap.size w0.heap.size v' (T ++ [[]]) (cells ++ [.slice (some ⟨w.heap.size, 0, none⟩) 0 0]) → (((w.drewN nq).alloc (.cells #[] 3)).alloc (.cells #[.slice (some ⟨w.heap.size, 0, none⟩) 0 0] 22)).grownBy w' (Value.slice A m c).ownBlock →
        (v'.ownBlock = (Value.slice A m c).ownBlock ∨ v'.ownBlock = some (((w.drewN nq).alloc (.cells #[] 3)).heap.size + 1)) → Calls Try.prog 63 #[.slice As ns cs, .int .i64 n, v', .func (.func F) #[] caps] w' (PostT inv O (.slice A m c) w (seeT step go s (goB shape n T [] (k + 1))))) := fun nq v' w' ho hg hv => by
      refine HN.out _ (.slice (some ⟨w.heap.size, 0, none⟩) 0 0) v' w' ((HB0.out nq).alloc (HB0.out nq).size _) (fun k hk => by simp [Value.ownBlock] at hk; omega) ho hg (hv.imp id fun h k hk => ?_)
      rw [h] at hk
      injection hk with hk
      simp at hk ⊢
      omega
    clear hrow hfit hok ih hi hF hd hst hk hT hbase
    go_enter Try.func63, Try.ntmps63
    rcases Nat.eq_zero_or_pos m with h0 | h0
    · subst h0
      have hne : ((0 : Int) == (ns : Int)) = false := by simp; omega
      go_wp2
      go_quiet (fail)
      go_wp2_with (first | (at_builtin; refine wpAppS rfl _ _ rfl w0.heap.size w0.heap.size (.slice A 0 c) T cells (.slice (some ⟨w.heap.size, 0, none⟩) 0 0) [] rfl (by show Value.slice (some ⟨w.heap.size + 1, 0, none⟩) 1 1 = _; simp) (HOT.out _) (HOU.out _) HAP.out HL5.out (HBS.out _) ?_; intro v' w' k1 k2 k3) | (go_at_call 63; refine (HN2.out _ _ _ k1 k2 k3).mono ?_; rintro e w'' ⟨rfl, hpost⟩) | fail)
      go_ret
      exact ⟨rfl, hpost⟩
    · obtain ⟨M, rfl⟩ : ∃ M, m = M + 1 := ⟨m - 1, by omega⟩
      obtain ⟨ad, A1, n1, c1, rfl, x1, -, x3, -⟩ := OS.cell HT.out.1 (k := M) (by omega)
      have e1 : (n1 : Int) = nth shape M := by rw [← x3.ri.1]; exact HF.out.row M (by omega)
      obtain ⟨ad2, rfl, x2⟩ := hsw.cell (show M < ns by omega)
      rw [← e1] at x2
      have hne : ((M : Int) + 1 == (ns : Int)) = false := by simp; omega
      clear x3 e1
      have hneg : decide ((M : Int) < 0) = false := decide_eq_false (by omega)
      go_wp2
      go_quiet (fail)
      go_wp2_with (first | (at_builtin; refine wpAppS rfl _ _ rfl w0.heap.size w0.heap.size (.slice (some ad) (M + 1) c) T cells (.slice (some ⟨w.heap.size, 0, none⟩) 0 0) [] rfl (by show Value.slice (some ⟨w.heap.size + 1, 0, none⟩) 1 1 = _; simp) (HOT.out _) (HOU.out _) HAP.out HL5.out (HBS.out _) ?_; intro v' w' k1 k2 k3) | (go_at_call 63; refine (HN2.out _ _ _ k1 k2 k3).mono ?_; rintro e w'' ⟨rfl, hpost⟩) | fail)
      go_ret
      exact ⟨rfl, hpost⟩
end
end Go.Proofs.Ytgbojgmmingfdaa
