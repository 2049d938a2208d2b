/- fill of the program: all tableaux are seen. -/
import Derived.Test.YtgbojgmmingfdaaKeep
import Derived.Test.YtgbojgmmingfdaaDraw
import Derived.BigRegion
import Derived.Deep.RegionHeld3
import Derived.Test.YtgbojgmmingfdaaSArg
import Derived.Deep.DeepCutAuto
import Derived.Deep.CutRange
import Derived.Test.YtgbojgmmingfdaaShapes
import Derived.Test.YtgbojgmmingfdaaTermA
namespace Go.Proofs.Ytgbojgmmingfdaa
open Go.RowKit

section
variable {F : FuncId} {caps : Array Value} {S : Type} {inv : World → S → (Nat → Prop) → Prop} {step : S → List (List Int) → S} {go : S → List (List Int) → Bool} {fit : S → Nat → Prop} {okp : List (List Int) → Prop}
set_option maxRecDepth 100000 in
set_option maxHeartbeats 1000000 in
theorem fillA_step {w0 : World} {shape : List Int} {As : Option Addr} {ns cs : Nat} {n : Int} (C : ClosT Try.prog F caps w0.heap.size S inv step go fit okp) (hs : RI w0 As ns shape) (hns : ns ≤ 1000000000) (hp : Pos shape) (d : Nat)
    (ih : ∀ d', d' < d → FillB w0 shape As ns cs n C d') : FillA w0 shape As ns cs n C d := by
  intro w s O T A m c cells hi hT hb hF hd hfit hok
  have hm : T.length = m := by
    obtain ⟨A', n', c', e, h1, -⟩ := OS.form hT.1
    rw [h1, (slice_inj e).2.1]
  have hL := hs.1
  have hsw := hs.below hb
  have HT := Lib.hid hT
  have HI := Lib.hid hi
  have HF := Lib.hid hF
  have HB := Lib.hid hb
  have HENT := Lib.hid C.ent
  have hle := hF.le
  by_cases hend : T.length = shape.length
  · have hone : goA shape n T = [T] := goA_end (by omega)
    rw [hone, seeT_one]
    have HOK := Lib.hid (hok T (by rw [hone]; simp))
    have HFIT : Hid (fit s (0 + 1)) := by rw [hone] at hfit; exact hfit
    have HCL : Hid (∀ W, Quiet w W → Calls Try.prog F (#[.slice A m c] ++ caps) W (fun e w' => e = .returned (.bool (go s T)) ∧ ∃ O' : Nat → Prop, inv w' (step s T) O' ∧ (∀ k, O' k → O k ∨ w.heap.size ≤ k) ∧ Kept O w w')) := fun W q => by
      have bq : Below w.heap.size w W := q.below
      refine (C.call (C.keep HI.out (Kept.of_below bq)) HFIT.out HOK.out (HT.out.below bq)).mono ?_
      rintro e w' ⟨he, O', h1, h2, h3⟩
      exact ⟨he, O', h1, fun k hk => (h2 k hk).imp id fun h => Nat.le_trans bq.size h, (Kept.of_below bq).trans (fun k h => .inl h) h3⟩
    clear hone hok hfit ih hi hT hF hd
    obtain ⟨z, hz⟩ : ∃ z, z = go s T := ⟨_, rfl⟩
    have HZ := Lib.hid hz
    rw [← hz] at HCL ⊢
    clear hz
    go_enter Try.func63, Try.ntmps63
    rcases Nat.eq_zero_or_pos m with h0 | h0
    · subst h0
      obtain rfl : ns = 0 := by omega
      go_wp2
      go_quiet (fail)
      go_wp2
      rw [HENT.out]
      refine (HCL.out _ (by first | exact ⟨_, rfl⟩ | exact ⟨_, (World.drewN_drewN _ _ _).symm⟩ | exact Quiet.refl _ | (simp only [World.drewN_drewN]; exact ⟨_, rfl⟩))).mono ?_
      rintro e w' ⟨rfl, O', h1, h2, h3⟩
      go_wp2
      go_ret
      exact ⟨rfl, O', h1, h2, h3.mono fun k h => .inl h⟩
    · obtain ⟨M, rfl⟩ : ∃ M, m = M + 1 := ⟨m - 1, by omega⟩
      obtain rfl : ns = M + 1 := by omega
      obtain ⟨ad, A1, n1, c1, rfl, x1, -, x3, -⟩ := OS.cell HT.out.1 (k := M) (by omega)
      have e1 : (n1 : Int) = nth shape M := by rw [← x3.ri.1]; exact HF.out.row M (by omega)
      obtain ⟨ad2, rfl, x2⟩ := hsw.cell (show M < M + 1 by omega)
      rw [← e1] at x2
      clear x3 e1
      have hneg : decide ((M : Int) < 0) = false := decide_eq_false (by omega)
      go_wp2
      go_quiet (fail)
      go_wp2
      rw [HENT.out]
      refine (HCL.out _ (by first | exact ⟨_, rfl⟩ | exact ⟨_, (World.drewN_drewN _ _ _).symm⟩ | exact Quiet.refl _ | (simp only [World.drewN_drewN]; exact ⟨_, rfl⟩))).mono ?_
      rintro e w' ⟨rfl, O', h1, h2, h3⟩
      go_wp2
      go_ret
      exact ⟨rfl, O', h1, h2, h3.mono fun k h => .inl h⟩
  · have hlt : T.length < shape.length := by omega
    have hpos := hp T.length hlt
    obtain ⟨k, hk⟩ : ∃ k : Nat, nth shape T.length = ((k + 1 : Nat) : Int) := ⟨(nth shape T.length - 1).toNat, by omega⟩
    have hrow : goA shape n T = goB shape n T [] (k + 1) := by rw [goA_row hlt, hk, Int.toNat_natCast]
    rw [hrow] at hfit hok ⊢
    have hst := stepsR_drop hlt
    have HGE := Lib.hid (C.ge hi)
    have HN : Hid (∀ (W0 : World) (u : Value) (v' : Value) (w' : World), Below w.heap.size w W0 → (∀ k, u.ownBlock = some k → w.heap.size ≤ k) → OS w' w0.heap.size w0.heap.size v' (T ++ [[]]) (cells ++ [u]) → W0.grownBy w' (Value.slice A m c).ownBlock →
        (v'.ownBlock = (Value.slice A m c).ownBlock ∨ ∀ k, v'.ownBlock = some k → W0.heap.size ≤ k) → Calls Try.prog 63 #[.slice As ns cs, .int .i64 n, v', .func (.func F) #[] caps] w' (PostT inv O (.slice A m c) w (seeT step go s (goB shape n T [] (k + 1))))) := fun W0 u v' w' b0 hu ho hg hv => by
      have hlow := HB.out.size
      have kw : Kept (fun k => (Value.slice A m c).ownBlock = some k) w w' := (Kept.of_below b0).trans (fun k h => .inl h) ⟨hg.os, hg.tape, hg.output, hg.size, fun k hk hn => hg.block k hk fun e => hn e.symm⟩
      have hsz := kw.size
      have hown : ∀ k, v'.ownBlock = some k → (Value.slice A m c).ownBlock = some k ∨ w.heap.size ≤ k := fun k hk => by
        rcases hv with hv | hv
        · exact .inl (by rw [← hv]; exact hk)
        · exact .inr (Nat.le_trans b0.size (hv k hk))
      have hO : ∀ k, (Value.slice A m c).ownBlock = some k ∨ w.heap.size ≤ k → ¬ O k := fun k h1 h2 => by
        rcases h1 with h1 | h1
        · exact HT.out.2.1 k h1 h2
        · have := (HGE.out k h2).2; omega
      obtain ⟨A', m', c', rfl, -⟩ := OS.form ho
      have hinv := C.keep HI.out (kw.mono fun k h1 => ⟨(OF.lt HT.out.1 k h1).1, HT.out.2.1 k h1⟩)
      have hto : TO w0.heap.size w' O (.slice A' m' c') (T ++ [[]]) (cells ++ [u]) := ⟨ho, fun k hk => hO k (hown k hk), fun u' hu' k hk => by
        rcases List.mem_append.1 hu' with hu' | hu'
        · exact HT.out.2.2 u' hu' k hk
        · rw [List.mem_singleton.1 hu'] at hk; exact hO k (.inr (hu k hk))⟩
      refine (ih _ (by omega) w' s O T [] k A' m' c' _ hinv hto (HB.out.trans (kw.low (fun k hk => (OF.lt HT.out.1 k hk).1) hlow)) HF.out hlt (by rw [hk]; simp) (by simp) rfl hfit hok).mono ?_
      rintro e w'' ⟨he, O', h1, h2, h3⟩
      refine ⟨he, O', h1, fun k hk => (h2 k hk).imp id fun h => Nat.le_trans hsz h, (kw.mono fun k h => .inr h).trans (fun k hk => ?_) h3⟩
      rcases hk with hk | hk
      · exact .inl (.inl hk)
      · exact (hown k hk).imp .inr id
    have hmN : m ≤ 1000000000 := by omega
    have hbase := hb.size
    have HB0 : Hid (∀ nq, Below w.heap.size w ((w.drewN nq).alloc (.cells #[] 3))) := fun nq => (below_drewN (Below.refl _ w) nq).alloc (Nat.le_refl _) _
    have HOU : Hid (∀ nq, OI ((w.drewN nq).alloc (.cells #[] 3)) w0.heap.size (.slice (some ⟨w.heap.size, 0, none⟩) 0 0) []) := fun nq => OI.lit (w.drewN nq) w0.heap.size [] 0 rfl hbase (by simp)
    have HOT : Hid (∀ nq, OS ((w.drewN nq).alloc (.cells #[] 3)) w0.heap.size w0.heap.size (.slice A m c) T cells) := fun nq => OS.below HT.out.1 (HB0.out nq)
    have HAP : Hid (∀ u' ∈ cells, u'.ownBlock = none ∨ u'.ownBlock ≠ (Value.slice (some ⟨w.heap.size, 0, none⟩) 0 0).ownBlock) := fun u' hu' => by
      rcases h : u'.ownBlock with _ | q
      · exact .inl rfl
      · refine .inr fun e => ?_
        have := (HT.out.1.2.1.ltC hu' q h).2
        simp [Value.ownBlock] at e
        omega
    have HL5 : Hid (T.length + 1 ≤ 1000000000000) := by show _ ≤ _; omega
    have HBS : Hid (∀ nq, w0.heap.size ≤ ((w.drewN nq).alloc (.cells #[] 3)).heap.size) := fun nq => Nat.le_trans hbase (HB0.out nq).size
    have HN2 : Hid (∀ (nq : Nat) (v' : Value) (w' : World), OS w' w0.heap.size w0.heap.size v' (T ++ [[]]) (cells ++ [.slice (some ⟨w.heap.size, 0, none⟩) 0 0]) → (((w.drewN nq).alloc (.cells #[] 3)).alloc (.cells #[.slice (some ⟨w.heap.size, 0, none⟩) 0 0] 22)).grownBy w' (Value.slice A m c).ownBlock →
        (v'.ownBlock = (Value.slice A m c).ownBlock ∨ v'.ownBlock = some (((w.drewN nq).alloc (.cells #[] 3)).heap.size + 1)) → Calls Try.prog 63 #[.slice As ns cs, .int .i64 n, v', .func (.func F) #[] caps] w' (PostT inv O (.slice A m c) w (seeT step go s (goB shape n T [] (k + 1))))) := fun nq v' w' ho hg hv => by
      refine HN.out _ (.slice (some ⟨w.heap.size, 0, none⟩) 0 0) v' w' ((HB0.out nq).alloc (HB0.out nq).size _) (fun k hk => by simp [Value.ownBlock] at hk; omega) ho hg (hv.imp id fun h k hk => ?_)
      rw [h] at hk
      injection hk with hk
      simp at hk ⊢
      omega
    clear hrow hfit hok ih hi hF hd hst hk hT hbase
    go_enter Try.func63, Try.ntmps63
    rcases Nat.eq_zero_or_pos m with h0 | h0
    · subst h0
      have hne : ((0 : Int) == (ns : Int)) = false := by simp; omega
      go_wp2
      go_quiet (fail)
      go_wp2_with (first | (at_builtin; refine wpAppS rfl _ _ rfl w0.heap.size w0.heap.size (.slice A 0 c) T cells (.slice (some ⟨w.heap.size, 0, none⟩) 0 0) [] rfl (by show Value.slice (some ⟨w.heap.size + 1, 0, none⟩) 1 1 = _; simp) (HOT.out _) (HOU.out _) HAP.out HL5.out (HBS.out _) ?_; intro v' w' k1 k2 k3) | (go_at_call 63; refine (HN2.out _ _ _ k1 k2 k3).mono ?_; rintro e w'' ⟨rfl, hpost⟩) | fail)
      go_ret
      exact ⟨rfl, hpost⟩
    · obtain ⟨M, rfl⟩ : ∃ M, m = M + 1 := ⟨m - 1, by omega⟩
      obtain ⟨ad, A1, n1, c1, rfl, x1, -, x3, -⟩ := OS.cell HT.out.1 (k := M) (by omega)
      have e1 : (n1 : Int) = nth shape M := by rw [← x3.ri.1]; exact HF.out.row M (by omega)
      obtain ⟨ad2, rfl, x2⟩ := hsw.cell (show M < ns by omega)
      rw [← e1] at x2
      have hne : ((M : Int) + 1 == (ns : Int)) = false := by simp; omega
      clear x3 e1
      have hneg : decide ((M : Int) < 0) = false := decide_eq_false (by omega)
      go_wp2
      go_quiet (fail)
      go_wp2_with (first | (at_builtin; refine wpAppS rfl _ _ rfl w0.heap.size w0.heap.size (.slice (some ad) (M + 1) c) T cells (.slice (some ⟨w.heap.size, 0, none⟩) 0 0) [] rfl (by show Value.slice (some ⟨w.heap.size + 1, 0, none⟩) 1 1 = _; simp) (HOT.out _) (HOU.out _) HAP.out HL5.out (HBS.out _) ?_; intro v' w' k1 k2 k3) | (go_at_call 63; refine (HN2.out _ _ _ k1 k2 k3).mono ?_; rintro e w'' ⟨rfl, hpost⟩) | fail)
      go_ret
      exact ⟨rfl, hpost⟩
end
end Go.Proofs.Ytgbojgmmingfdaa

/- fill of the program, in a row. -/
namespace Go.Proofs.Ytgbojgmmingfdaa
open Go.RowKit

theorem desc_nth : ∀ {ms : List Int}, Desc ms → ∀ i, nth ms (i + 1) ≤ nth ms i
  | [], _, i => Int.le_refl _
  | m :: ms, h, 0 => h.1
  | m :: ms, h, i + 1 => desc_nth (ms := ms) h.2.2 i
theorem upI_take {k n : Int} (h : k < n) : upI k (n - k).toNat = k :: upI (k + 1) (n - (k + 1)).toNat := by
  obtain ⟨m, hm⟩ : ∃ m : Nat, (n - k).toNat = m + 1 := ⟨(n - k).toNat - 1, by omega⟩
  rw [hm, upI, show (n - (k + 1)).toNat = m by omega]
/-- What is still to be seen from x on. -/
def goX (shape : List Int) (n : Int) (T : List (List Int)) (acc : List Int) (k : Nat) (x : Int) : List (List (List Int)) := (upI x (n - x).toNat).flatMap fun y => goB shape n T (acc ++ [y]) k
theorem goX_step {shape : List Int} {n : Int} {T : List (List Int)} {acc : List Int} {k : Nat} {x : Int} (h : x < n) : goX shape n T acc k x = goB shape n T (acc ++ [x]) k ++ goX shape n T acc k (x + 1) := by
  unfold goX
  rw [upI_take h, List.flatMap_cons]
theorem goX_end {shape : List Int} {n : Int} {T : List (List Int)} {acc : List Int} {k : Nat} {x : Int} (h : n ≤ x) : goX shape n T acc k x = [] := by
  unfold goX
  rw [show (n - x).toNat = 0 by omega]; rfl
theorem goX_all (shape : List Int) (n : Int) (T : List (List Int)) (acc : List Int) (k : Nat) : goB shape n T acc (k + 1) = goX shape n T acc k (lowR (prevOf shape T) acc) := goB_succ ..
section
variable {F : FuncId} {caps : Array Value} {S : Type} {inv : World → S → (Nat → Prop) → Prop} {step : S → List (List Int) → S} {go : S → List (List Int) → Bool} {fit : S → Nat → Prop} {okp : List (List Int) → Prop}
/-- What the calls inside the row's loop do. -/
def NextC (w0 : World) (shape : List Int) (As : Option Addr) (ns cs : Nat) (n : Int) (_ : ClosT Try.prog F caps w0.heap.size S inv step go fit okp) (T : List (List Int)) (acc : List Int) (k : Nat) : Prop :=
  ∀ (w : World) (s : S) (O : Nat → Prop) (x : Int) (A : Option Addr) (m c : Nat) (cells : List Value), inv w s O → TO w0.heap.size w O (.slice A m c) (T ++ [acc ++ [x]]) cells → Below w0.heap.size w0 w → 0 ≤ x → x < n →
    fit s (goB shape n T (acc ++ [x]) k).length → (∀ q ∈ goB shape n T (acc ++ [x]) k, okp q) →
    Calls Try.prog 63 #[.slice As ns cs, .int .i64 n, .slice A m c, .func (.func F) #[] caps] w (PostT inv O (.slice A m c) w (seeT step go s (goB shape n T (acc ++ [x]) k)))
set_option maxRecDepth 100000 in
set_option maxHeartbeats 1000000 in
theorem fillB_step {w0 : World} {shape : List Int} {As : Option Addr} {ns cs : Nat} {n : Int} (C : ClosT Try.prog F caps w0.heap.size S inv step go fit okp) (hs : RI w0 As ns shape) (hns : ns ≤ 1000000000) (hdd : Desc shape) (hn : 0 ≤ n ∧ n ≤ 1000) (hm8 : ∀ j, nth shape j ≤ 1000)
    (w : World) (s : S) (O : Nat → Prop) (T : List (List Int)) (acc : List Int) (k : Nat) (A : Option Addr) (m c : Nat) (cells : List Value) (hi : inv w s O) (hT : TO w0.heap.size w O (.slice A m c) (T ++ [acc]) cells) (hb : Below w0.heap.size w0 w) (hF : FS shape n T)
    (hlt : T.length < shape.length) (hlen : ((acc.length + (k + 1) : Nat) : Int) = nth shape T.length) (hacc : ∀ x ∈ acc, 0 ≤ x ∧ x < n) (hnext : NextC w0 shape As ns cs n C T acc k)
    (hfit : fit s (goB shape n T acc (k + 1)).length) (hok : ∀ q ∈ goB shape n T acc (k + 1), okp q) :
    Calls Try.prog 63 #[.slice As ns cs, .int .i64 n, .slice A m c, .func (.func F) #[] caps] w (PostT inv O (.slice A m c) w (seeT step go s (goB shape n T acc (k + 1)))) := by
  have hm : m = T.length + 1 := by
    obtain ⟨A', n', c', e, h1, -⟩ := OS.form hT.1
    rw [(slice_inj e).2.1, ← h1]; simp
  subst hm
  obtain ⟨R, hR⟩ : ∃ R, R = T.length := ⟨_, rfl⟩
  have hL := hs.1
  have hsw := hs.below hb
  obtain ⟨ad, A1, n1, c1, rfl, x1, -, x3, -⟩ := OS.cell hT.1 (k := R) (by omega)
  have hrow : nthL (T ++ [acc]) R = acc := by rw [hR]; exact nthL_snoc T acc
  rw [hrow] at x3
  have hn1 : acc.length = n1 := x3.ri.1
  obtain ⟨ad2, rfl, x2⟩ := hsw.cell (show R < ns by omega)
  rw [hR, ← hlen, ← hR, hn1] at x2
  obtain ⟨L1, hL1⟩ : ∃ L1, L1 = if acc.length = 0 then 0 else nth acc (acc.length - 1) := ⟨_, rfl⟩
  obtain ⟨Lo, hLo⟩ : ∃ Lo, Lo = lowR (prevOf shape T) acc := ⟨_, rfl⟩
  have hL1b : 0 ≤ L1 ∧ L1 ≤ n := by
    rw [hL1]
    split
    · omega
    · have := hacc _ (nth_mem (l := acc) (k := acc.length - 1) (by omega)); omega
  obtain ⟨Y, hY⟩ : ∃ Y, Y = nth (prevOf shape T) acc.length := ⟨_, rfl⟩
  have hLoY : Lo = max L1 (Y + 1) := by rw [hLo, hL1, hY]; rfl
  have hYb : -1 ≤ Y ∧ Y < n ∨ n = 0 ∧ Y = -1 := by
    by_cases h0 : T.length = 0
    · have : Y = -1 := by
        rw [hY, prevOf, if_pos h0, nth_lt (by rw [List.length_replicate, ← h0]; omega)]
        simp
      omega
    · left
      have h1 := hF.row (T.length - 1) (by omega)
      have h2 := desc_nth hdd (T.length - 1)
      rw [show T.length - 1 + 1 = T.length by omega] at h2
      have h3 : nthL T (T.length - 1) ∈ T := by
        unfold nthL
        rw [List.getD_eq_getElem?_getD, List.getElem?_eq_getElem (by omega)]
        exact List.getElem_mem _
      have h4 := hF.ent _ h3 _ (nth_mem (l := nthL T (T.length - 1)) (k := acc.length) (by omega))
      rw [hY, prevOf, if_neg h0]
      omega
  have hLob : 0 ≤ Lo ∧ Lo ≤ n := by omega
  have HI := Lib.hid hi
  have HF := Lib.hid hF
  have HB := Lib.hid hb
  have HX3 := Lib.hid x3
  have hQ : Hid (∀ i, nth shape (i + 1) ≤ nth shape i) := desc_nth hdd
  have hneg : decide ((R : Int) < 0) = false := decide_eq_false (by omega)
  have hn1b : n1 + (k + 1) ≤ 1000 := by have := hm8 T.length; omega
  have hne : ((n1 : Int) == ((n1 + (k + 1) : Nat) : Int)) = false := by simp; omega
  rw [← hR] at hT hlt hlen ⊢
  have HT := Lib.hid hT
  have HR := Lib.hid hR
  have HL1 := Lib.hid hL1
  have HLO := Lib.hid hLo
  have HY := Lib.hid hY
  have HLOY := Lib.hid hLoY
  have HYB := Lib.hid hYb
  have HN1 := Lib.hid hn1
  have HACC := Lib.hid hacc
  have HFIT := Lib.hid hfit
  have HOK := Lib.hid hok
  have HNEXT := Lib.hid hnext
  have HLEN := Lib.hid hlen
  clear hR hL1 hLo hY hLoY hYb hn1 hacc hfit hok hnext hrow hF hi hT hlen hm8 hdd x3
  go_enter Try.func63, Try.ntmps63
  go_wp2
  go_quiet (fail)
  go_upto_if 53 with fail
  go_cut [11] (fun v11 wx => v11 = .int .i64 L1 ∧ ∃ q, wx = w.drewN q)
  case first =>
    rcases Nat.eq_zero_or_pos n1 with h0 | h0
    · subst h0
      have hv : Value.int .i64 0 = .int .i64 L1 := by rw [HL1.out, if_pos HN1.out]
      have HV := Lib.hid hv
      clear hv
      go_wp2
      go_meet
      exact ⟨HV.out, _, rfl⟩
    · obtain ⟨N, rfl⟩ : ∃ N, n1 = N + 1 := ⟨n1 - 1, by omega⟩
      obtain ⟨ad3, rfl, y1⟩ := HX3.out.ri.cell (k := N) (by omega)
      have hv : nth acc N = L1 := by rw [HL1.out, HN1.out, if_neg (by omega)]; rfl
      rw [hv] at y1
      clear hv
      go_wp2
      go_meet
      exact ⟨rfl, _, rfl⟩
  case rest =>
    obtain ⟨rfl, q1, rfl⟩ := hcut
    go_upto_if 63 with fail
    go_cut [11] (fun v11 wx => v11 = .int .i64 Lo ∧ ∃ q, wx = w.drewN q)
    case first =>
      rcases Nat.eq_zero_or_pos R with h0 | h0
      · have hv : Value.int .i64 L1 = .int .i64 Lo := by
          have h1 : Y = -1 := by
            rw [HY.out, prevOf, if_pos (by rw [← HR.out, h0]), nth_lt (by have := HLEN.out; rw [List.length_replicate, ← h0]; omega)]
            simp
          have := HLOY.out
          have : L1 = Lo := by omega
          rw [this]
        have HV := Lib.hid hv
        clear hv
        subst h0
        go_wp2
        go_meet
        exact ⟨HV.out, _, rfl⟩
      · obtain ⟨Q, rfl⟩ : ∃ Q, R = Q + 1 := ⟨R - 1, by omega⟩
        have hTl := HR.out
        obtain ⟨ad5, A5, n5, c5, e5, y1, -, y3, -⟩ := OS.cell HT.out.1 (k := Q) (by omega)
        obtain rfl := Option.some.inj e5
        rw [nthL_app (by omega)] at y3
        have hpr : prevOf shape T = nthL T Q := by rw [prevOf, if_neg (by omega), ← hTl]; rfl
        have h5 : (n5 : Int) = nth shape Q := by rw [← y3.ri.1]; exact HF.out.row Q (by omega)
        have h6 := hQ.out Q
        have h7 := HLEN.out
        have hlt5 : n1 < n5 := by have := HN1.out; omega
        obtain ⟨ad6, rfl, y6⟩ := y3.ri.cell (k := n1) hlt5
        have hy : nth (nthL T Q) n1 = Y := by rw [HY.out, hpr, HN1.out]
        rw [hy] at y6
        have hv : ∀ z, z = Lo → Value.int .i64 z = .int .i64 Lo := fun z h => by rw [h]
        have HV := Lib.hid hv
        have hyb := HYB.out
        have HLY : Hid (∀ z, (z = if L1 < Y + 1 then Y + 1 else L1) → z = Lo) := fun z h => by rw [h, HLOY.out, Int.max_def]; split <;> split <;> omega
        clear hTl e5 y3 hpr h5 h6 h7 hy hv
        go_wp2
        all_goals go_meet
        all_goals exact ⟨HV.out _ (HLY.out _ (by split <;> omega)), _, rfl⟩
    case rest =>
      obtain ⟨rfl, q2, rfl⟩ := hcut
      go_wp2
      go_loopw [12, 13] (fun x _ wr => ∃ (z : Int) (s' : S) (O' : Nat → Prop), x = .int .i64 z ∧ Lo ≤ z ∧ z ≤ n ∧ Hid (inv wr s' O' ∧ (∀ q, O' q → O q ∨ w.heap.size ≤ q) ∧ Kept O w wr ∧ seeT step go s (goB shape n T acc (k + 1)) = seeT step go s' (goX shape n T acc k z) ∧ fit s' (goX shape n T acc k z).length ∧ ∀ q ∈ goX shape n T acc k z, okp q)) (fun x _ _ => (n - intOf x).toNat)
      case atStart =>
        have e := goX_all shape n T acc k
        rw [← HLO.out] at e
        refine ⟨Lo, s, O, rfl, Int.le_refl _, hLob.2, C.keep HI.out (Kept.of_below (below_drewN (Below.refl _ _) _)), fun q h => .inl h, Kept.of_below (below_drewN (Below.refl _ _) _), ?_, ?_, ?_⟩
        · rw [e]
        · rw [← e]; exact HFIT.out
        · rw [← e]; exact HOK.out
      case round =>
        obtain ⟨z, s', O', rfl, hz1, hz2, HX⟩ := hrel
        by_cases hz : z < n
        · obtain ⟨iv, hO', kw, hsee, hft, hk'⟩ := HX.out
          have HTO : Hid (TO w0.heap.size wr O' (.slice (some ad) (R + 1) c) (T ++ [acc]) cells) := HT.out.seen kw hO'
          obtain ⟨ad7, A7, n7, c7, e7, x7, u7, o7, -⟩ := OS.cell HTO.out.1 (k := R) (by omega)
          obtain rfl := Option.some.inj e7
          have hrow7 : nthL (T ++ [acc]) R = acc := by rw [HR.out]; exact nthL_snoc T acc
          rw [hrow7] at o7
          have hsz : w0.heap.size ≤ wr.heap.size := Nat.le_trans HB.out.size kw.size
          have HBW : Hid (Below w0.heap.size w0 wr) := HB.out.trans (kw.low (fun q hq => (C.ge HI.out q hq).1) HB.out.size)
          have hTl : (T ++ [acc]).length = R + 1 := by rw [List.length_append, ← HR.out]; rfl
          have HSZ := Lib.hid hsz
          have HINV := Lib.hid iv
          have U7 := Lib.hid u7
          have O7 := Lib.hid o7
          have HRL := Lib.hid hTl
          have hgx := goX_step (shape := shape) (T := T) (acc := acc) (k := k) hz
          rw [hgx] at hsee hft hk'
          obtain ⟨sN, bN, hres⟩ : ∃ a b, (a, b) = seeT step go s' (goB shape n T (acc ++ [z]) k) := ⟨_, _, rfl⟩
          rw [seeT_app, ← hres] at hsee
          have HRES := Lib.hid hres
          have HNX : Hid (∀ (W : World) (m' c' : Nat) (A' : Option Addr) (cs' : List Value), Below wr.heap.size wr W → TO w0.heap.size W O' (.slice A' m' c') (T ++ [acc ++ [z]]) cs' → (∀ q, (Value.slice A' m' c').ownBlock = some q → wr.heap.size ≤ q) →
              Calls Try.prog 63 #[.slice (some ad2) ns cs, .int .i64 n, .slice A' m' c', .func (.func F) #[] caps] W (fun e w' => e = .returned (.bool bN) ∧ ∃ O'' : Nat → Prop, inv w' sN O'' ∧ (∀ q, O'' q → O q ∨ w.heap.size ≤ q) ∧ Kept O w w')) := fun W m' c' A' cs' bW hto hq => by
            have kW : Kept O w W := kw.trans (fun q h => .inl h) (Kept.of_below bW)
            refine (HNEXT.out W s' O' z A' m' c' cs' (C.keep iv (Kept.of_below bW)) hto (HBW.out.trans (bW.mono HBW.out.size)) (by omega) hz (C.less hft (by rw [List.length_append]; omega)) fun q hq => hk' q (List.mem_append_left _ hq)).mono ?_
            rintro e w' ⟨he, O'', h1, h2, h3⟩
            rw [← hres] at he h1
            refine ⟨he, O'', h1, fun q h => ?_, kW.trans (fun q h => ?_) h3⟩
            · rcases h2 q h with h2 | h2
              · exact hO' q h2
              · exact .inr (Nat.le_trans kW.size h2)
            · rcases h with h | h
              · exact (hO' q h).imp id fun h => h
              · exact .inr (Nat.le_trans kw.size (hq q h))
          have HSEE := Lib.hid hsee
          have HFT := Lib.hid hft
          have HKK := Lib.hid hk'
          clear e7 u7 o7 hrow7 hTl hgx hsee hft hk' hres kw iv hO'
          go_wp2_with fail
          refine (cloneS_any HTO.out.1 (by omega) HSZ.out).mono ?_
          rintro e wa ⟨A8, n8, c8, rfl, o8, f8, b8⟩
          obtain ⟨g8, cc8, hv8, hb8, hl8⟩ := OF.shape o8 (by rw [HRL.out]; omega)
          obtain ⟨rfl, rfl, rfl⟩ := slice_inj hv8
          have hg8 : wr.heap.size ≤ g8 := f8 g8 rfl
          have y7 := one_cell b8 x7
          have O8 : Hid (OS wa w0.heap.size w0.heap.size (.slice (some ⟨g8, 0, none⟩) (T ++ [acc]).length c8) (T ++ [acc]) cells) := o8
          have B8 := Lib.hid b8
          have G8 := Lib.hid hg8
          rw [HRL.out] at O8 ⊢
          have HCL : Hid (∀ W, Below wa.heap.size wa W → Calls Try.prog 134 #[.slice A7 n7 c7] W (Makes W acc)) := fun W bW => clone_any _ ((O7.out.ri.below B8.out).below bW) (by have := O7.out.ri.1; have := HN1.out; omega)
          clear o8 f8 hv8 hb8 b8 hg8 x7
          have HAC : Hid (acc.length + 1 ≤ 1000000000000) := by show _ ≤ _; have := HN1.out; omega
          go_wp2_with (first
            | (go_at_call 134; (with_reducible refine (HCL.out _ ?_).mono ?_); (exact Below.refl _ _); rintro e wb ⟨A9, n9, c9, rfl, o9, r9, -, b9⟩; have B9 := Lib.hid b9; have O9 := Lib.hid o9; clear o9 r9 b9)
            | (at_builtin; refine wpApp1 rfl _ _ rfl wa.heap.size (.slice A9 n9 c9) acc z rfl O9.out rfl HAC.out B9.out.size ?_; intro v10 wd o10 g10 k10; have BD : Hid (Below wa.heap.size wa wd) := B9.out.grown g10 B9.out.size (fun k hk => (O9.out.lt k hk).1)
               obtain ⟨A10, n10, c10, rfl, -⟩ := o10.form
               have OD : Hid (OF wd w0.heap.size w0.heap.size 22 1 (.slice (some ⟨g8, 0, none⟩) (R + 1) c8) (R + 1) (rows (T ++ [acc])) cells) := (by have h := OS.below O8.out BD.out; unfold OS at h; rw [HRL.out] at h; exact h)
               have zc : wd.cell? ⟨g8, R, none⟩ = some (.slice A7 n7 c7) := (OF.cellF OD.out (by omega)).trans U7.out
               have zf : wd.frozen? ⟨g8, R, none⟩ = false := OF.frozenF OD.out R
               have hap : ∀ u' ∈ cells, u'.ownBlock = none ∨ u'.ownBlock ≠ (Value.slice A10 n10 c10).ownBlock := fun u' hu' => FRs.apart HTO.out.1.2.1 (FRs.one_ (x := .inr (acc ++ [z])) o10) B8.out.size u' hu' _ (by simp)
               have HST : Hid (OS (wd.setCell ⟨g8, R, none⟩ (.slice A10 n10 c10)) w0.heap.size w0.heap.size (.slice (some ⟨g8, 0, none⟩) (R + 1) c8) (T ++ [acc ++ [z]]) (cells.set R (.slice A10 n10 c10))) := (by
                 have h := (OF.setRow OD.out (by decide) (m := R) (by rw [rows_len, HRL.out]; omega) (o10.mono (by have := HSZ.out; have := B8.out.size; omega)) hap).1
                 rw [rows_set] at h
                 have e : (T ++ [acc]).set R (acc ++ [z]) = T ++ [acc ++ [z]] := by rw [HR.out]; simp
                 rw [e] at h
                 unfold OS
                 rw [show (T ++ [acc ++ [z]]).length = R + 1 by rw [List.length_append, ← HR.out]; rfl]
                 exact h)
               have HBB : Hid (Below wr.heap.size wr (wd.setCell ⟨g8, R, none⟩ (.slice A10 n10 c10))) := (B8.out.trans (BD.out.mono B8.out.size)).setCell G8.out _
               have HOWN : Hid (∀ u ∈ cells.set R (.slice A10 n10 c10), ∀ q, u.ownBlock = some q → ¬ O' q) := (by
                 intro u hu q hq hO
                 rcases List.mem_or_eq_of_mem_set hu with hu | rfl
                 · exact HTO.out.2.2 u hu q hq hO
                 · have h1 := (o10.lt q hq).1
                   have h2 := (C.ge HINV.out q hO).2
                   have h3 := B8.out.size
                   omega)
               have HCF : Hid (Calls Try.prog 63 #[.slice (some ad2) ns cs, .int .i64 n, .slice (some ⟨g8, 0, none⟩) (R + 1) c8, .func (.func F) #[] caps] (wd.setCell ⟨g8, R, none⟩ (.slice A10 n10 c10)) (fun e w' => e = .returned (.bool bN) ∧ ∃ O'' : Nat → Prop, inv w' sN O'' ∧ (∀ q, O'' q → O q ∨ w.heap.size ≤ q) ∧ Kept O w w')) :=
                 HNX.out _ _ _ _ _ HBB.out ⟨HST.out, fun q hq hO => by
                   simp [Value.ownBlock] at hq
                   subst hq
                   have h2 := (C.ge HINV.out _ hO).2
                   have h3 := G8.out
                   omega, HOWN.out⟩ fun q hq => by simp [Value.ownBlock] at hq; rw [← hq]; exact G8.out
               clear o10 g10 k10 hap HST HBB HOWN)
            | (go_at_call 63; refine HCF.out.mono ?_; rintro e w11 ⟨rfl, O'', i11, q11, k11⟩; have HZ : Hid (inv w11 sN O'' ∧ (∀ q, O'' q → O q ∨ w.heap.size ≤ q) ∧ Kept O w w11) := ⟨i11, q11, k11⟩; clear i11 q11 k11)
            | fail)
          · have hbN : bN = false := by rename_i hnb; simpa using hnb
            subst hbN
            have hend : Hid ((seeT step go s (goB shape n T acc (k + 1))) = (sN, false)) := by
              show _ = _
              rw [HSEE.out]; rfl
            go_ret
            refine ⟨?_, O'', ?_, HZ.out.2.1, HZ.out.2.2.mono fun q h => .inl h⟩
            · rw [hend.out]; rfl
            · rw [hend.out]; exact HZ.out.1
          · have hbN : bN = true := by rename_i hnb; simpa using hnb
            subst hbN
            go_roundw
            case rel =>
              refine ⟨z + 1, sN, O'', by go_num, by omega, by omega, HZ.out.1, HZ.out.2.1, HZ.out.2.2, ?_, ?_, fun q hq => HKK.out q (List.mem_append_right _ hq)⟩
              · rw [HSEE.out]; rfl
              · have h := HFT.out
                rw [List.length_append] at h
                have h2 := C.all (goX shape n T acc k (z + 1)).length (goB shape n T (acc ++ [z]) k) s' (fun q hq => HKK.out q (List.mem_append_left _ hq)) h (by rw [← HRES.out])
                rw [← HRES.out] at h2
                exact h2
            case measure => simp [intOf]; omega
        · have hend : Hid ((seeT step go s (goB shape n T acc (k + 1))) = (s', true)) := by
            show _ = _
            rw [HX.out.2.2.2.1, goX_end (by omega), seeT]
          go_wp2
          go_ret
          refine ⟨?_, O', ?_, HX.out.2.1, HX.out.2.2.1.mono fun q h => .inl h⟩
          · rw [hend.out]; rfl
          · rw [hend.out]; exact HX.out.1
theorem fill_go {w0 : World} {shape : List Int} {As : Option Addr} {ns cs : Nat} {n : Int} (C : ClosT Try.prog F caps w0.heap.size S inv step go fit okp) (hs : RI w0 As ns shape) (hns : ns ≤ 1000000000) (hp : Pos shape) (hdd : Desc shape) (hn : 0 ≤ n ∧ n ≤ 1000) (hm8 : ∀ j, nth shape j ≤ 1000) (d : Nat) :
    FillA w0 shape As ns cs n C d ∧ FillB w0 shape As ns cs n C d := by
  induction d using Nat.strongRecOn with
  | _ d ih =>
    refine ⟨fillA_step C hs hns hp d fun d' hd' => (ih d' hd').2, ?_⟩
    intro w s O T acc k A m c cells hi hT hb hF hlt hlen hacc hd hfit hok
    refine fillB_step C hs hns hdd hn hm8 w s O T acc k A m c cells hi hT hb hF hlt hlen hacc ?_ hfit hok
    intro w' s' O' x A' m' c' cells' hi' hT' hb' hx1 hx2 hfit' hok'
    have hacc' : ∀ y ∈ acc ++ [x], 0 ≤ y ∧ y < n := fun y hy => by
      rcases List.mem_append.1 hy with hy | hy
      · exact hacc y hy
      · rw [List.mem_singleton.1 hy]; exact ⟨hx1, hx2⟩
    rcases k with _ | k
    · rw [goB_zero] at hfit' hok' ⊢
      have hl : (((acc ++ [x]).length : Nat) : Int) = nth shape T.length := by rw [List.length_append]; simpa using hlen
      exact (ih (stepsR (shape.drop (T.length + 1))) (by omega)).1 w' s' O' (T ++ [acc ++ [x]]) A' m' c' cells' hi' hT' hb' (hF.snoc hlt hl hacc') (by rw [List.length_append]; rfl) hfit' hok'
    · exact (ih (k + 1 + stepsR (shape.drop (T.length + 1))) (by omega)).2 w' s' O' T (acc ++ [x]) k A' m' c' cells' hi' hT' hb' hF hlt (by rw [List.length_append, List.length_singleton]; omega) hacc' rfl hfit' hok'
/-- fill from the beginning: all tableaux are seen. -/
theorem fill_all {w0 w : World} {shape : List Int} {As : Option Addr} {ns cs : Nat} {n : Int} {s : S} {O : Nat → Prop} (C : ClosT Try.prog F caps w0.heap.size S inv step go fit okp) (hs : RI w0 As ns shape) (hns : ns ≤ 1000000000) (hp : Pos shape) (hdd : Desc shape) (hn : 0 ≤ n ∧ n ≤ 1000) (hm8 : ∀ j, nth shape j ≤ 1000)
    (hi : inv w s O) (hb : Below w0.heap.size w0 w) (hfit : fit s (tabs shape n).length) (hok : ∀ q ∈ tabs shape n, okp q) :
    Calls Try.prog 63 #[.slice As ns cs, .int .i64 n, .slice none 0 0, .func (.func F) #[] caps] w (fun e w' => e = .returned (.bool (seeT step go s (tabs shape n)).2) ∧ ∃ O' : Nat → Prop, inv w' (seeT step go s (tabs shape n)).1 O' ∧ (∀ k, O' k → O k ∨ w.heap.size ≤ k) ∧ Kept O w w') := by
  rw [← goA_nil] at hfit hok ⊢
  refine ((fill_go C hs hns hp hdd hn hm8 (stepsR shape)).1 w s O [] none 0 0 [] hi ⟨OF.nil_ _ _ _ _ _, by simp [Value.ownBlock], by simp⟩ hb (FS.nil_ _ _) rfl hfit hok).mono ?_
  rintro e w' ⟨he, O', h1, h2, h3⟩
  exact ⟨he, O', h1, h2, h3.mono fun k h => h.elim id fun h => by simp [Value.ownBlock] at h⟩
end
end Go.Proofs.Ytgbojgmmingfdaa

/- Small shapes: of a size of at most 8. -/
namespace Go.Proofs.Ytgbojgmmingfdaa
open Go.RowKit

def smallB (l : List Int) : Bool := isShapeB l && decide (sumL l ≤ 8)
theorem smallB_shape {l : List Int} (h : smallB l = true) : isShapeB l = true ∧ sumL l ≤ 8 := by simpa [smallB] using h
theorem smallB_no {l : List Int} (h : isShapeB l = false) : smallB l = false := by simp [smallB, h]
theorem smallB_yes {l : List Int} (h : isShapeB l = true) : smallB l = decide (sumL l ≤ 8) := by simp [smallB, h]
set_option maxHeartbeats 1000000 in
theorem l4Small_any {A : Option Addr} {n : Nat} {l : List Int} {w : World} (c : Nat) (hx : RI w A n l) (hn : n ≤ 1000000000) :
    Calls Try.prog 123 #[.slice A n c] w (Gives w (.bool (smallB l))) := by
  have HIS : Hid (∀ W, RI W A n l → Calls Try.prog 57 #[.slice A n c] W (Gives W (.bool (isShapeB l)))) := fun W h => sIsShape_any _ h hn
  rcases hs : isShapeB l with _ | _
  · have HO := Lib.hid (smallB_no hs)
    go_enter Try.func123, Try.ntmps123
    go_wp2_with (go_at_call 57; (with_reducible refine (HIS.out _ ?_).mono ?_); (first | exact hx | exact hx.drewN _); rintro e w' ⟨rfl, q0, rfl⟩)
    go_ret
    rw [HO.out]
    exact ⟨rfl, (by first | exact ⟨_, rfl⟩ | exact ⟨_, (World.drewN_drewN _ _ _).symm⟩ | exact Quiet.refl _ | (simp only [World.drewN_drewN]; exact ⟨_, rfl⟩))⟩
  · have HO := Lib.hid (smallB_yes hs)
    have hlen : n ≤ 16 := by have h2 := hs; simp only [isShapeB, Bool.and_eq_true, decide_eq_true_eq] at h2; rw [← hx.1]; exact h2.1
    have HSS : Hid (∀ W, RI W A n l → Calls Try.prog 58 #[.slice A n c] W (Gives W (.int .i64 (sumL l)))) := fun W h => sSum_any _ h (small_shape hs) (by omega)
    obtain ⟨S, hS⟩ : ∃ S, S = sumL l := ⟨_, rfl⟩
    have HSE := Lib.hid hS
    rw [← hS] at HSS HO
    clear hS
    go_enter Try.func123, Try.ntmps123
    go_wp2_with (first | (go_at_call 57; (with_reducible refine (HIS.out _ ?_).mono ?_); (first | exact hx | exact hx.drewN _); rintro e w' ⟨rfl, q0, rfl⟩) | (go_at_call 58; (with_reducible refine (HSS.out _ ?_).mono ?_); (first | exact hx | exact hx.drewN _); rintro e w' ⟨rfl, q1, rfl⟩))
    go_ret
    rw [HO.out]
    exact ⟨rfl, (by first | exact ⟨_, rfl⟩ | exact ⟨_, (World.drewN_drewN _ _ _).symm⟩ | exact Quiet.refl _ | (simp only [World.drewN_drewN]; exact ⟨_, rfl⟩))⟩
set_option maxHeartbeats 1000000 in
theorem iSmall_any {A : Option Addr} {n : Nat} {l : List Int} {w : World} (c : Nat) (hx : RI w A n l) (hn : n ≤ 1000000000) :
    Calls Try.prog 62 #[.slice A n c] w (Gives w (.bool (smallB l))) := by
  have HIS : Hid (∀ W, RI W A n l → Calls Try.prog 92 #[.slice A n c] W (Gives W (.bool (isShapeB l)))) := fun W h => iIsShape_any _ h hn
  rcases hs : isShapeB l with _ | _
  · have HO := Lib.hid (smallB_no hs)
    go_enter Try.func62, Try.ntmps62
    go_wp2_with (go_at_call 92; (with_reducible refine (HIS.out _ ?_).mono ?_); (first | exact hx | exact hx.drewN _); rintro e w' ⟨rfl, q0, rfl⟩)
    go_ret
    rw [HO.out]
    exact ⟨rfl, (by first | exact ⟨_, rfl⟩ | exact ⟨_, (World.drewN_drewN _ _ _).symm⟩ | exact Quiet.refl _ | (simp only [World.drewN_drewN]; exact ⟨_, rfl⟩))⟩
  · have HO := Lib.hid (smallB_yes hs)
    have hlen : n ≤ 16 := by have h2 := hs; simp only [isShapeB, Bool.and_eq_true, decide_eq_true_eq] at h2; rw [← hx.1]; exact h2.1
    have HSS : Hid (∀ W, RI W A n l → Calls Try.prog 93 #[.slice A n c] W (Gives W (.int .i64 (sumL l)))) := fun W h => iSum_any _ h (small_shape hs) (by omega)
    obtain ⟨S, hS⟩ : ∃ S, S = sumL l := ⟨_, rfl⟩
    have HSE := Lib.hid hS
    rw [← hS] at HSS HO
    clear hS
    go_enter Try.func62, Try.ntmps62
    go_wp2_with (first | (go_at_call 92; (with_reducible refine (HIS.out _ ?_).mono ?_); (first | exact hx | exact hx.drewN _); rintro e w' ⟨rfl, q0, rfl⟩) | (go_at_call 93; (with_reducible refine (HSS.out _ ?_).mono ?_); (first | exact hx | exact hx.drewN _); rintro e w' ⟨rfl, q1, rfl⟩))
    go_ret
    rw [HO.out]
    exact ⟨rfl, (by first | exact ⟨_, rfl⟩ | exact ⟨_, (World.drewN_drewN _ _ _).symm⟩ | exact Quiet.refl _ | (simp only [World.drewN_drewN]; exact ⟨_, rfl⟩))⟩
end Go.Proofs.Ytgbojgmmingfdaa

/- SchurPoly of the program. -/
namespace Go.Proofs.Ytgbojgmmingfdaa
open Go.RowKit Go.Maps Go.MapKept Go.WideMaps

theorem PM.same {H : Type} {w w' : World} {b n : Nat} {acc : List (List Int × Int)} (h : PM H w b n acc) (e : w'.heap[b]? = w.heap[b]?) : PM H w' b n acc := by
  obtain ⟨D, ⟨es, clock, hb, r⟩, hr⟩ := h
  exact ⟨D, ⟨es, clock, e.trans hb, r⟩, hr⟩
theorem PM.made {H : Type} (w : World) : PM H (w.alloc (.map #[] 0)) w.heap.size 0 [] :=
  ⟨.map [], World.ownsMap_made w _ _ _, ⟨fun e he => by simp [DataW.atKey, cf], fun e he => by simp [Maps.has, cf]⟩, fun i j _ hj => by simp at hj⟩
theorem ent_of {P : Program} {f : FuncId} {fn : Func} {c : Code} (hf : P.funcs[f]? = some fn) (hname : (fn.name == "runtime.NumGoroutine") = false) (hb : fn.body = some c) (args : Array Value) (w : World) :
    (callFunc f args).run P w = .ok (.enter f args) w := ent_tm hf hname hb args w
theorem Kept.of_grown {O : Nat → Prop} {w w' : World} {b : Nat} (h : w.grownBy w' (some b)) (hO : O b) : Kept O w w' :=
  ⟨h.os, h.tape, h.output, h.size, fun k hk hn => h.block k hk fun e => hn (by injection e with e; rw [e]; exact hO)⟩
/-- What the closure's variable holds. -/
structure SchI (H : Type) (w0 : World) (gf b : Nat) (w : World) (s : List (List Int × Int) × Nat) (O : Nat → Prop) : Prop where
  own : ∀ k, O k ↔ k = gf ∨ k = b
  bf : BK w gf 74 [.map (some b)]
  pm : PM H w b s.2 s.1
  bel : Below w0.heap.size w0 w
def stepS (s : List (List Int × Int) × Nat) (t : List (List Int)) : List (List Int × Int) × Nat := (addP s.1 (wtE t) 1, s.2 + 1)
theorem foldl_stepS : ∀ (ts : List (List (List Int))) (s : List (List Int × Int) × Nat), ts.foldl stepS s = (accT s.1 ts, s.2 + ts.length)
  | [], s => by simp [accT]
  | t :: ts, s => by
    rw [List.foldl_cons, foldl_stepS ts]
    simp only [stepS, List.length_cons]
    rw [show s.2 + 1 + ts.length = s.2 + (ts.length + 1) by omega]
    rfl
theorem cellsI_set (l : List Int) (j : Nat) (y : Int) : (cellsI l).set j (.int .i64 y) = cellsI (l.set j y) := by simp [cellsI, List.map_set]
theorem expE_take {e r : List Int} {j : Nat} (h : j < r.length) : expE e (r.take (j + 1)) = bumpE (expE e (r.take j)) (nth r j) := by
  unfold expE
  rw [take_succ_nth h, List.foldl_append]; rfl
theorem wt_take {t : List (List Int)} {j : Nat} (h : j < t.length) : (t.take (j + 1)).foldl expE zeroE = expE ((t.take j).foldl expE zeroE) (nthL t j) := by
  rw [List.take_succ_eq_append_getElem h, List.foldl_append]
  have : nthL t j = t[j] := by simp [nthL, List.getD, h]
  rw [this]; rfl
theorem take_sum (T : List (List Int)) (k : Nat) : ((T.take k).map List.length).sum ≤ (T.map List.length).sum := by
  conv => rhs; rw [← List.take_append_drop k T, List.map_append, List.sum_append]
  omega
theorem row_sum : ∀ {T : List (List Int)} {k : Nat}, k < T.length → (nthL T k).length ≤ (T.map List.length).sum
  | [], k, h => by simp at h
  | r :: T, 0, _ => by simp [nthL]
  | r :: T, k + 1, h => by
    have := row_sum (T := T) (k := k) (by simpa using h)
    have e : nthL (r :: T) (k + 1) = nthL T k := by simp [nthL]
    rw [e, List.map_cons, List.sum_cons]; omega
theorem nthL_memL {T : List (List Int)} {k : Nat} (h : k < T.length) : nthL T k ∈ T := by
  unfold nthL
  rw [List.getD_eq_getElem?_getD, List.getElem?_eq_getElem h]
  exact List.getElem_mem _
/-- What is counted on the way. -/
theorem e_way {T : List (List Int)} {k q : Nat} (h7 : ∀ r ∈ T, ∀ x ∈ r, 0 ≤ x ∧ x < 7) (hk : k < T.length) (h8 : (T.map List.length).sum ≤ 8) :
    (expE ((T.take k).foldl expE zeroE) ((nthL T k).take q)).length = 7 ∧ ∀ j, 0 ≤ nth (expE ((T.take k).foldl expE zeroE) ((nthL T k).take q)) j ∧ nth (expE ((T.take k).foldl expE zeroE) ((nthL T k).take q)) j ≤ 16 := by
  have h1 := key_tab (T.take k) zeroE rfl fun r hr => h7 r (List.mem_of_mem_take hr)
  have h2 := key_row ((nthL T k).take q) _ h1.1 fun x hx => h7 _ (nthL_memL hk) x (List.mem_of_mem_take hx)
  have h3 := tab_in (T.take k) (e := zeroE) (N := 0) fun j => by rw [zeroE_at]; omega
  have h4 := row_in ((nthL T k).take q) h3
  refine ⟨h2.1, fun j => ?_⟩
  have h5 := h4 j
  have h6 := take_sum T k
  have h9 := row_sum hk
  have h10 : ((nthL T k).take q).length ≤ (nthL T k).length := by rw [List.length_take]; omega
  omega
set_option maxRecDepth 100000 in
set_option maxHeartbeats 1000000 in
theorem seeS_any {H : Type} {w0 w : World} {gf b : Nat} {s : List (List Int × Int) × Nat} {O : Nat → Prop} {T : List (List Int)} {A : Option Addr} {m c : Nat} {cells : List Value} (hg : w0.heap.size ≤ gf ∧ w0.heap.size ≤ b ∧ gf ≠ b) (hi : SchI H w0 gf b w s O)
    (hs : s.2 ≤ 1000000000) (hcf : ∀ e, 0 ≤ cf s.1 e ∧ cf s.1 e ≤ 1000000000) (hT : TO w0.heap.size w O (.slice A m c) T cells) (h7 : ∀ r ∈ T, ∀ x ∈ r, 0 ≤ x ∧ x < 7) (hsz : (T.map List.length).sum ≤ 8) (hTl : T.length ≤ 1000) :
    Calls Try.prog 64 #[.slice A m c, .pointer (some ⟨gf, 0, none⟩)] w (fun e w' => e = .returned (.bool true) ∧ ∃ O' : Nat → Prop, SchI H w0 gf b w' (stepS s T) O' ∧ (∀ k, O' k → O k ∨ w.heap.size ≤ k) ∧ Kept O w w') := by
  have hm : T.length = m := by
    obtain ⟨A', n', c', e, h1, -⟩ := OS.form hT.1
    rw [h1, (slice_inj e).2.1]
  have HT := Lib.hid hT
  have HI := Lib.hid hi
  have H7 := Lib.hid h7
  have HG := Lib.hid hg
  obtain ⟨w1, e1⟩ : ∃ W, W = w.alloc (.cells (cellsI zeroE).toArray 76) := ⟨_, rfl⟩
  have b1 : Below w.heap.size w w1 := by rw [e1]; exact (Below.refl _ _).alloc (Nat.le_refl _) _
  have k1 : Hid (BK w1 w.heap.size 76 (cellsI zeroE)) := by rw [e1]; exact BK.new w _ _
  have B1 := Lib.hid b1
  have E1 := Lib.hid e1
  obtain ⟨g, hgg⟩ : ∃ g, g = w.heap.size := ⟨_, rfl⟩
  have HGG := Lib.hid hgg
  have H8 := Lib.hid hsz
  clear hT hi h7 b1 e1 hsz
  go_enter Try.func64, Try.ntmps64
  go_wp2
  have hal : w.alloc (.cells #[.int .i64 0, .int .i64 0, .int .i64 0, .int .i64 0, .int .i64 0, .int .i64 0, .int .i64 0] 76) = w1 := E1.out.symm
  rw [hal, ← hgg]
  clear hal
  rw [← HGG.out] at k1
  clear hgg
  go_loopw [6, 8, 12] (fun _ _ i wr => ∃ k : Nat, k ≤ m ∧ i = .int .i64 (k : Int) ∧ Hid (BK wr g 76 (cellsI ((T.take k).foldl expE zeroE)) ∧ Below w.heap.size w wr)) (fun _ _ i _ => m - (intOf i).toNat)
  case atStart => exact ⟨0, Nat.zero_le _, rfl, by simpa using k1.out, B1.out⟩
  case round =>
    obtain ⟨k, hk, rfl, HX⟩ := hrel
    by_cases hlt : k < m
    · obtain ⟨ad, A', n', c', rfl, x1, -, x2, -⟩ := OS.cell HT.out.1 (k := k) hlt
      have y1 := one_cell HX.out.2 x1
      have X2 := Lib.hid x2
      have hrl : Hid ((nthL T k).length = n') := x2.ri.1
      have hn8 : n' ≤ 8 := by rw [← hrl.out]; exact Nat.le_trans (row_sum (by omega)) H8.out
      have HW : Hid (∀ q, (expE ((T.take k).foldl expE zeroE) ((nthL T k).take q)).length = 7 ∧ ∀ j, 0 ≤ nth (expE ((T.take k).foldl expE zeroE) ((nthL T k).take q)) j ∧ nth (expE ((T.take k).foldl expE zeroE) ((nthL T k).take q)) j ≤ 16) := fun q => e_way H7.out (by omega) H8.out
      obtain ⟨e0, he0⟩ : ∃ e0, e0 = (T.take k).foldl expE zeroE := ⟨_, rfl⟩
      rw [← he0] at HX HW
      have HE0 := Lib.hid he0
      obtain ⟨wo, hwo⟩ : ∃ wo : World, wo = wr := ⟨_, rfl⟩
      rw [← hwo] at HX y1 ⊢
      clear he0 x2 x1 hwo
      go_wp2
      go_loopw [8, 18] (fun _ j wq => ∃ q : Nat, q ≤ n' ∧ j = .int .i64 (q : Int) ∧ Hid (BK wq g 76 (cellsI (expE e0 ((nthL T k).take q))) ∧ Below w.heap.size w wq)) (fun _ j _ => n' - (intOf j).toNat)
      case atStart => exact ⟨0, Nat.zero_le _, rfl, HX.out⟩
      case round =>
        obtain ⟨q, hq, rfl, HQ⟩ := hrel
        by_cases hqt : q < n'
        · obtain ⟨ad2, rfl, z1⟩ := (X2.out.ri.below HQ.out.2).cell hqt
          obtain ⟨X, hX⟩ : ∃ X : Nat, nth (nthL T k) q = (X : Int) := ⟨(nth (nthL T k) q).toNat, by have := (H7.out _ (nthL_memL (k := k) (by omega)) _ (nth_mem (l := nthL T k) (k := q) (by rw [hrl.out]; exact hqt))).1; omega⟩
          have hX7 : X < 7 := by have := (H7.out _ (nthL_memL (k := k) (by omega)) _ (nth_mem (l := nthL T k) (k := q) (by rw [hrl.out]; exact hqt))).2; omega
          rw [hX] at z1
          obtain ⟨y, hy⟩ : ∃ y, y = nth (expE e0 ((nthL T k).take q)) X := ⟨_, rfl⟩
          have hyb := (HW.out q).2 X
          have z2 : wr.cell? ⟨g, X, none⟩ = some (.int .i64 y) := HQ.out.1.cell (by rw [hy]; exact cellsI_at _ _ (by rw [(HW.out q).1]; exact hX7))
          have z3 : wr.frozen? ⟨g, X, none⟩ = false := HQ.out.1.frozen
          rw [← hy] at hyb
          have HS : Hid (BK (wr.setCell ⟨g, X, none⟩ (.int .i64 (y + 1))) g 76 (cellsI (expE e0 ((nthL T k).take (q + 1)))) ∧ Below w.heap.size w (wr.setCell ⟨g, X, none⟩ (.int .i64 (y + 1)))) := by
            refine ⟨?_, HQ.out.2.setCell (by rw [HGG.out]; exact Nat.le_refl _) _⟩
            have h := HQ.out.1.set X (.int .i64 (y + 1))
            rw [cellsI_set] at h
            rw [expE_take (by rw [hrl.out]; exact hqt), hX, bumpE, Int.toNat_natCast, ← hy]
            exact h
          have hw : IntKind.i64.wrap (y + 1) = y + 1 := IntWalk.i64_in _ (by omega)
          clear hy hX
          go_wp2
          go_roundw
          case rel => exact ⟨q + 1, by omega, by go_num, HS.out⟩
          case measure => simp [intOf]; omega
        · obtain rfl : q = n' := by omega
          have HR : Hid (BK wr g 76 (cellsI ((T.take (k + 1)).foldl expE zeroE)) ∧ Below w.heap.size w wr) := by
            have h := HQ.out
            rw [List.take_of_length_le (by rw [hrl.out]; exact Nat.le_refl _), HE0.out, ← wt_take (by omega)] at h
            exact h
          go_wp2
          go_roundw
          case rel => exact ⟨k + 1, by omega, by go_num, HR.out⟩
          case measure => simp [intOf]; omega
    · obtain rfl : k = m := by omega
      have hall : (T.take k).foldl expE zeroE = wtE T := by rw [List.take_of_length_le (by omega)]; rfl
      rw [hall] at HX
      have hk7 := (key_tab T zeroE rfl H7.out).1
      have ht8 := tab_in T (e := zeroE) (N := 0) fun j => by rw [zeroE_at]; omega
      have hE : Ex7 (wtE T) := ⟨hk7, fun x hx => by
        obtain ⟨j, hj, rfl⟩ := List.getElem_of_mem hx
        have h1 := ht8 j
        have h2 := H8.out
        have e : nth (wtE T) j = (wtE T)[j] := nth_lt hj
        rw [show nth (T.foldl expE zeroE) j = (wtE T)[j] from e] at h1
        exact WalkArith.wf_i64 (by omega)⟩
      obtain ⟨ev, hev⟩ : ∃ ev, ev = wtE T := ⟨_, rfl⟩
      rw [← hev] at HX hE
      have HEV := Lib.hid hev
      have HE := Lib.hid hE
      have HPM : Hid (PM H wr b s.2 s.1) := HI.out.pm.same (HX.out.2.block b HI.out.pm.lt)
      have HBF : Hid (BK wr gf 74 [.map (some b)]) := HI.out.bf.same (HX.out.2.block gf HI.out.bf.lt)
      have c0 := HBF.out.cell (j := 0) rfl
      obtain ⟨e0, e1, e2, e3, e4, e5, e6, rfl⟩ := hE.seven
      have q0 := HX.out.1.cell (j := 0) rfl
      have q1 := HX.out.1.cell (j := 1) rfl
      have q2 := HX.out.1.cell (j := 2) rfl
      have q3 := HX.out.1.cell (j := 3) rfl
      have q4 := HX.out.1.cell (j := 4) rfl
      have q5 := HX.out.1.cell (j := 5) rfl
      have q6 := HX.out.1.cell (j := 6) rfl
      have HC : Hid (Calls Try.prog 65 #[.map (some b), .agg #[.int .i64 e0, .int .i64 e1, .int .i64 e2, .int .i64 e3, .int .i64 e4, .int .i64 e5, .int .i64 e6], .int .i64 1] wr (fun r w' => r = .returned (.tuple #[]) ∧ PM H w' b (s.2 + 1) (addP s.1 [e0, e1, e2, e3, e4, e5, e6] 1) ∧ wr.grownBy w' (some b))) :=
        addM_any HPM.out (by unfold maxLen; omega) HE.out (by have := hcf [e0, e1, e2, e3, e4, e5, e6]; omega)
      clear hE hev hall hk7 ht8
      go_wp2_with (go_at_call 65; refine HC.out.mono ?_; rintro e w' ⟨rfl, p1, p2⟩)
      go_ret
      refine ⟨rfl, O, ⟨HI.out.own, HBF.out.same (p2.block gf HBF.out.lt fun e => HG.out.2.2 (Option.some.inj e)), ?_, HI.out.bel.trans ?_⟩, fun k h => .inl h, ?_⟩
      · rw [HEV.out] at p1; exact p1
      · exact (HX.out.2.mono HI.out.bel.size).grown p2 (Nat.le_trans HI.out.bel.size HX.out.2.size) fun k hk => by injection hk with hk; rw [← hk]; exact HG.out.2.1
      · exact (Kept.of_below HX.out.2).trans (fun k h => .inl h) (Kept.of_grown p2 ((HI.out.own b).2 (.inr rfl)))
/-- What the tableaux must be. -/
def okT8 (T : List (List Int)) : Prop := (∀ r ∈ T, ∀ x ∈ r, 0 ≤ x ∧ x < 7) ∧ (T.map List.length).sum ≤ 8 ∧ T.length ≤ 1000
theorem schurC (H : Type) {w0 : World} {gf b : Nat} (hg : w0.heap.size ≤ gf ∧ w0.heap.size ≤ b ∧ gf ≠ b) :
    ClosT Try.prog 64 #[.pointer (some ⟨gf, 0, none⟩)] w0.heap.size (List (List Int × Int) × Nat) (SchI H w0 gf b) stepS (fun _ _ => true) (fun s m => s.2 + m ≤ 1000000000 ∧ AccOk s.1 s.2) okT8 where
  ent := ent_of Try.func64 (by kernel_rfl) rfl
  ge hi k hk := by
    rcases (hi.own k).1 hk with rfl | rfl
    · exact ⟨hg.1, hi.bf.lt⟩
    · exact ⟨hg.2.1, hi.pm.lt⟩
  keep hi hk := ⟨hi.own, hi.bf.same (hk.block _ hi.bf.lt fun h => h.2 ((hi.own _).2 (.inl rfl))), hi.pm.same (hk.block _ hi.pm.lt fun h => h.2 ((hi.own _).2 (.inr rfl))), hi.bel.trans (hk.low (fun k h => h.1) hi.bel.size)⟩
  next := fun {s p m} h hp _ => by
    obtain ⟨h1, h2⟩ := h
    have h3 := (key_tab p zeroE rfl hp.1).1
    have h4 := tab_in p (e := zeroE) (N := 0) fun j => by rw [zeroE_at]; omega
    have h5 := hp.2.1
    refine ⟨by simp only [stepS]; omega, ?_⟩
    have h6 := h2.add (s := wtE p) (by omega) h3 fun j => by have := h4 j; unfold wtE; omega
    exact h6
  less h hm := by have := h.1; exact ⟨by omega, h.2⟩
  call hi hf hp hT := by
    have h1 := hf.1
    exact seeS_any hg hi (by omega) (fun e => by have := hf.2.cf_le (by omega) e; omega) hT hp.1 hp.2.1 hp.2.2
end Go.Proofs.Ytgbojgmmingfdaa
