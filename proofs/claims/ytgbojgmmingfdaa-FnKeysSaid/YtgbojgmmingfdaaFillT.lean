/- fill of the program: all tableaux are seen. -/
import Derived.Test.YtgbojgmmingfdaaSchurL
import Derived.Test.YtgbojgmmingfdaaDraw
import Derived.BigRegion
import Derived.Deep.RegionHeld3
import Derived.Test.YtgbojgmmingfdaaSArg
import Derived.Deep.DeepCutAuto
import Derived.Deep.CutRange
namespace Go.Proofs.Ytgbojgmmingfdaa
open Go.RowKit

section
variable {F : FuncId} {caps : Array Value} {S : Type} {inv : World → S → (Nat → Prop) → Prop} {step : S → List (List Int) → S} {go : S → List (List Int) → Bool} {fit : S → Nat → Prop} {okp : List (List Int) → Prop}
set_option maxRecDepth 100000 in
set_option maxHeartbeats 1000000 in
theorem fillA_step {w0 : World} {shape : List Int} {As : Option Addr} {ns cs : Nat} {n : Int} (C : ClosT Try.prog F caps w0.heap.size S inv step go fit okp) (hs : RI w0 As ns shape) (hns : ns ≤ 1000000000) (hp : Pos shape) (d : Nat)
    (ih : ∀ d', d' < d → FillB w0 shape As ns cs n C d') : FillA w0 shape As ns cs n C d := by
  intro w s O T A m c cells hi hT hb hF hd hfit hok
  have hm : T.length = m := by
    obtain ⟨A', n', c', e, h1, -⟩ := OS.form hT.1
    rw [h1, (slice_inj e).2.1]
  have hL := hs.1
  have hsw := hs.below hb
  have HT := Lib.hid hT
  have HI := Lib.hid hi
  have HF := Lib.hid hF
  have HB := Lib.hid hb
  have HENT := Lib.hid C.ent
  have hle := hF.le
  by_cases hend : T.length = shape.length
  · have hone : goA shape n T = [T] := goA_end (by omega)
    rw [hone, seeT_one]
    have HOK := Lib.hid (hok T (by rw [hone]; simp))
    have HFIT : Hid (fit s (0 + 1)) := by rw [hone] at hfit; exact hfit
    have HCL : Hid (∀ W, Quiet w W → Calls Try.prog F (#[.slice A m c] ++ caps) W (fun e w' => e = .returned (.bool (go s T)) ∧ ∃ O' : Nat → Prop, inv w' (step s T) O' ∧ (∀ k, O' k → O k ∨ w.heap.size ≤ k) ∧ Kept O w w')) := fun W q => by
      have bq : Below w.heap.size w W := q.below
      refine (C.call (C.keep HI.out (Kept.of_below bq)) HFIT.out HOK.out (HT.out.below bq)).mono ?_
      rintro e w' ⟨he, O', h1, h2, h3⟩
      exact ⟨he, O', h1, fun k hk => (h2 k hk).imp id fun h => Nat.le_trans bq.size h, (Kept.of_below bq).trans (fun k h => .inl h) h3⟩
    clear hone hok hfit ih hi hT hF hd
    obtain ⟨z, hz⟩ : ∃ z, z = go s T := ⟨_, rfl⟩
    have HZ := Lib.hid hz
    rw [← hz] at HCL ⊢
    clear hz
    go_enter Try.func63, Try.ntmps63
    rcases Nat.eq_zero_or_pos m with h0 | h0
    · subst h0
      obtain rfl : ns = 0 := by omega
      go_wp2
      go_quiet (fail)
      go_wp2
      rw [HENT.out]
      refine (HCL.out _ (by first | exact ⟨_, rfl⟩ | exact ⟨_, (World.drewN_drewN _ _ _).symm⟩ | exact Quiet.refl _ | (simp only [World.drewN_drewN]; exact ⟨_, rfl⟩))).mono ?_
      rintro e w' ⟨rfl, O', h1, h2, h3⟩
      go_wp2
      go_ret
      exact ⟨rfl, O', h1, h2, h3.mono fun k h => .inl h⟩
    · obtain ⟨M, rfl⟩ : ∃ M, m = M + 1 := ⟨m - 1, by omega⟩
      obtain rfl : ns = M + 1 := by omega
      obtain ⟨ad, A1, n1, c1, rfl, x1, -, x3, -⟩ := OS.cell HT.out.1 (k := M) (by omega)
      have e1 : (n1 : Int) = nth shape M := by rw [← x3.ri.1]; exact HF.out.row M (by omega)
      obtain ⟨ad2, rfl, x2⟩ := hsw.cell (show M < M + 1 by omega)
      rw [← e1] at x2
      clear x3 e1
      have hneg : decide ((M : Int) < 0) = false := decide_eq_false (by omega)
      go_wp2
      go_quiet (fail)
      go_wp2
      rw [HENT.out]
      refine (HCL.out _ (by first | exact ⟨_, rfl⟩ | exact ⟨_, (World.drewN_drewN _ _ _).symm⟩ | exact Quiet.refl _ | (simp only [World.drewN_drewN]; exact ⟨_, rfl⟩))).mono ?_
      rintro e w' ⟨rfl, O', h1, h2, h3⟩
      go_wp2
      go_ret
      exact ⟨rfl, O', h1, h2, h3.mono fun k h => .inl h⟩
  · have hlt : T.length < shape.length := by omega
    have hpos := hp T.length hlt
    obtain ⟨k, hk⟩ : ∃ k : Nat, nth shape T.length = ((k + 1 : Nat) : Int) := ⟨(nth shape T.length - 1).toNat, by omega⟩
    have hrow : goA shape n T = goB shape n T [] (k + 1) := by rw [goA_row hlt, hk, Int.toNat_natCast]
    rw [hrow] at hfit hok ⊢
    have hst := stepsR_drop hlt
    have HGE := Lib.hid (C.ge hi)
    have HN : Hid (∀ (W0 : World) (u : Value) (v' : Value) (w' : World), Below w.heap.size w W0 → (∀ k, u.ownBlock = some k → w.heap.size ≤ k) → OS w' w0.heap.size w0.heap.size v' (T ++ [[]]) (cells ++ [u]) → W0.grownBy w' (Value.slice A m c).ownBlock →
        (v'.ownBlock = (Value.slice A m c).ownBlock ∨ ∀ k, v'.ownBlock = some k → W0.heap.size ≤ k) → Calls Try.prog 63 #[.slice As ns cs, .int .i64 n, v', .func (.func F) #[] caps] w' (PostT inv O (.slice A m c) w (seeT step go s (goB shape n T [] (k + 1))))) := fun W0 u v' w' b0 hu ho hg hv => by
      have hlow := HB.out.size
      have kw : Kept (fun k => (Value.slice A m c).ownBlock = some k) w w' := (Kept.of_below b0).trans (fun k h => .inl h) ⟨hg.os, hg.tape, hg.output, hg.size, fun k hk hn => hg.block k hk fun e => hn e.symm⟩
      have hsz := kw.size
      have hown : ∀ k, v'.ownBlock = some k → (Value.slice A m c).ownBlock = some k ∨ w.heap.size ≤ k := fun k hk => by
        rcases hv with hv | hv
        · exact .inl (by rw [← hv]; exact hk)
        · exact .inr (Nat.le_trans b0.size (hv k hk))
      have hO : ∀ k, (Value.slice A m c).ownBlock = some k ∨ w.heap.size ≤ k → ¬ O k := fun k h1 h2 => by
        rcases h1 with h1 | h1
        · exact HT.out.2.1 k h1 h2
        · have := (HGE.out k h2).2; omega
      obtain ⟨A', m', c', rfl, -⟩ := OS.form ho
      have hinv := C.keep HI.out (kw.mono fun k h1 => ⟨(OF.lt HT.out.1 k h1).1, HT.out.2.1 k h1⟩)
      have hto : TO w0.heap.size w' O (.slice A' m' c') (T ++ [[]]) (cells ++ [u]) := ⟨ho, fun k hk => hO k (hown k hk), fun u' hu' k hk => by
        rcases List.mem_append.1 hu' with hu' | hu'
        · exact HT.out.2.2 u' hu' k hk
        · rw [List.mem_singleton.1 hu'] at hk; exact hO k (.inr (hu k hk))⟩
      refine (ih _ (by omega) w' s O T [] k A' m' c' _ hinv hto (HB.out.trans (kw.low (fun k hk => (OF.lt HT.out.1 k hk).1) hlow)) HF.out hlt (by rw [hk]; simp) (by simp) rfl hfit hok).mono ?_
      rintro e w'' ⟨he, O', h1, h2, h3⟩
      refine ⟨he, O', h1, fun k hk => (h2 k hk).imp id fun h => Nat.le_trans hsz h, (kw.mono fun k h => .inr h).trans (fun k hk => ?_) h3⟩
      rcases hk with hk | hk
      · exact .inl (.inl hk)
      · exact (hown k hk).imp .inr id
    have hmN : m ≤ 1000000000 := by omega
    have hbase := hb.size
    have HB0 : Hid (∀ nq, Below w.heap.size w ((w.drewN nq).alloc (.cells #[] 3))) := fun nq => (below_drewN (Below.refl _ w) nq).alloc (Nat.le_refl _) _
    have HOU : Hid (∀ nq, OI ((w.drewN nq).alloc (.cells #[] 3)) w0.heap.size (.slice (some ⟨w.heap.size, 0, none⟩) 0 0) []) := fun nq => OI.lit (w.drewN nq) w0.heap.size [] 0 rfl hbase (by simp)
    have HOT : Hid (∀ nq, OS ((w.drewN nq).alloc (.cells #[] 3)) w0.heap.size w0.heap.size (.slice A m c) T cells) := fun nq => OS.below HT.out.1 (HB0.out nq)
    have HAP : Hid (∀ u' ∈ cells, u'.ownBlock = none ∨ u'.ownBlock ≠ (Value.slice (some ⟨w.heap.size, 0, none⟩) 0 0).ownBlock) := fun u' hu' => by
      rcases h : u'.ownBlock with _ | q
      · exact .inl rfl
      · refine .inr fun e => ?_
        have := (HT.out.1.2.1.ltC hu' q h).2
        simp [Value.ownBlock] at e
        omega
    have HL5 : Hid (T.length + 1 ≤ 1000000000000) := by show _ ≤ _; omega
    have HBS : Hid (∀ nq, w0.heap.size ≤ ((w.drewN nq).alloc (.cells #[] 3)).heap.size) := fun nq => Nat.le_trans hbase (HB0.out nq).size
    have HN2 : Hid (∀ (nq : Nat) (v' : Value) (w' : World), OS w' w0.heap.size w0.heap.size v' (T ++ [[]]) (cells ++ [.slice (some ⟨w.heap.size, 0, none⟩) 0 0]) → (((w.drewN nq).alloc (.cells #[] 3)).alloc (.cells #[.slice (some ⟨w.heap.size, 0, none⟩) 0 0] 22)).grownBy w' (Value.slice A m c).ownBlock →
        (v'.ownBlock = (Value.slice A m c).ownBlock ∨ v'.ownBlock = some (((w.drewN nq).alloc (.cells #[] 3)).heap.size + 1)) → Calls Try.prog 63 #[.slice As ns cs, .int .i64 n, v', .func (.func F) #[] caps] w' (PostT inv O (.slice A m c) w (seeT step go s (goB shape n T [] (k + 1))))) := fun nq v' w' ho hg hv => by
      refine HN.out _ (.slice (some ⟨w.heap.size, 0, none⟩) 0 0) v' w' ((HB0.out nq).alloc (HB0.out nq).size _) (fun k hk => by simp [Value.ownBlock] at hk; omega) ho hg (hv.imp id fun h k hk => ?_)
      rw [h] at hk
      injection hk with hk
      simp at hk ⊢
      omega
    clear hrow hfit hok ih hi hF hd hst hk hT hbase
    go_enter Try.func63, Try.ntmps63
    rcases Nat.eq_zero_or_pos m with h0 | h0
    · subst h0
      have hne : ((0 : Int) == (ns : Int)) = false := by simp; omega
      go_wp2
      go_quiet (fail)
      go_wp2_with (first | (at_builtin; refine wpAppS rfl _ _ rfl w0.heap.size w0.heap.size (.slice A 0 c) T cells (.slice (some ⟨w.heap.size, 0, none⟩) 0 0) [] rfl (by show Value.slice (some ⟨w.heap.size + 1, 0, none⟩) 1 1 = _; simp) (HOT.out _) (HOU.out _) HAP.out HL5.out (HBS.out _) ?_; intro v' w' k1 k2 k3) | (go_at_call 63; refine (HN2.out _ _ _ k1 k2 k3).mono ?_; rintro e w'' ⟨rfl, hpost⟩) | fail)
      go_ret
      exact ⟨rfl, hpost⟩
    · obtain ⟨M, rfl⟩ : ∃ M, m = M + 1 := ⟨m - 1, by omega⟩
      obtain ⟨ad, A1, n1, c1, rfl, x1, -, x3, -⟩ := OS.cell HT.out.1 (k := M) (by omega)
      have e1 : (n1 : Int) = nth shape M := by rw [← x3.ri.1]; exact HF.out.row M (by omega)
      obtain ⟨ad2, rfl, x2⟩ := hsw.cell (show M < ns by omega)
      rw [← e1] at x2
      have hne : ((M : Int) + 1 == (ns : Int)) = false := by simp; omega
      clear x3 e1
      have hneg : decide ((M : Int) < 0) = false := decide_eq_false (by omega)
      go_wp2
      go_quiet (fail)
      go_wp2_with (first | (at_builtin; refine wpAppS rfl _ _ rfl w0.heap.size w0.heap.size (.slice (some ad) (M + 1) c) T cells (.slice (some ⟨w.heap.size, 0, none⟩) 0 0) [] rfl (by show Value.slice (some ⟨w.heap.size + 1, 0, none⟩) 1 1 = _; simp) (HOT.out _) (HOU.out _) HAP.out HL5.out (HBS.out _) ?_; intro v' w' k1 k2 k3) | (go_at_call 63; refine (HN2.out _ _ _ k1 k2 k3).mono ?_; rintro e w'' ⟨rfl, hpost⟩) | fail)
      go_ret
      exact ⟨rfl, hpost⟩
end
end Go.Proofs.Ytgbojgmmingfdaa

/- fill of the program, in a row. -/
namespace Go.Proofs.Ytgbojgmmingfdaa
open Go.RowKit

theorem desc_nth : ∀ {ms : List Int}, Desc ms → ∀ i, nth ms (i + 1) ≤ nth ms i
  | [], _, i => Int.le_refl _
  | m :: ms, h, 0 => h.1
  | m :: ms, h, i + 1 => desc_nth (ms := ms) h.2.2 i
theorem upI_take {k n : Int} (h : k < n) : upI k (n - k).toNat = k :: upI (k + 1) (n - (k + 1)).toNat := by
  obtain ⟨m, hm⟩ : ∃ m : Nat, (n - k).toNat = m + 1 := ⟨(n - k).toNat - 1, by omega⟩
  rw [hm, upI, show (n - (k + 1)).toNat = m by omega]
/-- What is still to be seen from x on. -/
def goX (shape : List Int) (n : Int) (T : List (List Int)) (acc : List Int) (k : Nat) (x : Int) : List (List (List Int)) := (upI x (n - x).toNat).flatMap fun y => goB shape n T (acc ++ [y]) k
theorem goX_step {shape : List Int} {n : Int} {T : List (List Int)} {acc : List Int} {k : Nat} {x : Int} (h : x < n) : goX shape n T acc k x = goB shape n T (acc ++ [x]) k ++ goX shape n T acc k (x + 1) := by
  unfold goX
  rw [upI_take h, List.flatMap_cons]
theorem goX_end {shape : List Int} {n : Int} {T : List (List Int)} {acc : List Int} {k : Nat} {x : Int} (h : n ≤ x) : goX shape n T acc k x = [] := by
  unfold goX
  rw [show (n - x).toNat = 0 by omega]; rfl
theorem goX_all (shape : List Int) (n : Int) (T : List (List Int)) (acc : List Int) (k : Nat) : goB shape n T acc (k + 1) = goX shape n T acc k (lowR (prevOf shape T) acc) := goB_succ ..
section
variable {F : FuncId} {caps : Array Value} {S : Type} {inv : World → S → (Nat → Prop) → Prop} {step : S → List (List Int) → S} {go : S → List (List Int) → Bool} {fit : S → Nat → Prop} {okp : List (List Int) → Prop}
/-- What the calls inside the row's loop do. -/
def NextC (w0 : World) (shape : List Int) (As : Option Addr) (ns cs : Nat) (n : Int) (_ : ClosT Try.prog F caps w0.heap.size S inv step go fit okp) (T : List (List Int)) (acc : List Int) (k : Nat) : Prop :=
  ∀ (w : World) (s : S) (O : Nat → Prop) (x : Int) (A : Option Addr) (m c : Nat) (cells : List Value), inv w s O → TO w0.heap.size w O (.slice A m c) (T ++ [acc ++ [x]]) cells → Below w0.heap.size w0 w → 0 ≤ x → x < n →
    fit s (goB shape n T (acc ++ [x]) k).length → (∀ q ∈ goB shape n T (acc ++ [x]) k, okp q) →
    Calls Try.prog 63 #[.slice As ns cs, .int .i64 n, .slice A m c, .func (.func F) #[] caps] w (PostT inv O (.slice A m c) w (seeT step go s (goB shape n T (acc ++ [x]) k)))
set_option maxRecDepth 100000 in
set_option maxHeartbeats 1000000 in
theorem fillB_step {w0 : World} {shape : List Int} {As : Option Addr} {ns cs : Nat} {n : Int} (C : ClosT Try.prog F caps w0.heap.size S inv step go fit okp) (hs : RI w0 As ns shape) (hns : ns ≤ 1000000000) (hdd : Desc shape) (hn : 0 ≤ n ∧ n ≤ 1000) (hm8 : ∀ j, nth shape j ≤ 1000)
    (w : World) (s : S) (O : Nat → Prop) (T : List (List Int)) (acc : List Int) (k : Nat) (A : Option Addr) (m c : Nat) (cells : List Value) (hi : inv w s O) (hT : TO w0.heap.size w O (.slice A m c) (T ++ [acc]) cells) (hb : Below w0.heap.size w0 w) (hF : FS shape n T)
    (hlt : T.length < shape.length) (hlen : ((acc.length + (k + 1) : Nat) : Int) = nth shape T.length) (hacc : ∀ x ∈ acc, 0 ≤ x ∧ x < n) (hnext : NextC w0 shape As ns cs n C T acc k)
    (hfit : fit s (goB shape n T acc (k + 1)).length) (hok : ∀ q ∈ goB shape n T acc (k + 1), okp q) :
    Calls Try.prog 63 #[.slice As ns cs, .int .i64 n, .slice A m c, .func (.func F) #[] caps] w (PostT inv O (.slice A m c) w (seeT step go s (goB shape n T acc (k + 1)))) := by
  have hm : m = T.length + 1 := by
    obtain ⟨A', n', c', e, h1, -⟩ := OS.form hT.1
    rw [(slice_inj e).2.1, ← h1]; simp
  subst hm
  obtain ⟨R, hR⟩ : ∃ R, R = T.length := ⟨_, rfl⟩
  have hL := hs.1
  have hsw := hs.below hb
  obtain ⟨ad, A1, n1, c1, rfl, x1, -, x3, -⟩ := OS.cell hT.1 (k := R) (by omega)
  have hrow : nthL (T ++ [acc]) R = acc := by rw [hR]; exact nthL_snoc T acc
  rw [hrow] at x3
  have hn1 : acc.length = n1 := x3.ri.1
  obtain ⟨ad2, rfl, x2⟩ := hsw.cell (show R < ns by omega)
  rw [hR, ← hlen, ← hR, hn1] at x2
  obtain ⟨L1, hL1⟩ : ∃ L1, L1 = if acc.length = 0 then 0 else nth acc (acc.length - 1) := ⟨_, rfl⟩
  obtain ⟨Lo, hLo⟩ : ∃ Lo, Lo = lowR (prevOf shape T) acc := ⟨_, rfl⟩
  have hL1b : 0 ≤ L1 ∧ L1 ≤ n := by
    rw [hL1]
    split
    · omega
    · have := hacc _ (nth_mem (l := acc) (k := acc.length - 1) (by omega)); omega
  obtain ⟨Y, hY⟩ : ∃ Y, Y = nth (prevOf shape T) acc.length := ⟨_, rfl⟩
  have hLoY : Lo = max L1 (Y + 1) := by rw [hLo, hL1, hY]; rfl
  have hYb : -1 ≤ Y ∧ Y < n ∨ n = 0 ∧ Y = -1 := by
    by_cases h0 : T.length = 0
    · have : Y = -1 := by
        rw [hY, prevOf, if_pos h0, nth_lt (by rw [List.length_replicate, ← h0]; omega)]
        simp
      omega
    · left
      have h1 := hF.row (T.length - 1) (by omega)
      have h2 := desc_nth hdd (T.length - 1)
      rw [show T.length - 1 + 1 = T.length by omega] at h2
      have h3 : nthL T (T.length - 1) ∈ T := by
        unfold nthL
        rw [List.getD_eq_getElem?_getD, List.getElem?_eq_getElem (by omega)]
        exact List.getElem_mem _
      have h4 := hF.ent _ h3 _ (nth_mem (l := nthL T (T.length - 1)) (k := acc.length) (by omega))
      rw [hY, prevOf, if_neg h0]
      omega
  have hLob : 0 ≤ Lo ∧ Lo ≤ n := by omega
  have HI := Lib.hid hi
  have HF := Lib.hid hF
  have HB := Lib.hid hb
  have HX3 := Lib.hid x3
  have hQ : Hid (∀ i, nth shape (i + 1) ≤ nth shape i) := desc_nth hdd
  have hneg : decide ((R : Int) < 0) = false := decide_eq_false (by omega)
  have hn1b : n1 + (k + 1) ≤ 1000 := by have := hm8 T.length; omega
  have hne : ((n1 : Int) == ((n1 + (k + 1) : Nat) : Int)) = false := by simp; omega
  rw [← hR] at hT hlt hlen ⊢
  have HT := Lib.hid hT
  have HR := Lib.hid hR
  have HL1 := Lib.hid hL1
  have HLO := Lib.hid hLo
  have HY := Lib.hid hY
  have HLOY := Lib.hid hLoY
  have HYB := Lib.hid hYb
  have HN1 := Lib.hid hn1
  have HACC := Lib.hid hacc
  have HFIT := Lib.hid hfit
  have HOK := Lib.hid hok
  have HNEXT := Lib.hid hnext
  have HLEN := Lib.hid hlen
  clear hR hL1 hLo hY hLoY hYb hn1 hacc hfit hok hnext hrow hF hi hT hlen hm8 hdd x3
  go_enter Try.func63, Try.ntmps63
  go_wp2
  go_quiet (fail)
  go_upto_if 53 with fail
  go_cut [11] (fun v11 wx => v11 = .int .i64 L1 ∧ ∃ q, wx = w.drewN q)
  case first =>
    rcases Nat.eq_zero_or_pos n1 with h0 | h0
    · subst h0
      have hv : Value.int .i64 0 = .int .i64 L1 := by rw [HL1.out, if_pos HN1.out]
      have HV := Lib.hid hv
      clear hv
      go_wp2
      go_meet
      exact ⟨HV.out, _, rfl⟩
    · obtain ⟨N, rfl⟩ : ∃ N, n1 = N + 1 := ⟨n1 - 1, by omega⟩
      obtain ⟨ad3, rfl, y1⟩ := HX3.out.ri.cell (k := N) (by omega)
      have hv : nth acc N = L1 := by rw [HL1.out, HN1.out, if_neg (by omega)]; rfl
      rw [hv] at y1
      clear hv
      go_wp2
      go_meet
      exact ⟨rfl, _, rfl⟩
  case rest =>
    obtain ⟨rfl, q1, rfl⟩ := hcut
    go_upto_if 63 with fail
    go_cut [11] (fun v11 wx => v11 = .int .i64 Lo ∧ ∃ q, wx = w.drewN q)
    case first =>
      rcases Nat.eq_zero_or_pos R with h0 | h0
      · have hv : Value.int .i64 L1 = .int .i64 Lo := by
          have h1 : Y = -1 := by
            rw [HY.out, prevOf, if_pos (by rw [← HR.out, h0]), nth_lt (by have := HLEN.out; rw [List.length_replicate, ← h0]; omega)]
            simp
          have := HLOY.out
          have : L1 = Lo := by omega
          rw [this]
        have HV := Lib.hid hv
        clear hv
        subst h0
        go_wp2
        go_meet
        exact ⟨HV.out, _, rfl⟩
      · obtain ⟨Q, rfl⟩ : ∃ Q, R = Q + 1 := ⟨R - 1, by omega⟩
        have hTl := HR.out
        obtain ⟨ad5, A5, n5, c5, e5, y1, -, y3, -⟩ := OS.cell HT.out.1 (k := Q) (by omega)
        obtain rfl := Option.some.inj e5
        rw [nthL_app (by omega)] at y3
        have hpr : prevOf shape T = nthL T Q := by rw [prevOf, if_neg (by omega), ← hTl]; rfl
        have h5 : (n5 : Int) = nth shape Q := by rw [← y3.ri.1]; exact HF.out.row Q (by omega)
        have h6 := hQ.out Q
        have h7 := HLEN.out
        have hlt5 : n1 < n5 := by have := HN1.out; omega
        obtain ⟨ad6, rfl, y6⟩ := y3.ri.cell (k := n1) hlt5
        have hy : nth (nthL T Q) n1 = Y := by rw [HY.out, hpr, HN1.out]
        rw [hy] at y6
        have hv : ∀ z, z = Lo → Value.int .i64 z = .int .i64 Lo := fun z h => by rw [h]
        have HV := Lib.hid hv
        have hyb := HYB.out
        have HLY : Hid (∀ z, (z = if L1 < Y + 1 then Y + 1 else L1) → z = Lo) := fun z h => by rw [h, HLOY.out, Int.max_def]; split <;> split <;> omega
        clear hTl e5 y3 hpr h5 h6 h7 hy hv
        go_wp2
        all_goals go_meet
        all_goals exact ⟨HV.out _ (HLY.out _ (by split <;> omega)), _, rfl⟩
    case rest =>
      obtain ⟨rfl, q2, rfl⟩ := hcut
      go_wp2
      go_loopw [12, 13] (fun x _ wr => ∃ (z : Int) (s' : S) (O' : Nat → Prop), x = .int .i64 z ∧ Lo ≤ z ∧ z ≤ n ∧ Hid (inv wr s' O' ∧ (∀ q, O' q → O q ∨ w.heap.size ≤ q) ∧ Kept O w wr ∧ seeT step go s (goB shape n T acc (k + 1)) = seeT step go s' (goX shape n T acc k z) ∧ fit s' (goX shape n T acc k z).length ∧ ∀ q ∈ goX shape n T acc k z, okp q)) (fun x _ _ => (n - intOf x).toNat)
      case atStart =>
        have e := goX_all shape n T acc k
        rw [← HLO.out] at e
        refine ⟨Lo, s, O, rfl, Int.le_refl _, hLob.2, C.keep HI.out (Kept.of_below (below_drewN (Below.refl _ _) _)), fun q h => .inl h, Kept.of_below (below_drewN (Below.refl _ _) _), ?_, ?_, ?_⟩
        · rw [e]
        · rw [← e]; exact HFIT.out
        · rw [← e]; exact HOK.out
      case round =>
        obtain ⟨z, s', O', rfl, hz1, hz2, HX⟩ := hrel
        by_cases hz : z < n
        · obtain ⟨iv, hO', kw, hsee, hft, hk'⟩ := HX.out
          have HTO : Hid (TO w0.heap.size wr O' (.slice (some ad) (R + 1) c) (T ++ [acc]) cells) := HT.out.seen kw hO'
          obtain ⟨ad7, A7, n7, c7, e7, x7, u7, o7, -⟩ := OS.cell HTO.out.1 (k := R) (by omega)
          obtain rfl := Option.some.inj e7
          have hrow7 : nthL (T ++ [acc]) R = acc := by rw [HR.out]; exact nthL_snoc T acc
          rw [hrow7] at o7
          have hsz : w0.heap.size ≤ wr.heap.size := Nat.le_trans HB.out.size kw.size
          have HBW : Hid (Below w0.heap.size w0 wr) := HB.out.trans (kw.low (fun q hq => (C.ge HI.out q hq).1) HB.out.size)
          have hTl : (T ++ [acc]).length = R + 1 := by rw [List.length_append, ← HR.out]; rfl
          have HSZ := Lib.hid hsz
          have HINV := Lib.hid iv
          have U7 := Lib.hid u7
          have O7 := Lib.hid o7
          have HRL := Lib.hid hTl
          have hgx := goX_step (shape := shape) (T := T) (acc := acc) (k := k) hz
          rw [hgx] at hsee hft hk'
          obtain ⟨sN, bN, hres⟩ : ∃ a b, (a, b) = seeT step go s' (goB shape n T (acc ++ [z]) k) := ⟨_, _, rfl⟩
          rw [seeT_app, ← hres] at hsee
          have HRES := Lib.hid hres
          have HNX : Hid (∀ (W : World) (m' c' : Nat) (A' : Option Addr) (cs' : List Value), Below wr.heap.size wr W → TO w0.heap.size W O' (.slice A' m' c') (T ++ [acc ++ [z]]) cs' → (∀ q, (Value.slice A' m' c').ownBlock = some q → wr.heap.size ≤ q) →
              Calls Try.prog 63 #[.slice (some ad2) ns cs, .int .i64 n, .slice A' m' c', .func (.func F) #[] caps] W (fun e w' => e = .returned (.bool bN) ∧ ∃ O'' : Nat → Prop, inv w' sN O'' ∧ (∀ q, O'' q → O q ∨ w.heap.size ≤ q) ∧ Kept O w w')) := fun W m' c' A' cs' bW hto hq => by
            have kW : Kept O w W := kw.trans (fun q h => .inl h) (Kept.of_below bW)
            refine (HNEXT.out W s' O' z A' m' c' cs' (C.keep iv (Kept.of_below bW)) hto (HBW.out.trans (bW.mono HBW.out.size)) (by omega) hz (C.less hft (by rw [List.length_append]; omega)) fun q hq => hk' q (List.mem_append_left _ hq)).mono ?_
            rintro e w' ⟨he, O'', h1, h2, h3⟩
            rw [← hres] at he h1
            refine ⟨he, O'', h1, fun q h => ?_, kW.trans (fun q h => ?_) h3⟩
            · rcases h2 q h with h2 | h2
              · exact hO' q h2
              · exact .inr (Nat.le_trans kW.size h2)
            · rcases h with h | h
              · exact (hO' q h).imp id fun h => h
              · exact .inr (Nat.le_trans kw.size (hq q h))
          have HSEE := Lib.hid hsee
          have HFT := Lib.hid hft
          have HKK := Lib.hid hk'
          clear e7 u7 o7 hrow7 hTl hgx hsee hft hk' hres kw iv hO'
          go_wp2_with fail
          refine (cloneS_any HTO.out.1 (by omega) HSZ.out).mono ?_
          rintro e wa ⟨A8, n8, c8, rfl, o8, f8, b8⟩
          obtain ⟨g8, cc8, hv8, hb8, hl8⟩ := OF.shape o8 (by rw [HRL.out]; omega)
          obtain ⟨rfl, rfl, rfl⟩ := slice_inj hv8
          have hg8 : wr.heap.size ≤ g8 := f8 g8 rfl
          have y7 := one_cell b8 x7
          have O8 : Hid (OS wa w0.heap.size w0.heap.size (.slice (some ⟨g8, 0, none⟩) (T ++ [acc]).length c8) (T ++ [acc]) cells) := o8
          have B8 := Lib.hid b8
          have G8 := Lib.hid hg8
          rw [HRL.out] at O8 ⊢
          have HCL : Hid (∀ W, Below wa.heap.size wa W → Calls Try.prog 134 #[.slice A7 n7 c7] W (Makes W acc)) := fun W bW => clone_any _ ((O7.out.ri.below B8.out).below bW) (by have := O7.out.ri.1; have := HN1.out; omega)
          clear o8 f8 hv8 hb8 b8 hg8 x7
          have HAC : Hid (acc.length + 1 ≤ 1000000000000) := by show _ ≤ _; have := HN1.out; omega
          go_wp2_with (first
            | (go_at_call 134; (with_reducible refine (HCL.out _ ?_).mono ?_); (exact Below.refl _ _); rintro e wb ⟨A9, n9, c9, rfl, o9, r9, -, b9⟩; have B9 := Lib.hid b9; have O9 := Lib.hid o9; clear o9 r9 b9)
            | (at_builtin; refine wpApp1 rfl _ _ rfl wa.heap.size (.slice A9 n9 c9) acc z rfl O9.out rfl HAC.out B9.out.size ?_; intro v10 wd o10 g10 k10; have BD : Hid (Below wa.heap.size wa wd) := B9.out.grown g10 B9.out.size (fun k hk => (O9.out.lt k hk).1)
               obtain ⟨A10, n10, c10, rfl, -⟩ := o10.form
               have OD : Hid (OF wd w0.heap.size w0.heap.size 22 1 (.slice (some ⟨g8, 0, none⟩) (R + 1) c8) (R + 1) (rows (T ++ [acc])) cells) := (by have h := OS.below O8.out BD.out; unfold OS at h; rw [HRL.out] at h; exact h)
               have zc : wd.cell? ⟨g8, R, none⟩ = some (.slice A7 n7 c7) := (OF.cellF OD.out (by omega)).trans U7.out
               have zf : wd.frozen? ⟨g8, R, none⟩ = false := OF.frozenF OD.out R
               have hap : ∀ u' ∈ cells, u'.ownBlock = none ∨ u'.ownBlock ≠ (Value.slice A10 n10 c10).ownBlock := fun u' hu' => FRs.apart HTO.out.1.2.1 (FRs.one_ (x := .inr (acc ++ [z])) o10) B8.out.size u' hu' _ (by simp)
               have HST : Hid (OS (wd.setCell ⟨g8, R, none⟩ (.slice A10 n10 c10)) w0.heap.size w0.heap.size (.slice (some ⟨g8, 0, none⟩) (R + 1) c8) (T ++ [acc ++ [z]]) (cells.set R (.slice A10 n10 c10))) := (by
                 have h := (OF.setRow OD.out (by decide) (m := R) (by rw [rows_len, HRL.out]; omega) (o10.mono (by have := HSZ.out; have := B8.out.size; omega)) hap).1
                 rw [rows_set] at h
                 have e : (T ++ [acc]).set R (acc ++ [z]) = T ++ [acc ++ [z]] := by rw [HR.out]; simp
                 rw [e] at h
                 unfold OS
                 rw [show (T ++ [acc ++ [z]]).length = R + 1 by rw [List.length_append, ← HR.out]; rfl]
                 exact h)
               have HBB : Hid (Below wr.heap.size wr (wd.setCell ⟨g8, R, none⟩ (.slice A10 n10 c10))) := (B8.out.trans (BD.out.mono B8.out.size)).setCell G8.out _
               have HOWN : Hid (∀ u ∈ cells.set R (.slice A10 n10 c10), ∀ q, u.ownBlock = some q → ¬ O' q) := (by
                 intro u hu q hq hO
                 rcases List.mem_or_eq_of_mem_set hu with hu | rfl
                 · exact HTO.out.2.2 u hu q hq hO
                 · have h1 := (o10.lt q hq).1
                   have h2 := (C.ge HINV.out q hO).2
                   have h3 := B8.out.size
                   omega)
               have HCF : Hid (Calls Try.prog 63 #[.slice (some ad2) ns cs, .int .i64 n, .slice (some ⟨g8, 0, none⟩) (R + 1) c8, .func (.func F) #[] caps] (wd.setCell ⟨g8, R, none⟩ (.slice A10 n10 c10)) (fun e w' => e = .returned (.bool bN) ∧ ∃ O'' : Nat → Prop, inv w' sN O'' ∧ (∀ q, O'' q → O q ∨ w.heap.size ≤ q) ∧ Kept O w w')) :=
                 HNX.out _ _ _ _ _ HBB.out ⟨HST.out, fun q hq hO => by
                   simp [Value.ownBlock] at hq
                   subst hq
                   have h2 := (C.ge HINV.out _ hO).2
                   have h3 := G8.out
                   omega, HOWN.out⟩ fun q hq => by simp [Value.ownBlock] at hq; rw [← hq]; exact G8.out
               clear o10 g10 k10 hap HST HBB HOWN)
            | (go_at_call 63; refine HCF.out.mono ?_; rintro e w11 ⟨rfl, O'', i11, q11, k11⟩; have HZ : Hid (inv w11 sN O'' ∧ (∀ q, O'' q → O q ∨ w.heap.size ≤ q) ∧ Kept O w w11) := ⟨i11, q11, k11⟩; clear i11 q11 k11)
            | fail)
          · have hbN : bN = false := by rename_i hnb; simpa using hnb
            subst hbN
            have hend : Hid ((seeT step go s (goB shape n T acc (k + 1))) = (sN, false)) := by
              show _ = _
              rw [HSEE.out]; rfl
            go_ret
            refine ⟨?_, O'', ?_, HZ.out.2.1, HZ.out.2.2.mono fun q h => .inl h⟩
            · rw [hend.out]; rfl
            · rw [hend.out]; exact HZ.out.1
          · have hbN : bN = true := by rename_i hnb; simpa using hnb
            subst hbN
            go_roundw
            case rel =>
              refine ⟨z + 1, sN, O'', by go_num, by omega, by omega, HZ.out.1, HZ.out.2.1, HZ.out.2.2, ?_, ?_, fun q hq => HKK.out q (List.mem_append_right _ hq)⟩
              · rw [HSEE.out]; rfl
              · have h := HFT.out
                rw [List.length_append] at h
                have h2 := C.all (goX shape n T acc k (z + 1)).length (goB shape n T (acc ++ [z]) k) s' (fun q hq => HKK.out q (List.mem_append_left _ hq)) h (by rw [← HRES.out])
                rw [← HRES.out] at h2
                exact h2
            case measure => simp [intOf]; omega
        · have hend : Hid ((seeT step go s (goB shape n T acc (k + 1))) = (s', true)) := by
            show _ = _
            rw [HX.out.2.2.2.1, goX_end (by omega), seeT]
          go_wp2
          go_ret
          refine ⟨?_, O', ?_, HX.out.2.1, HX.out.2.2.1.mono fun q h => .inl h⟩
          · rw [hend.out]; rfl
          · rw [hend.out]; exact HX.out.1
theorem fill_go {w0 : World} {shape : List Int} {As : Option Addr} {ns cs : Nat} {n : Int} (C : ClosT Try.prog F caps w0.heap.size S inv step go fit okp) (hs : RI w0 As ns shape) (hns : ns ≤ 1000000000) (hp : Pos shape) (hdd : Desc shape) (hn : 0 ≤ n ∧ n ≤ 1000) (hm8 : ∀ j, nth shape j ≤ 1000) (d : Nat) :
    FillA w0 shape As ns cs n C d ∧ FillB w0 shape As ns cs n C d := by
  induction d using Nat.strongRecOn with
  | _ d ih =>
    refine ⟨fillA_step C hs hns hp d fun d' hd' => (ih d' hd').2, ?_⟩
    intro w s O T acc k A m c cells hi hT hb hF hlt hlen hacc hd hfit hok
    refine fillB_step C hs hns hdd hn hm8 w s O T acc k A m c cells hi hT hb hF hlt hlen hacc ?_ hfit hok
    intro w' s' O' x A' m' c' cells' hi' hT' hb' hx1 hx2 hfit' hok'
    have hacc' : ∀ y ∈ acc ++ [x], 0 ≤ y ∧ y < n := fun y hy => by
      rcases List.mem_append.1 hy with hy | hy
      · exact hacc y hy
      · rw [List.mem_singleton.1 hy]; exact ⟨hx1, hx2⟩
    rcases k with _ | k
    · rw [goB_zero] at hfit' hok' ⊢
      have hl : (((acc ++ [x]).length : Nat) : Int) = nth shape T.length := by rw [List.length_append]; simpa using hlen
      exact (ih (stepsR (shape.drop (T.length + 1))) (by omega)).1 w' s' O' (T ++ [acc ++ [x]]) A' m' c' cells' hi' hT' hb' (hF.snoc hlt hl hacc') (by rw [List.length_append]; rfl) hfit' hok'
    · exact (ih (k + 1 + stepsR (shape.drop (T.length + 1))) (by omega)).2 w' s' O' T (acc ++ [x]) k A' m' c' cells' hi' hT' hb' hF hlt (by rw [List.length_append, List.length_singleton]; omega) hacc' rfl hfit' hok'
/-- fill from the beginning: all tableaux are seen. -/
theorem fill_all {w0 w : World} {shape : List Int} {As : Option Addr} {ns cs : Nat} {n : Int} {s : S} {O : Nat → Prop} (C : ClosT Try.prog F caps w0.heap.size S inv step go fit okp) (hs : RI w0 As ns shape) (hns : ns ≤ 1000000000) (hp : Pos shape) (hdd : Desc shape) (hn : 0 ≤ n ∧ n ≤ 1000) (hm8 : ∀ j, nth shape j ≤ 1000)
    (hi : inv w s O) (hb : Below w0.heap.size w0 w) (hfit : fit s (tabs shape n).length) (hok : ∀ q ∈ tabs shape n, okp q) :
    Calls Try.prog 63 #[.slice As ns cs, .int .i64 n, .slice none 0 0, .func (.func F) #[] caps] w (fun e w' => e = .returned (.bool (seeT step go s (tabs shape n)).2) ∧ ∃ O' : Nat → Prop, inv w' (seeT step go s (tabs shape n)).1 O' ∧ (∀ k, O' k → O k ∨ w.heap.size ≤ k) ∧ Kept O w w') := by
  rw [← goA_nil] at hfit hok ⊢
  refine ((fill_go C hs hns hp hdd hn hm8 (stepsR shape)).1 w s O [] none 0 0 [] hi ⟨OF.nil_ _ _ _ _ _, by simp [Value.ownBlock], by simp⟩ hb (FS.nil_ _ _) rfl hfit hok).mono ?_
  rintro e w' ⟨he, O', h1, h2, h3⟩
  exact ⟨he, O', h1, h2, h3.mono fun k h => h.elim id fun h => by simp [Value.ownBlock] at h⟩
end
end Go.Proofs.Ytgbojgmmingfdaa
