/- l1Swap of the reference, swapped of the statements. -/
import Derived.Test.YtgbojgmmingfdaaExch
import Derived.Deep.CutBlock
import Derived.Test.YtgbojgmmingfdaaShapes
import Derived.Test.YtgbojgmmingfdaaPerms
import Derived.Test.YtgbojgmmingfdaaRedP
namespace Go.Proofs.Ytgbojgmmingfdaa
open Go.RowKit

set_option maxRecDepth 100000 in
set_option maxHeartbeats 2000000 in
theorem l1Swap_any {A : Option Addr} {n : Nat} {l : List Int} {w : World} (c : Nat) (a b : Nat) (hx : RI w A n l) (hn : n ≤ 1000000000) (ha : a < n) (hb : b < n) (hab : a < b) :
    Calls Try.prog 118 #[.slice A n c, .int .i64 (a : Int), .int .i64 (b : Int)] w (Makes w (swapL l a b)) := by
  have HCL : Hid (Calls Try.prog 117 #[.slice A n c] w (Makes w l)) := l1Ints_any c hx hn
  have HLn : Hid (l.length = n) := hx.1
  have HX := Lib.hid hx
  clear hx
  go_enter Try.func118, Try.ntmps118
  go_upto_region 2 with (go_at_call 117; refine HCL.out.mono ?_; rintro e w1 ⟨A1, n1, c1, rfl, o1, r1, ⟨cp1, le1⟩, b1⟩)
  obtain rfl : n1 = n := r1.1.symm.trans HLn.out
  obtain ⟨g, rfl⟩ : ∃ g, A1 = some ⟨g, 0, none⟩ := by
    rcases o1.2 with ⟨he, hl⟩ | ⟨g, cap, cur, he, _⟩
    · injection he with h1 h2 h3
      omega
    · injection he with h1 h2 h3
      exact ⟨g, h1⟩
  have hg : w.heap.size ≤ g := (o1.lt g rfl).1
  obtain ⟨ad, rfl, _⟩ := HX.out.cell (k := a) ha
  obtain ⟨x, hx⟩ : ∃ x, x = nth l a := ⟨_, rfl⟩
  obtain ⟨y, hy⟩ : ∃ y, y = nth l b := ⟨_, rfl⟩
  obtain ⟨r1', r2⟩ := o1.stored a y
  obtain ⟨r3, r4⟩ := r1'.stored b x
  have hB1 : Below w.heap.size w (w1.setCell ⟨g, a, none⟩ (.int .i64 y)) := b1.grown r2 b1.size fun k hk => by injection hk; omega
  have hc0 : w1.cell? (ad.add b) = some (.int .i64 y) := by
    obtain ⟨ad', e, hc⟩ := (HX.out.below b1).cell hb
    obtain rfl := Option.some.inj e
    rw [hy]; exact hc
  have hc1 : (w1.setCell ⟨g, a, none⟩ (.int .i64 y)).cell? (ad.add a) = some (.int .i64 x) := by
    obtain ⟨ad', e, hc⟩ := (HX.out.below hB1).cell ha
    obtain rfl := Option.some.inj e
    rw [hx]; exact hc
  have hadb : ad.add b = ⟨ad.block, ad.off + b, none⟩ := by unfold Addr.add; rw [if_neg (by omega)]
  have z1 := o1.cellAt (j := a) (by omega)
  have z0 := r1'.cellAt (j := b) (by omega)
  have f1 := o1.frozenAt a
  have f0 := r1'.frozenAt b
  have HF : Hid (OI ((w1.setCell ⟨g, a, none⟩ (.int .i64 y)).setCell ⟨g, b, none⟩ (.int .i64 x)) w.heap.size (.slice (some ⟨g, 0, none⟩) n1 c1) (swapL l a b) ∧ Below w.heap.size w ((w1.setCell ⟨g, a, none⟩ (.int .i64 y)).setCell ⟨g, b, none⟩ (.int .i64 x))) := by
    refine ⟨?_, grown_two b1 r2 r4 hg⟩
    rw [swapL, ← hx, ← hy]
    exact r3
  have han : (a : Int) < (n1 : Int) := by omega
  have hbn : (b : Int) < (n1 : Int) := by omega
  have hb0 : b < n1 := hb
  have ha0 : a < n1 := ha
  have h0a : (0 : Int) ≤ (a : Int) := by omega
  have h0b : (0 : Int) ≤ (b : Int) := by omega
  have hne : a ≠ b := by omega
  have hne2 : b ≠ a := by omega
  have HL1 : Hid ((swapL l a b).length = n1) := (swapL_len l a b).trans HLn.out
  clear r1 r1' r2 r3 r4 hx hy o1 b1 hg cp1 le1 hB1 hadb
  have HC1 := Lib.hid hc1
  have HZ0 := Lib.hid z0
  have HF0 := Lib.hid f0
  clear hc1 z0 f0
  go_upto_region 3 with (fail)
  obtain ⟨W1, hW1⟩ : ∃ W, W = w1.setCell ⟨g, a, none⟩ (.int .i64 y) := ⟨_, rfl⟩
  rw [← hW1] at HC1 HZ0 HF0 HF ⊢
  have hc1 := HC1.out
  have z0 := HZ0.out
  have f0 := HF0.out
  clear hW1 z1 f1 hc0
  go_wp2_with fail
  go_ret
  exact Makes.of HF.out.1 HF.out.2 (by rw [HL1.out]; omega)
set_option maxRecDepth 100000 in
set_option maxHeartbeats 2000000 in
theorem lswapped_any {A : Option Addr} {n : Nat} {l : List Int} {w : World} (c : Nat) (a b : Nat) (hx : RI w A n l) (hn : n ≤ 1000000000) (ha : a < n) (hb : b < n) (hab : a < b) :
    Calls Try.prog 46 #[.slice A n c, .int .i64 (a : Int), .int .i64 (b : Int)] w (Makes w (swapL l a b)) := by
  have HLn : Hid (l.length = n) := hx.1
  have HX := Lib.hid hx
  clear hx
  go_enter Try.func46, Try.ntmps46
  go_upto_region 2 with (at_builtin; refine wpAppI rfl _ _ rfl w.heap.size (.slice (some ⟨w.heap.size, 0, none⟩) 0 0) [] l A n c rfl rfl (by exact OI.lit _ _ [] 0 rfl (Nat.le_refl _) (by simp)) (by exact HX.out.alloc _) (by simp; omega) (by simp) ?_; intro v' w1 h1 h2 h3)
  rw [List.nil_append] at h1
  obtain ⟨A1, n1, c1, rfl, r1, -, -⟩ := h1.form
  have o1 : OI w1 w.heap.size (.slice A1 n1 c1) l := h1
  have b1 : Below w.heap.size w w1 := ((Below.refl _ _).alloc (Nat.le_refl _) _).grown h2 (by simp) (by simp [Value.ownBlock])
  clear h1 h2 h3
  obtain rfl : n1 = n := r1.1.symm.trans HLn.out
  obtain ⟨g, rfl⟩ : ∃ g, A1 = some ⟨g, 0, none⟩ := by
    rcases o1.2 with ⟨he, hl⟩ | ⟨g, cap, cur, he, _⟩
    · injection he with h1 h2 h3
      omega
    · injection he with h1 h2 h3
      exact ⟨g, h1⟩
  have hg : w.heap.size ≤ g := (o1.lt g rfl).1
  obtain ⟨ad, rfl, _⟩ := HX.out.cell (k := a) ha
  obtain ⟨x, hx⟩ : ∃ x, x = nth l a := ⟨_, rfl⟩
  obtain ⟨y, hy⟩ : ∃ y, y = nth l b := ⟨_, rfl⟩
  obtain ⟨r1', r2⟩ := o1.stored a y
  obtain ⟨r3, r4⟩ := r1'.stored b x
  have hB1 : Below w.heap.size w (w1.setCell ⟨g, a, none⟩ (.int .i64 y)) := b1.grown r2 b1.size fun k hk => by injection hk; omega
  have hc0 : w1.cell? (ad.add b) = some (.int .i64 y) := by
    obtain ⟨ad', e, hc⟩ := (HX.out.below b1).cell hb
    obtain rfl := Option.some.inj e
    rw [hy]; exact hc
  have hc1 : (w1.setCell ⟨g, a, none⟩ (.int .i64 y)).cell? (ad.add a) = some (.int .i64 x) := by
    obtain ⟨ad', e, hc⟩ := (HX.out.below hB1).cell ha
    obtain rfl := Option.some.inj e
    rw [hx]; exact hc
  have hadb : ad.add b = ⟨ad.block, ad.off + b, none⟩ := by unfold Addr.add; rw [if_neg (by omega)]
  have z1 := o1.cellAt (j := a) (by omega)
  have z0 := r1'.cellAt (j := b) (by omega)
  have f1 := o1.frozenAt a
  have f0 := r1'.frozenAt b
  have HF : Hid (OI ((w1.setCell ⟨g, a, none⟩ (.int .i64 y)).setCell ⟨g, b, none⟩ (.int .i64 x)) w.heap.size (.slice (some ⟨g, 0, none⟩) n1 c1) (swapL l a b) ∧ Below w.heap.size w ((w1.setCell ⟨g, a, none⟩ (.int .i64 y)).setCell ⟨g, b, none⟩ (.int .i64 x))) := by
    refine ⟨?_, grown_two b1 r2 r4 hg⟩
    rw [swapL, ← hx, ← hy]
    exact r3
  have han : (a : Int) < (n1 : Int) := by omega
  have hbn : (b : Int) < (n1 : Int) := by omega
  have hb0 : b < n1 := hb
  have ha0 : a < n1 := ha
  have h0a : (0 : Int) ≤ (a : Int) := by omega
  have h0b : (0 : Int) ≤ (b : Int) := by omega
  have hne : a ≠ b := by omega
  have hne2 : b ≠ a := by omega
  have HL1 : Hid ((swapL l a b).length = n1) := (swapL_len l a b).trans HLn.out
  clear r1 r1' r2 r3 r4 hx hy o1 b1 hg hB1 hadb
  have HC1 := Lib.hid hc1
  have HZ0 := Lib.hid z0
  have HF0 := Lib.hid f0
  clear hc1 z0 f0
  go_upto_region 3 with (fail)
  obtain ⟨W1, hW1⟩ : ∃ W, W = w1.setCell ⟨g, a, none⟩ (.int .i64 y) := ⟨_, rfl⟩
  rw [← hW1] at HC1 HZ0 HF0 HF ⊢
  have hc1 := HC1.out
  have z0 := HZ0.out
  have f0 := HF0.out
  clear hW1 z1 f1 hc0
  go_wp2_with fail
  go_ret
  exact Makes.of HF.out.1 HF.out.2 (by rw [HL1.out]; omega)
end Go.Proofs.Ytgbojgmmingfdaa

/- Permutations: the inverse, and the exchange of two places, as the program does them. -/
namespace Go.Proofs.Ytgbojgmmingfdaa
open Go.RowKit

theorem sub_len : ∀ (l m : List Int), l.Nodup → (∀ x ∈ l, x ∈ m) → l.length ≤ m.length
  | [], _, _, _ => Nat.zero_le _
  | a :: l, m, h, hs => by
    rw [List.nodup_cons] at h
    have ha := hs a (by simp)
    have h1 := sub_len l (m.erase a) h.2 fun x hx => (List.mem_erase_of_ne (fun e => h.1 (by rw [← e]; exact hx))).2 (hs x (List.mem_cons_of_mem _ hx))
    rw [List.length_erase_of_mem ha] at h1
    have h2 : 0 < m.length := List.length_pos_of_mem ha
    rw [List.length_cons]
    omega
theorem prm_of {w : List Int} (h : permB w = true) : Prm w := by
  have hr : ∀ i, i < w.length → 0 ≤ nth w i ∧ nth w i < w.length := fun i hi => permB_range h hi
  have h0 := h
  unfold permB at h
  rw [Bool.and_eq_true] at h
  have hlt : ∀ i j, i < j → j < w.length → nth w i ≠ nth w j := fun i j hij hj e => by
    have h1 := allB_at h.2 hj
    unfold permAt at h1
    rw [Bool.and_eq_true, Bool.not_eq_true'] at h1
    have h2 := h1.2
    unfold hasB at h2
    rw [decide_eq_false_iff_not] at h2
    exact h2 ⟨i, by rw [List.length_take]; omega, by rw [nth_take hij]; exact e⟩
  have hinj : ∀ i j, i < w.length → j < w.length → nth w i = nth w j → i = j := fun i j hi hj e => by
    rcases Nat.lt_trichotomy i j with hij | hij | hij
    · exact absurd e (hlt i j hij hj)
    · exact hij
    · exact absurd e.symm (hlt j i hij hi)
  refine ⟨hr, hinj, fun x h1 h2 => ?_⟩
  by_cases hm : x ∈ w
  · obtain ⟨j, hj, e⟩ := List.getElem_of_mem hm
    exact ⟨j, hj, by rw [nth_lt hj]; exact e⟩
  · exfalso
    have hnd : w.Nodup := by
      rw [List.nodup_iff_pairwise_ne, List.pairwise_iff_getElem]
      intro i j hi hj hij
      rw [← nth_lt hi, ← nth_lt hj]
      exact hlt i j hij hj
    have hsub : ∀ y ∈ w, y ∈ (gen (fun i => (i : Int)) w.length).erase x := fun y hy => by
      refine (List.mem_erase_of_ne (fun e => hm (by rw [← e]; exact hy))).2 ?_
      obtain ⟨j, hj, e⟩ := List.getElem_of_mem hy
      have hy2 := hr j hj
      rw [nth_lt hj, e] at hy2
      exact List.mem_map.2 ⟨y.toNat, List.mem_range.2 (by omega), by omega⟩
    have h3 := sub_len w _ hnd hsub
    have hx : x ∈ gen (fun i => (i : Int)) w.length := List.mem_map.2 ⟨x.toNat, List.mem_range.2 (by omega), by omega⟩
    rw [List.length_erase_of_mem hx, gen_len] at h3
    have := permB_size h0
    omega
theorem swapL_swN : ∀ (j : Nat) (l : List Int), j + 1 < l.length → swapL l j (j + 1) = swN j l
  | _, [], h => by simp at h
  | 0, [a], h => by simp at h
  | 0, a :: b :: r, _ => rfl
  | j + 1, x :: r, h => by
    have h1 : j + 1 < r.length := by simpa using h
    rw [swN, ← swapL_swN j r h1]
    rfl
set_option maxHeartbeats 1000000 in
theorem iInv_any {A : Option Addr} {n : Nat} {l : List Int} {w : World} (c : Nat) (hx : RI w A n l) (hp : permB l = true) :
    Calls Try.prog 192 #[.slice A n c] w (Makes w (invB l)) := by
  have HL : Hid (l.length = n) := hx.1
  have HP : Hid (Prm l) := prm_of hp
  have hsz := permB_size hp
  rw [HL.out] at hsz
  have HX := Lib.hid hx
  have HIS : Hid (Calls Try.prog 94 #[.slice A n c] w (GivesB w (.bool true))) := by
    have h := isPerm_any (w := w) c hx (by omega)
    rw [hp] at h
    exact h
  clear hp hx
  go_enter Try.func192, Try.ntmps192
  go_wp2_with (first
    | (go_at_call 94; refine HIS.out.mono ?_; rintro e w1 ⟨rfl, b1⟩)
    | (at_make; refine wpMake rfl _ _ rfl n _ _ rfl rfl rfl rfl (by omega) ?_; intro w2 o2 b2 s2)
    | fail)
  obtain ⟨G, hG⟩ : ∃ G, G = w1.heap.size := ⟨_, rfl⟩
  rw [← hG] at o2 s2 ⊢
  have g2 : Below w.heap.size w w2 := bnext b1 b2 b1.size
  have HGG : Hid (w.heap.size ≤ G) := by show w.heap.size ≤ G; rw [hG]; exact b1.size
  clear b1 b2 s2 hG
  go_loopw [4, 5, 14] (fun _ _ i wr => ∃ (k : Nat) (o : List Int), k ≤ n ∧ i = .int .i64 (k : Int) ∧ Hid (OI wr G (.slice (some ⟨G, 0, none⟩) n n) o ∧ Below w.heap.size w wr ∧ ∀ i, i < k → nth o (nth l i).toNat = i)) (fun _ _ i _ => n - (intOf i).toNat)
  case atStart => exact ⟨0, _, Nat.zero_le _, rfl, o2, g2, fun i hi => by omega⟩
  case round =>
    clear o2 g2
    obtain ⟨k, o, hk, rfl, HY⟩ := hrel
    by_cases hlt : k < n
    · obtain ⟨ad, rfl, z0⟩ := (HX.out.below HY.out.2.1).cell hlt
      have hr := HP.out.rng k (by rw [HL.out]; exact hlt)
      rw [HL.out] at hr
      obtain ⟨p, hpp⟩ : ∃ p : Nat, nth l k = (p : Int) := ⟨(nth l k).toNat, by omega⟩
      rw [hpp] at z0 hr
      have HPP := Lib.hid hpp
      have hoc := HY.out.1.cellAt (j := p) (by omega)
      have hof := HY.out.1.frozenAt p
      have HS : Hid (OI (wr.setCell ⟨G, p, none⟩ (.int .i64 (k : Int))) G (.slice (some ⟨G, 0, none⟩) n n) (o.set p k) ∧ Below w.heap.size w (wr.setCell ⟨G, p, none⟩ (.int .i64 (k : Int))) ∧ ∀ i, i < k + 1 → nth (o.set p k) (nth l i).toNat = i) := by
        refine ⟨(HY.out.1.stored p k).1, HY.out.2.1.setCell HGG.out _, fun i hi => ?_⟩
        by_cases h : i = k
        · subst h
          rw [HPP.out, Int.toNat_natCast, nth_set_eq]
          have := HY.out.1.len
          omega
        · rw [nth_set_ne, HY.out.2.2 i (by omega)]
          intro e
          have hi2 := HP.out.rng i (by rw [HL.out]; omega)
          exact h (HP.out.inj i k (by rw [HL.out]; omega) (by rw [HL.out]; exact hlt) (by rw [HPP.out]; omega))
      have hp0 : p < n := by omega
      clear hpp
      go_wp2
      go_roundw
      case rel => exact ⟨k + 1, _, by omega, by go_num, HS.out⟩
      case measure => simp [intOf]; omega
    · obtain rfl : k = n := by omega
      go_wp2
      go_ret
      have e : o = invB l := by
        have hol := HY.out.1.len
        refine ext_nth (by rw [invB_len, HL.out, hol]) fun j hj => ?_
        rw [hol] at hj
        rw [nth_invB (by rw [HL.out]; exact hj)]
        have hi := idx_lt HP.out (x := (j : Int)) (by rw [HL.out]; omega)
        have h2 := HY.out.2.2 _ (by rw [← HL.out]; exact hi.1)
        rw [hi.2, Int.toNat_natCast] at h2
        exact h2
      rw [← e]
      exact Makes.of (HY.out.1.mono HGG.out) HY.out.2.1 (by rw [HY.out.1.len]; omega)
end Go.Proofs.Ytgbojgmmingfdaa
