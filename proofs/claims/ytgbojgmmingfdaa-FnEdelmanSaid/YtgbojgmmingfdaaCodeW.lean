/- l1Code, l1Length, DescentsOf of the reference. -/
import Derived.Test.YtgbojgmmingfdaaPlain
import Derived.Test.YtgbojgmmingfdaaSPerm
import Derived.Test.YtgbojgmmingfdaaRedP
import Derived.Test.YtgbojgmmingfdaaShapes
import Derived.Deep.QuietTactic
import Derived.BigQuiet
import Derived.BigRegion
import Derived.Deep.DeepCutAuto
import Derived.Deep.CutRange
import Derived.Deep.OwnRows
import Derived.Test.YtgbojgmmingfdaaRevL
import Derived.Test.YtgbojgmmingfdaaSwapS
import Derived.Test.YtgbojgmmingfdaaBegW
import Derived.Test.YtgbojgmmingfdaaWords
namespace Go.Proofs.Ytgbojgmmingfdaa
open Go.RowKit

theorem made_OI2 (w : World) (n : Nat) (hn : n ≤ 1000000000) : OI (w.alloc (.cells (madeCells #[Value.int .i64 0] n) 3)) w.heap.size (.slice (some ⟨w.heap.size, 0, none⟩) n n) (List.replicate n 0) := by
  have e : (madeCells #[Value.int .i64 0] n).toList = cellsI (List.replicate n 0) := by
    have := toList_madeCells_one (.int .i64 0) n
    rw [this]
    simp [cellsI]
  have e2 : madeCells #[Value.int .i64 0] n = (cellsI (List.replicate n 0)).toArray := by rw [← e]
  rw [e2]
  exact OI.lit w w.heap.size (List.replicate n 0) n (by simp) (Nat.le_refl _) (by simp; omega)
theorem dnC_snoc (x y : Int) (l : List Int) : dnC x (l ++ [y]) = dnC x l + if y < x then 1 else 0 := by
  unfold dnC
  rw [List.filter_append, List.length_append]
  by_cases h : y < x <;> simp [h]
/-- How many numbers behind place i and ahead of place j are less than that at i. -/
def cdT (l : List Int) (i j : Nat) : Nat := dnC (nth l i) ((l.take j).drop (i + 1))
theorem cdT_start (l : List Int) (i : Nat) : cdT l i (i + 1) = 0 := by
  unfold cdT
  rw [List.drop_eq_nil_of_le (by rw [List.length_take]; omega)]
  rfl
theorem cdT_next {l : List Int} {i j : Nat} (h : i + 1 ≤ j) (hj : j < l.length) : cdT l i (j + 1) = cdT l i j + if nth l j < nth l i then 1 else 0 := by
  unfold cdT
  rw [take_succ_nth hj, List.drop_append_of_le_length (by rw [List.length_take]; omega), dnC_snoc]
theorem cdT_all {l : List Int} {i j : Nat} (h : l.length ≤ j) : cdT l i j = dnC (nth l i) (l.drop (i + 1)) := by
  unfold cdT
  rw [List.take_of_length_le h]
theorem cdT_le (l : List Int) (i j : Nat) : cdT l i j ≤ j := by
  unfold cdT dnC
  refine Nat.le_trans (List.length_filter_le _ _) ?_
  rw [List.length_drop, List.length_take]
  omega
/-- The code of a list, summed, is how many pairs stand the wrong way. -/
structure CodeOf (l u : List Int) : Prop where
  len : u.length = l.length
  at_ : ∀ i, i < l.length → nth u i = (dnC (nth l i) (l.drop (i + 1)) : Nat)
theorem CodeOf.sum {l u : List Int} (h : CodeOf l u) : sumL u = (dnv l : Nat) := by
  have key : ∀ k, k ≤ l.length → sumTo u k + ((dnv (l.drop k) : Nat) : Int) = (dnv l : Nat) := by
    intro k
    induction k with
    | zero => intro _; rw [List.drop_zero]; show (0 : Int) + _ = _; omega
    | succ k ih =>
      intro hk
      have h1 := ih (by omega)
      rw [List.drop_eq_getElem_cons (by omega), dnv] at h1
      have h2 := h.at_ k (by omega)
      rw [nth_lt (by omega : k < l.length)] at h2
      have h3 : sumTo u (k + 1) = sumTo u k + nth u k := rfl
      omega
  have h1 := key l.length (Nat.le_refl _)
  rw [List.drop_length] at h1
  unfold sumL
  rw [h.len]
  have : dnv [] = 0 := rfl
  omega
set_option maxRecDepth 100000 in
set_option maxHeartbeats 4000000 in
theorem l1Code_any {A : Option Addr} {n : Nat} {l : List Int} {w : World} (c : Nat) (hx : RI w A n l) (hn : n ≤ 100) :
    Calls Try.prog 187 #[.slice A n c] w (fun e w' => ∃ u, CodeOf l u ∧ Makes w u e w') := by
  have hmk := run_make_row' (P := Try.prog) 22 3 (.int .i64 0) 8 Try.underlying22 Try.infoInt rfl .i64 .i64 n (by omega) (by omega)
  have HX := Lib.hid hx
  have HL : Hid (l.length = n) := hx.1
  have HO := Lib.hid (made_OI2 w n (by omega))
  have HB : Hid (Below w.heap.size w (w.alloc (.cells (madeCells #[Value.int .i64 0] n) 3))) := (Below.refl _ _).alloc (Nat.le_refl _) _
  clear hx
  go_enter Try.func187, Try.ntmps187
  go_upto_region 3 with fail
  clear hmk
  go_loopw [4, 5] (fun i _ wr => ∃ (k : Nat) (u : List Int), k ≤ n ∧ i = .int .i64 (k : Int) ∧ Hid (OI wr w.heap.size (.slice (some ⟨w.heap.size, 0, none⟩) n n) u ∧ Below w.heap.size w wr ∧ (∀ i, i < k → nth u i = (cdT l i n : Nat)) ∧ ∀ i, k ≤ i → i < n → nth u i = 0)) (fun i _ _ => n - (intOf i).toNat)
  case atStart => exact ⟨0, _, Nat.zero_le _, rfl, HO.out, HB.out, fun i hi => by omega, fun i _ hi => by rw [nth_lt (by simpa using hi)]; simp⟩
  case round =>
    clear HO HB
    obtain ⟨k, u, hk, rfl, HY⟩ := hrel
    by_cases hlt : k < n
    · obtain ⟨wo, rfl⟩ : ∃ wo : World, wo = wr := ⟨_, rfl⟩
      go_upto_region 6 with fail
      go_loopw [5] (fun j wq => ∃ (q : Nat) (v : List Int), k + 1 ≤ q ∧ q ≤ n ∧ j = .int .i64 (q : Int) ∧ Hid (OI wq w.heap.size (.slice (some ⟨w.heap.size, 0, none⟩) n n) v ∧ Below w.heap.size w wq ∧ (∀ i, i < k → nth v i = (cdT l i n : Nat)) ∧ nth v k = (cdT l k q : Nat) ∧ ∀ i, k + 1 ≤ i → i < n → nth v i = 0)) (fun j _ => n - (intOf j).toNat)
      case atStart => exact ⟨k + 1, u, Nat.le_refl _, hlt, by go_num, HY.out.1, HY.out.2.1, HY.out.2.2.1, by rw [cdT_start]; exact HY.out.2.2.2 k (Nat.le_refl _) hlt, fun i h1 h2 => HY.out.2.2.2 i (by omega) h2⟩
      case round =>
        obtain ⟨q, v, hq1, hq, rfl, HZ⟩ := hrel
        by_cases hlq : q < n
        · obtain ⟨ad, rfl, hc⟩ := (HX.out.below HZ.out.2.1).2 (by omega)
          have zq := hc q hlq
          have zk := hc k hlt
          have hnx := cdT_next (l := l) hq1 (by rw [HL.out]; exact hlq)
          have hle := cdT_le l k q
          obtain ⟨x, hx⟩ : ∃ x, x = nth l q := ⟨_, rfl⟩
          obtain ⟨y, hy⟩ : ∃ x, x = nth l k := ⟨_, rfl⟩
          obtain ⟨d, hd⟩ : ∃ d, d = cdT l k q := ⟨_, rfl⟩
          rw [← hx] at zq hnx
          rw [← hy] at zk hnx
          rw [← hd] at hnx hle
          have hnx0 := Lib.hid hd
          have hvk : nth v k = (d : Int) := by rw [hd]; exact HZ.out.2.2.2.1
          have zv := HZ.out.1.cellAt (j := k) hlt
          have fv := HZ.out.1.frozenAt k
          rw [hvk] at zv
          have HVL : Hid (v.length = n) := HZ.out.1.len
          clear hx hy hd hc hvk
          by_cases hxy : x < y
          · have hxy' : decide (x < y) = true := decide_eq_true hxy
            rw [if_pos hxy] at hnx
            have HNX := Lib.hid hnx
            obtain ⟨s1, s2⟩ := HZ.out.1.stored k ((d : Int) + 1)
            have HS : Hid (OI (wr.setCell ⟨w.heap.size, k, none⟩ (.int .i64 ((d : Int) + 1))).drew w.heap.size (.slice (some ⟨w.heap.size, 0, none⟩) n n) (v.set k ((d : Int) + 1)) ∧ Below w.heap.size w (wr.setCell ⟨w.heap.size, k, none⟩ (.int .i64 ((d : Int) + 1))).drew) :=
              ⟨s1.below ((Below.refl _ _).drew), (HZ.out.2.1.grown s2 HZ.out.2.1.size fun b e => by injection e with e; omega).drew⟩
            clear hnx s1 s2
            go_wp2_with fail
            go_region
            go_wp2_with fail
            exact ⟨⟨q + 1, v.set k ((d : Int) + 1), by omega, by omega, by go_num, HS.out.1, HS.out.2, fun i hi => by rw [nth_set_ne (by omega)]; exact HZ.out.2.2.1 i hi, by rw [nth_set_eq (by rw [HVL.out]; exact hlt), HNX.out]; omega, fun i h1 h2 => by rw [nth_set_ne (by omega)]; exact HZ.out.2.2.2.2 i h1 h2⟩, by simp [intOf]; omega⟩
          · have hxy' : decide (x < y) = false := decide_eq_false hxy
            rw [if_neg hxy] at hnx
            have HNX := Lib.hid hnx
            have HV : Hid (nth v k = (d : Int)) := by have h := HZ.out.2.2.2.1; show _ = _; rw [h, ← hnx0.out]
            clear hnx
            go_wp2_with fail
            go_region
            go_wp2_with fail
            exact ⟨⟨q + 1, v, by omega, by omega, by go_num, HZ.out.1.below ((Below.refl _ _).drew), HZ.out.2.1.drew, HZ.out.2.2.1, by rw [HNX.out, HV.out]; omega, HZ.out.2.2.2.2⟩, by simp [intOf]; omega⟩
        · obtain rfl : q = n := by omega
          go_wp2_with fail
          go_roundw
          case rel => exact ⟨k + 1, v, by omega, by go_num, HZ.out.1, HZ.out.2.1, fun i hi => by
            rcases Nat.lt_or_eq_of_le (show i ≤ k by omega) with h | h
            · exact HZ.out.2.2.1 i h
            · rw [h]; exact HZ.out.2.2.2.1, fun i h1 h2 => HZ.out.2.2.2.2 i (by omega) h2⟩
          case measure => simp [intOf]; omega
    · obtain rfl : k = n := by omega
      have HF : Hid (∃ v, CodeOf l v ∧ Makes w v (.returned (.slice (some ⟨w.heap.size, 0, none⟩) k k)) wr) := by
        have hl := HY.out.1.len
        refine ⟨u, ⟨by rw [hl, HL.out], fun i hi => ?_⟩, Makes.of HY.out.1 HY.out.2.1 (by omega)⟩
        rw [HY.out.2.2.1 i (by rw [← HL.out]; exact hi), cdT_all (by rw [HL.out]; exact Nat.le_refl _)]
      go_wp2_with fail
      go_ret
      exact HF.out
set_option maxHeartbeats 1000000 in
theorem l1Length_any {A : Option Addr} {n : Nat} {l : List Int} {w : World} (c : Nat) (hx : RI w A n l) (hn : n ≤ 100) :
    Calls Try.prog 152 #[.slice A n c] w (GivesB w (.int .i64 (dnv l : Nat))) := by
  have HC : Hid (Calls Try.prog 187 #[.slice A n c] w (fun e w' => ∃ u, CodeOf l u ∧ Makes w u e w')) := l1Code_any c hx hn
  have HL : Hid (l.length = n) := hx.1
  clear hx
  go_enter Try.func152, Try.ntmps152
  go_wp2_with (first
    | (go_at_call 187; refine HC.out.mono ?_; rintro e w1 ⟨u, hu, A1, n1, c1, rfl, o1, r1, -, b1⟩)
    | (go_at_call 58; refine (sSum_any c1 r1 (fun j hj => by
        rw [hu.len] at hj
        rw [hu.at_ j hj, ← cdT_all (Nat.le_refl _)]
        have := cdT_le l j l.length
        have := HL.out
        omega) (by have h1 := r1.1; have h2 := hu.len; have := HL.out; omega)).mono ?_; rintro e w2 ⟨rfl, q2, rfl⟩)
    | fail)
  go_ret
  exact ⟨by rw [hu.sum]; rfl, below_drewN b1 _⟩
set_option maxRecDepth 100000 in
set_option maxHeartbeats 2000000 in
theorem sDesc_any {A : Option Addr} {n : Nat} {l : List Int} {w : World} (c : Nat) (hx : RI w A n l) (hp : permB l = true) (hc : n ≤ c) :
    Calls Try.prog 153 #[.slice A n c] w (Makes w (descTo l (n - 1))) := by
  have HX := Lib.hid hx
  have HL : Hid (l.length = n) := hx.1
  have hsz := permB_size hp
  rw [HL.out] at hsz
  have HIS : Hid (Calls Try.prog 138 #[.slice A n c] w (Gives w (.bool true))) := by
    have h := sIsPerm_any c hx (by omega) hc
    rw [hp] at h
    exact h
  have HLIT : Hid (∀ W : World, OI (W.alloc (.cells #[] 3)) W.heap.size (.slice (some ⟨W.heap.size, 0, none⟩) 0 0) [] ∧ Below W.heap.size W (W.alloc (.cells #[] 3))) := fun W => by
    refine ⟨?_, (Below.refl _ _).alloc (Nat.le_refl _) _⟩
    have h := OI.lit W W.heap.size [] 0 rfl (Nat.le_refl _) (by simp)
    exact h
  clear hx hp hc
  go_enter Try.func153, Try.ntmps153
  go_upto_region 5 with (first | (go_at_call 138; refine HIS.out.mono ?_; rintro e w1 ⟨rfl, q1, rfl⟩) | fail)
  have HL0 := HLIT.out (w.drewN q1)
  have HO0 : Hid (OI ((w.drewN q1).alloc (.cells #[] 3)) w.heap.size (.slice (some ⟨w.heap.size, 0, none⟩) 0 0) [] ∧ Below w.heap.size w ((w.drewN q1).alloc (.cells #[] 3))) := ⟨HL0.1, (below_drewN (Below.refl _ _) _).alloc (Nat.le_refl _) _⟩
  clear HL0 HLIT
  go_loopw [3, 4] (fun ov i wr => ∃ (k : Nat) (D : Option Addr) (dn dd : Nat), k ≤ n - 1 ∧ i = .int .i64 (k : Int) ∧ ov = .slice D dn dd ∧ Hid (OI wr w.heap.size (.slice D dn dd) (descTo l k) ∧ Below w.heap.size w wr)) (fun _ i _ => n - (intOf i).toNat)
  case atStart => exact ⟨0, _, _, _, Nat.zero_le _, rfl, rfl, HO0.out⟩
  case round =>
    clear HO0
    obtain ⟨k, D, dn, dd, hk, rfl, rfl, HY⟩ := hrel
    have hw1 : IntKind.i64.wrap ((k : Int) + 1) = (k : Int) + 1 := by rw [IntKind.wrap_i64]; omega
    by_cases hlt : k + 1 < n
    · have hlt1 : (k : Int) + 1 < (n : Int) := by omega
      obtain ⟨ad, rfl, hc⟩ := (HX.out.below HY.out.2).2 (by omega)
      have z0 := hc k (by omega)
      have z1 := hc (k + 1) hlt
      rw [show ad.add (k + 1) = ⟨ad.block, ad.off + (k + 1), none⟩ by unfold Addr.add; rw [if_neg (by omega)]] at z1
      have h0k : (0 : Int) ≤ (k : Int) + 1 := by omega
      have hkn : k < n := by omega
      have hkn2 : (k : Int) < (n : Int) := by omega
      by_cases hd : nth l (k + 1) < nth l k
      · have HT : Hid (descTo l (k + 1) = descTo l k ++ [(k : Int)]) := descTo_yes hd
        obtain ⟨x, hx⟩ : ∃ x, x = nth l (k + 1) := ⟨_, rfl⟩
        obtain ⟨y, hy⟩ : ∃ x, x = nth l k := ⟨_, rfl⟩
        rw [← hx, ← hy] at hd
        rw [← hx] at z1
        rw [← hy] at z0
        have hd2 : decide (x < y) = true := decide_eq_true hd
        have HLE : Hid ((descTo l k).length + 1 ≤ 1000000000000) := by have := descTo_len l k; show _ ≤ _; omega
        clear hx hy hc
        go_wp2_with fail
        go_region
        obtain ⟨w3, e3⟩ : ∃ W, W = wr.drew := ⟨_, rfl⟩
        rw [← e3]
        have HY3 : Hid (OI w3 w.heap.size (.slice D dn dd) (descTo l k) ∧ Below w.heap.size w w3) := by rw [e3]; exact ⟨HY.out.1.below ((Below.refl _ _).drew), HY.out.2.drew⟩
        have HSZ : Hid (w.heap.size ≤ w3.heap.size) := HY3.out.2.size
        clear e3 z0 z1
        go_wp2_with (first
          | (at_builtin; refine wpApp1 rfl _ _ rfl w.heap.size (.slice D dn dd) (descTo l k) (k : Int) rfl (by exact HY3.out.1) rfl HLE.out HSZ.out ?_; intro v7 w7 o7 g7 k7)
          | fail)
        obtain ⟨D7, dn7, dd7, rfl, -⟩ := o7.form
        have HF7 : Hid (OI w7 w.heap.size (.slice D7 dn7 dd7) (descTo l (k + 1)) ∧ Below w.heap.size w w7) := ⟨by rw [HT.out]; exact o7, HY3.out.2.grown g7 HSZ.out fun q hq => (HY3.out.1.lt q hq).1⟩
        clear o7 g7 k7
        go_roundw
        case rel => exact ⟨k + 1, _, _, _, by omega, by go_num, rfl, HF7.out⟩
        case measure => simp [intOf]; omega
      · have HT : Hid (descTo l (k + 1) = descTo l k) := descTo_no hd
        obtain ⟨x, hx⟩ : ∃ x, x = nth l (k + 1) := ⟨_, rfl⟩
        obtain ⟨y, hy⟩ : ∃ x, x = nth l k := ⟨_, rfl⟩
        rw [← hx, ← hy] at hd
        rw [← hx] at z1
        rw [← hy] at z0
        have hd2 : decide (x < y) = false := decide_eq_false hd
        clear hx hy hc
        go_wp2_with fail
        go_region
        go_wp2_with fail
        go_roundw
        case rel => exact ⟨k + 1, _, _, _, by omega, by go_num, rfl, by rw [HT.out]; exact HY.out.1.below ((Below.refl _ _).drew), HY.out.2.drew⟩
        case measure => simp [intOf]; omega
    · have hlt1 : ¬ (k : Int) + 1 < (n : Int) := by omega
      have HE : Hid (k = n - 1) := by show _ = _; omega
      have HF : Hid (Makes w (descTo l (n - 1)) (.returned (.slice D dn dd)) wr) := by
        rw [← HE.out]
        exact Makes.of HY.out.1 HY.out.2 (by have := descTo_len l k; omega)
      go_wp2_with fail
      go_ret
      exact HF.out
end Go.Proofs.Ytgbojgmmingfdaa

/- dReduced, dWord, DrawWordOf of the reference: a permutation with one of its reduced words. -/
namespace Go.Proofs.Ytgbojgmmingfdaa
open Go.RowKit

def lenV : Value → Nat
  | .slice _ n _ => n
  | _ => 0
theorem descTo_mem (l : List Int) : ∀ (m : Nat) (y : Int), y ∈ descTo l m → ∃ k : Nat, y = (k : Int) ∧ k < m ∧ nth l (k + 1) < nth l k
  | 0, y, h => by cases h
  | m + 1, y, h => by
    by_cases hd : nth l (m + 1) < nth l m
    · rw [descTo_yes hd] at h
      rcases List.mem_append.1 h with h | h
      · obtain ⟨k, a, b, c⟩ := descTo_mem l m y h
        exact ⟨k, a, by omega, c⟩
      · exact ⟨m, List.mem_singleton.1 h, by omega, hd⟩
    · rw [descTo_no hd] at h
      obtain ⟨k, a, b, c⟩ := descTo_mem l m y h
      exact ⟨k, a, by omega, c⟩
theorem descTo_nil {l : List Int} : ∀ (m : Nat), descTo l m = [] → ∀ k, k < m → nth l k ≤ nth l (k + 1)
  | 0, _, k, hk => by omega
  | m + 1, h, k, hk => by
    by_cases hd : nth l (m + 1) < nth l m
    · rw [descTo_yes hd] at h
      exact absurd h (by simp)
    · rw [descTo_no hd] at h
      rcases Nat.lt_or_eq_of_le (show k ≤ m by omega) with h1 | h1
      · exact descTo_nil m h k h1
      · subst h1; omega
theorem sorted_of {l : List Int} (h : ∀ k, k + 1 < l.length → nth l k ≤ nth l (k + 1)) : l.Pairwise (· ≤ ·) := by
  have key : ∀ i j, i ≤ j → j < l.length → nth l i ≤ nth l j := by
    intro i j hij hj
    induction j with
    | zero => rw [Nat.le_zero.1 hij]; exact Int.le_refl _
    | succ j ih =>
      rcases Nat.lt_or_eq_of_le hij with h1 | h1
      · exact Int.le_trans (ih (by omega) (by omega)) (h j hj)
      · rw [h1]; exact Int.le_refl _
  rw [List.pairwise_iff_getElem]
  intro i j hi hj hij
  have := key i j (by omega) hj
  rwa [nth_lt hi, nth_lt hj] at this
theorem desc_some {l : List Int} (h : 0 < dnv l) : descTo l (l.length - 1) ≠ [] := fun e => by
  have := dnv_zero (sorted_of fun k hk => descTo_nil _ e k (by omega))
  omega
theorem red_end {l : List Int} (h : dnv l = 0) : RedS [] l := fun k hk => by
  have := dn_swN hk
  omega
/-- What holds between two swaps. -/
structure RdS (w wr : World) (g : Nat) (A : Option Addr) (n c : Nat) (ov vv : Value) (l out v : List Int) : Prop where
  o : OI wr w.heap.size ov out
  vo : OI wr w.heap.size vv v
  p : permB v = true
  len : v.length = l.length
  go : ∀ r, RedS r v → RedS (out.reverse ++ r) l
  cnt : out.length + dnv v = dnv l
  d : Dr wr g A n c
  gr : w.grownBy wr (some g)
set_option maxRecDepth 100000 in
set_option maxHeartbeats 4000000 in
theorem dReduced_any {w : World} {g : Nat} {A B : Option Addr} {n c m d : Nat} {l : List Int} (h : Dr w g A n c) (hx : RI w B m l) (hp : permB l = true) :
    Calls Try.prog 88 #[.pointer (some ⟨g, 0, none⟩), .slice B m d] w (fun e w' => ∃ D dn dd v, e = .returned (.slice D dn dd) ∧ OI w' w.heap.size (.slice D dn dd) v ∧ RedS v.reverse l ∧ v.length ≤ 21 ∧ Cur w' g A n c ∧ w.grownBy w' (some g)) := by
  have hglt := h.cur.lt
  have HP := Lib.hid hp
  have HL : Hid (l.length = m) := hx.1
  have hsz := permB_size hp
  have H21 : Hid (dnv l ≤ 21) := dnv_21 hsz.2
  rw [HL.out] at hsz
  obtain ⟨w1, e1⟩ : ∃ W, W = w.alloc (.cells #[] 3) := ⟨_, rfl⟩
  have hb1 : Below w.heap.size w w1 := by rw [e1]; exact (Below.refl _ _).alloc (Nat.le_refl _) _
  have HO1 : Hid (OI w1 w.heap.size (.slice (some ⟨w.heap.size, 0, none⟩) 0 0) []) := by rw [e1]; exact OI.lit w w.heap.size [] 0 rfl (Nat.le_refl _) (by simp)
  have HIN : Hid (Calls Try.prog 117 #[.slice B m d] w1 (Makes w1 l)) := l1Ints_any d (hx.below hb1) (by omega)
  have HB1 := Lib.hid hb1
  have HD := Lib.hid h
  have E1 := Lib.hid e1
  clear e1 hb1 hx hp h
  go_enter Try.func88, Try.ntmps88
  go_upto_region 3 with (first
    | (rw [← E1.out]; go_at_call 117; refine HIN.out.mono ?_; rintro e w2 ⟨A2, n2, c2, rfl, o2, r2, ⟨p2, -⟩, b2⟩)
    | fail)
  have R0 : Hid (RdS w w2 g A n c (.slice (some ⟨w.heap.size, 0, none⟩) 0 0) (.slice A2 n2 c2) l [] l) :=
    ⟨HO1.out.below b2, o2.mono HB1.out.size, HP.out, rfl, fun r hr => hr, by simp, (HD.out.below HB1.out).below b2, grown_below (grown_below (World.grownBy.refl _ _) HB1.out) b2⟩
  have HN2 : Hid (n2 = m) := by show _ = _; rw [← r2.1]; exact HL.out
  clear o2 r2 b2
  go_loopw [5, 6, 7, 8] (fun ov vv _ _ wr => ∃ (D V : Option Addr) (dn dd vn vd : Nat) (out v : List Int), ov = .slice D dn dd ∧ vv = .slice V vn vd ∧ vn ≤ vd ∧ Hid (RdS w wr g A n c (.slice D dn dd) (.slice V vn vd) l out v)) (fun ov _ _ _ _ => 21 - lenV ov)
  case atStart => exact ⟨_, _, _, _, _, _, _, _, rfl, rfl, p2, R0.out⟩
  case round =>
    clear R0
    obtain ⟨D, V, dn, dd, vn, vd, out, v, rfl, rfl, hvd, HY⟩ := hrel
    have HVN : Hid (v.length = vn) := HY.out.vo.ri.1
    have hvn : 1 ≤ vn ∧ vn ≤ 7 := by have := permB_size HY.out.p; have := HVN.out; omega
    have HDN : Hid (out.length = dn) := HY.out.o.ri.1
    have HLN : Hid (Calls Try.prog 152 #[.slice V vn vd] wr (GivesB wr (.int .i64 (dnv v : Nat)))) := l1Length_any vd HY.out.vo.ri (by omega)
    by_cases hz : 0 < dnv v
    · have HZ := Lib.hid hz
      obtain ⟨dv, hdv⟩ : ∃ x, x = dnv v := ⟨_, rfl⟩
      rw [← hdv] at HLN hz
      have hz2 : (0 : Int) < (dv : Int) := by omega
      have hdn : dn < 21 := by have h1 := HY.out.cnt; have h2 := H21.out; have h3 := HDN.out; omega
      clear hdv
      go_upto_region 5 with (first
        | (go_at_call 152; refine HLN.out.mono ?_; rintro e w3 ⟨rfl, b3⟩)
        | (go_at_call 153; refine (sDesc_any vd (HY.out.vo.ri.below b3) HY.out.p hvd).mono ?_; rintro e w4 ⟨A4, n4, c4, rfl, o4, r4, -, b4⟩)
        | fail)
      have b34 := b3.trans (b4.mono b3.size)
      have hne := desc_some HZ.out
      rw [HVN.out] at hne
      have HN4 : Hid ((descTo v (vn - 1)).length = n4) := r4.1
      have hn4 : 1 ≤ n4 ∧ n4 ≤ 7 := by
        have h1 := HN4.out
        have h2 := descTo_len v (vn - 1)
        have h3 := List.length_pos_iff.2 hne
        omega
      have D4 := HY.out.d.below b34
      have HG4 := Lib.hid (grown_below HY.out.gr b34)
      have O4 := Lib.hid (o4.mono (Nat.le_trans HY.out.gr.size b3.size))
      have OO4 := Lib.hid (HY.out.o.below b34)
      have OV4 := Lib.hid (HY.out.vo.below b34)
      clear o4 r4 hne b34 b3 b4
      go_wp2_with fail
      refine (l1Below_any (n4 : Int) D4 (by omega) (by omega)).mono ?_
      rintro e w5 ⟨x, rfl, hx, hc5, hg5⟩
      have D5 := Lib.hid (D4.next hc5 hg5)
      have HG5 := Lib.hid (HG4.out.trans hg5)
      have O5 := O4.out.kept_low hg5 (fun b e => by injection e with e; omega)
      have OO5 := Lib.hid (OO4.out.kept_low hg5 (fun b e => by injection e with e; omega))
      have OV5 := Lib.hid (OV4.out.kept_low hg5 (fun b e => by injection e with e; omega))
      clear hc5 hg5 D4
      obtain ⟨xn, rfl⟩ : ∃ k : Nat, x = (k : Int) := ⟨x.toNat, by omega⟩
      have hxn : xn < n4 := by omega
      obtain ⟨ad4, rfl, hc4⟩ := O5.ri.2 (by omega)
      have z4 := hc4 xn hxn
      obtain ⟨k, hk, hk1, hk2⟩ := descTo_mem v (vn - 1) _ (nth_mem (by rw [HN4.out]; exact hxn))
      rw [hk] at z4
      have HRD : Hid (rdes v k) := ⟨by rw [HVN.out]; omega, hk2⟩
      have HSW : Hid (Calls Try.prog 118 #[.slice V vn vd, .int .i64 (k : Int), .int .i64 ((k : Int) + 1)] w5 (Makes w5 (swN k v))) := by
        have h := l1Swap_any vd k (k + 1) OV5.out.ri (by omega) (by omega) (by omega) (by omega)
        rw [swapL_swN k v (by rw [HVN.out]; omega)] at h
        exact h
      have hwk : IntKind.i64.wrap ((k : Int) + 1) = (k : Int) + 1 := by rw [IntKind.wrap_i64]; omega
      have HOL : Hid (out.length + 1 ≤ 21) := by have h1 := HDN.out; show _ ≤ _; omega
      clear hc4 hk hk2 O5
      go_wp2_with (first
        | (go_at_call 118; refine HSW.out.mono ?_; rintro e w6 ⟨A6, n6, c6, rfl, o6, r6, ⟨p6, -⟩, b6⟩; have HL6 : Hid (OI (w6.alloc (.cells #[.int .i64 (k : Int)] 3)) w6.heap.size (.slice (some ⟨w6.heap.size, 0, none⟩) 1 1) [(k : Int)]) := OI.lit w6 w6.heap.size [(k : Int)] 1 rfl (Nat.le_refl _) (by simp))
        | (at_builtin; refine wpAppI rfl _ _ rfl w6.heap.size (.slice (some ⟨w6.heap.size, 0, none⟩) 1 1) [(k : Int)] out D dn dd rfl rfl HL6.out ((OO5.out.ri.below b6).alloc _) (by have := HOL.out; have := HDN.out; simp; omega) (by simp) ?_; intro v7 w7 o7 g7 k7)
        | fail)
      obtain ⟨A7, n7, c7, rfl, -⟩ := o7.form
      have b7 : Below w6.heap.size w6 w7 := ((Below.refl _ _).alloc (Nat.le_refl _) _).grown g7 (by simp) (by simp [Value.ownBlock])
      have b57 := b6.trans (b7.mono b6.size)
      have HF : Hid (RdS w w7 g A n c (.slice A7 n7 c7) (.slice A6 n6 c6) l ((k : Int) :: out) (swN k v)) := by
        have hgs := HG5.out.size
        have hrd := HRD.out
        have hperm : permB (swN k v) = true := permB_of ((prm_of HY.out.p).swN hrd.1) (by rw [swN_len, HVN.out]; omega) (by rw [swN_len, HVN.out]; omega)
        refine ⟨o7.mono (Nat.le_trans hgs b6.size), (o6.below b7).mono hgs, hperm, by rw [swN_len]; exact HY.out.len, fun r hr => ?_, ?_, D5.out.below b57, grown_below HG5.out b57⟩
        · rw [List.reverse_cons, List.append_assoc]
          exact HY.out.go _ ⟨k, rfl, hrd, hr⟩
        · have h1 := HY.out.cnt
          have h2 := dn_swN hrd
          rw [List.length_cons]
          omega
      have hn7 : n7 = dn + 1 := by rw [← HF.out.o.ri.1, List.length_cons, HDN.out]
      clear o7 g7 k7 b7 b57 o6 r6 b6
      go_roundw
      case rel => exact ⟨_, _, _, _, _, _, _, _, rfl, rfl, p6, HF.out⟩
      case measure => simp [lenV]; omega
    · have HZ : Hid (dnv v = 0) := by show _ = _; omega
      rw [HZ.out] at HLN
      clear hz
      go_wp2_with (first
        | (go_at_call 152; refine HLN.out.mono ?_; rintro e w3 ⟨rfl, b3⟩)
        | fail)
      go_ret
      have hr := HY.out.go [] (red_end HZ.out)
      rw [List.append_nil] at hr
      exact ⟨D, dn, dd, out, rfl, HY.out.o.below b3, hr, by have h1 := HY.out.cnt; have h2 := H21.out; omega, HY.out.d.cur.kept b3, grown_below HY.out.gr b3⟩
end Go.Proofs.Ytgbojgmmingfdaa
