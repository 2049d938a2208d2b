/- l4Copy, l4Flat, l4Shape, l4Edelman of the reference. -/
import Derived.Test.YtgbojgmmingfdaaEgW
import Derived.Test.YtgbojgmmingfdaaShapes
namespace Go.Proofs.Ytgbojgmmingfdaa
open Go.RowKit

set_option maxRecDepth 100000 in
set_option maxHeartbeats 1000000 in
theorem l4Copy_any {A : Option Addr} {n : Nat} {ls : List (List Int)} {w : World} (c : Nat) (hx : RS w A n ls) (hn : n ≤ 1000000) (hs : ∀ k, k < n → (nthL ls k).length ≤ 1000000) :
    Calls Try.prog 141 #[.slice A n c] w (MakesS w ls) := by
  have HX := Lib.hid hx
  have HSS := Lib.hid hs
  have HL : Hid (ls.length = n) := hx.1
  have HLIT : Hid (OS (w.alloc (.cells #[] 22)) w.heap.size w.heap.size (.slice (some ⟨w.heap.size, 0, none⟩) 0 0) [] [] ∧ Below w.heap.size w (w.alloc (.cells #[] 22))) := by
    refine ⟨?_, (Below.refl _ _).alloc (Nat.le_refl _) _⟩
    have h := OS.lit w w.heap.size w.heap.size [] [] (Nat.le_refl _) FRs.nil_ Dist.nil_ (by simp) 0 rfl
    simpa using h
  clear hx hs
  go_enter Try.func141, Try.ntmps141
  go_wp2_with fail
  go_loopw [3, 4] (fun ov i wr => ∃ (k : Nat) (D : Option Addr) (dn dd : Nat) (cells : List Value), k ≤ n ∧ i = .int .i64 (k : Int) ∧ ov = .slice D dn dd ∧ Hid (OS wr w.heap.size w.heap.size (.slice D dn dd) (ls.take k) cells ∧ Below w.heap.size w wr)) (fun _ i _ => n - (intOf i).toNat)
  case atStart => exact ⟨0, _, _, _, _, Nat.zero_le _, rfl, rfl, by rw [List.take_zero]; exact HLIT.out⟩
  case round =>
    obtain ⟨k, D, dn, dd, cells, hk, rfl, rfl, HY⟩ := hrel
    by_cases hlt : k < n
    · obtain ⟨ad, A', n', c', rfl, z0, r0, -⟩ := (HX.out.below HY.out.2).2 k hlt
      obtain ⟨l0, hl0⟩ : ∃ x, x = nthL ls k := ⟨_, rfl⟩
      have hlen := HSS.out k hlt
      rw [← hl0] at r0 hlen
      have HT : Hid (ls.take (k + 1) = ls.take k ++ [l0]) := by show _ = _; rw [hl0, nthL_lt (by rw [HL.out]; exact hlt), List.take_succ_eq_append_getElem]
      have HCL : Hid (Calls Try.prog 117 #[.slice A' n' c'] wr (Makes wr l0)) := l1Ints_any c' r0 (by rw [← r0.1]; omega)
      have HLE : Hid ((ls.take k).length + 1 ≤ 1000000000000) := by show _ ≤ _; rw [List.length_take]; omega
      have HSZ : Hid (w.heap.size ≤ wr.heap.size) := HY.out.2.size
      have HFR := Lib.hid HY.out.1.2.1
      clear hl0 hlen r0
      go_wp2_with (first
        | (go_at_call 117; refine HCL.out.mono ?_; rintro e w4 ⟨A4, n4, c4, rfl, o4, r4, -, b4⟩)
        | (at_builtin; refine wpAppS rfl _ _ rfl w.heap.size w.heap.size (.slice D dn dd) (ls.take k) cells (.slice A4 n4 c4) l0 rfl rfl (OF.below HY.out.1 b4) (OI.mono o4 HSZ.out) (apart_new (H := wr.heap.size) HFR.out (Nat.le_refl _) o4) HLE.out (Nat.le_trans HSZ.out b4.size) ?_; intro v7 w7 o7 g7 k7)
        | fail)
      obtain ⟨D7, dn7, dd7, rfl, -⟩ := OS.form o7
      have HF : Hid (OS w7 w.heap.size w.heap.size (.slice D7 dn7 dd7) (ls.take (k + 1)) (cells ++ [.slice A4 n4 c4]) ∧ Below w.heap.size w w7) := by
        refine ⟨by rw [HT.out]; exact o7, ?_⟩
        have hb := (HY.out.2.trans (b4.mono HSZ.out)).alloc (Nat.le_trans HSZ.out b4.size) (.cells #[.slice A4 n4 c4] 22)
        exact hb.grown g7 hb.size fun k hk => (OF.lt HY.out.1 k hk).1
      clear o4 r4 b4 o7 g7 k7
      go_roundw
      case rel => exact ⟨k + 1, _, _, _, _, by omega, by go_num, rfl, HF.out⟩
      case measure => simp [intOf]; omega
    · obtain rfl : k = n := by omega
      go_wp2_with fail
      go_ret
      have e : ls.take k = ls := List.take_of_length_le (by rw [HL.out]; omega)
      have h1 := HY.out.1
      rw [e] at h1
      exact MakesS.of h1 HY.out.2
/-- A tableau as one list. -/
def flatT (T : List (List Int)) : List Int := T.flatMap fun r => r ++ [-1]
theorem flatT_snoc {T : List (List Int)} {k : Nat} (h : k < T.length) : flatT (T.take (k + 1)) = flatT (T.take k) ++ nthL T k ++ [-1] := by
  unfold flatT
  rw [nthL_lt h, List.take_succ_eq_append_getElem h, List.flatMap_append, List.flatMap_cons, List.flatMap_nil, List.append_nil, List.append_assoc]
theorem flatT_len {M : Nat} : ∀ {T : List (List Int)}, (∀ r ∈ T, r.length ≤ M) → (flatT T).length ≤ T.length * (M + 1)
  | [], _ => by simp [flatT]
  | r :: T, h => by
    have e : flatT (r :: T) = r ++ [-1] ++ flatT T := rfl
    have h1 := h r (by simp)
    have h2 := flatT_len (T := T) fun x hx => h x (List.mem_cons_of_mem _ hx)
    rw [e, List.length_append, List.length_append, List.length_singleton, List.length_cons, Nat.add_mul]
    omega
set_option maxRecDepth 100000 in
set_option maxHeartbeats 1000000 in
theorem l4Flat_any {A : Option Addr} {n : Nat} {T : List (List Int)} {w : World} (c : Nat) (hx : RS w A n T) (hn : n ≤ 1000) (hs : ∀ r ∈ T, r.length ≤ 1000) :
    Calls Try.prog 72 #[.slice A n c] w (Makes w (flatT T)) := by
  have HX := Lib.hid hx
  have HSS := Lib.hid hs
  have HL : Hid (T.length = n) := hx.1
  have HLIT : Hid (OI (w.alloc (.cells #[] 3)) w.heap.size (.slice (some ⟨w.heap.size, 0, none⟩) 0 0) [] ∧ Below w.heap.size w (w.alloc (.cells #[] 3))) := by
    refine ⟨?_, (Below.refl _ _).alloc (Nat.le_refl _) _⟩
    have h := OI.lit w w.heap.size [] 0 rfl (Nat.le_refl _) (by simp)
    exact h
  have HBD : Hid (∀ k, k ≤ n → (flatT (T.take k)).length ≤ 1001000) := fun k hk => by
    have h := flatT_len (M := 1000) (T := T.take k) fun r hr => HSS.out r (List.mem_of_mem_take hr)
    rw [List.length_take] at h
    have h2 : min k T.length * 1001 ≤ 1000 * 1001 := Nat.mul_le_mul_right _ (by omega)
    omega
  clear hx hs
  go_enter Try.func72, Try.ntmps72
  go_wp2_with fail
  go_loopw [3, 4] (fun ov i wr => ∃ (k : Nat) (D : Option Addr) (dn dd : Nat), k ≤ n ∧ i = .int .i64 (k : Int) ∧ ov = .slice D dn dd ∧ Hid (OI wr w.heap.size (.slice D dn dd) (flatT (T.take k)) ∧ Below w.heap.size w wr)) (fun _ i _ => n - (intOf i).toNat)
  case atStart => exact ⟨0, _, _, _, Nat.zero_le _, rfl, rfl, by rw [List.take_zero]; exact HLIT.out⟩
  case round =>
    obtain ⟨k, D, dn, dd, hk, rfl, rfl, HY⟩ := hrel
    by_cases hlt : k < n
    · obtain ⟨ad, A', n', c', rfl, z0, r0, -⟩ := (HX.out.below HY.out.2).2 k hlt
      have hkl : k < T.length := by rw [HL.out]; exact hlt
      obtain ⟨l0, hl0⟩ : ∃ x, x = nthL T k := ⟨_, rfl⟩
      have HT : Hid (flatT (T.take (k + 1)) = flatT (T.take k) ++ l0 ++ [-1]) := by show _ = _; rw [flatT_snoc hkl, hl0]
      have hlen := HSS.out (nthL T k) (by rw [nthL_lt hkl]; exact List.getElem_mem _)
      rw [r0.1] at hlen
      rw [← hl0] at r0
      have HR0 := Lib.hid r0
      have HLE : Hid ((flatT (T.take k)).length + n' ≤ 1000000000000) := by have := HBD.out k hk; show _ ≤ _; omega
      have HLE2 : Hid ((flatT (T.take k) ++ l0).length + 1 ≤ 1000000000000) := by have := HBD.out k hk; have := HR0.out.1; show _ ≤ _; rw [List.length_append]; omega
      have HSZ : Hid (w.heap.size ≤ wr.heap.size) := HY.out.2.size
      clear hl0 hlen r0 hkl
      go_upto_region 6 with (at_builtin; refine wpAppI rfl _ _ rfl w.heap.size (.slice D dn dd) (flatT (T.take k)) l0 A' n' c' rfl rfl HY.out.1 HR0.out HLE.out HSZ.out ?_; intro v6 w6 o6 g6 k6)
      obtain ⟨D6, dn6, dd6, rfl, -⟩ := o6.form
      have HF6 : Hid (OI w6 w.heap.size (.slice D6 dn6 dd6) (flatT (T.take k) ++ l0) ∧ Below w.heap.size w w6) := ⟨o6, HY.out.2.grown g6 HSZ.out fun q hq => (HY.out.1.lt q hq).1⟩
      have HSZ6 : Hid (w.heap.size ≤ w6.heap.size) := HF6.out.2.size
      clear o6 g6 k6
      go_wp2_with (first
        | (at_builtin; refine wpApp1 rfl _ _ rfl w.heap.size (.slice D6 dn6 dd6) (flatT (T.take k) ++ l0) (-1) rfl HF6.out.1 rfl HLE2.out HSZ6.out ?_; intro v7 w7 o7 g7 k7)
        | fail)
      obtain ⟨D7, dn7, dd7, rfl, -⟩ := o7.form
      have HF7 : Hid (OI w7 w.heap.size (.slice D7 dn7 dd7) (flatT (T.take (k + 1))) ∧ Below w.heap.size w w7) := ⟨by rw [HT.out]; exact o7, HF6.out.2.grown g7 HSZ6.out fun q hq => (HF6.out.1.lt q hq).1⟩
      clear o7 g7 k7
      go_roundw
      case rel => exact ⟨k + 1, _, _, _, by omega, by go_num, rfl, HF7.out⟩
      case measure => simp [intOf]; omega
    · obtain rfl : k = n := by omega
      go_wp2_with fail
      go_ret
      have e : T.take k = T := List.take_of_length_le (by rw [HL.out]; omega)
      have h1 := HY.out.1
      have h2 := HBD.out k (Nat.le_refl _)
      rw [e] at h1 h2
      exact Makes.of h1 HY.out.2 (by omega)
def shapeT (T : List (List Int)) : List Int := T.map fun r => (r.length : Int)
theorem shapeT_len (T : List (List Int)) : (shapeT T).length = T.length := List.length_map ..
theorem nth_shapeT {T : List (List Int)} {k : Nat} (h : k < T.length) : nth (shapeT T) k = ((nthL T k).length : Int) := by
  rw [nth_lt (by rw [shapeT_len]; exact h), nthL_lt h]
  simp [shapeT]
set_option maxRecDepth 100000 in
set_option maxHeartbeats 1000000 in
theorem l4Shape_any {A : Option Addr} {n : Nat} {T : List (List Int)} {w : World} (c : Nat) (hx : RS w A n T) (hn : n ≤ 1000) :
    Calls Try.prog 74 #[.slice A n c] w (Makes w (shapeT T)) := by
  have HX := Lib.hid hx
  have HL : Hid (T.length = n) := hx.1
  have HLIT : Hid (OI (w.alloc (.cells #[] 3)) w.heap.size (.slice (some ⟨w.heap.size, 0, none⟩) 0 0) [] ∧ Below w.heap.size w (w.alloc (.cells #[] 3))) := by
    refine ⟨?_, (Below.refl _ _).alloc (Nat.le_refl _) _⟩
    have h := OI.lit w w.heap.size [] 0 rfl (Nat.le_refl _) (by simp)
    exact h
  clear hx
  go_enter Try.func74, Try.ntmps74
  go_wp2_with fail
  go_loopw [3, 4] (fun ov i wr => ∃ (k : Nat) (D : Option Addr) (dn dd : Nat), k ≤ n ∧ i = .int .i64 (k : Int) ∧ ov = .slice D dn dd ∧ Hid (OI wr w.heap.size (.slice D dn dd) ((shapeT T).take k) ∧ Below w.heap.size w wr)) (fun _ i _ => n - (intOf i).toNat)
  case atStart => exact ⟨0, _, _, _, Nat.zero_le _, rfl, rfl, by rw [List.take_zero]; exact HLIT.out⟩
  case round =>
    obtain ⟨k, D, dn, dd, hk, rfl, rfl, HY⟩ := hrel
    by_cases hlt : k < n
    · obtain ⟨ad, A', n', c', rfl, z0, r0, -⟩ := (HX.out.below HY.out.2).2 k hlt
      have hkl : k < (shapeT T).length := by rw [shapeT_len, HL.out]; exact hlt
      have HT : Hid ((shapeT T).take (k + 1) = (shapeT T).take k ++ [(n' : Int)]) := by show _ = _; rw [take_succ_nth hkl, nth_shapeT (by rw [HL.out]; exact hlt), r0.1]
      have HLE : Hid (((shapeT T).take k).length + 1 ≤ 1000000000000) := by show _ ≤ _; rw [List.length_take]; omega
      have HSZ : Hid (w.heap.size ≤ wr.heap.size) := HY.out.2.size
      clear r0 hkl
      go_wp2_with (first
        | (at_builtin; refine wpApp1 rfl _ _ rfl w.heap.size (.slice D dn dd) ((shapeT T).take k) (n' : Int) rfl (by exact HY.out.1) rfl HLE.out HSZ.out ?_; intro v7 w7 o7 g7 k7)
        | fail)
      obtain ⟨D7, dn7, dd7, rfl, -⟩ := o7.form
      have HF7 : Hid (OI w7 w.heap.size (.slice D7 dn7 dd7) ((shapeT T).take (k + 1)) ∧ Below w.heap.size w w7) := ⟨by rw [HT.out]; exact o7, HY.out.2.grown g7 HSZ.out fun q hq => (HY.out.1.lt q hq).1⟩
      clear o7 g7 k7
      go_roundw
      case rel => exact ⟨k + 1, _, _, _, by omega, by go_num, rfl, HF7.out⟩
      case measure => simp [intOf]; omega
    · obtain rfl : k = n := by omega
      go_wp2_with fail
      go_ret
      have e : (shapeT T).take k = shapeT T := List.take_of_length_le (by rw [shapeT_len, HL.out]; omega)
      have h1 := HY.out.1
      rw [e] at h1
      exact Makes.of h1 HY.out.2 (by rw [shapeT_len, HL.out]; omega)
end Go.Proofs.Ytgbojgmmingfdaa
