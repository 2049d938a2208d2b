/- isReduced and EdelmanGreene of the program, at a reduced word. -/
import Derived.Test.YtgbojgmmingfdaaWordW
import Derived.Test.YtgbojgmmingfdaaShapes
import Derived.Test.YtgbojgmmingfdaaCnt
import Derived.Test.YtgbojgmmingfdaaStanB
import Derived.Test.YtgbojgmmingfdaaFmtPm
namespace Go.Proofs.Ytgbojgmmingfdaa
open Go.RowKit

theorem lessTo_dnC {l : List Int} {i : Nat} : ∀ m, i + 1 + m ≤ l.length → lessTo l i m = (dnC (nth l i) ((l.drop (i + 1)).take m) : Int)
  | 0, _ => by simp [lessTo, dnC]
  | m + 1, h => by
    have ih := lessTo_dnC (l := l) (i := i) m (by omega)
    have hd : m < (l.drop (i + 1)).length := by rw [List.length_drop]; omega
    rw [take_succ_nth hd, nth_drop, lessTo, ih]
    unfold dnC
    rw [List.filter_append, List.length_append]
    split
    · rename_i h1
      rw [List.filter_cons, if_pos (by simpa using h1)]
      simp
    · rename_i h1
      rw [List.filter_cons, if_neg (by simpa using h1)]
      simp
theorem lengthB_dnv {w : List Int} (h : permB w = true) : lengthB w = (dnv w : Int) := by
  rw [lengthB_yes h, codeB_yes h, sumL, gen_len]
  have key : ∀ k, k ≤ w.length → sumTo (gen (codeAt w w.length) w.length) k + (dnv (w.drop k) : Int) = (dnv w : Int) := fun k => by
    induction k with
    | zero => intro _; simp [sumTo]
    | succ k ih =>
      intro hk
      rw [← ih (by omega), sumTo, nth_gen (by omega), codeAt, if_pos (by omega), drop_nth (show k < w.length by omega), dnv, lessTo_dnC _ (by omega)]
      have e : (w.drop (k + 1)).take (w.length - 1 - k) = w.drop (k + 1) := List.take_of_length_le (by rw [List.length_drop]; omega)
      rw [e]
      omega
  have h1 := key w.length (Nat.le_refl _)
  rw [List.drop_length] at h1
  simp [dnv] at h1
  exact h1
/-- A reduced word of a permutation. -/
structure RedOf (w v : List Int) : Prop where
  pm : permB w = true
  play : playL (idn w.length) v = w
  len : v.length = dnv w
  ok : ∀ x ∈ v, 0 ≤ x ∧ x + 1 < w.length
theorem RedOf.of {w v : List Int} (hp : permB w = true) {f : Nat} (hf : fin' w ≤ f) (hv : v ∈ redI f w) : RedOf w v := by
  obtain ⟨a, b, c⟩ := redI_play (prm_of hp) hf hv
  exact ⟨hp, a, b, c⟩
theorem RedOf.word {w v : List Int} (h : RedOf w v) : WordOk w.length v ∧ v.length ≤ 21 := by
  have h1 := dnv_21 (permB_size h.pm).2
  have h2 := h.len
  exact ⟨⟨by omega, fun j hj => by rw [nth_lt hj]; exact h.ok _ (List.getElem_mem hj)⟩, by omega⟩
set_option maxRecDepth 100000 in
set_option maxHeartbeats 1000000 in
theorem isRed_any {A : Option Addr} {m : Nat} {l v : List Int} {w : World} (c : Nat) (hx : RI w A m v) (h : RedOf l v) :
    Calls Try.prog 90 #[.int .i64 (l.length : Int), .slice A m c] w (GivesB w (.bool true)) := by
  have hsz := permB_size h.pm
  have hwd := h.word
  have HL : Hid (v.length = m) := hx.1
  have HIW : Hid (∀ W, Below w.heap.size w W → Calls Try.prog 97 #[.int .i64 (l.length : Int), .slice A m c] W (Gives W (.bool true))) := fun W bW => isWord_any c l.length hsz (hx.below bW) hwd.1
  have HWP : Hid (∀ W, Below w.heap.size w W → Calls Try.prog 31 #[.int .i64 (l.length : Int), .slice A m c] W (Makes W l)) := fun W bW => by
    have h1 := iWordPerm_any c l.length hsz (hx.below bW) hwd.1
    rw [h.play] at h1
    exact h1
  have hlen : lengthB l = (m : Int) := by rw [lengthB_dnv h.pm, ← h.len, HL.out]
  have HLN : Hid (∀ W A' n' c', RI W A' n' l → n' ≤ c' → Calls Try.prog 154 #[.slice A' n' c'] W (GivesB W (.int .i64 (m : Int)))) := fun W A' n' c' hr hc => by
    have h1 := length_any (w := W) c' hr (by rw [← hr.1]; omega) hc
    rw [hlen] at h1
    exact h1
  have hmm : ((m : Int) == (m : Int)) = true := by simp
  clear hx h hwd hsz hlen
  obtain ⟨N, hN⟩ : ∃ N, N = l.length := ⟨_, rfl⟩
  rw [← hN] at HIW HWP ⊢
  clear hN
  go_enter Try.func90, Try.ntmps90
  go_wp2_with (first
    | (go_at_call 97; refine (HIW.out _ (Below.refl _ _)).mono ?_; rintro e w1 ⟨rfl, q1, rfl⟩)
    | (go_at_call 31; refine (HWP.out _ (below_drewN (Below.refl _ _) _)).mono ?_; rintro e w2 ⟨A2, n2, c2, rfl, o2, r2, ⟨cp2, le2⟩, b2⟩)
    | (go_at_call 154; refine (HLN.out _ _ _ _ r2 cp2).mono ?_; rintro e w3 ⟨rfl, b3⟩)
    | fail)
  go_ret
  have hb1 : Below w.heap.size w (w.drewN q1) := below_drewN (Below.refl _ _) _
  have hb2 := bnext hb1 b2 hb1.size
  exact ⟨rfl, bnext hb2 b3 hb2.size⟩
/-- Two tableaux and 'true'. -/
def MakesSSb (w : World) (p q : List (List Int)) : Ending → World → Prop := fun e w' =>
  ∃ A n c pc B m d qc, e = .returned (.tuple #[.slice A n c, .slice B m d, .bool true]) ∧ OS w' w.heap.size w.heap.size (.slice A n c) p pc ∧ OS w' w.heap.size w.heap.size (.slice B m d) q qc ∧ Below w.heap.size w w'
set_option maxRecDepth 100000 in
set_option maxHeartbeats 1000000 in
theorem iEg_any {A : Option Addr} {m : Nat} {l v : List Int} {w : World} (c : Nat) (hx : RI w A m v) (h : RedOf l v) :
    Calls Try.prog 24 #[.int .i64 (l.length : Int), .slice A m c] w (MakesSSb w (egT v) (egQ v v.length)) := by
  have HIR : Hid (Calls Try.prog 90 #[.int .i64 (l.length : Int), .slice A m c] w (GivesB w (.bool true))) := isRed_any c hx h
  have HIN : Hid (∀ W, Below w.heap.size w W → Calls Try.prog 91 #[.slice A m c, .bool true] W (MakesSS W (egT v) (egQ v v.length))) := fun W bW => by
    have hwd := h.word
    have hsz := permB_size h.pm
    refine inserting_any c 6 (hx.below bW) (fun j hj => ?_) (by omega) (by omega)
    have := hwd.1.2 j hj
    omega
  clear hx h
  go_enter Try.func24, Try.ntmps24
  go_wp2_with (first
    | (go_at_call 90; refine HIR.out.mono ?_; rintro e w1 ⟨rfl, b1⟩; have B1 := Lib.hid b1)
    | (go_at_call 91; refine (HIN.out _ B1.out).mono ?_; rintro e w2 ⟨A2, n2, c2, pc, A3, n3, c3, qc, rfl, o2, o3, b2⟩)
    | fail)
  have hs := B1.out.size
  have hb := bnext B1.out b2 hs
  go_ret3
  exact ⟨_, _, _, pc, _, _, _, qc, rfl, OF.mono o2 hs hs, OF.mono o3 hs hs, hb⟩
end Go.Proofs.Ytgbojgmmingfdaa

/- l4Copy, l4Flat, l4Shape, l4Edelman of the reference. -/
namespace Go.Proofs.Ytgbojgmmingfdaa
open Go.RowKit

set_option maxRecDepth 100000 in
set_option maxHeartbeats 1000000 in
theorem l4Copy_any {A : Option Addr} {n : Nat} {ls : List (List Int)} {w : World} (c : Nat) (hx : RS w A n ls) (hn : n ≤ 1000000) (hs : ∀ k, k < n → (nthL ls k).length ≤ 1000000) :
    Calls Try.prog 141 #[.slice A n c] w (MakesS w ls) := by
  have HX := Lib.hid hx
  have HSS := Lib.hid hs
  have HL : Hid (ls.length = n) := hx.1
  have HLIT : Hid (OS (w.alloc (.cells #[] 22)) w.heap.size w.heap.size (.slice (some ⟨w.heap.size, 0, none⟩) 0 0) [] [] ∧ Below w.heap.size w (w.alloc (.cells #[] 22))) := by
    refine ⟨?_, (Below.refl _ _).alloc (Nat.le_refl _) _⟩
    have h := OS.lit w w.heap.size w.heap.size [] [] (Nat.le_refl _) FRs.nil_ Dist.nil_ (by simp) 0 rfl
    simpa using h
  clear hx hs
  go_enter Try.func141, Try.ntmps141
  go_wp2_with fail
  go_loopw [3, 4] (fun ov i wr => ∃ (k : Nat) (D : Option Addr) (dn dd : Nat) (cells : List Value), k ≤ n ∧ i = .int .i64 (k : Int) ∧ ov = .slice D dn dd ∧ Hid (OS wr w.heap.size w.heap.size (.slice D dn dd) (ls.take k) cells ∧ Below w.heap.size w wr)) (fun _ i _ => n - (intOf i).toNat)
  case atStart => exact ⟨0, _, _, _, _, Nat.zero_le _, rfl, rfl, by rw [List.take_zero]; exact HLIT.out⟩
  case round =>
    obtain ⟨k, D, dn, dd, cells, hk, rfl, rfl, HY⟩ := hrel
    by_cases hlt : k < n
    · obtain ⟨ad, A', n', c', rfl, z0, r0, -⟩ := (HX.out.below HY.out.2).2 k hlt
      obtain ⟨l0, hl0⟩ : ∃ x, x = nthL ls k := ⟨_, rfl⟩
      have hlen := HSS.out k hlt
      rw [← hl0] at r0 hlen
      have HT : Hid (ls.take (k + 1) = ls.take k ++ [l0]) := by show _ = _; rw [hl0, nthL_lt (by rw [HL.out]; exact hlt), List.take_succ_eq_append_getElem]
      have HCL : Hid (Calls Try.prog 117 #[.slice A' n' c'] wr (Makes wr l0)) := l1Ints_any c' r0 (by rw [← r0.1]; omega)
      have HLE : Hid ((ls.take k).length + 1 ≤ 1000000000000) := by show _ ≤ _; rw [List.length_take]; omega
      have HSZ : Hid (w.heap.size ≤ wr.heap.size) := HY.out.2.size
      have HFR := Lib.hid HY.out.1.2.1
      clear hl0 hlen r0
      go_wp2_with (first
        | (go_at_call 117; refine HCL.out.mono ?_; rintro e w4 ⟨A4, n4, c4, rfl, o4, r4, -, b4⟩)
        | (at_builtin; refine wpAppS rfl _ _ rfl w.heap.size w.heap.size (.slice D dn dd) (ls.take k) cells (.slice A4 n4 c4) l0 rfl rfl (OF.below HY.out.1 b4) (OI.mono o4 HSZ.out) (apart_new (H := wr.heap.size) HFR.out (Nat.le_refl _) o4) HLE.out (Nat.le_trans HSZ.out b4.size) ?_; intro v7 w7 o7 g7 k7)
        | fail)
      obtain ⟨D7, dn7, dd7, rfl, -⟩ := OS.form o7
      have HF : Hid (OS w7 w.heap.size w.heap.size (.slice D7 dn7 dd7) (ls.take (k + 1)) (cells ++ [.slice A4 n4 c4]) ∧ Below w.heap.size w w7) := by
        refine ⟨by rw [HT.out]; exact o7, ?_⟩
        have hb := (HY.out.2.trans (b4.mono HSZ.out)).alloc (Nat.le_trans HSZ.out b4.size) (.cells #[.slice A4 n4 c4] 22)
        exact hb.grown g7 hb.size fun k hk => (OF.lt HY.out.1 k hk).1
      clear o4 r4 b4 o7 g7 k7
      go_roundw
      case rel => exact ⟨k + 1, _, _, _, _, by omega, by go_num, rfl, HF.out⟩
      case measure => simp [intOf]; omega
    · obtain rfl : k = n := by omega
      go_wp2_with fail
      go_ret
      have e : ls.take k = ls := List.take_of_length_le (by rw [HL.out]; omega)
      have h1 := HY.out.1
      rw [e] at h1
      exact MakesS.of h1 HY.out.2
/-- A tableau as one list. -/
def flatT (T : List (List Int)) : List Int := T.flatMap fun r => r ++ [-1]
theorem flatT_snoc {T : List (List Int)} {k : Nat} (h : k < T.length) : flatT (T.take (k + 1)) = flatT (T.take k) ++ nthL T k ++ [-1] := by
  unfold flatT
  rw [nthL_lt h, List.take_succ_eq_append_getElem h, List.flatMap_append, List.flatMap_cons, List.flatMap_nil, List.append_nil, List.append_assoc]
theorem flatT_len {M : Nat} : ∀ {T : List (List Int)}, (∀ r ∈ T, r.length ≤ M) → (flatT T).length ≤ T.length * (M + 1)
  | [], _ => by simp [flatT]
  | r :: T, h => by
    have e : flatT (r :: T) = r ++ [-1] ++ flatT T := rfl
    have h1 := h r (by simp)
    have h2 := flatT_len (T := T) fun x hx => h x (List.mem_cons_of_mem _ hx)
    rw [e, List.length_append, List.length_append, List.length_singleton, List.length_cons, Nat.add_mul]
    omega
set_option maxRecDepth 100000 in
set_option maxHeartbeats 1000000 in
theorem l4Flat_any {A : Option Addr} {n : Nat} {T : List (List Int)} {w : World} (c : Nat) (hx : RS w A n T) (hn : n ≤ 1000) (hs : ∀ r ∈ T, r.length ≤ 1000) :
    Calls Try.prog 72 #[.slice A n c] w (Makes w (flatT T)) := by
  have HX := Lib.hid hx
  have HSS := Lib.hid hs
  have HL : Hid (T.length = n) := hx.1
  have HLIT : Hid (OI (w.alloc (.cells #[] 3)) w.heap.size (.slice (some ⟨w.heap.size, 0, none⟩) 0 0) [] ∧ Below w.heap.size w (w.alloc (.cells #[] 3))) := by
    refine ⟨?_, (Below.refl _ _).alloc (Nat.le_refl _) _⟩
    have h := OI.lit w w.heap.size [] 0 rfl (Nat.le_refl _) (by simp)
    exact h
  have HBD : Hid (∀ k, k ≤ n → (flatT (T.take k)).length ≤ 1001000) := fun k hk => by
    have h := flatT_len (M := 1000) (T := T.take k) fun r hr => HSS.out r (List.mem_of_mem_take hr)
    rw [List.length_take] at h
    have h2 : min k T.length * 1001 ≤ 1000 * 1001 := Nat.mul_le_mul_right _ (by omega)
    omega
  clear hx hs
  go_enter Try.func72, Try.ntmps72
  go_wp2_with fail
  go_loopw [3, 4] (fun ov i wr => ∃ (k : Nat) (D : Option Addr) (dn dd : Nat), k ≤ n ∧ i = .int .i64 (k : Int) ∧ ov = .slice D dn dd ∧ Hid (OI wr w.heap.size (.slice D dn dd) (flatT (T.take k)) ∧ Below w.heap.size w wr)) (fun _ i _ => n - (intOf i).toNat)
  case atStart => exact ⟨0, _, _, _, Nat.zero_le _, rfl, rfl, by rw [List.take_zero]; exact HLIT.out⟩
  case round =>
    obtain ⟨k, D, dn, dd, hk, rfl, rfl, HY⟩ := hrel
    by_cases hlt : k < n
    · obtain ⟨ad, A', n', c', rfl, z0, r0, -⟩ := (HX.out.below HY.out.2).2 k hlt
      have hkl : k < T.length := by rw [HL.out]; exact hlt
      obtain ⟨l0, hl0⟩ : ∃ x, x = nthL T k := ⟨_, rfl⟩
      have HT : Hid (flatT (T.take (k + 1)) = flatT (T.take k) ++ l0 ++ [-1]) := by show _ = _; rw [flatT_snoc hkl, hl0]
      have hlen := HSS.out (nthL T k) (by rw [nthL_lt hkl]; exact List.getElem_mem _)
      rw [r0.1] at hlen
      rw [← hl0] at r0
      have HR0 := Lib.hid r0
      have HLE : Hid ((flatT (T.take k)).length + n' ≤ 1000000000000) := by have := HBD.out k hk; show _ ≤ _; omega
      have HLE2 : Hid ((flatT (T.take k) ++ l0).length + 1 ≤ 1000000000000) := by have := HBD.out k hk; have := HR0.out.1; show _ ≤ _; rw [List.length_append]; omega
      have HSZ : Hid (w.heap.size ≤ wr.heap.size) := HY.out.2.size
      clear hl0 hlen r0 hkl
      go_upto_region 6 with (at_builtin; refine wpAppI rfl _ _ rfl w.heap.size (.slice D dn dd) (flatT (T.take k)) l0 A' n' c' rfl rfl HY.out.1 HR0.out HLE.out HSZ.out ?_; intro v6 w6 o6 g6 k6)
      obtain ⟨D6, dn6, dd6, rfl, -⟩ := o6.form
      have HF6 : Hid (OI w6 w.heap.size (.slice D6 dn6 dd6) (flatT (T.take k) ++ l0) ∧ Below w.heap.size w w6) := ⟨o6, HY.out.2.grown g6 HSZ.out fun q hq => (HY.out.1.lt q hq).1⟩
      have HSZ6 : Hid (w.heap.size ≤ w6.heap.size) := HF6.out.2.size
      clear o6 g6 k6
      go_wp2_with (first
        | (at_builtin; refine wpApp1 rfl _ _ rfl w.heap.size (.slice D6 dn6 dd6) (flatT (T.take k) ++ l0) (-1) rfl HF6.out.1 rfl HLE2.out HSZ6.out ?_; intro v7 w7 o7 g7 k7)
        | fail)
      obtain ⟨D7, dn7, dd7, rfl, -⟩ := o7.form
      have HF7 : Hid (OI w7 w.heap.size (.slice D7 dn7 dd7) (flatT (T.take (k + 1))) ∧ Below w.heap.size w w7) := ⟨by rw [HT.out]; exact o7, HF6.out.2.grown g7 HSZ6.out fun q hq => (HF6.out.1.lt q hq).1⟩
      clear o7 g7 k7
      go_roundw
      case rel => exact ⟨k + 1, _, _, _, by omega, by go_num, rfl, HF7.out⟩
      case measure => simp [intOf]; omega
    · obtain rfl : k = n := by omega
      go_wp2_with fail
      go_ret
      have e : T.take k = T := List.take_of_length_le (by rw [HL.out]; omega)
      have h1 := HY.out.1
      have h2 := HBD.out k (Nat.le_refl _)
      rw [e] at h1 h2
      exact Makes.of h1 HY.out.2 (by omega)
def shapeT (T : List (List Int)) : List Int := T.map fun r => (r.length : Int)
theorem shapeT_len (T : List (List Int)) : (shapeT T).length = T.length := List.length_map ..
theorem nth_shapeT {T : List (List Int)} {k : Nat} (h : k < T.length) : nth (shapeT T) k = ((nthL T k).length : Int) := by
  rw [nth_lt (by rw [shapeT_len]; exact h), nthL_lt h]
  simp [shapeT]
set_option maxRecDepth 100000 in
set_option maxHeartbeats 1000000 in
theorem l4Shape_any {A : Option Addr} {n : Nat} {T : List (List Int)} {w : World} (c : Nat) (hx : RS w A n T) (hn : n ≤ 1000) :
    Calls Try.prog 74 #[.slice A n c] w (Makes w (shapeT T)) := by
  have HX := Lib.hid hx
  have HL : Hid (T.length = n) := hx.1
  have HLIT : Hid (OI (w.alloc (.cells #[] 3)) w.heap.size (.slice (some ⟨w.heap.size, 0, none⟩) 0 0) [] ∧ Below w.heap.size w (w.alloc (.cells #[] 3))) := by
    refine ⟨?_, (Below.refl _ _).alloc (Nat.le_refl _) _⟩
    have h := OI.lit w w.heap.size [] 0 rfl (Nat.le_refl _) (by simp)
    exact h
  clear hx
  go_enter Try.func74, Try.ntmps74
  go_wp2_with fail
  go_loopw [3, 4] (fun ov i wr => ∃ (k : Nat) (D : Option Addr) (dn dd : Nat), k ≤ n ∧ i = .int .i64 (k : Int) ∧ ov = .slice D dn dd ∧ Hid (OI wr w.heap.size (.slice D dn dd) ((shapeT T).take k) ∧ Below w.heap.size w wr)) (fun _ i _ => n - (intOf i).toNat)
  case atStart => exact ⟨0, _, _, _, Nat.zero_le _, rfl, rfl, by rw [List.take_zero]; exact HLIT.out⟩
  case round =>
    obtain ⟨k, D, dn, dd, hk, rfl, rfl, HY⟩ := hrel
    by_cases hlt : k < n
    · obtain ⟨ad, A', n', c', rfl, z0, r0, -⟩ := (HX.out.below HY.out.2).2 k hlt
      have hkl : k < (shapeT T).length := by rw [shapeT_len, HL.out]; exact hlt
      have HT : Hid ((shapeT T).take (k + 1) = (shapeT T).take k ++ [(n' : Int)]) := by show _ = _; rw [take_succ_nth hkl, nth_shapeT (by rw [HL.out]; exact hlt), r0.1]
      have HLE : Hid (((shapeT T).take k).length + 1 ≤ 1000000000000) := by show _ ≤ _; rw [List.length_take]; omega
      have HSZ : Hid (w.heap.size ≤ wr.heap.size) := HY.out.2.size
      clear r0 hkl
      go_wp2_with (first
        | (at_builtin; refine wpApp1 rfl _ _ rfl w.heap.size (.slice D dn dd) ((shapeT T).take k) (n' : Int) rfl (by exact HY.out.1) rfl HLE.out HSZ.out ?_; intro v7 w7 o7 g7 k7)
        | fail)
      obtain ⟨D7, dn7, dd7, rfl, -⟩ := o7.form
      have HF7 : Hid (OI w7 w.heap.size (.slice D7 dn7 dd7) ((shapeT T).take (k + 1)) ∧ Below w.heap.size w w7) := ⟨by rw [HT.out]; exact o7, HY.out.2.grown g7 HSZ.out fun q hq => (HY.out.1.lt q hq).1⟩
      clear o7 g7 k7
      go_roundw
      case rel => exact ⟨k + 1, _, _, _, by omega, by go_num, rfl, HF7.out⟩
      case measure => simp [intOf]; omega
    · obtain rfl : k = n := by omega
      go_wp2_with fail
      go_ret
      have e : (shapeT T).take k = shapeT T := List.take_of_length_le (by rw [shapeT_len, HL.out]; omega)
      have h1 := HY.out.1
      rw [e] at h1
      exact Makes.of h1 HY.out.2 (by rw [shapeT_len, HL.out]; omega)
end Go.Proofs.Ytgbojgmmingfdaa

/- Shapes of the tableaux of all reduced words, in plain words. -/
namespace Go.Proofs.Ytgbojgmmingfdaa
open Go.RowKit

/-- The tableaux of words, each once. -/
def distT (ws : List (List Int)) : List (List (List Int)) := ws.foldl (fun acc v => if egT v ∈ acc then acc else acc ++ [egT v]) []
def stanS (Ts : List (List (List Int))) : List (List Int × Int) := Ts.foldl (fun ps T => addP ps (shapeT T) 1) []
def stanR (l : List Int) : List (List Int × Int) := if redOk l then stanS (distT (redI 21 l)) else []
theorem distT_take {ws : List (List Int)} {k : Nat} (h : k < ws.length) : distT (ws.take (k + 1)) = if egT (nthL ws k) ∈ distT (ws.take k) then distT (ws.take k) else distT (ws.take k) ++ [egT (nthL ws k)] := by
  rw [show ws.take (k + 1) = ws.take k ++ [nthL ws k] by rw [nthL_lt h]; exact (List.take_append_getElem h).symm, distT, List.foldl_append]
  rfl
theorem distT_len (ws : List (List Int)) : ∀ k, k ≤ ws.length → (distT (ws.take k)).length ≤ k
  | 0, _ => by simp [distT]
  | k + 1, hk => by
    have ih := distT_len ws k (by omega)
    rw [distT_take (by omega)]
    split
    · omega
    · rw [List.length_append, List.length_singleton]; omega
theorem distT_of {ws : List (List Int)} : ∀ k, k ≤ ws.length → ∀ T ∈ distT (ws.take k), ∃ v ∈ ws, T = egT v
  | 0, _, T, hT => by simp [distT] at hT
  | k + 1, hk, T, hT => by
    rw [distT_take (by omega)] at hT
    split at hT
    · exact distT_of k (by omega) T hT
    · rcases List.mem_append.1 hT with hT | hT
      · exact distT_of k (by omega) T hT
      · exact ⟨nthL ws k, by rw [nthL_lt (by omega)]; exact List.getElem_mem _, List.mem_singleton.1 hT⟩
theorem RedOf.tab {l v : List Int} (h : RedOf l v) : TabOk 6 v.length (egT v) ∧ Low (egT v) := by
  have hw := h.word
  have hs := permB_size h.pm
  have hk := egT_ok (M := 6) (v := v) (fun x hx => by have := h.ok x hx; omega) v.length (Nat.le_refl _)
  rw [List.take_length] at hk
  refine ⟨hk, by have := hk.rows; omega, fun k hk2 => ?_⟩
  have := hk.cols (nthL (egT v) k) (by rw [nthL_lt hk2]; exact List.getElem_mem _)
  omega
theorem stanS_take {Ts : List (List (List Int))} {k : Nat} (h : k < Ts.length) : stanS (Ts.take (k + 1)) = addP (stanS (Ts.take k)) (shapeT (Ts.getD k [])) 1 := by
  rw [show Ts.take (k + 1) = Ts.take k ++ [Ts.getD k []] by rw [List.getD, List.getElem?_eq_getElem h]; exact (List.take_append_getElem h).symm, stanS, List.foldl_append]
  rfl
/-- What holds in the first loop. -/
structure StA (w wr : World) (wv av : Value) (ws : List (List Int)) (wc : List Value) (Ts : List (List (List Int))) (ac : List Value) : Prop where
  ws : OS wr w.heap.size w.heap.size wv ws wc
  al : O3 wr w.heap.size av Ts ac
  bel : Below w.heap.size w wr
section
variable {w w1 w2 : World} {wv av av' : Value} {ws : List (List Int)} {wc ac ac' : List Value} {Ts Ts' : List (List (List Int))}
theorem StA.below (h : StA w w1 wv av ws wc Ts ac) (b : Below w1.heap.size w1 w2) : StA w w2 wv av ws wc Ts ac := ⟨OF.below h.ws b, h.al.below b, h.bel.trans (b.mono h.bel.size)⟩
theorem StA.app (h : StA w w1 wv av ws wc Ts ac) (hg : w1.grownBy w2 av.ownBlock) (ho : O3 w2 w.heap.size av' Ts' ac') : StA w w2 wv av' ws wc Ts' ac' :=
  ⟨h.al.elsKept h.ws hg, ho, h.bel.grown hg h.bel.size fun k hk => (h.al.lt k hk).1⟩
end
theorem O3.keptE {w w' : World} {base : Nat} {v : Value} {Ts : List (List (List Int))} {cells : List Value} {row : Option Nat} (h : O3 w base v Ts cells) (hg : w.grownBy w' row) (hrow : ∀ g, row = some g → ∃ cs m, w.heap[g]? = some (.cells cs 47 m)) : O3 w' base v Ts cells := by
  refine ⟨World.ownsRow.kept h.row hg ?_, fun j T u h1 h2 => ?_⟩
  · rcases hq : v.ownBlock with _ | g
    · exact .inl rfl
    · refine .inr fun e => ?_
      obtain ⟨cs, m, h1⟩ := h.typed g hq
      obtain ⟨cs2, m2, h2⟩ := hrow g e.symm
      rw [h1] at h2
      injection h2 with h2
      injection h2 with _ h3
      exact absurd h3 (by decide)
  · obtain ⟨pc, h3⟩ := h.els j T u h1 h2
    refine ⟨pc, OF.kept h3 hg ?_ fun g e => ?_⟩
    · rcases hq : u.ownBlock with _ | g
      · exact .inl rfl
      · refine .inr fun e => ?_
        obtain ⟨cs, m, h4⟩ := OF.typed h3 g hq
        obtain ⟨cs2, m2, h5⟩ := hrow g e.symm
        rw [h4] at h5
        injection h5 with h5
        injection h5 with _ h6
        exact absurd h6 (by decide)
    · obtain ⟨cs, m, hh⟩ := hrow g e
      exact ⟨cs, _, m, hh, by decide⟩
/-- What holds in the second loop. -/
structure StB (w wr : World) (av ov : Value) (Ts : List (List (List Int))) (ac : List Value) (ps : List (List Int × Int)) (pc : List Value) : Prop where
  al : O3 wr w.heap.size av Ts ac
  ps : OP wr w.heap.size w.heap.size ov ps pc
  bel : Below w.heap.size w wr
section
variable {w w1 w2 : World} {av ov ov' : Value} {Ts : List (List (List Int))} {ac pc pc' : List Value} {ps ps' : List (List Int × Int)}
theorem StB.below (h : StB w w1 av ov Ts ac ps pc) (b : Below w1.heap.size w1 w2) : StB w w2 av ov Ts ac ps pc := ⟨h.al.below b, OP.below h.ps b, h.bel.trans (b.mono h.bel.size)⟩
theorem StB.grow (h : StB w w1 av ov Ts ac ps pc) (hg : w1.grownBy w2 ov.ownBlock) (ho : OP w2 w.heap.size w.heap.size ov' ps' pc') : StB w w2 av ov' Ts ac ps' pc' :=
  ⟨h.al.keptE hg (OF.typed h.ps), ho, h.bel.grown hg h.bel.size fun k hk => (OF.lt h.ps k hk).1⟩
end
theorem stanS_grows (Ts : List (List (List Int))) : ∀ k, k ≤ Ts.length → Grows (stanS (Ts.take k)) k
  | 0, _ => by simpa [stanS] using grows_nil
  | k + 1, hk => by
    rw [stanS_take (by omega)]
    exact (stanS_grows Ts k (by omega)).add _
theorem stanS_mem {Ts : List (List (List Int))} : ∀ k, k ≤ Ts.length → ∀ x ∈ stanS (Ts.take k), ∃ T ∈ Ts, x.1 = shapeT T
  | 0, _, x, hx => by simp [stanS] at hx
  | k + 1, hk, x, hx => by
    rw [stanS_take (by omega)] at hx
    have hT : Ts.getD k [] ∈ Ts := by rw [List.getD, List.getElem?_eq_getElem (by omega)]; exact List.getElem_mem _
    rcases addP_shapes (stanS_grows Ts k (by omega)).srt (fun y hy => ((stanS_grows Ts k (by omega)).cnt y hy).1) hx with e | ⟨y, hy, e⟩
    · exact ⟨_, hT, e⟩
    · obtain ⟨T, h1, h2⟩ := stanS_mem k (by omega) y hy
      exact ⟨T, h1, by rw [← e, h2]⟩
end Go.Proofs.Ytgbojgmmingfdaa
