/- Words of the program: IdentityPerm, isWord, WordPerm, isReduced at words that are right. -/
import Derived.Test.YtgbojgmmingfdaaAllW
namespace Go.Proofs.Ytgbojgmmingfdaa
open Go.RowKit

/-- The identity. -/
def idn (n : Nat) : List Int := gen (fun i => (i : Int)) n
theorem idn_len (n : Nat) : (idn n).length = n := gen_len _ _
theorem nth_idn {n j : Nat} (h : j < n) : nth (idn n) j = j := nth_gen h
set_option maxHeartbeats 1000000 in
theorem iIdent_any {w : World} (n : Nat) (hn : 1 ≤ n ∧ n ≤ 7) : Calls Try.prog 98 #[.int .i64 (n : Int)] w (Makes w (idn n)) := by
  have hlo : decide (1 ≤ (n : Int)) = true := decide_eq_true (by omega)
  have hhi : decide ((n : Int) ≤ 7) = true := decide_eq_true (by omega)
  have HSI : Hid (∀ W, Calls Try.prog 159 #[.int .i64 (n : Int)] W (Gives W (.bool true))) := fun W => by
    go_enter Try.func159, Try.ntmps159
    go_wp2
    go_ret
    exact ⟨rfl, (by first | exact ⟨_, rfl⟩ | exact ⟨_, (World.drewN_drewN _ _ _).symm⟩ | exact Quiet.refl _ | (simp only [World.drewN_drewN]; exact ⟨_, rfl⟩))⟩
  go_enter Try.func98, Try.ntmps98
  go_wp2_with (first
    | (go_at_call 159; refine (HSI.out _).mono ?_; rintro e w1 ⟨rfl, q0, rfl⟩)
    | (at_make; refine wpMake rfl _ _ rfl n _ _ rfl rfl rfl rfl (by omega) ?_; intro w2 o2 b2 s2)
    | fail)
  have g2 : Below w.heap.size w w2 := by
    have h : Below w.heap.size w (w.drewN q0) := below_drewN (Below.refl _ _) _
    exact bnext h b2 h.size
  have o2' : OI w2 w.heap.size (.slice (some ⟨w.heap.size, 0, none⟩) n n) (List.replicate n 0) := by simpa using o2
  have O2 : Hid (OI w2 w.heap.size (.slice (some ⟨w.heap.size, 0, none⟩) n n) (List.replicate n 0) ∧ Below w.heap.size w w2) := ⟨o2', g2⟩
  clear o2 o2' b2 s2 g2
  go_wp2_with fail
  go_loopw [4, 12] (fun _ i wr => ∃ (k : Nat) (o : List Int), k ≤ n ∧ i = .int .i64 (k : Int) ∧ Hid (OI wr w.heap.size (.slice (some ⟨w.heap.size, 0, none⟩) n n) o ∧ Below w.heap.size w wr ∧ ∀ j, j < k → nth o j = j)) (fun _ i _ => n - (intOf i).toNat)
  case atStart => exact ⟨0, _, Nat.zero_le _, rfl, O2.out.1, O2.out.2, fun j hj => by omega⟩
  case round =>
    clear O2
    obtain ⟨k, o, hk, rfl, HY⟩ := hrel
    by_cases hlt : k < n
    · have hoc := HY.out.1.cellAt hlt
      have hof := HY.out.1.frozenAt k
      have HS : Hid (OI (wr.setCell ⟨w.heap.size, k, none⟩ (.int .i64 (k : Int))) w.heap.size (.slice (some ⟨w.heap.size, 0, none⟩) n n) (o.set k k) ∧ Below w.heap.size w (wr.setCell ⟨w.heap.size, k, none⟩ (.int .i64 (k : Int))) ∧ ∀ j, j < k + 1 → nth (o.set k (k : Int)) j = j) := by
        refine ⟨(HY.out.1.stored k k).1, HY.out.2.1.setCell (Nat.le_refl _) _, fun j hj => ?_⟩
        by_cases h : j = k
        · subst h
          rw [nth_set_eq]
          have := HY.out.1.len
          omega
        · rw [nth_set_ne (by omega), HY.out.2.2 j (by omega)]
      go_wp2
      go_roundw
      case rel => exact ⟨k + 1, _, by omega, by go_num, HS.out⟩
      case measure => simp [intOf]; omega
    · obtain rfl : k = n := by omega
      go_wp2
      go_ret
      have e : o = idn k := by
        have hol := HY.out.1.len
        refine ext_nth (by rw [idn_len, hol]) fun j hj => ?_
        rw [hol] at hj
        rw [nth_idn hj, HY.out.2.2 j hj]
      rw [← e]
      exact Makes.of HY.out.1 HY.out.2.1 (by rw [HY.out.1.len]; omega)
/-- A word for n. -/
def WordOk (n : Nat) (v : List Int) : Prop := v.length ≤ 60 ∧ ∀ j, j < v.length → 0 ≤ nth v j ∧ nth v j + 1 < n
set_option maxHeartbeats 1000000 in
theorem isWord_any {A : Option Addr} {m : Nat} {v : List Int} {w : World} (c n : Nat) (hn : 1 ≤ n ∧ n ≤ 7) (hx : RI w A m v) (hv : WordOk n v) :
    Calls Try.prog 97 #[.int .i64 (n : Int), .slice A m c] w (Gives w (.bool true)) := by
  have HL : Hid (v.length = m) := hx.1
  have HX := Lib.hid hx
  have HV := Lib.hid hv
  have hlo : decide (1 ≤ (n : Int)) = true := decide_eq_true (by omega)
  have hhi : decide ((n : Int) ≤ 7) = true := decide_eq_true (by omega)
  have HSI : Hid (∀ W, Calls Try.prog 159 #[.int .i64 (n : Int)] W (Gives W (.bool true))) := fun W => by
    go_enter Try.func159, Try.ntmps159
    go_wp2
    go_ret
    exact ⟨rfl, (by first | exact ⟨_, rfl⟩ | exact ⟨_, (World.drewN_drewN _ _ _).symm⟩ | exact Quiet.refl _ | (simp only [World.drewN_drewN]; exact ⟨_, rfl⟩))⟩
  have hm60 : m ≤ 60 := by rw [← HL.out]; exact hv.1
  have hm60' : decide ((m : Int) ≤ 60) = true := decide_eq_true (by omega)
  have hw2 : IntKind.i64.wrap ((n : Int) - 2) = (n : Int) - 2 := IntWalk.i64_in _ (by omega)
  clear hx hv
  go_enter Try.func97, Try.ntmps97
  go_wp2
  go_loopw [6, 9] (fun _ i wr => ∃ k : Nat, k ≤ m ∧ i = .int .i64 (k : Int) ∧ Quiet w wr) (fun _ i _ => m - (intOf i).toNat)
  case atStart => exact ⟨0, Nat.zero_le _, rfl, (by first | exact ⟨_, rfl⟩ | exact ⟨_, (World.drewN_drewN _ _ _).symm⟩ | exact Quiet.refl _ | (simp only [World.drewN_drewN]; exact ⟨_, rfl⟩))⟩
  case round =>
    obtain ⟨k, hk, rfl, ⟨q, rfl⟩⟩ := hrel
    by_cases hlt : k < m
    · obtain ⟨ad, rfl, z0⟩ := HX.out.cell hlt
      have hr := HV.out.2 k (by rw [HL.out]; exact hlt)
      obtain ⟨x, hxx⟩ : ∃ x, x = nth v k := ⟨_, rfl⟩
      rw [← hxx] at z0 hr
      have d0 : decide (x < 0) = false := decide_eq_false (by omega)
      have d1 : decide ((n : Int) - 2 < x) = false := decide_eq_false (by omega)
      clear hxx
      go_wp2
      go_roundw
      case rel => exact ⟨k + 1, by omega, by go_num, (by first | exact ⟨_, rfl⟩ | exact ⟨_, (World.drewN_drewN _ _ _).symm⟩ | exact Quiet.refl _ | (simp only [World.drewN_drewN]; exact ⟨_, rfl⟩))⟩
      case measure => simp [intOf]; omega
    · go_wp2_with (first | (go_at_call 159; refine (HSI.out _).mono ?_; rintro e w1 ⟨rfl, q0, rfl⟩) | fail)
      go_ret
      exact ⟨rfl, (by first | exact ⟨_, rfl⟩ | exact ⟨_, (World.drewN_drewN _ _ _).symm⟩ | exact Quiet.refl _ | (simp only [World.drewN_drewN]; exact ⟨_, rfl⟩))⟩
theorem playL_take {u v : List Int} {k : Nat} (h : k < v.length) : playL u (v.take (k + 1)) = swN (nth v k).toNat (playL u (v.take k)) := by
  rw [take_succ_nth h, playL_snoc]
theorem playL_len (u v : List Int) : (playL u v).length = u.length := by
  unfold playL
  induction v generalizing u with
  | nil => rfl
  | cons x v ih => rw [List.foldl_cons, ih, swN_len]
set_option maxRecDepth 100000 in
set_option maxHeartbeats 1000000 in
theorem iWordPerm_any {A : Option Addr} {m : Nat} {v : List Int} {w : World} (c n : Nat) (hn : 1 ≤ n ∧ n ≤ 7) (hx : RI w A m v) (hv : WordOk n v) :
    Calls Try.prog 31 #[.int .i64 (n : Int), .slice A m c] w (Makes w (playL (idn n) v)) := by
  have HL : Hid (v.length = m) := hx.1
  have HX := Lib.hid hx
  have HV := Lib.hid hv
  have HIW : Hid (Calls Try.prog 97 #[.int .i64 (n : Int), .slice A m c] w (Gives w (.bool true))) := isWord_any c n hn hx hv
  have HID : Hid (∀ W, Calls Try.prog 98 #[.int .i64 (n : Int)] W (Makes W (idn n))) := fun W => iIdent_any n hn
  have HN := Lib.hid hn
  have hm60 : m ≤ 60 := by rw [← HL.out]; exact hv.1
  clear hx hv
  go_enter Try.func31, Try.ntmps31
  go_wp2_with (first
    | (go_at_call 97; refine HIW.out.mono ?_; rintro e w1 ⟨rfl, q1, rfl⟩)
    | (go_at_call 98; refine (HID.out _).mono ?_; rintro e w2 ⟨A2, n2, c2, rfl, o2, r2, -, b2⟩)
    | fail)
  have HB2 : Hid (Below w.heap.size w w2) := by
    have h : Below w.heap.size w (w.drewN q1) := below_drewN (Below.refl _ _) _
    exact bnext h b2 h.size
  have HO2 : Hid (OI w2 w.heap.size (.slice A2 n2 c2) (idn n)) := by
    have h : OI w2 w.heap.size (.slice A2 n2 c2) (idn n) := by simpa using o2
    exact h
  clear o2 r2 b2
  go_loopw [5, 7, 16] (fun ov _ i wr => ∃ (k : Nat) (B : Option Addr) (bn bd : Nat), k ≤ m ∧ i = .int .i64 (k : Int) ∧ ov = .slice B bn bd ∧ Hid (OI wr w.heap.size (.slice B bn bd) (playL (idn n) (v.take k)) ∧ Below w.heap.size w wr)) (fun _ _ i _ => m - (intOf i).toNat)
  case atStart => exact ⟨0, _, _, _, Nat.zero_le _, rfl, rfl, by simpa [playL] using HO2.out, HB2.out⟩
  case round =>
    obtain ⟨k, B, bn, bd, hk, rfl, rfl, HY⟩ := hrel
    by_cases hlt : k < m
    · obtain ⟨ad, rfl, z0⟩ := (HX.out.below HY.out.2).cell hlt
      have hr := HV.out.2 k (by rw [HL.out]; exact hlt)
      obtain ⟨x, hxx⟩ : ∃ x : Nat, nth v k = (x : Int) := ⟨(nth v k).toNat, by omega⟩
      rw [hxx] at z0 hr
      have hbl : (playL (idn n) (v.take k)).length = n := by rw [playL_len, idn_len]
      have hbn : Hid (bn = n) := by show _ = _; rw [← HY.out.1.ri.1]; exact hbl
      have hn7 := HN.out
      have HPL : Hid (playL (idn n) (v.take (k + 1)) = swN x (playL (idn n) (v.take k))) := by
        show _ = _
        rw [playL_take (by rw [HL.out]; exact hlt), hxx, Int.toNat_natCast]
      have HEX : Hid (Calls Try.prog 99 #[.slice B bn bd, .int .i64 (x : Int), .int .i64 ((x : Int) + 1)] wr (Makes wr (playL (idn n) (v.take (k + 1))))) := by
        have h := exchanged_any (w := wr) bd x (x + 1) HY.out.1.ri (by rw [hbn.out]; omega) (by rw [hbn.out]; omega) (by rw [hbn.out]; omega) (by omega)
        rw [swapL_swN x _ (by rw [hbl]; omega), ← HPL.out] at h
        exact h
      have hw1 : IntKind.i64.wrap ((x : Int) + 1) = (x : Int) + 1 := IntWalk.i64_in _ (by omega)
      clear hbl hxx
      go_wp2_with (first | (go_at_call 99; refine HEX.out.mono ?_; rintro e w4 ⟨A4, n4, c4, rfl, o4, r4, -, b4⟩) | fail)
      have HF : Hid (OI w4 w.heap.size (.slice A4 n4 c4) (playL (idn n) (v.take (k + 1))) ∧ Below w.heap.size w w4) := ⟨o4.mono HY.out.2.size, bnext HY.out.2 b4 HY.out.2.size⟩
      clear o4 r4 b4
      go_roundw
      case rel => exact ⟨k + 1, _, _, _, by omega, by go_num, rfl, HF.out⟩
      case measure => simp [intOf]; omega
    · obtain rfl : k = m := by omega
      go_wp2_with fail
      go_ret
      have e : v.take k = v := List.take_of_length_le (by rw [HL.out]; omega)
      have h1 := HY.out.1
      rw [e] at h1
      exact Makes.of h1 HY.out.2 (by rw [playL_len, idn_len]; have := HN.out; omega)
end Go.Proofs.Ytgbojgmmingfdaa
