/- FormatPerm of the program: a text of digits, another one for each permutation. -/
import Derived.Test.YtgbojgmmingfdaaBegW
import Derived.Maps.OwnSet
namespace Go.Proofs.Ytgbojgmmingfdaa
open Go.RowKit

def digC (x : Int) : UInt8 := (48 + x.toNat).toUInt8
theorem iDig_any {w : World} (x : Int) (h1 : 0 ≤ x) (h2 : x < 10) : Calls Try.prog 191 #[.int .i64 x] w (fun e w' => e = .returned (.string ⟨#[digC x]⟩) ∧ w' = w) := by
  have hx : x = 0 ∨ x = 1 ∨ x = 2 ∨ x = 3 ∨ x = 4 ∨ x = 5 ∨ x = 6 ∨ x = 7 ∨ x = 8 ∨ x = 9 := by omega
  rcases hx with rfl | rfl | rfl | rfl | rfl | rfl | rfl | rfl | rfl | rfl
  all_goals
    go_enter Try.func191, Try.ntmps191
    go_wp2
    go_ret
    exact ⟨by rfl, rfl⟩
theorem bytes_cat (a b : List UInt8) : (⟨a.toArray⟩ : ByteArray) ++ ⟨b.toArray⟩ = ⟨(a ++ b).toArray⟩ := ByteArray.mk_append_mk a b
theorem bytes_size (l : List UInt8) : (⟨l.toArray⟩ : ByteArray).size = l.length := rfl
/-- The text of a permutation. -/
def keyS (l : List Int) : List UInt8 := l.map fun x => digC (x + 1)
theorem digC_inj {x y : Int} (hx : 0 ≤ x ∧ x < 10) (hy : 0 ≤ y ∧ y < 10) (h : digC x = digC y) : x = y := by
  have h1 := congrArg UInt8.toNat h
  unfold digC at h1
  simp at h1
  omega
theorem keyS_inj : ∀ {a b : List Int}, (∀ x ∈ a, 0 ≤ x ∧ x < 7) → (∀ x ∈ b, 0 ≤ x ∧ x < 7) → keyS a = keyS b → a = b
  | [], [], _, _, _ => rfl
  | [], _ :: _, _, _, h => by simp [keyS] at h
  | _ :: _, [], _, _, h => by simp [keyS] at h
  | x :: a, y :: b, ha, hb, h => by
    have h1 := List.cons.inj (show digC (x + 1) :: keyS a = digC (y + 1) :: keyS b from h)
    have hx := ha x (by simp)
    have hy := hb y (by simp)
    have e := digC_inj (x := x + 1) (y := y + 1) (by omega) (by omega) h1.1
    rw [show x = y by omega, keyS_inj (fun z hz => ha z (List.mem_cons_of_mem _ hz)) (fun z hz => hb z (List.mem_cons_of_mem _ hz)) h1.2]
theorem keyS_perm {a b : List Int} (ha : permB a = true) (hb : permB b = true) (h : keyS a = keyS b) : a = b := by
  refine keyS_inj (fun x hx => ?_) (fun x hx => ?_) h
  · obtain ⟨j, hj, e⟩ := List.getElem_of_mem hx
    have h1 := permB_range ha hj
    have h2 := (permB_size ha).2
    rw [nth_lt hj, e] at h1
    omega
  · obtain ⟨j, hj, e⟩ := List.getElem_of_mem hx
    have h1 := permB_range hb hj
    have h2 := (permB_size hb).2
    rw [nth_lt hj, e] at h1
    omega
theorem bytes_add (s : List UInt8) (x : UInt8) : (⟨s.toArray⟩ : ByteArray) ++ (⟨#[x]⟩ : ByteArray) = ⟨(s ++ [x]).toArray⟩ := bytes_cat s [x]
set_option maxHeartbeats 1000000 in
theorem fmtPerm_any {A : Option Addr} {n : Nat} {l : List Int} {w : World} (c : Nat) (hx : RI w A n l) (hp : permB l = true) :
    Calls Try.prog 156 #[.slice A n c] w (GivesB w (.string ⟨(keyS l).toArray⟩)) := by
  have HL : Hid (l.length = n) := hx.1
  have hsz := permB_size hp
  rw [HL.out] at hsz
  have HP := Lib.hid hp
  have HX := Lib.hid hx
  have HIS : Hid (Calls Try.prog 94 #[.slice A n c] w (GivesB w (.bool true))) := by
    have h := isPerm_any (w := w) c hx (by omega)
    rw [hp] at h
    exact h
  clear hp hx
  go_enter Try.func156, Try.ntmps156
  go_wp2_with (first | (go_at_call 94; refine HIS.out.mono ?_; rintro e w1 ⟨rfl, b1⟩) | fail)
  have B1 := Lib.hid b1
  clear b1
  go_loopw [3, 5, 11] (fun sv _ i wr => ∃ (k : Nat) (s : List UInt8), k ≤ n ∧ i = .int .i64 (k : Int) ∧ sv = .string ⟨s.toArray⟩ ∧ Hid (s = keyS (l.take k)) ∧ Hid (Below w.heap.size w wr)) (fun _ _ i _ => n - (intOf i).toNat)
  case atStart => exact ⟨0, [], Nat.zero_le _, rfl, rfl, by show _ = _; simp [keyS], B1.out⟩
  case round =>
    obtain ⟨k, s, hk, rfl, rfl, HS, HB⟩ := hrel
    by_cases hlt : k < n
    · obtain ⟨ad, rfl, z0⟩ := (HX.out.below HB.out).cell hlt
      have hr := permB_range HP.out (k := k) (by rw [HL.out]; exact hlt)
      rw [HL.out] at hr
      obtain ⟨x, hxx⟩ : ∃ x, x = nth l k := ⟨_, rfl⟩
      rw [← hxx] at z0 hr
      have hw : IntKind.i64.wrap (x + 1) = x + 1 := IntWalk.i64_in _ (by omega)
      have HD : Hid (∀ W, Calls Try.prog 191 #[.int .i64 (x + 1)] W (fun e w' => e = .returned (.string ⟨#[digC (x + 1)]⟩) ∧ w' = W)) := fun W => iDig_any (x + 1) (by omega) (by omega)
      have hsl : s.length ≤ 7 := by rw [HS.out, keyS, List.length_map, List.length_take]; omega
      have hroom : ¬ 9223372036854775807 < s.length + 1 := by omega
      have HN : Hid (s ++ [digC (x + 1)] = keyS (l.take (k + 1))) := by
        show _ = _
        rw [take_succ_nth (by rw [HL.out]; exact hlt), HS.out, hxx]
        simp [keyS]
      have hcat := bytes_add s (digC (x + 1))
      have hz1 : (⟨s.toArray⟩ : ByteArray).size = s.length := rfl
      have hz2 : (⟨#[digC (x + 1)]⟩ : ByteArray).size = 1 := rfl
      clear hxx
      go_wp2_with (first | (go_at_call 191; refine (HD.out _).mono ?_; rintro e w3 ⟨rfl, rfl⟩) | fail)
      go_roundw
      case rel => exact ⟨k + 1, s ++ [digC (x + 1)], by omega, by go_num, by rw [← hcat], HN.out, HB.out⟩
      case measure => simp [intOf]; omega
    · obtain rfl : k = n := by omega
      go_wp2
      go_ret
      have e : s = keyS l := by rw [HS.out, List.take_of_length_le (by rw [HL.out]; omega)]
      rw [e]
      exact ⟨rfl, HB.out⟩
end Go.Proofs.Ytgbojgmmingfdaa

/- counted and CountReduced of the program: how many reduced words, with a map of what is known. -/
namespace Go.Proofs.Ytgbojgmmingfdaa
open Go.RowKit Go.WideMaps Go.Maps

theorem Try.lawStr : Go.Maps.Keyed Try.prog 9 := string_keyed Try.underlying9
theorem Try.zeroNum (w : World) : (zeroValue 3).run Try.prog w = .ok (.int .i64 0) w := by kernel_rfl
theorem redI_fuel {w : List Int} (hp : Prm w) {f g : Nat} (hf : fin' w ≤ f) (hg : fin' w ≤ g) : redI f w = redI g w := by
  refine red_sorted hp hg (g := dnv w) (Nat.le_refl _) (red_perm hp hf (Nat.le_refl _)) ((redI_up f w).imp fun {a b} h => ?_)
  rcases h3 : lexLt b a with _ | _
  · rfl
  · have := lex_trans h h3
    rw [lex_irr] at this; cases this
/-- How many reduced words. -/
def wordsN (l : List Int) : Nat := (redI 21 l).length
def sumW (l : List Int) (ks : List Nat) : Nat := (ks.map fun k => wordsN (vsw k l)).sum
theorem wordsN_one {l : List Int} (h : ldsL l = []) : wordsN l = 1 := by rw [wordsN, redI, if_pos h]; rfl
theorem wordsN_sum {l : List Int} (hp : permB l = true) (h : ldsL l ≠ []) : wordsN l = sumW l (ldsL l) := by
  rw [wordsN, redI, if_neg h, List.length_flatMap, sumW]
  congr 1
  refine List.map_congr_left fun k hk => ?_
  have hl := (mem_ldsL (prm_of hp)).1 hk
  have hv := (prm_of hp).vsw (ldes_lt (prm_of hp) hl)
  have h21 := fin_21 (permB_size hp).2
  have hf := fin_vsw (prm_of hp) hl
  rw [List.length_map, wordsN, redI_fuel hv (f := 20) (g := 21) (by omega) (by omega)]
theorem wordsN_le {l : List Int} (hp : permB l = true) : wordsN l ≤ 21936950640377856 := by
  have h := redI_count 21 l (permB_size hp).2
  have e : 6 ^ 21 = 21936950640377856 := by decide
  unfold wordsN
  omega
theorem sumW_take {l : List Int} {ks : List Nat} {k : Nat} (h : k < ks.length) : sumW l (ks.take (k + 1)) = sumW l (ks.take k) + wordsN (vsw ks[k] l) := by
  rw [sumW, List.take_succ_eq_append_getElem h, List.map_append, List.sum_append]; simp [sumW]
theorem sumW_le {l : List Int} {ks : List Nat} {k : Nat} (h : k ≤ ks.length) : sumW l (ks.take k) ≤ sumW l ks := by
  have e : sumW l ks = sumW l (ks.take k) + sumW l (ks.drop k) := by
    rw [sumW, sumW, sumW, ← List.sum_append, ← List.map_append, List.take_append_drop]
  omega
/-- How often a number can be put. -/
def putsN : Nat → Nat
  | 0 => 1
  | f + 1 => 1 + 6 * putsN f
theorem putsN_mono {f g : Nat} (h : f ≤ g) : putsN f ≤ putsN g := by
  induction h with
  | refl => exact Nat.le_refl _
  | step h ih => simp only [putsN]; omega
section
variable {H : Type}
/-- What is known is right. -/
def Known (D : DataW H) (n : Nat) : Prop := ∀ v : List Int, permB v = true → v.length = n → Maps.has D (.string (keyS v)) = true → D.atKey (.string (keyS v)) (.lit (.int .i64 0)) = .lit (.int .i64 (wordsN v))
theorem Known.put {D : DataW H} {n : Nat} (h : Known D n) (hD : IsMap D) {l : List Int} (hl : permB l = true) : Known (D.put (.string (keyS l)) (.lit (.int .i64 (wordsN l)))) n := fun v hv hn hh => by
  by_cases e : keyS v = keyS l
  · have e2 := keyS_perm hv hl e
    subst e2
    exact atKey_put_same hD (by trivial) _ _
  · have hne : (Lit.string (keyS v)) ≠ .string (keyS l) := fun h2 => e (by injection h2)
    rw [has_put_other hne] at hh
    rw [atKey_put_other hne]
    exact h v hv hn hh
/-- What counted leaves. -/
def CountR (H : Type) (w : World) (b m f n : Nat) (l : List Int) : Ending → World → Prop := fun e w' =>
  e = .returned (.int .i64 (wordsN l)) ∧ ∃ (m' : Nat) (D' : DataW H), w'.ownsMap Try.prog 9 (plainElem Try.prog 3) b m' D' ∧ Known D' n ∧ m' ≤ m + putsN f ∧ w.grownBy w' (some b)
theorem ownsMap_below {w w' : World} {b n : Nat} {D : DataW H} (h : w.ownsMap Try.prog 9 (plainElem Try.prog 3) b n D) (hb : Below w.heap.size w w') : w'.ownsMap Try.prog 9 (plainElem Try.prog 3) b n D :=
  h.kept (row := none) ⟨hb.os, hb.tape, hb.output, hb.size, fun k hk _ => hb.block k hk⟩ (by simp)
end
theorem OS.past {w w' : World} {b0 b : Nat} {v : Value} {ls : List (List Int)} {cells : List Value} (h : OS w b0 b0 v ls cells) (hg : w.grownBy w' (some b)) (hb : b < b0) : OS w' b0 b0 v ls cells :=
  OF.sameW h (fun k hk => hg.block k (OF.lt h k hk).2 fun e => by injection e with e; have := (OF.lt h k hk).1; omega) fun u hu k hk => hg.block k (h.2.1.ltD hu k hk).2 fun e => by injection e with e; have := (h.2.1.ltD hu k hk).1; omega
set_option maxRecDepth 100000 in
set_option maxHeartbeats 4000000 in
theorem counted_any (H : Type) : ∀ (f : Nat) (w : World) (A : Option Addr) (n c : Nat) (l : List Int) (b m : Nat) (D : DataW H), RI w A n l → permB l = true → fin' l ≤ f → f ≤ 21 →
    w.ownsMap Try.prog 9 (plainElem Try.prog 3) b m D → Known D n → m + putsN f ≤ 1000000000000000000 →
    Calls Try.prog 95 #[.slice A n c, .map (some b)] w (CountR H w b m f n l) := by
  intro f
  induction f using Nat.strongRecOn with
  | ind f ih =>
    intro w A n c l b m D hx hp hf hf21 hD hK hm
    have HL : Hid (l.length = n) := hx.1
    have HP : Hid (Prm l) := prm_of hp
    have HPB := Lib.hid hp
    have HX := Lib.hid hx
    have HF := Lib.hid hf
    have IH := Lib.hid ih
    have HK := Lib.hid hK
    have HD := Lib.hid hD
    have HM := Lib.hid hm
    have HLT : Hid (b < w.heap.size) := hD.lt
    have HBG : Hid (∀ W, Below w.heap.size w W → Calls Try.prog 157 #[.slice A n c] W (MakesB W l)) := fun W bW => beg_any c (hx.below bW) hp
    have HFM : Hid (Calls Try.prog 156 #[.slice A n c] w (GivesB w (.string ⟨(keyS l).toArray⟩))) := fmtPerm_any c hx hp
    have hkey : keyOf Try.prog 9 (.string ⟨(keyS l).toArray⟩) = some (.string (keyS l)) := by
      have h := keyOf_string_mk (P := Try.prog) Try.underlying9 (s := ⟨(keyS l).toArray⟩) (by
        have h1 := (permB_size hp).2
        show (keyS l).length ≤ maxLen
        rw [keyS, List.length_map]
        unfold maxLen
        omega)
      exact h
    have HKEY := Lib.hid hkey
    have HP1 : Hid (1 ≤ putsN f) := by show 1 ≤ putsN f; cases f <;> simp [putsN]
    clear hx hp ih hf hK hD hm hkey
    go_enter Try.func95, Try.ntmps95
    go_upto_region 3 with (first
      | (go_at_call 156; refine HFM.out.mono ?_; rintro e w1 ⟨rfl, b1⟩; have HD1 := Lib.hid (ownsMap_below HD.out b1))
      | (at_lookup; refine wpList_lookup_own_ok_int _ rfl _ _ 107 rfl 9 3 .i64 Try.lawStr Try.underlying107 Try.underlying3 (Try.zeroNum _) b m D rfl HD1.out _ _ rfl HKEY.out ?_; intro c0 hat hwc)
      | fail)
    have HAT := Lib.hid hat
    have HB1 := Lib.hid b1
    clear hat hwc b1
    rcases hh : Maps.has D (.string (keyS l)) with _ | _
    case true =>
      have HC : Hid (c0 = wordsN l) := by
        have h1 := HK.out l HPB.out HL.out hh
        rw [HAT.out] at h1
        injection h1 with h1
        injection h1
      go_wp2
      go_ret
      have hb1 := HB1.out
      exact ⟨by rw [HC.out]; rfl, m, D, HD1.out, HK.out, by omega, ⟨hb1.os, hb1.tape, hb1.output, hb1.size, fun k hk _ => hb1.block k hk⟩⟩
    clear hh HAT
    go_upto_region 6 with (first | (go_at_call 157; refine (HBG.out _ HB1.out).mono ?_; rintro e w2 ⟨A1, n1, c1, A2, n2, c2, rc, rfl, o1, o2, b2⟩) | fail)
    have HN2 : Hid ((ldsL l).length = n2) := by show _ = _; rw [← OS.lenS o2, List.length_map]
    have HB2 := Lib.hid (bnext HB1.out b2 HB1.out.size)
    have HD2 := Lib.hid (ownsMap_below HD1.out b2)
    have HLT1 : Hid (b < w1.heap.size) := Nat.lt_of_lt_of_le HLT.out HB1.out.size
    have HG2 : Hid (w.grownBy w2 (some b)) := ⟨HB2.out.os, HB2.out.tape, HB2.out.output, HB2.out.size, fun k hk _ => HB2.out.block k hk⟩
    have HO2 := Lib.hid o2
    clear o1 o2 b2
    by_cases hz : ldsL l = []
    · obtain rfl : n2 = 0 := by rw [← HN2.out, hz]; rfl
      have HW : Hid (wordsN l = 1) := wordsN_one hz
      clear hz
      have HVAL : Hid (plainElem (H := H) Try.prog 3 (.int .i64 1) = some (.lit (.int .i64 1), [])) := plainElem_int Try.underlying3 (by decide)
      have hml : Hid (m < maxLen) := by show m < maxLen; have := HM.out; unfold maxLen; omega
      go_wp2_with fail
      refine wp_loop_rounds 1 ?_
      simp only [Code.rounds]
      go_wp2_with (first
        | (at_mapUpdate; refine wpList_mapUpdate_in _ rfl _ _ _ 107 rfl 9 3 Try.lawStr Try.underlying107 _ b m D rfl HD2.out hml.out _ _ _ rfl rfl HKEY.out _ [] HVAL.out ?_; intro w5 hown5 hturn5)
        | fail)
      go_ret
      refine ⟨by rw [HW.out]; rfl, m + 1, _, hown5, ?_, by have := HP1.out; omega, grown_step HG2.out hturn5.grown (.inl rfl)⟩
      have h := HK.out.put HD.out.isMap HPB.out
      rw [HW.out] at h
      exact h
    · have HSUM : Hid (wordsN l = sumW l (ldsL l)) := wordsN_sum HPB.out hz
      have hpos : 0 < n2 := by rw [← HN2.out]; exact List.length_pos_iff.2 hz
      have hn6 : n2 ≤ 6 := by
        rw [← HN2.out]
        have h1 := (permB_size HPB.out).2
        have h2 : (ldsL l).length ≤ l.length - 1 := Nat.le_trans (List.length_filter_le _ _) (by simp)
        omega
      have hne : ((n2 : Int) == 0) = false := by simp; omega
      have HF1 : Hid (1 ≤ f ∧ putsN f = 1 + 6 * putsN (f - 1)) := by
        obtain ⟨k, hk⟩ : ∃ k, k ∈ ldsL l := List.exists_mem_of_ne_nil _ hz
        have h1 := fin_vsw HP.out ((mem_ldsL HP.out).1 hk)
        have h2 := HF.out
        show _ ∧ _
        cases f with
        | zero => omega
        | succ f => exact ⟨by omega, rfl⟩
      clear hz
      go_wp2_with fail
      go_loopw [10, 33] (fun zv iv wr => ∃ (k z m' : Nat) (D' : DataW H), k ≤ n2 ∧ iv = .int .i64 (k : Int) ∧ zv = .int .i64 (z : Int) ∧ z ≤ 21936950640377856 ∧ Hid (z = sumW l ((ldsL l).take k)) ∧ Hid (wr.ownsMap Try.prog 9 (plainElem Try.prog 3) b m' D' ∧ Known D' n ∧ m' ≤ m + k * putsN (f - 1) ∧ w.grownBy wr (some b) ∧ OS wr w1.heap.size w1.heap.size (.slice A2 n2 c2) ((ldsL l).map fun k => vsw k l) rc)) (fun _ iv _ => n2 - (intOf iv).toNat)
      case atStart => exact ⟨0, 0, m, D, Nat.zero_le _, rfl, rfl, by omega, by show _ = _; simp [sumW], HD2.out, HK.out, by omega, HG2.out, HO2.out⟩
      case round =>
        obtain ⟨k, z, m', D', hk, rfl, rfl, hz, HZ, HY⟩ := hrel
        by_cases hlt : k < n2
        · have hkl : k < (ldsL l).length := by rw [HN2.out]; exact hlt
          obtain ⟨j, hj⟩ : ∃ j, j = (ldsL l)[k] := ⟨_, rfl⟩
          have hjl : ldes l j := by rw [hj]; exact (mem_ldsL HP.out).1 (List.getElem_mem hkl)
          obtain ⟨ad, A3, n3, c3, rfl, z1, -, o3, -⟩ := OS.cell HY.out.2.2.2.2 (k := k) hlt
          rw [nthL_map hkl, ← hj] at o3
          have HST : Hid (sumW l ((ldsL l).take (k + 1)) = z + wordsN (vsw j l) ∧ sumW l ((ldsL l).take (k + 1)) ≤ 21936950640377856) := by
            refine ⟨by rw [sumW_take hkl, HZ.out, hj], ?_⟩
            have h1 := sumW_le (l := l) (ks := ldsL l) (k := k + 1) (by omega)
            have h2 := wordsN_le HPB.out
            rw [HSUM.out] at h2
            omega
          have hn3 : n3 = n := by rw [← o3.ri.1, vsw_len]; exact HL.out
          have HRC : Hid (Calls Try.prog 95 #[.slice A3 n3 c3, .map (some b)] wr (CountR H wr b m' (f - 1) n3 (vsw j l))) := by
            have h1 := fin_vsw HP.out hjl
            have h2 := HF.out
            have h3 := HF1.out
            have h4 := HM.out
            have h5 := HY.out.2.2.1
            have hkn : Known D' n3 := by rw [hn3]; exact HY.out.2.1
            have h6 : k * putsN (f - 1) ≤ 5 * putsN (f - 1) := Nat.mul_le_mul_right _ (by omega)
            exact IH.out (f - 1) (by omega) wr A3 n3 c3 (vsw j l) b m' D' o3.ri (permB_vsw HPB.out hjl) (by omega) (by omega) HY.out.1 hkn (by omega)
          obtain ⟨q, hq⟩ : ∃ q, q = wordsN (vsw j l) := ⟨_, rfl⟩
          have HQ := Lib.hid hq
          have HRC2 : Hid (Calls Try.prog 95 #[.slice A3 n3 c3, .map (some b)] wr (fun e w' => e = .returned (.int .i64 (q : Int)) ∧ Hid (∃ (m'' : Nat) (D'' : DataW H), w'.ownsMap Try.prog 9 (plainElem Try.prog 3) b m'' D'' ∧ Known D'' n ∧ m'' ≤ m' + putsN (f - 1) ∧ wr.grownBy w' (some b)))) := by
            refine HRC.out.mono ?_
            rintro e w' ⟨rfl, m'', D'', g1, g2, g3, g4⟩
            have g5 : Known D'' n := by rw [← hn3]; exact g2
            exact ⟨by rw [hq], m'', D'', g1, g5, g3, g4⟩
          rw [← hq] at HST
          have hw : IntKind.i64.wrap ((z : Int) + (q : Int)) = (z : Int) + (q : Int) := IntWalk.i64_in _ (by have := HST.out; omega)
          clear hn3 hj hjl o3 hq HRC
          go_wp2_with (first | (go_at_call 95; refine HRC2.out.mono ?_; rintro e w4 ⟨rfl, HW4⟩) | fail)
          go_roundw
          case rel =>
            obtain ⟨m'', D'', g1, g2, g3, g4⟩ := HW4.out
            refine ⟨k + 1, z + q, m'', D'', by omega, by go_num, by go_num, by have := HST.out; omega, by show _ = _; rw [HST.out.1], g1, g2, ?_, grown_step HY.out.2.2.2.1 g4 (.inl rfl), OS.past HY.out.2.2.2.2 g4 HLT1.out⟩
            have h1 := HY.out.2.2.1
            rw [Nat.add_mul, Nat.one_mul]
            omega
          case measure => simp [intOf]; omega
        · obtain rfl : k = n2 := by omega
          have HZW : Hid (z = wordsN l) := by show _ = _; rw [HZ.out, HSUM.out, List.take_of_length_le (by rw [HN2.out]; omega)]
          have HVAL : Hid (plainElem (H := H) Try.prog 3 (.int .i64 (z : Int)) = some (.lit (.int .i64 (z : Int)), [])) := plainElem_int Try.underlying3 (WalkArith.wf_i64 (by omega))
          have hml : Hid (m' < maxLen) := by
            show m' < maxLen
            have h1 := HM.out
            have h2 := HY.out.2.2.1
            have h3 := HF1.out.2
            have h6 : k * putsN (f - 1) ≤ 6 * putsN (f - 1) := Nat.mul_le_mul_right _ (by omega)
            unfold maxLen
            omega
          go_wp2_with (first
            | (at_mapUpdate; refine wpList_mapUpdate_in _ rfl _ _ _ 107 rfl 9 3 Try.lawStr Try.underlying107 _ b m' D' rfl HY.out.1 hml.out _ _ _ rfl rfl HKEY.out _ [] HVAL.out ?_; intro w5 hown5 hturn5)
            | fail)
          go_ret
          refine ⟨by rw [← HZW.out]; rfl, m' + 1, _, hown5, ?_, ?_, grown_step HY.out.2.2.2.1 hturn5.grown (.inl rfl)⟩
          · rw [HZW.out]
            exact HY.out.2.1.put HY.out.1.isMap HPB.out
          · have h2 := HY.out.2.2.1
            have h3 := HF1.out.2
            have h6 : k * putsN (f - 1) ≤ 6 * putsN (f - 1) := Nat.mul_le_mul_right _ (by omega)
            omega
end Go.Proofs.Ytgbojgmmingfdaa

/- CountReduced and ReducedWords of the program. -/
namespace Go.Proofs.Ytgbojgmmingfdaa
open Go.RowKit Go.WideMaps Go.Maps

def countRB (l : List Int) : Int := if permB l then (wordsN l : Int) else -1
set_option maxRecDepth 100000 in
set_option maxHeartbeats 1000000 in
theorem iCountRed_any {A : Option Addr} {n : Nat} {l : List Int} {w : World} (c : Nat) (hx : RI w A n l) (hn : n ≤ 1000000000) :
    Calls Try.prog 28 #[.slice A n c] w (GivesB w (.int .i64 (countRB l))) := by
  have hmm := fun t w => run_makeMap (P := Try.prog) t w
  have HIS : Hid (Calls Try.prog 94 #[.slice A n c] w (GivesB w (.bool (permB l)))) := isPerm_any (w := w) c hx hn
  rcases hp : permB l with _ | _
  · have HE : Hid (countRB l = -1) := by show _ = _; rw [countRB, hp]; rfl
    rw [hp] at HIS
    go_enter Try.func28, Try.ntmps28
    go_wp2_with (first | (go_at_call 94; refine HIS.out.mono ?_; rintro e w1 ⟨rfl, b1⟩) | fail)
    go_ret
    exact ⟨by rw [HE.out]; rfl, b1⟩
  · have HE : Hid (countRB l = wordsN l) := by show _ = _; rw [countRB, hp]; rfl
    have HCT : Hid (∀ W, Below w.heap.size w W → Calls Try.prog 95 #[.slice A n c, .map (some W.heap.size)] (W.alloc (.map #[] 0)) (GivesB W (.int .i64 (wordsN l)))) := fun W bW => by
      have hb2 : Below W.heap.size W (W.alloc (.map #[] 0)) := (Below.refl _ _).alloc (Nat.le_refl _) _
      have hpn : putsN 21 ≤ 1000000000000000000 := by decide
      have h := counted_any Unit 21 (W.alloc (.map #[] 0)) A n c l W.heap.size 0 (.map []) (hx.below (bW.trans (hb2.mono bW.size))) hp (fin_21 (permB_size hp).2) (Nat.le_refl _) (World.ownsMap_made _ _ _ _) (fun v _ _ hh => by simp [Maps.has] at hh) (by omega)
      refine h.mono ?_
      rintro e w' ⟨rfl, m', D', -, -, -, g4⟩
      exact ⟨rfl, hb2.grown g4 hb2.size fun k hk => by injection hk; omega⟩
    rw [hp] at HIS
    clear hx hp
    go_enter Try.func28, Try.ntmps28
    go_wp2_with (first
      | (go_at_call 94; refine HIS.out.mono ?_; rintro e w1 ⟨rfl, b1⟩; have B1 := Lib.hid b1)
      | (go_at_call 95; refine (HCT.out _ B1.out).mono ?_; rintro e w2 ⟨rfl, b2⟩)
      | fail)
    go_ret
    exact ⟨by rw [HE.out]; rfl, bnext B1.out b2 B1.out.size⟩
/-- A slice of slices and a bool. -/
def MakesSb (w : World) (ls : List (List Int)) (ok : Bool) : Ending → World → Prop := fun e w' =>
  ∃ A n c cells, e = .returned (.tuple #[.slice A n c, .bool ok]) ∧ OS w' w.heap.size w.heap.size (.slice A n c) ls cells ∧ ls.length = n ∧ (n ≤ c ∧ c ≤ 9223372036854775807) ∧ Below w.heap.size w w'
def redOk (l : List Int) : Bool := permB l && decide (wordsN l ≤ 800)
def redB (l : List Int) : List (List Int) := if redOk l then redI 21 l else []
set_option maxRecDepth 100000 in
set_option maxHeartbeats 1000000 in
theorem iRed_any {A : Option Addr} {n : Nat} {l : List Int} {w : World} (c : Nat) (hx : RI w A n l) (hn : n ≤ 1000000000) :
    Calls Try.prog 75 #[.slice A n c] w (MakesSb w (redB l) (redOk l)) := by
  have HCR : Hid (Calls Try.prog 28 #[.slice A n c] w (GivesB w (.int .i64 (countRB l)))) := iCountRed_any c hx hn
  obtain ⟨z, hz⟩ : ∃ z, z = countRB l := ⟨_, rfl⟩
  rw [← hz] at HCR
  have HZ := Lib.hid hz
  have HX := Lib.hid hx
  clear hz hx
  by_cases h0 : z < 0
  · have HE : Hid (redOk l = false) := by
      show _ = _
      have h := HZ.out
      rw [countRB] at h
      split at h
      · omega
      · rename_i hp
        simp only [Bool.not_eq_true] at hp
        rw [redOk, hp]; rfl
    have h0' : decide (z < 0) = true := decide_eq_true h0
    clear h0
    go_enter Try.func75, Try.ntmps75
    go_wp2_with (first | (go_at_call 28; refine HCR.out.mono ?_; rintro e w1 ⟨rfl, b1⟩) | fail)
    go_ret2
    rw [redB, HE.out]
    exact ⟨_, _, _, [], rfl, OF.nil_ _ _ _ _ _, rfl, by omega, b1⟩
  · have HP : Hid (permB l = true ∧ z = wordsN l) := by
      have h := HZ.out
      rw [countRB] at h
      split at h
      · rename_i hp; exact ⟨hp, h⟩
      · omega
    have h0' : decide (z < 0) = false := decide_eq_false h0
    by_cases h8 : 800 < z
    · have HE : Hid (redOk l = false) := by
        show _ = _
        rw [redOk, HP.out.1, decide_eq_false (by have := HP.out.2; omega)]; rfl
      have h8' : decide (800 < z) = true := decide_eq_true h8
      clear h0 h8
      go_enter Try.func75, Try.ntmps75
      go_wp2_with (first | (go_at_call 28; refine HCR.out.mono ?_; rintro e w1 ⟨rfl, b1⟩) | fail)
      go_ret2
      rw [redB, HE.out]
      exact ⟨_, _, _, [], rfl, OF.nil_ _ _ _ _ _, rfl, by omega, b1⟩
    · have HE : Hid (redOk l = true) := by
        show _ = _
        rw [redOk, HP.out.1, decide_eq_true (by have := HP.out.2; omega)]; rfl
      have h8' : decide (800 < z) = false := decide_eq_false h8
      have HAR : Hid (∀ W, Below w.heap.size w W → Calls Try.prog 145 #[.slice A n c] W (MakesS W (redI 21 l))) := fun W bW =>
        allRed_any 21 W A n c l (HX.out.below bW) HP.out.1 (fin_21 (permB_size HP.out.1).2) (by have := HP.out.2; unfold wordsN at this; omega)
      clear h0 h8
      go_enter Try.func75, Try.ntmps75
      go_wp2_with (first
        | (go_at_call 28; refine HCR.out.mono ?_; rintro e w1 ⟨rfl, b1⟩; have B1 := Lib.hid b1)
        | (go_at_call 145; refine (HAR.out _ B1.out).mono ?_; rintro e w2 ⟨A2, n2, c2, cs, rfl, o2, l2, q2, b2⟩)
        | fail)
      go_ret2
      rw [redB, HE.out]
      exact ⟨_, _, _, cs, rfl, OF.mono o2 B1.out.size B1.out.size, l2, q2, bnext B1.out b2 B1.out.size⟩
end Go.Proofs.Ytgbojgmmingfdaa
