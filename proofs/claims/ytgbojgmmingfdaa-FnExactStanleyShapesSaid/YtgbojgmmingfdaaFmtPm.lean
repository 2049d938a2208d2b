/- FormatPerm of the program: a text of digits, another one for each permutation. -/
import Derived.Test.YtgbojgmmingfdaaAllW
namespace Go.Proofs.Ytgbojgmmingfdaa
open Go.RowKit

def digC (x : Int) : UInt8 := (48 + x.toNat).toUInt8
theorem iDig_any {w : World} (x : Int) (h1 : 0 ≤ x) (h2 : x < 10) : Calls Try.prog 191 #[.int .i64 x] w (fun e w' => e = .returned (.string ⟨#[digC x]⟩) ∧ w' = w) := by
  have hx : x = 0 ∨ x = 1 ∨ x = 2 ∨ x = 3 ∨ x = 4 ∨ x = 5 ∨ x = 6 ∨ x = 7 ∨ x = 8 ∨ x = 9 := by omega
  rcases hx with rfl | rfl | rfl | rfl | rfl | rfl | rfl | rfl | rfl | rfl
  all_goals
    go_enter Try.func191, Try.ntmps191
    go_wp2
    go_ret
    exact ⟨by rfl, rfl⟩
theorem bytes_cat (a b : List UInt8) : (⟨a.toArray⟩ : ByteArray) ++ ⟨b.toArray⟩ = ⟨(a ++ b).toArray⟩ := ByteArray.mk_append_mk a b
theorem bytes_size (l : List UInt8) : (⟨l.toArray⟩ : ByteArray).size = l.length := rfl
/-- The text of a permutation. -/
def keyS (l : List Int) : List UInt8 := l.map fun x => digC (x + 1)
theorem digC_inj {x y : Int} (hx : 0 ≤ x ∧ x < 10) (hy : 0 ≤ y ∧ y < 10) (h : digC x = digC y) : x = y := by
  have h1 := congrArg UInt8.toNat h
  unfold digC at h1
  simp at h1
  omega
theorem keyS_inj : ∀ {a b : List Int}, (∀ x ∈ a, 0 ≤ x ∧ x < 7) → (∀ x ∈ b, 0 ≤ x ∧ x < 7) → keyS a = keyS b → a = b
  | [], [], _, _, _ => rfl
  | [], _ :: _, _, _, h => by simp [keyS] at h
  | _ :: _, [], _, _, h => by simp [keyS] at h
  | x :: a, y :: b, ha, hb, h => by
    have h1 := List.cons.inj (show digC (x + 1) :: keyS a = digC (y + 1) :: keyS b from h)
    have hx := ha x (by simp)
    have hy := hb y (by simp)
    have e := digC_inj (x := x + 1) (y := y + 1) (by omega) (by omega) h1.1
    rw [show x = y by omega, keyS_inj (fun z hz => ha z (List.mem_cons_of_mem _ hz)) (fun z hz => hb z (List.mem_cons_of_mem _ hz)) h1.2]
theorem keyS_perm {a b : List Int} (ha : permB a = true) (hb : permB b = true) (h : keyS a = keyS b) : a = b := by
  refine keyS_inj (fun x hx => ?_) (fun x hx => ?_) h
  · obtain ⟨j, hj, e⟩ := List.getElem_of_mem hx
    have h1 := permB_range ha hj
    have h2 := (permB_size ha).2
    rw [nth_lt hj, e] at h1
    omega
  · obtain ⟨j, hj, e⟩ := List.getElem_of_mem hx
    have h1 := permB_range hb hj
    have h2 := (permB_size hb).2
    rw [nth_lt hj, e] at h1
    omega
theorem bytes_add (s : List UInt8) (x : UInt8) : (⟨s.toArray⟩ : ByteArray) ++ (⟨#[x]⟩ : ByteArray) = ⟨(s ++ [x]).toArray⟩ := bytes_cat s [x]
set_option maxHeartbeats 1000000 in
theorem fmtPerm_any {A : Option Addr} {n : Nat} {l : List Int} {w : World} (c : Nat) (hx : RI w A n l) (hp : permB l = true) :
    Calls Try.prog 156 #[.slice A n c] w (GivesB w (.string ⟨(keyS l).toArray⟩)) := by
  have HL : Hid (l.length = n) := hx.1
  have hsz := permB_size hp
  rw [HL.out] at hsz
  have HP := Lib.hid hp
  have HX := Lib.hid hx
  have HIS : Hid (Calls Try.prog 94 #[.slice A n c] w (GivesB w (.bool true))) := by
    have h := isPerm_any (w := w) c hx (by omega)
    rw [hp] at h
    exact h
  clear hp hx
  go_enter Try.func156, Try.ntmps156
  go_wp2_with (first | (go_at_call 94; refine HIS.out.mono ?_; rintro e w1 ⟨rfl, b1⟩) | fail)
  have B1 := Lib.hid b1
  clear b1
  go_loopw [3, 5, 11] (fun sv _ i wr => ∃ (k : Nat) (s : List UInt8), k ≤ n ∧ i = .int .i64 (k : Int) ∧ sv = .string ⟨s.toArray⟩ ∧ Hid (s = keyS (l.take k)) ∧ Hid (Below w.heap.size w wr)) (fun _ _ i _ => n - (intOf i).toNat)
  case atStart => exact ⟨0, [], Nat.zero_le _, rfl, rfl, by show _ = _; simp [keyS], B1.out⟩
  case round =>
    obtain ⟨k, s, hk, rfl, rfl, HS, HB⟩ := hrel
    by_cases hlt : k < n
    · obtain ⟨ad, rfl, z0⟩ := (HX.out.below HB.out).cell hlt
      have hr := permB_range HP.out (k := k) (by rw [HL.out]; exact hlt)
      rw [HL.out] at hr
      obtain ⟨x, hxx⟩ : ∃ x, x = nth l k := ⟨_, rfl⟩
      rw [← hxx] at z0 hr
      have hw : IntKind.i64.wrap (x + 1) = x + 1 := IntWalk.i64_in _ (by omega)
      have HD : Hid (∀ W, Calls Try.prog 191 #[.int .i64 (x + 1)] W (fun e w' => e = .returned (.string ⟨#[digC (x + 1)]⟩) ∧ w' = W)) := fun W => iDig_any (x + 1) (by omega) (by omega)
      have hsl : s.length ≤ 7 := by rw [HS.out, keyS, List.length_map, List.length_take]; omega
      have hroom : ¬ 9223372036854775807 < s.length + 1 := by omega
      have HN : Hid (s ++ [digC (x + 1)] = keyS (l.take (k + 1))) := by
        show _ = _
        rw [take_succ_nth (by rw [HL.out]; exact hlt), HS.out, hxx]
        simp [keyS]
      have hcat := bytes_add s (digC (x + 1))
      have hz1 : (⟨s.toArray⟩ : ByteArray).size = s.length := rfl
      have hz2 : (⟨#[digC (x + 1)]⟩ : ByteArray).size = 1 := rfl
      clear hxx
      go_wp2_with (first | (go_at_call 191; refine (HD.out _).mono ?_; rintro e w3 ⟨rfl, rfl⟩) | fail)
      go_roundw
      case rel => exact ⟨k + 1, s ++ [digC (x + 1)], by omega, by go_num, by rw [← hcat], HN.out, HB.out⟩
      case measure => simp [intOf]; omega
    · obtain rfl : k = n := by omega
      go_wp2
      go_ret
      have e : s = keyS l := by rw [HS.out, List.take_of_length_le (by rw [HL.out]; omega)]
      rw [e]
      exact ⟨rfl, HB.out⟩
end Go.Proofs.Ytgbojgmmingfdaa
