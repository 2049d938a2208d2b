/- Rows of numbers in decimal digits, of both sides. -/
import Derived.Test.YtemafljipkcgcaaDecS
import Derived.Test.YtemafljipkcgcaaFmts
namespace Go.Proofs.Ytemafljipkcgcaa
open Go.RowKit

def decB (x : Int) : ByteArray := ⟨(dec x).toArray⟩
def decs (l : List Int) : List ByteArray := l.map decB
def fmtD (l : List Int) : List UInt8 := Lib.join ((decs l).map (·.data.toList)) [32]
theorem decs_len (l : List Int) : (decs l).length = l.length := by simp [decs]
theorem fmtD_one (x : Int) : fmtD [x] = dec x := by simp [fmtD, decs, decB, Lib.join_one]
theorem fmtD_snoc {l : List Int} {x : Int} (h : l ≠ []) : fmtD (l ++ [x]) = fmtD l ++ [32] ++ dec x := by
  unfold fmtD decs
  rw [List.map_append, List.map_append]
  exact join_snoc (by simpa using h)
/-- All are numbers of 64 bits. -/
def In64 (l : List Int) : Prop := ∀ j, j < l.length → -9223372036854775808 ≤ nth l j ∧ nth l j ≤ 9223372036854775807
theorem In64.tail {a : Int} {r : List Int} (h : In64 (a :: r)) : In64 r := fun j hj => by
  have := h (j + 1) (by simp; omega)
  simpa [nth] using this
theorem fmtD_len {l : List Int} (h : In64 l) : (fmtD l).length ≤ 21 * l.length := by
  rcases l with _ | ⟨a, r⟩
  · simp [fmtD, decs, Lib.join_nil]
  · have key : ∀ r : List Int, In64 r → (Lib.joinTail [32] ((decs r).map (·.data.toList))).length ≤ 21 * r.length := by
      intro r
      induction r with
      | nil => intro _; simp [decs, Lib.joinTail]
      | cons b r ih =>
        intro h
        have h1 := ih h.tail
        have hb := h 0 (by simp)
        have hb : (dec b).length ≤ 20 := dec_len hb.1 hb.2
        simp only [decs, List.map_cons, Lib.joinTail, List.flatten_cons, List.length_append] at h1 ⊢
        have : (decB b).data.toList.length = (dec b).length := by simp [decB]
        rw [this]
        simp at h1 ⊢
        omega
    have h1 := key r h.tail
    have ha := h 0 (by simp)
    have ha : (dec a).length ≤ 20 := dec_len ha.1 ha.2
    unfold fmtD
    rw [show (decs (a :: r)).map (·.data.toList) = dec a :: (decs r).map (·.data.toList) from by simp [decs, decB], Lib.join_cons, List.length_append]
    simp
    omega
theorem In64.at {l : List Int} {n j : Nat} (h : In64 l) (hl : l.length = n) (hj : j < n) : -9223372036854775808 ≤ nth l j ∧ nth l j ≤ 9223372036854775807 := h j (by omega)
theorem In64.take {l : List Int} (h : In64 l) (k : Nat) : In64 (l.take k) := fun j hj => by
  have hj' : j < k ∧ j < l.length := by rw [List.length_take] at hj; omega
  rw [nth_take hj'.1]
  exact h j hj'.2

theorem OKTx.form0 {w : World} {base : Nat} {v : Value} (h : OKTx w base v (decs [])) : ∃ A c, v = .slice A 0 c := by
  rcases h.2 with ⟨he, _⟩ | ⟨g, cap, cur, he, _⟩
  · exact ⟨none, 0, he⟩
  · exact ⟨_, cap, he⟩

set_option maxHeartbeats 1000000 in
theorem iDecs_any {A : Option Addr} {n : Nat} {l : List Int} {w : World} (c : Nat) (hx : RI w A n l) (hn : n ≤ 2000000) (hr : In64 l) :
    Calls Try.prog 84 #[.slice A n c] w (fun e w' => e = .returned (.string ⟨(fmtD l).toArray⟩) ∧ Below w.heap.size w w') := by
  have HR := Lib.hid hr
  clear hr
  go_enter Try.func84, Try.ntmps84
  go_wp2
  go_loopw [3, 9] (fun v i wr => ∃ k : Nat, k ≤ n ∧ i = .int .i64 (k : Int) ∧ Hid (OKTx wr w.heap.size v (decs (l.take k))) ∧ Below w.heap.size w wr) (fun _ i _ => n - (intOf i).toNat)
  case atStart => exact ⟨0, Nat.zero_le _, rfl, OKTx.lit w _ (Nat.le_refl _), (Below.refl _ _).alloc (Nat.le_refl _) _⟩
  case round =>
    obtain ⟨k, hk, rfl, HO, hb⟩ := hrel
    by_cases hlt : k < n
    · obtain ⟨ad, hA, hc⟩ := (hx.below hb).cell hlt
      subst hA
      obtain ⟨y, hy⟩ : ∃ y, y = nth l k := ⟨_, rfl⟩
      have hyr := HR.out.at hx.1 hlt
      rw [← hy] at hc hyr
      have HS : Hid (decs (l.take (k + 1)) = decs (l.take k) ++ [decB y]) := by
        show decs (l.take (k + 1)) = _
        rw [hy, List.take_add_one, decs, decs, List.map_append]
        have hkl : k < l.length := by rw [hx.1]; exact hlt
        rw [List.getElem?_eq_getElem hkl, nth_lt hkl]
        rfl
      have hlen : Hid ((decs (l.take k)).length ≤ 2000000) := by show (decs (l.take k)).length ≤ 2000000; rw [decs_len, List.length_take]; omega
      have hbs := hb.size
      clear hy
      go_wp2_with (first
        | (go_at_call 88; refine (iDec_any (y.natAbs + 1) y _ (by omega) hyr.1 hyr.2).mono ?_; rintro e w' ⟨rfl, rfl⟩)
        | (at_builtin; refine wpAppTx rfl _ _ rfl w.heap.size _ (decs (l.take k)) (decB y) (World.heap _).size 1 rfl rfl (by exact HO.out.alloc _) (by simp [decB]) (by have := hlen.out; omega) (by simp; omega) ?_; intro v' w2 k1 k2 k3; have HK := Lib.hid k1; have hb2 : Hid (Below w.heap.size w w2) := (hb.alloc hbs _).grown k2 (by simp; omega) (fun k hk => (HO.out.lt k hk).1); clear k1 k2 k3))
      go_roundw
      case rel => exact ⟨k + 1, by omega, by go_num, by rw [HS.out]; exact HK, hb2.out⟩
      case measure => simp [intOf]; omega
    · obtain rfl : k = n := by omega
      have hlk : l.length = k := hx.1
      have ht : l.take k = l := List.take_of_length_le (by omega)
      rw [ht] at HO
      by_cases hz : k = 0
      · have hl0 : l = [] := List.eq_nil_of_length_eq_zero (by omega)
        have HF : Hid (fmtD l = []) := by show fmtD l = []; rw [hl0]; rfl
        rw [hl0] at HO
        obtain ⟨A0, c0, rfl⟩ := HO.out.form0
        have hj := Try.strings_Join_none A0 c0 ⟨#[32]⟩ wr
        clear ht
        go_wp2_with (go_at_call 83; refine hj.mono ?_; rintro e w3 ⟨rfl, rfl⟩)
        go_ret
        exact ⟨by rw [HF.out]; rfl, hb⟩
      obtain ⟨g, c2, rfl, hcap, hg, hcl⟩ := HO.out.form (by rw [decs_len]; omega)
      have hfl := fmtD_len HR.out
      have hj := Try.strings_Join g 0 c2 (decs l) ⟨#[32]⟩ wr hcl hg (by rw [decs_len]; omega) hcap (by
        show (fmtD l).length ≤ _
        omega)
      clear hcl ht
      go_wp2_with (go_at_call 83; refine hj.mono ?_; rintro e w3 ⟨rfl, b3⟩)
      go_ret
      exact ⟨by rfl, hb.trans (b3.mono hb.size)⟩

set_option maxHeartbeats 1000000 in
theorem sDecs_any {A : Option Addr} {n : Nat} {l : List Int} {w : World} (c : Nat) (hx : RI w A n l) (hn : n ≤ 2000000) (hr : In64 l) :
    Calls Try.prog 82 #[.slice A n c] w (fun e w' => e = .returned (.string ⟨(fmtD l).toArray⟩) ∧ Below w.heap.size w w') := by
  have HR := Lib.hid hr
  clear hr
  go_enter Try.func82, Try.ntmps82
  go_wp2
  go_loopw [3, 4] (fun v i wr => ∃ (k : Nat) (s : ByteArray), k ≤ n ∧ i = .int .i64 (k : Int) ∧ v = .string s ∧ s.size ≤ 21 * k ∧ Hid (s.data.toList = fmtD (l.take k)) ∧ Below w.heap.size w wr) (fun _ i _ => n - (intOf i).toNat)
  case atStart => exact ⟨0, ⟨#[]⟩, Nat.zero_le _, rfl, rfl, by exact Nat.le_refl 0, rfl, Below.refl _ _⟩
  case round =>
    obtain ⟨k, s, hk, rfl, rfl, hs, HS, hb⟩ := hrel
    by_cases hlt : k < n
    · obtain ⟨ad, hA, hc⟩ := (hx.below hb).cell hlt
      subst hA
      obtain ⟨y, hy⟩ : ∃ y, y = nth l k := ⟨_, rfl⟩
      have hyr := HR.out.at hx.1 hlt
      rw [← hy] at hc hyr
      have hkl : k < l.length := by rw [hx.1]; exact hlt
      have HT : Hid (l.take (k + 1) = l.take k ++ [y]) := by
        show l.take (k + 1) = _
        rw [hy, List.take_add_one, List.getElem?_eq_getElem hkl, nth_lt hkl]
        rfl
      clear hy hkl
      have hd : (decB y).size ≤ 20 := dec_len hyr.1 hyr.2
      have hd2 : (dec y).length ≤ 20 := hd
      have hd3 := str_size (dec y)
      have hlen : (l.take k).length = k := by rw [List.length_take, hx.1]; omega
      have hfl := fmtD_len (HR.out.take (k + 1))
      have hl2 : (l.take (k + 1)).length = k + 1 := by rw [List.length_take, hx.1]; omega
      by_cases hk0 : k = 0
      · have hk1 : ¬ (0 : Int) < (k : Int) := by omega
        have h00 : Hid (l.take k = []) := by show l.take k = []; rw [hk0]; rfl
        clear hk0
        go_wp2_with (go_at_call 86; refine (sDec_any y hyr.1 hyr.2).mono ?_; rintro e w2 ⟨rfl, b2⟩; have sz : s.size + (decB y).size ≤ 9223372036854775807 := by omega)
        go_roundw
        case rel =>
          refine ⟨k + 1, _, by omega, by go_num, rfl, ?_, ?_, hb.trans (b2.mono hb.size)⟩
          · rw [ByteArray.size_append]; omega
          · show (s ++ decB y).data.toList = _
            rw [HT.out, h00.out, List.nil_append, fmtD_one, ByteArray.data_append, Array.toList_append, HS.out, h00.out]
            rfl
        case measure => simp [intOf]; omega
      · have hk1 : (0 : Int) < (k : Int) := by omega
        have hne : Hid (l.take k ≠ []) := by
          show l.take k ≠ []
          intro h
          rw [h] at hlen
          simp at hlen
          omega
        clear hk0
        go_wp2_with (go_at_call 86; refine (sDec_any y hyr.1 hyr.2).mono ?_; rintro e w2 ⟨rfl, b2⟩)
        go_roundw
        case rel =>
          refine ⟨k + 1, _, by omega, by go_num, rfl, ?_, ?_, hb.trans (b2.mono hb.size)⟩
          · rw [ByteArray.size_append, ByteArray.size_append, show ByteArray.size ⟨#[32]⟩ = 1 from rfl]; omega
          · show (s ++ ⟨#[32]⟩ ++ decB y).data.toList = _
            rw [HT.out, fmtD_snoc hne.out, ByteArray.data_append, ByteArray.data_append, Array.toList_append, Array.toList_append, HS.out]
            simp [decB]
        case measure => simp [intOf]; omega
    · obtain rfl : k = n := by omega
      have ht : l.take k = l := List.take_of_length_le (by rw [hx.1]; exact Nat.le_refl _)
      rw [ht] at HS
      have e : s = ⟨(fmtD l).toArray⟩ := by rw [← HS.out]
      clear HS ht
      go_wp2
      go_ret
      exact ⟨by rw [e]; rfl, hb⟩
end Go.Proofs.Ytemafljipkcgcaa
