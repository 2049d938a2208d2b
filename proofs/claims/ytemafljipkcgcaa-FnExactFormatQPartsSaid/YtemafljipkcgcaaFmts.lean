/- Rows of digits, of both sides. -/
import Derived.Test.YtemafljipkcgcaaFmt
import Derived.Test.YtemafljipkcgcaaJoinR2
namespace Go.Proofs.Ytemafljipkcgcaa
open Go.RowKit

def digs (l : List Int) : List ByteArray := l.map dig
def fmtL (l : List Int) : List UInt8 := Lib.join ((digs l).map (·.data.toList)) [32]
theorem digs_len (l : List Int) : (digs l).length = l.length := by simp [digs]
theorem join_snoc {xs : List (List UInt8)} {x sep : List UInt8} (h : xs ≠ []) : Lib.join (xs ++ [x]) sep = Lib.join xs sep ++ sep ++ x := by
  cases xs with
  | nil => exact absurd rfl h
  | cons a r =>
    rw [List.cons_append, Lib.join_cons, Lib.join_cons]
    simp [Lib.joinTail, List.append_assoc]
theorem fmtL_one (x : Int) : fmtL [x] = (dig x).data.toList := by simp [fmtL, digs, Lib.join_one]
theorem fmtL_snoc {l : List Int} {x : Int} (h : l ≠ []) : fmtL (l ++ [x]) = fmtL l ++ [32] ++ (dig x).data.toList := by
  unfold fmtL digs
  rw [List.map_append, List.map_append]
  exact join_snoc (by simpa using h)
theorem dig_len (x : Int) : (dig x).data.toList.length = 1 := rfl
theorem fmtL_len (l : List Int) : (fmtL l).length ≤ 2 * l.length := by
  rcases l with _ | ⟨a, r⟩
  · simp [fmtL, digs, Lib.join_nil]
  · have : ∀ r : List Int, (Lib.joinTail [32] ((digs r).map (·.data.toList))).length = 2 * r.length := by
      intro r
      induction r with
      | nil => rfl
      | cons b r ih =>
        simp only [digs, List.map_cons, Lib.joinTail, List.flatten_cons, List.length_append] at ih ⊢
        rw [ih]
        simp [dig]
        omega
    unfold fmtL
    rw [show (digs (a :: r)).map (·.data.toList) = (dig a).data.toList :: (digs r).map (·.data.toList) from rfl, Lib.join_cons, List.length_append, this, dig_len]
    simp
    omega

theorem OKTx.form {w : World} {base : Nat} {v : Value} {l : List ByteArray} (h : OKTx w base v l) (hl : 0 < l.length) : ∃ g c, v = .slice (some ⟨g, 0, none⟩) l.length c ∧ l.length ≤ c ∧ g < w.heap.size ∧ ∀ (j : Nat) x, l[j]? = some x → w.cell? ⟨g, 0 + j, none⟩ = some (.string x) := by
  rcases h.2 with ⟨_, hl'⟩ | ⟨g, cap, cur, he, hg, hh, hc, r⟩
  · omega
  · subst he
    refine ⟨g, cap, rfl, hc, (h.lt g rfl).2, fun j x hx => ?_⟩
    have hj : j < l.length := (List.getElem?_eq_some_iff.1 hx).1
    have := World.ownsRow.cellAt h j (by omega)
    rw [Nat.zero_add, this]
    simp [cellsTx, hx]

set_option maxHeartbeats 1000000 in
theorem iFmts_any {A : Option Addr} {n : Nat} {l : List Int} {w : World} (c : Nat) (hx : RI w A n l) (h0 : 0 < n) (hn : n ≤ 1000) (hr : ∀ j, j < n → 0 ≤ nth l j ∧ nth l j ≤ 3) :
    Calls Try.prog 84 #[.slice A n c] w (fun e w' => e = .returned (.string ⟨(fmtL l).toArray⟩) ∧ Below w.heap.size w w') := by
  have HR := Lib.hid hr
  clear hr
  go_enter Try.func84, Try.ntmps84
  go_wp2
  go_loopw [3, 9] (fun v i wr => ∃ k : Nat, k ≤ n ∧ i = .int .i64 (k : Int) ∧ Hid (OKTx wr w.heap.size v (digs (l.take k))) ∧ Below w.heap.size w wr) (fun _ i _ => n - (intOf i).toNat)
  case atStart => exact ⟨0, Nat.zero_le _, rfl, OKTx.lit w _ (Nat.le_refl _), (Below.refl _ _).alloc (Nat.le_refl _) _⟩
  case round =>
    obtain ⟨k, hk, rfl, HO, hb⟩ := hrel
    by_cases hlt : k < n
    · obtain ⟨ad, hA, hc⟩ := (hx.below hb).cell hlt
      subst hA
      obtain ⟨y, hy⟩ : ∃ y, y = nth l k := ⟨_, rfl⟩
      have hyr := HR.out k hlt
      rw [← hy] at hc hyr
      have HS : Hid (digs (l.take (k + 1)) = digs (l.take k) ++ [dig y]) := by
        show digs (l.take (k + 1)) = _
        rw [hy, List.take_add_one, digs, digs, List.map_append]
        have hkl : k < l.length := by rw [hx.1]; exact hlt
        rw [List.getElem?_eq_getElem hkl, nth_lt hkl]
        rfl
      have hlen : Hid ((digs (l.take k)).length ≤ 1000) := by show (digs (l.take k)).length ≤ 1000; rw [digs_len, List.length_take]; omega
      have hbs := hb.size
      clear hy
      go_wp2_with (first
        | (go_at_call 88; refine (iFmt_any _ hyr.1 hyr.2).mono ?_; rintro e w' ⟨rfl, rfl⟩)
        | (at_builtin; refine wpAppTx rfl _ _ rfl w.heap.size _ (digs (l.take k)) (dig y) (World.heap _).size 1 rfl rfl (by exact HO.out.alloc _) (by simp) (by have := hlen.out; omega) (by simp; omega) ?_; intro v' w2 k1 k2 k3; have HK := Lib.hid k1; have hb2 : Hid (Below w.heap.size w w2) := (hb.alloc hbs _).grown k2 (by simp; omega) (fun k hk => (HO.out.lt k hk).1); clear k1 k2 k3))
      go_roundw
      case rel => exact ⟨k + 1, by omega, by go_num, by rw [HS.out]; exact HK, hb2.out⟩
      case measure => simp [intOf]; omega
    · obtain rfl : k = n := by omega
      have hlk : l.length = k := hx.1
      have ht : l.take k = l := List.take_of_length_le (by omega)
      rw [ht] at HO
      obtain ⟨g, c2, rfl, hcap, hg, hcl⟩ := HO.out.form (by rw [digs_len]; omega)
      have hfl := fmtL_len l
      have hj := Try.strings_Join g 0 c2 (digs l) ⟨#[32]⟩ wr hcl hg (by rw [digs_len]; omega) hcap (by
        show (fmtL l).length ≤ _
        omega)
      clear hcl ht
      go_wp2_with (go_at_call 83; refine hj.mono ?_; rintro e w3 ⟨rfl, b3⟩)
      go_ret
      exact ⟨by rfl, hb.trans (b3.mono hb.size)⟩

set_option maxHeartbeats 1000000 in
theorem sFmts_any {A : Option Addr} {n : Nat} {l : List Int} {w : World} (c : Nat) (hx : RI w A n l) (h0 : 0 < n) (hn : n ≤ 1000) (hr : ∀ j, j < n → 0 ≤ nth l j ∧ nth l j ≤ 3) :
    Calls Try.prog 82 #[.slice A n c] w (fun e w' => e = .returned (.string ⟨(fmtL l).toArray⟩) ∧ Below w.heap.size w w') := by
  have HR := Lib.hid hr
  clear hr
  go_enter Try.func82, Try.ntmps82
  go_wp2
  go_loopw [3, 4] (fun v i wr => ∃ (k : Nat) (s : ByteArray), k ≤ n ∧ i = .int .i64 (k : Int) ∧ v = .string s ∧ s.size ≤ 2 * k ∧ Hid (s.data.toList = fmtL (l.take k)) ∧ Below w.heap.size w wr) (fun _ i _ => n - (intOf i).toNat)
  case atStart => exact ⟨0, ⟨#[]⟩, Nat.zero_le _, rfl, rfl, by exact Nat.le_refl 0, rfl, Below.refl _ _⟩
  case round =>
    obtain ⟨k, s, hk, rfl, rfl, hs, HS, hb⟩ := hrel
    by_cases hlt : k < n
    · obtain ⟨ad, hA, hc⟩ := (hx.below hb).cell hlt
      subst hA
      obtain ⟨y, hy⟩ : ∃ y, y = nth l k := ⟨_, rfl⟩
      have hyr := HR.out k hlt
      rw [← hy] at hc hyr
      have hkl : k < l.length := by rw [hx.1]; exact hlt
      have HT : Hid (l.take (k + 1) = l.take k ++ [y]) := by
        show l.take (k + 1) = _
        rw [hy, List.take_add_one, List.getElem?_eq_getElem hkl, nth_lt hkl]
        rfl
      clear hy hkl
      have hd : (dig y).size = 1 := rfl
      have hlen : (l.take k).length = k := by rw [List.length_take, hx.1]; omega
      have hfl := fmtL_len (l.take (k + 1))
      have hl2 : (l.take (k + 1)).length = k + 1 := by rw [List.length_take, hx.1]; omega
      by_cases hk0 : k = 0
      · have hk1 : ¬ (0 : Int) < (k : Int) := by omega
        have h00 : Hid (l.take k = []) := by show l.take k = []; rw [hk0]; rfl
        clear hk0
        go_wp2_with (go_at_call 86; refine (sFmt_any _ hyr.1 hyr.2).mono ?_; rintro e w2 ⟨rfl, b2⟩; have sz : s.size + (dig y).size ≤ 9223372036854775807 := by omega)
        go_roundw
        case rel =>
          refine ⟨k + 1, _, by omega, by go_num, rfl, ?_, ?_, hb.trans (b2.mono hb.size)⟩
          · rw [ByteArray.size_append, hd]; omega
          · show (s ++ dig y).data.toList = _
            rw [HT.out, h00.out, List.nil_append, fmtL_one, ByteArray.data_append, Array.toList_append, HS.out, h00.out]
            rfl
        case measure => simp [intOf]; omega
      · have hk1 : (0 : Int) < (k : Int) := by omega
        have hne : Hid (l.take k ≠ []) := by
          show l.take k ≠ []
          intro h
          rw [h] at hlen
          simp at hlen
          omega
        clear hk0
        go_wp2_with (go_at_call 86; refine (sFmt_any _ hyr.1 hyr.2).mono ?_; rintro e w2 ⟨rfl, b2⟩)
        go_roundw
        case rel =>
          refine ⟨k + 1, _, by omega, by go_num, rfl, ?_, ?_, hb.trans (b2.mono hb.size)⟩
          · rw [ByteArray.size_append, ByteArray.size_append, hd, show ByteArray.size ⟨#[32]⟩ = 1 from rfl]; omega
          · show (s ++ ⟨#[32]⟩ ++ dig y).data.toList = _
            rw [HT.out, fmtL_snoc hne.out, ByteArray.data_append, ByteArray.data_append, Array.toList_append, Array.toList_append, HS.out]
        case measure => simp [intOf]; omega
    · obtain rfl : k = n := by omega
      have ht : l.take k = l := List.take_of_length_le (by rw [hx.1]; exact Nat.le_refl _)
      rw [ht] at HS
      have e : s = ⟨(fmtL l).toArray⟩ := by rw [← HS.out]
      clear HS ht
      go_wp2
      go_ret
      exact ⟨by rw [e]; rfl, hb⟩
end Go.Proofs.Ytemafljipkcgcaa
