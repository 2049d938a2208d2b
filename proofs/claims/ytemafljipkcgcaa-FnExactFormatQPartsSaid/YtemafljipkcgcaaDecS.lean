/- Numbers in decimal digits, by the reference. -/
import Derived.Test.YtemafljipkcgcaaDec
namespace Go.Proofs.Ytemafljipkcgcaa
open Go.RowKit

def bI (l : List UInt8) : List Int := l.map (fun b => (b.toNat : Int))
theorem bI_len (l : List UInt8) : (bI l).length = l.length := by simp [bI]
/-- What is left and what is there. -/
def DecSt (n : Int) (m : Nat) (bs : List UInt8) : Prop := decN n.natAbs = (if m = 0 ∧ bs ≠ [] then [] else decN m) ++ bs.reverse
theorem DecSt.start (n : Int) : DecSt n n.natAbs [] := by simp [DecSt]
theorem DecSt.step {n : Int} {m : Nat} {bs : List UInt8} (h : DecSt n m bs) (hm : ¬ (m = 0 ∧ bs ≠ [])) : DecSt n (m / 10) (bs ++ [(48 + m % 10).toUInt8]) := by
  unfold DecSt at h ⊢
  rw [if_neg hm] at h
  rw [h, List.reverse_append]
  by_cases h10 : m < 10
  · have h0 : m / 10 = 0 := by omega
    have hmm : m % 10 = m := by omega
    rw [decN_small h10, h0, hmm]
    simp
  · rw [decN_big h10]
    have h0 : m / 10 ≠ 0 := by omega
    simp [h0]
theorem DecSt.done {n : Int} {bs : List UInt8} (h : DecSt n 0 bs) (hb : bs ≠ []) : decN n.natAbs = bs.reverse := by
  unfold DecSt at h
  rw [if_pos ⟨rfl, hb⟩] at h
  simpa using h
theorem DecSt.len {n : Int} {m : Nat} {bs : List UInt8} (h : DecSt n m bs) (h1 : -9223372036854775808 ≤ n) (h2 : n ≤ 9223372036854775807) : bs.length ≤ 20 := by
  have := congrArg List.length h
  rw [List.length_append, List.length_reverse] at this
  have h3 := decN_len 18 n.natAbs (by
    have : n.natAbs ≤ 9223372036854775808 := by omega
    have e : (10 : Nat) ^ (18 + 1) = 10000000000000000000 := by decide
    omega)
  omega
theorem tmod_pos (m : Nat) : (m : Int).tmod 10 = ((m % 10 : Nat) : Int) := rfl
theorem tdiv_pos (m : Nat) : (m : Int).tdiv 10 = ((m / 10 : Nat) : Int) := rfl
theorem tmod_neg (m : Nat) : (-(m : Int)).tmod 10 = -((m % 10 : Nat) : Int) := by rw [Int.neg_tmod]; rfl
theorem tdiv_neg (m : Nat) : (-(m : Int)).tdiv 10 = -((m / 10 : Nat) : Int) := by rw [Int.neg_tdiv]; rfl
theorem u8_digit {r : Nat} (h : r < 10) : IntKind.u8.wrap (48 + (r : Int)) = 48 + (r : Int) := by
  have : r = 0 ∨ r = 1 ∨ r = 2 ∨ r = 3 ∨ r = 4 ∨ r = 5 ∨ r = 6 ∨ r = 7 ∨ r = 8 ∨ r = 9 := by omega
  rcases this with rfl | rfl | rfl | rfl | rfl | rfl | rfl | rfl | rfl | rfl <;> rfl
theorem digit_val {m : Nat} : (((48 + m % 10).toUInt8.toNat : Nat) : Int) = 48 + ((m % 10 : Nat) : Int) := by
  have : m % 10 < 10 := Nat.mod_lt _ (by omega)
  rw [Nat.toUInt8, UInt8.toNat_ofNat']
  omega
theorem OKBy.any {w : World} {base : Nat} {v : Value} {l : List Int} (h : OKBy w base v l) : ∃ A c, v = .slice A l.length c ∧ l.length ≤ c ∧ (0 < l.length → ∃ g, A = some ⟨g, 0, none⟩ ∧ g < w.heap.size ∧ base ≤ g) ∧ ∀ (j : Nat) x, l[j]? = some x → ∃ g, A = some ⟨g, 0, none⟩ ∧ w.cell? ⟨g, j, none⟩ = some (.int .u8 x) := by
  rcases h.2 with ⟨he, hl⟩ | ⟨g, cap, cur, he, hg, hh, hc, r⟩
  · refine ⟨none, 0, ?_, by omega, fun h => by omega, fun j x hx => ?_⟩
    · rw [hl]; exact he
    · have := (List.getElem?_eq_some_iff.1 hx).1
      omega
  · subst he
    refine ⟨_, cap, rfl, hc, fun _ => ⟨g, rfl, (h.lt g rfl).2, hg⟩, fun j x hx => ⟨g, rfl, ?_⟩⟩
    have hj : j < l.length := (List.getElem?_eq_some_iff.1 hx).1
    have := World.ownsRow.cellAt h j (by omega)
    rw [this]
    simp [cellsBy, hx]
theorem OKBy.lenV {w : World} {base : Nat} {v : Value} {l : List Int} (h : OKBy w base v l) : lenV v = l.length := by
  obtain ⟨A, c, rfl, -⟩ := h.any
  rfl
theorem OKBy.conv {w : World} {base : Nat} {v : Value} {l : List UInt8} (h : OKBy w base v (bI l)) (hl : 0 < l.length) : (convert 50 9 v).run Try.prog w = .ok (.string ⟨l.toArray⟩) w := by
  obtain ⟨A, c, rfl, -, hA, hc⟩ := h.any
  obtain ⟨g, rfl, -⟩ := hA (by rw [bI_len]; exact hl)
  rw [bI_len]
  refine run_convert_bytes_back (P := Try.prog) w 50 9 5 ⟨g, 0, none⟩ c l Try.underlying50 Try.underlying5 Try.underlying9 (fun j hj => ?_)
  obtain ⟨g', e, h1⟩ := hc j (l[j].toNat : Int) (by simp [bI, hj])
  obtain ⟨rfl⟩ : g = g' := by injection e with e; injection e
  rw [show (⟨g, 0, none⟩ : Addr).add j = ⟨g, j, none⟩ by unfold Addr.add; split <;> simp_all]
  exact h1

set_option maxRecDepth 4000 in
set_option maxHeartbeats 4000000 in
theorem sDec_any {w : World} (n : Int) (h1 : -9223372036854775808 ≤ n) (h2 : n ≤ 9223372036854775807) : Calls Try.prog 86 #[.int .i64 n] w (fun e w' => e = .returned (.string ⟨(dec n).toArray⟩) ∧ Below w.heap.size w w') := by
  go_enter Try.func86, Try.ntmps86
  go_wp2
  go_loopw [3, 4, 5] (fun v k _ wr => ∃ (m : Nat) (x : Int) (bs : List UInt8), k = .int .i64 x ∧ (m : Int) ≤ 9223372036854775808 ∧ Hid (OKBy wr w.heap.size v (bI bs)) ∧ Hid (DecSt n m bs) ∧ (x = (m : Int) ∧ 0 ≤ n ∧ m ≤ 9223372036854775807 ∨ x = -(m : Int) ∧ n < 0) ∧ lenV v = bs.length ∧ Below w.heap.size w wr) (fun v k _ _ => (intOf k).natAbs + (1 - lenV v))
  case atStart =>
    refine ⟨n.natAbs, n, [], rfl, by omega, OKBy.lit w _ (Nat.le_refl _), DecSt.start n, ?_, rfl, (Below.refl _ _).alloc (Nat.le_refl _) _⟩
    by_cases h : 0 ≤ n
    · exact .inl ⟨by omega, h, by omega⟩
    · exact .inr ⟨by omega, by omega⟩
  case round =>
    obtain ⟨m, x, bs, rfl, hm, HO, HS, ⟨rfl, hn, hm2⟩ | ⟨rfl, hn⟩, hl, hb⟩ := hrel
    · by_cases hd : m = 0 ∧ bs ≠ []
      · obtain ⟨wo, rfl⟩ : ∃ wo : World, wo = wr := ⟨_, rfl⟩
        have g0 : ((m : Int) != 0) = false := by have := hd.1; simp; omega
        have HDN := Lib.hid (show decN n.natAbs = bs.reverse from by have := HS.out; rw [hd.1] at this; exact this.done hd.2)
        have hlen := HS.out.len h1 h2
        have hpos : 0 < bs.length := List.length_pos_iff.2 hd.2
        have hO := HO.out
        obtain ⟨A, c, rfl, hcap, hA, hcl⟩ := hO.any
        rw [bI_len] at hA
        obtain ⟨g, rfl, hgl, hgb⟩ := hA hpos
        have HC : Hid (∀ j (hj : j < bs.length), wo.cell? ⟨g, j, none⟩ = some (.int .u8 (bs[j].toNat : Int))) := fun j hj => by
          obtain ⟨g', e, h⟩ := hcl j (bs[j].toNat : Int) (by simp [bI, hj])
          obtain ⟨rfl⟩ : g = g' := by injection e with e; injection e
          exact h
        obtain ⟨L, hL⟩ : ∃ L, L = bs.length := ⟨_, rfl⟩
        rw [bI_len, ← hL]
        have HLL := Lib.hid hL
        rw [← hL] at hpos hlen
        have g1 : ((L : Int) == 0) = false := by simp; omega
        clear hcl hA hcap hO HO HS hd hL hl
        go_wp2
        go_loopw [6, 7] (fun v i wx => ∃ j : Nat, j ≤ L ∧ i = .int .i64 ((L : Int) - 1 - (j : Int)) ∧ Hid (OKBy wx wo.heap.size v (bI ([] ++ bs.reverse.take j))) ∧ Below wo.heap.size wo wx) (fun _ i _ => (intOf i + 1).toNat)
        case atStart => exact ⟨0, Nat.zero_le _, by simp, OKBy.lit wo _ (Nat.le_refl _), (Below.refl _ _).alloc (Nat.le_refl _) _⟩
        case round =>
          obtain ⟨j, hj, rfl, HO, hbx⟩ := hrel
          by_cases hlt : j < L
          · obtain ⟨i, hi⟩ : ∃ i : Nat, i = L - 1 - j := ⟨_, rfl⟩
            have hiL : i < bs.length := by rw [← HLL.out]; omega
            have hcell := (hbx.cell (p := ⟨g, i, none⟩) hgl).trans (HC.out i hiL)
            obtain ⟨y, hy⟩ : ∃ y : UInt8, y = bs[i] := ⟨_, rfl⟩
            rw [← hy] at hcell
            have ei : ((L : Int) - 1 - (j : Int)).toNat = i := by omega
            have HT : Hid (bI ([] ++ bs.reverse.take (j + 1)) = bI ([] ++ bs.reverse.take j) ++ [(y.toNat : Int)]) := by
              show bI _ = _
              have hjr : j < bs.reverse.length := by rw [List.length_reverse, ← HLL.out]; exact hlt
              rw [List.take_add_one, List.getElem?_eq_getElem hjr, List.getElem_reverse]
              have : bs[bs.length - 1 - j]'(by rw [← HLL.out]; omega) = y := by
                rw [hy]
                congr 1
                rw [hi, HLL.out]
              rw [this]
              simp [bI]
            have hlb : Hid ((bI ([] ++ bs.reverse.take j)).length ≤ 30) := by
              show List.length _ ≤ 30
              rw [bI_len, List.length_append, List.length_take, List.length_reverse, ← HLL.out]
              simp
              omega
            have hbs := hbx.size
            clear hy hi
            go_wp2_with (at_builtin; refine wpAppBy rfl _ _ rfl wo.heap.size _ (bI ([] ++ bs.reverse.take j)) (y.toNat : Int) (World.heap _).size 1 rfl rfl (by exact HO.out.alloc _) (by simp) (by have := hlb.out; omega) (by simp; omega) ?_; intro v' w2 k1 k2 k3; have HK := Lib.hid k1; have hb2 : Hid (Below wo.heap.size wo w2) := (hbx.alloc hbs _).grown k2 (by simp; omega) (fun k hk => (HO.out.lt k hk).1); clear k1 k2 k3)
            go_roundw
            case rel => exact ⟨j + 1, by omega, by go_num, by rw [HT.out]; exact HK, hb2.out⟩
            case measure => simp [intOf]; omega
          · obtain rfl : j = L := by omega
            have ht : bs.reverse.take j = bs.reverse := List.take_of_length_le (by rw [List.length_reverse, ← HLL.out]; exact Nat.le_refl _)
            rw [ht] at HO
            have hcv := HO.out.conv (by simp <;> (rw [← HLL.out]; omega))
            have HDD : Hid (dec n = [] ++ bs.reverse) := by show dec n = _; rw [dec, if_neg (by omega), HDN.out]; rfl
            have hbz := bnext hb hbx hb.size
            clear ht
            go_wp2
            go_ret
            exact ⟨by rw [HDD.out]; rfl, hbz⟩
      · have HS2 := Lib.hid (HS.out.step hd)
        have hlen := HS.out.len h1 h2
        obtain ⟨r, hr⟩ : ∃ r, r = m % 10 := ⟨_, rfl⟩
        obtain ⟨q, hq⟩ : ∃ q, q = m / 10 := ⟨_, rfl⟩
        have e1 := tmod_pos m
        have e2 := tdiv_pos m
        have hw := u8_digit (r := r) (by omega)
        have HV : Hid (bI (bs ++ [(48 + m % 10).toUInt8]) = bI bs ++ [48 + (r : Int)]) := by
          show bI _ = _
          rw [bI, List.map_append, hr, ← digit_val]
          rfl
        rw [← hr] at e1
        rw [← hq] at e2 HS2
        have hr10 : r < 10 := by omega
        have hq10 : q ≤ m := by omega
        have hr0 : m = 0 → r = 0 := fun h => by rw [hr, h]
        have hqm : m = 0 ∨ q < m := by omega
        have hL0 : m = 0 → bs.length = 0 := fun h => by
          by_cases hb : bs = []
          · rw [hb]; rfl
          · exact absurd ⟨h, hb⟩ hd
        have HN : Hid ((bI bs).length = bs.length) := bI_len bs
        obtain ⟨L, hL⟩ : ∃ L, L = bs.length := ⟨_, rfl⟩
        have hO := HO.out
        obtain ⟨A, c, rfl, hcap, hA, -⟩ := hO.any
        have hO := Lib.hid hO
        rw [bI_len, ← hL] at hO ⊢
        rw [← hL] at hL0 hlen
        clear hr hq hd hcap hA HO HS hl
        by_cases hm0 : m = 0
        · have g : ((m : Int) != 0) = false := by simp; omega
          have hL00 := hL0 hm0
          obtain rfl : r = 0 := hr0 hm0
          obtain rfl : q = 0 := by omega
          have g2 : ((L : Int) == 0) = true := by simp; exact hL00
          go_wp2_with (at_builtin; refine wpAppBy rfl _ _ rfl w.heap.size (.slice A L c) (bI bs) 48 (World.heap _).size 1 rfl rfl (by exact hO.out.alloc _) (by first | (simp; done) | (simp; omega)) (by rw [HN.out, ← hL]; omega) (by have := hb.size; simp; omega) ?_; intro v' w2 k1 k2 k3; have HK := Lib.hid k1; have hb2 : Hid (Below w.heap.size w w2) := (hb.alloc hb.size _).grown k2 (by have := hb.size; simp; omega) (fun k hk => (hO.out.lt k hk).1); clear k1 k2 k3)
          all_goals
            go_roundw
            case rel => exact ⟨0, 0, bs ++ [(48 + m % 10).toUInt8], rfl, by omega, by rw [HV.out]; exact HK, HS2, .inl ⟨rfl, hn, by omega⟩, by rw [OKBy.lenV HK.out, List.length_append, List.length_append, bI_len]; rfl, hb2.out⟩
            case measure => rw [OKBy.lenV HK.out]; simp [intOf, lenV]; omega
        · have g : ((m : Int) != 0) = true := by simp; omega
          go_wp2_with (at_builtin; refine wpAppBy rfl _ _ rfl w.heap.size (.slice A L c) (bI bs) (48 + (r : Int)) (World.heap _).size 1 rfl rfl (by exact hO.out.alloc _) (by first | (simp; done) | (simp; omega)) (by rw [HN.out, ← hL]; omega) (by have := hb.size; simp; omega) ?_; intro v' w2 k1 k2 k3; have HK := Lib.hid k1; have hb2 : Hid (Below w.heap.size w w2) := (hb.alloc hb.size _).grown k2 (by have := hb.size; simp; omega) (fun k hk => (hO.out.lt k hk).1); clear k1 k2 k3)
          all_goals
            go_roundw
            case rel => exact ⟨q, ((q : Nat) : Int), bs ++ [(48 + m % 10).toUInt8], rfl, by omega, by rw [HV.out]; exact HK, HS2, .inl ⟨rfl, hn, by omega⟩, by rw [OKBy.lenV HK.out, List.length_append, List.length_append, bI_len]; rfl, hb2.out⟩
            case measure => rw [OKBy.lenV HK.out]; simp [intOf, lenV]; omega
    · by_cases hd : m = 0 ∧ bs ≠ []
      · obtain ⟨wo, rfl⟩ : ∃ wo : World, wo = wr := ⟨_, rfl⟩
        have g0 : (-(m : Int) != 0) = false := by have := hd.1; simp; omega
        have HDN := Lib.hid (show decN n.natAbs = bs.reverse from by have := HS.out; rw [hd.1] at this; exact this.done hd.2)
        have hlen := HS.out.len h1 h2
        have hpos : 0 < bs.length := List.length_pos_iff.2 hd.2
        have hO := HO.out
        obtain ⟨A, c, rfl, hcap, hA, hcl⟩ := hO.any
        rw [bI_len] at hA
        obtain ⟨g, rfl, hgl, hgb⟩ := hA hpos
        have HC : Hid (∀ j (hj : j < bs.length), wo.cell? ⟨g, j, none⟩ = some (.int .u8 (bs[j].toNat : Int))) := fun j hj => by
          obtain ⟨g', e, h⟩ := hcl j (bs[j].toNat : Int) (by simp [bI, hj])
          obtain ⟨rfl⟩ : g = g' := by injection e with e; injection e
          exact h
        obtain ⟨L, hL⟩ : ∃ L, L = bs.length := ⟨_, rfl⟩
        rw [bI_len, ← hL]
        have HLL := Lib.hid hL
        rw [← hL] at hpos hlen
        have g1 : ((L : Int) == 0) = false := by simp; omega
        clear hcl hA hcap hO HO HS hd hL hl
        go_wp2_with (at_builtin; refine wpAppBy rfl _ _ rfl wo.heap.size (.slice (some ⟨wo.heap.size, 0, none⟩) 0 0) [] 45 (wo.heap.size + 1) 1 rfl rfl (by exact (OKBy.lit wo _ (Nat.le_refl _)).alloc _) (by simp) (by simp) (by simp <;> omega) ?_; intro v0 w1 k1 k2 k3; have HK0 := Lib.hid k1; have hb1 : Hid (Below wo.heap.size wo w1) := (((Below.refl _ _).alloc (Nat.le_refl _) _).alloc (by simp) _).grown k2 (by simp; omega) (fun k hk => by obtain rfl := Option.some.inj hk; exact Nat.le_refl _); clear k1 k2 k3)
        go_loopw [6, 7] (fun v i wx => ∃ j : Nat, j ≤ L ∧ i = .int .i64 ((L : Int) - 1 - (j : Int)) ∧ Hid (OKBy wx wo.heap.size v (bI ([45] ++ bs.reverse.take j))) ∧ Below wo.heap.size wo wx) (fun _ i _ => (intOf i + 1).toNat)
        case atStart => exact ⟨0, Nat.zero_le _, by simp, HK0, hb1.out⟩
        case round =>
          obtain ⟨j, hj, rfl, HO, hbx⟩ := hrel
          by_cases hlt : j < L
          · obtain ⟨i, hi⟩ : ∃ i : Nat, i = L - 1 - j := ⟨_, rfl⟩
            have hiL : i < bs.length := by rw [← HLL.out]; omega
            have hcell := (hbx.cell (p := ⟨g, i, none⟩) hgl).trans (HC.out i hiL)
            obtain ⟨y, hy⟩ : ∃ y : UInt8, y = bs[i] := ⟨_, rfl⟩
            rw [← hy] at hcell
            have ei : ((L : Int) - 1 - (j : Int)).toNat = i := by omega
            have HT : Hid (bI ([45] ++ bs.reverse.take (j + 1)) = bI ([45] ++ bs.reverse.take j) ++ [(y.toNat : Int)]) := by
              show bI _ = _
              have hjr : j < bs.reverse.length := by rw [List.length_reverse, ← HLL.out]; exact hlt
              rw [List.take_add_one, List.getElem?_eq_getElem hjr, List.getElem_reverse]
              have : bs[bs.length - 1 - j]'(by rw [← HLL.out]; omega) = y := by
                rw [hy]
                congr 1
                rw [hi, HLL.out]
              rw [this]
              simp [bI]
            have hlb : Hid ((bI ([45] ++ bs.reverse.take j)).length ≤ 30) := by
              show List.length _ ≤ 30
              rw [bI_len, List.length_append, List.length_take, List.length_reverse, ← HLL.out]
              simp
              omega
            have hbs := hbx.size
            clear hy hi
            go_wp2_with (at_builtin; refine wpAppBy rfl _ _ rfl wo.heap.size _ (bI ([45] ++ bs.reverse.take j)) (y.toNat : Int) (World.heap _).size 1 rfl rfl (by exact HO.out.alloc _) (by simp) (by have := hlb.out; omega) (by simp; omega) ?_; intro v' w2 k1 k2 k3; have HK := Lib.hid k1; have hb2 : Hid (Below wo.heap.size wo w2) := (hbx.alloc hbs _).grown k2 (by simp; omega) (fun k hk => (HO.out.lt k hk).1); clear k1 k2 k3)
            go_roundw
            case rel => exact ⟨j + 1, by omega, by go_num, by rw [HT.out]; exact HK, hb2.out⟩
            case measure => simp [intOf]; omega
          · obtain rfl : j = L := by omega
            have ht : bs.reverse.take j = bs.reverse := List.take_of_length_le (by rw [List.length_reverse, ← HLL.out]; exact Nat.le_refl _)
            rw [ht] at HO
            have hcv := HO.out.conv (by simp <;> (rw [← HLL.out]; omega))
            have HDD : Hid (dec n = [45] ++ bs.reverse) := by show dec n = _; rw [dec, if_pos hn, HDN.out]; rfl
            have hbz := bnext hb hbx hb.size
            clear ht
            go_wp2
            go_ret
            exact ⟨by rw [HDD.out]; rfl, hbz⟩
      · have HS2 := Lib.hid (HS.out.step hd)
        have hlen := HS.out.len h1 h2
        obtain ⟨r, hr⟩ : ∃ r, r = m % 10 := ⟨_, rfl⟩
        obtain ⟨q, hq⟩ : ∃ q, q = m / 10 := ⟨_, rfl⟩
        have e1 := tmod_neg m
        have e2 := tdiv_neg m
        have hw := u8_digit (r := r) (by omega)
        have HV : Hid (bI (bs ++ [(48 + m % 10).toUInt8]) = bI bs ++ [48 + (r : Int)]) := by
          show bI _ = _
          rw [bI, List.map_append, hr, ← digit_val]
          rfl
        rw [← hr] at e1
        rw [← hq] at e2 HS2
        have hr10 : r < 10 := by omega
        have hq10 : q ≤ m := by omega
        have hr0 : m = 0 → r = 0 := fun h => by rw [hr, h]
        have hqm : m = 0 ∨ q < m := by omega
        have hL0 : m = 0 → bs.length = 0 := fun h => by
          by_cases hb : bs = []
          · rw [hb]; rfl
          · exact absurd ⟨h, hb⟩ hd
        have HN : Hid ((bI bs).length = bs.length) := bI_len bs
        obtain ⟨L, hL⟩ : ∃ L, L = bs.length := ⟨_, rfl⟩
        have hO := HO.out
        obtain ⟨A, c, rfl, hcap, hA, -⟩ := hO.any
        have hO := Lib.hid hO
        rw [bI_len, ← hL] at hO ⊢
        rw [← hL] at hL0 hlen
        clear hr hq hd hcap hA HO HS hl
        by_cases hm0 : m = 0
        · have g : (-(m : Int) != 0) = false := by simp; omega
          have hL00 := hL0 hm0
          obtain rfl : r = 0 := hr0 hm0
          obtain rfl : q = 0 := by omega
          have g2 : ((L : Int) == 0) = true := by simp; exact hL00
          go_wp2_with (at_builtin; refine wpAppBy rfl _ _ rfl w.heap.size (.slice A L c) (bI bs) 48 (World.heap _).size 1 rfl rfl (by exact hO.out.alloc _) (by first | (simp; done) | (simp; omega)) (by rw [HN.out, ← hL]; omega) (by have := hb.size; simp; omega) ?_; intro v' w2 k1 k2 k3; have HK := Lib.hid k1; have hb2 : Hid (Below w.heap.size w w2) := (hb.alloc hb.size _).grown k2 (by have := hb.size; simp; omega) (fun k hk => (hO.out.lt k hk).1); clear k1 k2 k3)
          all_goals
            go_roundw
            case rel => exact ⟨0, 0, bs ++ [(48 + m % 10).toUInt8], rfl, by omega, by rw [HV.out]; exact HK, HS2, .inr ⟨rfl, hn⟩, by rw [OKBy.lenV HK.out, List.length_append, List.length_append, bI_len]; rfl, hb2.out⟩
            case measure => rw [OKBy.lenV HK.out]; simp [intOf, lenV]; omega
        · have g : (-(m : Int) != 0) = true := by simp; omega
          go_wp2_with (at_builtin; refine wpAppBy rfl _ _ rfl w.heap.size (.slice A L c) (bI bs) (48 + (r : Int)) (World.heap _).size 1 rfl rfl (by exact hO.out.alloc _) (by first | (simp; done) | (simp; omega)) (by rw [HN.out, ← hL]; omega) (by have := hb.size; simp; omega) ?_; intro v' w2 k1 k2 k3; have HK := Lib.hid k1; have hb2 : Hid (Below w.heap.size w w2) := (hb.alloc hb.size _).grown k2 (by have := hb.size; simp; omega) (fun k hk => (hO.out.lt k hk).1); clear k1 k2 k3)
          all_goals
            go_roundw
            case rel => exact ⟨q, -((q : Nat) : Int), bs ++ [(48 + m % 10).toUInt8], rfl, by omega, by rw [HV.out]; exact HK, HS2, .inr ⟨rfl, hn⟩, by rw [OKBy.lenV HK.out, List.length_append, List.length_append, bI_len]; rfl, hb2.out⟩
            case measure => rw [OKBy.lenV HK.out]; simp [intOf, lenV]; omega
end Go.Proofs.Ytemafljipkcgcaa
