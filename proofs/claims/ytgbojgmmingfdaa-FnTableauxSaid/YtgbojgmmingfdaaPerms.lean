/- IsPerm, DescentsOf, CodeOf, LengthOf, IsGrassmannian, ShapeOfPerm of the program. -/
import Derived.Test.YtgbojgmmingfdaaPlain
import Derived.Test.YtgbojgmmingfdaaWords
import Derived.Test.YtgbojgmmingfdaaShapes
import Derived.Test.YtgbojgmmingfdaaDraw
import Derived.LoopN
import Derived.BigRegion
import Derived.Deep.DeepCutAuto
import Derived.Deep.CutRange
namespace Go.Proofs.Ytgbojgmmingfdaa
open Go.RowKit

/-- What was met: one bool a number. -/
def metC (l : List Int) (k : Nat) : List Value := (List.range 7).map fun (x : Nat) => .bool (hasB (l.take k) (x : Int))
theorem metC_at {l : List Int} {k x : Nat} (h : x < 7) : (metC l k)[x]? = some (.bool (hasB (l.take k) (x : Int))) := by simp [metC, h]
theorem hasB_snoc (l : List Int) (y x : Int) : hasB (l ++ [y]) x = (hasB l x || decide (y = x)) := by
  rw [Bool.eq_iff_iff, hasB_iff, Bool.or_eq_true, hasB_iff, decide_eq_true_eq, List.mem_append, List.mem_singleton]
  constructor
  · rintro (h | h)
    · exact .inl h
    · exact .inr h.symm
  · rintro (h | h)
    · exact .inl h
    · exact .inr h.symm
theorem metC_set {l : List Int} {k x : Nat} (hk : k < l.length) (hx : nth l k = (x : Int)) (h : x < 7) : (metC l k).set x (.bool true) = metC l (k + 1) := by
  apply List.ext_getElem?
  intro j
  rcases Nat.lt_or_ge j 7 with hj | hj
  · rw [metC_at (k := k + 1) hj, take_succ_nth hk, hasB_snoc, hx]
    by_cases e : x = j
    · subst e
      rw [List.getElem?_set_self (by simp [metC, h])]
      simp
    · rw [List.getElem?_set_ne e, metC_at hj]
      have : decide ((x : Int) = (j : Int)) = false := by simp; omega
      rw [this]; simp
  · rw [List.getElem?_eq_none (by simp [metC]; exact hj), List.getElem?_eq_none (by simp [metC]; exact hj)]
theorem metC_zero (l : List Int) : metC l 0 = List.replicate 7 (.bool false) := rfl

set_option maxHeartbeats 1000000 in
theorem isPerm_any {A : Option Addr} {n : Nat} {l : List Int} {w : World} (c : Nat) (hx : RI w A n l) (hn : n ≤ 1000000000) :
    Calls Try.prog 94 #[.slice A n c] w (GivesB w (.bool (permB l))) := by
  have HL := Lib.hid hx.1
  by_cases hr : n < 1 ∨ 7 < n
  · have H := Lib.hid (permB_len HL.out (n := n) (by rw [inB_no]; omega))
    rcases hr with hr | hr
    · go_enter Try.func94, Try.ntmps94
      go_wp2
      go_ret
      exact ⟨by rw [H.out]; rfl, Below.refl _ _⟩
    · have hr1 : ¬ n < 1 := by omega
      go_enter Try.func94, Try.ntmps94
      go_wp2
      go_ret
      exact ⟨by rw [H.out]; rfl, Below.refl _ _⟩
  · have hr1 : 1 ≤ n := by omega
    have hr2 : n ≤ 7 := by omega
    have hr3 : ¬ n < 1 := by omega
    have hr4 : ¬ 7 < n := by omega
    clear hr
    go_enter Try.func94, Try.ntmps94
    go_wp2
    obtain ⟨g, hg⟩ : ∃ g, g = w.heap.size := ⟨_, rfl⟩
    have b1 : Below w.heap.size w (w.alloc (.cells #[.bool false, .bool false, .bool false, .bool false, .bool false, .bool false, .bool false] 140)) := (Below.refl _ _).alloc (Nat.le_refl _) _
    have K1 : BK (w.alloc (.cells #[.bool false, .bool false, .bool false, .bool false, .bool false, .bool false, .bool false] 140)) g 140 (metC l 0) := by
      rw [hg]; exact BK.new w 140 (metC l 0)
    have HG := Lib.hid hg
    rw [← hg]
    clear hg
    go_loopw [5, 17] (fun _ i wr => ∃ k : Nat, k ≤ n ∧ i = .int .i64 k ∧ Hid (BK wr g 140 (metC l k)) ∧ Below w.heap.size w wr ∧ Hid (∀ j, j < k → permAt l j = true)) (fun _ i _ => n - (intOf i).toNat)
    case atStart => exact ⟨0, Nat.zero_le _, rfl, K1, b1, fun j hj => absurd hj (by omega)⟩
    case round =>
      clear K1 b1
      obtain ⟨k, hk, rfl, hK, hb, ht⟩ := hrel
      by_cases hlt : k < n
      · obtain ⟨ad, hA, hc⟩ := (hx.below hb).cell hlt
        subst hA
        obtain ⟨x, hxx⟩ : ∃ x, x = nth l k := ⟨_, rfl⟩
        rw [← hxx] at hc
        have HX := Lib.hid hxx
        clear hxx
        by_cases h1 : x < 0
        · have H := Lib.hid (permB_no HL.out hlt (permAt_low (by rw [← HX.out]; exact h1)))
          go_wp2
          go_ret
          exact ⟨by rw [H.out]; rfl, hb⟩
        by_cases h2 : (n : Int) ≤ x
        · have H := Lib.hid (permB_no HL.out hlt (permAt_high HL.out (by rw [← HX.out]; exact h2)))
          go_wp2
          go_ret
          exact ⟨by rw [H.out]; rfl, hb⟩
        obtain ⟨X, rfl⟩ := Int.eq_ofNat_of_zero_le (show 0 ≤ x by omega)
        have hX7 : X < 7 := by omega
        have kc := hK.out.cell (metC_at hX7)
        have kf : wr.frozen? ⟨g, X, none⟩ = false := hK.out.frozen
        rcases hm : hasB (l.take k) (X : Int) with _ | _
        · have hP : permAt l k = true := permAt_yes HL.out (by rw [← HX.out]; omega) (by rw [← HX.out]; omega) (by rw [← HX.out]; exact hm)
          have HP := Lib.hid hP
          have hS := hK.out.set X (.bool true)
          rw [metC_set (by rw [HL.out]; exact hlt) HX.out.symm hX7] at hS
          have HS := Lib.hid hS
          rw [hm] at kc
          clear hP hS hm
          go_wp2
          go_roundw
          case rel => exact ⟨k + 1, by omega, by go_num, HS.out, hb.setCell (by rw [HG.out]; exact Nat.le_refl _) _, upTo ht.out HP.out⟩
          case measure => simp [intOf]; omega
        · have H := Lib.hid (permB_no HL.out hlt (permAt_met (by rw [← HX.out]; exact hm)))
          rw [hm] at kc
          clear hm
          go_wp2
          go_ret
          exact ⟨by rw [H.out]; rfl, hb⟩
      · have H := Lib.hid ((permB_all HL.out (fun j hj => ht.out j (by omega))).trans (inB_yes (by omega) (by omega)))
        go_wp2
        go_ret
        exact ⟨by rw [H.out]; rfl, hb⟩

set_option maxHeartbeats 1000000 in
theorem code_any {A : Option Addr} {n : Nat} {l : List Int} {w : World} (c : Nat) (hx : RI w A n l) (hn : n ≤ 1000000000) (hc : n ≤ c) :
    Calls Try.prog 188 #[.slice A n c] w (Makes w (codeB l)) := by
  have HL := Lib.hid hx.1
  rcases Bool.eq_false_or_eq_true (permB l) with hp | hp
  · have hsz := permB_size hp
    rw [HL.out] at hsz
    obtain ⟨hsz1, hsz2⟩ := hsz
    have HD := Lib.hid (codeB_yes hp)
    go_enter Try.func188, Try.ntmps188
    go_wp2_with fail
    refine (isPerm_any _ hx hn).mono ?_
    rintro e w1 ⟨rfl, b1⟩
    rw [hp]
    clear hp
    go_wp2_with (at_make; refine wpMake rfl _ _ rfl n _ _ rfl rfl rfl rfl (by omega) ?_; intro w2 o2 b2 s2)
    obtain ⟨G, hG⟩ : ∃ G, G = w1.heap.size := ⟨_, rfl⟩
    rw [← hG] at o2 s2 ⊢
    have g2 : Below w.heap.size w w2 := bnext b1 b2 b1.size
    have HGG : Hid (w.heap.size ≤ G) := by show w.heap.size ≤ G; rw [hG]; exact b1.size
    clear b1 b2 s2 hG
    go_loopw [4, 6, 15] (fun _ _ i wr => ∃ k : Nat, k ≤ n ∧ i = .int .i64 (k : Int) ∧ OI wr G (.slice (some ⟨G, 0, none⟩) n n) (gen (codeAt l k) n) ∧ Below w.heap.size w wr) (fun _ _ i _ => n - (intOf i).toNat)
    case atStart => exact ⟨0, Nat.zero_le _, rfl, by rw [gen_none]; exact o2, g2⟩
    case round =>
      clear o2 g2
      obtain ⟨k, hk, rfl, ho, hb⟩ := hrel
      by_cases hlt : k < n
      · obtain ⟨wo, rfl⟩ : ∃ wo : World, wo = wr := ⟨_, rfl⟩
        obtain ⟨ad, hA, hck⟩ := (hx.below hb).cell hlt
        subst hA
        have hle1 : (k : Int) + 1 ≤ n := by omega
        have hto1 : ((k : Int) + 1).toNat = k + 1 := by omega
        have hcap : (k : Int) + 1 ≤ c := by omega
        by_cases hk1 : k + 1 < n
        · have hne : ¬ c = k + 1 := by omega
          go_wp2
          go_loopw [6, 23] (fun _ i wr => ∃ m : Nat, m ≤ n - (k + 1) ∧ i = .int .i64 (m : Int) ∧ OI wr G (.slice (some ⟨G, 0, none⟩) n n) (codeIn l n k m) ∧ Below w.heap.size w wr) (fun _ i _ => n - (intOf i).toNat)
          case atStart => exact ⟨0, Nat.zero_le _, rfl, by rw [codeIn_zero]; exact ho, hb⟩
          case round =>
            clear ho hck hb
            obtain ⟨m, hm, rfl, ho, hb⟩ := hrel
            by_cases hlt2 : m < n - (k + 1)
            · obtain ⟨ad', hA', hc1⟩ := (hx.below hb).cell (k := k + 1 + m) (by omega)
              obtain rfl := Option.some.inj hA'
              obtain ⟨ad', hA', hck⟩ := (hx.below hb).cell hlt
              obtain rfl := Option.some.inj hA'
              have hc1' : wr.cell? ⟨ad.block, ad.off + (k + 1) + m, none⟩ = some (.int .i64 (nth l (k + 1 + m))) := by simpa [Addr.add, Nat.add_assoc] using hc1
              have hoc := ho.cellAt hlt
              have hof := ho.frozenAt k
              rw [codeIn_at hlt] at hoc
              have hrg := lessTo_range l k m
              by_cases hd : nth l (k + 1 + m) < nth l k
              · have HS := Lib.hid (ho.stored k (lessTo l k m + 1))
                have HN := Lib.hid (codeIn_set (n := n) (lessTo_yes hd).symm)
                clear ho
                obtain ⟨y, hy⟩ : ∃ y, y = nth l (k + 1 + m) := ⟨_, rfl⟩
                rw [← hy] at hc1 hc1' hd
                clear hy
                go_wp2
                go_roundw
                case rel => exact ⟨m + 1, by omega, by go_num, by rw [← HN.out]; exact HS.out.1, hb.setCell (HGG.out) _⟩
                case measure => simp [intOf]; omega
              · have HN := Lib.hid (lessTo_no hd)
                have HO := Lib.hid ho
                clear ho
                obtain ⟨y, hy⟩ : ∃ y, y = nth l (k + 1 + m) := ⟨_, rfl⟩
                rw [← hy] at hc1 hc1' hd
                clear hy
                go_wp2
                go_roundw
                case rel =>
                  refine ⟨m + 1, by omega, by go_num, ?_, hb⟩
                  have : codeIn l n k (m + 1) = codeIn l n k m := by unfold codeIn; rw [HN.out]
                  rw [this]; exact HO.out
                case measure => simp [intOf]; omega
            · obtain rfl : m = n - (k + 1) := by omega
              have HN := Lib.hid (codeIn_last HL.out hlt)
              go_wp2
              go_roundw
              case rel => exact ⟨k + 1, by omega, by go_num, by rw [← HN.out, show n - 1 - k = n - (k + 1) by omega]; exact ho, hb⟩
              case measure => simp [intOf]; omega
        · have hn1 : n = k + 1 := by omega
          have hz : n - (k + 1) = 0 := by omega
          have HN : Hid (gen (codeAt l (k + 1)) n = gen (codeAt l k) n) := by
            show gen _ _ = _
            rw [← codeIn_last HL.out hlt, show n - 1 - k = 0 by omega, codeIn_zero]
          clear hk1 hn1
          by_cases hck1 : c = k + 1
          · subst hck1
            go_wp2
            refine wp_loop_rounds 1 ?_
            simp only [Code.rounds]
            go_wp2
            go_roundw
            case rel => exact ⟨k + 1, by omega, by go_num, by rw [HN.out]; exact ho, hb⟩
            case measure => simp [intOf]; omega
          · go_wp2
            refine wp_loop_rounds 1 ?_
            simp only [Code.rounds]
            go_wp2
            go_roundw
            case rel => exact ⟨k + 1, by omega, by go_num, by rw [HN.out]; exact ho, hb⟩
            case measure => simp [intOf]; omega
      · obtain rfl : k = n := by omega
        go_wp2
        go_ret
        have e : gen (codeAt l k) k = codeB l := by rw [HD.out, HL.out]
        rw [← e]
        exact Makes.of (ho.mono HGG.out) hb (by rw [gen_len]; omega)
  · have HD := Lib.hid (codeB_no hp)
    go_enter Try.func188, Try.ntmps188
    go_wp2_with fail
    refine (isPerm_any _ hx hn).mono ?_
    rintro e w1 ⟨rfl, b1⟩
    rw [hp]
    go_wp2
    go_ret
    rw [HD.out]
    exact Makes.nil b1

theorem length_any {A : Option Addr} {n : Nat} {l : List Int} {w : World} (c : Nat) (hx : RI w A n l) (hn : n ≤ 1000000000) (hc : n ≤ c) :
    Calls Try.prog 154 #[.slice A n c] w (GivesB w (.int .i64 (lengthB l))) := by
  rcases Bool.eq_false_or_eq_true (permB l) with hp | hp
  · have HD := Lib.hid (lengthB_yes hp)
    have HS := Lib.hid (code_small l)
    go_enter Try.func154, Try.ntmps154
    go_wp2_with fail
    refine (isPerm_any _ hx hn).mono ?_
    rintro e w1 ⟨rfl, b1⟩
    rw [hp]
    have hk : (codeB l).length ≤ 7 := by rw [codeB_yes hp, gen_len]; exact (permB_size hp).2
    clear hp
    go_wp2_with fail
    refine (code_any _ (hx.below b1) hn hc).mono ?_
    rintro e w2 ⟨A2, n2, c2, rfl, o2, r2, ⟨cp2, le2⟩, b2⟩
    have g2 := bnext b1 b2 b1.size
    have HL := Lib.hid r2.1
    rw [r2.1] at hk
    clear o2 b1 b2
    go_wp2
    go_loopw [3, 5, 12] (fun s _ i wr => ∃ k : Nat, k ≤ n2 ∧ i = .int .i64 (k : Int) ∧ s = .int .i64 (sumTo (codeB l) k) ∧ Quiet w2 wr) (fun _ _ i _ => n2 - (intOf i).toNat)
    case atStart => exact ⟨0, Nat.zero_le _, rfl, rfl, (by first | exact ⟨_, rfl⟩ | exact ⟨_, (World.drewN_drewN _ _ _).symm⟩ | exact Quiet.refl _ | (simp only [World.drewN_drewN]; exact ⟨_, rfl⟩))⟩
    case round =>
      obtain ⟨k, hk, rfl, rfl, ⟨q, rfl⟩⟩ := hrel
      by_cases hlt : k < n2
      · obtain ⟨ad, hA, hc⟩ := r2.cell hlt
        subst hA
        obtain ⟨b1, b2⟩ := sumTo_bound HS.out (n := k) (by rw [HL.out]; exact hk)
        obtain ⟨b3, b4⟩ := HS.out k (by rw [HL.out]; exact hlt)
        go_wp2
        go_roundw
        case rel => exact ⟨k + 1, by omega, by go_num, rfl, (by first | exact ⟨_, rfl⟩ | exact ⟨_, (World.drewN_drewN _ _ _).symm⟩ | exact Quiet.refl _ | (simp only [World.drewN_drewN]; exact ⟨_, rfl⟩))⟩
        case measure => simp [intOf]; omega
      · obtain rfl : k = n2 := by omega
        go_wp2
        go_ret
        exact ⟨by rw [HD.out]; unfold sumL; rw [HL.out]; rfl, below_drewN g2 _⟩
  · have HD := Lib.hid (lengthB_no hp)
    go_enter Try.func154, Try.ntmps154
    go_wp2_with fail
    refine (isPerm_any _ hx hn).mono ?_
    rintro e w1 ⟨rfl, b1⟩
    rw [hp]
    go_wp2
    go_ret
    exact ⟨by rw [HD.out]; rfl, b1⟩
end Go.Proofs.Ytgbojgmmingfdaa

/- TrimPerm of the program, at a permutation. -/
namespace Go.Proofs.Ytgbojgmmingfdaa
open Go.RowKit

/-- How many numbers stay. -/
def trimN (l : List Int) : Nat → Nat
  | 0 => 0
  | 1 => 1
  | k + 2 => if nth l (k + 1) = (k : Int) + 1 then trimN l (k + 1) else k + 2
def trimL (l : List Int) : List Int := l.take (trimN l l.length)
theorem trimN_le (l : List Int) : ∀ k, trimN l k ≤ k
  | 0 => Nat.le_refl _
  | 1 => Nat.le_refl _
  | k + 2 => by
    rw [trimN]
    split
    · have := trimN_le l (k + 1); omega
    · exact Nat.le_refl _
set_option maxRecDepth 100000 in
set_option maxHeartbeats 2000000 in
theorem iTrim_any {A : Option Addr} {n : Nat} {l : List Int} {w : World} (c : Nat) (hx : RI w A n l) (hp : permB l = true) (hc : n ≤ c) :
    Calls Try.prog 161 #[.slice A n c] w (Makes w (trimL l)) := by
  have HX := Lib.hid hx
  have HL : Hid (l.length = n) := hx.1
  have hsz := permB_size hp
  rw [HL.out] at hsz
  have HIS : Hid (Calls Try.prog 94 #[.slice A n c] w (GivesB w (.bool true))) := by
    have h := isPerm_any (w := w) c hx (by omega)
    rw [hp] at h
    exact h
  clear hx hp
  go_enter Try.func161, Try.ntmps161
  go_upto_region 4 with (first | (go_at_call 94; refine HIS.out.mono ?_; rintro e w1 ⟨rfl, b1⟩) | fail)
  have B1 := Lib.hid b1
  clear b1
  go_loopw [3] (fun i wr => ∃ k : Nat, 1 ≤ k ∧ k ≤ n ∧ i = .int .i64 (k : Int) ∧ Hid (Below w.heap.size w wr ∧ trimN l k = trimN l n)) (fun i _ => (intOf i).toNat)
  case atStart => exact ⟨n, by omega, Nat.le_refl _, rfl, B1.out, rfl⟩
  case round =>
    obtain ⟨k, hk1, hk, rfl, HY⟩ := hrel
    by_cases hlt : 1 < k
    · obtain ⟨r, rfl⟩ : ∃ r, k = r + 2 := ⟨k - 2, by omega⟩
      obtain ⟨ad, rfl, hcl⟩ := (HX.out.below HY.out.1).2 (by omega)
      have z := hcl (r + 1) (by omega)
      rw [show ad.add (r + 1) = ⟨ad.block, ad.off + (r + 1), none⟩ by unfold Addr.add; rw [if_neg (by omega)]] at z
      obtain ⟨x, hx⟩ : ∃ x, x = nth l (r + 1) := ⟨_, rfl⟩
      rw [← hx] at z
      have e1 : ((r + 2 : Nat) : Int) = (r : Int) + 1 + 1 := by omega
      have hw1 : IntKind.i64.wrap ((r : Int) + 1 + 1 - 1) = (r : Int) + 1 := by rw [IntKind.wrap_i64]; omega
      have hr1 : (r : Int) + 1 < (n : Int) := by omega
      have hr0 : (0 : Int) ≤ (r : Int) + 1 := by omega
      have hr2 : (1 : Int) < (r : Int) + 1 + 1 := by omega
      rw [e1]
      by_cases hxr : x = (r : Int) + 1
      · have HT : Hid (trimN l (r + 1) = trimN l n) := by
          show _ = _
          rw [← HY.out.2, trimN, if_pos (by rw [← hx]; exact hxr)]
        subst hxr
        clear hx hcl
        go_wp2_with fail
        go_roundw
        case rel => exact ⟨r + 1, by omega, by omega, by go_num, HY.out.1, HT.out⟩
        case measure => simp [intOf]; omega
      · have HT : Hid (trimN l n = r + 2) := by
          show _ = _
          rw [← HY.out.2, trimN, if_neg (by rw [← hx]; exact hxr)]
        have hxb : (x == (r : Int) + 1) = false := by simpa using hxr
        have HTK : Hid (l.take (r + 2) = trimL l) := by show _ = _; rw [trimL, HL.out, HT.out]
        have HCL : Hid (∀ W, Below w.heap.size w W → Calls Try.prog 134 #[.slice (some ad) (r + 2) c] W (Makes W (trimL l))) := fun W b => by
          have h := clone_any (w := W) c (RI.take (HX.out.below b) (k := r + 2) (by omega)) (by omega)
          rw [HTK.out] at h
          exact h
        have hc1 : (r : Int) + 1 + 1 ≤ (c : Int) := by omega
        have hc0 : (0 : Int) ≤ (r : Int) + 1 + 1 := by omega
        have htn : ((r : Int) + 1 + 1).toNat = r + 2 := by omega
        clear hx hcl
        go_wp2_with (first
          | (go_at_call 134; (with_reducible refine (HCL.out _ ?_).mono ?_); (exact HY.out.1); rintro e w4 ⟨A4, n4, c4, rfl, o4, r4, ⟨p4, q4⟩, b4⟩)
          | fail)
        go_ret
        exact ⟨A4, n4, c4, rfl, o4.mono HY.out.1.size, r4, ⟨p4, q4⟩, HY.out.1.trans (b4.mono HY.out.1.size)⟩
    · obtain rfl : k = 1 := by omega
      have HT : Hid (trimN l n = 1) := by show _ = _; rw [← HY.out.2]; rfl
      have HTK : Hid (l.take (1) = trimL l) := by show _ = _; rw [trimL, HL.out, HT.out]
      have HCL : Hid (∀ W, Below w.heap.size w W → Calls Try.prog 134 #[.slice A (1) c] W (Makes W (trimL l))) := fun W b => by
        have h := clone_any (w := W) c (RI.take (HX.out.below b) (k := 1) (by omega)) (by omega)
        rw [HTK.out] at h
        exact h
      have hc1 : (1 : Int) ≤ (c : Int) := by omega
      go_wp2_with (first
        | (go_at_call 134; (with_reducible refine (HCL.out _ ?_).mono ?_); (exact HY.out.1); rintro e w4 ⟨A4, n4, c4, rfl, o4, r4, ⟨p4, q4⟩, b4⟩)
        | fail)
      go_ret
      exact ⟨A4, n4, c4, rfl, o4.mono HY.out.1.size, r4, ⟨p4, q4⟩, HY.out.1.trans (b4.mono HY.out.1.size)⟩
end Go.Proofs.Ytgbojgmmingfdaa
