/- l4Strips of the reference. -/
import Derived.Test.YtgbojgmmingfdaaSchurP
import Derived.Test.YtgbojgmmingfdaaSchurL
import Derived.Test.YtgbojgmmingfdaaAdd
namespace Go.Proofs.Ytgbojgmmingfdaa
open Go.RowKit

def stripsG (sh : List Int) (i : Nat) : List (List Int) := (stripsR (sh.drop i)).map (sh.take i ++ ·)
theorem stripsG_end {sh : List Int} {i : Nat} (h : sh.length ≤ i) : stripsG sh i = [sh] := by
  unfold stripsG
  rw [List.drop_eq_nil_of_le h, List.take_of_length_le h, stripsR]; simp
theorem nth_drop0 (sh : List Int) (i : Nat) : nth (sh.drop i) 0 = nth sh i := by rw [nth_drop, Nat.add_zero]
theorem stripsG_row {sh : List Int} {i : Nat} (h : i < sh.length) : stripsG sh i = (upI (nth sh (i + 1)) (nth sh i - nth sh (i + 1) + 1).toNat).flatMap fun n => stripsG (sh.set i n) (i + 1) := by
  unfold stripsG
  rw [drop_nth h, stripsR, nth_drop0, List.map_flatMap]
  refine flatMap_same fun n _ => ?_
  rw [List.map_map, List.drop_set_of_lt (by omega)]
  refine List.map_congr_left fun mu _ => ?_
  have e : (sh.set i n).take (i + 1) = sh.take i ++ [n] := by
    rw [take_succ_nth (by simp; exact h), nth_set_eq h, List.take_set_of_le (by omega)]
  simp only [Function.comp]
  rw [e]; simp
theorem pow_up (a : Nat) : a + 1 ≤ 2 ^ a := by
  induction a with
  | zero => simp
  | succ a ih => rw [Nat.pow_succ]; omega
theorem stripsR_len : ∀ {ms : List Int}, Desc ms → (stripsR ms).length ≤ 2 ^ (ms.map Int.toNat).sum
  | [], _ => by simp [stripsR]
  | m :: ms, h => by
    obtain ⟨h1, h2, h3⟩ := h
    have h0 : 0 ≤ nth ms 0 := by
      cases ms with
      | nil => exact Int.le_refl _
      | cons a t => exact h3.2.1
    have hp : ms.map Int.toNat = ms.map Int.toNat := rfl
    rw [stripsR, List.map_cons, List.sum_cons, Nat.pow_add]
    refine Nat.le_trans (flatMap_len (b := 2 ^ (ms.map Int.toNat).sum) fun c _ => ?_) ?_
    · rw [List.length_map]; exact stripsR_len h3
    · rw [upI_len]
      refine Nat.mul_le_mul_right _ (Nat.le_trans ?_ (pow_up m.toNat))
      omega
/-- What is still to come from n on. -/
def stripsX (sh : List Int) (i : Nat) (n : Int) : List (List Int) := (upI n (nth sh i - n + 1).toNat).flatMap fun y => stripsG (sh.set i y) (i + 1)
theorem upI_cons {k n : Int} (h : k ≤ n) : upI k (n - k + 1).toNat = k :: upI (k + 1) (n - (k + 1) + 1).toNat := by
  obtain ⟨m, hm⟩ : ∃ m : Nat, (n - k + 1).toNat = m + 1 := ⟨(n - k + 1).toNat - 1, by omega⟩
  rw [hm, upI, show (n - (k + 1) + 1).toNat = m by omega]
theorem stripsX_step {sh : List Int} {i : Nat} {n : Int} (h : n ≤ nth sh i) : stripsX sh i n = stripsG (sh.set i n) (i + 1) ++ stripsX sh i (n + 1) := by
  unfold stripsX
  rw [upI_cons h, List.flatMap_cons]
theorem stripsX_end {sh : List Int} {i : Nat} {n : Int} (h : nth sh i < n) : stripsX sh i n = [] := by
  unfold stripsX
  rw [show (nth sh i - n + 1).toNat = 0 by omega]; rfl
theorem stripsX_all {sh : List Int} {i : Nat} (h : i < sh.length) : stripsG sh i = stripsX sh i (nth sh (i + 1)) := stripsG_row h
theorem OI.gform {w : World} {base n c : Nat} {A : Option Addr} {l : List Int} (h : OI w base (.slice A n c) l) (hn : 0 < n) : ∃ g, A = some ⟨g, 0, none⟩ := by
  rcases h.2 with ⟨h1, h2⟩ | ⟨g, cap, cur, he, -⟩
  · obtain ⟨-, h3, -⟩ := slice_inj h1; omega
  · exact ⟨g, (slice_inj he).1⟩
/-- What l4Strips leaves. -/
def PostG (w : World) (b : Nat) (v : Value) (ls : List (List Int)) : Ending → World → Prop := fun e w' =>
  ∃ A n c cells', e = .returned (.slice A n c) ∧ OS w' b b (.slice A n c) ls cells' ∧ w.grownBy w' v.ownBlock ∧ ((Value.slice A n c).ownBlock = v.ownBlock ∨ ∀ k, (Value.slice A n c).ownBlock = some k → w.heap.size ≤ k)
set_option maxRecDepth 100000 in
set_option maxHeartbeats 1000000 in
theorem l4Strips_any (d : Nat) : ∀ (w : World) (b b0 i m c n c2 : Nat) (A A2 : Option Addr) (sh : List Int) (ls : List (List Int)) (cells : List Value), OI w b0 (.slice A m c) sh → OS w b b (.slice A2 n c2) ls cells → m = i + d → m ≤ 1000 → (∀ j, -1000000 ≤ nth sh j ∧ nth sh j ≤ 1000000) →
    (d = 0 → b ≤ b0 ∧ ∀ u' ∈ cells, u'.ownBlock = none ∨ u'.ownBlock ≠ (Value.slice A m c).ownBlock) → b ≤ w.heap.size → ls.length + (stripsG sh i).length ≤ 1000000000 →
    Calls Try.prog 129 #[.slice A m c, .int .i64 (i : Int), .slice A2 n c2] w (PostG w b (.slice A2 n c2) (ls ++ stripsG sh i)) := by
  induction d with
  | zero =>
    intro w b b0 i m c n c2 A A2 sh ls cells hs hl hm hmb hbd hz hb hlen
    obtain rfl : m = i := by omega
    obtain ⟨hb0, hap⟩ := hz rfl
    have hsl : sh.length = m := hs.ri.1
    rw [stripsG_end (by omega)] at hlen ⊢
    rw [List.length_singleton] at hlen
    have H := Lib.hid hl
    have HS := Lib.hid (hs.mono hb0)
    have HAP := Lib.hid hap
    clear hz hap hbd hm hs hl
    go_enter Try.func129, Try.ntmps129
    go_wp2_with (at_builtin; refine wpAppS rfl _ _ rfl b b (.slice A2 n c2) ls cells (.slice A m c) sh rfl rfl H.out HS.out HAP.out (by omega) hb ?_; intro v' w' o1 g1 k1)
    obtain ⟨A', n', c', rfl, -⟩ := OS.form o1
    go_ret
    refine ⟨_, _, _, _, rfl, o1, ⟨g1.os, g1.tape, g1.output, Nat.le_trans (by simp) g1.size, fun k hk hne => (g1.block k (by simp; omega) hne).trans (Below.heap_alloc w _ k hk)⟩, k1.imp id fun h k hk => ?_⟩
    rw [h] at hk; injection hk with hk; omega
  | succ d ih =>
    intro w b b0 i m c n c2 A A2 sh ls cells hs hl hm hmb hbd hz hb hlen
    subst hm
    have hsl : sh.length = i + (d + 1) := hs.ri.1
    have HH := Lib.hid hl
    have HS := Lib.hid hs
    have HBD := Lib.hid hbd
    have HLEN := Lib.hid hlen
    have IH := Lib.hid ih
    obtain ⟨g, hg⟩ : ∃ g, A = some ⟨g, 0, none⟩ := OI.gform hs (by omega)
    subst hg
    obtain ⟨Lo, hLo⟩ : ∃ L, L = nth sh (i + 1) := ⟨_, rfl⟩
    obtain ⟨Hi, hHi⟩ : ∃ L, L = nth sh i := ⟨_, rfl⟩
    have hbl := hbd (i + 1)
    have hbh := hbd i
    rw [← hLo] at hbl
    rw [← hHi] at hbh
    have HLO := Lib.hid hLo
    have HHI := Lib.hid hHi
    have HAT : Hid (∀ W, RI W (some ⟨g, 0, none⟩) (i + (d + 1)) sh → Calls Try.prog 182 #[.slice (some ⟨g, 0, none⟩) (i + (d + 1)) c, .int .i64 ((i : Int) + 1)] W (Gives W (.int .i64 Lo))) := fun W h => by
      have := l4At_any c ((i : Int) + 1) h (by omega) (by omega)
      rw [show ((i : Int) + 1).toNat = i + 1 by omega, ← HLO.out] at this
      exact this
    have hri := hs.ri
    clear hl hs hbd hlen ih hLo hHi hz
    go_enter Try.func129, Try.ntmps129
    go_wp2_with (go_at_call 182; refine (HAT.out _ (by first | exact hri | exact hri.drewN _)).mono ?_; rintro e w' ⟨rfl, q0, rfl⟩)
    go_loopw [2, 7, 8] (fun lv nv _ wr => ∃ (z : Int) (A' : Option Addr) (n' c' : Nat) (cs : List Value) (ls' : List (List Int)), lv = .slice A' n' c' ∧ nv = .int .i64 z ∧ Lo ≤ z ∧ z ≤ 1000001 ∧ Hid (OS wr b b (.slice A' n' c') ls' cs ∧ w.grownBy wr (Value.slice A2 n c2).ownBlock ∧ ((Value.slice A' n' c').ownBlock = (Value.slice A2 n c2).ownBlock ∨ ∀ k, (Value.slice A' n' c').ownBlock = some k → w.heap.size ≤ k) ∧ ls' ++ stripsX sh i z = ls ++ stripsG sh i)) (fun _ nv _ _ => (Hi + 1 - intOf nv).toNat)
    case atStart =>
      refine ⟨Lo, A2, n, c2, cells, ls, rfl, rfl, Int.le_refl _, by omega, HH.out.below (below_drewN (Below.refl _ _) _), ⟨rfl, rfl, rfl, Nat.le_refl _, fun _ _ _ => rfl⟩, .inl rfl, ?_⟩
      rw [stripsX_all (by omega), HLO.out]
    case round =>
      obtain ⟨z, A', n', c', cs, ls', rfl, rfl, hz1, hz2, HX⟩ := hrel
      have HSW : Hid (OI wr b0 (.slice (some ⟨g, 0, none⟩) (i + (d + 1)) c) sh) := HS.out.kept_type HX.out.2.1 (OF.typed' HH.out (by decide))
      have hc := HSW.out.cellAt (show i < i + (d + 1) by omega)
      rw [← HHI.out] at hc
      have hsz : b ≤ wr.heap.size := Nat.le_trans hb HX.out.2.1.size
      by_cases hle : z ≤ Hi
      · have HNB := Lib.hid HX.out.1
        go_wp2_with fail
        refine (l1Ints_any _ HSW.out.ri (by omega)).mono ?_
        rintro e wa ⟨A8, n8, c8, rfl, o8, r8, ⟨cp8, le8⟩, b8⟩
        obtain rfl : n8 = i + (d + 1) := by have := r8.1; omega
        obtain ⟨g8, rfl⟩ := o8.gform (by omega)
        have zc := o8.cellAt (show i < i + (d + 1) by omega)
        have zf := o8.frozenAt i
        have HST := Lib.hid (o8.stored i z)
        have O8 := Lib.hid o8
        have B8 := Lib.hid b8
        clear o8 r8 b8 cp8 le8
        have HCF : Hid (Calls Try.prog 129 #[.slice (some ⟨g8, 0, none⟩) (i + (d + 1)) c8, .int .i64 ((i : Int) + 1), .slice A' n' c'] (wa.setCell ⟨g8, i, none⟩ (.int .i64 z)) (PostG (wa.setCell ⟨g8, i, none⟩ (.int .i64 z)) b (.slice A' n' c') (ls' ++ stripsG (sh.set i z) (i + 1)))) := by
          have hbw : Below wr.heap.size wr (wa.setCell ⟨g8, i, none⟩ (.int .i64 z)) := B8.out.setCell (O8.out.lt g8 rfl).1 _
          have hx := HX.out.2.2.2
          rw [stripsX_step (by rw [← HHI.out]; exact hle)] at hx
          have hx2 := congrArg List.length hx
          rw [List.length_append, List.length_append, List.length_append] at hx2
          have hl2 := HLEN.out
          have h := IH.out (wa.setCell ⟨g8, i, none⟩ (.int .i64 z)) b wr.heap.size (i + 1) (i + (d + 1)) c8 n' c' (some ⟨g8, 0, none⟩) A' (sh.set i z) ls' cs HST.out.1 (OS.below HNB.out hbw) (by omega) hmb (fun j => by
              by_cases hj : i = j
              · rw [hj, nth_set_eq (by omega)]; omega
              · rw [nth_set_ne hj]; exact HBD.out j)
            (fun _ => ⟨hsz, fun u' hu' => by
              rcases h : u'.ownBlock with _ | q
              · exact .inl rfl
              · refine .inr fun e => ?_
                have h1 := (HNB.out.2.1.ltC hu' q h).2
                have h2 := (O8.out.lt g8 rfl).1
                simp [Value.ownBlock] at e
                omega⟩) (Nat.le_trans hsz hbw.size) (by omega)
          rw [show ((i + 1 : Nat) : Int) = (i : Int) + 1 by omega] at h
          exact h
        go_wp2_with (go_at_call 129; refine HCF.out.mono ?_; rintro e w5 ⟨A5, n5, c5, cs5, rfl, o5, g5, k5⟩)
        go_roundw
        case rel =>
          have hbw : Below wr.heap.size wr (wa.setCell ⟨g8, i, none⟩ (.int .i64 z)) := B8.out.setCell (O8.out.lt g8 rfl).1 _
          obtain ⟨a1, a2, a3, a4⟩ := HX.out
          rw [stripsX_step (by rw [← HHI.out]; exact hle), ← List.append_assoc] at a4
          refine ⟨z + 1, A5, n5, c5, cs5, _, rfl, by go_num, by omega, by omega, o5, grown_step (grown_below a2 hbw) g5 (a3.imp id fun h k hk => h k hk), ?_, a4⟩
          rcases k5 with k5 | k5
          · rw [k5]; exact a3
          · exact .inr fun k hk => Nat.le_trans a2.size (Nat.le_trans hbw.size (k5 k hk))
        case measure => simp [intOf]; omega
      · go_wp2
        go_ret
        obtain ⟨a1, a2, a3, a4⟩ := HX.out
        rw [stripsX_end (by rw [← HHI.out]; omega), List.append_nil] at a4
        rw [← a4]
        exact ⟨_, _, _, cs, rfl, a1, a2, a3⟩
end Go.Proofs.Ytgbojgmmingfdaa
