/- Draws for Gromov-Witten numbers: boxes of at most five; lists bent. -/
import Derived.BigRegion
import Derived.Test.YtgbojgmmingfdaaDraw
import Derived.Test.YtgbojgmmingfdaaShapes
import Derived.Test.YtgbojgmmingfdaaRevL
namespace Go.Proofs.Ytgbojgmmingfdaa
open Go.RowKit

theorem dBox5_any {w : World} {g : Nat} {A : Option Addr} {n c : Nat} (h : Dr w g A n c) :
    Calls Try.prog 100 #[.pointer (some ⟨g, 0, none⟩), .int .i64 5] w (Draws2 w g A n c fun k m => (2 ≤ m ∧ m ≤ 5) ∧ 0 ≤ k ∧ k ≤ m) := by
  go_enter Try.func100, Try.ntmps100
  go_wp2_with fail
  refine (l1Below_any 4 h (by omega) (by omega)).mono ?_
  rintro e w1 ⟨x, rfl, hx, hc, hg⟩
  have d1 := h.next hc hg
  have HG := Lib.hid hg
  clear hg hc
  go_wp2_with fail
  refine (l1Once_any 12 d1 (by omega) (by omega)).mono ?_
  rintro e w2 ⟨b, rfl, hc2, hg2⟩
  have d2 := d1.next hc2 hg2
  have HG2 := Lib.hid (HG.out.trans hg2)
  clear hg2 hc2
  cases b
  · go_wp2_with fail
    refine (l1Below_any _ d2 (by omega) (by omega)).mono ?_
    rintro e w3 ⟨y, rfl, hy, hc3, hg3⟩
    have HG3 := Lib.hid (HG2.out.trans hg3)
    clear hg3
    go_wp2
    go_ret2
    exact ⟨1 + y, 2 + x, rfl, by omega, hc3, HG3.out⟩
  · go_wp2_with fail
    have hlt := d2.cur.lt
    have hne : w2.heap.size ≠ g := by omega
    have b3 : Below w2.heap.size w2 (w2.alloc (.cells #[.int .i64 0, .int .i64 (2 + x)] 3)) := (Below.refl _ _).alloc (Nat.le_refl _) _
    have d3 := d2.below b3
    have o3 := OI.lit w2 w2.heap.size [0, 2 + x] 2 rfl (Nat.le_refl _) (by simp)
    refine (l1Pick2_any 0 (2 + x) d3 (by simpa [cellsI] using o3.ri) hne).mono ?_
    rintro e w3 ⟨y, rfl, hy, hc3, hg3⟩
    have HG3 := Lib.hid ((grown_below HG2.out b3).trans hg3)
    clear hg3
    go_wp2
    go_ret2
    exact ⟨y, 2 + x, rfl, by omega, hc3, HG3.out⟩

/-- A list, as it is or bent. -/
def Bent (w : World) (g : Nat) (A : Option Addr) (n c base : Nat) (m : Nat) : Ending → World → Prop := fun e w' =>
  ∃ A' n' c' l', e = .returned (.slice A' n' c') ∧ OI w' base (.slice A' n' c') l' ∧ l'.length ≤ m + 1 ∧ Cur w' g A n c ∧ w.grownBy w' (some g)
theorem OI.front {w : World} {base n c k : Nat} {A : Option Addr} {l : List Int} (h : OI w base (.slice A n c) l) (hk : k ≤ n) : OI w base (.slice A k c) (l.take k) := by
  have hn := h.ri.1
  obtain ⟨h1, h2⟩ := h
  have hlen : (l.take k).length = k := by rw [List.length_take]; omega
  unfold OI
  rw [hlen]
  refine ⟨by simp [cellsI]; omega, ?_⟩
  rcases h2 with ⟨hv, h0⟩ | ⟨g, cap, cur, hv, hb, hh, hle, hc, hs, ht⟩
  · obtain rfl : k = 0 := by omega
    injection hv with e1 e2 e3
    exact .inl ⟨by rw [e1, e3], rfl⟩
  · injection hv with e1 e2 e3
    refine .inr ⟨g, cap, cur, by rw [e1, e3], hb, hh, by omega, hc, hs, ?_⟩
    have e : cellsI (l.take k) = (cellsI l).take k := by simp [cellsI]
    rw [e, ← ht, List.take_take]
    congr 1
    omega
theorem OI.some2 {w : World} {base n c : Nat} {A : Option Addr} {l : List Int} (h : OI w base (.slice A n c) l) (hn : 0 < n) : ∃ g, A = some ⟨g, 0, none⟩ := by
  rcases h.2 with ⟨he, hl⟩ | ⟨g, cap, cur, he, _⟩
  · injection he with h1 h2 h3
    omega
  · injection he with h1 h2 h3
    exact ⟨g, h1⟩
set_option maxRecDepth 100000 in
set_option maxHeartbeats 1000000 in
theorem dBent_any {w : World} {g : Nat} {A B : Option Addr} {n c m cm base : Nat} {l : List Int} (h : Dr w g A n c) (hx : OI w base (.slice B m cm) l) (hm : m ≤ 200) (hbase : base ≤ w.heap.size) (hgb : g < base) :
    Calls Try.prog 115 #[.pointer (some ⟨g, 0, none⟩), .slice B m cm] w (Bent w g A n c base m) := by
  have hlm := hx.ri.1
  go_enter Try.func115, Try.ntmps115
  go_wp2_with fail
  refine (l1Once_any 10 h (by omega) (by omega)).mono ?_
  rintro e w1 ⟨b, rfl, hc1, hg1⟩
  have d1 := h.next hc1 hg1
  have hx1 := hx.kept_low hg1 (fun b e => by injection e with e; omega)
  have HG1 := Lib.hid hg1
  have hs1 := hg1.size
  have hglt := h.cur.lt
  clear hg1
  cases b
  · go_wp2
    go_ret
    exact ⟨B, m, cm, l, rfl, hx1, by omega, hc1, HG1.out⟩
  · go_wp2_with fail
    refine (l1Ints_any _ hx1.ri (by omega)).mono ?_
    rintro e w2 ⟨A2, n2, c2, rfl, o2, r2, ⟨cp2, le2⟩, b2⟩
    have d2 := d1.below b2
    have hn2 : n2 = m := by rw [← r2.1, hlm]
    subst hn2
    have HG2 := Lib.hid (grown_below HG1.out b2)
    have hs2 := b2.size
    clear b2 r2
    go_wp2_with fail
    refine (l1Below_any 4 d2 (by omega) (by omega)).mono ?_
    rintro e w3 ⟨x, rfl, hx4, hc3, hg3⟩
    have d3 := d2.next hc3 hg3
    have o3 := o2.kept_low hg3 (fun b e => by injection e with e; omega)
    have HG3 := Lib.hid (HG2.out.trans hg3)
    have hs3 := hg3.size
    clear hg3 hc3 o2
    have hx4 : x = 0 ∨ x = 1 ∨ x = 2 ∨ x = 3 := by omega
    rcases hx4 with rfl | rfl | rfl | rfl
    · go_wp2_with fail
      refine (l1Below_any 9 d3 (by omega) (by omega)).mono ?_
      rintro e w4 ⟨y, rfl, hy, hc4, hg4⟩
      have o4 := o3.kept_low hg4 (fun b e => by injection e with e; omega)
      have HG4 := Lib.hid (HG3.out.trans hg4)
      have hs4 := hg4.size
      have d4 := d3.next hc4 hg4
      clear hg4 hc4
      have hlen : l.length + 1 ≤ 1000000000000 := by omega
      have hb4 : w1.heap.size ≤ w4.heap.size := by omega
      go_wp2_with (at_builtin; refine wpApp1 rfl _ _ rfl w1.heap.size (.slice A2 n2 c2) l (y - 1) rfl (by exact o4) rfl hlen (by exact hb4) ?_; intro v' w' h1 h2 h3)
      go_ret
      obtain ⟨A', n', c', rfl, _⟩ := h1.form
      have hG := grown_step HG4.out h2 (.inr fun k hk => by have := (o4.lt k hk).1; omega)
      refine ⟨A', n', c', _, rfl, h1.mono (by omega), by simp; omega, ?_, hG⟩
      exact d4.cur.same (h2.block g (by omega) fun e => by have := (o4.lt g e.symm).1; omega)
    · have hlen : l.length + 1 ≤ 1000000000000 := by omega
      have hb4 : w1.heap.size ≤ w3.heap.size := by omega
      go_wp2_with (at_builtin; refine wpApp1 rfl _ _ rfl w1.heap.size (.slice A2 n2 c2) l (n2 : Int) rfl (by exact o3) rfl hlen (by exact hb4) ?_; intro v' w' h1 h2 h3)
      go_ret
      obtain ⟨A', n', c', rfl, _⟩ := h1.form
      have hG := grown_step HG3.out h2 (.inr fun k hk => by have := (o3.lt k hk).1; omega)
      refine ⟨A', n', c', _, rfl, h1.mono (by omega), by simp; omega, ?_, hG⟩
      exact d3.cur.same (h2.block g (by omega) fun e => by have := (o3.lt g e.symm).1; omega)
    · by_cases h0 : 0 < n2
      · go_wp2_with fail
        refine (l1Below_any n2 d3 (by omega) (by omega)).mono ?_
        rintro e w4 ⟨y, rfl, hy, hc4, hg4⟩
        have o4 := o3.kept_low hg4 (fun b e => by injection e with e; omega)
        have HG4 := Lib.hid (HG3.out.trans hg4)
        have hs4 := hg4.size
        have d4 := d3.next hc4 hg4
        clear hg4 hc4
        go_wp2_with fail
        refine (l1Below_any 9 d4 (by omega) (by omega)).mono ?_
        rintro e w5 ⟨u, rfl, hu, hc5, hg5⟩
        have o5 := o4.kept_low hg5 (fun b e => by injection e with e; omega)
        have HG5 := Lib.hid (HG4.out.trans hg5)
        have hs5 := hg5.size
        have d5 := d4.next hc5 hg5
        clear hg5 hc5
        obtain ⟨Y, rfl⟩ := Int.eq_ofNat_of_zero_le hy.1
        obtain ⟨G, rfl⟩ : ∃ G, A2 = some ⟨G, 0, none⟩ := OI.some2 o5 h0
        have hYl : Y < n2 := by omega
        obtain ⟨st, gr⟩ := OI.stored o5 Y (u - 1)
        have hfz := OI.frozenAt o5 Y
        obtain ⟨ad, hA, hcl⟩ := o5.ri.cell hYl
        obtain rfl := Option.some.inj hA
        rw [addr_off] at hcl
        have hGG := (o5.lt G rfl).1
        have HF : Hid (Bent w g A n c base n2 (.returned (.slice (some ⟨G, 0, none⟩) n2 c2)) (w5.setCell ⟨G, Y, none⟩ (.int .i64 (u - 1)))) := by
          have hG := grown_step HG5.out gr (.inr fun k hk => by injection hk with hk; omega)
          exact ⟨_, n2, c2, _, rfl, st.mono (by omega), by simp; omega, d5.cur.same (gr.block g (by have := d5.cur.lt; omega) fun e => by injection e with e; omega), hG⟩
        clear st gr o4 o3 hGG
        go_wp2
        go_ret
        exact HF.out
      · obtain rfl : n2 = 0 := by omega
        go_wp2
        go_ret
        exact ⟨A2, 0, c2, l, rfl, o3.mono (by omega), by omega, d3.cur, HG3.out⟩
    · have hq : IntKind.i64.wrap ((n2 : Int).tdiv 2) = ((n2 / 2 : Nat) : Int) := by
        have e : ((n2 : Int).tdiv 2) = ((n2 / 2 : Nat) : Int) := by rw [Int.tdiv_eq_ediv_of_nonneg (by omega)]; omega
        rw [e]; exact IntWalk.i64_in _ (by omega)
      go_wp2
      go_ret
      exact ⟨A2, n2 / 2, c2, _, rfl, (o3.front (by omega)).mono (by omega), by rw [List.length_take]; omega, d3.cur, HG3.out⟩
end Go.Proofs.Ytgbojgmmingfdaa

/- dPerm and DrawKeyPoly of the reference. -/
namespace Go.Proofs.Ytgbojgmmingfdaa
open Go.RowKit

set_option maxHeartbeats 1000000 in
theorem dPerm_any {w : World} {g : Nat} {A : Option Addr} {n c : Nat} (m : Nat) (h : Dr w g A n c) (hm : 1 ≤ m) (hm2 : m ≤ 100) :
    Calls Try.prog 87 #[.pointer (some ⟨g, 0, none⟩), .int .i64 (m : Int)] w (fun e w' => ∃ B bn bd l, e = .returned (.slice B bn bd) ∧ OI w' w.heap.size (.slice B bn bd) l ∧ l.length ≤ m ∧ 1 ≤ l.length ∧ Cur w' g A n c ∧ w.grownBy w' (some g)) := by
  have hglt := h.cur.lt
  go_enter Try.func87, Try.ntmps87
  go_wp2
  go_loopw [5, 6] (fun u iv wr => ∃ (k : Nat) (l : List Int), l.length = k ∧ k ≤ m ∧ iv = .int .i64 (k : Int) ∧ OI wr w.heap.size u l ∧ Hid ((∀ j, 0 ≤ nth l j ∧ nth l j ≤ 1000) ∧ (1 ≤ k → nth l 0 < m)) ∧ Dr wr g A n c ∧ w.grownBy wr (some g)) (fun _ iv _ => m - (intOf iv).toNat)
  case atStart =>
    have b3 : Below w.heap.size w (w.alloc (.cells #[] 3)) := (Below.refl _ _).alloc (Nat.le_refl _) _
    exact ⟨0, [], rfl, Nat.zero_le _, rfl, OI.lit w w.heap.size [] 0 rfl (Nat.le_refl _) (by simp), ⟨fun j => by simp [nth], fun h => by omega⟩, h.below b3, grown_below (World.grownBy.refl _ _) b3⟩
  case round =>
    obtain ⟨k, l, hl, hk, rfl, ho, HL, hd, hg⟩ := hrel
    by_cases hlt : k < m
    · have hw : IntKind.i64.wrap ((m : Int) - (k : Int)) = (m : Int) - (k : Int) := IntWalk.i64_in _ (by omega)
      have HLL : Hid (l.length = k) := hl
      have HG := Lib.hid hg
      clear hl hg
      go_wp2_with fail
      refine (l1Below_any ((m : Int) - (k : Int)) hd (by omega) (by omega)).mono ?_
      rintro e w1 ⟨x, rfl, hx, hc, hg1⟩
      have hgb : w.heap.size ≤ wr.heap.size := HG.out.size
      have ho1 := ho.kept_low hg1 (fun b e => by injection e with e; omega)
      have d1 := hd.next hc hg1
      have HG1 := Lib.hid (HG.out.trans hg1)
      have hs1 : w.heap.size ≤ w1.heap.size := HG1.out.size
      clear hg1 hc ho hd
      have hlen : l.length + 1 ≤ 1000000000000 := by rw [HLL.out]; omega
      go_wp2_with (at_builtin; refine wpApp1 rfl _ _ rfl w.heap.size u5 l x rfl (by exact ho1) rfl hlen (by exact hs1) ?_; intro v' w' h1 h2 h3)
      have b2 : Below w1.heap.size w1 (w1.alloc (.cells #[.int .i64 x] 3)) := (Below.refl _ _).alloc (Nat.le_refl _) _
      go_roundw
      case rel =>
        refine ⟨k + 1, l ++ [x], by rw [List.length_append, HLL.out]; rfl, by omega, by go_num, h1, ⟨fun j => ?_, fun _ => ?_⟩, ?_, ?_⟩
        · rcases Nat.lt_trichotomy j l.length with hj | hj | hj
          · rw [nth_append_left hj]; exact HL.out.1 j
          · rw [nth_append_right (by omega), hj, Nat.sub_self]; show 0 ≤ x ∧ x ≤ 1000; omega
          · rw [nth_ge (by rw [List.length_append, List.length_singleton]; omega)]; omega
        · by_cases hk0 : k = 0
          · have hnil : l = [] := List.eq_nil_of_length_eq_zero (by rw [HLL.out]; exact hk0)
            rw [hnil]
            show x < (m : Int)
            omega
          · rw [nth_append_left (by rw [HLL.out]; omega)]
            exact HL.out.2 (by omega)
        · have hG := grown_step HG1.out h2 (.inr fun k hk => (ho1.lt k hk).1)
          refine ⟨d1.cur.same ?_, h.byt.low hG h.ne, h.ne⟩
          exact h2.block g (by omega) fun e => by have := (ho1.lt g e.symm).1; omega
        · exact grown_step HG1.out h2 (.inr fun k hk => (ho1.lt k hk).1)
      case measure => simp [intOf]; omega
    · obtain rfl : k = m := by omega
      obtain ⟨B, bn, bd, rfl, hr, -, -⟩ := ho.form
      have hbn : bn = k := by rw [← hr.1]; exact hl
      subst hbn
      have HDE : Hid (Calls Try.prog 151 #[.slice B bn bd] wr (fun e w' => ∃ m, Makes wr m e w' ∧ m.length ≤ bn ∧ (1 ≤ bn → 1 ≤ m.length))) := l1Decode_any bd hr hm2 HL.out.1 HL.out.2
      have HD := Lib.hid hd
      have HG := Lib.hid hg
      clear hr ho hd hg hl
      go_wp2_with (first | (go_at_call 151; refine HDE.out.mono ?_; rintro e w2 ⟨l2, ⟨A2, n2, c2, rfl, o2, r2, ⟨cp2, le2⟩, b2⟩, hl2, hl3⟩) | fail)
      go_ret
      have hs := HG.out.size
      exact ⟨A2, n2, c2, l2, rfl, o2.mono hs, hl2, hl3 hm, HD.out.cur.kept b2, grown_below HG.out b2⟩
def DrawsI (w : World) (N : Nat) : Ending → World → Prop := fun e w' => ∃ B bn bd l, e = .returned (.slice B bn bd) ∧ OI w' w.heap.size (.slice B bn bd) l ∧ l.length ≤ N ∧ Below w.heap.size w w'
set_option maxRecDepth 100000 in
set_option maxHeartbeats 1000000 in
theorem drawKey_any {w : World} {A : Option Addr} {n : Nat} (c : Nat) (hb : RB w A n) :
    Calls Try.prog 42 #[.slice A n c] w (DrawsI w 6) := by
  go_enter Try.func42, Try.ntmps42
  go_wp2_with fail
  refine (l1New_any hb).mono ?_
  rintro e w1 ⟨g, rfl, hg, d1, b1⟩
  have HB1 := Lib.hid b1
  have hs1 := b1.size
  have hlt1 := d1.cur.lt
  clear b1
  go_wp2_with fail
  refine (l1Below_any 5 d1 (by omega) (by omega)).mono ?_
  rintro e w2 ⟨x, rfl, hx, hc2, hg2⟩
  have d2 := d1.next hc2 hg2
  have HG2 := Lib.hid hg2
  have hs2 := hg2.size
  clear hg2 hc2
  obtain ⟨m, hm⟩ : ∃ m : Nat, 1 + x = (m : Int) := ⟨(1 + x).toNat, by omega⟩
  have hw : IntKind.i64.wrap (1 + x) = (m : Int) := by rw [← hm]; exact IntWalk.i64_in _ (by omega)
  have hm1 : 1 ≤ m ∧ m ≤ 5 := by omega
  clear hm
  go_wp2_with fail
  refine (dPerm_any m d2 hm1.1 (by omega)).mono ?_
  rintro e w3 ⟨B, bn, bd, l, rfl, o3, hl, hl1, hc3, hg3⟩
  have d3 := d2.next hc3 hg3
  have HG3 := Lib.hid (HG2.out.trans hg3)
  have hs3 := hg3.size
  clear hg3 hc3
  go_wp2_with fail
  refine (l1Once_any 2 d3 (by omega) (by omega)).mono ?_
  rintro e w4 ⟨b, rfl, hc4, hg4⟩
  have d4 := d3.next hc4 hg4
  have o4 := o3.kept_low hg4 (fun b e => by injection e with e; omega)
  have HG4 := Lib.hid (HG3.out.trans hg4)
  have hs4 := hg4.size
  clear hg4 hc4 o3
  have hbn : 1 ≤ bn ∧ bn ≤ 5 := by rw [← o4.ri.1]; omega
  have HLB : Hid (l.length ≤ 5) := by show _ ≤ _; omega
  cases b with
  | false =>
    go_wp2_with fail
    refine (dBent_any d4 o4 (by omega) (by omega) (by omega)).mono ?_
    rintro e w5 ⟨A5, n5, c5, l5, rfl, o5, le5, hc5, hg5⟩
    go_wp2
    go_ret
    have hG := HG4.out.trans hg5
    exact ⟨A5, n5, c5, l5, rfl, o5.mono (by omega), by omega, HB1.out.grown hG HB1.out.size (fun b e => by injection e with e; omega)⟩
  | true =>
    go_wp2_with fail
    refine (l1Below_any 5 d4 (by omega) (by omega)).mono ?_
    rintro e w5 ⟨y, rfl, hy, hc5, hg5⟩
    have d5 := d4.next hc5 hg5
    have o5 := o4.kept_low hg5 (fun b e => by injection e with e; omega)
    have HG5 := Lib.hid (HG4.out.trans hg5)
    have hs5 := hg5.size
    clear hg5 hc5 o4
    obtain ⟨gg, rfl⟩ := o5.some2 (by omega)
    have hgg := o5.lt gg rfl
    have z0 := o5.cellAt (j := 0) (by omega)
    have f0 := o5.frozenAt 0
    obtain ⟨st, gr⟩ := o5.stored 0 y
    have hb0 : (0 : Int) < (bn : Int) := by omega
    have hb1 : 0 < bn := by omega
    obtain ⟨W, hW⟩ : ∃ W, W = w5.setCell ⟨gg, 0, none⟩ (.int .i64 y) := ⟨_, rfl⟩
    rw [← hW] at st gr
    have HW := Lib.hid hW
    have ST := Lib.hid st
    have hs6 := gr.size
    have d6 : Dr W g A n c := by
      have hG := grown_step HG5.out gr (.inr fun k hk => by injection hk; omega)
      exact ⟨d5.cur.same (gr.block g (by have := d5.cur.lt; omega) fun e => by injection e; omega), d1.byt.low hG d1.ne, d1.ne⟩
    have HD6 := Lib.hid d6
    have HG6 : Hid (w1.grownBy W (some g)) := grown_step HG5.out gr (.inr fun k hk => by injection hk; omega)
    clear st gr o5 hW d6
    go_wp2_with fail
    rw [show w5.setCell ⟨gg, 0, none⟩ (.int .i64 y) = W from HW.out.symm]
    refine (dBent_any HD6.out ST.out (by omega) (by omega) (by omega)).mono ?_
    rintro e w7 ⟨A7, n7, c7, l7, rfl, o7, le7, hc7, hg7⟩
    go_wp2
    go_ret
    have hG := HG6.out.trans hg7
    exact ⟨A7, n7, c7, l7, rfl, o7.mono (by omega), by omega, HB1.out.grown hG HB1.out.size (fun b e => by injection e with e; omega)⟩
end Go.Proofs.Ytgbojgmmingfdaa
