/- Draws for Gromov-Witten numbers: boxes of at most five; lists bent. -/
import Derived.BigRegion
import Derived.Test.YtgbojgmmingfdaaDraw
import Derived.Test.YtgbojgmmingfdaaShapes
import Derived.Test.YtgbojgmmingfdaaTermA
namespace Go.Proofs.Ytgbojgmmingfdaa
open Go.RowKit

theorem dBox5_any {w : World} {g : Nat} {A : Option Addr} {n c : Nat} (h : Dr w g A n c) :
    Calls Try.prog 100 #[.pointer (some ⟨g, 0, none⟩), .int .i64 5] w (Draws2 w g A n c fun k m => (2 ≤ m ∧ m ≤ 5) ∧ 0 ≤ k ∧ k ≤ m) := by
  go_enter Try.func100, Try.ntmps100
  go_wp2_with fail
  refine (l1Below_any 4 h (by omega) (by omega)).mono ?_
  rintro e w1 ⟨x, rfl, hx, hc, hg⟩
  have d1 := h.next hc hg
  have HG := Lib.hid hg
  clear hg hc
  go_wp2_with fail
  refine (l1Once_any 12 d1 (by omega) (by omega)).mono ?_
  rintro e w2 ⟨b, rfl, hc2, hg2⟩
  have d2 := d1.next hc2 hg2
  have HG2 := Lib.hid (HG.out.trans hg2)
  clear hg2 hc2
  cases b
  · go_wp2_with fail
    refine (l1Below_any _ d2 (by omega) (by omega)).mono ?_
    rintro e w3 ⟨y, rfl, hy, hc3, hg3⟩
    have HG3 := Lib.hid (HG2.out.trans hg3)
    clear hg3
    go_wp2
    go_ret2
    exact ⟨1 + y, 2 + x, rfl, by omega, hc3, HG3.out⟩
  · go_wp2_with fail
    have hlt := d2.cur.lt
    have hne : w2.heap.size ≠ g := by omega
    have b3 : Below w2.heap.size w2 (w2.alloc (.cells #[.int .i64 0, .int .i64 (2 + x)] 3)) := (Below.refl _ _).alloc (Nat.le_refl _) _
    have d3 := d2.below b3
    have o3 := OI.lit w2 w2.heap.size [0, 2 + x] 2 rfl (Nat.le_refl _) (by simp)
    refine (l1Pick2_any 0 (2 + x) d3 (by simpa [cellsI] using o3.ri) hne).mono ?_
    rintro e w3 ⟨y, rfl, hy, hc3, hg3⟩
    have HG3 := Lib.hid ((grown_below HG2.out b3).trans hg3)
    clear hg3
    go_wp2
    go_ret2
    exact ⟨y, 2 + x, rfl, by omega, hc3, HG3.out⟩

/-- A list, as it is or bent. -/
def Bent (w : World) (g : Nat) (A : Option Addr) (n c base : Nat) (m : Nat) : Ending → World → Prop := fun e w' =>
  ∃ A' n' c' l', e = .returned (.slice A' n' c') ∧ OI w' base (.slice A' n' c') l' ∧ l'.length ≤ m + 1 ∧ Cur w' g A n c ∧ w.grownBy w' (some g)
theorem OI.front {w : World} {base n c k : Nat} {A : Option Addr} {l : List Int} (h : OI w base (.slice A n c) l) (hk : k ≤ n) : OI w base (.slice A k c) (l.take k) := by
  have hn := h.ri.1
  obtain ⟨h1, h2⟩ := h
  have hlen : (l.take k).length = k := by rw [List.length_take]; omega
  unfold OI
  rw [hlen]
  refine ⟨by simp [cellsI]; omega, ?_⟩
  rcases h2 with ⟨hv, h0⟩ | ⟨g, cap, cur, hv, hb, hh, hle, hc, hs, ht⟩
  · obtain rfl : k = 0 := by omega
    injection hv with e1 e2 e3
    exact .inl ⟨by rw [e1, e3], rfl⟩
  · injection hv with e1 e2 e3
    refine .inr ⟨g, cap, cur, by rw [e1, e3], hb, hh, by omega, hc, hs, ?_⟩
    have e : cellsI (l.take k) = (cellsI l).take k := by simp [cellsI]
    rw [e, ← ht, List.take_take]
    congr 1
    omega
theorem OI.some2 {w : World} {base n c : Nat} {A : Option Addr} {l : List Int} (h : OI w base (.slice A n c) l) (hn : 0 < n) : ∃ g, A = some ⟨g, 0, none⟩ := by
  rcases h.2 with ⟨he, hl⟩ | ⟨g, cap, cur, he, _⟩
  · injection he with h1 h2 h3
    omega
  · injection he with h1 h2 h3
    exact ⟨g, h1⟩
set_option maxRecDepth 100000 in
set_option maxHeartbeats 1000000 in
theorem dBent_any {w : World} {g : Nat} {A B : Option Addr} {n c m cm base : Nat} {l : List Int} (h : Dr w g A n c) (hx : OI w base (.slice B m cm) l) (hm : m ≤ 200) (hbase : base ≤ w.heap.size) (hgb : g < base) :
    Calls Try.prog 115 #[.pointer (some ⟨g, 0, none⟩), .slice B m cm] w (Bent w g A n c base m) := by
  have hlm := hx.ri.1
  go_enter Try.func115, Try.ntmps115
  go_wp2_with fail
  refine (l1Once_any 10 h (by omega) (by omega)).mono ?_
  rintro e w1 ⟨b, rfl, hc1, hg1⟩
  have d1 := h.next hc1 hg1
  have hx1 := hx.kept_low hg1 (fun b e => by injection e with e; omega)
  have HG1 := Lib.hid hg1
  have hs1 := hg1.size
  have hglt := h.cur.lt
  clear hg1
  cases b
  · go_wp2
    go_ret
    exact ⟨B, m, cm, l, rfl, hx1, by omega, hc1, HG1.out⟩
  · go_wp2_with fail
    refine (l1Ints_any _ hx1.ri (by omega)).mono ?_
    rintro e w2 ⟨A2, n2, c2, rfl, o2, r2, ⟨cp2, le2⟩, b2⟩
    have d2 := d1.below b2
    have hn2 : n2 = m := by rw [← r2.1, hlm]
    subst hn2
    have HG2 := Lib.hid (grown_below HG1.out b2)
    have hs2 := b2.size
    clear b2 r2
    go_wp2_with fail
    refine (l1Below_any 4 d2 (by omega) (by omega)).mono ?_
    rintro e w3 ⟨x, rfl, hx4, hc3, hg3⟩
    have d3 := d2.next hc3 hg3
    have o3 := o2.kept_low hg3 (fun b e => by injection e with e; omega)
    have HG3 := Lib.hid (HG2.out.trans hg3)
    have hs3 := hg3.size
    clear hg3 hc3 o2
    have hx4 : x = 0 ∨ x = 1 ∨ x = 2 ∨ x = 3 := by omega
    rcases hx4 with rfl | rfl | rfl | rfl
    · go_wp2_with fail
      refine (l1Below_any 9 d3 (by omega) (by omega)).mono ?_
      rintro e w4 ⟨y, rfl, hy, hc4, hg4⟩
      have o4 := o3.kept_low hg4 (fun b e => by injection e with e; omega)
      have HG4 := Lib.hid (HG3.out.trans hg4)
      have hs4 := hg4.size
      have d4 := d3.next hc4 hg4
      clear hg4 hc4
      have hlen : l.length + 1 ≤ 1000000000000 := by omega
      have hb4 : w1.heap.size ≤ w4.heap.size := by omega
      go_wp2_with (at_builtin; refine wpApp1 rfl _ _ rfl w1.heap.size (.slice A2 n2 c2) l (y - 1) rfl (by exact o4) rfl hlen (by exact hb4) ?_; intro v' w' h1 h2 h3)
      go_ret
      obtain ⟨A', n', c', rfl, _⟩ := h1.form
      have hG := grown_step HG4.out h2 (.inr fun k hk => by have := (o4.lt k hk).1; omega)
      refine ⟨A', n', c', _, rfl, h1.mono (by omega), by simp; omega, ?_, hG⟩
      exact d4.cur.same (h2.block g (by omega) fun e => by have := (o4.lt g e.symm).1; omega)
    · have hlen : l.length + 1 ≤ 1000000000000 := by omega
      have hb4 : w1.heap.size ≤ w3.heap.size := by omega
      go_wp2_with (at_builtin; refine wpApp1 rfl _ _ rfl w1.heap.size (.slice A2 n2 c2) l (n2 : Int) rfl (by exact o3) rfl hlen (by exact hb4) ?_; intro v' w' h1 h2 h3)
      go_ret
      obtain ⟨A', n', c', rfl, _⟩ := h1.form
      have hG := grown_step HG3.out h2 (.inr fun k hk => by have := (o3.lt k hk).1; omega)
      refine ⟨A', n', c', _, rfl, h1.mono (by omega), by simp; omega, ?_, hG⟩
      exact d3.cur.same (h2.block g (by omega) fun e => by have := (o3.lt g e.symm).1; omega)
    · by_cases h0 : 0 < n2
      · go_wp2_with fail
        refine (l1Below_any n2 d3 (by omega) (by omega)).mono ?_
        rintro e w4 ⟨y, rfl, hy, hc4, hg4⟩
        have o4 := o3.kept_low hg4 (fun b e => by injection e with e; omega)
        have HG4 := Lib.hid (HG3.out.trans hg4)
        have hs4 := hg4.size
        have d4 := d3.next hc4 hg4
        clear hg4 hc4
        go_wp2_with fail
        refine (l1Below_any 9 d4 (by omega) (by omega)).mono ?_
        rintro e w5 ⟨u, rfl, hu, hc5, hg5⟩
        have o5 := o4.kept_low hg5 (fun b e => by injection e with e; omega)
        have HG5 := Lib.hid (HG4.out.trans hg5)
        have hs5 := hg5.size
        have d5 := d4.next hc5 hg5
        clear hg5 hc5
        obtain ⟨Y, rfl⟩ := Int.eq_ofNat_of_zero_le hy.1
        obtain ⟨G, rfl⟩ : ∃ G, A2 = some ⟨G, 0, none⟩ := OI.some2 o5 h0
        have hYl : Y < n2 := by omega
        obtain ⟨st, gr⟩ := OI.stored o5 Y (u - 1)
        have hfz := OI.frozenAt o5 Y
        obtain ⟨ad, hA, hcl⟩ := o5.ri.cell hYl
        obtain rfl := Option.some.inj hA
        rw [addr_off] at hcl
        have hGG := (o5.lt G rfl).1
        have HF : Hid (Bent w g A n c base n2 (.returned (.slice (some ⟨G, 0, none⟩) n2 c2)) (w5.setCell ⟨G, Y, none⟩ (.int .i64 (u - 1)))) := by
          have hG := grown_step HG5.out gr (.inr fun k hk => by injection hk with hk; omega)
          exact ⟨_, n2, c2, _, rfl, st.mono (by omega), by simp; omega, d5.cur.same (gr.block g (by have := d5.cur.lt; omega) fun e => by injection e with e; omega), hG⟩
        clear st gr o4 o3 hGG
        go_wp2
        go_ret
        exact HF.out
      · obtain rfl : n2 = 0 := by omega
        go_wp2
        go_ret
        exact ⟨A2, 0, c2, l, rfl, o3.mono (by omega), by omega, d3.cur, HG3.out⟩
    · have hq : IntKind.i64.wrap ((n2 : Int).tdiv 2) = ((n2 / 2 : Nat) : Int) := by
        have e : ((n2 : Int).tdiv 2) = ((n2 / 2 : Nat) : Int) := by rw [Int.tdiv_eq_ediv_of_nonneg (by omega)]; omega
        rw [e]; exact IntWalk.i64_in _ (by omega)
      go_wp2
      go_ret
      exact ⟨A2, n2 / 2, c2, _, rfl, (o3.front (by omega)).mono (by omega), by rw [List.length_take]; omega, d3.cur, HG3.out⟩
end Go.Proofs.Ytgbojgmmingfdaa

/- laws.terms at the same terms; spec.DrawShapeProduct. -/
namespace Go.Proofs.Ytgbojgmmingfdaa
open Go.RowKit

set_option maxHeartbeats 1000000 in
theorem terms_any {v v' : Value} {base b base' b' : Nat} {ps : List (List Int × Int)} {cells cells' : List Value} {w : World} (h1 : OTp w base b v ps cells) (h2 : OTp w base' b' v' ps cells') (hn : ps.length ≤ 1000000000) :
    Calls Try.prog 36 #[v, v'] w (GivesB w (.bool true)) := by
  obtain ⟨A, c, rfl, hc, _⟩ := OF.form h1
  obtain ⟨A', c', rfl, hc', _⟩ := OF.form h2
  obtain ⟨n, hn'⟩ : ∃ n, n = ps.length := ⟨_, rfl⟩
  rw [← hn'] at hn hc hc' ⊢
  have HN := Lib.hid hn'
  rw [← hn'] at h1 h2
  clear hn'
  go_enter Try.func36, Try.ntmps36
  go_wp2
  go_loopw [5] (fun i wr => ∃ k : Nat, k ≤ n ∧ i = .int .i64 k ∧ Below w.heap.size w wr) (fun i _ => n - (intOf i).toNat)
  case atStart => exact ⟨0, Nat.zero_le _, rfl, Below.refl _ _⟩
  case round =>
    obtain ⟨k, hk, rfl, hbl⟩ := hrel
    by_cases hlt : k < n
    · have g1 := OF.below h1 hbl
      have g2 := OF.below h2 hbl
      obtain ⟨G, cc, hG, _⟩ := OF.shape g1 (by rw [← HN.out]; omega)
      obtain ⟨G', cc', hG', _⟩ := OF.shape g2 (by rw [← HN.out]; omega)
      obtain ⟨rfl, e2, e3⟩ := slice_inj hG
      obtain ⟨rfl, e2', e3'⟩ := slice_inj hG'
      clear hG hG' e2 e3 e2' e3'
      obtain ⟨A1, n1, c1, x1, _, x2, _, x3⟩ := OTp.cell g1 (k := k) (by rw [← HN.out]; exact hlt)
      obtain ⟨A2, n2, c2, y1, _, y2, _, y3⟩ := OTp.cell g2 (k := k) (by rw [← HN.out]; exact hlt)
      obtain ⟨y, hy⟩ : ∃ y, y = (nthP ps k).2 := ⟨_, rfl⟩
      rw [← hy] at x3 y3
      have hyy : (y != y) = false := by simp
      have HB := Lib.hid hbl
      have HE : Hid (∀ W, Below wr.heap.size wr W → Calls Try.prog 30 #[.slice A1 n1 c1, .slice A2 n2 c2] W (Gives W (.bool true))) := fun W b => ints_any true _ _ (x2.ri.below b) (y2.ri.below b) (by simp) (by have := x2.le; omega) (by have := y2.le; omega)
      have X := Lib.hid x1
      have X3 := Lib.hid x3
      have Y := Lib.hid y1
      have Y3 := Lib.hid y3
      clear g1 g2 hy x2 y2 x1 x3 y1 y3 hbl
      go_wp2_with fail
      go_region_held3 (fun w' => w'.cell? ⟨G, k * 2, none⟩ = some (.slice A1 n1 c1) ∧ w'.cell? ⟨G, k * 2 + 1, none⟩ = some (.int .i64 y) ∧ w'.cell? ⟨G', k * 2, none⟩ = some (.slice A2 n2 c2) ∧ w'.cell? ⟨G', k * 2 + 1, none⟩ = some (.int .i64 y)) (first | exact ⟨X.out, X3.out, Y.out, Y3.out⟩ | exact ⟨one_cell b2 X.out, one_cell b2 X3.out, one_cell b2 Y.out, one_cell b2 Y3.out⟩) (first
        | (go_at_call 30; (with_reducible refine (HE.out _ ?_).mono ?_); (exact ⟨rfl, rfl, rfl, Nat.le_refl _, fun _ _ => rfl⟩); rintro e w2 ⟨rfl, q2⟩; have b2 : Below wr.heap.size wr w2 := (by have b3 := q2.below (B := wr.heap.size); exact ⟨b3.os, b3.tape, b3.output, b3.size, b3.block⟩)))
      go_wp2
      go_roundw
      case rel => exact ⟨k + 1, by omega, by go_num, bnext HB.out b2 HB.out.size⟩
      case measure => simp [intOf]; omega
    · go_wp2
      go_ret
      exact ⟨rfl, hbl⟩


def DrawsS (w : World) : Ending → World → Prop := fun e w' =>
  ∃ A1 n1 c1 A2 n2 c2 a b B1 B2, e = .returned (.tuple #[.slice A1 n1 c1, .slice A2 n2 c2]) ∧ OI w' B1 (.slice A1 n1 c1) a ∧ OI w' B2 (.slice A2 n2 c2) b ∧ a.length ≤ 4 ∧ ShIn b 3 2 ∧ Below w.heap.size w w'
set_option maxHeartbeats 1000000 in
theorem drawS_any {w : World} {A : Option Addr} {n : Nat} (c : Nat) (hb : RB w A n) :
    Calls Try.prog 48 #[.slice A n c] w (DrawsS w) := by
  go_enter Try.func48, Try.ntmps48
  go_wp2_with fail
  refine (l1New_any hb).mono ?_
  rintro e w1 ⟨g, rfl, hg, d1, b1⟩
  have HB1 := Lib.hid b1
  have hs1 := b1.size
  have hlt1 := d1.cur.lt
  clear b1
  go_wp2_with fail
  refine (dShape_any 3 3 _ _ d1 (by first | rfl | omega) (by first | rfl | omega) (by omega) (by omega)).mono ?_
  rintro e w2 ⟨A2, n2, c2, l2, rfl, o2, sh2, hc2, hg2⟩
  have d2 := d1.next hc2 hg2
  have HG2 := Lib.hid hg2
  have hs2 := hg2.size
  have hn2 : n2 ≤ 3 := by rw [← o2.ri.1]; exact sh2.len
  clear hg2 hc2
  go_wp2_with fail
  refine (dBent_any d2 o2 (by omega) hs2 (by omega)).mono ?_
  rintro e w3 ⟨A3, n3, c3, l3, rfl, o3, le3, hc3, hg3⟩
  have d3 := d2.next hc3 hg3
  have HG3 := Lib.hid hg3
  have hs3 := hg3.size
  clear hg3 hc3
  go_wp2_with fail
  refine (dShape_any 3 2 _ _ d3 (by first | rfl | omega) (by first | rfl | omega) (by omega) (by omega)).mono ?_
  rintro e w4 ⟨A4, n4, c4, l4, rfl, o4, sh4, hc4, hg4⟩
  have o3' := o3.kept_low hg4 (fun b e => by injection e with e; omega)
  have hg := (HG2.out.trans HG3.out).trans hg4
  have hbl : Below w.heap.size w w4 := HB1.out.grown hg HB1.out.size (fun b e => by injection e with e; omega)
  go_wp2
  refine bodyPost_ret (v := .tuple #[.slice A3 n3 c3, .slice A4 n4 c4]) (by simp [results, Try.results48, go_sem]; try rfl) rfl ?_
  exact ⟨_, _, _, _, _, _, _, _, _, _, rfl, o3', o4, by omega, sh4, hbl⟩
end Go.Proofs.Ytgbojgmmingfdaa
