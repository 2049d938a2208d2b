/- Draws for Gromov-Witten numbers: boxes of at most five; lists bent. -/
import Derived.BigRegion
import Derived.Test.YtnljlophgolejaaDraw
import Derived.Test.YtnljlophgolejaaShapes
import Derived.Test.YtnljlophgolejaaStrOf
import Derived.Test.YtnljlophgolejaaBoxP
import Derived.Test.YtnljlophgolejaaAlike
namespace Go.Proofs.Ytnljlophgolejaa
open Go.RowKit

theorem dBox5_any {w : World} {g : Nat} {A : Option Addr} {n c : Nat} (h : Dr w g A n c) :
    Calls Try.prog 75 #[.pointer (some ⟨g, 0, none⟩), .int .i64 5] w (Draws2 w g A n c fun k m => (2 ≤ m ∧ m ≤ 5) ∧ 0 ≤ k ∧ k ≤ m) := by
  go_enter Try.func75, Try.ntmps75
  go_wp2_with fail
  refine (l1Below_any 4 h (by omega) (by omega)).mono ?_
  rintro e w1 ⟨x, rfl, hx, hc, hg⟩
  have d1 := h.next hc hg
  have HG := Lib.hid hg
  clear hg hc
  go_wp2_with fail
  refine (l1Once_any 12 d1 (by omega) (by omega)).mono ?_
  rintro e w2 ⟨b, rfl, hc2, hg2⟩
  have d2 := d1.next hc2 hg2
  have HG2 := Lib.hid (HG.out.trans hg2)
  clear hg2 hc2
  cases b
  · go_wp2_with fail
    refine (l1Below_any _ d2 (by omega) (by omega)).mono ?_
    rintro e w3 ⟨y, rfl, hy, hc3, hg3⟩
    have HG3 := Lib.hid (HG2.out.trans hg3)
    clear hg3
    go_wp2
    go_ret2
    exact ⟨1 + y, 2 + x, rfl, by omega, hc3, HG3.out⟩
  · go_wp2_with fail
    have hlt := d2.cur.lt
    have hne : w2.heap.size ≠ g := by omega
    have b3 : Below w2.heap.size w2 (w2.alloc (.cells #[.int .i64 0, .int .i64 (2 + x)] 3)) := (Below.refl _ _).alloc (Nat.le_refl _) _
    have d3 := d2.below b3
    have o3 := OI.lit w2 w2.heap.size [0, 2 + x] 2 rfl (Nat.le_refl _) (by simp)
    refine (l1Pick2_any 0 (2 + x) d3 (by simpa [cellsI] using o3.ri) hne).mono ?_
    rintro e w3 ⟨y, rfl, hy, hc3, hg3⟩
    have HG3 := Lib.hid ((grown_below HG2.out b3).trans hg3)
    clear hg3
    go_wp2
    go_ret2
    exact ⟨y, 2 + x, rfl, by omega, hc3, HG3.out⟩

/-- A list, as it is or bent. -/
def Bent (w : World) (g : Nat) (A : Option Addr) (n c base : Nat) (m : Nat) : Ending → World → Prop := fun e w' =>
  ∃ A' n' c' l', e = .returned (.slice A' n' c') ∧ OI w' base (.slice A' n' c') l' ∧ l'.length ≤ m + 1 ∧ Cur w' g A n c ∧ w.grownBy w' (some g)
theorem OI.front {w : World} {base n c k : Nat} {A : Option Addr} {l : List Int} (h : OI w base (.slice A n c) l) (hk : k ≤ n) : OI w base (.slice A k c) (l.take k) := by
  have hn := h.ri.1
  obtain ⟨h1, h2⟩ := h
  have hlen : (l.take k).length = k := by rw [List.length_take]; omega
  unfold OI
  rw [hlen]
  refine ⟨by simp [cellsI]; omega, ?_⟩
  rcases h2 with ⟨hv, h0⟩ | ⟨g, cap, cur, hv, hb, hh, hle, hc, hs, ht⟩
  · obtain rfl : k = 0 := by omega
    injection hv with e1 e2 e3
    exact .inl ⟨by rw [e1, e3], rfl⟩
  · injection hv with e1 e2 e3
    refine .inr ⟨g, cap, cur, by rw [e1, e3], hb, hh, by omega, hc, hs, ?_⟩
    have e : cellsI (l.take k) = (cellsI l).take k := by simp [cellsI]
    rw [e, ← ht, List.take_take]
    congr 1
    omega
theorem OI.some2 {w : World} {base n c : Nat} {A : Option Addr} {l : List Int} (h : OI w base (.slice A n c) l) (hn : 0 < n) : ∃ g, A = some ⟨g, 0, none⟩ := by
  rcases h.2 with ⟨he, hl⟩ | ⟨g, cap, cur, he, _⟩
  · injection he with h1 h2 h3
    omega
  · injection he with h1 h2 h3
    exact ⟨g, h1⟩
set_option maxRecDepth 100000 in
set_option maxHeartbeats 1000000 in
theorem dBent_any {w : World} {g : Nat} {A B : Option Addr} {n c m cm base : Nat} {l : List Int} (h : Dr w g A n c) (hx : OI w base (.slice B m cm) l) (hm : m ≤ 200) (hbase : base ≤ w.heap.size) (hgb : g < base) :
    Calls Try.prog 78 #[.pointer (some ⟨g, 0, none⟩), .slice B m cm] w (Bent w g A n c base m) := by
  have hlm := hx.ri.1
  go_enter Try.func78, Try.ntmps78
  go_wp2_with fail
  refine (l1Once_any 10 h (by omega) (by omega)).mono ?_
  rintro e w1 ⟨b, rfl, hc1, hg1⟩
  have d1 := h.next hc1 hg1
  have hx1 := hx.kept_low hg1 (fun b e => by injection e with e; omega)
  have HG1 := Lib.hid hg1
  have hs1 := hg1.size
  have hglt := h.cur.lt
  clear hg1
  cases b
  · go_wp2
    go_ret
    exact ⟨B, m, cm, l, rfl, hx1, by omega, hc1, HG1.out⟩
  · go_wp2_with fail
    refine (l1Ints_any _ hx1.ri (by omega)).mono ?_
    rintro e w2 ⟨A2, n2, c2, rfl, o2, r2, ⟨cp2, le2⟩, b2⟩
    have d2 := d1.below b2
    have hn2 : n2 = m := by rw [← r2.1, hlm]
    subst hn2
    have HG2 := Lib.hid (grown_below HG1.out b2)
    have hs2 := b2.size
    clear b2 r2
    go_wp2_with fail
    refine (l1Below_any 4 d2 (by omega) (by omega)).mono ?_
    rintro e w3 ⟨x, rfl, hx4, hc3, hg3⟩
    have d3 := d2.next hc3 hg3
    have o3 := o2.kept_low hg3 (fun b e => by injection e with e; omega)
    have HG3 := Lib.hid (HG2.out.trans hg3)
    have hs3 := hg3.size
    clear hg3 hc3 o2
    have hx4 : x = 0 ∨ x = 1 ∨ x = 2 ∨ x = 3 := by omega
    rcases hx4 with rfl | rfl | rfl | rfl
    · go_wp2_with fail
      refine (l1Below_any 9 d3 (by omega) (by omega)).mono ?_
      rintro e w4 ⟨y, rfl, hy, hc4, hg4⟩
      have o4 := o3.kept_low hg4 (fun b e => by injection e with e; omega)
      have HG4 := Lib.hid (HG3.out.trans hg4)
      have hs4 := hg4.size
      have d4 := d3.next hc4 hg4
      clear hg4 hc4
      have hlen : l.length + 1 ≤ 1000000000000 := by omega
      have hb4 : w1.heap.size ≤ w4.heap.size := by omega
      go_wp2_with (at_builtin; refine wpApp1 rfl _ _ rfl w1.heap.size (.slice A2 n2 c2) l (y - 1) rfl (by exact o4) rfl hlen (by exact hb4) ?_; intro v' w' h1 h2 h3)
      go_ret
      obtain ⟨A', n', c', rfl, _⟩ := h1.form
      have hG := grown_step HG4.out h2 (.inr fun k hk => by have := (o4.lt k hk).1; omega)
      refine ⟨A', n', c', _, rfl, h1.mono (by omega), by simp; omega, ?_, hG⟩
      exact d4.cur.same (h2.block g (by omega) fun e => by have := (o4.lt g e.symm).1; omega)
    · have hlen : l.length + 1 ≤ 1000000000000 := by omega
      have hb4 : w1.heap.size ≤ w3.heap.size := by omega
      go_wp2_with (at_builtin; refine wpApp1 rfl _ _ rfl w1.heap.size (.slice A2 n2 c2) l (n2 : Int) rfl (by exact o3) rfl hlen (by exact hb4) ?_; intro v' w' h1 h2 h3)
      go_ret
      obtain ⟨A', n', c', rfl, _⟩ := h1.form
      have hG := grown_step HG3.out h2 (.inr fun k hk => by have := (o3.lt k hk).1; omega)
      refine ⟨A', n', c', _, rfl, h1.mono (by omega), by simp; omega, ?_, hG⟩
      exact d3.cur.same (h2.block g (by omega) fun e => by have := (o3.lt g e.symm).1; omega)
    · by_cases h0 : 0 < n2
      · go_wp2_with fail
        refine (l1Below_any n2 d3 (by omega) (by omega)).mono ?_
        rintro e w4 ⟨y, rfl, hy, hc4, hg4⟩
        have o4 := o3.kept_low hg4 (fun b e => by injection e with e; omega)
        have HG4 := Lib.hid (HG3.out.trans hg4)
        have hs4 := hg4.size
        have d4 := d3.next hc4 hg4
        clear hg4 hc4
        go_wp2_with fail
        refine (l1Below_any 9 d4 (by omega) (by omega)).mono ?_
        rintro e w5 ⟨u, rfl, hu, hc5, hg5⟩
        have o5 := o4.kept_low hg5 (fun b e => by injection e with e; omega)
        have HG5 := Lib.hid (HG4.out.trans hg5)
        have hs5 := hg5.size
        have d5 := d4.next hc5 hg5
        clear hg5 hc5
        obtain ⟨Y, rfl⟩ := Int.eq_ofNat_of_zero_le hy.1
        obtain ⟨G, rfl⟩ : ∃ G, A2 = some ⟨G, 0, none⟩ := OI.some2 o5 h0
        have hYl : Y < n2 := by omega
        obtain ⟨st, gr⟩ := OI.stored o5 Y (u - 1)
        have hfz := OI.frozenAt o5 Y
        obtain ⟨ad, hA, hcl⟩ := o5.ri.cell hYl
        obtain rfl := Option.some.inj hA
        rw [addr_off] at hcl
        have hGG := (o5.lt G rfl).1
        have HF : Hid (Bent w g A n c base n2 (.returned (.slice (some ⟨G, 0, none⟩) n2 c2)) (w5.setCell ⟨G, Y, none⟩ (.int .i64 (u - 1)))) := by
          have hG := grown_step HG5.out gr (.inr fun k hk => by injection hk with hk; omega)
          exact ⟨_, n2, c2, _, rfl, st.mono (by omega), by simp; omega, d5.cur.same (gr.block g (by have := d5.cur.lt; omega) fun e => by injection e with e; omega), hG⟩
        clear st gr o4 o3 hGG
        go_wp2
        go_ret
        exact HF.out
      · obtain rfl : n2 = 0 := by omega
        go_wp2
        go_ret
        exact ⟨A2, 0, c2, l, rfl, o3.mono (by omega), by omega, d3.cur, HG3.out⟩
    · have hq : IntKind.i64.wrap ((n2 : Int).tdiv 2) = ((n2 / 2 : Nat) : Int) := by
        have e : ((n2 : Int).tdiv 2) = ((n2 / 2 : Nat) : Int) := by rw [Int.tdiv_eq_ediv_of_nonneg (by omega)]; omega
        rw [e]; exact IntWalk.i64_in _ (by omega)
      go_wp2
      go_ret
      exact ⟨A2, n2 / 2, c2, _, rfl, (o3.front (by omega)).mono (by omega), by rw [List.length_take]; omega, d3.cur, HG3.out⟩
end Go.Proofs.Ytnljlophgolejaa

/- Draws of strings and of shifts. -/
namespace Go.Proofs.Ytnljlophgolejaa
open Go.RowKit

def chkStr (K M : Nat) : Bool := (shapesIn K M).all fun a => isStrB (strB a K ((K : Int) + M)) && (decide ((strB a K ((K : Int) + M)).length = K + M) && decide (sumL (strB a K ((K : Int) + M)) = K))
theorem chkStr_all : ((List.range 7).all fun K => (List.range (7 - K)).all fun M => decide (K + M < 2) || chkStr K M) = true := by decide +kernel
theorem str_at {K M : Nat} {a : List Int} (h : 2 ≤ K + M ∧ K + M ≤ 6) (ha : ShIn a K M) : isStrB (strB a K ((K : Int) + M)) = true ∧ (strB a K ((K : Int) + M)).length = K + M ∧ sumL (strB a K ((K : Int) + M)) = K := by
  have h1 := chkStr_all
  rw [List.all_eq_true] at h1
  have h2 := h1 K (by rw [List.mem_range]; omega)
  rw [List.all_eq_true] at h2
  have h3 := h2 M (by rw [List.mem_range]; omega)
  rw [Bool.or_eq_true, decide_eq_true_eq] at h3
  have h4 := h3.resolve_left (by omega)
  unfold chkStr at h4
  rw [List.all_eq_true] at h4
  have h5 := h4 a (shIn_mem K M a ha)
  rw [Bool.and_eq_true, Bool.and_eq_true] at h5
  exact ⟨h5.1, of_decide_eq_true h5.2.1, of_decide_eq_true h5.2.2⟩
/-- A string drawn. -/
def DrawsSt (w : World) (g : Nat) (A : Option Addr) (n c : Nat) (K M : Nat) : Ending → World → Prop := fun e w' =>
  ∃ A' n' c' l, e = .returned (.slice A' n' c') ∧ OI w' w.heap.size (.slice A' n' c') l ∧ (isStrB l = true ∧ l.length = K + M ∧ sumL l = K) ∧ Cur w' g A n c ∧ w.grownBy w' (some g)
theorem dString_any {w : World} {g : Nat} {A : Option Addr} {n c : Nat} {K M : Nat} (h : Dr w g A n c) (hKM : 2 ≤ K + M ∧ K + M ≤ 6) :
    Calls Try.prog 76 #[.pointer (some ⟨g, 0, none⟩), .int .i64 (K : Int), .int .i64 ((K : Int) + M)] w (DrawsSt w g A n c K M) := by
  have hsub : (K : Int) + M - K = M := by omega
  have hglt := h.cur.lt
  go_enter Try.func76, Try.ntmps76
  go_wp2_with fail
  refine (dShape_any K M _ _ h rfl (by first | rfl | omega) (by omega) (by omega)).mono ?_
  rintro e w1 ⟨A1, n1, c1, l1, rfl, o1, sh, hc1, hg1⟩
  have d1 := h.next hc1 hg1
  have HG1 := Lib.hid hg1
  have hs1 := hg1.size
  have hn1 : n1 ≤ 6 := by rw [← o1.ri.1]; have := sh.len; omega
  have hbx := sh.box hKM
  have HST := Lib.hid (str_at hKM sh)
  clear hg1 hc1
  go_wp2_with fail
  refine (l5String_any c1 (K : Int) ((K : Int) + M) o1.ri (by omega) hbx).mono ?_
  rintro e w2 ⟨A2, n2, c2, rfl, o2, r2, ⟨cp2, le2⟩, b2⟩
  have d2 := d1.below b2
  have HG2 := Lib.hid (grown_below HG1.out b2)
  clear b2
  go_wp2
  go_ret
  exact ⟨A2, n2, c2, _, rfl, o2.mono hs1, HST.out, d2.cur, HG2.out⟩
/-- Shifts drawn. -/
def DrawsY (w : World) (g : Nat) (A : Option Addr) (n c : Nat) (m : Nat) : Ending → World → Prop := fun e w' =>
  ∃ A' n' c' l, e = .returned (.slice A' n' c') ∧ OI w' w.heap.size (.slice A' n' c') l ∧ (l.length = m ∧ ∀ j, -9 ≤ nth l j ∧ nth l j ≤ 9) ∧ Cur w' g A n c ∧ w.grownBy w' (some g)
theorem nth_range_app {l : List Int} {x : Int} (h : ∀ j, -9 ≤ nth l j ∧ nth l j ≤ 9) (h1 : -9 ≤ x) (h2 : x ≤ 9) : ∀ j, -9 ≤ nth (l ++ [x]) j ∧ nth (l ++ [x]) j ≤ 9 := fun j => by
  rcases Nat.lt_trichotomy j l.length with h3 | h3 | h3
  · rw [nth_append_left h3]; exact h j
  · subst h3
    have e : nth (l ++ [x]) l.length = x := by rw [nth_append_right (Nat.le_refl _)]; simp [nth]
    rw [e]; omega
  · rw [nth_ge (by simp; omega)]; omega
set_option maxHeartbeats 1000000 in
theorem dShifts_any {w : World} {g : Nat} {A : Option Addr} {n c : Nat} (m : Nat) (mI : Int) (h : Dr w g A n c) (hm : mI = (m : Int)) (hM : m ≤ 16) :
    Calls Try.prog 87 #[.pointer (some ⟨g, 0, none⟩), .int .i64 mI] w (DrawsY w g A n c m) := by
  subst hm
  have hglt := h.cur.lt
  go_enter Try.func87, Try.ntmps87
  go_wp2
  go_loopw [5, 6] (fun u i wr => ∃ (l : List Int), l.length ≤ m ∧ (∀ j, -9 ≤ nth l j ∧ nth l j ≤ 9) ∧ i = .int .i64 (l.length : Int) ∧ OI wr w.heap.size u l ∧ Dr wr g A n c ∧ w.grownBy wr (some g)) (fun _ i _ => m - (intOf i).toNat)
  case atStart =>
    have b3 : Below w.heap.size w (w.alloc (.cells #[] 3)) := (Below.refl _ _).alloc (Nat.le_refl _) _
    exact ⟨[], by simp, fun j => by simp [nth], rfl, OI.lit w w.heap.size [] 0 rfl (Nat.le_refl _) (by simp), h.below b3, grown_below (World.grownBy.refl _ _) b3⟩
  case round =>
    obtain ⟨l, hl, hs, rfl, ho, hd, hg⟩ := hrel
    have HS := Lib.hid hs
    have HG := Lib.hid hg
    clear hs hg
    obtain ⟨k, hkk⟩ : ∃ k, k = l.length := ⟨_, rfl⟩
    rw [← hkk] at hl ⊢
    have HK := Lib.hid hkk
    clear hkk
    by_cases hlt : k < m
    · go_wp2_with fail
      refine (l1Below_any 19 hd (by omega) (by omega)).mono ?_
      rintro e w1 ⟨x, rfl, hx, hc, hg1⟩
      have hgb : w.heap.size ≤ wr.heap.size := HG.out.size
      have ho1 := ho.kept_low hg1 (fun b e => by injection e with e; omega)
      have d1 := hd.next hc hg1
      have HG1 := Lib.hid (HG.out.trans hg1)
      have hs1 : w.heap.size ≤ w1.heap.size := HG1.out.size
      have hw1 : IntKind.i64.wrap (x - 9) = x - 9 := IntWalk.i64_in _ (by omega)
      clear hg1 hc ho hd
      have hlen : l.length + 1 ≤ 1000000000000 := by rw [← HK.out]; omega
      go_wp2_with (at_builtin; refine wpApp1 rfl _ _ rfl w.heap.size u5 l (x - 9) rfl (by exact ho1) rfl hlen (by exact hs1) ?_; intro v' w' h1 h2 h3)
      go_roundw
      case rel =>
        have hG := grown_step HG1.out h2 (.inr fun k hk => (ho1.lt k hk).1)
        refine ⟨l ++ [x - 9], ?_, nth_range_app HS.out (by omega) (by omega), ?_, h1, ⟨d1.cur.same ?_, h.byt.low hG h.ne, h.ne⟩, hG⟩
        · rw [List.length_append, ← HK.out]; simp; omega
        · rw [List.length_append, ← HK.out]; simp
        · exact h2.block g (by omega) fun e => by have := (ho1.lt g e.symm).1; omega
      case measure => simp [intOf]; omega
    · obtain rfl : k = m := by omega
      obtain ⟨A', n', c', rfl, _⟩ := ho.form
      have HF : Hid (DrawsY w g A n c k (.returned (.slice A' n' c')) wr) := ⟨A', n', c', l, rfl, ho, ⟨HK.out.symm, HS.out⟩, hd.cur, HG.out⟩
      clear ho hd
      go_wp2
      go_ret
      exact HF.out
theorem l1Below_big {w : World} {g : Nat} {A : Option Addr} {n c : Nat} (m : Int) (h : Dr w g A n c) (h1 : 1 ≤ m) (h2 : m ≤ 1000000000) :
    Calls Try.prog 79 #[.pointer (some ⟨g, 0, none⟩), .int .i64 m] w (Draws w g A n c fun x => 0 ≤ x ∧ x < m) := by
  by_cases h3 : m ≤ 256
  · exact l1Below_any m h h1 h3
  go_enter Try.func79, Try.ntmps79
  go_wp2_with fail
  refine (l1Byte_any h.cur h.byt h.ne).mono ?_
  rintro e w1 ⟨x, rfl, hx, hc, hg⟩
  have d1 := h.next hc hg
  have HG := Lib.hid hg
  clear hg hc
  go_wp2_with fail
  refine (l1Byte_any d1.cur d1.byt d1.ne).mono ?_
  rintro e w2 ⟨y, rfl, hy, hc, hg⟩
  have d2 := d1.next hc hg
  have HG := Lib.hid (HG.out.trans hg)
  clear hg hc
  go_wp2_with fail
  refine (l1Byte_any d2.cur d2.byt d2.ne).mono ?_
  rintro e w3 ⟨z, rfl, hz, hc, hg⟩
  have d3 := d2.next hc hg
  have HG := Lib.hid (HG.out.trans hg)
  clear hg hc
  go_wp2_with fail
  refine (l1Byte_any d3.cur d3.byt d3.ne).mono ?_
  rintro e w4 ⟨u, rfl, hu, hc, hg⟩
  have HG := Lib.hid (HG.out.trans hg)
  clear hg
  have hm0 : (m == 0) = false := by simp; omega
  go_wp2
  go_ret
  exact ⟨_, rfl, ⟨Int.emod_nonneg _ (by omega), Int.emod_lt_of_pos _ (by omega)⟩, hc, HG.out⟩
/-- What is drawn: a list and a string of at most six. -/
def DrawsZ2 (w : World) : Ending → World → Prop := fun e w' =>
  ∃ A1 n1 c1 A2 n2 c2 l1 l2, e = .returned (.tuple #[.slice A1 n1 c1, .slice A2 n2 c2]) ∧ l1.length ≤ 7 ∧ l2.length ≤ 6 ∧ OI w' w.heap.size (.slice A1 n1 c1) l1 ∧ OI w' w.heap.size (.slice A2 n2 c2) l2 ∧ Below w.heap.size w w'
set_option maxHeartbeats 1000000 in
theorem drawPuzzlesOf_any {w : World} {A : Option Addr} {n : Nat} (c : Nat) (hb : RB w A n) :
    Calls Try.prog 39 #[.slice A n c] w (DrawsZ2 w) := by
  go_enter Try.func39, Try.ntmps39
  go_wp2_with fail
  refine (l1New_any hb).mono ?_
  rintro e w1 ⟨g, rfl, hg, d1, b1⟩
  have HB1 := Lib.hid b1
  have hs1 := b1.size
  have hglt := d1.cur.lt
  clear b1
  go_wp2_with fail
  refine (dBox_any d1).mono ?_
  rintro e w2 ⟨k, m, rfl, ⟨⟨hm1, hm2⟩, hk1, hk2⟩, hc2, hg2⟩
  have d2 := d1.next hc2 hg2
  obtain ⟨K, rfl⟩ := Int.eq_ofNat_of_zero_le hk1
  obtain ⟨M, hM⟩ := Int.eq_ofNat_of_zero_le (a := m - K) (by omega)
  obtain rfl : m = (K : Int) + M := by omega
  clear hM hk1
  have HG2 := Lib.hid hg2
  have hs2 := hg2.size
  clear hg2 hc2
  go_wp2_with fail
  refine (dString_any (K := K) (M := M) d2 (by omega)).mono ?_
  rintro e w3 ⟨A3, n3, c3, l3, rfl, o3, ⟨-, hl3, -⟩, hc3, hg3⟩
  have d3 := d2.next hc3 hg3
  have HG3 := Lib.hid (HG2.out.trans hg3)
  have hs3 := hg3.size
  have hn3 : n3 ≤ 6 := by rw [← o3.ri.1]; omega
  clear hg3 hc3
  go_wp2_with fail
  refine (dBent_any d3 o3 (by omega) (by omega) (by omega)).mono ?_
  rintro e w4 ⟨A4, n4, c4, l4, rfl, o4, hl4, hc4, hg4⟩
  have d4 := d3.next hc4 hg4
  have HG4 := Lib.hid (HG3.out.trans hg4)
  have hs4 := hg4.size
  clear hg4 hc4 o3
  go_wp2_with fail
  refine (dString_any (K := K) (M := M) d4 (by omega)).mono ?_
  rintro e w5 ⟨A5, n5, c5, l5, rfl, o5, ⟨-, hl5, -⟩, hc5, hg5⟩
  have o45 := o4.kept_low hg5 (fun b e => by injection e with e; omega)
  have HG5 := Lib.hid (HG4.out.trans hg5)
  have hs5 := hg5.size
  clear hg5 hc5 o4
  have HF : Hid (DrawsZ2 w (.returned (.tuple #[.slice A4 n4 c4, .slice A5 n5 c5])) w5) :=
    ⟨A4, n4, c4, A5, n5, c5, l4, l5, rfl, by omega, by omega, o45.mono (by omega), o5.mono (by omega), HB1.out.grown HG5.out hs1 (fun b e => by injection e with e; omega)⟩
  clear o45 o5
  go_wp2
  go_ret2
  exact HF.out
/-- What is drawn: a list, a string of at most five, as many shifts. -/
def DrawsZ3 (w : World) : Ending → World → Prop := fun e w' =>
  ∃ A1 n1 c1 A2 n2 c2 A3 n3 c3 l1 l2 l3, e = .returned (.tuple #[.slice A1 n1 c1, .slice A2 n2 c2, .slice A3 n3 c3]) ∧ l1.length ≤ 7 ∧ (isStrB l2 = true ∧ l2.length ≤ 5) ∧ (l3.length = l2.length ∧ ∀ j, -9 ≤ nth l3 j ∧ nth l3 j ≤ 9) ∧
    OI w' w.heap.size (.slice A1 n1 c1) l1 ∧ OI w' w.heap.size (.slice A2 n2 c2) l2 ∧ OI w' w.heap.size (.slice A3 n3 c3) l3 ∧ Below w.heap.size w w'
set_option maxHeartbeats 1000000 in
theorem drawWPro_any {w : World} {A : Option Addr} {n : Nat} (c : Nat) (hb : RB w A n) :
    Calls Try.prog 47 #[.slice A n c] w (DrawsZ3 w) := by
  go_enter Try.func47, Try.ntmps47
  go_wp2_with fail
  refine (l1New_any hb).mono ?_
  rintro e w1 ⟨g, rfl, hg, d1, b1⟩
  have HB1 := Lib.hid b1
  have hs1 := b1.size
  have hglt := d1.cur.lt
  clear b1
  go_wp2_with fail
  refine (dBox5_any d1).mono ?_
  rintro e w2 ⟨k, m, rfl, ⟨⟨hm1, hm2⟩, hk1, hk2⟩, hc2, hg2⟩
  have d2 := d1.next hc2 hg2
  obtain ⟨K, rfl⟩ := Int.eq_ofNat_of_zero_le hk1
  obtain ⟨M, hM⟩ := Int.eq_ofNat_of_zero_le (a := m - K) (by omega)
  obtain rfl : m = (K : Int) + M := by omega
  clear hM hk1
  have HG2 := Lib.hid hg2
  have hs2 := hg2.size
  clear hg2 hc2
  go_wp2_with fail
  refine (dString_any (K := K) (M := M) d2 (by omega)).mono ?_
  rintro e w3 ⟨A3, n3, c3, l3, rfl, o3, ⟨-, hl3, -⟩, hc3, hg3⟩
  have d3 := d2.next hc3 hg3
  have HG3 := Lib.hid (HG2.out.trans hg3)
  have hs3 := hg3.size
  have hn3 : n3 ≤ 6 := by rw [← o3.ri.1]; omega
  clear hg3 hc3
  go_wp2_with fail
  refine (dBent_any d3 o3 (by omega) (by omega) (by omega)).mono ?_
  rintro e w4 ⟨A4, n4, c4, l4, rfl, o4, hl4, hc4, hg4⟩
  have d4 := d3.next hc4 hg4
  have HG4 := Lib.hid (HG3.out.trans hg4)
  have hs4 := hg4.size
  clear hg4 hc4 o3
  go_wp2_with fail
  refine (dString_any (K := K) (M := M) d4 (by omega)).mono ?_
  rintro e w5 ⟨A5, n5, c5, l5, rfl, o5, ⟨hst5, hl5, -⟩, hc5, hg5⟩
  have d5 := d4.next hc5 hg5
  have o45 := o4.kept_low hg5 (fun b e => by injection e with e; omega)
  have HG5 := Lib.hid (HG4.out.trans hg5)
  have hs5 := hg5.size
  have HST := Lib.hid hst5
  clear hg5 hc5 o4 hst5
  go_wp2_with fail
  refine (dShifts_any (K + M) _ d5 (by omega) (by omega)).mono ?_
  rintro e w6 ⟨A6, n6, c6, l6, rfl, o6, ⟨hl6, hy6⟩, hc6, hg6⟩
  have o46 := o45.kept_low hg6 (fun b e => by injection e with e; omega)
  have o56 := o5.kept_low hg6 (fun b e => by injection e with e; omega)
  have HG6 := Lib.hid (HG5.out.trans hg6)
  have hs6 := hg6.size
  clear hg6 hc6 o45 o5
  have HF : Hid (DrawsZ3 w (.returned (.tuple #[.slice A4 n4 c4, .slice A5 n5 c5, .slice A6 n6 c6])) w6) :=
    ⟨A4, n4, c4, A5, n5, c5, A6, n6, c6, l4, l5, l6, rfl, by omega, ⟨HST.out, by omega⟩, ⟨by omega, hy6⟩, o46.mono (by omega), o56.mono (by omega), o6.mono (by omega), HB1.out.grown HG6.out hs1 (fun b e => by injection e with e; omega)⟩
  clear o46 o56 o6 hy6
  go_wp2
  refine bodyPost_ret (v := .tuple #[.slice A4 n4 c4, .slice A5 n5 c5, .slice A6 n6 c6]) (by simp [results, Try.results47, go_sem]; try rfl) rfl ?_
  exact HF.out
end Go.Proofs.Ytnljlophgolejaa
