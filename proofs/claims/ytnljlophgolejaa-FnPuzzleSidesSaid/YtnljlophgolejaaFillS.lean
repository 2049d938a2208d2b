/- l5Fill of the reference: all puzzles with two sides. -/
import Derived.Test.YtnljlophgolejaaZParts
import Derived.Test.YtnljlophgolejaaTileP
import Derived.Test.YtnljlophgolejaaCopy
import Derived.Test.YtnljlophgolejaaSee
import Derived.Test.YtnljlophgolejaaSides
import Derived.Test.YtnljlophgolejaaNextR
import Derived.Deep.DeepCutAuto
import Derived.Deep.CutRange
namespace Go.Proofs.Ytnljlophgolejaa
open Go.RowKit

/-- The labels of a puzzle that is begun. -/
def Labs (l : List Int) : Prop := ∀ j, 0 ≤ nth l j ∧ nth l j ≤ 3
/-- What l5Fill leaves. -/
def FPost (w : World) (base : Nat) (v : Value) (n : Int) (ps : List PZ) : Ending → World → Prop := fun e w' =>
  ∃ v' cells', e = .returned v' ∧ OZ w' base base v' n ps cells' ∧ w.grownBy w' v.ownBlock ∧ From w v v'
/-- What l5Fill is shown to do. -/
def FillC (wt : Bool) (w0 : World) (n : Nat) (a b : List Int) (Aa Ab : Option Addr) (ca cb d : Nat) : Prop :=
  ∀ (w : World) (r k : Nat) (left : Int) (p : PZ) (A1 A2 A3 : Option Addr) (n1 n2 n3 c1 c2 c3 : Nat) (v : Value) (ps : List PZ) (cells : List Value), Below w0.heap.size w0 w → r < n ∨ d = 0 → k ≤ r → tri r + k + d = tri n → 0 ≤ left ∧ left ≤ 2 →
    RT w A1 n1 p.1 → RT w A2 n2 p.2.1 → RT w A3 n3 p.2.2 → n1 = tri r + k → n2 = tri r + k → n3 = tri r + k → Labs p.2.2 → OZ w w0.heap.size w0.heap.size v n ps cells → ps.length + (sp wt n a b d r k left p).length ≤ 100000000000 →
    Calls Try.prog 92 #[.slice Aa n ca, .slice Ab n cb, .bool wt, .agg #[.int .i64 (n : Int), .slice A1 n1 c1, .slice A2 n2 c2, .slice A3 n3 c3], .int .i64 (r : Int), .int .i64 (k : Int), .int .i64 left, v] w
      (FPost w w0.heap.size v n (ps ++ sp wt n a b d r k left p))

theorem RT.zgrown {w w' : World} {base b n : Nat} {v : Value} {N : Int} {ps : List PZ} {cells : List Value} {A : Option Addr} {l : List Int} (h : RT w A n l) (ho : OZ w base b v N ps cells) (hg : w.grownBy w' v.ownBlock) : RT w' A n l := by
  have key : ∀ ad, A = some ad → 0 < n → w'.heap[ad.block]? = w.heap[ad.block]? := fun ad e hn => by
    obtain ⟨cs, m, hb⟩ := h.ty ad e hn
    have hlt : ad.block < w.heap.size := by
      by_cases h1 : ad.block < w.heap.size
      · exact h1
      · rw [Array.getElem?_eq_none (by omega)] at hb; cases hb
    refine hg.block _ hlt fun e2 => ?_
    obtain ⟨cs', m', hh⟩ := OF.typed ho _ e2.symm
    rw [hb] at hh
    injection hh with hh
    injection hh with _ hh
    exact absurd hh (by decide)
  refine ⟨⟨h.ri.1, fun hn => ?_⟩, fun ad e hn => ?_⟩
  · obtain ⟨ad, e, hc⟩ := h.ri.2 hn
    refine ⟨ad, e, fun j hj => ?_⟩
    have hc1 := hc j hj
    rw [← hc1]
    exact cell_same (by rw [show (ad.add j).block = ad.block from block_of_add ad j]; exact key ad e hn)
  · obtain ⟨cs, m, hb⟩ := h.ty ad e hn
    exact ⟨cs, m, by rw [key ad e hn]; exact hb⟩

set_option maxRecDepth 100000 in
set_option maxHeartbeats 4000000 in
theorem fill_end (wt : Bool) (w0 : World) (n : Nat) (a b : List Int) (Aa Ab : Option Addr) (ca cb : Nat) (hn7 : n ≤ 7) : FillC wt w0 n a b Aa Ab ca cb 0 := by
  intro w r k left p A1 A2 A3 n1 n2 n3 c1 c2 c3 v ps cells hbel hr hk hd hl h1 h2 h3 e1 e2 e3 hB ho hN
  have hlen : tri r + k = tri n := by omega
  obtain ⟨hrn, hk0⟩ : r = n ∧ k = 0 := tri_inj (k' := 0) hk (Nat.zero_le _) hlen
  subst hrn hk0
  have ht8 := tri_small (n := r) (by omega)
  have hsp : sp wt r a b 0 r 0 left p = [p] := rfl
  rw [hsp] at hN ⊢
  have hm1 : n1 ≤ 36 := by omega
  have hm2 : n2 ≤ 36 := by omega
  have hm3 : n3 ≤ 36 := by omega
  have HO := Lib.hid ho
  have R1 := Lib.hid h1.ri
  have R2 := Lib.hid h2.ri
  have R3 := Lib.hid h3.ri
  have HB := Lib.hid hbel
  have hnl : ps.length + 1 ≤ 100000000000 := by simpa using hN
  clear hd hr hk hlen hsp hN h1 h2 h3 e1 e2 e3 ho hbel hB
  go_enter Try.func92, Try.ntmps92
  go_wp2_with fail
  refine (l5Copy_any c1 c2 c3 (r : Int) (R1.out.alloc _) (R2.out.alloc _) (R3.out.alloc _) (by omega) (by omega) (by omega)).mono ?_
  rintro e w1 ⟨A4, n4, c4, A5, n5, c5, A6, n6, c6, rfl, t1, -, -, -, -, -, -, b1'⟩
  have b1 : Below w.heap.size w w1 := ((Below.refl _ _).alloc (Nat.le_refl _) _).trans (b1'.mono (by simp))
  have ho1 := OF.below HO.out b1
  have hle : w0.heap.size ≤ w.heap.size := HB.out.size
  have hle1 := b1.size
  have hap : ∀ u' ∈ cells, ∀ u, u = Value.slice A4 n4 c4 ∨ u = Value.slice A5 n5 c5 ∨ u = Value.slice A6 n6 c6 → u'.ownBlock = none ∨ u'.ownBlock ≠ u.ownBlock := by
    intro u' hu' u hu
    have hin := FRs.in_ HO.out.2.1 u' hu'
    rcases hk : u'.ownBlock with _ | k
    · exact .inl rfl
    · refine .inr fun e => ?_
      have h1 := hin k hk
      have h2 : (w.alloc (Obj.cells #[Value.int IntKind.i64 (r : Int), Value.slice A1 n1 c1, Value.slice A2 n2 c2, Value.slice A3 n3 c3] 53)).heap.size ≤ k := by
        rcases hu with rfl | rfl | rfl
        · exact (t1.1.lt k e.symm).1
        · exact (t1.2.1.lt k e.symm).1
        · exact (t1.2.2.1.lt k e.symm).1
      simp at h2
      omega
  have HAP := Lib.hid hap
  have T1 := Lib.hid t1
  have HO1 := Lib.hid ho1
  have HB1 := Lib.hid b1
  have hz : w0.heap.size ≤ (w.alloc (Obj.cells #[Value.int IntKind.i64 (r : Int), Value.slice A1 n1 c1, Value.slice A2 n2 c2, Value.slice A3 n3 c3] 53)).heap.size := by simp; omega
  clear hap t1 ho1 b1' b1
  go_wp2_with (at_builtin; refine wpAppZ rfl _ _ rfl w0.heap.size w0.heap.size v (.slice A4 n4 c4) (.slice A5 n5 c5) (.slice A6 n6 c6) (r : Int) ps cells p.1 p.2.1 p.2.2 rfl rfl HO1.out (T1.out.1.mono hz) (T1.out.2.1.mono hz) (T1.out.2.2.1.mono hz) T1.out.2.2.2.1 T1.out.2.2.2.2.1 T1.out.2.2.2.2.2 HAP.out (by omega) (by omega) ?_; intro v' w' h1 h2 h3)
  go_ret
  refine ⟨v', _, rfl, h1, ?_, ?_⟩
  · have gb := HB1.out.alloc (w := w1) hle1 (.cells #[.int .i64 (r : Int), .slice A4 n4 c4, .slice A5 n5 c5, .slice A6 n6 c6] 53)
    exact (grown_below (World.grownBy.refl _ _) gb).trans h2
  · rcases h3 with h3 | h3
    · exact .inl h3
    · exact .inr fun k hk => by rw [h3] at hk; injection hk with hk; omega

/-- The first j labels at the right side. -/
def spTo (wt : Bool) (n : Nat) (a b : List Int) (d r k : Nat) (left : Int) (p : PZ) (j : Nat) : List PZ := (([0, 1, 2] : List Int).take j).flatMap (spR wt n a b (sp wt n a b d) r k left p)
theorem spTo_all {wt : Bool} {n : Nat} {a b : List Int} {d r k : Nat} {left : Int} {p : PZ} : spTo wt n a b d r k left p 3 = sp wt n a b (d + 1) r k left p := rfl
theorem spTo_succ {wt : Bool} {n : Nat} {a b : List Int} {d r k : Nat} {left : Int} {p : PZ} {j : Nat} (hj : j < 3) : spTo wt n a b d r k left p (j + 1) = spTo wt n a b d r k left p j ++ spR wt n a b (sp wt n a b d) r k left p (j : Int) := by
  have h : j = 0 ∨ j = 1 ∨ j = 2 := by omega
  rcases h with rfl | rfl | rfl <;> simp [spTo]
theorem spTo_len {wt : Bool} {n : Nat} {a b : List Int} {d r k : Nat} {left : Int} {p : PZ} {j : Nat} (hj : j < 3) : (spTo wt n a b d r k left p j).length + (spR wt n a b (sp wt n a b d) r k left p (j : Int)).length ≤ (sp wt n a b (d + 1) r k left p).length := by
  rw [← spTo_all, ← List.length_append, ← spTo_succ hj]
  have h : j = 0 ∨ j = 1 ∨ j = 2 := by omega
  rcases h with rfl | rfl | rfl <;> simp [spTo] <;> omega

set_option maxRecDepth 100000 in
set_option maxHeartbeats 8000000 in
theorem fill_step (wt : Bool) (w0 : World) (n : Nat) (a b : List Int) (Aa Ab : Option Addr) (ca cb : Nat) (hn7 : n ≤ 7) (ha : RI w0 Aa n a) (hb : RI w0 Ab n b) (hlab : ∀ j, 0 ≤ nth a j ∧ nth a j ≤ 2) (d : Nat)
    (ih : FillC wt w0 n a b Aa Ab ca cb d) : FillC wt w0 n a b Aa Ab ca cb (d + 1) := by
  intro w r k left p A1 A2 A3 n1 n2 n3 c1 c2 c3 v ps cells hbel hr hk hd hl h1 h2 h3 e1 e2 e3 hB ho hN
  have hr := hr.resolve_right (by omega)
  have ht8 := tri_small (n := n) (by omega)
  have hlt := tri_lt hr hk
  obtain ⟨m, hm⟩ : ∃ m, m = tri r + k := ⟨_, rfl⟩
  have hm36 : m ≤ 36 := by omega
  subst e1 e2 e3
  rw [← hm] at h1 h2 h3 ⊢
  have HM := Lib.hid hm
  have HD := Lib.hid hd
  have HIH := Lib.hid ih
  have HO := Lib.hid ho
  have R1 := Lib.hid h1
  have R2 := Lib.hid h2
  have R3 := Lib.hid h3
  have HBEL := Lib.hid hbel
  have HLB := Lib.hid hB
  have HN := Lib.hid hN
  have HA := Lib.hid ha
  have HB := Lib.hid hb
  have HLA := Lib.hid hlab
  have hrn : ((r : Int) == (n : Int)) = false := by simp; omega
  obtain ⟨l0, l2⟩ := hl
  clear hm hd ih ho h1 h2 h3 hbel hB hN ha hb hlab hlt
  go_enter Try.func92, Try.ntmps92
  go_wp2_with fail
  obtain ⟨w1, ew1⟩ : ∃ W : World, W = w.alloc (.cells #[.int .i64 (n : Int), .slice A1 m c1, .slice A2 m c2, .slice A3 m c3] 53) := ⟨_, rfl⟩
  obtain ⟨gp, hgp⟩ : ∃ g, g = w.heap.size := ⟨_, rfl⟩
  have b1 : Below w.heap.size w w1 := by rw [ew1]; exact (Below.refl _ _).alloc (Nat.le_refl _) _
  have K1 : Hid (BK w1 gp 53 [.int .i64 (n : Int), .slice A1 m c1, .slice A2 m c2, .slice A3 m c3]) := by rw [ew1, hgp]; exact BK.new w _ _
  rw [← ew1, ← hgp]
  have HGP := Lib.hid hgp
  have HB1 := Lib.hid b1
  have HO1 := Lib.hid (OF.below HO.out b1)
  have RR : Hid (RT w1 A1 m p.1 ∧ RT w1 A2 m p.2.1 ∧ RT w1 A3 m p.2.2) := ⟨R1.out.below b1, R2.out.below b1, R3.out.below b1⟩
  clear ew1 hgp b1
  go_loopw [7, 17, 18, 19, 20, 21] (fun u i _ _ _ _ wr => ∃ (j : Nat) (cs : List Value), j ≤ 3 ∧ i = .int .i64 (j : Int) ∧ Hid (OZ wr w0.heap.size w0.heap.size u n (ps ++ spTo wt n a b d r k left p j) cs) ∧ Hid (w1.grownBy wr v.ownBlock) ∧ Hid (From w1 v u)) (fun _ i _ _ _ _ _ => 3 - (intOf i).toNat)
  case atStart => exact ⟨0, cells, Nat.zero_le _, rfl, by show OZ _ _ _ _ _ _ _; rw [show spTo wt n a b d r k left p 0 = [] from rfl, List.append_nil]; exact HO1.out, World.grownBy.refl _ _, From.refl _ _⟩
  case round =>
    obtain ⟨j, cs, hj, rfl, OZj, GW, FW⟩ := hrel
    by_cases hlt3 : j < 3
    · -- ROUND
      have ofr : ∀ q, v.ownBlock = some q → w0.heap.size ≤ q := fun q hq => (OF.lt HO1.out q hq).1
      have hle1 : w0.heap.size ≤ w1.heap.size := Nat.le_trans HBEL.out.size HB1.out.size
      have bw1 : Below w0.heap.size w0 w1 := HBEL.out.trans (HB1.out.mono HBEL.out.size)
      have bwr : Below w0.heap.size w0 wr := bw1.grown GW.out hle1 ofr
      have gpv : v.ownBlock ≠ some gp := fun e => by have := (OF.lt HO.out gp e).2; have := HGP.out; omega
      have KGP : Hid (BK wr gp 53 [.int .i64 (n : Int), .slice A1 m c1, .slice A2 m c2, .slice A3 m c3]) := K1.out.same (GW.out.block gp K1.out.lt (Ne.symm gpv))
      have RW : Hid (RT wr A1 m p.1 ∧ RT wr A2 m p.2.1 ∧ RT wr A3 m p.2.2) := ⟨RR.out.1.zgrown HO1.out GW.out, RR.out.2.1.zgrown HO1.out GW.out, RR.out.2.2.zgrown HO1.out GW.out⟩
      have FX : Hid (∀ W, Below wr.heap.size wr W → BK W gp 53 [.int .i64 (n : Int), .slice A1 m c1, .slice A2 m c2, .slice A3 m c3] ∧ (RT W A1 m p.1 ∧ RT W A2 m p.2.1 ∧ RT W A3 m p.2.2) ∧ OZ W w0.heap.size w0.heap.size u7 n (ps ++ spTo wt n a b d r k left p j) cs ∧ RI W Aa n a ∧ RI W Ab n b ∧ Below w0.heap.size w0 W ∧ w1.grownBy W v.ownBlock) := fun W bW => by
        have bb := bwr.trans (bW.mono bwr.size)
        exact ⟨KGP.out.below bW KGP.out.lt, ⟨RW.out.1.below bW, RW.out.2.1.below bW, RW.out.2.2.below bW⟩, OF.below OZj.out bW, HA.out.below bb, HB.out.below bb, bb, grown_below GW.out bW⟩
      have HCONT : Hid (spR wt n a b (sp wt n a b d) r k left p (j : Int) = [] → ∀ W, Below wr.heap.size wr W → ∃ (j' : Nat) (cs : List Value), j' ≤ 3 ∧ Value.int .i64 ((j : Int) + 1) = .int .i64 (j' : Int) ∧ Hid (OZ W w0.heap.size w0.heap.size u7 n (ps ++ spTo wt n a b d r k left p j') cs) ∧ Hid (w1.grownBy W v.ownBlock) ∧ Hid (From w1 v u7)) := fun h W bW => by
        obtain ⟨-, -, f3, -, -, -, f7⟩ := FX.out W bW
        refine ⟨j + 1, cs, by omega, by go_num, ?_, f7, FW⟩
        show OZ _ _ _ _ _ _ _
        rw [spTo_succ hlt3, h, List.append_nil]
        exact f3
      obtain ⟨bt, hbt⟩ : ∃ bt, bt = upB left (j : Int) wt := ⟨_, rfl⟩
      have HUP : Hid (∀ W, Calls Try.prog 125 #[.int .i64 left, .int .i64 (j : Int), .bool wt] W (Gives W (.int .i64 bt))) := fun W => by rw [hbt]; exact up_any left j wt ⟨l0, l2⟩ ⟨by omega, by omega⟩
      have hbt3 : bt ≤ 3 := by
        rw [hbt]; unfold upB
        split
        · omega
        · split
          · omega
          · split
            · omega
            · split
              · omega
              · split <;> omega
      obtain ⟨T6, hT6⟩ : ∃ t : Bool, t = decide (k = r ∧ (j : Int) ≠ nth b r) := ⟨_, rfl⟩
      obtain ⟨T8, hT8⟩ : ∃ t : Bool, t = decide (bt < 0 ∨ (r + 1 = n ∧ 1 < bt)) := ⟨_, rfl⟩
      have HBT := Lib.hid hbt
      have H6 := Lib.hid hT6
      have H8 := Lib.hid hT8
      have W1 : IntKind.i64.wrap ((n : Int) - 1) = (n : Int) - 1 := IntWalk.i64_in _ (by omega)
      have HGPV := Lib.hid gpv
      have HOFR := Lib.hid ofr
      have hj2 : (j : Int) ≤ 2 := by omega
      have hjd : decide ((j : Int) ≤ 2) = true := decide_eq_true hj2
      clear hbt hT6 hT8 gpv ofr bw1 bwr
      go_upto_region 6 with (fail)
      go_cut [45] from 35 to 45 (fun v45 wx => v45 = .bool T6 ∧ Below wr.heap.size wr wx)
      case first =>
        obtain ⟨f1, f2, f3, f4, f5, f6, f7⟩ := FX.out wr (Below.refl _ _)
        by_cases hkr : k = r
        · obtain ⟨adb, hAb, hcb⟩ := f5.cell (k := r) (by omega)
          obtain ⟨b0, hb0⟩ : ∃ b0, b0 = nth b r := ⟨_, rfl⟩
          rw [← hb0] at hcb
          have HKR := Lib.hid hkr
          have HB0 := Lib.hid hb0
          have hkz : ((k : Int) == (r : Int)) = true := by simp [hkr]
          subst hAb
          clear f1 f2 f3 f4 f5 f6 f7 hkr hb0
          rcases hx : ((j : Int) != b0) with _ | _
          · have HX : Hid ((j : Int) = b0) := by show _ = _; simpa using hx
            go_wp2_with fail
            go_meet
            exact ⟨by rw [H6.out, ← HB0.out, HX.out]; simp, Below.refl _ _⟩
          · have HX : Hid ((j : Int) ≠ b0) := by show _ ≠ _; simpa using hx
            go_wp2_with fail
            go_meet
            exact ⟨by rw [H6.out, ← HB0.out, decide_eq_true ⟨HKR.out, HX.out⟩], Below.refl _ _⟩
        · have HKR := Lib.hid hkr
          have hkz : ((k : Int) == (r : Int)) = false := by simp; omega
          clear f1 f2 f3 f4 f5 f6 f7 hkr
          go_wp2_with fail
          go_meet
          exact ⟨by rw [H6.out, decide_eq_false fun h => HKR.out h.1], Below.refl _ _⟩
      case rest =>
        obtain ⟨rfl, b6⟩ := hcut
        rcases T6 with _ | _
        · have B6 := Lib.hid b6
          clear b6
          go_upto_region 8 with (go_at_call 125; (with_reducible refine (HUP.out _).mono ?_); rintro e w' ⟨rfl, q7, rfl⟩)
          go_cut [62] from 50 to 62 (fun v62 wx => v62 = .bool T8 ∧ Below wr.heap.size wr wx)
          case first =>
            obtain ⟨f1, -, -, -, -, -, -⟩ := FX.out wc B6.out
            obtain ⟨g0, -, -, -⟩ := f1.four
            by_cases hb0 : bt < 0
            · have hd0 : decide (bt < 0) = true := decide_eq_true hb0
              have HX := Lib.hid hb0
              clear hb0
              go_wp2_with fail
              go_meet
              exact ⟨by rw [H8.out, decide_eq_true (.inl HX.out)], below_drewN B6.out _⟩
            · have hd0 : decide (bt < 0) = false := decide_eq_false hb0
              by_cases hrl : r + 1 = n
              · have hkz : ((r : Int) == (n : Int) - 1) = true := by simp; omega
                have HRL := Lib.hid hrl
                rcases hx : decide (1 < bt) with _ | _
                · have HX := Lib.hid hx
                  have HX0 := Lib.hid hb0
                  clear hb0 hrl
                  go_wp2_with fail
                  go_meet
                  exact ⟨by rw [H8.out, decide_eq_false]; rintro (h | h); exact absurd h (by have := HX0.out; omega); exact of_decide_eq_false HX.out h.2, below_drewN B6.out _⟩
                · have HX := Lib.hid hx
                  clear hb0 hrl
                  go_wp2_with fail
                  go_meet
                  exact ⟨by rw [H8.out, decide_eq_true (.inr ⟨HRL.out, of_decide_eq_true HX.out⟩)], below_drewN B6.out _⟩
              · have hkz : ((r : Int) == (n : Int) - 1) = false := by simp; omega
                have HRL := Lib.hid hrl
                have HX0 := Lib.hid hb0
                clear hb0 hrl
                go_wp2_with fail
                go_meet
                exact ⟨by rw [H8.out, decide_eq_false]; rintro (h | h); exact absurd h (by have := HX0.out; omega); exact HRL.out h.1, below_drewN B6.out _⟩
          case rest =>
            obtain ⟨rfl, b8⟩ := hcut
            rcases T8 with _ | _
            · have B8 := Lib.hid b8
              clear b8 B6
              go_upto_region 9 with (fail)
              go_cut [19] from 63 to 83 (fun v19 wx => ∃ (g : Nat) (u1 u2 u3 : Value), v19 = .pointer (some ⟨g, 0, none⟩) ∧ wc.heap.size ≤ g ∧ BK wx g 53 [.int .i64 (n : Int), u1, u2, u3] ∧ Three wx wc.heap.size u1 u2 u3 (p.1 ++ [left]) (p.2.1 ++ [(j : Int)]) (p.2.2 ++ [bt]) ∧ Below wc.heap.size wc wx)
              case first =>
                obtain ⟨f1, ⟨f2, f3, f4⟩, -, -, -, -, -⟩ := FX.out wc B8.out
                obtain ⟨g0, g1, g2, g3⟩ := f1.four
                have F1 := Lib.hid f1
                have FR2 := Lib.hid f2.ri
                have FR3 := Lib.hid f3.ri
                have FR4 := Lib.hid f4.ri
                clear f1 f2 f3 f4
                refine wp_region_held_drew (S := fun w' => BK w' gp 53 [.int .i64 (n : Int), .slice A1 m c1, .slice A2 m c2, .slice A3 m c3]) (by kernel_rfl) F1.out ?_
                intro hS0
                refine wpAnyH_takeD 0 63 (.pointer (some ⟨gp, 0, none⟩)) rfl rfl (by kernel_rfl) (by kernel_rfl) (by kernel_rfl) (fun _ _ _ h => h) (yields_run rfl fun w hS => run_fieldP (g := gp) (by decide) rfl (by kernel_rfl)) hS0 ?_
                simp only [Act.put, List.setIfInBounds_toArray, List.set_cons_zero, List.set_cons_succ]
                refine wpAnyH_takeD 1 64 (.int .i64 (n : Int)) rfl rfl (by kernel_rfl) (by kernel_rfl) (by kernel_rfl) (fun _ _ _ h => h) (yields_run rfl fun w hS => run_loadI (g := gp) (k := 0) rfl (by kernel_rfl) (BK.cell (j := 0) hS rfl)) hS0 ?_
                simp only [Act.put, List.setIfInBounds_toArray, List.set_cons_zero, List.set_cons_succ]
                refine wpAnyH_takeD 2 65 (.pointer (some ⟨gp, 1, none⟩)) rfl rfl (by kernel_rfl) (by kernel_rfl) (by kernel_rfl) (fun _ _ _ h => h) (yields_run rfl fun w hS => run_fieldP (g := gp) (by decide) rfl (by kernel_rfl)) hS0 ?_
                simp only [Act.put, List.setIfInBounds_toArray, List.set_cons_zero, List.set_cons_succ]
                refine wpAnyH_takeD 3 66 (.slice A1 m c1) rfl rfl (by kernel_rfl) (by kernel_rfl) (by kernel_rfl) (fun _ _ _ h => h) (yields_run rfl fun w hS => run_loadS (g := gp) (k := 1) rfl (by kernel_rfl) (BK.cell (j := 1) hS rfl)) hS0 ?_
                simp only [Act.put, List.setIfInBounds_toArray, List.set_cons_zero, List.set_cons_succ]
                refine wpAnyH_takeD 5 68 (.int .i64 left) rfl rfl (by kernel_rfl) (by kernel_rfl) (by kernel_rfl) (fun _ _ _ h => h) (yields_move rfl rfl (by kernel_rfl)) hS0 ?_
                simp only [Act.put, List.setIfInBounds_toArray, List.set_cons_zero, List.set_cons_succ]
                refine wpAnyH_takeD 8 71 (.pointer (some ⟨gp, 2, none⟩)) rfl rfl (by kernel_rfl) (by kernel_rfl) (by kernel_rfl) (fun _ _ _ h => h) (yields_run rfl fun w hS => run_fieldP (g := gp) (by decide) rfl (by kernel_rfl)) hS0 ?_
                simp only [Act.put, List.setIfInBounds_toArray, List.set_cons_zero, List.set_cons_succ]
                refine wpAnyH_takeD 9 72 (.slice A2 m c2) rfl rfl (by kernel_rfl) (by kernel_rfl) (by kernel_rfl) (fun _ _ _ h => h) (yields_run rfl fun w hS => run_loadS (g := gp) (k := 2) rfl (by kernel_rfl) (BK.cell (j := 2) hS rfl)) hS0 ?_
                simp only [Act.put, List.setIfInBounds_toArray, List.set_cons_zero, List.set_cons_succ]
                refine wpAnyH_takeD 11 74 (.int .i64 (j : Int)) rfl rfl (by kernel_rfl) (by kernel_rfl) (by kernel_rfl) (fun _ _ _ h => h) (yields_move rfl rfl (by kernel_rfl)) hS0 ?_
                simp only [Act.put, List.setIfInBounds_toArray, List.set_cons_zero, List.set_cons_succ]
                refine wpAnyH_takeD 14 77 (.pointer (some ⟨gp, 3, none⟩)) rfl rfl (by kernel_rfl) (by kernel_rfl) (by kernel_rfl) (fun _ _ _ h => h) (yields_run rfl fun w hS => run_fieldP (g := gp) (by decide) rfl (by kernel_rfl)) hS0 ?_
                simp only [Act.put, List.setIfInBounds_toArray, List.set_cons_zero, List.set_cons_succ]
                refine wpAnyH_takeD 15 78 (.slice A3 m c3) rfl rfl (by kernel_rfl) (by kernel_rfl) (by kernel_rfl) (fun _ _ _ h => h) (yields_run rfl fun w hS => run_loadS (g := gp) (k := 3) rfl (by kernel_rfl) (BK.cell (j := 3) hS rfl)) hS0 ?_
                simp only [Act.put, List.setIfInBounds_toArray, List.set_cons_zero, List.set_cons_succ]
                refine wpAnyH_takeD 17 80 (.int .i64 bt) rfl rfl (by kernel_rfl) (by kernel_rfl) (by kernel_rfl) (fun _ _ _ h => h) (yields_move rfl rfl (by kernel_rfl)) hS0 ?_
                simp only [Act.put, List.setIfInBounds_toArray, List.set_cons_zero, List.set_cons_succ]
                have HC1 : ∀ W, Below wc.heap.size wc W → Calls Try.prog 102 #[.slice A1 m c1] W (Makes W p.1) := fun W bW => l1Ints_any _ (FR2.out.below bW) (by omega)
                have HC2 : ∀ W, Below wc.heap.size wc W → Calls Try.prog 102 #[.slice A2 m c2] W (Makes W p.2.1) := fun W bW => l1Ints_any _ (FR3.out.below bW) (by omega)
                have HC3 : ∀ W, Below wc.heap.size wc W → Calls Try.prog 102 #[.slice A3 m c3] W (Makes W p.2.2) := fun W bW => l1Ints_any _ (FR4.out.below bW) (by omega)
                refine next_all (w0 := wc) (n := (n : Int)) (x1 := left) (x2 := (j : Int)) (x3 := bt) rfl rfl rfl rfl rfl rfl rfl rfl rfl rfl rfl rfl (of_decide_eq_true (by kernel_rfl)) (by kernel_rfl) (by kernel_rfl) (by kernel_rfl) (by kernel_rfl) (by kernel_rfl) (by kernel_rfl) (by kernel_rfl) HC1 HC2 HC3 (by rw [FR2.out.1]; omega) (by rw [FR3.out.1]; omega) (by rw [FR4.out.1]; omega) (by kernel_rfl) (by kernel_rfl) (by kernel_rfl) (by kernel_rfl) (by kernel_rfl) (by kernel_rfl) (by kernel_rfl) (by kernel_rfl) (by kernel_rfl) (by kernel_rfl) (by kernel_rfl) (by kernel_rfl) (by kernel_rfl) (by kernel_rfl) (by kernel_rfl) (by kernel_rfl) (by kernel_rfl) (by kernel_rfl) (by kernel_rfl) (by kernel_rfl) (by kernel_rfl) (by kernel_rfl) (by kernel_rfl) (by kernel_rfl) (by decide) (Quiet.below ⟨1, rfl⟩) (fun W bW => F1.out.below bW F1.out.lt) ?_
                intro v67 v69 v70 v73 v75 v76 v79 v81 v82 v83 v19 w4 g e1 e2 e3 e4 e5
                subst e1
                clear HC1 HC2 HC3 hS0
                simp only [actJ, Act.put, List.setIfInBounds_toArray, List.set_cons_zero, List.set_cons_succ]
                go_wp2
                go_meet
                exact ⟨g, v70, v76, v82, rfl, e2, e3, e4, e5⟩
              case rest =>
                obtain ⟨g, u1, u2, u3, rfl, hg1, hg2, t9, b9⟩ := hcut
                have B9 := Lib.hid (B8.out.trans (b9.mono B8.out.size))
                obtain ⟨A4, n4, c4, rfl, r4, -⟩ := t9.1.form
                obtain ⟨A5, n5, c5, rfl, r5, -⟩ := t9.2.1.form
                obtain ⟨A6, n6, c6, rfl, r6, -⟩ := t9.2.2.1.form
                have K9 := Lib.hid hg2
                have Q4 := Lib.hid (RT.of_OI t9.1)
                have Q5 := Lib.hid (RT.of_OI t9.2.1)
                have Q6 := Lib.hid (RT.of_OI t9.2.2.1)
                have hn4 : n4 = m + 1 := by rw [← r4.1, List.length_append, RW.out.1.ri.1]; rfl
                have hn5 : n5 = m + 1 := by rw [← r5.1, List.length_append, RW.out.2.1.ri.1]; rfl
                have hn6 : n6 = m + 1 := by rw [← r6.1, List.length_append, RW.out.2.2.ri.1]; rfl
                subst hn4 hn5 hn6
                have hbt0 : 0 ≤ bt := by
                  have := of_decide_eq_false H8.out.symm
                  omega
                have HL3 : Hid (Labs (p.2.2 ++ [bt])) := fun i => by
                  rcases Nat.lt_or_ge i p.2.2.length with h | h
                  · rw [nth_append_left h]; exact HLB.out i
                  · rw [nth_append_right h]
                    rcases Nat.eq_zero_or_pos (i - p.2.2.length) with h2 | h2
                    · rw [h2]; show 0 ≤ bt ∧ bt ≤ 3; omega
                    · rw [nth_ge (by simp; omega)]; omega
                have HNO6 : Hid (¬ (k = r ∧ (j : Int) ≠ nth b r)) := of_decide_eq_false H6.out.symm
                have HNO8 : Hid (¬ (bt < 0 ∨ (r + 1 = n ∧ 1 < bt))) := of_decide_eq_false H8.out.symm
                have HSPK : Hid (spR wt n a b (sp wt n a b d) r k left p (j : Int) = spK wt n a (sp wt n a b d) r k left p (j : Int)) := by
                  show _ = _
                  rw [spR, if_neg HNO6.out, ← HBT.out, if_neg HNO8.out]
                have HCALL : Hid (∀ (W : World) (r' k' : Nat) (ri ki left' : Int), Below wc.heap.size wc W → ri = (r' : Int) → ki = (k' : Int) → r' < n ∨ d = 0 → k' ≤ r' → tri r' + k' = m + 1 → 0 ≤ left' ∧ left' ≤ 2 →
                    spK wt n a (sp wt n a b d) r k left p (j : Int) = sp wt n a b d r' k' left' (snoc p (left, (j : Int), bt)) →
                    Calls Try.prog 92 #[.slice Aa n ca, .slice Ab n cb, .bool wt, .agg #[.int .i64 (n : Int), .slice A4 (m + 1) c4, .slice A5 (m + 1) c5, .slice A6 (m + 1) c6], .int .i64 ri, .int .i64 ki, .int .i64 left', u7] W
                      (fun e w' => ∃ (v' : Value) (cs' : List Value), e = .returned v' ∧ Hid (OZ w' w0.heap.size w0.heap.size v' n (ps ++ spTo wt n a b d r k left p (j + 1)) cs') ∧ Hid (w1.grownBy w' v.ownBlock) ∧ Hid (From w1 v v'))) := fun W r' k' ri ki left' bW hri hki hr' hk' hm' hl' hsp => by
                  subst hri hki
                  have bb := B9.out.trans (bW.mono B9.out.size)
                  obtain ⟨-, -, f3, -, -, f6, f7⟩ := FX.out W bb
                  have hspt := spTo_succ (wt := wt) (n := n) (a := a) (b := b) (d := d) (r := r) (k := k) (left := left) (p := p) hlt3
                  have hsl := spTo_len (wt := wt) (n := n) (a := a) (b := b) (d := d) (r := r) (k := k) (left := left) (p := p) hlt3
                  rw [HSPK.out, hsp] at hspt hsl
                  have hNN := HN.out
                  have hMM := HM.out
                  have hDD := HD.out
                  refine (HIH.out W r' k' left' (snoc p (left, (j : Int), bt)) A4 A5 A6 (m + 1) (m + 1) (m + 1) c4 c5 c6 u7 (ps ++ spTo wt n a b d r k left p j) cs f6 hr' hk' (by omega) hl' (Q4.out.below bW) (Q5.out.below bW) (Q6.out.below bW) (by omega) (by omega) (by omega) HL3.out f3 (by rw [List.length_append]; omega)).mono ?_
                  rintro e w' ⟨v', cs', he, o', g', fr'⟩
                  refine ⟨v', cs', he, ?_, ?_, ?_⟩
                  · show OZ _ _ _ _ _ _ _
                    rw [hspt, ← List.append_assoc]
                    exact o'
                  · refine grown_step f7 g' ?_
                    rcases FW.out with h | h
                    · exact .inl h
                    · exact .inr h
                  · exact From.next FW.out f7.size fr'
                obtain ⟨z0, z1, z2, z3⟩ := hg2.four
                have y := (FX.out wc B9.out).1.four
                have Y := Lib.hid y
                obtain ⟨y0, y1, y2, y3⟩ := y
                clear t9 b9 r4 r5 r6 hg2
                by_cases hkr : k < r
                · have hkd : decide ((k : Int) < (r : Int)) = true := decide_eq_true (by omega)
                  obtain ⟨pq, hpq⟩ : ∃ pq, pq = tri (r - 1) + k := ⟨_, rfl⟩
                  have hpm : pq < m := by
                    have h1 := HM.out
                    have h2 := tri_step (r - 1)
                    rw [show r - 1 + 1 = r by omega] at h2
                    omega
                  obtain ⟨Q, hQ⟩ : ∃ Q, Q = nth p.2.2 pq := ⟨_, rfl⟩
                  have hQ3 := HLB.out pq
                  rw [← hQ] at hQ3
                  obtain ⟨ad3, hA3, hc3⟩ := (FX.out wc B9.out).2.1.2.2.ri.cell (k := pq) hpm
                  subst hA3
                  rw [← hQ] at hc3
                  obtain ⟨mo, hmo⟩ : ∃ mo, mo = downB (j : Int) Q := ⟨_, rfl⟩
                  have HPL : Hid (∀ W, Calls Try.prog 93 #[.int .i64 ((r : Int) - 1), .int .i64 (k : Int)] W (Gives W (.int .i64 (pq : Int)))) := fun W => place_any (r - 1) k _ _ pq (by omega) rfl (by omega) (by omega) hpq.symm
                  have HDN : Hid (∀ W, Calls Try.prog 126 #[.int .i64 (j : Int), .int .i64 Q] W (Gives W (.int .i64 mo))) := fun W => by rw [hmo]; exact down_any (j : Int) Q ⟨by omega, hj2⟩ hQ3
                  have HMO : Hid (downB (j : Int) (nth p.2.2 (tri (r - 1) + k)) = mo) := by show _ = _; rw [hmo, hQ, hpq]
                  have W3 : IntKind.i64.wrap ((r : Int) - 1) = (r : Int) - 1 := IntWalk.i64_in _ (by omega)
                  have hmo2 := downB_le (j : Int) Q
                  rw [← hmo] at hmo2
                  have HKR := Lib.hid hkr
                  clear hpq hQ hmo hQ3
                  go_upto_region 11 with (fail)
                  go_quiet (first | (go_at_call 93; first | exact qcall (HPL.out _) | exact qcall_add (HPL.out _)) | (go_at_call 126; first | exact qcall (HDN.out _) | exact qcall_add (HDN.out _)))
                  by_cases h0 : 0 ≤ mo
                  · have hd0 : decide (0 ≤ mo) = true := decide_eq_true h0
                    have HS : Hid (spK wt n a (sp wt n a b d) r k left p (j : Int) = sp wt n a b d r (k + 1) mo (snoc p (left, (j : Int), bt))) := by
                      show _ = _
                      rw [spK, if_pos HKR.out, HMO.out, if_pos h0, ← HBT.out]
                    have H0 := Lib.hid h0
                    clear hkr h0
                    go_wp2_with fail
                    refine (HCALL.out _ r (k + 1) _ _ mo (Quiet.below ⟨_, rfl⟩) rfl (by simp) (.inl hr) HKR.out (by have := HM.out; omega) ⟨H0.out, hmo2⟩ HS.out).mono ?_
                    rintro e w5 ⟨v', cs', rfl, o', g', fr'⟩
                    go_wp2
                    go_roundw
                    case rel => exact ⟨j + 1, cs', by omega, by go_num, o', g', fr'⟩
                    case measure => simp [intOf]; omega
                  · have hd0 : decide (0 ≤ mo) = false := decide_eq_false h0
                    have HS : Hid (spR wt n a b (sp wt n a b d) r k left p (j : Int) = []) := by
                      show _ = _
                      rw [HSPK.out, spK, if_pos HKR.out, HMO.out, if_neg h0]
                    clear hkr h0
                    go_wp2
                    go_roundw
                    case rel => exact HCONT.out HS.out _ (below_drewN B9.out _)
                    case measure => simp [intOf]; omega
                · obtain rfl : k = r := by omega
                  have hkd : decide ((k : Int) < (k : Int)) = false := decide_eq_false (by omega)
                  have W5 : IntKind.i64.wrap ((k : Int) + 1) = (k : Int) + 1 := IntWalk.i64_in _ (by omega)
                  by_cases hln : k + 1 < n
                  · have hld : decide ((k : Int) + 1 < (n : Int)) = true := decide_eq_true (by omega)
                    obtain ⟨pa, hpa⟩ : ∃ pa, pa = n - 2 - k := ⟨_, rfl⟩
                    obtain ⟨ada, hAa, hca⟩ := (FX.out wc B9.out).2.2.2.1.cell (k := pa) (by omega)
                    obtain ⟨a0, ha0⟩ : ∃ a0, a0 = nth a pa := ⟨_, rfl⟩
                    rw [← ha0] at hca
                    have hlab := HLA.out pa
                    rw [← ha0] at hlab
                    have hpn : pa < n := by omega
                    have W6 : IntKind.i64.wrap ((n : Int) - 2) = (n : Int) - 2 := IntWalk.i64_in _ (by omega)
                    have W7 : IntKind.i64.wrap ((n : Int) - 2 - (k : Int)) = (pa : Int) := by rw [show (n : Int) - 2 - (k : Int) = (pa : Int) by omega]; exact IntWalk.i64_in _ (by omega)
                    have HS : Hid (spK wt n a (sp wt n a b d) k k left p (j : Int) = sp wt n a b d (k + 1) 0 a0 (snoc p (left, (j : Int), bt))) := by
                      show _ = _
                      rw [spK, if_neg (by omega), ← HBT.out, if_pos hln, ha0, hpa]
                    have HLN := Lib.hid hln
                    subst hAa
                    clear hkr hln hpa ha0
                    go_wp2_with fail
                    refine (HCALL.out _ (k + 1) 0 _ _ a0 (by first | exact Below.refl _ _ | exact Quiet.below ⟨_, rfl⟩) (by simp) rfl (.inl HLN.out) (Nat.zero_le _) (by have := HM.out; rw [tri_step]; omega) hlab HS.out).mono ?_
                    rintro e w5 ⟨v', cs', rfl, o', g', fr'⟩
                    go_wp2
                    go_roundw
                    case rel => exact ⟨j + 1, cs', by omega, by go_num, o', g', fr'⟩
                    case measure => simp [intOf]; omega
                  · have hld : decide ((k : Int) + 1 < (n : Int)) = false := decide_eq_false (by omega)
                    have HS : Hid (spK wt n a (sp wt n a b d) k k left p (j : Int) = sp wt n a b d (k + 1) 0 0 (snoc p (left, (j : Int), bt))) := by
                      show _ = _
                      rw [spK, if_neg (by omega), ← HBT.out, if_neg hln]
                    have HD0 : Hid (d = 0) := by
                      show _ = _
                      have h1 := HD.out
                      have h2 := HM.out
                      have h3 := tri_mono (show n ≤ k + 1 by omega)
                      rw [tri_step] at h3
                      omega
                    clear hkr hln
                    go_wp2_with fail
                    refine (HCALL.out _ (k + 1) 0 _ _ 0 (by first | exact Below.refl _ _ | exact Quiet.below ⟨_, rfl⟩) (by simp) rfl (.inr HD0.out) (Nat.zero_le _) (by have := HM.out; rw [tri_step]; omega) (by omega) HS.out).mono ?_
                    rintro e w5 ⟨v', cs', rfl, o', g', fr'⟩
                    go_wp2
                    go_roundw
                    case rel => exact ⟨j + 1, cs', by omega, by go_num, o', g', fr'⟩
                    case measure => simp [intOf]; omega
            · go_wp2
              go_roundw
              case rel => exact HCONT.out (by rw [spR, if_neg (of_decide_eq_false H6.out.symm), ← HBT.out, if_pos (of_decide_eq_true H8.out.symm)]) _ b8
              case measure => simp [intOf]; omega
        · go_wp2
          go_roundw
          case rel => exact HCONT.out (by rw [spR, if_pos (of_decide_eq_true H6.out.symm)]) _ b6
          case measure => simp [intOf]; omega
    · obtain rfl : j = 3 := by omega
      have HF : Hid (FPost w w0.heap.size v n (ps ++ sp wt n a b (d + 1) r k left p) (.returned u7) wr) := by
        refine ⟨u7, cs, rfl, by rw [← spTo_all]; exact OZj.out, (grown_below (World.grownBy.refl _ _) HB1.out).trans GW.out, FW.out.imp id fun h q hq => Nat.le_trans HB1.out.size (h q hq)⟩
      go_wp2
      go_ret
      exact HF.out
end Go.Proofs.Ytnljlophgolejaa
