/- holds, HasPattern, IsVexillary of the program. -/
import Derived.Test.YtgbojgmmingfdaaStdI
import Derived.Test.YtgbojgmmingfdaaSArg
import Derived.Test.YtgbojgmmingfdaaDraw
import Derived.Deep.RegionHeld3
import Derived.Deep.QuietTactic
import Derived.BigQuiet
namespace Go.Proofs.Ytgbojgmmingfdaa
open Go.RowKit

def hitB (f : Nat) (l p : List Int) (a : Nat) (vals : List Int) (i : Nat) : Bool := decide (a ≤ i) && (okAt l p vals i && holdB f l p (i + 1) (vals ++ [nth l i]))
theorem holdB_go {f : Nat} {l p vals : List Int} {a : Nat} (h : vals.length ≠ p.length) : holdB (f + 1) l p a vals = (List.range l.length).any (hitB f l p a vals) := by
  rw [holdB, if_neg h]; rfl
theorem holdB_done {f : Nat} {l p vals : List Int} {a : Nat} (h : vals.length = p.length) : holdB f l p a vals = true := by
  cases f with
  | zero => simp [holdB, h]
  | succ f => rw [holdB, if_pos h]
/-- Whether the first k values found go. -/
def okTo (l p vals : List Int) (i k : Nat) : Bool := (List.range k).all fun j => decide (nth vals j < nth l i) == decide (nth p j < nth p vals.length)
theorem okTo_succ (l p vals : List Int) (i k : Nat) : okTo l p vals i (k + 1) = (okTo l p vals i k && (decide (nth vals k < nth l i) == decide (nth p k < nth p vals.length))) := by
  simp [okTo, List.range_succ, List.all_append]
theorem okTo_zero (l p vals : List Int) (i : Nat) : okTo l p vals i 0 = true := rfl
/-- append at []int, at a guarded operation of a region that draws its order. -/
theorem stepAppIg {w : World} {ops : Array Oper} {o : Oper} {a : Act} {K : Act → World → Prop} {Q : Exit → Act → World → Prop} {E : Prop} (s x : Operand)
    (ho : o.op = .call { callee := .builtin .append, args := #[s, x], argTypes := #[22, 22] }) (hw : Region.wanted o (yielded ops a.tmps) = true)
    (base : Nat) (v : Value) (l l2 : List Int) (A : Option Addr) (m c : Nat) (hs : a.eval s = v) (hx : a.eval x = .slice A m c) (hown : OI w base v l) (hr : RI w A m l2) (hlen : l.length + m ≤ 1000000000000) (hbase : base ≤ w.heap.size)
    (h : ∀ v' w', OI w' base v' (l ++ l2) → w.grownBy w' v.ownBlock → (v'.ownBlock = v.ownBlock ∨ v'.ownBlock = some w.heap.size) → K (a.put o.dst v') w') :
    if Region.wanted o (yielded ops a.tmps) = true then Oper.wp Try.prog o a w K Q else E := by
  rw [if_pos hw]
  exact wp_appI s x ho base v l l2 A m c hs hx hown hr hlen hbase h
def HoldP (f : Nat) : Prop := ∀ (w : World) (A B V : Option Addr) (n c m d k e a : Nat) (l p vals : List Int), RI w A n l → RI w B m p → RI w V k vals → n ≤ 7 → m ≤ 7 → k + f = m → a ≤ n →
  Calls Try.prog 158 #[.slice A n c, .slice B m d, .int .i64 (a : Int), .slice V k e] w (GivesB w (.bool (holdB f l p a vals)))
theorem hold_zero : HoldP 0 := by
  intro w A B V n c m d k e a l p vals hl hp hv hn hm hk ha
  have H : Hid (holdB 0 l p a vals = true) := holdB_done (by rw [hv.1, hp.1]; omega)
  obtain rfl : k = m := by omega
  clear hl hp hv
  go_enter Try.func158, Try.ntmps158
  go_wp2_with fail
  go_ret
  exact ⟨by rw [H.out]; rfl, Below.refl _ _⟩
set_option maxRecDepth 100000 in
set_option maxHeartbeats 4000000 in
theorem hold_succ {f : Nat} (ih : HoldP f) : HoldP (f + 1) := by
  intro w A B V n c m d k e a l p vals hl hp hv hn hm hk ha
  have HIH := Lib.hid ih
  have HA := Lib.hid hl
  have HB := Lib.hid hp
  have HV := Lib.hid hv
  have HG : Hid (holdB (f + 1) l p a vals = (List.range n).any (hitB f l p a vals)) := by show _ = _; rw [holdB_go (by rw [hv.1, hp.1]; omega), hl.1]
  have hkm : k < m := by omega
  have hkm2 : ¬ (k : Int) = (m : Int) := by omega
  clear ih hl hp hv
  go_enter Try.func158, Try.ntmps158
  go_upto_region 5 with fail
  rename ((k : Int) == (m : Int)) = false => hslot
  have HKM := Lib.hid hkm
  have HK := Lib.hid hk
  have hk7 : k ≤ 7 := by omega
  clear hslot hkm2 hkm hk
  go_loopw [10, 11, 12, 13, 27, 28, 29] (fun i _ _ _ _ _ _ wr => ∃ q : Nat, q ≤ n ∧ i = .int .i64 (q : Int) ∧ Hid (Below w.heap.size w wr ∧ a ≤ q ∧ ∀ j, j < q → hitB f l p a vals j = false)) (fun i _ _ _ _ _ _ _ => n - (intOf i).toNat)
  case atStart => exact ⟨a, ha, rfl, Below.refl _ _, Nat.le_refl _, fun j hj => by rw [hitB, decide_eq_false (by omega)]; rfl⟩
  case round =>
    obtain ⟨q, hq, rfl, HY⟩ := hrel
    by_cases hlt : q < n
    · obtain ⟨wp, rfl⟩ : ∃ wp : World, wp = wr := ⟨_, rfl⟩
      obtain ⟨ada, rfl, hca⟩ := HA.out.2 (by omega)
      obtain ⟨adb, rfl, hcb⟩ := HB.out.2 (by have := HKM.out; omega)
      have za := one_cell HY.out.1 (hca q hlt)
      obtain ⟨x, hx⟩ : ∃ x, x = nth l q := ⟨_, rfl⟩
      rw [← hx] at za
      have HXQ := Lib.hid hx
      have HCB := Lib.hid hcb
      clear hx hca hcb
      go_upto_region 9 with fail
      go_loopw [11, 12, 13, 29] (fun b _ _ j wq => ∃ r : Nat, r ≤ k ∧ j = .int .i64 (r : Int) ∧ b = .bool (okTo l p vals q r) ∧ Hid (Below wp.heap.size wp wq)) (fun _ _ _ j _ => k - (intOf j).toNat)
      case atStart => exact ⟨0, Nat.zero_le _, rfl, rfl, Below.refl _ _⟩
      case round =>
        obtain ⟨r, hr, rfl, rfl, HZ⟩ := hrel
        have hbw : Below w.heap.size w wr := HY.out.1.trans (HZ.out.mono HY.out.1.size)
        have HBW := Lib.hid hbw
        by_cases hlr : r < k
        · have hrv := HV.out.below hbw
          obtain ⟨adv, rfl, hcv⟩ := hrv.2 (by omega)
          have zv := hcv r hlr
          have hkm := HKM.out
          have zb1 := one_cell hbw (HCB.out r (by omega))
          have zb2 := one_cell hbw (HCB.out k hkm)
          have za1 := one_cell HZ.out za
          have HKV : Hid (vals.length = k) := HV.out.1
          have hs := okTo_succ l p vals q r
          rw [HKV.out, ← HXQ.out] at hs
          obtain ⟨v, hv⟩ : ∃ v, v = nth vals r := ⟨_, rfl⟩
          obtain ⟨p1, hp1⟩ : ∃ v, v = nth p r := ⟨_, rfl⟩
          obtain ⟨p2, hp2⟩ : ∃ v, v = nth p k := ⟨_, rfl⟩
          rw [← hv, ← hp1, ← hp2] at hs
          rw [← hv] at zv
          rw [← hp1] at zb1
          rw [← hp2] at zb2
          have hrm : r < m := by omega
          clear hv hp1 hp2 hcv hrv hbw
          rcases hb : okTo l p vals q r with _ | _
          · rw [hb, Bool.false_and] at hs
            have HS := Lib.hid hs
            clear hs hb
            go_wp2_with fail
            go_quiet (fail)
            go_wp2_with fail
            go_roundw
            case rel => exact ⟨r + 1, by omega, by go_num, by rw [HS.out], below_drewN HZ.out _⟩
            case measure => simp [intOf]; omega
          · rw [hb, Bool.true_and] at hs
            have HS := Lib.hid hs
            clear hs hb
            go_wp2_with fail
            go_quiet (fail)
            go_wp2_with fail
            go_roundw
            case rel => exact ⟨r + 1, by omega, by go_num, by rw [HS.out], below_drewN HZ.out _⟩
            case measure => simp [intOf]; omega
        · obtain rfl : r = k := by omega
          have HOK : Hid (okAt l p vals q = okTo l p vals q r) := by show _ = _; unfold okAt okTo; rw [HV.out.1]
          have HKR : Hid (Below w.heap.size w wr) := HY.out.1.trans (HZ.out.mono HY.out.1.size)
          have za1 := one_cell HZ.out za
          rcases hb : okTo l p vals q r with _ | _
          · have HNO : Hid (hitB f l p a vals q = false) := by show _ = _; rw [hitB, HOK.out, hb]; simp
            clear hb
            go_wp2_with fail
            go_quiet (fail)
            go_wp2_with fail
            go_roundw
            case rel => exact ⟨q + 1, by omega, by go_num, below_drewN HKR.out _, by have := HY.out.2.1; omega, fun j hj => by
              rcases Nat.lt_or_eq_of_le (show j ≤ q by omega) with h | h
              · exact HY.out.2.2 j h
              · rw [h]; exact HNO.out⟩
            case measure => simp [intOf]; omega
          · have HHIT : Hid (hitB f l p a vals q = holdB f l p (q + 1) (vals ++ [x])) := by show _ = _; rw [hitB, HOK.out, hb, decide_eq_true HY.out.2.1, Bool.true_and, Bool.true_and, ← HXQ.out]
            clear hb
            have HCL : Hid (∀ W, Below wr.heap.size wr W → Calls Try.prog 134 #[.slice V r e] W (Makes W vals)) := fun W bW => clone_any e (HV.out.below (HKR.out.trans (bW.mono HKR.out.size))) (by omega)
            have HREC : Hid (∀ b, holdB f l p (q + 1) (vals ++ [x]) = b → ∀ W A9 n9 c9, Below wr.heap.size wr W → RI W A9 n9 (vals ++ [x]) → Calls Try.prog 158 #[.slice (some ada) n c, .slice (some adb) m d, .int .i64 ((q : Int) + 1), .slice A9 n9 c9] W (GivesB W (.bool b))) := fun b hb W A9 n9 c9 bW hr => by
              have bw := HKR.out.trans (bW.mono HKR.out.size)
              have h := HIH.out W (some ada) (some adb) A9 n c m d n9 c9 (q + 1) l p (vals ++ [x]) (HA.out.below bw) (HB.out.below bw) hr hn hm (by have h1 := hr.1; have h2 := HV.out.1; rw [List.length_append, List.length_singleton] at h1; have := HK.out; omega) (by omega)
              rw [show ((q + 1 : Nat) : Int) = (q : Int) + 1 by omega, hb] at h
              exact h
            have hqw : IntKind.i64.wrap ((q : Int) + 1) = (q : Int) + 1 := by rw [IntKind.wrap_i64]; omega
            have HVL : Hid (vals.length + 1 ≤ 1000000000000) := by have := HV.out.1; show _ ≤ _; omega
            have BD : Hid (Below wr.heap.size wr wr.drew ∧ Below wr.heap.size wr (wr.drew.alloc (.cells #[.int .i64 x] 3)) ∧ RI (wr.drew.alloc (.cells #[.int .i64 x] 3)) (some ⟨wr.heap.size, 0, none⟩) 1 [x]) := ⟨(Below.refl _ _).drew, ((Below.refl _ _).drew).alloc (Nat.le_refl _) _, RI.one wr.drew x⟩
            rcases hb2 : holdB f l p (q + 1) (vals ++ [x]) with _ | _
            · have HR := Lib.hid (HREC.out _ hb2)
              have HNO : Hid (hitB f l p a vals q = false) := HHIT.out.trans hb2
              clear HREC hb2
              go_wp2_with fail
              go_region_held3 (fun W => W.cell? (ada.add q) = some (.int .i64 x)) (first | exact za1 | exact one_cell BD.out.1 za1 | exact one_cell BD.out.2.1 za1 | exact one_cell bb4 za1 | exact one_cell (bb4.alloc bb4.size _) za1 | exact one_cell bb6 za1 | exact one_cell b9 za1 | fail) (first
                | (go_at_call 134; (with_reducible refine (HCL.out _ ?_).mono ?_); (first | exact BD.out.1 | exact BD.out.2.1); rintro e w4 ⟨A4, n4, c4, rfl, o4, r4, -, b4⟩; have bb4 : Below wr.heap.size wr w4 := by first | exact BD.out.1.trans (b4.mono BD.out.1.size) | exact BD.out.2.1.trans (b4.mono BD.out.2.1.size))
                | (refine stepAppIg _ _ rfl rfl wr.heap.size (.slice A4 n4 c4) vals [x] (some ⟨w4.heap.size, 0, none⟩) 1 1 rfl rfl ((o4.mono (by first | exact BD.out.1.size | exact BD.out.2.1.size)).alloc _) (RI.one w4 x) HVL.out (bb4.alloc bb4.size _).size ?_; intro v6 w6 o6 g6 k6; have bb6 := (bb4.alloc bb4.size _).grown g6 (bb4.alloc bb4.size _).size (fun y hy => Nat.le_trans (by first | exact BD.out.1.size | exact BD.out.2.1.size) (o4.lt y hy).1); obtain ⟨A6, n6, c6, rfl, r6, -⟩ := o6.form)
                | (refine stepAppIg _ _ rfl rfl wr.heap.size (.slice A4 n4 c4) vals [x] (some ⟨wr.heap.size, 0, none⟩) 1 1 rfl rfl (o4.mono (by first | exact BD.out.1.size | exact BD.out.2.1.size)) (BD.out.2.2.below b4) HVL.out bb4.size ?_; intro v6 w6 o6 g6 k6; have bb6 := bb4.grown g6 bb4.size (fun y hy => Nat.le_trans (by first | exact BD.out.1.size | exact BD.out.2.1.size) (o4.lt y hy).1); obtain ⟨A6, n6, c6, rfl, r6, -⟩ := o6.form)
                | (go_at_call 158; (with_reducible refine (HR.out _ _ _ _ ?_ ?_).mono ?_); (exact bb6); (exact r6); rintro e w9 ⟨rfl, b9'⟩; have b9 : Below wr.heap.size wr w9 := bb6.trans (b9'.mono bb6.size))
                | fail)
              all_goals (
                go_wp2_with fail
                go_roundw
                case rel => exact ⟨q + 1, by omega, by go_num, HKR.out.trans (b9.mono HKR.out.size), by have := HY.out.2.1; omega, fun j hj => by
                  rcases Nat.lt_or_eq_of_le (show j ≤ q by omega) with h | h
                  · exact HY.out.2.2 j h
                  · rw [h]; exact HNO.out⟩
                case measure => simp [intOf]; omega)
            · have HR := Lib.hid (HREC.out _ hb2)
              have HYES : Hid (hitB f l p a vals q = true) := HHIT.out.trans hb2
              have HFIN : Hid (holdB (f + 1) l p a vals = true) := HG.out.trans (List.any_eq_true.2 ⟨q, List.mem_range.2 hlt, HYES.out⟩)
              clear HREC hb2
              go_wp2_with fail
              go_region_held3 (fun W => W.cell? (ada.add q) = some (.int .i64 x)) (first | exact za1 | exact one_cell BD.out.1 za1 | exact one_cell BD.out.2.1 za1 | exact one_cell bb4 za1 | exact one_cell (bb4.alloc bb4.size _) za1 | exact one_cell bb6 za1 | exact one_cell b9 za1 | fail) (first
                | (go_at_call 134; (with_reducible refine (HCL.out _ ?_).mono ?_); (first | exact BD.out.1 | exact BD.out.2.1); rintro e w4 ⟨A4, n4, c4, rfl, o4, r4, -, b4⟩; have bb4 : Below wr.heap.size wr w4 := by first | exact BD.out.1.trans (b4.mono BD.out.1.size) | exact BD.out.2.1.trans (b4.mono BD.out.2.1.size))
                | (refine stepAppIg _ _ rfl rfl wr.heap.size (.slice A4 n4 c4) vals [x] (some ⟨w4.heap.size, 0, none⟩) 1 1 rfl rfl ((o4.mono (by first | exact BD.out.1.size | exact BD.out.2.1.size)).alloc _) (RI.one w4 x) HVL.out (bb4.alloc bb4.size _).size ?_; intro v6 w6 o6 g6 k6; have bb6 := (bb4.alloc bb4.size _).grown g6 (bb4.alloc bb4.size _).size (fun y hy => Nat.le_trans (by first | exact BD.out.1.size | exact BD.out.2.1.size) (o4.lt y hy).1); obtain ⟨A6, n6, c6, rfl, r6, -⟩ := o6.form)
                | (refine stepAppIg _ _ rfl rfl wr.heap.size (.slice A4 n4 c4) vals [x] (some ⟨wr.heap.size, 0, none⟩) 1 1 rfl rfl (o4.mono (by first | exact BD.out.1.size | exact BD.out.2.1.size)) (BD.out.2.2.below b4) HVL.out bb4.size ?_; intro v6 w6 o6 g6 k6; have bb6 := bb4.grown g6 bb4.size (fun y hy => Nat.le_trans (by first | exact BD.out.1.size | exact BD.out.2.1.size) (o4.lt y hy).1); obtain ⟨A6, n6, c6, rfl, r6, -⟩ := o6.form)
                | (go_at_call 158; (with_reducible refine (HR.out _ _ _ _ ?_ ?_).mono ?_); (exact bb6); (exact r6); rintro e w9 ⟨rfl, b9'⟩; have b9 : Below wr.heap.size wr w9 := bb6.trans (b9'.mono bb6.size))
                | fail)
              all_goals (
                go_wp2_with fail
                go_ret
                exact ⟨by rw [HFIN.out]; rfl, HKR.out.trans (b9.mono HKR.out.size)⟩)
    · obtain rfl : q = n := by omega
      have HFIN : Hid (holdB (f + 1) l p a vals = false) := HG.out.trans (by
        rw [List.any_eq_false]
        intro j hj
        rw [HY.out.2.2 j (List.mem_range.1 hj)]
        simp)
      go_wp2_with fail
      go_ret
      exact ⟨by rw [HFIN.out]; rfl, HY.out.1⟩
theorem hold_all : ∀ f, HoldP f
  | 0 => hold_zero
  | f + 1 => hold_succ (hold_all f)
end Go.Proofs.Ytgbojgmmingfdaa
