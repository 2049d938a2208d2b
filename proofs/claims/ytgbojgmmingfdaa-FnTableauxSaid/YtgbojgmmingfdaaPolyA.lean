/- (poly).add: a term is added to a polynomial, in it itself. -/
import Derived.Test.YtgbojgmmingfdaaPoly
import Derived.BigRegion
import Derived.RegionTactic
import Derived.Deep.DeepCutAuto
import Derived.Deep.CutRange
namespace Go.Proofs.Ytgbojgmmingfdaa
open Go.RowKit Go.Maps Go.MapKept Go.WideMaps

/-- The coefficients are those of terms. -/
def Real (acc : List (List Int × Int)) : Prop := Srt acc ∧ ∀ x ∈ acc, x.2 ≠ 0 ∧ Ex7 x.1
theorem PM.drew {H : Type} {w : World} {b n : Nat} {acc : List (List Int × Int)} (h : PM H w b n acc) : PM H w.drew b n acc := by
  obtain ⟨D, ho, hr⟩ := h
  exact ⟨D, ho.drew, hr⟩
theorem PM.alloc {H : Type} {w : World} {b n : Nat} {acc : List (List Int × Int)} (h : PM H w b n acc) (o : Obj) : PM H (w.alloc o) b n acc := by
  obtain ⟨D, ho, hr⟩ := h
  exact ⟨D, ho.alloc o, hr⟩
theorem PM.lt {H : Type} {w : World} {b n : Nat} {acc : List (List Int × Int)} (h : PM H w b n acc) : b < w.heap.size := by
  obtain ⟨D, ho, -⟩ := h
  exact ho.lt

set_option maxRecDepth 100000 in
set_option maxHeartbeats 2000000 in
theorem addM_any {H : Type} {w : World} {b n : Nat} {acc : List (List Int × Int)} {e : List Int} {c : Int} (h : PM H w b n acc) (hn : n < maxLen) (he : Ex7 e) (hc : -4000000000000000000 ≤ cf acc e + c ∧ cf acc e + c ≤ 4000000000000000000) :
    Calls Try.prog 65 #[.map (some b), kv e, .int .i64 c] w (fun r w' => r = .returned (.tuple #[]) ∧ PM H w' b (n + 1) (addP acc e c) ∧ w.grownBy w' (some b)) := by
  have hE := he
  obtain ⟨e0, e1, e2, e3, e4, e5, e6, rfl⟩ := he.seven
  have hblt := h.lt
  obtain ⟨w1, ew1⟩ : ∃ W : World, W = w.alloc (.cells #[.int .i64 e0, .int .i64 e1, .int .i64 e2, .int .i64 e3, .int .i64 e4, .int .i64 e5, .int .i64 e6] 76) := ⟨_, rfl⟩
  have k1 : BK w1 w.heap.size 76 [.int .i64 e0, .int .i64 e1, .int .i64 e2, .int .i64 e3, .int .i64 e4, .int .i64 e5, .int .i64 e6] := by rw [ew1]; exact BK.new w _ _
  have h1 : PM H w1 b n acc := by rw [ew1]; exact h.alloc _
  have hs1 : w1.heap.size = w.heap.size + 1 := by rw [ew1]; simp
  obtain ⟨c0, hc0⟩ : ∃ c0, c0 = cf acc [e0, e1, e2, e3, e4, e5, e6] := ⟨_, rfl⟩
  obtain ⟨c2, hc2⟩ : ∃ c2, c2 = c0 + c := ⟨_, rfl⟩
  have hw : (Lit.int .i64 c2).wf = true := WalkArith.wf_i64 (by omega)
  obtain ⟨st, w2, r1, r2, g2, hst⟩ := h1.drew.entry hn hE
  obtain ⟨w3, D3, s1, ho3, rep3, g3⟩ := hst c2 hw
  have l1 := (wf_coef h1.drew hE).1
  rw [← hc0] at r1 r2 l1
  have hW : IntKind.i64.wrap (c0 + c) = c2 := by rw [hc2]; exact IntWalk.i64_in _ (by omega)
  have l1' : (Instr.lookup TM (.map (some b)) (.agg #[.int .i64 e0, .int .i64 e1, .int .i64 e2, .int .i64 e3, .int .i64 e4, .int .i64 e5, .int .i64 e6]) false).run Try.prog w1.drew = .ok (.int .i64 c0) w1.drew := l1
  have r1' : (Instr.mapEntry TM (.map (some b)) (.agg #[.int .i64 e0, .int .i64 e1, .int .i64 e2, .int .i64 e3, .int .i64 e4, .int .i64 e5, .int .i64 e6])).run Try.prog w1.drew = .ok (.tuple #[.int .i64 c0, .int .i64 (st : Int)]) w2 := r1
  have r2' : (Instr.lookup TM (.map (some b)) (.agg #[.int .i64 e0, .int .i64 e1, .int .i64 e2, .int .i64 e3, .int .i64 e4, .int .i64 e5, .int .i64 e6]) false).run Try.prog w2 = .ok (.int .i64 c0) w2 := r2
  have s1' : (Instr.entryStore TM (.map (some b)) (.int .i64 (st : Int)) (.int .i64 c2)).run Try.prog w2 = .ok () w3 := s1
  have hne : w.heap.size ≠ b := by omega
  have k3 : BK w3 w.heap.size 76 [.int .i64 e0, .int .i64 e1, .int .i64 e2, .int .i64 e3, .int .i64 e4, .int .i64 e5, .int .i64 e6] := by
    exact (g3.block w.heap.size (by show _ < w1.heap.size; omega) (fun e => hne (Option.some.inj e))).trans k1
  have HX := Lib.hid (⟨rep3, ho3, g3, hc0, hc2, h, hE, g2⟩ : _ ∧ _ ∧ _ ∧ _ ∧ _ ∧ _ ∧ _ ∧ _)
  have K3 := Lib.hid k3
  have K1 := Lib.hid k1
  have EW1 := Lib.hid ew1
  clear r1 r2 l1 s1 hst rep3 ho3 g3 h1 h k3 k1 hc0 hc2 he hE g2 hblt
  show Calls _ _ #[.map (some b), .agg #[.int .i64 e0, .int .i64 e1, .int .i64 e2, .int .i64 e3, .int .i64 e4, .int .i64 e5, .int .i64 e6], .int .i64 c] _ _
  go_enter Try.func65, Try.ntmps65
  go_upto_region 1 with (fail)
  rw [← EW1.out]
  have q0 := K1.out.cell (j := 0) rfl
  have q1 := K1.out.cell (j := 1) rfl
  have q2 := K1.out.cell (j := 2) rfl
  have q3 := K1.out.cell (j := 3) rfl
  have q4 := K1.out.cell (j := 4) rfl
  have q5 := K1.out.cell (j := 5) rfl
  have q6 := K1.out.cell (j := 6) rfl
  clear ew1
  go_region
  obtain ⟨rep3, ho3, g3, hc0, hc2, h, hE, g2⟩ := HX.out
  have hk := keyOf_kv hE
  obtain ⟨c3, l3, hat, -⟩ := ho3.lookup_int lawK Try.underlying74 Try.underlying3 (zeroI _) hk
  rw [rep3.at_ _ hE, if_pos rfl] at hat
  obtain rfl : c2 = c3 := by simpa using hat
  have l3' : (Instr.lookup TM (.map (some b)) (.agg #[.int .i64 e0, .int .i64 e1, .int .i64 e2, .int .i64 e3, .int .i64 e4, .int .i64 e5, .int .i64 e6]) false).run Try.prog w3 = .ok (.int .i64 c2) w3 := l3
  have hgw : w.grownBy w3 (some b) := by
    have h0 : w.grownBy w1 (some b) := by rw [EW1.out]; exact World.grownBy_alloc _ _ _
    exact h0.trans (⟨g3.os, g3.tape, g3.output, g3.size, g3.block⟩ : w1.grownBy w3 (some b))
  have HG := Lib.hid hgw
  have HR := Lib.hid rep3
  have HO3 := Lib.hid ho3
  have HH := Lib.hid (⟨h, hE, hc0, hc2⟩ : _ ∧ _ ∧ _ ∧ _)
  have HKK := Lib.hid hk
  clear rep3 ho3 g3 hc0 hc2 h hE g2 hk l3 hat hgw q0 q1 q2 q3 q4 q5 q6
  have q0 := K3.out.cell (j := 0) rfl
  have q1 := K3.out.cell (j := 1) rfl
  have q2 := K3.out.cell (j := 2) rfl
  have q3 := K3.out.cell (j := 3) rfl
  have q4 := K3.out.cell (j := 4) rfl
  have q5 := K3.out.cell (j := 5) rfl
  have q6 := K3.out.cell (j := 6) rfl
  by_cases hz : c2 = 0
  · have HZ := Lib.hid hz
    have hzb : (c2 == 0) = true := by simpa using hz
    clear hz
    obtain ⟨w4, r5, ho4, ht4⟩ := HO3.out.drop lawK Try.underlying74 HKK.out 0
    have r5' : (Builtin.delete_ #[TM, 76] 0 #[.map (some b), .agg #[.int .i64 e0, .int .i64 e1, .int .i64 e2, .int .i64 e3, .int .i64 e4, .int .i64 e5, .int .i64 e6]]).run Try.prog w3 = .ok (.tuple #[]) w4 := r5
    have HF : Hid (PM H w4 b (n + 1) (addP acc [e0, e1, e2, e3, e4, e5, e6] c)) := by
      obtain ⟨h, hE, hc0, hc2⟩ := HH.out
      obtain ⟨D, ho, hr, hs⟩ := h
      refine ⟨_, ho4, ⟨fun x hx => ?_, fun x hx => ?_⟩, addP_srt hs⟩
      · rw [cf_addP hs]
        by_cases hxe : x = [e0, e1, e2, e3, e4, e5, e6]
        · rw [hxe, atKey_del_same, if_pos rfl, ← hc0, ← hc2, HZ.out]
        · rw [atKey_del_other (fun hkl => hxe (kl_inj hx hE hkl)), HR.out.at_ x hx, if_neg hxe, if_neg hxe, Int.add_zero]
      · rw [cf_addP hs]
        by_cases hxe : x = [e0, e1, e2, e3, e4, e5, e6]
        · rw [hxe, has_del_same, if_pos rfl, ← hc0, ← hc2, HZ.out]; rfl
        · rw [has_del_other (fun hkl => hxe (kl_inj hx hE hkl)), HR.out.has x hx, if_neg hxe, if_neg hxe, Int.add_zero]
    have HG4 := Lib.hid (HG.out.trans ht4.grown)
    clear ho4 ht4 r5
    go_wp2
    go_end0
    exact ⟨rfl, HF.out, HG4.out⟩
  · have HZ := Lib.hid hz
    have hzb : (c2 == 0) = false := by simpa using hz
    clear hz
    have HF : Hid (PM H w3 b (n + 1) (addP acc [e0, e1, e2, e3, e4, e5, e6] c)) := by
      obtain ⟨h, hE, hc0, hc2⟩ := HH.out
      obtain ⟨D, ho, hr, hs⟩ := h
      refine ⟨D3, HO3.out, ⟨fun x hx => ?_, fun x hx => ?_⟩, addP_srt hs⟩
      · rw [HR.out.at_ x hx, cf_addP hs]
        by_cases hxe : x = [e0, e1, e2, e3, e4, e5, e6]
        · rw [if_pos hxe, if_pos hxe, hc2, hc0, hxe]
        · rw [if_neg hxe, if_neg hxe, Int.add_zero]
      · rw [HR.out.has x hx, cf_addP hs]
        by_cases hxe : x = [e0, e1, e2, e3, e4, e5, e6]
        · rw [if_pos hxe, if_pos hxe, hxe, ← hc0, ← hc2]
          exact (decide_eq_true HZ.out).symm
        · rw [if_neg hxe, if_neg hxe, Int.add_zero]
    go_wp2
    go_end0
    exact ⟨rfl, HF.out, HG.out⟩
end Go.Proofs.Ytgbojgmmingfdaa

/- The walk over a polynomial's map. -/
namespace Go.Proofs.Ytgbojgmmingfdaa
open Go.RowKit Go.Maps Go.MapKept Go.WideMaps

section
variable {H : Type} (w : World) {ops : Array Oper} {rest : List Oper} {o : Oper} {a : Act} {Q : Exit → Act → World → Prop}
set_option maxRecDepth 100000 in
theorem wpList_range_poly (hg : o.guard = none) (m : Operand) (hop : o.op = Op.range TM m) (b n : Nat) (acc : List (List Int × Int)) (hm : a.eval m = .map (some b)) (h : PM H w b n acc) (hgood : GoodP acc)
    (hK : ∀ w', PR H w' b w.heap.size n acc [] acc.length → w.grownBy w' none → w'.heap.size = w.heap.size + 1 → wpList Try.prog ops Q rest (a.put o.dst (.pointer (some ⟨w.heap.size, 0, none⟩))) w') :
    wpList Try.prog ops Q (o :: rest) a w := by
  obtain ⟨D, ho, hp, hs⟩ := h
  refine wpList_range_own w hg m TM hop 76 3 lawK Try.underlying73 _ b n D hm ho fun w' hr g1 g2 => ?_
  rw [PM.size ho hp hgood] at hr
  exact hK w' (PR.start hr hp) g1 g2
set_option maxRecDepth 100000 in
theorem wpList_next_poly (hg : o.guard = none) (it : Operand) (hop : o.op = Op.next it false) (b r n : Nat) (acc L : List (List Int × Int)) (cnt : Nat) (hit : a.eval it = .pointer (some ⟨r, 0, none⟩)) (h : PR H w b r n acc L cnt) (hgood : GoodP acc)
    (hDone : cnt = 0 → L.Perm acc → wpList Try.prog ops Q rest (a.put o.dst (.tuple #[.bool false])) w)
    (hMore : ∀ (e : List Int) (c : Int) (w' : World) (cnt' : Nat), (e, c) ∈ acc → PR H w' b r n acc (L ++ [(e, c)]) cnt' → cnt' < cnt → w.grownBy w' (some r) → w'.heap.size = w.heap.size →
      (Instr.entry (.pointer (some ⟨r, 0, none⟩))).run Try.prog w' = .ok (.tuple #[kv e, .int .i64 c]) w' → wpList Try.prog ops Q rest (a.put o.dst (.tuple #[.bool true, kv e, .int .i64 c])) w') :
    wpList Try.prog ops Q (o :: rest) a w := by
  refine wpList_plain hg fun K' hK' => ?_
  unfold Oper.wp
  rcases h.next hgood o.type with ⟨h0, hl, hrun⟩ | ⟨x, w', cnt', hx, hrun, hp, hlt, hgr, hsz, hen⟩
  · simp [execOp, hop, hit, hrun, Result.andThen]
    exact hK' _ _ (hDone h0 hl)
  · simp [execOp, hop, hit, hrun, Result.andThen]
    exact hK' _ _ (hMore x.1 x.2 w' cnt' hx hp hlt hgr hsz hen)
end
theorem PR.left_eq {H : Type} {w : World} {b r n cnt : Nat} {acc L : List (List Int × Int)} (h : PR H w b r n acc L cnt) : w.rangeLeft b r = cnt := by
  obtain ⟨D, left, hr, -⟩ := h
  exact hr.left_eq
end Go.Proofs.Ytgbojgmmingfdaa
