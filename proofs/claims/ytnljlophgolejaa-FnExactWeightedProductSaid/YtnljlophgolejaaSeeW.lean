/- The closure of WeightedProduct. -/
import Derived.Test.YtnljlophgolejaaSeeP
import Derived.Test.YtnljlophgolejaaWLen
namespace Go.Proofs.Ytnljlophgolejaa
open Go.RowKit

/-- The weight of what is a puzzle, 0 of what is none. -/
def wtF (n : Nat) (Y : List Int) (p : PZ) : Int := if puzB (n : Int) p.1 p.2.1 p.2.2 true = true then wtP n Y p else 0
theorem wtF_ok {n : Nat} {Y : List Int} {p : PZ} (h : okP n p) : wtF n Y p = wtP n Y p := by
  exact if_pos h
theorem wtF_le {n : Nat} {Y : List Int} {p : PZ} (hY : shB (n : Int) Y = true) : -3570467226624 ≤ wtF n Y p ∧ wtF n Y p ≤ 3570467226624 := by
  unfold wtF
  split
  · rename_i h; exact wtP_le h hY
  · omega

set_option maxRecDepth 100000 in
set_option maxHeartbeats 1000000 in
theorem seeW_any {w0 w : World} {g gy n ny cy : Nat} {Ay : Option Addr} {Y : List Int} {s : List (List Int × Int)} {O : Nat → Prop} {p : PZ} {B m : Nat} {A1 A2 A3 : Option Addr} {n1 n2 n3 c1 c2 c3 : Nat}
    (hg : w0.heap.size ≤ g) (hgy : gy ≠ g) (hY : shB (n : Int) Y = true) (hy : RI w0 Ay ny Y) (hi : ProI w0 [(gy, 22, .slice Ay ny cy)] g w s O) (hs : ProF 3570467226624 s (m + 1)) (hp : okP n p) (hB : B ≤ w.heap.size)
    (ht : Three w B (.slice A1 n1 c1) (.slice A2 n2 c2) (.slice A3 n3 c3) p.1 p.2.1 p.2.2) :
    Calls Try.prog 71 #[.agg #[.int .i64 (n : Int), .slice A1 n1 c1, .slice A2 n2 c2, .slice A3 n3 c3], .pointer (some ⟨g, 0, none⟩), .pointer (some ⟨gy, 0, none⟩)] w
      (fun e w' => e = .returned (.bool true) ∧ ∃ O' : Nat → Prop, ProI w0 [(gy, 22, .slice Ay ny cy)] g w' (proS n (wtF n Y) s p) O' ∧ (∀ k, O' k → O k ∨ B ≤ k) ∧ Kept O w w') := by
  have hlen := puz_len hp
  have r1 := ht.1.ri
  have r2 := ht.2.1.ri
  have r3 := ht.2.2.1.ri
  have e1 := r1.1
  have e2 := r2.1
  have e3 := r3.1
  obtain ⟨hS, hC, hN, hL⟩ := hs.sum (by omega)
  obtain ⟨v, cells, hO, hbg, hop⟩ := hi.ex
  have hbx := hi.bx _ (List.mem_singleton.2 rfl)
  have hbel := hi.bel
  obtain ⟨A0, n0, c0, rfl, hn0, hc0, hc63⟩ := hop.form
  have hsz := hbel.size
  have hgl := hbg.lt
  have hgyl : gy < w.heap.size := hbx.lt
  have f0 := hbg.cell (j := 0) rfl
  obtain ⟨hn5, hYl, hYb⟩ := shB_in hY
  have hny : ny = n := by rw [← hy.1]; exact hYl
  have hn3 : n3 = tri n := by
    have hq := hp
    unfold okP puzB at hq
    rw [Bool.and_eq_true] at hq
    obtain ⟨-, -, -, h4⟩ := sizesB_iff.1 hq.1
    rw [← e3, h4, Int.toNat_natCast]
  have HX : Hid (∀ x ∈ [(gy, 22, Value.slice Ay ny cy)], x.1 ≠ g ∧ x.2.1 ≠ 62) := fun x hx => by
    rw [List.mem_singleton] at hx
    subst hx
    exact ⟨hgy, show 22 ≠ 62 by decide⟩
  have HBXS := Lib.hid hi.bx
  have HWV : Hid (wtF n Y p = wtP n Y p) := wtF_ok hp
  have hwl := wtF_le (p := p) hY
  obtain ⟨x, hx⟩ : ∃ x, x = wtF n Y p := ⟨_, rfl⟩
  rw [← hx] at hwl
  have HXV := Lib.hid hx
  have HY := Lib.hid hy
  have HP := Lib.hid hp
  have R1 := Lib.hid r1
  have R2 := Lib.hid r2
  have R3 := Lib.hid r3
  have HO := Lib.hid hO
  have HOP := Lib.hid hop
  have HBG := Lib.hid hbg
  have HBX := Lib.hid hbx
  have HC := Lib.hid hC
  have HS := Lib.hid hS
  have HL := Lib.hid hL
  have HBEL := Lib.hid hbel
  have HYB := Lib.hid hYb
  have HN3 := Lib.hid hn3
  have HNY := Lib.hid hny
  have hn1 : n1 ≤ 36 := by omega
  have hn2 : n2 ≤ 36 := by omega
  have hn36 : n3 ≤ 36 := by omega
  have hny5 : ny ≤ 5 := by omega
  clear hi hp hs ht r1 r2 r3 e1 e2 e3 hlen hO hop hbg hC hS hL hbel hbx hY hy hx hYl hYb hny hn3
  go_enter Try.func71, Try.ntmps71
  go_wp2_with fail
  obtain ⟨wb, ewb⟩ : ∃ W : World, W = w.alloc (Obj.cells #[.int .i64 (n : Int), .slice A1 n1 c1, .slice A2 n2 c2, .slice A3 n3 c3] 53) := ⟨_, rfl⟩
  have bb : Below w.heap.size w wb := by rw [ewb]; exact (Below.refl _ _).alloc (Nat.le_refl _) _
  have KB : Hid (BK wb w.heap.size 53 [.int .i64 (n : Int), .slice A1 n1 c1, .slice A2 n2 c2, .slice A3 n3 c3]) := by show BK _ _ _ _; rw [ewb]; exact BK.new w _ _
  have hsb : wb.heap.size = w.heap.size + 1 := by rw [ewb]; simp
  rw [← ewb]
  clear ewb
  refine (iSides_yes c1 c2 c3 n (R1.out.below bb) (R2.out.below bb) (R3.out.below bb) (by omega) (by omega) (by omega) HP.out).mono ?_
  rintro e w1 ⟨A4, n4, c4, A5, n5, c5, A6, n6, c6, rfl, t1, b1'⟩
  have b1 : Below w.heap.size w w1 := bb.trans (b1'.mono (by omega))
  have K1 : Hid (BK w1 w.heap.size 53 _) := KB.out.below b1' (by omega)
  have r6 := t1.2.2.1.ri
  have hn6 : n6 = n := by rw [← r6.1]; exact gen_len _ _
  have hb1 : wb.heap.size ≤ w1.heap.size := b1'.size
  have HB1 := Lib.hid b1
  have R6 := Lib.hid r6
  have hn67 : n6 ≤ 7 := by omega
  have HN6 := Lib.hid hn6
  clear t1 b1' b1 r6 hn6
  go_wp2_with fail
  have hcall := iShapeStr_any c6 R6.out (by omega)
  refine hcall.mono ?_
  clear hcall
  intro e w2 hm
  obtain ⟨A7, n7, c7, he, ho7, r7, hl7', b2⟩ := hm
  clear ho7 hl7'
  subst he
  generalize onesStr _ = k1
  generalize isStrB _ = k2
  have hb2 := b2.size
  have b3 : Below w.heap.size w w2 := HB1.out.trans (b2.mono (by omega))
  have K2 : Hid (BK w2 w.heap.size 53 _) := K1.out.below b2 (by omega)
  have k2 := HBG.out.below b3 hgl
  have ky := HBX.out.below b3 hgyl
  have hn7 : n7 ≤ 1000 := by rw [← r7.1]; exact shapeStr_len _
  have h4 := HOP.out.below b3
  have hb3 := b3.size
  have HS2 : Hid (w2.cell? ⟨g, 0, none⟩ = some (.slice A0 n0 c0) ∧ w2.cell? ⟨gy, 0, none⟩ = some (.slice Ay ny cy) ∧ w2.cell? ⟨w.heap.size, 0, none⟩ = some (.int .i64 (n : Int)) ∧ w2.cell? ⟨w.heap.size, 1, none⟩ = some (.slice A1 n1 c1) ∧ w2.cell? ⟨w.heap.size, 2, none⟩ = some (.slice A2 n2 c2) ∧ w2.cell? ⟨w.heap.size, 3, none⟩ = some (.slice A3 n3 c3)) :=
    ⟨k2.cell (j := 0) rfl, ky.cell (j := 0) rfl, K2.out.four⟩
  have HS3 : Hid (∀ W, Below w2.heap.size w2 W → W.cell? ⟨g, 0, none⟩ = some (.slice A0 n0 c0) ∧ W.cell? ⟨gy, 0, none⟩ = some (.slice Ay ny cy) ∧ W.cell? ⟨w.heap.size, 0, none⟩ = some (.int .i64 (n : Int)) ∧ W.cell? ⟨w.heap.size, 1, none⟩ = some (.slice A1 n1 c1) ∧ W.cell? ⟨w.heap.size, 2, none⟩ = some (.slice A2 n2 c2) ∧ W.cell? ⟨w.heap.size, 3, none⟩ = some (.slice A3 n3 c3)) := fun W b =>
    ⟨(k2.below b (by omega)).cell (j := 0) rfl, (ky.below b (show gy < _ by omega)).cell (j := 0) rfl, (K2.out.below b (by omega)).four⟩
  have HWG : Hid (∀ W, Quiet w2 W → Calls Try.prog 72 #[.agg #[.int .i64 (n : Int), .slice A1 n1 c1, .slice A2 n2 c2, .slice A3 n3 c3], .slice Ay ny cy] W (fun e w' => e = .returned (.int .i64 x) ∧ Below w2.heap.size w2 w')) := fun W q => by
    have bW : Below w2.heap.size w2 W := Quiet.below q
    have hsW := bW.size
    refine (weigh_any c1 c2 c3 cy n (R3.out.below (b3.trans (bW.mono hb3))) (HY.out.below (HBEL.out.trans ((b3.trans (bW.mono hb3)).mono hsz))) hn5 HN3.out HNY.out (fun j _ => HYB.out j)).mono ?_
    rintro e w' ⟨he, hb⟩
    refine ⟨?_, bW.trans (hb.mono hsW)⟩
    rw [he, HXV.out, HWV.out]
    rfl
  have HSM : Hid (∀ W, Below w2.heap.size w2 W → Calls Try.prog 66 #[.slice A0 n0 c0, .slice A7 n7 c7, .int .i64 x] W (fun e w5 => ∃ A8 n8 c8, e = .returned (.slice A8 n8 c8) ∧
      (w5.cell? ⟨g, 0, none⟩ = some (.slice A0 n0 c0) ∧ w5.cell? ⟨gy, 0, none⟩ = some (.slice Ay ny cy) ∧ w5.cell? ⟨w.heap.size, 0, none⟩ = some (.int .i64 (n : Int)) ∧ w5.cell? ⟨w.heap.size, 1, none⟩ = some (.slice A1 n1 c1) ∧ w5.cell? ⟨w.heap.size, 2, none⟩ = some (.slice A2 n2 c2) ∧ w5.cell? ⟨w.heap.size, 3, none⟩ = some (.slice A3 n3 c3)) ∧
      w5.frozen? ⟨g, 0, none⟩ = false ∧ ∃ O' : Nat → Prop, ProI w0 [(gy, 22, .slice Ay ny cy)] g (w5.setCell ⟨g, 0, none⟩ (.slice A8 n8 c8)) (proS n (wtF n Y) s p) O' ∧ (∀ k, O' k → O k ∨ B ≤ k) ∧ Kept O w (w5.setCell ⟨g, 0, none⟩ (.slice A8 n8 c8)))) := fun W bW => by
    have bw := b3.trans (bW.mono hb3)
    have hsW := bW.size
    have h5 := HOP.out.below bw
    refine (summedZ_any c7 x (r7.below bW) (by omega) h5 HS.out HC.out hN (by omega) (h5.leng fun x hx => Nat.le_trans (HL.out x hx) (by omega)) (by omega) (by omega)).mono ?_
    intro e w5 hq
    obtain ⟨v', ⟨rfl, A8, n8, c8, rfl⟩, g5, hfin⟩ := ProI.fin HX.out HO.out ⟨hg, HBG.out⟩ HBXS.out HBEL.out hB bw h5 hq
    obtain ⟨_, _, _, -, gr, -, -⟩ := hq
    have kw := K2.out.below bW (by omega)
    have kyw := ky.below bW (show gy < _ by omega)
    have k5 : BK w5 w.heap.size 53 _ := kw.same (gr.block _ (by omega) fun e => h5.neB kw (by decide) e.symm)
    have ky5 : BK w5 gy 22 _ := kyw.same (gr.block _ (by omega) fun e => h5.neB kyw (by decide) e.symm)
    exact ⟨A8, n8, c8, rfl, ⟨g5.cell (j := 0) rfl, ky5.cell (j := 0) rfl, k5.four⟩, g5.frozen (j := 0), by unfold proS; rw [HXV.out] at hfin; exact hfin⟩
  clear b2 b3 k2 ky h4 r7
  go_wp2_with fail
  obtain ⟨s1, s2, s3, s4, s5, s6⟩ := HS2.out
  go_region_with (first
    | (go_at_call 72; (with_reducible refine (HWG.out _ ?_).mono ?_); (first | exact ⟨1, rfl⟩ | exact ⟨_, rfl⟩ | exact Quiet.refl _); rintro e w3 ⟨rfl, b3⟩; obtain ⟨t1, t2, t3, t4, t5, t6⟩ := HS3.out _ b3)
    | (go_at_call 66; (with_reducible refine (HSM.out _ ?_).mono ?_); (first | exact b3 | exact ⟨b3.os, b3.tape, b3.output, b3.size, b3.block⟩); rintro e w5 ⟨A8, n8, c8, rfl, ⟨r1, r2, r3, r4, r5, r6⟩, z5, hf5⟩))
  all_goals have HF := Lib.hid hf5
  all_goals clear hf5
  all_goals go_wp2
  all_goals go_ret
  all_goals exact ⟨rfl, HF.out⟩

theorem proCW {w0 : World} {g gy n ny cy : Nat} {Ay : Option Addr} {Y : List Int} (hg : w0.heap.size ≤ g) (hgy0 : w0.heap.size ≤ gy) (hgy : gy ≠ g) (hY : shB (n : Int) Y = true) (hy : RI w0 Ay ny Y) :
    Clos Try.prog 71 #[.pointer (some ⟨g, 0, none⟩), .pointer (some ⟨gy, 0, none⟩)] w0.heap.size n (List (List Int × Int)) (ProI w0 [(gy, 22, .slice Ay ny cy)] g) (proS n (wtF n Y)) (fun _ _ => true) (ProF 3570467226624) (okP n) where
  ent := ent_of Try.func71 (by kernel_rfl) rfl
  ge hi k hk := hi.ge hg (fun e h => by rw [List.mem_singleton] at h; rw [h]; exact hgy0) k hk
  keep hi hk := hi.keep hk
  next h _ := h.next (wtF_le hY)
  less h hm := h.less (by omega) hm
  call hi hf hp _ hB _ ht := seeW_any hg hgy hY hy hi hf hp hB ht
end Go.Proofs.Ytnljlophgolejaa
