/- Weighted puzzles, plain: how many there are at most, how large a weight is. -/
import Derived.Test.YtnljlophgolejaaPProT
import Derived.Test.YtnljlophgolejaaSeeP
namespace Go.Proofs.Ytnljlophgolejaa
open Go.RowKit

/-- How many there are at most: the last label of a row is given. -/
def frP : Nat → Nat → Nat → Nat
  | 0, _, _ => 1
  | d + 1, r, k => (if k = r then 1 else 3) * frP d (nxR r k) (nxK r k)
theorem spR_fr {wt : Bool} {n : Nat} {a b : List Int} {d r k : Nat} {p : PZ} {left right : Int} (ha : ∀ j, 0 ≤ nth a j ∧ nth a j ≤ 2) (hk : k ≤ r)
    (ih : ∀ (r k : Nat) (left : Int) (p : PZ), 0 ≤ left ∧ left ≤ 2 → k ≤ r → (sp wt n a b d r k left p).length ≤ frP d r k) : (spR wt n a b (sp wt n a b d) r k left p right).length ≤ frP d (nxR r k) (nxK r k) := by
  unfold spR
  split
  · simp
  · split
    · simp
    · unfold spK nxR nxK
      by_cases h : k < r
      · rw [if_pos h, if_neg (show ¬ k = r by omega), if_neg (show ¬ k = r by omega)]
        split
        · next h0 => exact ih _ _ _ _ ⟨h0, downB_le _ _⟩ (by omega)
        · simp
      · rw [if_neg h, if_pos (show k = r by omega), if_pos (show k = r by omega)]
        refine ih _ _ _ _ ?_ (by omega)
        split
        · exact ha _
        · omega
theorem sp_fr {wt : Bool} {n : Nat} {a b : List Int} (ha : ∀ j, 0 ≤ nth a j ∧ nth a j ≤ 2) : ∀ (d r k : Nat) (left : Int) (p : PZ), 0 ≤ left ∧ left ≤ 2 → k ≤ r → (sp wt n a b d r k left p).length ≤ frP d r k := by
  intro d
  induction d with
  | zero => intro r k left p _ _; simp [sp, frP]
  | succ d ih =>
    intro r k left p hl hk
    have key : ∀ right, (spR wt n a b (sp wt n a b d) r k left p right).length ≤ frP d (nxR r k) (nxK r k) := fun right => spR_fr ha hk ih
    have h0 := key 0
    have h1 := key 1
    have h2 := key 2
    rw [sp, frP]
    simp only [List.flatMap_cons, List.flatMap_nil, List.append_nil, List.length_append]
    by_cases e : k = r
    · rw [if_pos e]
      have none : ∀ right, right ≠ nth b r → (spR wt n a b (sp wt n a b d) r k left p right).length = 0 := fun right h => by
        unfold spR
        rw [if_pos ⟨e, h⟩]; rfl
      by_cases e0 : (0 : Int) = nth b r
      · have n1 := none 1 (by omega)
        have n2 := none 2 (by omega)
        omega
      · have n0 := none 0 e0
        by_cases e1 : (1 : Int) = nth b r
        · have n2 := none 2 (by omega)
          omega
        · have n1 := none 1 e1
          omega
    · rw [if_neg e]
      omega
theorem frP_le : ∀ (d r k : Nat), frP d r k ≤ 3 ^ d := by
  intro d
  induction d with
  | zero => intro r k; simp [frP]
  | succ d ih =>
    intro r k
    have := ih (nxR r k) (nxK r k)
    rw [frP, Nat.pow_succ]
    split <;> omega
theorem spAll_len5w {wt : Bool} {a b : List Int} (h : isStrB a = true) (h5 : a.length ≤ 5) : (spAll wt a b).length ≤ 59049 := by
  have h1 : (spAll wt a b).length ≤ frP (tri a.length) 0 0 := sp_fr (str_labels h) _ _ _ _ _ (str_labels h _) (Nat.le_refl _)
  have h2 : ∀ m, m ≤ 5 → frP (tri m) 0 0 ≤ 59049 := by decide
  exact Nat.le_trans h1 (h2 _ h5)

theorem wStep_le {n : Nat} {B Y : List Int} {r k : Nat} {x : Int} {K : Nat} (hb : ∀ j, -9 ≤ nth Y j ∧ nth Y j ≤ 9) (hx : x.natAbs ≤ K) (hK : 18 * K ≤ 9000000000000000000) : (wStep n B Y r k x).natAbs ≤ 18 * K := by
  unfold wStep
  split
  · have h1 := hb (k + n - 1 - r)
    have h2 := hb k
    have h3 : (x * (nth Y (k + n - 1 - r) - nth Y k)).natAbs ≤ K * 18 := by
      rw [Int.natAbs_mul]
      exact Nat.mul_le_mul hx (by omega)
    have h4 : wrap64 (x * (nth Y (k + n - 1 - r) - nth Y k)) = x * (nth Y (k + n - 1 - r) - nth Y k) := by unfold wrap64; omega
    rw [h4]
    omega
  · omega
theorem wRow_le {n : Nat} {B Y : List Int} {r : Nat} {x : Int} {K : Nat} (hb : ∀ j, -9 ≤ nth Y j ∧ nth Y j ≤ 9) (hx : x.natAbs ≤ K) : ∀ m, 18 ^ m * K ≤ 9000000000000000000 → (wRow n B Y r m x).natAbs ≤ 18 ^ m * K
  | 0, _ => by simpa [wRow] using hx
  | m + 1, h => by
    have e : 18 ^ (m + 1) * K = 18 * (18 ^ m * K) := by rw [Nat.pow_succ, Nat.mul_comm (18 ^ m) 18, Nat.mul_assoc]
    rw [e] at h ⊢
    rw [wRow]
    exact wStep_le hb (wRow_le hb hx m (by omega)) h
theorem wAll_le {n : Nat} {B Y : List Int} (hb : ∀ j, -9 ≤ nth Y j ∧ nth Y j ≤ 9) : ∀ r, r ≤ 4 → (wAll n B Y r).natAbs ≤ 18 ^ tri r
  | 0, _ => by simp [wAll, tri]
  | r + 1, h => by
    have ih := wAll_le (n := n) (B := B) hb r (by omega)
    have e : 18 ^ (r + 1) * 18 ^ tri r = 18 ^ tri (r + 1) := by rw [← Nat.pow_add, tri_step, Nat.add_comm]
    rw [wAll, ← e]
    refine wRow_le hb ih (r + 1) ?_
    rw [e]
    have h1 : tri (r + 1) ≤ 10 := Nat.le_trans (tri_mono h) (by decide)
    exact Nat.le_trans (Nat.pow_le_pow_right (by decide) h1) (by decide)
theorem wAll_last {n : Nat} {B Y : List Int} (hn : 1 ≤ n) (h : ∀ k, k < n → nth B (tri (n - 1) + k) ≤ 1) : wAll n B Y n = wAll n B Y (n - 1) := by
  obtain ⟨m, rfl⟩ : ∃ m, n = m + 1 := ⟨n - 1, by omega⟩
  rw [Nat.add_sub_cancel] at h
  rw [Nat.add_sub_cancel, wAll]
  exact wRow_none _ h
/-- The labels at the bottom of a puzzle. -/
theorem okP_last {n : Nat} {p : PZ} (h : okP n p) : ∀ k, k < n → nth p.2.2 (tri (n - 1) + k) ≤ 1 := by
  have hs := isStrB_iff.1 (side_str h)
  have e : (sideB n p.2.2 n).length = n := gen_len _ _
  intro k hk
  have e2 : nth (sideB n p.2.2 n) k = nth p.2.2 (tri (n - 1) + k) := nth_gen hk
  have h2 := hs.2 k (by omega)
  rw [e2] at h2
  omega
/-- The weight of a puzzle. -/
def wtP (n : Nat) (Y : List Int) (p : PZ) : Int := wAll n p.2.2 Y n
theorem shB_in {n : Nat} {Y : List Int} (h : shB (n : Int) Y = true) : n ≤ 5 ∧ Y.length = n ∧ ∀ j, -9 ≤ nth Y j ∧ nth Y j ≤ 9 := by
  unfold shB at h
  simp only [Bool.and_eq_true, decide_eq_true_eq] at h
  refine ⟨by omega, by omega, fun j => ?_⟩
  by_cases hj : j < Y.length
  · exact inB_iff.1 (allB_at h.2.2 hj)
  · rw [nth_ge (by omega)]; omega
theorem wtP_eq {n : Nat} {Y : List Int} {p : PZ} (h : okP n p) : wtP n Y p = wAll n p.2.2 Y (n - 1) := wAll_last (puz_len h).2.1 (okP_last h)
theorem wtP_le {n : Nat} {Y : List Int} {p : PZ} (h : okP n p) (hY : shB (n : Int) Y = true) : -3570467226624 ≤ wtP n Y p ∧ wtP n Y p ≤ 3570467226624 := by
  obtain ⟨h5, -, hb⟩ := shB_in hY
  rw [wtP_eq h]
  have h1 := wAll_le (n := n) (B := p.2.2) hb (n - 1) (by omega)
  have h2 : tri (n - 1) ≤ 10 := Nat.le_trans (tri_mono (show n - 1 ≤ 4 by omega)) (by decide)
  have h3 : 18 ^ tri (n - 1) ≤ 18 ^ 10 := Nat.pow_le_pow_right (by decide) h2
  have h4 : 18 ^ 10 = 3570467226624 := by decide
  omega
end Go.Proofs.Ytnljlophgolejaa

/- The closure of WeightedProduct. -/
namespace Go.Proofs.Ytnljlophgolejaa
open Go.RowKit

/-- The weight of what is a puzzle, 0 of what is none. -/
def wtF (n : Nat) (Y : List Int) (p : PZ) : Int := if puzB (n : Int) p.1 p.2.1 p.2.2 true = true then wtP n Y p else 0
theorem wtF_ok {n : Nat} {Y : List Int} {p : PZ} (h : okP n p) : wtF n Y p = wtP n Y p := by
  exact if_pos h
theorem wtF_le {n : Nat} {Y : List Int} {p : PZ} (hY : shB (n : Int) Y = true) : -3570467226624 ≤ wtF n Y p ∧ wtF n Y p ≤ 3570467226624 := by
  unfold wtF
  split
  · rename_i h; exact wtP_le h hY
  · omega

set_option maxRecDepth 100000 in
set_option maxHeartbeats 1000000 in
theorem seeW_any {w0 w : World} {g gy n ny cy : Nat} {Ay : Option Addr} {Y : List Int} {s : List (List Int × Int)} {O : Nat → Prop} {p : PZ} {B m : Nat} {A1 A2 A3 : Option Addr} {n1 n2 n3 c1 c2 c3 : Nat}
    (hg : w0.heap.size ≤ g) (hgy : gy ≠ g) (hY : shB (n : Int) Y = true) (hy : RI w0 Ay ny Y) (hi : ProI w0 [(gy, 22, .slice Ay ny cy)] g w s O) (hs : ProF 3570467226624 s (m + 1)) (hp : okP n p) (hB : B ≤ w.heap.size)
    (ht : Three w B (.slice A1 n1 c1) (.slice A2 n2 c2) (.slice A3 n3 c3) p.1 p.2.1 p.2.2) :
    Calls Try.prog 71 #[.agg #[.int .i64 (n : Int), .slice A1 n1 c1, .slice A2 n2 c2, .slice A3 n3 c3], .pointer (some ⟨g, 0, none⟩), .pointer (some ⟨gy, 0, none⟩)] w
      (fun e w' => e = .returned (.bool true) ∧ ∃ O' : Nat → Prop, ProI w0 [(gy, 22, .slice Ay ny cy)] g w' (proS n (wtF n Y) s p) O' ∧ (∀ k, O' k → O k ∨ B ≤ k) ∧ Kept O w w') := by
  have hlen := puz_len hp
  have r1 := ht.1.ri
  have r2 := ht.2.1.ri
  have r3 := ht.2.2.1.ri
  have e1 := r1.1
  have e2 := r2.1
  have e3 := r3.1
  obtain ⟨hS, hC, hN, hL⟩ := hs.sum (by omega)
  obtain ⟨v, cells, hO, hbg, hop⟩ := hi.ex
  have hbx := hi.bx _ (List.mem_singleton.2 rfl)
  have hbel := hi.bel
  obtain ⟨A0, n0, c0, rfl, hn0, hc0, hc63⟩ := hop.form
  have hsz := hbel.size
  have hgl := hbg.lt
  have hgyl : gy < w.heap.size := hbx.lt
  have f0 := hbg.cell (j := 0) rfl
  obtain ⟨hn5, hYl, hYb⟩ := shB_in hY
  have hny : ny = n := by rw [← hy.1]; exact hYl
  have hn3 : n3 = tri n := by
    have hq := hp
    unfold okP puzB at hq
    rw [Bool.and_eq_true] at hq
    obtain ⟨-, -, -, h4⟩ := sizesB_iff.1 hq.1
    rw [← e3, h4, Int.toNat_natCast]
  have HX : Hid (∀ x ∈ [(gy, 22, Value.slice Ay ny cy)], x.1 ≠ g ∧ x.2.1 ≠ 62) := fun x hx => by
    rw [List.mem_singleton] at hx
    subst hx
    exact ⟨hgy, show 22 ≠ 62 by decide⟩
  have HBXS := Lib.hid hi.bx
  have HWV : Hid (wtF n Y p = wtP n Y p) := wtF_ok hp
  have hwl := wtF_le (p := p) hY
  obtain ⟨x, hx⟩ : ∃ x, x = wtF n Y p := ⟨_, rfl⟩
  rw [← hx] at hwl
  have HXV := Lib.hid hx
  have HY := Lib.hid hy
  have HP := Lib.hid hp
  have R1 := Lib.hid r1
  have R2 := Lib.hid r2
  have R3 := Lib.hid r3
  have HO := Lib.hid hO
  have HOP := Lib.hid hop
  have HBG := Lib.hid hbg
  have HBX := Lib.hid hbx
  have HC := Lib.hid hC
  have HS := Lib.hid hS
  have HL := Lib.hid hL
  have HBEL := Lib.hid hbel
  have HYB := Lib.hid hYb
  have HN3 := Lib.hid hn3
  have HNY := Lib.hid hny
  have hn1 : n1 ≤ 36 := by omega
  have hn2 : n2 ≤ 36 := by omega
  have hn36 : n3 ≤ 36 := by omega
  have hny5 : ny ≤ 5 := by omega
  clear hi hp hs ht r1 r2 r3 e1 e2 e3 hlen hO hop hbg hC hS hL hbel hbx hY hy hx hYl hYb hny hn3
  go_enter Try.func71, Try.ntmps71
  go_wp2_with fail
  obtain ⟨wb, ewb⟩ : ∃ W : World, W = w.alloc (Obj.cells #[.int .i64 (n : Int), .slice A1 n1 c1, .slice A2 n2 c2, .slice A3 n3 c3] 53) := ⟨_, rfl⟩
  have bb : Below w.heap.size w wb := by rw [ewb]; exact (Below.refl _ _).alloc (Nat.le_refl _) _
  have KB : Hid (BK wb w.heap.size 53 [.int .i64 (n : Int), .slice A1 n1 c1, .slice A2 n2 c2, .slice A3 n3 c3]) := by show BK _ _ _ _; rw [ewb]; exact BK.new w _ _
  have hsb : wb.heap.size = w.heap.size + 1 := by rw [ewb]; simp
  rw [← ewb]
  clear ewb
  refine (iSides_yes c1 c2 c3 n (R1.out.below bb) (R2.out.below bb) (R3.out.below bb) (by omega) (by omega) (by omega) HP.out).mono ?_
  rintro e w1 ⟨A4, n4, c4, A5, n5, c5, A6, n6, c6, rfl, t1, b1'⟩
  have b1 : Below w.heap.size w w1 := bb.trans (b1'.mono (by omega))
  have K1 : Hid (BK w1 w.heap.size 53 _) := KB.out.below b1' (by omega)
  have r6 := t1.2.2.1.ri
  have hn6 : n6 = n := by rw [← r6.1]; exact gen_len _ _
  have hb1 : wb.heap.size ≤ w1.heap.size := b1'.size
  have HB1 := Lib.hid b1
  have R6 := Lib.hid r6
  have hn67 : n6 ≤ 7 := by omega
  have HN6 := Lib.hid hn6
  clear t1 b1' b1 r6 hn6
  go_wp2_with fail
  have hcall := iShapeStr_any c6 R6.out (by omega)
  refine hcall.mono ?_
  clear hcall
  intro e w2 hm
  obtain ⟨A7, n7, c7, he, ho7, r7, hl7', b2⟩ := hm
  clear ho7 hl7'
  subst he
  generalize onesStr _ = k1
  generalize isStrB _ = k2
  have hb2 := b2.size
  have b3 : Below w.heap.size w w2 := HB1.out.trans (b2.mono (by omega))
  have K2 : Hid (BK w2 w.heap.size 53 _) := K1.out.below b2 (by omega)
  have k2 := HBG.out.below b3 hgl
  have ky := HBX.out.below b3 hgyl
  have hn7 : n7 ≤ 1000 := by rw [← r7.1]; exact shapeStr_len _
  have h4 := HOP.out.below b3
  have hb3 := b3.size
  have HS2 : Hid (w2.cell? ⟨g, 0, none⟩ = some (.slice A0 n0 c0) ∧ w2.cell? ⟨gy, 0, none⟩ = some (.slice Ay ny cy) ∧ w2.cell? ⟨w.heap.size, 0, none⟩ = some (.int .i64 (n : Int)) ∧ w2.cell? ⟨w.heap.size, 1, none⟩ = some (.slice A1 n1 c1) ∧ w2.cell? ⟨w.heap.size, 2, none⟩ = some (.slice A2 n2 c2) ∧ w2.cell? ⟨w.heap.size, 3, none⟩ = some (.slice A3 n3 c3)) :=
    ⟨k2.cell (j := 0) rfl, ky.cell (j := 0) rfl, K2.out.four⟩
  have HS3 : Hid (∀ W, Below w2.heap.size w2 W → W.cell? ⟨g, 0, none⟩ = some (.slice A0 n0 c0) ∧ W.cell? ⟨gy, 0, none⟩ = some (.slice Ay ny cy) ∧ W.cell? ⟨w.heap.size, 0, none⟩ = some (.int .i64 (n : Int)) ∧ W.cell? ⟨w.heap.size, 1, none⟩ = some (.slice A1 n1 c1) ∧ W.cell? ⟨w.heap.size, 2, none⟩ = some (.slice A2 n2 c2) ∧ W.cell? ⟨w.heap.size, 3, none⟩ = some (.slice A3 n3 c3)) := fun W b =>
    ⟨(k2.below b (by omega)).cell (j := 0) rfl, (ky.below b (show gy < _ by omega)).cell (j := 0) rfl, (K2.out.below b (by omega)).four⟩
  have HWG : Hid (∀ W, Quiet w2 W → Calls Try.prog 72 #[.agg #[.int .i64 (n : Int), .slice A1 n1 c1, .slice A2 n2 c2, .slice A3 n3 c3], .slice Ay ny cy] W (fun e w' => e = .returned (.int .i64 x) ∧ Below w2.heap.size w2 w')) := fun W q => by
    have bW : Below w2.heap.size w2 W := Quiet.below q
    have hsW := bW.size
    refine (weigh_any c1 c2 c3 cy n (R3.out.below (b3.trans (bW.mono hb3))) (HY.out.below (HBEL.out.trans ((b3.trans (bW.mono hb3)).mono hsz))) hn5 HN3.out HNY.out (fun j _ => HYB.out j)).mono ?_
    rintro e w' ⟨he, hb⟩
    refine ⟨?_, bW.trans (hb.mono hsW)⟩
    rw [he, HXV.out, HWV.out]
    rfl
  have HSM : Hid (∀ W, Below w2.heap.size w2 W → Calls Try.prog 66 #[.slice A0 n0 c0, .slice A7 n7 c7, .int .i64 x] W (fun e w5 => ∃ A8 n8 c8, e = .returned (.slice A8 n8 c8) ∧
      (w5.cell? ⟨g, 0, none⟩ = some (.slice A0 n0 c0) ∧ w5.cell? ⟨gy, 0, none⟩ = some (.slice Ay ny cy) ∧ w5.cell? ⟨w.heap.size, 0, none⟩ = some (.int .i64 (n : Int)) ∧ w5.cell? ⟨w.heap.size, 1, none⟩ = some (.slice A1 n1 c1) ∧ w5.cell? ⟨w.heap.size, 2, none⟩ = some (.slice A2 n2 c2) ∧ w5.cell? ⟨w.heap.size, 3, none⟩ = some (.slice A3 n3 c3)) ∧
      w5.frozen? ⟨g, 0, none⟩ = false ∧ ∃ O' : Nat → Prop, ProI w0 [(gy, 22, .slice Ay ny cy)] g (w5.setCell ⟨g, 0, none⟩ (.slice A8 n8 c8)) (proS n (wtF n Y) s p) O' ∧ (∀ k, O' k → O k ∨ B ≤ k) ∧ Kept O w (w5.setCell ⟨g, 0, none⟩ (.slice A8 n8 c8)))) := fun W bW => by
    have bw := b3.trans (bW.mono hb3)
    have hsW := bW.size
    have h5 := HOP.out.below bw
    refine (summedZ_any c7 x (r7.below bW) (by omega) h5 HS.out HC.out hN (by omega) (h5.leng fun x hx => Nat.le_trans (HL.out x hx) (by omega)) (by omega) (by omega)).mono ?_
    intro e w5 hq
    obtain ⟨v', ⟨rfl, A8, n8, c8, rfl⟩, g5, hfin⟩ := ProI.fin HX.out HO.out ⟨hg, HBG.out⟩ HBXS.out HBEL.out hB bw h5 hq
    obtain ⟨_, _, _, -, gr, -, -⟩ := hq
    have kw := K2.out.below bW (by omega)
    have kyw := ky.below bW (show gy < _ by omega)
    have k5 : BK w5 w.heap.size 53 _ := kw.same (gr.block _ (by omega) fun e => h5.neB kw (by decide) e.symm)
    have ky5 : BK w5 gy 22 _ := kyw.same (gr.block _ (by omega) fun e => h5.neB kyw (by decide) e.symm)
    exact ⟨A8, n8, c8, rfl, ⟨g5.cell (j := 0) rfl, ky5.cell (j := 0) rfl, k5.four⟩, g5.frozen (j := 0), by unfold proS; rw [HXV.out] at hfin; exact hfin⟩
  clear b2 b3 k2 ky h4 r7
  go_wp2_with fail
  obtain ⟨s1, s2, s3, s4, s5, s6⟩ := HS2.out
  go_region_with (first
    | (go_at_call 72; (with_reducible refine (HWG.out _ ?_).mono ?_); (first | exact ⟨1, rfl⟩ | exact ⟨_, rfl⟩ | exact Quiet.refl _); rintro e w3 ⟨rfl, b3⟩; obtain ⟨t1, t2, t3, t4, t5, t6⟩ := HS3.out _ b3)
    | (go_at_call 66; (with_reducible refine (HSM.out _ ?_).mono ?_); (first | exact b3 | exact ⟨b3.os, b3.tape, b3.output, b3.size, b3.block⟩); rintro e w5 ⟨A8, n8, c8, rfl, ⟨r1, r2, r3, r4, r5, r6⟩, z5, hf5⟩))
  all_goals have HF := Lib.hid hf5
  all_goals clear hf5
  all_goals go_wp2
  all_goals go_ret
  all_goals exact ⟨rfl, HF.out⟩

theorem proCW {w0 : World} {g gy n ny cy : Nat} {Ay : Option Addr} {Y : List Int} (hg : w0.heap.size ≤ g) (hgy0 : w0.heap.size ≤ gy) (hgy : gy ≠ g) (hY : shB (n : Int) Y = true) (hy : RI w0 Ay ny Y) :
    Clos Try.prog 71 #[.pointer (some ⟨g, 0, none⟩), .pointer (some ⟨gy, 0, none⟩)] w0.heap.size n (List (List Int × Int)) (ProI w0 [(gy, 22, .slice Ay ny cy)] g) (proS n (wtF n Y)) (fun _ _ => true) (ProF 3570467226624) (okP n) where
  ent := ent_of Try.func71 (by kernel_rfl) rfl
  ge hi k hk := hi.ge hg (fun e h => by rw [List.mem_singleton] at h; rw [h]; exact hgy0) k hk
  keep hi hk := hi.keep hk
  next h _ := h.next (wtF_le hY)
  less h hm := h.less (by omega) hm
  call hi hf hp _ hB _ ht := seeW_any hg hgy hY hy hi hf hp hB ht
end Go.Proofs.Ytnljlophgolejaa
