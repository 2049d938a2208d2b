/- QuantumProduct of the program (where the reference is not in the seat; QProI with GrI in place of GrW). -/
import Derived.BigRegion
import Derived.Test.YtbemglmnnehllaaQProP
import Derived.Test.YtbemglmnnehllaaQBin
import Derived.Test.YtbemglmnnehllaaQIns
import Derived.Test.YtbemglmnnehllaaQDel
import Derived.Test.YtbemglmnnehllaaWrap
import Derived.Test.YtbemglmnnehllaaGrI
import Derived.Test.YtbemglmnnehllaaWords
namespace Go.Proofs.Ytbemglmnnehllaa
open Go.RowKit

theorem decL_take (ps : List (List Int × Int)) (k : Nat) : decL (ps.take k) = (decL ps).take k := by simp [decL, List.map_take]
theorem decL_drop (ps : List (List Int × Int)) (k : Nat) : decL (ps.drop k) = (decL ps).drop k := by simp [decL, List.map_drop]
theorem putAt_set {α : Type} {ps : List α} {p : Nat} (h : p ≤ ps.length) (x y : α) : (putAt ps p [x]).take p ++ [y] ++ (putAt ps p [x]).drop (p + 1) = putAt ps p [y] := by
  unfold putAt
  have hl : (ps.take p).length = p := by simp; omega
  have e1 : (ps.take p ++ [x] ++ ps.drop p).take p = ps.take p := by
    rw [List.append_assoc, List.take_append_of_le_length (by omega), List.take_of_length_le (by omega)]
  have e2 : (ps.take p ++ [x] ++ ps.drop p).drop (p + 1) = ps.drop p := by
    have h2 : (ps.take p ++ [x]).length = p + 1 := by simp; omega
    rw [List.drop_append_of_le_length (by omega), List.drop_eq_nil_of_le (by omega), List.nil_append]
  rw [e1, e2]
theorem putAt_nth {ps : List QT} {p : Nat} (h : p ≤ ps.length) (x : QT) : nthQ (putAt ps p [x]) p = x := by
  unfold nthQ putAt List.getD
  rw [List.append_assoc, List.getElem?_append_right (by simp; omega)]
  simp
  rw [Nat.min_eq_left h, Nat.sub_self]
  rfl
theorem qF_set {ps : List QT} {p : Nat} (y : Int) (h : p < ps.length) : (qF ps).set (p * 3 + 2) (.inl y) = qF (ps.take p ++ [((nthQ ps p).1, (nthQ ps p).2.1, y)] ++ ps.drop (p + 1)) := by
  induction ps generalizing p with
  | nil => simp at h
  | cons q r ih =>
    cases p with
    | zero => rfl
    | succ p =>
      have e := ih (p := p) (by simpa using h)
      have e1 : (p + 1) * 3 + 2 = p * 3 + 2 + 1 + 1 + 1 := by omega
      have e2 : nthQ (q :: r) (p + 1) = nthQ r p := by simp [nthQ, List.getD]
      rw [e1, e2]
      simp only [qF, List.flatMap_cons, List.take_succ_cons, List.drop_succ_cons, List.cons_append, List.nil_append, List.set_cons_succ] at e ⊢
      rw [e]
theorem set_lenQ (ps : List QT) (p : Nat) (x : QT) (h : p < ps.length) : ps.length = (ps.take p ++ [x] ++ ps.drop (p + 1)).length := by simp; omega
theorem OU.setCount {w : World} {base b g n c p : Nat} {ps : List QT} {cells : List Value} (h : OU w base b (.slice (some ⟨g, 0, none⟩) n c) ps cells) (hp : p < ps.length) (y : Int) :
    OU (w.setCell ⟨g, p * 3 + 2, none⟩ (.int .i64 y)) base b (.slice (some ⟨g, 0, none⟩) n c) (ps.take p ++ [((nthQ ps p).1, (nthQ ps p).2.1, y)] ++ ps.drop (p + 1)) (cells.set (p * 3 + 2) (.int .i64 y)) ∧ w.grownBy (w.setCell ⟨g, p * 3 + 2, none⟩ (.int .i64 y)) (some g) := by
  have hn : n = ps.length := by
    obtain ⟨A, c', hv, _⟩ := OF.form h
    injection hv
  subst hn
  obtain ⟨h1, h2⟩ := OF.setInt h (by decide) (qF_at2 hp) y
  refine ⟨?_, h2⟩
  unfold OU
  rw [← set_lenQ ps p _ hp, ← qF_set y hp]
  exact h1
theorem OU.frozen {w : World} {base b g n c : Nat} {ps : List QT} {cells : List Value} (h : OU w base b (.slice (some ⟨g, 0, none⟩) n c) ps cells) (j : Nat) : w.frozen? ⟨g, j, none⟩ = false := by
  have hn : n = ps.length := by
    obtain ⟨A, c', hv, _⟩ := OF.form h
    injection hv
  subst hn
  exact OF.frozenF h j
theorem decL_found {ps : List (List Int × Int)} {p : Nat} {q n : Int} {t : List Int} (h : p < ps.length) (hk : (nthP ps p).1 = q :: t) (c : Int) : decL (ps.take p ++ [(q :: t, c)] ++ ps.drop (p + 1)) = (decL ps).take p ++ [((nthQ (decL ps) p).1, (nthQ (decL ps) p).2.1, c)] ++ (decL ps).drop (p + 1) := by
  have e : nthP ps p = (q :: t, (nthP ps p).2) := by rw [← hk]
  rw [nthQ_dec h e, decL_append, decL_append, decL_take, decL_drop, decL_one]
theorem decL_put {ps : List (List Int × Int)} {p : Nat} (q n : Int) (t : List Int) : decL (ps.take p ++ [(q :: t, n)] ++ ps.drop p) = putAt (decL ps) p [(q, t, n)] := by
  rw [decL_append, decL_append, decL_take, decL_drop, decL_one]; rfl

set_option maxRecDepth 100000 in
set_option maxHeartbeats 4000000 in
theorem iQPro_no {w : World} {Aa Ab : Option Addr} {na nb ba bb : Nat} {a b : List Int} (ca cb : Nat) (k n : Int) (ha : OI w ba (.slice Aa na ca) a) (hb : OI w bb (.slice Ab nb cb) b) (hna : na ≤ 1000000000) (hnb : nb ≤ 1000000000) (h : qOk a b k n = false) :
    Calls Try.prog 6 #[.slice Aa na ca, .slice Ab nb cb, .int .i64 k, .int .i64 n] w (MakesUb w [] false) := by
  have hax := ha.ri
  have hbx := hb.ri
  have HBA : Hid (∀ W, RI W Aa na a → Calls Try.prog 13 #[.slice Aa na ca, .int .i64 k, .int .i64 n] W (Gives W (.bool (inBoxB a k n)))) := fun W h => iIsInBox_any _ _ _ h hna
  have HBB : Hid (∀ W, RI W Ab nb b → Calls Try.prog 13 #[.slice Ab nb cb, .int .i64 k, .int .i64 n] W (Gives W (.bool (inBoxB b k n)))) := fun W h => iIsInBox_any _ _ _ h hnb
  clear ha hb
  have hc : k = 0 ∨ (k ≠ 0 ∧ inBoxB a k n = false) ∨ (k ≠ 0 ∧ inBoxB a k n = true ∧ inBoxB b k n = false) := by
    by_cases h0 : k = 0
    · exact .inl h0
    · rcases h1 : inBoxB a k n with _ | _
      · exact .inr (.inl ⟨h0, rfl⟩)
      · refine .inr (.inr ⟨h0, rfl, ?_⟩)
        simpa [qOk, h0, h1] using h
  clear h
  rcases hc with rfl | ⟨h0, h1⟩ | ⟨h0, h1, h2⟩
  · go_enter Try.func6, Try.ntmps6
    go_wp2
    go_ret2
    exact MakesUb.of (OU.nil_ _ _ _) (by first | exact Below.refl _ _ | exact Quiet.below ⟨_, rfl⟩)
  · have hk : (k == 0) = false := by simpa using h0
    rw [h1] at HBA
    go_enter Try.func6, Try.ntmps6
    go_wp2_with (first | (go_at_call 13; (with_reducible refine (HBA.out _ ?_).mono ?_); (first | exact hax | exact hax.drewN _); rintro e w' ⟨rfl, q0, rfl⟩) | (go_at_call 13; (with_reducible refine (HBB.out _ ?_).mono ?_); (first | exact hbx | exact hbx.drewN _); rintro e w' ⟨rfl, q1, rfl⟩))
    go_ret2
    exact MakesUb.of (OU.nil_ _ _ _) (by first | exact Below.refl _ _ | exact Quiet.below ⟨_, rfl⟩)
  · have hk : (k == 0) = false := by simpa using h0
    rw [h1] at HBA
    rw [h2] at HBB
    go_enter Try.func6, Try.ntmps6
    go_wp2_with (first | (go_at_call 13; (with_reducible refine (HBA.out _ ?_).mono ?_); (first | exact hax | exact hax.drewN _); rintro e w' ⟨rfl, q0, rfl⟩) | (go_at_call 13; (with_reducible refine (HBB.out _ ?_).mono ?_); (first | exact hbx | exact hbx.drewN _); rintro e w' ⟨rfl, q1, rfl⟩))
    go_ret2
    exact MakesUb.of (OU.nil_ _ _ _) (by first | exact Below.refl _ _ | exact Quiet.below ⟨_, rfl⟩)

set_option maxRecDepth 100000 in
set_option maxHeartbeats 8000000 in
theorem iQPro_yes {w : World} {Aa Ab : Option Addr} {na nb ba bb K M N : Nat} {a b : List Int} (ca cb : Nat) (ha : OI w ba (.slice Aa na ca) a) (hb : OI w bb (.slice Ab nb cb) b) (hna : na ≤ 1000000000) (hnb : nb ≤ 1000000000) (h1 : inBoxB a K N = true) (h2 : inBoxB b K N = true) (hA : SD a K M) (hB : SD b K M) (hKM : K + M ≤ 7) (hN : N = K + M) (hK : 1 ≤ K) :
    Calls Try.prog 6 #[.slice Aa na ca, .slice Ab nb cb, .int .i64 (K : Int), .int .i64 (N : Int)] w (MakesUb w (decL (nz (qImp (fillB a b K 14) K N (fillB a b K 14).length))) true) := by
  have hax := ha.ri
  have hbx := hb.ri
  have HBA : Hid (∀ W, RI W Aa na a → Calls Try.prog 13 #[.slice Aa na ca, .int .i64 K, .int .i64 N] W (Gives W (.bool true))) := fun W h => by have := iIsInBox_any ca (K : Int) (N : Int) h hna; rwa [h1] at this
  have HBB : Hid (∀ W, RI W Ab nb b → Calls Try.prog 13 #[.slice Ab nb cb, .int .i64 K, .int .i64 N] W (Gives W (.bool true))) := fun W h => by have := iIsInBox_any cb (K : Int) (N : Int) h hnb; rwa [h2] at this
  have hk : (((K : Nat) : Int) == 0) = false := by simp; omega
  have hK0 : ¬ (K : Int) = 0 := by omega
  obtain ⟨hw0, hsh⟩ := fill_shapes hA hB hKM
  have hKb := hB.len
  have HFL : Hid (∀ W : World, Below w.heap.size w W → Calls Try.prog 14 #[.slice Aa na ca, .slice Ab nb cb, .int .i64 (K : Int), .int .i64 14] W (MakesP W (fillB a b K 14))) := fun W bW => by
    have h3 := fillings_any (rows := K) (most := 14) (a := a) (bs := natsOf b) (w := W) ca cb (hax.below bW) (by rw [fI_nats hB.lo]; exact RT.of_OI (OI.below hb bW)) hb.caps.1 hb.caps.2 (by omega) (by rw [← hax.1]; exact hA.len) (by omega) (fun j => by have h1 := hA.lo j; have h2 := hA.top j; omega) (fun c hc => by have := hB.nats c hc; omega) (by rw [fI_nats hB.lo]; exact Nat.le_trans (box_len hB hKM) (by omega))
    rw [fI_nats hB.lo] at h3
    exact h3
  obtain ⟨L, hL⟩ : ∃ L, L = fillB a b K 14 := ⟨_, rfl⟩
  rw [← hL] at HFL hw0 hsh ⊢
  have HWT := Lib.hid hw0
  have HSH := Lib.hid hsh
  have HLL := hw0.len
  have hN7 : N ≤ 7 := by omega
  have hKN : K ≤ N := by omega
  clear ha hb hA hB hL hw0 hsh h1 h2 hN
  go_enter Try.func6, Try.ntmps6
  go_wp2_with (first | (go_at_call 13; (with_reducible refine (HBA.out _ ?_).mono ?_); (first | exact hax | exact hax.drewN _); rintro e w' ⟨rfl, q0, rfl⟩) | (go_at_call 13; (with_reducible refine (HBB.out _ ?_).mono ?_); (first | exact hbx | exact hbx.drewN _); rintro e w' ⟨rfl, q1, rfl⟩))
  obtain ⟨wa, hwa⟩ : ∃ wa, wa = (w.drewN (q0 + q1)).alloc (.cells #[] 44) := ⟨_, rfl⟩
  have HUA : Hid (OU wa w.heap.size w.heap.size (.slice (some ⟨w.heap.size, 0, none⟩) 0 0) (decL (qImp L K N 0)) []) := by show OU _ _ _ _ _ _; rw [hwa]; exact OU.lit _ _ _ (by simp)
  have hba : Below w.heap.size w wa := by rw [hwa]; exact (Quiet.below ⟨_, rfl⟩ : Below w.heap.size w (w.drewN (q0 + q1))).alloc (by simp) _
  have HBA2 := Lib.hid hba
  have hsa := hba.size
  rw [← hwa]
  clear hwa
  refine (HFL.out _ hba).mono ?_
  rintro e w1 ⟨A1, n1, c1, csL, rfl, o1, l1, ⟨cp1, le1⟩, bl1⟩
  have HB1 := Lib.hid bl1
  have HO1 := Lib.hid o1
  have HL1 := Lib.hid l1
  have hs1 := bl1.size
  have hn1 : n1 ≤ 20000000 := by omega
  have HQ : Hid (∀ z, z ≤ n1 → QIn (qImp L K N z) 20000000 ∧ (qImp L K N z).length ≤ z) := fun z hz => by
    have h := qImp_in (K := K) (N := N) (by omega) (by omega) HWT.out.pos (fun x hx => (HSH.out x hx).1) z (by rw [HL1.out]; exact hz)
    exact ⟨h.1.mono (Int.le_trans (total_part HWT.out.pos z).2 HWT.out.tot), h.2⟩
  have HU1 := Lib.hid (HUA.out.below bl1)
  clear o1 l1 bl1 hba
  go_wp2
  go_loopw [10, 12, 13, 14, 15, 16, 39] (fun u _ _ _ _ _ i wr => ∃ (z : Nat) (cs : List Value), z ≤ n1 ∧ i = .int .i64 (z : Int) ∧ OU wr w.heap.size w.heap.size u (decL (qImp L K N z)) cs ∧ w1.grownBy wr (some w.heap.size) ∧ From w1 (.slice (some ⟨w.heap.size, 0, none⟩) 0 0) u) (fun _ _ _ _ _ _ i _ => n1 - (intOf i).toNat)
  case atStart => exact ⟨0, [], Nat.zero_le _, rfl, HU1.out, World.grownBy.refl _ _, From.refl _ _⟩
  case round =>
    obtain ⟨z, cs, hz, rfl, ho, hg, hf⟩ := hrel
    by_cases hlt : z < n1
    · have hzl : z < L.length := by rw [HL1.out]; exact hlt
      have hL2 := OF.kept HO1.out hg (OF.apart HUA.out HO1.out (Nat.le_refl _)) (OF.typed' HU1.out (by decide))
      obtain ⟨G0, cc, hGG, _⟩ := OF.shape hL2 (by rw [HL1.out]; omega)
      obtain ⟨rfl, e2, e3⟩ := slice_inj hGG
      clear e2 e3 hGG
      obtain ⟨A4, n4, c4, k1, _, k2, k3, k4⟩ := OP.cell hL2 (k := z) hzl
      have hmem := nthP_mem hzl
      obtain ⟨x, hx⟩ : ∃ x, x = nthP L z := ⟨_, rfl⟩
      rw [← hx] at k2 k4 hmem
      have HXX := Lib.hid hx
      obtain ⟨hsx, hlx⟩ := HSH.out x hmem
      have hcx := HWT.out.cnt x hmem
      have hxl := k2.ri.1
      rw [hxl] at hlx
      obtain ⟨qi, ql⟩ := HQ.out z (by omega)
      have HQI := Lib.hid qi
      have HQL := Lib.hid ql
      obtain ⟨ps, hps⟩ : ∃ ps, ps = qImp L K N z := ⟨_, rfl⟩
      have HPS := Lib.hid hps
      rw [← hps] at ho HQI HQL
      obtain ⟨r, hr⟩ : ∃ r, r = reduceW x.1 K N := ⟨_, rfl⟩
      have HR := Lib.hid hr
      have hrr := reduce_range (x := x) (K := K) (N := N) hsx (by omega) (by omega)
      rw [← hr] at hrr
      obtain ⟨⟨hr1, hr2⟩, hr3⟩ := hrr
      have HWR : Hid (∀ X : World, Below wr.heap.size wr X → Calls Try.prog 15 #[.slice A4 n4 c4, .int .i64 (K : Int), .int .i64 (N : Int)] X (MakesWb X r.1 r.2.1 r.2.2 (difW x K N))) := fun X bX => by
        have h := iWrap_any c4 (K : Int) (N : Int) (k2.ri.below bX) (by omega)
        have hok : wrapOk x.1 K N = true := wrapOk_iff.2 ⟨hsx, by omega, by omega, by rw [hxl]; omega⟩
        rw [wrapB_yes hok, ← hr] at h
        exact h
      obtain ⟨gp, hgp⟩ : ∃ gp, gp = wr.heap.size := ⟨_, rfl⟩
      have HGP := Lib.hid hgp
      obtain ⟨W1, hW1⟩ : ∃ W1, W1 = wr.alloc (.cells #[.slice A4 n4 c4, .int .i64 x.2] 42) := ⟨_, rfl⟩
      have HW1 := Lib.hid hW1
      have kbp : BK W1 gp 42 [.slice A4 n4 c4, .int .i64 x.2] := by rw [hW1, hgp]; exact BK.new wr _ _
      have kp0 := kbp.cell (j := 0) rfl
      have KBP := Lib.hid kbp
      have HO := Lib.hid ho
      have HG := Lib.hid hg
      have HF0 := Lib.hid hf
      clear k2 hx hr ho hg hf hW1 kbp hps qi ql hsx hL2
      go_wp2_with fail
      refine (HWR.out _ ((Below.refl _ _).alloc (Nat.le_refl _) _)).mono ?_
      rw [← HW1.out]
      rintro e w2 ⟨A5, n5, c5, rfl, o5, le5, b5⟩
      have bw1 : Below wr.heap.size wr W1 := by rw [HW1.out]; exact (Below.refl _ _).alloc (Nat.le_refl _) _
      have b2 : Below wr.heap.size wr w2 := bw1.trans (b5.mono bw1.size)
      have HB2 := Lib.hid b2
      have HO5 := Lib.hid o5
      have KBP2 := Lib.hid (KBP.out.below b5 KBP.out.lt)
      have hsz2 := b2.size
      have hszW := HW1.out
      clear b5 bw1 b2 o5
      obtain ⟨A0, n0, c0, rfl, hn0, hc0, hc63⟩ := HO.out.form
      rw [decL_len] at hn0
      have HN0 := Lib.hid hn0
      have hn0' : n0 ≤ 20000000 := by rw [← hn0]; have := HQL.out; omega
      obtain ⟨gx, hgx⟩ : ∃ gx, gx = w2.heap.size := ⟨_, rfl⟩
      have HGX := Lib.hid hgx
      obtain ⟨W3, hW3⟩ : ∃ W3, W3 = w2.alloc (.cells #[.int .i64 r.1, .slice A5 n5 c5, .int .i64 r.2.2] 44) := ⟨_, rfl⟩
      have HW3 := Lib.hid hW3
      have kbx : BK W3 gx 44 [.int .i64 r.1, .slice A5 n5 c5, .int .i64 r.2.2] := by rw [hW3, hgx]; exact BK.new w2 _ _
      have hb23 : Below w2.heap.size w2 W3 := by rw [hW3]; exact (Below.refl _ _).alloc (Nat.le_refl _) _
      have b3 : Below wr.heap.size wr W3 := HB2.out.trans (hb23.mono hsz2)
      have KBX := Lib.hid kbx
      have kx0 := kbx.cell (j := 0) rfl
      have kx1 := kbx.cell (j := 1) rfl
      have kx2 := kbx.cell (j := 2) rfl
      have KBP3 := Lib.hid (KBP2.out.below hb23 KBP2.out.lt)
      have HO53 := Lib.hid (OI.below HO5.out hb23)
      have HB3 := Lib.hid b3
      have hsz3 := b3.size
      clear hn0 hW3 kbx hb23 b3 hszW
      rcases hd : difW x K N with _ | _
      · -- two numbers alike: on
        have HF : Hid (OU W3 w.heap.size w.heap.size (.slice A0 n0 c0) (decL (qImp L K N (z + 1))) cs ∧ w1.grownBy W3 (some w.heap.size)) := by
          refine ⟨?_, grown_below HG.out HB3.out⟩
          rw [qImp_no (by rw [← HXX.out]; exact hd), ← HPS.out]
          exact HO.out.below HB3.out
        go_wp2
        rw [← HW3.out]
        go_roundw
        case rel => exact ⟨z + 1, cs, by omega, by go_num, HF.out.1, HF.out.2, HF0.out⟩
        case measure => simp [intOf]; omega
      · obtain ⟨p, hp⟩ := place_of ps HQI.out.srt (r.1 :: r.2.1)
        have HP := Lib.hid hp
        have hple := hp.le
        rw [HN0.out] at hple
        have hl5 : n5 ≤ 1000000 := by rw [← HO5.out.ri.1]; omega
        have HBQ : Hid (∀ X : World, Below W3.heap.size W3 X → Calls Try.prog 16 #[.slice A0 n0 c0, .agg #[.int .i64 r.1, .slice A5 n5 c5, .int .i64 r.2.2], .func (.func 17) #[] #[]] X
            (fun e w' => e = .returned (.tuple #[.int .i64 (p : Int), .bool (fndB ps (r.1 :: r.2.1) p)]) ∧ Below X.heap.size X w')) := fun X bX =>
          binQ_any c0 c5 ((HO.out.below HB3.out).below bX) HQI.out.key (HO53.out.ri.below bX) HP.out (by omega) (by omega) (fun k hk => by
            have h1 := HQI.out.short _ (nthP_mem hk)
            have h2 := HQI.out.pow _ (nthP_mem hk)
            refine ⟨by omega, fun q t c e => ?_⟩
            rw [e] at h2
            simp only [List.headD_cons] at h2
            omega) (by omega)
        obtain ⟨Y, hY⟩ : ∃ Y, Y = r.2.2 * x.2 := ⟨_, rfl⟩
        have hYc : Y = cntW x K N := by rw [hY, HR.out]; rfl
        have hYr := cnt_range (K := K) (N := N) hcx.1
        rw [← hYc] at hYr
        have HYC := Lib.hid hYc
        have hw : IntKind.i64.wrap (r.2.2 * x.2) = Y := by rw [← hY]; exact IntWalk.i64_in _ (by omega)
        have HIM : Hid (qImp L K N (z + 1) = insZ ps (r.1 :: r.2.1) Y) := by
          show _ = _
          rw [qImp_yes (by rw [← HXX.out]; exact hd), ← HXX.out, ← HPS.out, ← hYc, keyW, ← HR.out]
        clear hY hYc hd hp
        rcases hf : fndB ps (r.1 :: r.2.1) p with _ | _
        · have hfn := fnd_no hf
          rw [hf] at HBQ
          go_wp2_with fail
          rw [← HW3.out]
          refine (HBQ.out _ (Below.refl _ _)).mono ?_
          rintro e w4 ⟨rfl, b4⟩
          have ho4 := (HO.out.below HB3.out).below b4
          have hs4 := b4.size
          have hu4 : OI w4 w.heap.size (.slice A5 n5 c5) r.2.1 := (OI.below HO53.out b4).mono (by rw [HW1.out]; simp; have := HG.out.size; omega)
          have KX4 := Lib.hid (KBX.out.below b4 KBX.out.lt)
          have KP4 := Lib.hid (KBP3.out.below b4 KBP3.out.lt)
          have hx0 := KX4.out.cell (j := 0) rfl
          have hx1 := KX4.out.cell (j := 1) rfl
          rw [HGX.out] at hx0 hx1
          have hap : ∀ u' ∈ cs, u'.ownBlock = none ∨ u'.ownBlock ≠ Value.ownBlock (.slice A5 n5 c5) := by
            intro u' hu'
            have hin := FRs.in_ HO.out.2.1 u' hu'
            rcases hk : u'.ownBlock with _ | k
            · exact .inl rfl
            · refine .inr fun e => ?_
              have h1 := hin k hk
              have h2 := (HO5.out.lt k e.symm).1
              rw [HW1.out] at h2
              simp at h2
              omega
          have HINS := Lib.hid (insertU_any (i := p) (px := r.1) (y := 0) c0 ho4 hu4 hap hple (by omega) (by have := HG.out.size; omega))
          have HB4 := Lib.hid (HB3.out.trans (b4.mono hsz3))
          have HS4 := Lib.hid hs4
          clear ho4 hu4 hap b4 hf
          go_wp2_with fail
          refine HINS.out.mono ?_
          rintro e w5 ⟨v5, cs5, rfl, o5, gr5, f5⟩
          obtain ⟨A6, m6, c6, rfl, hm6, hc6, hc66⟩ := o5.form
          have hm6' : m6 = n0 + 1 := by rw [← hm6, putAt_len _ _ _ (by rw [decL_len, HN0.out]; exact hple), decL_len, HN0.out]; rfl
          subst hm6'
          obtain ⟨G, cc, hGG, hGb, hGlt⟩ := OF.shape o5 (by rw [hm6]; omega)
          obtain ⟨rfl, e2, e3⟩ := slice_inj hGG
          clear e2 e3 hGG
          have hpl5 : p < (putAt (decL ps) p [(r.1, r.2.1, (0 : Int))]).length := by rw [hm6]; omega
          obtain ⟨A7, n7, c7, _, _, _, _, _, m4⟩ := OU.cell o5 hpl5
          rw [putAt_nth (by rw [decL_len, HN0.out]; exact hple)] at m4
          have hfz := OU.frozen o5 (p * 3 + 2)
          have hub : ∀ g, g < w4.heap.size → wr.heap.size ≤ g → some g ≠ Value.ownBlock (.slice A0 n0 c0) := fun g _ hg e => by
            have := (OF.lt HO.out g e.symm).2
            omega
          have kx5 : BK w5 gx 44 [.int .i64 r.1, .slice A5 n5 c5, .int .i64 r.2.2] := (gr5.block gx (by simp; have := KX4.out.lt; omega) (hub gx KX4.out.lt (by rw [HGX.out]; exact HB2.out.size))).trans (KX4.out.alloc _)
          have kp5 : BK w5 gp 42 [.slice A4 n4 c4, .int .i64 x.2] := (gr5.block gp (by simp; have := KP4.out.lt; omega) (hub gp KP4.out.lt (by rw [HGP.out]; exact Nat.le_refl _))).trans (KP4.out.alloc _)
          have hx2 := kx5.cell (j := 2) rfl
          have hp1 := kp5.cell (j := 1) rfl
          rw [HGX.out] at hx2
          rw [HGP.out] at hp1
          obtain ⟨o6, gr6⟩ := OU.setCount o5 hpl5 Y
          have hF6 : From w1 (.slice (some ⟨w.heap.size, 0, none⟩) 0 0) (.slice (some ⟨G, 0, none⟩) (n0 + 1) c6) := HF0.out.next (by have := HG.out.size; have := HB4.out.size; simp; omega) f5
          have g45 : w1.grownBy w5 (some w.heap.size) := by
            refine grown_step (grown_alloc (grown_below HG.out HB4.out) _) gr5 ?_
            exact HF0.out
          have HF : Hid (OU (w5.setCell ⟨G, p * 3 + 2, none⟩ (.int .i64 Y)) w.heap.size w.heap.size (.slice (some ⟨G, 0, none⟩) (n0 + 1) c6) (decL (qImp L K N (z + 1))) (cs5.set (p * 3 + 2) (.int .i64 Y)) ∧ w1.grownBy (w5.setCell ⟨G, p * 3 + 2, none⟩ (.int .i64 Y)) (some w.heap.size) ∧ From w1 (.slice (some ⟨w.heap.size, 0, none⟩) 0 0) (.slice (some ⟨G, 0, none⟩) (n0 + 1) c6)) := by
            refine ⟨?_, grown_step g45 gr6 hF6, hF6⟩
            rw [putAt_nth (by rw [decL_len, HN0.out]; exact hple), putAt_set (by rw [decL_len, HN0.out]; exact hple)] at o6
            rw [HIM.out, insZ_new HP.out hfn, decL_put]
            exact o6
          have hpn : p < n0 + 1 := by omega
          clear o6 gr6 g45 hF6 f5 gr5 kx5 kp5 o5 hub hfn
          go_wp2_with fail
          go_region
          go_wp2
          go_roundw
          case rel => exact ⟨z + 1, _, by omega, by go_num, HF.out.1, grown_below HF.out.2.1 ⟨rfl, rfl, rfl, Nat.le_refl _, fun _ _ => rfl⟩, HF.out.2.2⟩
          case measure => simp [intOf]; omega
        · obtain ⟨hpl, hpe⟩ := fnd_yes hf
          rw [hf] at HBQ
          go_wp2_with fail
          rw [← HW3.out]
          refine (HBQ.out _ (Below.refl _ _)).mono ?_
          rintro e w4 ⟨rfl, b4⟩
          have ho4 := (HO.out.below HB3.out).below b4
          have kx4 := (KBX.out.below b4 KBX.out.lt).cell (j := 2) rfl
          have kp4 := (KBP3.out.below b4 KBP3.out.lt).cell (j := 1) rfl
          rw [HGX.out] at kx4
          rw [HGP.out] at kp4
          obtain ⟨G, cc, hGG, hGb, hGlt⟩ := OF.shape ho4 (by rw [decL_len]; omega)
          obtain ⟨rfl, e2, e3⟩ := slice_inj hGG
          clear e2 e3 hGG
          obtain ⟨A6, n6, c6, _, _, _, _, _, m4⟩ := OU.cell ho4 (k := p) (by rw [decL_len]; exact hpl)
          obtain ⟨cv, hcv⟩ : ∃ cv, cv = (nthP ps p).2 := ⟨_, rfl⟩
          have hnq := nthQ_dec (ps := ps) (k := p) (q := r.1) (t := r.2.1) (cn := cv) hpl (by rw [← hpe, hcv])
          rw [hnq] at m4
          have hcr := HQI.out.cnt _ (nthP_mem hpl)
          rw [← hcv] at hcr
          have hfz := OU.frozen ho4 (p * 3 + 2)
          obtain ⟨o6, gr6⟩ := OU.setCount ho4 (p := p) (by rw [decL_len]; exact hpl) (cv + Y)
          have HF : Hid (OU (w4.setCell ⟨G, p * 3 + 2, none⟩ (.int .i64 (cv + Y))) w.heap.size w.heap.size (.slice (some ⟨G, 0, none⟩) n0 c0) (decL (qImp L K N (z + 1))) (cs.set (p * 3 + 2) (.int .i64 (cv + Y))) ∧ w1.grownBy (w4.setCell ⟨G, p * 3 + 2, none⟩ (.int .i64 (cv + Y))) (some w.heap.size)) := by
            refine ⟨?_, grown_step (grown_below HG.out (HB3.out.trans (b4.mono hsz3))) gr6 HF0.out⟩
            rw [HIM.out, insZ_found HP.out.lo hpl hpe, ← hcv, decL_found (n := cv) hpl hpe]
            exact o6
          have hw2 : IntKind.i64.wrap (cv + Y) = cv + Y := IntWalk.i64_in _ (by omega)
          have hpn : p < n0 := by rw [← HN0.out]; exact hpl
          clear o6 gr6 hcv hnq hpl hpe hf ho4 b4
          go_wp2_with fail
          go_region
          go_wp2
          go_roundw
          case rel => exact ⟨z + 1, _, by omega, by go_num, HF.out.1, grown_below HF.out.2 ⟨rfl, rfl, rfl, Nat.le_refl _, fun _ _ => rfl⟩, HF0.out⟩
          case measure => simp [intOf]; omega
    · obtain rfl : z = n1 := by omega
      obtain ⟨A0, n0, c0, rfl, hn0, hc0, hc63⟩ := ho.form
      rw [decL_len] at hn0
      have hql := (HQ.out z (Nat.le_refl _)).2
      rw [hn0] at hql
      have HDEL := Lib.hid (delete_any c0 ho (by omega))
      have b0 : Below w.heap.size w w1 := HBA2.out.trans (HB1.out.mono hsa)
      have HBR : Hid (Below w.heap.size w wr) := b0.grown hg (by first | exact b0.size | exact Nat.le_refl _) (fun k hk => by injection hk with hk; omega)
      have HLT : Hid (∀ k, Value.ownBlock (.slice A0 n0 c0) = some k → w.heap.size ≤ k) := fun k hk => (OF.lt ho k hk).1
      have HFIN : Hid (nzQ (decL (qImp L K N z)) = decL (nz (qImp L K N L.length))) := by show _ = _; rw [nzQ_dec, HL1.out]
      clear ho hg hf b0 hn0
      go_wp2_with fail
      refine HDEL.out.mono ?_
      rintro e w5 ⟨v5, cs5, rfl, o5, g5⟩
      have HF : Hid (OU w5 w.heap.size w.heap.size v5 (decL (nz (qImp L K N L.length))) cs5 ∧ Below w.heap.size w w5) := ⟨by rw [← HFIN.out]; exact o5, HBR.out.grown g5 (by first | exact HBR.out.size | exact Nat.le_refl _) HLT.out⟩
      clear o5 g5
      go_wp2
      go_ret2
      exact MakesUb.of HF.out.1 HF.out.2
theorem iQPro_any {w : World} {Aa Ab : Option Addr} {na nb ba bb : Nat} {a b : List Int} (ca cb : Nat) (k n : Int) (ha : OI w ba (.slice Aa na ca) a) (hb : OI w bb (.slice Ab nb cb) b) (hna : na ≤ 1000000000) (hnb : nb ≤ 1000000000) :
    Calls Try.prog 6 #[.slice Aa na ca, .slice Ab nb cb, .int .i64 k, .int .i64 n] w (MakesUb w (decL (qpB a b k n)) (qOk a b k n)) := by
  rcases h : qOk a b k n with _ | _
  · rw [qpB_no h]
    exact iQPro_no ca cb k n ha hb hna hnb h
  · have h' := h
    simp only [qOk, Bool.and_eq_true, Bool.not_eq_true', decide_eq_false_iff_not] at h
    obtain ⟨h1, h2, h3⟩ := h
    obtain ⟨K, M, rfl, hn, hKM, hA⟩ := box_split h1
    obtain ⟨N, rfl⟩ : ∃ N : Nat, n = (N : Int) := ⟨K + M, by omega⟩
    have hN : N = K + M := by omega
    have hB : SD b K M := SD.box (by rw [← hn]; exact h2)
    obtain ⟨hw0, hsh⟩ := fill_shapes hA hB hKM
    rw [qpB_yes h', qSpe_nz (by omega) (by omega) hw0.pos (fun x hx => (hsh x hx).1) _ (Nat.le_refl _)]
    exact iQPro_yes ca cb ha hb hna hnb h1 h2 hA hB hKM hN (by omega)
end Go.Proofs.Ytbemglmnnehllaa
