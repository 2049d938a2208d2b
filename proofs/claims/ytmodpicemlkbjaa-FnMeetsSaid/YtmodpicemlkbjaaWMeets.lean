/- The walk of FnMeets. -/
import Derived.Test.YtmodpicemlkbjaaMeetP
import Derived.Test.YtmodpicemlkbjaaInterT
import Derived.Test.YtmodpicemlkbjaaLawF
import Derived.ShutString
import Derived.ChangeOld
namespace Go.Proofs.Ytmodpicemlkbjaa.lawMeets
open Go.ChangeShapes Go.WideShapes Go.ChangeAt Go.RowKit
open Go.ChangeMaps (open_string shut_string)

theorem three_rows {w : World} {base : Nat} {u v x : Value} {a b c : List Int} (ha : OI w base u a) (hb : OI w base v b) (hc : OI w base x c) (h1 : u.ownBlock = none ∨ u.ownBlock ≠ v.ownBlock) (h2 : u.ownBlock = none ∨ u.ownBlock ≠ x.ownBlock) (h3 : v.ownBlock = none ∨ v.ownBlock ≠ x.ownBlock) (hs : base ≤ w.heap.size) :
    OS (w.alloc (.cells #[u, v, x] 30)) base base (.slice (some ⟨w.heap.size, 0, none⟩) 3 3) [a, b, c] [u, v, x] := by
  have hf : FRs w base (rows [a, b, c]) [u, v, x] := FRs.append (fs := [.inr a]) (fs2 := [.inr b, .inr c]) (cells := [u]) (news := [v, x]) (FRs.one_ (x := .inr a) ha) (FRs.append (fs := [.inr b]) (fs2 := [.inr c]) (cells := [v]) (news := [x]) (FRs.one_ (x := .inr b) hb) (FRs.one_ (x := .inr c) hc))
  have hd : Dist [u, v, x] := Dist.append (cells := [u]) (news := [v, x]) (Dist.one u) (Dist.append (cells := [v]) (news := [x]) (Dist.one v) (Dist.one x) fun p hp q hq => by
    simp only [List.mem_singleton] at hp hq
    subst hp hq
    exact h3) fun p hp q hq => by
    simp only [List.mem_singleton] at hp
    simp only [List.mem_cons, List.not_mem_nil, or_false] at hq
    subst hp
    rcases hq with rfl | rfl
    · exact h1
    · exact h2
  exact OS.lit w base base [a, b, c] [u, v, x] hs hf hd (by simp) 3 rfl
theorem apart_of {w : World} {W1 base : Nat} {u v : Value} {b : List Int} (hb : OI w W1 v b) (hlt : ∀ k, u.ownBlock = some k → k < base) (hbase : base ≤ W1) : u.ownBlock = none ∨ u.ownBlock ≠ v.ownBlock := by
  rcases hk : u.ownBlock with _ | k
  · exact .inl rfl
  · refine .inr fun e => ?_
    have h1 := hlt k hk
    have h2 := (hb.lt k e.symm).1
    omega

set_option maxHeartbeats 1600000 in
theorem walk {A : Option Addr} {n : Nat} (c : Nat) {w : World} (hx : RB w A n) : Calls Try.prog 5 #[.slice A n c] w (Law w) := by
  obtain ⟨w0, ew⟩ : ∃ w0 : World, w0 = w := ⟨_, rfl⟩
  subst ew
  rcases hbig : decide (1048576 < n) with _ | _
  · go_enter Try.func5, Try.ntmps5
    go_wp2_with (go_at_call 19; refine (big_any _).mono ?_; rintro e w' ⟨rfl, q0, rfl⟩)
    clear hbig
    refine (drawBoxes_apart _ (hx.below (Quiet.below ⟨_, rfl⟩))).mono ?_
    rintro e w1 ⟨A1, n1, c1, A2, n2, c2, A3, n3, c3, l, l2, l3, W1, W2, K, M, rfl, hKM, hsh, hsh2, hsh3, o1, o2, o3, hW1, hW2, b1, hap, hap2⟩
    have hs0 : w0.heap.size ≤ (w0.drewN q0).heap.size := by simp
    have g1 : Below w0.heap.size w0 w1 := bnext (Quiet.below ⟨_, rfl⟩) b1 (by simp)
    have hn1 : n1 ≤ 6 := by rw [← o1.ri.1]; have := hsh.len; omega
    have hn2 : n2 ≤ 6 := by rw [← o2.ri.1]; have := hsh2.len; omega
    have hn3 : n3 ≤ 6 := by rw [← o3.ri.1]; have := hsh3.len; omega
    have hW1' : w0.heap.size ≤ W1 := hW1
    have AP12 := Lib.hid (apart_of o2 hap (Nat.le_refl _))
    have AP13 := Lib.hid (apart_of o3 hap hW2)
    have AP23 := Lib.hid (apart_of o3 hap2 (Nat.le_refl _))
    have HO1 : Hid (OI w1 w0.heap.size (.slice A1 n1 c1) l) := o1.mono (by simp)
    have HO2 : Hid (OI w1 w0.heap.size (.slice A2 n2 c2) l2) := o2.mono hW1'
    have HO3 : Hid (OI w1 w0.heap.size (.slice A3 n3 c3) l3) := o3.mono (by omega)
    have HSH := Lib.hid hsh
    have HSH2 := Lib.hid hsh2
    have HSH3 := Lib.hid hsh3
    have HK := Lib.hid hKM
    have hsub : (K : Int) + M - K = M := by omega
    have hlens : Hid (l.length ≤ 1000000000 ∧ l2.length ≤ 1000000000 ∧ l3.length ≤ 1000000000) := by
      have h1 := hsh.len
      have h2 := hsh2.len
      have h3 := hsh3.len
      exact ⟨by omega, by omega, by omega⟩
    clear b1 o1 o2 o3 hap hap2 hsh hsh2 hsh3 hW1 hW2 hW1'
    obtain ⟨hKM1, hKM2⟩ := hKM
    obtain ⟨X, hX⟩ : ∃ X, X = tMeet K M l l2 l3 := ⟨_, rfl⟩
    have hX0 : 0 ≤ X := by rw [hX]; exact inter_three_pos HK.out HSH.out HSH2.out HSH3.out
    have HI1 : Hid (interB [l, l2, l3] K ((K : Int) + M) = X) := by show _ = _; rw [hX, inter_three HK.out HSH.out HSH2.out HSH3.out]
    have HI2 : Hid (interB [l3, l, l2] K ((K : Int) + M) = X) := by show _ = _; rw [hX, inter_three HK.out HSH3.out HSH.out HSH2.out, tMeet_at HK.out HSH.out HSH2.out HSH3.out]
    have HI3 : Hid (interB [l2, l, l3] K ((K : Int) + M) = X) := by show _ = _; rw [hX, inter_three HK.out HSH2.out HSH.out HSH3.out, tMeet_flip HK.out HSH2.out HSH.out]
    have HXC : Hid (cntP (grB l l2 K ((K : Int) + M)) (dualB l3 K ((K : Int) + M)) = X) := by show _ = _; rw [hX]; rfl
    have hxneg : decide (X < 0) = false := decide_eq_false (by omega)
    have hxx : (X != X) = false := by simp
    clear hX
    go_wp2_with fail
    refine (iInter_any (K : Int) ((K : Int) + M) (three_rows HO1.out HO2.out HO3.out AP12.out AP13.out AP23.out g1.size) (fun s hs => by
      simp only [List.mem_cons, List.not_mem_nil, or_false] at hs
      obtain ⟨h1, h2, h3⟩ := hlens.out
      rcases hs with rfl | rfl | rfl <;> assumption)).mono ?_
    rw [HI1.out]
    rintro e w2 ⟨rfl, b2'⟩
    have b10 : Below w1.heap.size w1 (w1.alloc (.cells #[.slice A1 n1 c1, .slice A2 n2 c2, .slice A3 n3 c3] 30)) := (Below.refl _ _).alloc (Nat.le_refl _) _
    have b2 : Below w1.heap.size w1 w2 := b10.trans (b2'.mono b10.size)
    have g2 := bnext g1 b2 g1.size
    clear b2' b10
    go_wp2_with fail
    refine (iInter_any (K : Int) ((K : Int) + M) (three_rows (HO3.out.below b2) (HO1.out.below b2) (HO2.out.below b2) (flip_apart AP13.out) (flip_apart AP23.out) AP12.out g2.size) (fun s hs => by
      simp only [List.mem_cons, List.not_mem_nil, or_false] at hs
      obtain ⟨h1, h2, h3⟩ := hlens.out
      rcases hs with rfl | rfl | rfl <;> assumption)).mono ?_
    rw [HI2.out]
    rintro e w3 ⟨rfl, b3'⟩
    have b20 : Below w2.heap.size w2 (w2.alloc (.cells #[.slice A3 n3 c3, .slice A1 n1 c1, .slice A2 n2 c2] 30)) := (Below.refl _ _).alloc (Nat.le_refl _) _
    have b3 : Below w1.heap.size w1 w3 := b2.trans ((b20.trans (b3'.mono b20.size)).mono b2.size)
    have g3 := bnext g1 b3 g1.size
    clear b3' b20
    go_wp2_with fail
    refine (iInter_any (K : Int) ((K : Int) + M) (three_rows (HO2.out.below b3) (HO1.out.below b3) (HO3.out.below b3) (flip_apart AP12.out) AP23.out AP13.out g3.size) (fun s hs => by
      simp only [List.mem_cons, List.not_mem_nil, or_false] at hs
      obtain ⟨h1, h2, h3⟩ := hlens.out
      rcases hs with rfl | rfl | rfl <;> assumption)).mono ?_
    rw [HI3.out]
    rintro e w4 ⟨rfl, b4'⟩
    have b30 : Below w3.heap.size w3 (w3.alloc (.cells #[.slice A2 n2 c2, .slice A1 n1 c1, .slice A3 n3 c3] 30)) := (Below.refl _ _).alloc (Nat.le_refl _) _
    have b4 : Below w1.heap.size w1 w4 := b3.trans ((b30.trans (b4'.mono b30.size)).mono b3.size)
    have g4 := bnext g1 b4 g1.size
    clear b4' b30
    have HOK : Hid (grOk l l2 K ((K : Int) + M) = true) := by
      show _ = _
      simp only [grOk, Bool.and_eq_true]
      exact ⟨HSH.out.box HK.out, HSH2.out.box HK.out⟩
    obtain ⟨G, hG⟩ : ∃ G, G = grB l l2 K ((K : Int) + M) := ⟨_, rfl⟩
    have HGW : Hid (Wt G 6) := by show Wt _ _; rw [hG]; exact grB_wt _ _ _ _
    rw [← hG] at HXC
    go_wp2_with fail
    refine (iGr_any c1 c2 (K : Int) ((K : Int) + M) (HO1.out.below b4) (HO2.out.below b4) (by omega) (by omega)).mono ?_
    rw [HOK.out, ← hG]
    rintro e w5 ⟨A5, n5, c5, cs5, rfl, o5, l5, ⟨cp5, le5⟩, b5⟩
    have HO5 := Lib.hid o5
    have g5 := bnext g4 b5 g4.size
    have b15 := bnext b4 b5 b4.size
    clear o5 hG
    obtain ⟨D, hD⟩ : ∃ D, D = dualB l3 K ((K : Int) + M) := ⟨_, rfl⟩
    have hDB := (oneMeet_at HK.out HSH3.out).2.2.1
    rw [← hD] at hDB HXC
    have HDL : Hid (D.length ≤ 16) := by have h := (SD.box hDB).len; show _ ≤ _; omega
    go_wp2_with fail
    refine (iDual_any c3 (K : Int) ((K : Int) + M) (HO3.out.below b15).ri (by omega)).mono ?_
    rw [← hD]
    rintro e w6 ⟨A6, n6, c6, rfl, o6, r6, ⟨cp6, le6⟩, b6⟩
    have hn6 : n6 ≤ 16 := by rw [← r6.1]; exact HDL.out
    have g6 := bnext g5 b6 g5.size
    clear o6 hD hDB
    go_wp2_with fail
    refine (countIn_any c6 r6 (by omega) (OF.below HO5.out b6) (fun k hk => by have := HGW.out.short _ (nthP_mem hk); omega) (by have := HGW.out.len; omega)).mono ?_
    rw [HXC.out]
    rintro e w7 ⟨rfl, q7⟩
    have g7 := bnext g6 (q7.below (B := w6.heap.size)) g6.size
    clear q7 r6
    -- the cells
    obtain ⟨t, ht⟩ : ∃ t, t = K * M := ⟨_, rfl⟩
    have htI : (K : Int) * M = (t : Int) := by rw [ht]; simp
    have ht36 : t ≤ 36 := by rw [ht]; exact Nat.le_trans (Nat.mul_le_mul (show K ≤ 6 by omega) (show M ≤ 6 by omega)) (by decide)
    have hwT : IntKind.i64.wrap ((K : Int) * M) = (t : Int) := by rw [htI]; exact IntWalk.i64_in _ (by omega)
    have hc := cellsMeet_at HK.out
    rw [← ht] at hc
    have HC := Lib.hid hc
    have G7 := Lib.hid g7
    clear hc ht
    go_wp2
    obtain ⟨w8, hw8⟩ : ∃ w8, w8 = w7.alloc (.cells #[] 30) := ⟨_, rfl⟩
    have o8 : OS w8 w0.heap.size w0.heap.size (.slice (some ⟨w7.heap.size, 0, none⟩) 0 0) [] [] := by
      rw [hw8]; exact OS.lit w7 w0.heap.size w0.heap.size [] [] g7.size FRs.nil_ Dist.nil_ (by simp) 0 rfl
    have g8 : Below w0.heap.size w0 w8 := by rw [hw8]; exact g7.alloc g7.size _
    rw [← hw8]
    clear hw8 g7
    go_loopw [11] (fun u wr => ∃ (z : Nat) (cs : List Value), z ≤ t ∧ OS wr w0.heap.size w0.heap.size u (List.replicate z [1]) cs ∧ Below w0.heap.size w0 wr) (fun u _ => t - (match u with | .slice _ n _ => n | _ => 0))
    case atStart => exact ⟨0, [], Nat.zero_le _, o8, g8⟩
    case round =>
      clear o8 g8
      obtain ⟨z, cs, hz, ho, hb⟩ := hrel
      obtain ⟨A9, n9, c9, rfl, hn9, hc9, hc963⟩ := ho.form
      rw [List.length_replicate] at hn9
      subst hn9
      have HO := Lib.hid ho
      have HB := Lib.hid hb
      by_cases hlt : z < t
      · have hs := hb.size
        have hu : OI (wr.alloc (.cells #[.int .i64 1] 3)) wr.heap.size (.slice (some ⟨wr.heap.size, 0, none⟩) 1 1) [1] := OI.lit wr wr.heap.size [1] 1 rfl (Nat.le_refl _) (by simp)
        clear ho hb
        go_wp2_with (at_builtin; refine wpAppS rfl _ _ rfl w0.heap.size w0.heap.size (.slice A9 z c9) (List.replicate z [1]) cs (.slice (some ⟨wr.heap.size, 0, none⟩) 1 1) [1] rfl (by show Value.slice (some ⟨wr.heap.size + 1, 0, none⟩) 1 1 = _; simp) (by exact OF.alloc HO.out _) (by exact hu.mono hs) (by exact apart_new HO.out.2.1 (Nat.le_refl _) hu) (by rw [List.length_replicate]; omega) (by simp; omega) ?_; intro v' w' h1 h2 h3)
        have HF : Hid (OS w' w0.heap.size w0.heap.size v' (List.replicate (z + 1) [1]) (cs ++ [.slice (some ⟨wr.heap.size, 0, none⟩) 1 1]) ∧ Below w0.heap.size w0 w') := by
          refine ⟨by rw [List.replicate_succ']; exact h1, ((HB.out.alloc hs _).alloc (by simp; omega) _).grown h2 (by simp; omega) (fun k hk => (OF.lt HO.out k hk).1)⟩
        obtain ⟨A10, n10, c10, rfl, hn10, _, _⟩ := HF.out.1.form
        rw [List.length_replicate] at hn10
        subst hn10
        clear h1 h2 h3
        go_roundw
        case rel => exact ⟨z + 1, _, by omega, HF.out.1, HF.out.2⟩
        case measure => simp only []; omega
      · obtain rfl : z = t := by omega
        clear ho hb
        have hdeg : Hid (∀ W, Calls Try.prog 30 #[.int .i64 (K : Int), .int .i64 ((K : Int) + M)] W (GivesB W (.int .i64 (degB K ((K : Int) + M))))) := fun W => iDegree_any _ _
        obtain ⟨dg, hdg⟩ : ∃ dg, dg = degB K ((K : Int) + M) := ⟨_, rfl⟩
        rw [← hdg] at hdeg HC
        have hd1 := HC.out.2
        have hde : (dg == dg) = true := by simp
        clear hdg
        go_wp2_with fail
        refine (hdeg.out _).mono ?_
        rintro e w10 ⟨rfl, b10⟩
        have g10 := bnext HB.out b10 HB.out.size
        go_wp2_with fail
        refine (iInter_any (K : Int) ((K : Int) + M) (OS.below HO.out b10) (fun s hs => by rw [(List.mem_replicate.1 hs).2]; simp)).mono ?_
        rw [← HC.out.1]
        rintro e w11 ⟨rfl, b11⟩
        have g11 := bnext g10 b11 g10.size
        go_wp2_with fail
        refine (hdeg.out _).mono ?_
        rintro e w12 ⟨rfl, b12⟩
        have g12 := bnext g11 b12 g11.size
        go_wp2
        go_ret
        exact ⟨rfl, g12⟩
  · go_enter Try.func5, Try.ntmps5
    go_wp2_with (go_at_call 19; refine (big_any _).mono ?_; rintro e w' ⟨rfl, q0, rfl⟩)
    go_ret
    exact ⟨rfl, Quiet.below ⟨_, rfl⟩⟩
end Go.Proofs.Ytmodpicemlkbjaa.lawMeets
