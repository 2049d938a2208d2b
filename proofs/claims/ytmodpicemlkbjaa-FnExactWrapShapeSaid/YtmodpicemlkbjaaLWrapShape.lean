/- For every list of numbers and all integers: the program's WrapShape returns what the reference's returns, in new memory, and again so at a second call; the list reads afterwards as it read before. -/
import Derived.Test.YtmodpicemlkbjaaWrapS
import Derived.Test.YtmodpicemlkbjaaQFrm
import Derived.Test.YtmodpicemlkbjaaWords
import Derived.ShutString
import Derived.ChangeOld
namespace Go.Proofs.Ytmodpicemlkbjaa.lawWrapShape
open Go.ChangeShapes Go.WideShapes Go.ChangeAt Go.RowKit
open Go.ChangeMaps (open_string shut_string)

theorem wrapB_len (l : List Int) (k n : Int) : (wrapB l k n).1.2.1.length ≤ 7 := by
  rcases h : wrapOk l k n with _ | _
  · rw [wrapB_no h]; simp
  · obtain ⟨h1, h2, h3, h4⟩ := wrapOk_iff.1 h
    obtain ⟨K, rfl⟩ := Int.eq_ofNat_of_zero_le (a := k) (by omega)
    obtain ⟨N, rfl⟩ := Int.eq_ofNat_of_zero_le (a := n) (by omega)
    have h5 : wrapOk l K N = true := h
    rw [wrapB_yes h5]
    unfold reduceW
    split
    · show (bare (rowsW l K N)).length ≤ 7
      unfold bare
      rw [List.length_take]
      unfold rowsW lessTo
      rw [gen_len]
      omega
    · simp
theorem BK.within {w w' : World} {g lo hi : Nat} {T : TypeId} {cs : List Value} (h : BK w g T cs) (v : Within lo hi w w') (hg : g < lo ∨ hi ≤ g) : BK w' g T cs := (v.block g h.lt hg).trans h
theorem markQ1_any {w : World} {base : Nat} {A : Option Addr} {n c : Nat} {l : List Int} (k0 p q : Int) (ho : OI w base (.slice A n c) l) (h0 : 0 ≤ k0) (h1 : k0 ≤ 1000000000000) (hn : n ≤ 1000000000000) :
    Calls Try.prog 37 #[.agg #[.int .i64 p, .slice A n c, .int .i64 q], .int .i64 k0] w (fun e w' => e = .returned (.int .i64 (k0 + n)) ∧ OI w' base (.slice A n c) (upFrom k0 n) ∧ w.grownBy w' (Value.ownBlock (.slice A n c))) := by
  have HM := Lib.hid (markI_any k0 (ho.alloc (.cells #[.int .i64 p, .slice A n c, .int .i64 q] 46)) h0 h1 hn)
  go_enter Try.func37, Try.ntmps37
  go_wp2_with fail
  refine HM.out.mono ?_
  rintro e w1 ⟨rfl, o1, g1⟩
  go_wp2
  go_ret
  exact ⟨rfl, o1, grown_step (World.grownBy_alloc w _ _) g1 (.inl rfl)⟩
theorem heldQ1_any {w : World} {A : Option Addr} {n : Nat} (c : Nat) (k0 p q : Int) (hx : RI w A n (upFrom k0 n)) (h0 : 0 ≤ k0) (h1 : k0 ≤ 1000000000000) (hn : n ≤ 1000000000000) :
    Calls Try.prog 38 #[.agg #[.int .i64 p, .slice A n c, .int .i64 q], .int .i64 k0] w (GivesB w (.int .i64 (k0 + n))) := by
  have HM := Lib.hid (heldI_any c k0 (hx.alloc (.cells #[.int .i64 p, .slice A n c, .int .i64 q] 46)) h0 h1 hn)
  have ht : decide (k0 + (n : Int) < 0) = false := decide_eq_false (by omega)
  go_enter Try.func38, Try.ntmps38
  go_wp2_with fail
  refine HM.out.mono ?_
  rintro e w1 ⟨rfl, q1, rfl⟩
  go_wp2
  go_ret
  exact ⟨rfl, below_drewN ((Below.refl _ _).alloc (Nat.le_refl _) _) _⟩

set_option maxHeartbeats 2000000 in
theorem walk {A0 : Option Addr} {n0 : Nat} (c0 : Nat) {l0 : List Int} (a1 : Int) (a2 : Int) {w : World} (hx0 : RI w A0 n0 l0) (hn0 : n0 ≤ 9223372036854775807) (ha1 : -9223372036854775808 ≤ a1 ∧ a1 ≤ 9223372036854775807) (ha2 : -9223372036854775808 ≤ a2 ∧ a2 ≤ 9223372036854775807) :
    Calls Try.prog 6 #[.slice A0 n0 c0, .int .i64 a1, .int .i64 a2] w (Law w) := by
  obtain ⟨hl1, hh1⟩ := ha1
  obtain ⟨hl2, hh2⟩ := ha2
  by_cases hbig0 : 1048576 < n0
  · go_enter Try.func6, Try.ntmps6
    go_wp2
    go_ret
    exact ⟨rfl, Below.refl _ _⟩
  obtain ⟨w0, ew⟩ : ∃ w0 : World, w0 = w := ⟨_, rfl⟩
  subst ew
  obtain ⟨rp, hrp⟩ : ∃ rp, rp = (wrapB l0 a1 a2).1.1 := ⟨_, rfl⟩
  obtain ⟨rs, hrs⟩ : ∃ rs, rs = (wrapB l0 a1 a2).1.2.1 := ⟨_, rfl⟩
  obtain ⟨rc, hrc⟩ : ∃ rc, rc = (wrapB l0 a1 a2).1.2.2 := ⟨_, rfl⟩
  obtain ⟨rd, hrd⟩ : ∃ rd, rd = (wrapB l0 a1 a2).2 := ⟨_, rfl⟩
  have hrl : rs.length ≤ 7 := by rw [hrs]; exact wrapB_len _ _ _
  have HRL := Lib.hid hrl
  have HIW : Hid (∀ (W : World) (A : Option Addr) (c : Nat), RI W A n0 l0 → Calls Try.prog 33 #[.slice A n0 c, .int .i64 a1, .int .i64 a2] W (MakesWb W rp rs rc rd)) := fun W A c hx => by rw [hrp, hrs, hrc, hrd]; exact iWrap_any c a1 a2 hx (by omega)
  have HSW : Hid (∀ (W : World) (A : Option Addr) (c : Nat), RI W A n0 l0 → Calls Try.prog 31 #[.slice A n0 c, .int .i64 a1, .int .i64 a2] W (MakesWb W rp rs rc rd)) := fun W A c hx => by rw [hrp, hrs, hrc, hrd]; exact sWrap_any c a1 a2 hx (by omega)
  have hdd : (rd != rd) = false := by simp
  clear hrp hrs hrc hrd hrl
  go_enter Try.func6, Try.ntmps6
  go_wp2_with fail
  refine (toI_any _ hx0 (by omega)).mono ?_
  rintro e w1 ⟨A1, m1, c1, rfl, o1, r1, ⟨cp1, le1⟩, b1⟩
  obtain rfl : n0 = m1 := hx0.1.symm.trans r1.1
  have g1 : Below w0.heap.size w0 w1 := b1
  go_wp2_with fail
  refine (HSW.out _ _ _ r1).mono ?_
  rintro e w2 ⟨A2, n2, c2, rfl, o2, cp2, b2⟩
  have g2 := bnext g1 b2 g1.size
  have hn2 : n2 ≤ 7 := by rw [← o2.ri.1]; exact HRL.out
  have O2 := Lib.hid (o2.mono (base' := w0.heap.size) g1.size)
  have R2 := Lib.hid o2.lt
  clear o1 r1 o2
  obtain ⟨v2, hv2⟩ : ∃ v2, v2 = w2.heap.size := ⟨_, rfl⟩
  obtain ⟨w3, hw3⟩ : ∃ w3, w3 = w2.alloc (.cells #[.int .i64 rp, .slice A2 n2 c2, .int .i64 rc] 46) := ⟨_, rfl⟩
  have K2 : Hid (BK w3 v2 46 [.int .i64 rp, .slice A2 n2 c2, .int .i64 rc]) := by rw [hw3, hv2]; exact BK.new w2 _ _
  have b3 : Below w2.heap.size w2 w3 := by rw [hw3]; exact (Below.refl _ _).alloc (Nat.le_refl _) _
  have g3 := bnext g2 b3 g2.size
  have s3 : w3.heap.size = v2 + 1 := by rw [hw3, hv2]; simp
  have HV2 := Lib.hid hv2
  have HS3 := Lib.hid s3
  have O2b := Lib.hid (O2.out.below b3)
  clear s3
  go_wp2_with fail
  rw [← hw3, ← hv2]
  clear hw3 hv2
  refine (toI_any _ (hx0.below g3) (by omega)).mono ?_
  rintro e w4 ⟨A4, m4, c4, rfl, o4, r4, ⟨cp4, le4⟩, b4⟩
  obtain rfl : n0 = m4 := hx0.1.symm.trans r4.1
  have g4 := bnext g3 b4 g3.size
  have O4 := Lib.hid o4
  have R4 := Lib.hid o4.lt
  have K4 := Lib.hid (K2.out.below b4 K2.out.lt)
  have O2c := Lib.hid (O2b.out.below b4)
  clear o4
  go_wp2_with fail
  refine (HIW.out _ _ _ r4).mono ?_
  rintro e w5 ⟨A5, n5, c5, rfl, o5, cp5, b5⟩
  have g5 := bnext g4 b5 g4.size
  have hn5 : n5 = n2 := by rw [← o5.ri.1, ← O2.out.ri.1]
  subst hn5
  have R5 := Lib.hid o5.lt
  have O4b := Lib.hid (O4.out.below b5)
  have K5 := Lib.hid (K4.out.below b5 K4.out.lt)
  have O2d := Lib.hid (O2c.out.below b5)
  clear r4
  obtain ⟨v5, hv5⟩ : ∃ v5, v5 = w5.heap.size := ⟨_, rfl⟩
  obtain ⟨w6, hw6⟩ : ∃ w6, w6 = w5.alloc (.cells #[.int .i64 rp, .slice A5 n5 c5, .int .i64 rc] 46) := ⟨_, rfl⟩
  have KG : Hid (BK w6 v5 46 [.int .i64 rp, .slice A5 n5 c5, .int .i64 rc]) := by rw [hw6, hv5]; exact BK.new w5 _ _
  have b6 : Below w5.heap.size w5 w6 := by rw [hw6]; exact (Below.refl _ _).alloc (Nat.le_refl _) _
  have g6 := bnext g5 b6 g5.size
  have s6 : w6.heap.size = v5 + 1 := by rw [hw6, hv5]; simp
  have HV5 := Lib.hid hv5
  have HS6 := Lib.hid s6
  have K6 := Lib.hid (K5.out.below b6 K5.out.lt)
  have O5 := Lib.hid (o5.below b6)
  have O4c := Lib.hid (O4b.out.below b6)
  have O2e := Lib.hid (O2d.out.below b6)
  -- where all lies
  have HR : Hid (w0.heap.size ≤ w1.heap.size ∧ w1.heap.size ≤ w2.heap.size ∧ w2.heap.size = v2 ∧ w3.heap.size = v2 + 1 ∧ w3.heap.size ≤ w4.heap.size ∧ w4.heap.size ≤ w5.heap.size ∧ w5.heap.size = v5 ∧ w6.heap.size = v5 + 1) := ⟨b1.size, b2.size, HV2.out.symm, HS3.out, b4.size, b5.size, HV5.out.symm, HS6.out⟩
  clear s6 o5 b1 b2 b3 b4 b5
  obtain ⟨z0, z1, z2⟩ : w6.cell? ⟨v5, 0, none⟩ = some (.int .i64 rp) ∧ w6.cell? ⟨v5, 1, none⟩ = some (.slice A5 n5 c5) ∧ w6.cell? ⟨v5, 2, none⟩ = some (.int .i64 rc) := ⟨KG.out.cell (j := 0) rfl, KG.out.cell (j := 1) rfl, KG.out.cell (j := 2) rfl⟩
  obtain ⟨y0, y1, y2⟩ : w6.cell? ⟨v2, 0, none⟩ = some (.int .i64 rp) ∧ w6.cell? ⟨v2, 1, none⟩ = some (.slice A2 n5 c2) ∧ w6.cell? ⟨v2, 2, none⟩ = some (.int .i64 rc) := ⟨K6.out.cell (j := 0) rfl, K6.out.cell (j := 1) rfl, K6.out.cell (j := 2) rfl⟩
  clear z0 z1 z2 y0 y1 y2
  have y0 : ∀ o, (w5.alloc o).cell? ⟨v2, 0, none⟩ = some (.int .i64 rp) := fun o => ((K5.out.alloc o).cell (j := 0) rfl)
  have y1 : ∀ o, (w5.alloc o).cell? ⟨v2, 1, none⟩ = some (.slice A2 n5 c2) := fun o => ((K5.out.alloc o).cell (j := 1) rfl)
  have y2 : ∀ o, (w5.alloc o).cell? ⟨v2, 2, none⟩ = some (.int .i64 rc) := fun o => ((K5.out.alloc o).cell (j := 2) rfl)
  go_wp2_with fail
  rw [← hw6, ← hv5]
  clear hw6 hv5 y0 y1 y2
  refine (eqQ1_any (l := rs) _ _ _ _ O5.out.ri O2e.out.ri (by omega)).mono ?_
  rintro e w7 ⟨rfl, b7⟩
  have g7 := bnext g6 b7 g6.size
  go_wp2_with fail
  refine (toI_any _ (hx0.below g7) (by omega)).mono ?_
  rintro e w8 ⟨A8, m8, c8, rfl, o8, r8, ⟨cp8, le8⟩, b8⟩
  obtain rfl : n0 = m8 := hx0.1.symm.trans r8.1
  have g8 := bnext g7 b8 g7.size
  have b68 := b7.trans (b8.mono b7.size)
  go_wp2_with fail
  refine (eqI_any true _ _ (O4c.out.below b68).ri r8 (by simp) (by omega) (by omega)).mono ?_
  rintro e w9 ⟨rfl, q9⟩
  have b9 := q9.below (B := w8.heap.size)
  have g9 := bnext g8 b9 g8.size
  have b69 := b68.trans (b9.mono b68.size)
  clear q9 o8 r8
  go_wp2_with fail
  refine (markI_any (1) (O4c.out.below b69) (by omega) (by omega) (by omega)).mono ?_
  rintro e w10 ⟨rfl, p10, s10⟩
  have v10 := grown_within s10 R4.out
  have K10 : Hid (BK w10 v5 46 [.int .i64 rp, .slice A5 n5 c5, .int .i64 rc] ∧ BK w10 v2 46 [.int .i64 rp, .slice A2 n5 c2, .int .i64 rc]) := by
    obtain ⟨h1, h2, h3, h4, h5, h6, h7, h8⟩ := HR.out
    exact ⟨BK.within (KG.out.below b69 KG.out.lt) v10 (by omega), BK.within (K6.out.below b69 K6.out.lt) v10 (by omega)⟩
  have O10 : Hid (OI w10 w4.heap.size (.slice A5 n5 c5) rs ∧ OI w10 w0.heap.size (.slice A2 n5 c2) rs) := by
    obtain ⟨h1, h2, h3, h4, h5, h6, h7, h8⟩ := HR.out
    exact ⟨(O5.out.below b69).within v10 (fun k hk => by have := R5.out k hk; omega), (O2e.out.below b69).within v10 (fun k hk => by have := R2.out k hk; omega)⟩
  have g10 : Below w0.heap.size w0 w10 := by
    obtain ⟨h1, h2, h3, h4, h5, h6, h7, h8⟩ := HR.out
    exact below_within g9 v10 (by omega) g9.size
  clear p10 s10
  obtain ⟨z0, z1, z2⟩ : w10.cell? ⟨v5, 0, none⟩ = some (.int .i64 rp) ∧ w10.cell? ⟨v5, 1, none⟩ = some (.slice A5 n5 c5) ∧ w10.cell? ⟨v5, 2, none⟩ = some (.int .i64 rc) := ⟨K10.out.1.cell (j := 0) rfl, K10.out.1.cell (j := 1) rfl, K10.out.1.cell (j := 2) rfl⟩
  obtain ⟨y0, y1, y2⟩ : w10.cell? ⟨v2, 0, none⟩ = some (.int .i64 rp) ∧ w10.cell? ⟨v2, 1, none⟩ = some (.slice A2 n5 c2) ∧ w10.cell? ⟨v2, 2, none⟩ = some (.int .i64 rc) := ⟨K10.out.2.cell (j := 0) rfl, K10.out.2.cell (j := 1) rfl, K10.out.2.cell (j := 2) rfl⟩
  go_wp2_with fail
  clear z0 z1 z2 y0 y1 y2
  refine (eqQ1_any (l := rs) _ _ _ _ O10.out.1.ri O10.out.2.ri (by omega)).mono ?_
  rintro e w11 ⟨rfl, b11⟩
  have g11 := bnext g10 b11 g10.size
  obtain ⟨z0, z1, z2⟩ : w11.cell? ⟨v5, 0, none⟩ = some (.int .i64 rp) ∧ w11.cell? ⟨v5, 1, none⟩ = some (.slice A5 n5 c5) ∧ w11.cell? ⟨v5, 2, none⟩ = some (.int .i64 rc) := ⟨one_cell b11 (K10.out.1.cell (j := 0) rfl), one_cell b11 (K10.out.1.cell (j := 1) rfl), one_cell b11 (K10.out.1.cell (j := 2) rfl)⟩
  go_wp2_with fail
  clear z0 z1 z2
  refine (markQ1_any (1) _ _ (O10.out.1.below b11) (by omega) (by omega) (by omega)).mono ?_
  rintro e w12 ⟨rfl, p12, s12⟩
  have v12 := grown_within s12 R5.out
  have K12 : Hid (BK w12 v5 46 [.int .i64 rp, .slice A5 n5 c5, .int .i64 rc] ∧ BK w12 v2 46 [.int .i64 rp, .slice A2 n5 c2, .int .i64 rc]) := by
    obtain ⟨h1, h2, h3, h4, h5, h6, h7, h8⟩ := HR.out
    exact ⟨BK.within (K10.out.1.below b11 K10.out.1.lt) v12 (by omega), BK.within (K10.out.2.below b11 K10.out.2.lt) v12 (by omega)⟩
  have O12 : Hid (OI w12 w4.heap.size (.slice A5 n5 c5) (upFrom 1 n5) ∧ OI w12 w0.heap.size (.slice A2 n5 c2) rs) := by
    obtain ⟨h1, h2, h3, h4, h5, h6, h7, h8⟩ := HR.out
    exact ⟨p12, (O10.out.2.below b11).within v12 (fun k hk => by have := R2.out k hk; omega)⟩
  have g12 : Below w0.heap.size w0 w12 := by
    obtain ⟨h1, h2, h3, h4, h5, h6, h7, h8⟩ := HR.out
    exact below_within g11 v12 (by omega) g11.size
  clear p12 s12
  obtain ⟨z0, z1, z2⟩ : w12.cell? ⟨v5, 0, none⟩ = some (.int .i64 rp) ∧ w12.cell? ⟨v5, 1, none⟩ = some (.slice A5 n5 c5) ∧ w12.cell? ⟨v5, 2, none⟩ = some (.int .i64 rc) := ⟨K12.out.1.cell (j := 0) rfl, K12.out.1.cell (j := 1) rfl, K12.out.1.cell (j := 2) rfl⟩
  have hne : ((1 : Int) + n5 != 1 + n5) = false := by simp
  go_wp2_with fail
  clear z0 z1 z2
  refine (heldQ1_any _ (1) _ _ O12.out.1.ri (by omega) (by omega) (by omega)).mono ?_
  rintro e w13 ⟨rfl, b13⟩
  have g13 := bnext g12 b13 g12.size
  go_wp2_with fail
  refine (toI_any _ (hx0.below g13) (by omega)).mono ?_
  rintro e w14 ⟨A14, m14, c14, rfl, o14, r14, ⟨cp14, le14⟩, b14⟩
  obtain rfl : n0 = m14 := hx0.1.symm.trans r14.1
  have g14 := bnext g13 b14 g13.size
  go_wp2_with fail
  refine (HIW.out _ _ _ r14).mono ?_
  rintro e w15 ⟨A15, n15, c15, rfl, o15, cp15, b15⟩
  have g15 := bnext g14 b15 g14.size
  have hn15 : n15 = n5 := by rw [← o15.ri.1, ← O2.out.ri.1]
  subst hn15
  clear o14 r14
  have b1215 : Below w12.heap.size w12 w15 := (b13.trans (b14.mono b13.size)).trans (b15.mono (b13.trans (b14.mono b13.size)).size)
  obtain ⟨v15, hv15⟩ : ∃ v15, v15 = w15.heap.size := ⟨_, rfl⟩
  obtain ⟨w16, hw16⟩ : ∃ w16, w16 = w15.alloc (.cells #[.int .i64 rp, .slice A15 n15 c15, .int .i64 rc] 46) := ⟨_, rfl⟩
  have KH : Hid (BK w16 v15 46 [.int .i64 rp, .slice A15 n15 c15, .int .i64 rc]) := by rw [hw16, hv15]; exact BK.new w15 _ _
  have b16 : Below w15.heap.size w15 w16 := by rw [hw16]; exact (Below.refl _ _).alloc (Nat.le_refl _) _
  have g16 := bnext g15 b16 g15.size
  have b1216 := b1215.trans (b16.mono b1215.size)
  have O15 := Lib.hid (o15.below b16)
  have O16 : Hid (OI w16 w4.heap.size (.slice A5 n15 c5) (upFrom 1 n15) ∧ OI w16 w0.heap.size (.slice A2 n15 c2) rs) := ⟨O12.out.1.below b1216, O12.out.2.below b1216⟩
  have K16 : Hid (BK w16 v5 46 [.int .i64 rp, .slice A5 n15 c5, .int .i64 rc] ∧ BK w16 v2 46 [.int .i64 rp, .slice A2 n15 c2, .int .i64 rc]) := ⟨K12.out.1.below b1216 K12.out.1.lt, K12.out.2.below b1216 K12.out.2.lt⟩
  obtain ⟨z0, z1, z2⟩ : w16.cell? ⟨v15, 0, none⟩ = some (.int .i64 rp) ∧ w16.cell? ⟨v15, 1, none⟩ = some (.slice A15 n15 c15) ∧ w16.cell? ⟨v15, 2, none⟩ = some (.int .i64 rc) := ⟨KH.out.cell (j := 0) rfl, KH.out.cell (j := 1) rfl, KH.out.cell (j := 2) rfl⟩
  obtain ⟨y0, y1, y2⟩ : w16.cell? ⟨v2, 0, none⟩ = some (.int .i64 rp) ∧ w16.cell? ⟨v2, 1, none⟩ = some (.slice A2 n15 c2) ∧ w16.cell? ⟨v2, 2, none⟩ = some (.int .i64 rc) := ⟨K16.out.2.cell (j := 0) rfl, K16.out.2.cell (j := 1) rfl, K16.out.2.cell (j := 2) rfl⟩
  clear o15
  clear z0 z1 z2 y0 y1 y2
  have y0 : ∀ o, (w15.alloc o).cell? ⟨v2, 0, none⟩ = some (.int .i64 rp) := fun o => (((K12.out.2.below b1215 K12.out.2.lt).alloc o).cell (j := 0) rfl)
  have y1 : ∀ o, (w15.alloc o).cell? ⟨v2, 1, none⟩ = some (.slice A2 n15 c2) := fun o => (((K12.out.2.below b1215 K12.out.2.lt).alloc o).cell (j := 1) rfl)
  have y2 : ∀ o, (w15.alloc o).cell? ⟨v2, 2, none⟩ = some (.int .i64 rc) := fun o => (((K12.out.2.below b1215 K12.out.2.lt).alloc o).cell (j := 2) rfl)
  go_wp2_with fail
  rw [← hw16, ← hv15]
  clear hw16 hv15 y0 y1 y2
  refine (eqQ1_any (l := rs) _ _ _ _ O15.out.ri O16.out.2.ri (by omega)).mono ?_
  rintro e w17 ⟨rfl, b17⟩
  have g17 := bnext g16 b17 g16.size
  obtain ⟨z0, z1, z2⟩ : w17.cell? ⟨v5, 0, none⟩ = some (.int .i64 rp) ∧ w17.cell? ⟨v5, 1, none⟩ = some (.slice A5 n15 c5) ∧ w17.cell? ⟨v5, 2, none⟩ = some (.int .i64 rc) := ⟨one_cell b17 (K16.out.1.cell (j := 0) rfl), one_cell b17 (K16.out.1.cell (j := 1) rfl), one_cell b17 (K16.out.1.cell (j := 2) rfl)⟩
  go_wp2_with fail
  clear z0 z1 z2
  refine (heldQ1_any _ (1) _ _ (O16.out.1.below b17).ri (by omega) (by omega) (by omega)).mono ?_
  rintro e w18 ⟨rfl, b18⟩
  have g18 := bnext g17 b18 g17.size
  go_wp2
  go_ret
  exact ⟨rfl, g18⟩

set_option maxRecDepth 100000 in
theorem lifted (os : Os) (started : os.Started) (H : Type) (enc : TypeId × Value → H) :
    ReturnsInHanded {} Try.checked os 6 .any (Rows.fnExactWrapShapeSpec.pre6 enc Try.prog Try.f6 Rows.fnExactWrapShapeRow.domain false) (Rows.fnExactWrapShapeSpec.post enc Try.prog Try.f6 false true false false) := by
  refine returnsInHanded_of_change (C := Try.checked) own started (by kernel_rfl) Try.func6
    (ChangeSpec.witness6 (enc := enc) (C := Try.checked) false ⟨#[], #[.slice none 0 0, .int .i64 0, .int .i64 0], []⟩ 8 (by kernel_rfl) (by kernel_rfl) (by kernel_rfl) (by kernel_rfl)) ?_
  intro W base args ds gs before hval0 hW hcnd _
  have hval : ∀ (j : Nat) t v, Try.f6.params[j]? = some t → args[j]? = some v → Value.okWide Try.prog W .any base t v := hval0
  have hW' := hW
  obtain ⟨p, q, hA0, hV, rfl, hfz, hnd⟩ := hW
  have hA : DataW.TrodAll enc Try.prog W 0 (fun _ => true) true Try.f6.params.toList args.toList ds p := hA0
  rw [Try.params6] at hA hval
  obtain ⟨v0, vs0, d0, ds0, p0, q0, hargs, rfl, rfl, h0, r0⟩ := trodAll_cons hA
  obtain ⟨v1, vs1, d1, ds1, p1, q1, rfl, rfl, rfl, h1, r1⟩ := trodAll_cons r0
  obtain ⟨v2, vs2, d2, ds2, p2, q2, rfl, rfl, rfl, h2, r2⟩ := trodAll_cons r1
  obtain ⟨rfl, rfl, rfl⟩ := trodAll_nil r2
  obtain rfl : args = #[v0, v1, v2] := by cases args; simp_all
  obtain ⟨rfl, rfl⟩ := trodVars_none hV
  obtain ⟨a0, len0, cap0, rfl⟩ := okWide_slice Try.underlying30 (hval 0 30 v0 rfl rfl)
  have k0 := h0
  have lt0 : ∀ x ∈ p0, x.block < W.heap.size := by obtain ⟨m, hm⟩ := k0; exact DataW.trod_lt m _ _ _ hm
  obtain ⟨l0, x0, y0⟩ := open_RI h0
  obtain ⟨a1, rfl, rfl, rfl, w1⟩ := open_int Try.underlying3 (hval 1 3 v1 rfl rfl) h1
  obtain ⟨a2, rfl, rfl, rfl, w2⟩ := open_int Try.underlying3 (hval 2 3 v2 rfl rfl) h2
  clear hA0 hval0
  refine (walk cap0 a1 a2 x0 y0 (wfI w1) (wfI w2)).mono fun e W' ⟨he, bel⟩ => ?_
  subst he
  exact ⟨_, rfl, _, _, _, [], _, [], hW', trodAll_mk1 (shut_bool Try.underlying4 _), (trodAll_cons_mk (Below.trod laidOut (by kernel_rfl) (of_decide_eq_true (by kernel_rfl)) k0 bel lt0) (trodAll_cons_mk (shut_int Try.underlying3 w1) (trodAll_cons_mk (shut_int Try.underlying3 w2) trodAll_mk0))), rfl, bel.frame _, fun h => by cases h⟩

theorem over : Rows.fnExactWrapShapeRow.holds Try.pinned (OpenSpec.ofChange Rows.fnExactWrapShapeSpec) :=
  OpenClaim.holds_of_wide 6 Try.f6 rfl rfl rfl rfl rfl rfl rfl ⟨rfl, rfl, rfl, rfl, rfl⟩ rfl rfl rfl rfl rfl (by kernel_rfl) Try.func6 (by kernel_rfl)
    (of_decide_eq_true (by kernel_rfl)) (by unfold Func.isWrapper; first | (rw [if_pos (by decide +kernel)]; kernel_rfl) | (rw [if_neg (by decide +kernel)]; exact ⟨rfl, rfl⟩))
    (fun os started H enc _ => lifted os started H enc)

theorem proved : Rows.FnExactWrapShapeSaid := over
end Go.Proofs.Ytmodpicemlkbjaa.lawWrapShape
