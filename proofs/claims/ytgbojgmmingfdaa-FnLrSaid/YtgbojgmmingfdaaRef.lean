/- l4Strip and l4Lattice of the reference. -/
import Derived.Test.YtgbojgmmingfdaaPlain
import Derived.Test.YtgbojgmmingfdaaAdd
import Derived.Test.YtgbojgmmingfdaaLayerRow
import Derived.Test.YtgbojgmmingfdaaShapes
import Derived.Deep.DeepCutAuto
import Derived.Deep.CutRange
namespace Go.Proofs.Ytgbojgmmingfdaa
open Go.RowKit

/-- What a search leaves that adds shapes to parts. -/
def AddsL (w : World) (base b : Nat) (ps : List (List Int × Int)) (L : List (List Int)) : Ending → World → Prop := fun e w' =>
  ∃ v' cells', e = .returned v' ∧ OP w' base b v' (addAll ps L) cells' ∧ Below w.heap.size w w'
theorem Okp.smallP {ps : List (List Int × Int)} {N : Int} (h : Okp ps N) (hN : N ≤ 100000000000) : SmallP ps := fun k hk => by
  have h1 := h.short _ (nthP_mem hk)
  have h2 := h.grows.cnt _ (nthP_mem hk)
  refine ⟨by omega, by omega, by omega⟩
/-- What l4Lattice is shown to do at the i-th number. -/
def LatP (mus : List Nat) (i : Nat) : Prop := ∀ (w : World) (base b rows : Nat) (most : Int) (As Am Al : Option Addr) (ns cs nm cm cl : Nat) (s1 s lastl : List Int) (last : Option (List Int)) (v : Value) (ps : List (List Int × Int)) (cells : List Value) (N : Int),
    RI w As ns s1 → ns ≤ cs → padL s1 rows = s → ns ≤ rows → rows ≤ 16 → 0 ≤ most → most ≤ 1000 → RI w Am nm (fI mus) → RI w Al rows lastl → rows ≤ cl → last = (if i = 0 then none else some lastl) → (∀ put : List Int, Inv rows 0 most s s (List.replicate rows 0) last) → (∀ c ∈ mus, c ≤ 1000) → mus.length ≤ 1000 →
    OP w base b v ps cells → Okp ps N → N + (layerC rows most (fI (mus.drop i)) s (undB rows last)).length ≤ 100000000000 → base ≤ w.heap.size → b ≤ w.heap.size →
    Calls Try.prog 180 #[.slice As ns cs, .slice Am nm cm, .int .i64 (rows : Int), .int .i64 most, .int .i64 (i : Int), .slice Al rows cl, v] w
      (AddsL w base b ps (layerC rows most (fI (mus.drop i)) s (undB rows last)))
def StripP (mus : List Nat) (i d : Nat) : Prop := ∀ (w : World) (base b rows row ns cs nm cm ch cl : Nat) (most : Int) (As Am Ah Al : Option Addr) (s1 s old put lastl : List Int) (last : Option (List Int)) (L : Nat) (v : Value) (ps : List (List Int × Int)) (cells : List Value) (N left : Int),
    row = rows - d → d ≤ rows → left = (L : Int) → L ≤ 1000 → row ≤ ns → RI w As ns s1 → ns ≤ cs → padL s1 rows = s → ns ≤ rows → rows ≤ 16 → 0 ≤ most → most ≤ 1000 → RI w Am nm (fI mus) → RI w Ah rows put → rows ≤ ch → RI w Al rows lastl → rows ≤ cl → last = (if i = 0 then none else some lastl) → Inv rows row most s old put last →
    (∀ c ∈ mus, c ≤ 1000) → mus.length ≤ 1000 → i < mus.length →
    OP w base b v ps cells → Okp ps N → N + (layerR rows most (layerK rows most (fI (mus.drop (i + 1)))) old (undB rows last) d s (L : Int) put).length ≤ 100000000000 → base ≤ w.heap.size → b ≤ w.heap.size →
    Calls Try.prog 196 #[.slice As ns cs, .slice Am nm cm, .int .i64 (rows : Int), .int .i64 most, .int .i64 (i : Int), .int .i64 (row : Int), .int .i64 left, .slice Ah rows ch, .slice Al rows cl, v] w
      (AddsL w base b ps (layerR rows most (layerK rows most (fI (mus.drop (i + 1)))) old (undB rows last) d s (L : Int) put))

set_option maxRecDepth 100000 in
set_option maxHeartbeats 1000000 in
theorem strip_end (mus : List Nat) (i d : Nat) (hLat : LatP mus (i + 1)) (ih : ∀ d', d = d' + 1 → StripP mus i d') : StripP mus i d := by
  intro w base b rows row ns cs nm cm ch cl most As Am Ah Al s1 s old put lastl last L v ps cells N left hrow hd hleft hL hrn hs hcs hpad hns h16 hm0 hm1 hmu hh hch hla hcl hlast inv hc hmul hi ho hok hN hb1 hb2
  subst hleft
  by_cases hz : L = 0
  · subst hz
    have e := inv.layer_zero (K := layerK rows most (fI (mus.drop (i + 1)))) d (by omega) hd
    rw [show ((0 : Nat) : Int) = 0 from rfl] at hN ⊢
    rw [e] at hN ⊢
    have HCALL : Hid (Calls Try.prog 180 #[.slice As ns cs, .slice Am nm cm, .int .i64 (rows : Int), .int .i64 most, .int .i64 ((i : Int) + 1), .slice Ah rows ch, v] w
      (AddsL w base b ps (layerK rows most (fI (mus.drop (i + 1))) s put))) :=
      hLat w base b rows most As Am Ah ns cs nm cm ch s1 s put (some put) v ps cells N hs hcs hpad hns h16 hm0 hm1 hmu hh hch (by simp) (fun _ => inv.next hm1) hc hmul ho hok hN hb1 hb2
    clear hLat ih hs hmu hh hla ho hok hN e inv hrow
    go_enter Try.func196, Try.ntmps196
    go_wp2_with fail
    refine HCALL.out.mono ?_
    rintro e w1 ⟨v1, cells1, rfl, h1, h2⟩
    go_wp2
    go_ret
    exact ⟨v1, cells1, rfl, h1, h2⟩
  cases d with
  | zero =>
    have e := layerR_end (rows := rows) (most := most) (K := layerK rows most (fI (mus.drop (i + 1)))) (old := old) (under := undB rows last) (shape := s) (put := put) (left := (L : Int)) (by omega)
    have HE := Lib.hid e
    obtain rfl : row = rows := by omega
    obtain rfl : ns = row := by omega
    clear e hN hrow ih hLat inv
    have hz1 : decide (L = 0) = false := decide_eq_false hz
    go_enter Try.func196, Try.ntmps196
    go_wp2
    go_ret
    rw [HE.out]
    exact ⟨v, cells, rfl, ho, Below.refl _ _⟩
  | succ d =>
    obtain ⟨KK, hKK⟩ : ∃ KK, KK = layerK rows most (fI (mus.drop (i + 1))) := ⟨_, rfl⟩
    rw [← hKK] at hN ⊢
    have HKK := Lib.hid hKK
    clear hKK
    have hrr : row < rows := by omega
    have HMOST := Lib.hid (inv.most_at (left := (L : Int)) hrr)
    have HIH := Lib.hid (ih d rfl)
    obtain ⟨mo, hmo⟩ : ∃ mo, mo = mostAt most old (undB rows last) put L row := ⟨_, rfl⟩
    have hmoL : mo ≤ L := by rw [hmo]; exact mostAt_left _ _ _ _ _ _
    have HMO := Lib.hid hmo
    have HINV := Lib.hid inv
    have HROW := Lib.hid hrow
    have HPAD := Lib.hid hpad
    have HLAST := Lib.hid hlast
    have HOP := Lib.hid ho
    have HOK := Lib.hid hok
    have HN := Lib.hid hN
    have HS := Lib.hid hs
    have HMU := Lib.hid hmu
    have HH := Lib.hid hh
    have HLA := Lib.hid hla
    have HC := Lib.hid hc
    obtain ⟨S, hS⟩ : ∃ S, S = nth s row := ⟨_, rfl⟩
    have hSb : 0 ≤ S ∧ S ≤ most := by rw [hS, inv.sum, inv.zero row (Nat.le_refl _)]; have h1 := (inv.bold row).1; have h2 := inv.top row; rw [inv.sum, inv.zero row (Nat.le_refl _)] at h2; omega
    have hAt : Hid (∀ W, RI W As ns s1 → Calls Try.prog 182 #[.slice As ns cs, .int .i64 (row : Int)] W (Gives W (.int .i64 S))) := fun W h => by
      have := l4At_any cs (row : Int) h (by omega) (by omega)
      rw [Int.toNat_natCast, show nth s1 row = S by rw [hS, ← HPAD.out, nth_padL]] at this
      exact this
    have HSS := Lib.hid hS
    have hd1 : decide ((ns : Int) < (row : Int)) = false := decide_eq_false (by omega)
    have hd2 : decide ((rows : Int) ≤ (row : Int)) = false := decide_eq_false (by omega)
    have hd3 : decide ((L : Int) = 0) = false := decide_eq_false (by omega)
    obtain ⟨M1, hM1⟩ : ∃ M1, M1 = min (L : Int) (most - S) := ⟨_, rfl⟩
    have HM1 := Lib.hid hM1
    have hL0 : ¬ (L : Int) = 0 := by omega
    obtain ⟨M2, hM2⟩ : ∃ M2, M2 = refU last put row M1 := ⟨_, rfl⟩
    have HM2 := Lib.hid hM2
    clear hM2 hM1 hS hrow inv hpad hlast ho hok hN hmu hh hla hc hmo ih hLat
    go_enter Try.func196, Try.ntmps196
    go_upto_if 54 with (go_at_call 182; refine (hAt.out _ (by first | exact hs | exact hs.drewN _)).mono ?_; rintro e w' ⟨rfl, q0, rfl⟩)
    rw [show (if most - S < (L : Int) then most - S else (L : Int)) = M1 by rw [HM1.out, Int.min_def]; split <;> split <;> omega]
    go_cut [21] (fun v21 wx => v21 = .int .i64 M2 ∧ ∃ q, wx = w.drewN q)
    case first =>
      by_cases hi0 : i = 0
      · have hm : Value.int .i64 M1 = .int .i64 M2 := by rw [HM2.out, HLAST.out, if_pos hi0]; rfl
        have HM := Lib.hid hm
        have hid : decide ((0 : Int) < (i : Int)) = false := decide_eq_false (by omega)
        clear hm
        go_wp2
        go_meet
        exact ⟨HM.out, _, rfl⟩
      · have hlast : last = some lastl := by rw [HLAST.out, if_neg hi0]
        have hid : decide ((0 : Int) < (i : Int)) = true := decide_eq_true (by omega)
        obtain ⟨D, hD⟩ : ∃ D, D = sumTo lastl row - sumTo put row := ⟨_, rfl⟩
        have hu := HINV.out.und lastl hlast
        have hb1' := hu.2.1.sum row
        have hb2' := HINV.out.bput.sum row
        have hw : IntKind.i64.wrap (sumTo lastl row - sumTo put row) = D := by rw [hD]; exact IntWalk.i64_in _ (by omega)
        have hm : Value.int .i64 (if D < M1 then D else M1) = .int .i64 M2 := by
          rw [HM2.out, hlast, refU, ← hD, Int.min_def]; congr 1; split <;> split <;> omega
        have HM := Lib.hid hm
        have HSA : Hid (∀ W, RI W Al rows lastl → Calls Try.prog 58 #[.slice Al row cl] W (Gives W (.int .i64 (sumTo lastl row)))) := fun W h => by
          have := sSum_any cl (h.take (k := row) (by omega)) ((hu.2.1.take (by omega) row).small) (by omega)
          rw [sumL_take (by rw [hu.1]; omega)] at this
          exact this
        have HSB : Hid (∀ W, RI W Ah rows put → Calls Try.prog 58 #[.slice Ah row ch] W (Gives W (.int .i64 (sumTo put row)))) := fun W h => by
          have := sSum_any ch (h.take (k := row) (by omega)) ((HINV.out.bput.take (by omega) row).small) (by omega)
          rw [sumL_take (by rw [HINV.out.lp]; omega)] at this
          exact this
        have hrl : (row : Int) ≤ (cl : Int) := by omega
        have hrh : (row : Int) ≤ (ch : Int) := by omega
        clear hm hD hu hb1' hb2'
        go_wp2
        go_quiet ((go_at_call 58; with_reducible first | exact qcall_add (HSA.out _ (HLA.out.drewN _)) | exact qcall_add (HSB.out _ (HH.out.drewN _))))
        go_wp2
        all_goals go_meet
        all_goals exact ⟨by rw [← HM.out]; split <;> first | rfl | omega, _, rfl⟩
    case rest =>
      obtain ⟨rfl, q1, rfl⟩ := hcut
      go_upto_if 67 with fail
      go_cut [21] (fun v21 wx => v21 = .int .i64 mo ∧ ∃ q, wx = w.drewN q)
      case first =>
        have hmo : mo = refM row (nth s (row - 1)) (nth put (row - 1)) S M2 := by rw [HMO.out, HMOST.out, ← HSS.out, ← HM1.out, ← HM2.out]
        by_cases hr0 : row = 0
        · have hrd : decide ((0 : Int) < (row : Int)) = false := decide_eq_false (by omega)
          have hrd2 : decide (0 < row) = false := decide_eq_false (by omega)
          have HM : Hid (Value.int .i64 M2 = .int .i64 mo) := by show _ = _; rw [hmo, refM, if_pos hr0]
          clear hmo
          go_wp2
          go_meet
          exact ⟨HM.out, _, rfl⟩
        · have hrd : decide ((0 : Int) < (row : Int)) = true := decide_eq_true (by omega)
          have hrd2 : decide (0 < row) = true := decide_eq_true (by omega)
          obtain ⟨P, hP⟩ : ∃ P, P = row - 1 := ⟨_, rfl⟩
          obtain ⟨SP, hSP⟩ : ∃ x, x = nth s P := ⟨_, rfl⟩
          obtain ⟨ad, hA, hcp⟩ := HH.out.cell (k := P) (by omega)
          subst hA
          obtain ⟨PP, hPP⟩ : ∃ x, x = nth put P := ⟨_, rfl⟩
          rw [← hPP] at hcp
          obtain ⟨E1, hE1⟩ : ∃ x, x = SP - PP := ⟨_, rfl⟩
          obtain ⟨E2, hE2⟩ : ∃ x, x = E1 - S := ⟨_, rfl⟩
          have hsp : 0 ≤ SP ∧ SP ≤ 2000 := by rw [hSP, HINV.out.sum]; have h1 := HINV.out.bold P; have h2 := HINV.out.bput P; omega
          have hpp := HINV.out.bput P
          rw [← hPP] at hpp
          have hw1 : IntKind.i64.wrap ((row : Int) - 1) = (P : Int) := by rw [show (row : Int) - 1 = (P : Int) by omega]; exact IntWalk.i64_in _ (by omega)
          have hw2 : IntKind.i64.wrap (SP - PP) = E1 := by rw [hE1]; exact IntWalk.i64_in _ (by omega)
          have hw3 : IntKind.i64.wrap (E1 - S) = E2 := by rw [hE2]; exact IntWalk.i64_in _ (by omega)
          have hPr : (P : Int) < (rows : Int) := by omega
          have HM : Hid (Value.int .i64 (if E2 < M2 then E2 else M2) = .int .i64 mo) := by
            show _ = _
            rw [hmo, refM, if_neg hr0, ← hP, ← hSP, ← hPP, ← hE1, ← hE2, Int.min_def]; congr 1; split <;> split <;> omega
          have hAtP : Hid (∀ W, RI W As ns s1 → Calls Try.prog 182 #[.slice As ns cs, .int .i64 (P : Int)] W (Gives W (.int .i64 SP))) := fun W h => by
            have := l4At_any cs (P : Int) h (by omega) (by omega)
            rw [Int.toNat_natCast, show nth s1 P = SP by rw [hSP, ← HPAD.out, nth_padL]] at this
            exact this
          clear hmo hP hSP hPP hE1 hE2 hsp hpp
          go_wp2
          go_quiet ((go_at_call 182; with_reducible first | exact qcall_add (hAtP.out _ (HS.out.drewN _)) | exact qcall_add (hAt.out _ (HS.out.drewN _))))
          go_wp2
          all_goals go_meet
          all_goals exact ⟨by rw [← HM.out]; split <;> first | rfl | omega, _, rfl⟩
      case rest =>
        obtain ⟨rfl, q2, rfl⟩ := hcut
        obtain ⟨cnt, hcnt⟩ : ∃ c, c = (mo + 1).toNat := ⟨_, rfl⟩
        have HCNT : Hid (∀ k : Nat, k < cnt ↔ (k : Int) ≤ mo) := fun k => by omega
        have HNC : Hid (layerR rows most (KK) old (undB rows last) (d + 1) s (L : Int) put = layerN rows most (KK) old (undB rows last) d s (L : Int) put cnt) := by
          show _ = _
          rw [layerR_row, ← HROW.out, ← HMO.out, ← hcnt]
        have hcl1 : cnt ≤ L + 1 := by omega
        clear hcnt
        go_wp2
        go_loopw [9, 22, 23, 24] (fun l n _ _ wr => ∃ k : Nat, k ≤ cnt ∧ n = .int .i64 (k : Int) ∧ ∃ cells', Hid (OP wr base b l (addAll ps (layerN rows most (KK) old (undB rows last) d s (L : Int) put k)) cells' ∧ Below w.heap.size w wr)) (fun _ n _ _ _ => L + 1 - (intOf n).toNat)
        case atStart => exact ⟨0, Nat.zero_le _, rfl, cells, by rw [layerN_zero, addAll_nil]; exact OP.below HOP.out (Quiet.below ⟨_, rfl⟩), Quiet.below ⟨_, rfl⟩⟩
        case round =>
          obtain ⟨k, hk, rfl, cells', hh⟩ := hrel
          by_cases hkc : k < cnt
          · have hkm : (k : Int) ≤ mo := (HCNT.out k).mp hkc
            have hkL : k ≤ L := by omega
            have hsk : S + (k : Int) ≤ 1000 ∧ 0 ≤ S := by
              have h1 := (HINV.out.step hrr (left := (L : Int)) (n := k) (by rw [← HMO.out]; exact hkm) hm1).top row
              rw [nth_set_eq (by rw [HINV.out.ls]; exact hrr), ← HSS.out] at h1
              omega
            have hri := HS.out.below hh.out.2
            go_wp2_with fail
            refine (l1Ints_any _ hri (by omega)).mono ?_
            rintro e w1 ⟨A1, n1, c1, rfl, o1, r1, ⟨cp1, le1⟩, b1⟩
            obtain rfl : ns = n1 := HS.out.1.symm.trans r1.1
            have hB1 : Below w.heap.size w w1 := hh.out.2.trans (b1.mono hh.out.2.size)
            go_upto_if 94 with fail
            go_cut [23] (fun v23 wx => ∃ g n c s2, v23 = .slice (some ⟨g, 0, none⟩) n c ∧ Hid (OI wx wr.heap.size (.slice (some ⟨g, 0, none⟩) n c) s2 ∧ padL s2 rows = s ∧ Below wr.heap.size wr wx) ∧ row < n ∧ n ≤ rows ∧ n ≤ c)
            case first =>
              by_cases hre : row = ns
              · have hred : decide ((row : Int) = (ns : Int)) = true := decide_eq_true (by omega)
                have hred2 : ((row : Int) == (ns : Int)) = true := by simp; omega
                have HRE := Lib.hid hre
                clear hre
                go_wp2_with (at_builtin; refine wpAppI rfl _ _ rfl wr.heap.size (.slice A1 ns c1) s1 [0] (some ⟨w1.heap.size, 0, none⟩) 1 1 rfl rfl (by exact o1.alloc _) (by exact RI.one w1 _) (by rw [HS.out.1]; omega) (by have := b1.size; simp; omega) ?_; intro v3 w3 h1 h2 h3)
                have hre := HRE.out
                obtain ⟨A3, n3, c3, rfl, h4, h5, h6, _⟩ := h1.form
                obtain rfl : n3 = ns + 1 := by have := h4.1; rw [List.length_append, HS.out.1] at this; simp at this; omega
                obtain ⟨g3, rfl⟩ := h1.some_ (by omega)
                have hB3 : Below wr.heap.size wr w3 := ((b1.alloc b1.size _).grown h2 (by have := b1.size; simp; omega) (fun g e => (o1.lt g e).1))
                go_meet
                exact ⟨g3, ns + 1, c3, s1 ++ [0], rfl, ⟨h1, by rw [padL_snoc (by rw [HS.out.1]; omega)]; exact HPAD.out, hB3⟩, by omega, by omega, h5⟩
              · have hred : decide ((row : Int) = (ns : Int)) = false := decide_eq_false (by omega)
                obtain ⟨g1, rfl⟩ := o1.some_ (by omega)
                go_wp2
                go_meet
                exact ⟨g1, ns, c1, s1, rfl, ⟨o1, HPAD.out, b1⟩, by omega, by omega, cp1⟩
            case rest =>
              obtain ⟨g1, n1, c2, s2, rfl, hf, hrn1, hn1r, hnc⟩ := hcut
              have hc1 := hf.out.1.cellAt hrn1
              rw [show nth s2 row = S by rw [HSS.out, ← hf.out.2.1, nth_padL]] at hc1
              have hf1 := hf.out.1.frozenAt row
              have hw1 : IntKind.i64.wrap (S + (k : Int)) = S + (k : Int) := IntWalk.i64_in _ (by omega)
              have HO1 := Lib.hid (hf.out.1.stored row (S + (k : Int)))
              have HB1 : Hid (Below wr.heap.size wr (wc.setCell ⟨g1, row, none⟩ (.int .i64 (S + (k : Int))))) := hf.out.2.2.setCell (hf.out.1.lt g1 rfl).1 _
              have HG1 : Hid (g1 < wc.heap.size) := (hf.out.1.lt g1 rfl).2
              obtain ⟨W1, hW1⟩ : ∃ W1, W1 = wc.setCell ⟨g1, row, none⟩ (.int .i64 (S + (k : Int))) := ⟨_, rfl⟩
              have HW1 := Lib.hid hW1
              have hrp : RI W1 Ah rows put := by rw [hW1]; exact (HH.out.below hh.out.2).below HB1.out
              have hsz1 : W1.heap.size = wc.heap.size := by rw [hW1]; simp [World.setCell]
              have HSZ := Lib.hid hsz1
              clear hW1 hsz1 o1 b1 r1 hB1
              go_wp2_with fail
              rw [← HW1.out]
              refine (l1Ints_any _ hrp (by omega)).mono ?_
              rintro e w2 ⟨A2, n2, c3, rfl, o2, r2, ⟨cp2, le2⟩, b2⟩
              obtain rfl : rows = n2 := by rw [← r2.1]; exact HINV.out.lp.symm
              obtain ⟨g2, rfl⟩ := o2.some_ (by omega)
              have hc2 := o2.cellAt hrr
              have hf2 := o2.frozenAt row
              have HO2 := Lib.hid (o2.stored row (k : Int))
              obtain ⟨W2, hW2⟩ : ∃ W2, W2 = w2.setCell ⟨g2, row, none⟩ (.int .i64 (k : Int)) := ⟨_, rfl⟩
              have HW2 := Lib.hid hW2
              have hB12 : Below W1.heap.size W1 W2 := by rw [hW2]; exact b2.setCell (o2.lt g2 rfl).1 _
              have hBr1 : Below wr.heap.size wr W1 := by rw [HW1.out]; exact HB1.out
              have hBw1 : Below w.heap.size w W1 := hh.out.2.trans (hBr1.mono hh.out.2.size)
              have hBw2 : Below w.heap.size w W2 := hBw1.trans (hB12.mono hBw1.size)
              have hBr2 : Below wr.heap.size wr W2 := hBr1.trans (hB12.mono hBr1.size)
              have hri1 : RI W2 (some ⟨g1, 0, none⟩) n1 (s2.set row (S + (k : Int))) := by
                have h1 := HO1.out.1
                rw [← HW1.out] at h1
                exact (OI.below h1 hB12).ri
              have hri2 : RI W2 (some ⟨g2, 0, none⟩) rows (put.set row (k : Int)) := by rw [hW2]; exact HO2.out.1.ri
              have hLK : (L : Int) - (k : Int) = ((L - k : Nat) : Int) := by omega
              have hinv := HINV.out.step hrr (left := (L : Int)) (n := k) (by rw [← HMO.out]; exact hkm) hm1
              rw [← HSS.out] at hinv
              have hlenN : ∀ t ∈ layerN rows most KK old (undB rows last) d s (L : Int) put k, t.length ≤ 1000 := fun t ht => by
                rw [layerN_rows (m := rows) (fun s p hs => by rw [HKK.out]; exact layerK_rows _ s p rows hs) HINV.out.ls k t ht]; omega
              have hNs := layerN_succ (rows := rows) (most := most) (K := KK) (old := old) (under := undB rows last) (d := d) (shape := s) (left := (L : Int)) (put := put) k
              rw [← HROW.out, ← HSS.out, hLK] at hNs
              have hNb : N + ((layerN rows most KK old (undB rows last) d s (L : Int) put k).length : Int) + ((layerR rows most KK old (undB rows last) d (s.set row (S + (k : Int))) ((L - k : Nat) : Int) (put.set row (k : Int))).length : Int) ≤ 100000000000 := by
                have h2 := layerN_mono (rows := rows) (most := most) (K := KK) (old := old) (under := undB rows last) (d := d) (shape := s) (left := (L : Int)) (put := put) (c1 := k + 1) (c2 := cnt) (by omega)
                rw [hNs, List.length_append] at h2
                have h3 := HN.out
                rw [HNC.out] at h3
                omega
              have HCALL : Hid (∀ r' l' : Int, r' = (row : Int) + 1 → l' = (L : Int) - (k : Int) → Calls Try.prog 196 #[.slice (some ⟨g1, 0, none⟩) n1 c2, .slice Am nm cm, .int .i64 (rows : Int), .int .i64 most, .int .i64 (i : Int), .int .i64 r', .int .i64 l', .slice (some ⟨g2, 0, none⟩) rows c3, .slice Al rows cl, u9] W2
                  (AddsL W2 base b ps (layerN rows most KK old (undB rows last) d s (L : Int) put (k + 1)))) := fun r' l' hr' hl' => by
                have hrw := HROW.out
                have h1 := HIH.out W2 base b rows (row + 1) n1 c2 nm cm c3 cl most (some ⟨g1, 0, none⟩) Am (some ⟨g2, 0, none⟩) Al (s2.set row (S + (k : Int))) (s.set row (S + (k : Int))) old (put.set row (k : Int)) lastl last (L - k) u9 (addAll ps (layerN rows most KK old (undB rows last) d s (L : Int) put k)) cells' _ l'
                  (by omega) (by omega) (by omega) (by omega) (by omega) hri1 hnc (by rw [padL_set (by rw [hf.out.1.ri.1]; exact hrn1) (by rw [hf.out.1.ri.1]; exact hn1r), hf.out.2.1]) hn1r h16 hm0 hm1 (HMU.out.below hBw2) hri2 cp2 (HLA.out.below hBw2) hcl HLAST.out hinv HC.out hmul hi
                  (hh.out.1.below hBr2) (HOK.out.all _ hlenN) (by rw [← HKK.out]; exact hNb) (Nat.le_trans hb1 hBw2.size) (Nat.le_trans hb2 hBw2.size)
                rw [← HKK.out] at h1
                rw [hr', show ((row : Int) + 1) = ((row + 1 : Nat) : Int) by omega]
                refine h1.mono fun e w' ⟨v', cells', h2, h3, h4⟩ => ⟨v', cells', h2, ?_, h4⟩
                rw [hNs, addAll_append]
                exact h3
              have HBW2 := Lib.hid hBw2
              clear hri1 hri2 hinv hlenN hNs hNb hBw2 hBr2 hBw1 hBr1 hB12 o2 b2 r2 hW2 hLK hrp
              go_wp2_with fail
              rw [← HW2.out]
              refine (HCALL.out _ _ rfl rfl).mono ?_
              rintro e w3 ⟨v3, cells3, rfl, ho3, hb3⟩
              have HF3 : Hid (OP w3 base b v3 (addAll ps (layerN rows most KK old (undB rows last) d s (L : Int) put (k + 1))) cells3 ∧ Below w.heap.size w w3) := ⟨ho3, HBW2.out.trans (hb3.mono HBW2.out.size)⟩
              clear ho3 hb3
              go_wp2
              go_roundw
              case rel => exact ⟨k + 1, by omega, by go_num, cells3, HF3.out⟩
              case measure => simp [intOf]; omega
          · obtain rfl : k = cnt := by omega
            have hkm : ¬ (k : Int) ≤ mo := fun h => hkc ((HCNT.out k).mpr h)
            have hkm2 : decide ((k : Int) ≤ mo) = false := decide_eq_false hkm
            have HF : Hid (AddsL w base b ps (layerR rows most (KK) old (undB rows last) (d + 1) s (L : Int) put) (.returned u9) wr) := by
              show AddsL _ _ _ _ _ _ _
              rw [HNC.out]
              exact ⟨_, cells', rfl, hh.out.1, hh.out.2⟩
            go_wp2
            go_ret
            exact HF.out
end Go.Proofs.Ytgbojgmmingfdaa

/- l4Lattice, l4Product of the reference. -/
namespace Go.Proofs.Ytgbojgmmingfdaa
open Go.RowKit

theorem strip_any (mus : List Nat) (i : Nat) (h : LatP mus (i + 1)) : ∀ d, StripP mus i d := by
  intro d
  induction d with
  | zero => exact strip_end mus i 0 h (fun d' e => by omega)
  | succ d ih => exact strip_end mus i (d + 1) h (fun d' e => by obtain rfl : d = d' := by omega
                                                                 exact ih)
theorem OP.low {w : World} {base b base' b' : Nat} {v : Value} {ps : List (List Int × Int)} {cells : List Value} (h : OP w base b v ps cells) (h1 : base' ≤ base) (h2 : b' ≤ b) : OP w base' b' v ps cells := OF.mono h h1 h2

set_option maxRecDepth 100000 in
set_option maxHeartbeats 1000000 in
theorem lat_any (mus : List Nat) : ∀ n i, mus.length = i + n → LatP mus i := by
  intro n
  induction n with
  | zero =>
    intro i hin w base b rows most As Am Al ns cs nm cm cl s1 s lastl last v ps cells N hs hcs hpad hns h16 hm0 hm1 hmu hla hcl hlast hinv hc hmul ho hok hN hb1 hb2
    have hd : mus.drop i = [] := List.drop_eq_nil_of_le (by omega)
    rw [hd] at hN ⊢
    have hL : layerC rows most (fI []) s (undB rows last) = [s] := rfl
    rw [hL] at hN ⊢
    have hbe : bare s1 = bare s := by rw [← hpad, bare_padL (by rw [hs.1]; exact hns)]
    have hnm : nm = i := by rw [← hmu.1]; simp; omega
    have HOK := Lib.hid hok
    have HP := Lib.hid (hok.smallP (by simp at hN; omega))
    have HG := Lib.hid hok.grows.len
    have HBE := Lib.hid hbe
    have HN := Lib.hid hN
    have HHs := Lib.hid hs
    have HL1 : Hid ((ps.length : Int) ≤ 100000000000) := by have := HG.out; simp at hN; show _ ≤ _; omega
    clear hL hok hbe hN hinv hpad hd
    subst hnm
    go_enter Try.func180, Try.ntmps180
    go_wp2_with fail
    refine (l4Bare_any _ hs (by omega) hcs).mono ?_
    rintro e w1 ⟨A1, n1, c1, rfl, o1, r1, ⟨cp1, le1⟩, b1⟩
    have hln : n1 ≤ 16 := by rw [← r1.1]; unfold bare; rw [List.length_take, HHs.out.1]; omega
    go_wp2_with fail
    refine (l4Add_any c1 1 (ho.below b1) o1.ri (by omega) (by have := HL1.out; omega) HP.out (by omega) (by omega)).mono ?_
    rintro e w2 ⟨A2, n2, c2, cells2, rfl, o2, r2, ⟨cp2, le2⟩, b2⟩
    have HF : Hid (AddsL w base b ps [s] (.returned (.slice A2 n2 c2)) w2) :=
      ⟨_, cells2, rfl, by rw [addAll_one, ← HBE.out]; exact o2.low (Nat.le_trans hb1 b1.size) (Nat.le_trans hb2 b1.size), b1.trans (b2.mono b1.size)⟩
    clear o2 r2 b2
    go_wp2
    go_ret
    exact HF.out
  | succ n ih =>
    intro i hin w base b rows most As Am Al ns cs nm cm cl s1 s lastl last v ps cells N hs hcs hpad hns h16 hm0 hm1 hmu hla hcl hlast hinv hc hmul ho hok hN hb1 hb2
    obtain ⟨c, hcx⟩ : ∃ c, c = mus[i]'(by omega) := ⟨_, rfl⟩
    have hd : mus.drop i = c :: mus.drop (i + 1) := by rw [hcx]; exact List.drop_eq_getElem_cons (by omega)
    have hS := strip_any mus i (ih (i + 1) (by omega)) rows
    rw [hd] at hN ⊢
    rw [show fI (c :: mus.drop (i + 1)) = (c : Int) :: fI (mus.drop (i + 1)) from rfl, layerC_cons] at hN ⊢
    obtain ⟨LL, hLL⟩ : ∃ LL, LL = layerR rows most (layerK rows most (fI (mus.drop (i + 1)))) s (undB rows last) rows s (c : Int) (List.replicate rows 0) := ⟨_, rfl⟩
    rw [← hLL] at hN ⊢
    obtain ⟨ad, hA, hc0⟩ := hmu.cell (k := i) (by rw [← hmu.1]; simp; omega)
    subst hA
    have hnth : nth (fI mus) i = (c : Int) := by rw [nth_lt (by simp; omega)]; simp [hcx]
    rw [hnth] at hc0
    have hnm : nm = mus.length := by rw [← hmu.1]; simp
    have HCALL : Hid (∀ (X : World) (Ag : Option Addr), Below w.heap.size w X → RI X Ag rows (List.replicate rows 0) →
        Calls Try.prog 196 #[.slice As ns cs, .slice (some ad) nm cm, .int .i64 (rows : Int), .int .i64 most, .int .i64 (i : Int), .int .i64 0, .int .i64 (c : Int), .slice Ag rows rows, .slice Al rows cl, v] X
          (AddsL w base b ps LL)) := fun X Ag bX h1 => by
      have h2 := hS X base b rows 0 ns cs nm cm rows cl most As (some ad) Ag Al s1 s s (List.replicate rows 0) lastl last c v ps cells N (c : Int)
        (by omega) (Nat.le_refl _) rfl (hc c (by rw [hcx]; exact List.getElem_mem _)) (by omega) (hs.below bX) hcs hpad hns h16 hm0 hm1 (hmu.below bX) h1 (Nat.le_refl _) (hla.below bX) hcl hlast (hinv []) hc hmul (by omega) (ho.below bX) hok (by rw [← hLL]; exact hN) (Nat.le_trans hb1 bX.size) (Nat.le_trans hb2 bX.size)
      rw [← hLL, show ((0 : Nat) : Int) = 0 from rfl] at h2
      exact h2.mono fun e w' ⟨v', cells', h3, h4, h5⟩ => ⟨v', cells', h3, h4, bX.trans (h5.mono bX.size)⟩
    have hmk := run_make_row' (P := Try.prog) 22 3 (.int .i64 0) 8 Try.underlying22 Try.infoInt rfl .i64 .i64 rows (by omega) (by omega)
    have HC0 := Lib.hid hc0
    have hr9 : rows ≤ 1000000000 := by omega
    have hq1 : (i : Int) < (nm : Int) := by omega
    have hq2 : decide ((i : Int) = (nm : Int)) = false := decide_eq_false (by omega)
    have HDA : Hid (∀ o, (w.alloc o).drew.cell? (ad.add i) = some (.int .i64 (c : Int))) := fun o => by
      have h1 : (w.alloc o).cell? (ad.add i) = some (.int .i64 (c : Int)) := one_cell ((Below.refl _ _).alloc (Nat.le_refl _) _) hc0
      exact h1
    have HCF : Hid (∀ W, Below w.heap.size w W → W.cell? (ad.add i) = some (.int .i64 (c : Int))) := fun W bW => one_cell bW hc0
    clear hnm hS ih hd hs hpad hmu hla hinv hc ho hok hN hLL hnth hcx hin hlast
    go_enter Try.func180, Try.ntmps180
    go_wp2
    go_region_held3 (fun w' => w'.cell? (ad.add i) = some (.int .i64 (c : Int))) (first | exact hc0 | exact HCF.out _ hb' | exact HDA.out _ | exact one_cell ((Below.refl _ _).alloc (Nat.le_refl _) _) HC0.out) ((go_at_call 196; (with_reducible refine (HCALL.out _ _ ?_ ?_).mono ?_); (first | exact (Below.refl _ _).alloc (Nat.le_refl _) _ | exact below_drewN ((Below.refl _ _).alloc (Nat.le_refl _) _) 1); (first | exact (made_OI w rows hr9).ri | exact ((made_OI w rows hr9).ri).drewN 1); rintro e wF ⟨v', cells', rfl, hv', hb'⟩))
    all_goals go_wp2
    all_goals go_ret
    all_goals exact ⟨v', cells', rfl, hv', hb'⟩
end Go.Proofs.Ytgbojgmmingfdaa
