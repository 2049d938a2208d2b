/- allReduced of the program: all reduced words. -/
import Derived.Test.YtgbojgmmingfdaaBegW
namespace Go.Proofs.Ytgbojgmmingfdaa
open Go.RowKit

theorem permB_of {w : List Int} (h : Prm w) (h1 : 1 ≤ w.length) (h7 : w.length ≤ 7) : permB w = true := by
  rw [permB_all rfl fun j hj => ?_]
  · exact inB_yes (by omega) (by omega)
  · have hr := h.rng j hj
    refine permAt_yes rfl hr.1 hr.2 ?_
    unfold hasB
    rw [decide_eq_false_iff_not]
    rintro ⟨i, hi, e⟩
    rw [List.length_take] at hi
    rw [nth_take (by omega)] at e
    have := h.inj i j (by omega) hj e
    omega
theorem permB_vsw {w : List Int} (h : permB w = true) {k : Nat} (hk : ldes w k) : permB (vsw k w) = true := by
  have hp := prm_of h
  have hs := permB_size h
  exact permB_of (hp.vsw (ldes_lt hp hk)) (by rw [vsw_len]; exact hs.1) (by rw [vsw_len]; exact hs.2)
theorem OS.lenS {w : World} {base b n c : Nat} {A : Option Addr} {ls : List (List Int)} {cells : List Value} (h : OS w base b (.slice A n c) ls cells) : ls.length = n := by
  obtain ⟨A', n', c', e, h1, -⟩ := OS.form h
  rw [h1, (slice_inj e).2.1]
/-- What holds in the loops of allReduced. -/
structure AllS (w wr : World) (nv rv ov : Value) (ns : List Int) (rs L : List (List Int)) (rcells cells : List Value) : Prop where
  n : OI wr w.heap.size nv ns
  r : OS wr w.heap.size w.heap.size rv rs rcells
  o : OS wr w.heap.size w.heap.size ov L cells
  ro : ∀ g, ov.ownBlock = some g → rv.ownBlock ≠ some g
  bel : Below w.heap.size w wr
section
variable {w w1 w2 : World} {nv rv ov ov' tv u : Value} {ns : List Int} {rs L L' ts : List (List Int)} {rcells cells cells' tcells : List Value}
theorem AllS.below (h : AllS w w1 nv rv ov ns rs L rcells cells) (b : Below w1.heap.size w1 w2) : AllS w w2 nv rv ov ns rs L rcells cells :=
  ⟨h.n.below b, OF.below h.r b, OF.below h.o b, h.ro, h.bel.trans (b.mono h.bel.size)⟩
theorem AllS.app (h : AllS w w1 nv rv ov ns rs L rcells cells) (hg : w1.grownBy w2 ov.ownBlock) (ho : OS w2 w.heap.size w.heap.size ov' L' cells') (hk : ov'.ownBlock = ov.ownBlock ∨ ∀ g, ov'.ownBlock = some g → w1.heap.size ≤ g) : AllS w w2 nv rv ov' ns rs L' rcells cells' := by
  have htr : ∀ g, ov.ownBlock = some g → ∃ cs e m, w1.heap[g]? = some (.cells cs e m) ∧ e ≠ 3 := OF.typed' h.o (by decide)
  refine ⟨h.n.kept_type hg htr, OF.kept h.r hg ?_ htr, ho, fun g e e2 => ?_, h.bel.grown hg h.bel.size fun k hk => (OF.lt h.o k hk).1⟩
  · rcases hr : rv.ownBlock with _ | g
    · exact .inl rfl
    · exact .inr fun e => h.ro g e.symm hr
  · rcases hk with hk | hk
    · rw [hk] at e; exact h.ro g e e2
    · have := hk g e
      have := (OF.lt h.r g e2).2
      omega
/-- The list that is gone through is kept too. -/
theorem AllS.seen {b : Nat} (h : AllS w w1 nv rv ov ns rs L rcells cells) (ht : OS w1 b b tv ts tcells) (hto : ∀ g, ov.ownBlock = some g → tv.ownBlock ≠ some g) (hg : w1.grownBy w2 ov.ownBlock) (hk : ov'.ownBlock = ov.ownBlock ∨ ∀ g, ov'.ownBlock = some g → w1.heap.size ≤ g) : OS w2 b b tv ts tcells ∧ ∀ g, ov'.ownBlock = some g → tv.ownBlock ≠ some g := by
  have htr : ∀ g, ov.ownBlock = some g → ∃ cs e m, w1.heap[g]? = some (.cells cs e m) ∧ e ≠ 3 := OF.typed' h.o (by decide)
  refine ⟨OF.kept ht hg ?_ htr, fun g e e2 => ?_⟩
  · rcases hr : tv.ownBlock with _ | g
    · exact .inl rfl
    · exact .inr fun e => hto g e.symm hr
  · rcases hk with hk | hk
    · rw [hk] at e; exact hto g e e2
    · have := hk g e
      have := (OF.lt ht g e2).2
      omega
end
theorem flatMap_take {α β : Type} {f : α → List β} {l : List α} {k : Nat} (h : k < l.length) : (l.take (k + 1)).flatMap f = (l.take k).flatMap f ++ f l[k] := by
  rw [List.take_succ_eq_append_getElem h, List.flatMap_append]; simp
theorem nth_natI {ks : List Nat} {k : Nat} (h : k < ks.length) : nth (natI ks) k = (ks[k] : Int) := by
  rw [natI, nth_lt (by rw [List.length_map]; exact h), List.getElem_map]
theorem nthL_map {f : Nat → List Int} {ks : List Nat} {k : Nat} (h : k < ks.length) : nthL (ks.map f) k = f ks[k] := by
  rw [nthL_lt (by rw [List.length_map]; exact h), List.getElem_map]
/-- All with the first number k. -/
def headK (f : Nat) (l : List Int) (k : Nat) : List (List Int) := (redI f (vsw k l)).map ((k : Int) :: ·)
theorem flatMap_part {α β : Type} {f : α → List β} {l : List α} {k : Nat} (h : k < l.length) : ((l.take k).flatMap f).length + (f l[k]).length ≤ (l.flatMap f).length := by
  have h1 : l.flatMap f = (l.take (k + 1)).flatMap f ++ (l.drop (k + 1)).flatMap f := by rw [← List.flatMap_append, List.take_append_drop]
  rw [h1, flatMap_take h, List.length_append, List.length_append]
  omega
set_option maxRecDepth 100000 in
set_option maxHeartbeats 4000000 in
theorem allRed_end {w : World} {A : Option Addr} {n : Nat} {l : List Int} (c : Nat) (hx : RI w A n l) (hp : permB l = true) (hz : ldsL l = []) :
    Calls Try.prog 145 #[.slice A n c] w (MakesS w [[]]) := by
  have HBG : Hid (Calls Try.prog 157 #[.slice A n c] w (MakesB w l)) := beg_any c hx hp
  have HZ := Lib.hid hz
  clear hx hp hz
  go_enter Try.func145, Try.ntmps145
  go_upto_region 2 with (first | (go_at_call 157; refine HBG.out.mono ?_; rintro e w1 ⟨A1, n1, c1, A2, n2, c2, rc, rfl, o1, o2, b1⟩) | fail)
  obtain rfl : n1 = 0 := by rw [← o1.ri.1, HZ.out]; rfl
  have G1 := Lib.hid b1
  clear o1 o2 b1
  go_wp2_with fail
  go_ret
  have b2 : Below w1.heap.size w1 (w1.alloc (.cells #[] 3)) := (Below.refl _ _).alloc (Nat.le_refl _) _
  have b3 : Below (w1.alloc (.cells #[] 3)).heap.size (w1.alloc (.cells #[] 3)) ((w1.alloc (.cells #[] 3)).alloc (.cells #[.slice (some ⟨w1.heap.size, 0, none⟩) 0 0] 22)) := (Below.refl _ _).alloc (Nat.le_refl _) _
  have hl : OI (w1.alloc (.cells #[] 3)) w.heap.size (.slice (some ⟨w1.heap.size, 0, none⟩) 0 0) [] := OI.lit w1 w.heap.size [] 0 rfl G1.out.size (by simp)
  have ho := OS.lit (w1.alloc (.cells #[] 3)) w.heap.size w.heap.size [[]] [.slice (some ⟨w1.heap.size, 0, none⟩) 0 0] (Nat.le_trans G1.out.size b2.size) (FRs.one_ (x := .inr []) hl) (Dist.one _) (by simp) 1 rfl
  refine MakesS.of (cells := [.slice (some ⟨w1.heap.size, 0, none⟩) 0 0]) ?_ (bnext G1.out (b2.trans (b3.mono b2.size)) G1.out.size)
  simpa using ho
set_option maxRecDepth 100000 in
set_option maxHeartbeats 4000000 in
theorem allRed_any : ∀ (f : Nat) (w : World) (A : Option Addr) (n c : Nat) (l : List Int), RI w A n l → permB l = true → fin' l ≤ f → (redI f l).length ≤ 1000000 →
    Calls Try.prog 145 #[.slice A n c] w (MakesS w (redI f l)) := by
  intro f
  induction f with
  | zero =>
    intro w A n c l hx hp hf hm
    refine allRed_end c hx hp ?_
    refine (no_lds (prm_of hp)).2 fun k hk => ?_
    have := fin_vsw (prm_of hp) hk
    omega
  | succ f ih =>
    intro w A n c l hx hp hf hm
    by_cases hz : ldsL l = []
    · rw [redI, if_pos hz]
      exact allRed_end c hx hp hz
    have HL : Hid (l.length = n) := hx.1
    have HP : Hid (Prm l) := prm_of hp
    have HPB := Lib.hid hp
    have HX := Lib.hid hx
    have HF := Lib.hid hf
    have IH := Lib.hid ih
    have HRE : Hid (redI (f + 1) l = (ldsL l).flatMap (headK f l)) := by show _ = _; rw [redI, if_neg hz]; rfl
    rw [HRE.out] at hm
    rw [HRE.out]
    have HM := Lib.hid hm
    have HBG : Hid (Calls Try.prog 157 #[.slice A n c] w (MakesB w l)) := beg_any c hx hp
    have hpos : 0 < (ldsL l).length := List.length_pos_iff.2 hz
    have HM7 : Hid ((ldsL l).length ≤ 7) := by
      have h1 := permB_size hp
      have h2 : (ldsL l).length ≤ l.length - 1 := Nat.le_trans (List.length_filter_le _ _) (by simp)
      show _ ≤ _
      omega
    have HPOS := Lib.hid hpos
    clear hx hp ih hf hz hm hpos
    go_enter Try.func145, Try.ntmps145
    go_upto_region 2 with (first | (go_at_call 157; refine HBG.out.mono ?_; rintro e w1 ⟨A1, n1, c1, A2, n2, c2, rc, rfl, o1, o2, b1⟩) | fail)
    have HN1 : Hid ((ldsL l).length = n1) := by show _ = _; rw [← o1.ri.1, natI, List.length_map]
    have HN2 : Hid (n2 = n1) := by show _ = _; rw [← HN1.out, ← OS.lenS o2, List.length_map]
    have hn0 : 0 < n1 := by rw [← HN1.out]; exact HPOS.out
    have hn7 : n1 ≤ 7 := by rw [← HN1.out]; exact HM7.out
    have hne : ((n1 : Int) == 0) = false := by simp; omega
    have S0 : Hid (AllS w (w1.alloc (.cells #[] 22)) (.slice A1 n1 c1) (.slice A2 n2 c2) (.slice (some ⟨w1.heap.size, 0, none⟩) 0 0) (natI (ldsL l)) ((ldsL l).map fun k => vsw k l) [] rc []) := by
      have b2 : Below w1.heap.size w1 (w1.alloc (.cells #[] 22)) := (Below.refl _ _).alloc (Nat.le_refl _) _
      refine ⟨o1.below b2, OF.below o2 b2, ?_, fun g e e2 => ?_, bnext b1 b2 b1.size⟩
      · have h := OS.lit w1 w.heap.size w.heap.size [] [] b1.size FRs.nil_ Dist.nil_ (by simp) 0 rfl
        simpa using h
      · simp [Value.ownBlock] at e
        have := (OF.lt o2 g e2).2
        omega
    clear o1 o2 b1
    go_wp2_with fail
    go_loopw [5, 23] (fun ov iv wr => ∃ (k : Nat) (D : Option Addr) (dn dd : Nat) (cells : List Value), k ≤ n1 ∧ iv = .int .i64 (k : Int) ∧ ov = .slice D dn dd ∧ Hid (AllS w wr (.slice A1 n1 c1) (.slice A2 n2 c2) (.slice D dn dd) (natI (ldsL l)) ((ldsL l).map fun k => vsw k l) (((ldsL l).take k).flatMap (headK f l)) rc cells)) (fun _ iv _ => n1 - (intOf iv).toNat)
    case atStart => exact ⟨0, _, _, _, _, by omega, rfl, rfl, S0.out⟩
    case round =>
      obtain ⟨k, D, dn, dd, cells, hk, rfl, rfl, HY⟩ := hrel
      by_cases hlt : k < n1
      · obtain ⟨wo, rfl⟩ : ∃ wo : World, wo = wr := ⟨_, rfl⟩
        have hkl : k < (ldsL l).length := by rw [HN1.out]; exact hlt
        obtain ⟨j, hj⟩ : ∃ j, j = (ldsL l)[k] := ⟨_, rfl⟩
        have HJ : Hid (j = (ldsL l)[k] ∧ ldes l j) := ⟨hj, by rw [hj]; exact (mem_ldsL HP.out).1 (List.getElem_mem hkl)⟩
        obtain ⟨ad, rfl, z0⟩ := HY.out.n.ri.cell (k := k) hlt
        rw [nth_natI hkl, ← hj] at z0
        obtain ⟨ad2, A3, n3, c3, rfl, z1, -, o3, -⟩ := OS.cell HY.out.r (k := k) (by rw [HN2.out]; exact hlt)
        rw [nthL_map hkl, ← hj] at o3
        have hj6 : j < 7 := by have h1 := ldes_lt HP.out HJ.out.2; have h2 := (permB_size HPB.out).2; omega
        have hkn2 : k < n2 := by rw [HN2.out]; exact hlt
        have hkn3 : (k : Int) < (n2 : Int) := by omega
        have HRC : Hid (Calls Try.prog 145 #[.slice A3 n3 c3] wo (MakesS wo (redI f (vsw j l)))) := by
          refine IH.out wo A3 n3 c3 (vsw j l) o3.ri (permB_vsw HPB.out HJ.out.2) ?_ ?_
          · have h1 := fin_vsw HP.out HJ.out.2
            have h2 := HF.out
            omega
          · have h1 := flatMap_part (f := headK f l) hkl
            rw [← hj] at h1
            have h2 : (headK f l j).length = (redI f (vsw j l)).length := by rw [headK, List.length_map]
            have h3 := HM.out
            omega
        clear hj o3
        go_wp2_with (first | (go_at_call 145; refine HRC.out.mono ?_; rintro e w4 ⟨A4, n4, c4, tc, rfl, o4, l4, -, b4⟩) | fail)
        obtain ⟨ts, hts⟩ : ∃ ts, ts = redI f (vsw j l) := ⟨_, rfl⟩
        rw [← hts] at o4 l4
        have HTS : Hid (ts = redI f (vsw j l) ∧ ts.length ≤ 1000000) := ⟨hts, by
          have h1 := flatMap_part (f := headK f l) hkl
          rw [← HJ.out.1] at h1
          have h2 : (headK f l j).length = (redI f (vsw j l)).length := by rw [headK, List.length_map]
          have h3 := HM.out
          rw [hts]
          omega⟩
        obtain ⟨L0, hL0⟩ : ∃ L0, L0 = ((ldsL l).take k).flatMap (headK f l) := ⟨_, rfl⟩
        have HL0 : Hid (L0 = ((ldsL l).take k).flatMap (headK f l) ∧ L0.length ≤ 1000000) := ⟨hL0, by
          have h1 := flatMap_part (f := headK f l) hkl
          have h3 := HM.out
          rw [hL0]
          omega⟩
        have HY4 : Hid (AllS w w4 (.slice (some ad) n1 c1) (.slice (some ad2) n2 c2) (.slice D dn dd) (natI (ldsL l)) ((ldsL l).map fun k => vsw k l) L0 rc cells ∧ OS w4 wo.heap.size wo.heap.size (.slice A4 n4 c4) ts tc ∧ ∀ g, (Value.slice D dn dd).ownBlock = some g → (Value.slice A4 n4 c4).ownBlock ≠ some g) := by
          refine ⟨by rw [hL0]; exact HY.out.below b4, o4, fun g e e2 => ?_⟩
          have h1 := (OF.lt HY.out.o g e).2
          have h2 := (OF.lt o4 g e2).1
          omega
        have HL4 : Hid (ts.length = n4) := l4
        have hn4 : n4 ≤ 1000000 := by rw [← l4]; exact HTS.out.2
        have HWO : Hid (w.heap.size ≤ wo.heap.size) := HY.out.bel.size
        clear hts hL0 o4 l4 b4
        go_loopw [5, 34] (fun ov iv wr => ∃ (m : Nat) (D : Option Addr) (dn dd : Nat) (cells : List Value), m ≤ n4 ∧ iv = .int .i64 (m : Int) ∧ ov = .slice D dn dd ∧ Hid (AllS w wr (.slice (some ad) n1 c1) (.slice (some ad2) n2 c2) (.slice D dn dd) (natI (ldsL l)) ((ldsL l).map fun k => vsw k l) (L0 ++ (ts.take m).map ((j : Int) :: ·)) rc cells ∧ OS wr wo.heap.size wo.heap.size (.slice A4 n4 c4) ts tc ∧ ∀ g, (Value.slice D dn dd).ownBlock = some g → (Value.slice A4 n4 c4).ownBlock ≠ some g)) (fun _ iv _ => n4 - (intOf iv).toNat)
        case atStart => exact ⟨0, _, _, _, _, by omega, rfl, rfl, by
          have h := HY4.out
          rw [show L0 ++ (ts.take 0).map ((j : Int) :: ·) = L0 by simp]
          exact h⟩
        case round =>
          clear HY4
          obtain ⟨m, D2, dn2, dd2, cells2, hm, rfl, rfl, HZ⟩ := hrel
          by_cases hlt2 : m < n4
          · obtain ⟨ad4, A5, n5, c5, rfl, z2, -, o5, -⟩ := OS.cell HZ.out.2.1 hlt2
            obtain ⟨t, ht⟩ : ∃ t, t = nthL ts m := ⟨_, rfl⟩
            rw [← ht] at o5
            have HT : Hid ((ts.take (m + 1)).map ((j : Int) :: ·) = (ts.take m).map ((j : Int) :: ·) ++ [(j : Int) :: t]) := by show _ = _; rw [map_take_succ (by rw [HL4.out]; exact hlt2), ht]
            have HTL : Hid (n5 ≤ 100000000) := by
              have hmem : t ∈ redI f (vsw j l) := by rw [← HTS.out.1, ht, nthL_lt (by rw [HL4.out]; exact hlt2)]; exact List.getElem_mem _
              have h1 := redI_play (HP.out.vsw (ldes_lt HP.out HJ.out.2)) (by have h1 := fin_vsw HP.out HJ.out.2; have h2 := HF.out; omega) hmem
              have h2 := dnv_21 (l := vsw j l) (by rw [vsw_len]; exact (permB_size HPB.out).2)
              show n5 ≤ _
              rw [← o5.ri.1]
              omega
            have O5 := Lib.hid o5
            have HLIT : Hid (OI (wr.alloc (.cells #[.int .i64 (j : Int)] 3)) wr.heap.size (.slice (some ⟨wr.heap.size, 0, none⟩) 1 1) [(j : Int)]) := by
              have h := OI.lit wr wr.heap.size [(j : Int)] 1 rfl (Nat.le_refl _) (by simp)
              exact h
            have HSZ : Hid (w.heap.size ≤ wr.heap.size) := HZ.out.1.bel.size
            have HLL : Hid ((L0 ++ (ts.take m).map ((j : Int) :: ·)).length + 1 ≤ 1000000000000) := by
              show _ ≤ _
              rw [List.length_append, List.length_map, List.length_take]
              have := HL0.out.2
              omega
            have HFR := Lib.hid HZ.out.1.o.2.1
            clear ht o5
            go_wp2_with (first
              | (at_builtin; refine wpAppI rfl _ _ rfl wr.heap.size (.slice (some ⟨wr.heap.size, 0, none⟩) 1 1) [(j : Int)] t A5 n5 c5 rfl rfl HLIT.out (O5.out.ri.alloc _) (by have := HTL.out; simp; omega) (by simp) ?_; intro v6 w6 o6 g6 k6; obtain ⟨A6, n6, c6, rfl, -⟩ := o6.form; have B6 : Hid (Below wr.heap.size wr w6) := ((Below.refl _ _).alloc (Nat.le_refl _) _).grown g6 (by simp) (by simp [Value.ownBlock]))
              | (at_builtin; refine wpAppS rfl _ _ rfl w.heap.size w.heap.size (.slice D2 dn2 dd2) (L0 ++ (ts.take m).map ((j : Int) :: ·)) cells2 (.slice A6 n6 c6) ([(j : Int)] ++ t) rfl rfl (OF.below HZ.out.1.o B6.out) (OI.mono o6 HSZ.out) (apart_new (H := wr.heap.size) HFR.out (Nat.le_refl _) o6) HLL.out (Nat.le_trans HSZ.out B6.out.size) ?_; intro v7 w7 o7 g7 k7)
              | fail)
            obtain ⟨D7, dn7, dd7, rfl, -⟩ := OS.form o7
            have hb8 : Below wr.heap.size wr (w6.alloc (.cells #[.slice A6 n6 c6] 22)) := B6.out.alloc B6.out.size _
            have hk8 : (Value.slice D7 dn7 dd7).ownBlock = (Value.slice D2 dn2 dd2).ownBlock ∨ ∀ g, (Value.slice D7 dn7 dd7).ownBlock = some g → (w6.alloc (.cells #[.slice A6 n6 c6] 22)).heap.size ≤ g := k7.imp id fun h g e => by rw [h] at e; injection e with e; simp; omega
            have S8 := HZ.out.1.below hb8
            have F7 : Hid (AllS w w7 (.slice (some ad) n1 c1) (.slice (some ad2) n2 c2) (.slice D7 dn7 dd7) (natI (ldsL l)) ((ldsL l).map fun k => vsw k l) (L0 ++ (ts.take (m + 1)).map ((j : Int) :: ·)) rc (cells2 ++ [.slice A6 n6 c6]) ∧ OS w7 wo.heap.size wo.heap.size (.slice (some ad4) n4 c4) ts tc ∧ ∀ g, (Value.slice D7 dn7 dd7).ownBlock = some g → (Value.slice (some ad4) n4 c4).ownBlock ≠ some g) := by
              refine ⟨?_, S8.seen (OF.below HZ.out.2.1 hb8) HZ.out.2.2 g7 hk8⟩
              have h := S8.app g7 o7 hk8
              rw [HT.out, ← List.append_assoc]
              exact h
            clear o6 g6 k6 o7 g7 k7 hb8 hk8 S8
            go_roundw
            case rel => exact ⟨m + 1, _, _, _, _, by omega, by go_num, rfl, F7.out⟩
            case measure => simp [intOf]; omega
          · obtain rfl : m = n4 := by omega
            have HEQ : Hid (L0 ++ (ts.take m).map ((j : Int) :: ·) = ((ldsL l).take (k + 1)).flatMap (headK f l)) := by
              show _ = _
              rw [List.take_of_length_le (by rw [HL4.out]; omega), flatMap_take hkl, ← HJ.out.1, ← HL0.out.1, HTS.out.1]
              rfl
            go_wp2_with fail
            go_roundw
            case rel => exact ⟨k + 1, _, _, _, _, by omega, by go_num, rfl, by rw [← HEQ.out]; exact HZ.out.1⟩
            case measure => simp [intOf]; omega
      · have HEQ : Hid (((ldsL l).take k).flatMap (headK f l) = (ldsL l).flatMap (headK f l)) := by show _ = _; rw [List.take_of_length_le (by rw [HN1.out]; omega)]
        go_wp2_with fail
        go_ret
        rw [← HEQ.out]
        exact MakesS.of HY.out.o HY.out.bel
end Go.Proofs.Ytgbojgmmingfdaa
