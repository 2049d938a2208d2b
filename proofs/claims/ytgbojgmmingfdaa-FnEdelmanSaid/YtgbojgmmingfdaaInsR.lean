/- l1Insert of the reference: a list is put into an ascending row of lists, unless it lies there. -/
import Derived.Test.YtgbojgmmingfdaaMrgV
import Derived.Deep.RegionHeld3
namespace Go.Proofs.Ytgbojgmmingfdaa
open Go.RowKit

/-- In this order, and not the same. -/
def LtP (x y : PV) : Prop := lexLt x.2 y.2 = true
theorem OV.cap {w : World} {base g n c : Nat} {X : List PV} (h : OV w base (.slice (some ⟨g, 0, none⟩) n c) X) : n ≤ c := by
  rcases h.2 with ⟨he, h0⟩ | ⟨g', cap, cur, he, hb, hg, hnc, hcm, hs, ht⟩
  · cases he
  · have hl := h.len
    rw [(slice_inj he).2.2]
    omega
theorem map_nthV {X : List PV} {j : Nat} (h : j < X.length) : nthV X j ∈ X := by rw [nthV_lt h]; exact List.getElem_mem _
theorem ins_not {X : List PV} {i : Nat} {p : PV} (hs : X.Pairwise LtP) (h1 : ∀ j, j < i → lexLt (nthV X j).2 p.2 = true) (h2 : i < X.length → lexLt p.2 (nthV X i).2 = true) : (∀ j, j < X.length → i ≤ j → lexLt p.2 (nthV X j).2 = true) ∧ p.2 ∉ X.map Prod.snd := by
  have h3 : ∀ j, j < X.length → i ≤ j → lexLt p.2 (nthV X j).2 = true := fun j hj hij => by
    rcases Nat.lt_or_eq_of_le hij with h | h
    · have h4 : LtP (nthV X i) (nthV X j) := by
        rw [nthV_lt (by omega), nthV_lt hj]
        exact List.pairwise_iff_getElem.1 hs i j (by omega) hj h
      exact lex_trans (h2 (by omega)) h4
    · subst h; exact h2 hj
  refine ⟨h3, fun hm => ?_⟩
  obtain ⟨q, hq, e⟩ := List.mem_map.1 hm
  obtain ⟨j, hj, e2⟩ := List.getElem_of_mem hq
  by_cases hij : j < i
  · have := h1 j hij
    rw [nthV_lt hj, e2, e, lex_irr] at this
    cases this
  · have := h3 j hj (by omega)
    rw [nthV_lt hj, e2, e, lex_irr] at this
    cases this
theorem ins_new {X : List PV} {i : Nat} {p : PV} (hs : X.Pairwise LtP) (hi : i ≤ X.length) (h1 : ∀ j, j < i → lexLt (nthV X j).2 p.2 = true) (h2 : i < X.length → lexLt p.2 (nthV X i).2 = true) : (X.take i ++ [p] ++ X.drop i).Pairwise LtP ∧ (X.take i ++ [p] ++ X.drop i).Perm (p :: X) := by
  have h3 := (ins_not hs h1 h2).1
  have ha : ∀ q ∈ X.take i, LtP q p := fun q hq => by
    obtain ⟨j, hj, e⟩ := List.getElem_of_mem hq
    rw [List.length_take] at hj
    rw [List.getElem_take] at e
    have := h1 j (by omega)
    rw [nthV_lt (by omega), e] at this
    exact this
  have hb : ∀ q ∈ X.drop i, LtP p q := fun q hq => by
    obtain ⟨j, hj, e⟩ := List.getElem_of_mem hq
    rw [List.length_drop] at hj
    rw [List.getElem_drop] at e
    have := h3 (i + j) (by omega) (by omega)
    rw [nthV_lt (by omega), e] at this
    exact this
  refine ⟨?_, ?_⟩
  · rw [List.append_assoc, List.pairwise_append]
    refine ⟨hs.sublist (List.take_sublist _ _), ?_, fun x hx y hy => ?_⟩
    · rw [List.singleton_append, List.pairwise_cons]
      exact ⟨hb, hs.sublist (List.drop_sublist _ _)⟩
    · rw [List.singleton_append, List.mem_cons] at hy
      rcases hy with rfl | hy
      · exact ha x hx
      · exact lex_trans (ha x hx) (hb y hy)
  · rw [List.append_assoc, List.singleton_append]
    refine List.perm_middle.trans ?_
    rw [List.take_append_drop]
theorem stepAppV {w : World} {ops : Array Oper} {o : Oper} {a : Act} {K : Act → World → Prop} {Q : Exit → Act → World → Prop} {E : Prop} (hgd : o.guard = none) (s x : Operand)
    (ho : o.op = .call { callee := .builtin .append, args := #[s, x], argTypes := #[42, 42] })
    (base : Nat) (v : Value) (X Y : List PV) (ad : Addr) (m c : Nat) (hs : a.eval s = v) (hx : a.eval x = .slice (some ad) m c)
    (hown : OV w base v X) (hX : ∀ u ∈ X.map Prod.fst, u.oneCell' = true) (hY : ∀ u ∈ Y.map Prod.fst, u.oneCell' = true) (hl : Y.length = m) (hnews : ∀ j u, (Y.map Prod.fst)[j]? = some u → w.cell? (ad.add j) = some u) (hlen : X.length + m ≤ 1000000000000) (hbase : base ≤ w.heap.size)
    (h : ∀ v' w', OV w' base v' (X ++ Y) → w.grownBy w' v.ownBlock → (v'.ownBlock = v.ownBlock ∨ v'.ownBlock = some w.heap.size) → K (a.put o.dst v') w') :
    if Region.wanted o (yielded ops a.tmps) = true then Oper.wp Try.prog o a w K Q else E := by
  have hw : Region.wanted o (yielded ops a.tmps) = true := by simp [Region.wanted, hgd]
  rw [if_pos hw]
  obtain ⟨i0, hi, hz, hs1, hb⟩ := info_parts Try.infoInts
  obtain ⟨v', w', hr, h2, h3, _, h5⟩ := run_append_own_at (P := Try.prog) w base 42 o.type 22 i0 (.slice none 0 0) 1 24 Try.underlying42 hi hz hs1 hb rfl (by omega) v X.length (X.map Prod.fst) hown ad m c (Y.map Prod.fst) (by rw [List.length_map, hl]; omega) hnews
    hY (by simp only [maxLen]; omega) (by omega) hbase
  unfold Oper.wp execOp
  simp only [ho, resolve, invoke, builtin, Sem.run_bind, Sem.run_pure, Result.andThen_ok, List.map_toArray, List.map_cons, List.map_nil, hs, hx, hr]
  refine h v' w' ?_ h3 h5
  unfold OV
  rw [List.length_append, List.map_append, hl]
  exact h2
/-- What the call gives: the row that came, or a new one with the list in it. -/
def InsV (w : World) (base : Nat) (X0 : List PV) (p : PV) : Ending → World → Prop := fun e w' => ∃ (g' n' c' : Nat) (X : List PV), e = .returned (.slice (some ⟨g', 0, none⟩) n' c') ∧ OV w' base (.slice (some ⟨g', 0, none⟩) n' c') X ∧ X.Pairwise LtP ∧ Below w.heap.size w w' ∧
  (p.2 ∈ X0.map Prod.snd → X = X0) ∧ (p.2 ∉ X0.map Prod.snd → X.Perm (p :: X0))
set_option maxRecDepth 100000 in
set_option maxHeartbeats 4000000 in
theorem l1Insert_any {w : World} {base g n c n2 c2 : Nat} {A2 : Option Addr} {X0 : List PV} {xs : List Int} (h : OV w base (.slice (some ⟨g, 0, none⟩) n c) X0) (hg : GoodV w X0) (hx : RI w A2 n2 xs) (hn2 : n2 ≤ 1000000) (hs : X0.Pairwise LtP) (hn : X0.length ≤ 1000) (hb : base ≤ w.heap.size) :
    Calls Try.prog 71 #[.slice (some ⟨g, 0, none⟩) n c, .slice A2 n2 c2] w (InsV w base X0 (.slice A2 n2 c2, xs)) := by
  have H := Lib.hid h
  have HG := Lib.hid hg
  have HX := Lib.hid hx
  have HS := Lib.hid hs
  have HB := Lib.hid hb
  have HN : Hid (X0.length = n) := h.len
  have hn3 : n ≤ 1000 := by rw [← HN.out]; exact hn
  have hcp : n ≤ c := h.cap
  have hcp2 : (n : Int) ≤ (c : Int) := by omega
  clear h hg hx hs hb hn
  go_enter Try.func71, Try.ntmps71
  go_wp2_with fail
  go_loopw [5] (fun z wr => ∃ (i : Nat), z = .int .i64 (i : Int) ∧ i ≤ n ∧ Hid ((∀ j, j < i → lexLt (nthV X0 j).2 xs = true) ∧ Below w.heap.size w wr)) (fun z _ => n - (intOf z).toNat)
  case atStart => exact ⟨0, rfl, Nat.zero_le _, fun j hj => by omega, Below.refl _ _⟩
  case round =>
    obtain ⟨i, rfl, hi, HI⟩ := hrel
    have HB2 : Hid (base ≤ wr.heap.size) := Nat.le_trans HB.out HI.out.2.size
    by_cases hlt : i < n
    · obtain ⟨A3, n3, c3, e3, r3, b3⟩ := HG.out (nthV X0 i) (map_nthV (by rw [HN.out]; exact hlt))
      have z0 : w.cell? ⟨g, i, none⟩ = some (.slice A3 n3 c3) := by rw [← e3]; exact H.out.cell (by rw [HN.out]; exact hlt)
      have z1 : wr.cell? ⟨g, i, none⟩ = some (.slice A3 n3 c3) := one_cell HI.out.2 z0
      have HLT : Hid (∀ b, lexLt (nthV X0 i).2 xs = b → ∀ W, Below wr.heap.size wr W → Calls Try.prog 143 #[.slice A3 n3 c3, .slice A2 n2 c2] W (Gives W (.bool b))) := fun b hb2 W bW => by
        rw [← hb2]
        exact l1Less_any c3 c2 ((r3.below HI.out.2).below bW) ((HX.out.below HI.out.2).below bW) (by omega) (by omega)
      have HSA : Hid (∀ b, b = decide ((nthV X0 i).2 = xs) → ∀ W, Below wr.heap.size wr W → Calls Try.prog 144 #[.slice A3 n3 c3, .slice A2 n2 c2] W (Gives W (.bool b))) := fun b hb2 W bW =>
        l1Same_any b c3 c2 ((r3.below HI.out.2).below bW) ((HX.out.below HI.out.2).below bW) hb2 (by omega) (by omega)
      clear e3 r3 b3 z0
      rcases hlx : lexLt (nthV X0 i).2 xs with _ | _
      · have HLX := Lib.hid hlx
        have HCL := Lib.hid (HLT.out _ hlx)
        clear hlx HLT
        by_cases hsm : (nthV X0 i).2 = xs
        · have HCS := Lib.hid (HSA.out true (by rw [decide_eq_true hsm]))
          have HIN : Hid (xs ∈ X0.map Prod.snd) := by rw [← hsm]; exact List.mem_map_of_mem (map_nthV (by rw [HN.out]; exact hlt))
          clear hsm HSA
          go_wp2_with (first
            | (go_at_call 143; (with_reducible refine (HCL.out _ ?_).mono ?_); (exact Below.refl _ _); rintro e w2 ⟨rfl, q2, rfl⟩)
            | (go_at_call 144; (with_reducible refine (HCS.out _ ?_).mono ?_); (exact below_drewN (Below.refl _ _) _); rintro e w4 ⟨rfl, q4, rfl⟩)
            | fail)
          go_ret
          have HBW : Hid (Below w.heap.size w (wr.drewN (q2 + q4))) := below_drewN HI.out.2 _
          exact ⟨g, n, c, X0, rfl, H.out.below HBW.out, HS.out, HBW.out, fun _ => rfl, fun hc => absurd HIN.out hc⟩
        · have HCS := Lib.hid (HSA.out false (by rw [decide_eq_false hsm]))
          have HNE := Lib.hid hsm
          clear hsm HSA
          go_wp2_with (first
            | (go_at_call 143; (with_reducible refine (HCL.out _ ?_).mono ?_); (exact Below.refl _ _); rintro e w2 ⟨rfl, q2, rfl⟩)
            | (go_at_call 144; (with_reducible refine (HCS.out _ ?_).mono ?_); (exact below_drewN (Below.refl _ _) _); rintro e w4 ⟨rfl, q4, rfl⟩)
            | fail)
          have HNX : Hid (i < X0.length → lexLt xs (nthV X0 i).2 = true) := fun _ => lex_total HLX.out HNE.out
          obtain ⟨w5, e5⟩ : ∃ W, W = wr.drewN (q2 + q4) := ⟨_, rfl⟩
          rw [← e5]
          have HB5 : Hid (Below w.heap.size w w5) := by rw [e5]; exact below_drewN HI.out.2 _
          clear e5 z1
          have hi0 : (0 : Int) ≤ (i : Int) := by omega
          have hi1 : (i : Int) ≤ (c : Int) := by omega
          have hi2 : (i : Int) ≤ (n : Int) := by omega
          have hci : ¬ c = i := by omega
          have hz5 := HB5.out.size
          have HL5 : Hid (OV (w5.drew.alloc (.cells #[] 22)) w.heap.size (.slice (some ⟨w5.heap.size, 0, none⟩) 0 0) []) := OV.lit w5.drew w.heap.size hz5
          have hb5 : Below w.heap.size w (w5.drew.alloc (.cells #[] 22)) := HB5.out.drew.alloc hz5 _
          have HB5A := Lib.hid hb5
          have HX5 : Hid (∀ q, (Value.slice (some ⟨w5.heap.size, 0, none⟩) 0 0).ownBlock = some q → w.heap.size ≤ q) := fun q hq => by
            have hq2 : w5.heap.size = q := by simpa [Value.ownBlock] using hq
            omega
          have HCELL : Hid (∀ W, Below w.heap.size w W → ∀ k, k < X0.length → W.cell? ⟨g, k, none⟩ = some (nthV X0 k).1) := fun W bW k hk => one_cell bW (H.out.cell hk)
          have HC1 : Hid (∀ j u, ((X0.take i).map Prod.fst)[j]? = some u → (w5.drew.alloc (.cells #[] 22)).cell? ((⟨g, 0, none⟩ : Addr).add j) = some u) := fun j u hu => by
            rw [List.getElem?_map, List.getElem?_take] at hu
            by_cases hj : j < i
            · rw [if_pos hj] at hu
              rw [List.getElem?_eq_getElem (by have := HN.out; omega)] at hu
              rw [show (⟨g, 0, none⟩ : Addr).add j = ⟨g, j, none⟩ by unfold Addr.add; split <;> simp_all, HCELL.out _ HB5A.out j (by have := HN.out; omega), nthV_lt (by have := HN.out; omega)]
              exact hu
            · rw [if_neg hj] at hu
              cases hu
          have HC3 : Hid (∀ W, Below w.heap.size w W → ∀ j u, ((X0.drop i).map Prod.fst)[j]? = some u → W.cell? ((⟨g, i, none⟩ : Addr).add j) = some u) := fun W bW j u hu => by
            rw [List.getElem?_map, List.getElem?_drop] at hu
            have hj : i + j < X0.length := by
              rcases Nat.lt_or_ge (i + j) X0.length with h | h
              · exact h
              · rw [List.getElem?_eq_none h] at hu; cases hu
            rw [List.getElem?_eq_getElem hj] at hu
            rw [show (⟨g, i, none⟩ : Addr).add j = ⟨g, i + j, none⟩ by unfold Addr.add; split <;> simp_all, HCELL.out _ bW (i + j) hj, nthV_lt hj]
            exact hu
          have HONE : Hid (∀ u ∈ X0.map Prod.fst, u.oneCell' = true) := HG.out.one
          have HY1 : Hid (∀ u ∈ (X0.take i).map Prod.fst, u.oneCell' = true) := fun u hu => HONE.out u (by rw [List.map_take] at hu; exact List.mem_of_mem_take hu)
          have HY3 : Hid (∀ u ∈ (X0.drop i).map Prod.fst, u.oneCell' = true) := fun u hu => HONE.out u (by rw [List.map_drop] at hu; exact List.mem_of_mem_drop hu)
          have HLA : Hid ((X0.take i).length = i) := by show _ = _; rw [List.length_take, HN.out]; omega
          have HLD : Hid ((X0.drop i).length = n - i) := by show _ = _; rw [List.length_drop, HN.out]
          have HC1B : Hid (∀ W, Below w.heap.size w W → ∀ j u, ((X0.take i).map Prod.fst)[j]? = some u → W.cell? ((⟨g, 0, none⟩ : Addr).add j) = some u) := fun W bW j u hu => by
            rw [List.getElem?_map, List.getElem?_take] at hu
            by_cases hj : j < i
            · rw [if_pos hj] at hu
              rw [List.getElem?_eq_getElem (by have := HN.out; omega)] at hu
              rw [show (⟨g, 0, none⟩ : Addr).add j = ⟨g, j, none⟩ by unfold Addr.add; split <;> simp_all, HCELL.out _ bW j (by have := HN.out; omega), nthV_lt (by have := HN.out; omega)]
              exact hu
            · rw [if_neg hj] at hu
              cases hu
          obtain ⟨wA, eA⟩ : ∃ W : World, W = (w5.drew.alloc (.cells #[] 22)).alloc (.cells #[.slice A2 n2 c2] 22) := ⟨_, rfl⟩
          have HLB : Hid (OV ((w5.drew.alloc (.cells #[] 22)).alloc (.cells #[.slice A2 n2 c2] 22)) w.heap.size (.slice (some ⟨w5.heap.size, 0, none⟩) 0 0) []) := HL5.out.below ((Below.refl _ _).alloc (Nat.le_refl _) _)
          have HBB : Hid (Below w.heap.size w ((w5.drew.alloc (.cells #[] 22)).alloc (.cells #[.slice A2 n2 c2] 22))) := HB5A.out.alloc HB5A.out.size _
          have HZB : Hid (∀ W', ((w5.drew.alloc (.cells #[] 22)).alloc (.cells #[.slice A2 n2 c2] 22)).grownBy W' (Value.slice (some ⟨w5.heap.size, 0, none⟩) 0 0).ownBlock → W'.cell? ⟨w5.heap.size + 1, 0, none⟩ = some (.slice A2 n2 c2)) := fun W' gW => by
            have h0 : ((w5.drew.alloc (.cells #[] 22)).alloc (.cells #[.slice A2 n2 c2] 22)).cell? ⟨w5.heap.size + 1, 0, none⟩ = some (.slice A2 n2 c2) := by
              have h := new_cells (w5.drew.alloc (.cells #[] 22)) [Value.slice A2 n2 c2] 22 0 _ rfl
              rw [add_zero_] at h
              have e : (w5.drew.alloc (.cells #[] 22)).heap.size = w5.heap.size + 1 := by simp
              rw [e] at h
              exact h
            have hk := gW.block (w5.heap.size + 1) (by simp) (by simp [Value.ownBlock])
            unfold World.cell? at h0 ⊢
            rw [hk]
            exact h0
          have HLC : Hid (OV ((w5.drew.alloc (.cells #[.slice A2 n2 c2] 22)).alloc (.cells #[] 22)) w.heap.size (.slice (some ⟨w5.heap.size + 1, 0, none⟩) 0 0) []) := by
            have h := OV.lit (w5.drew.alloc (.cells #[.slice A2 n2 c2] 22)) w.heap.size (by simp; omega)
            rw [show (w5.drew.alloc (.cells #[.slice A2 n2 c2] 22)).heap.size = w5.heap.size + 1 by simp] at h
            exact h
          have HBC : Hid (Below w.heap.size w ((w5.drew.alloc (.cells #[.slice A2 n2 c2] 22)).alloc (.cells #[] 22))) := (HB5.out.drew.alloc hz5 _).alloc (by simp; omega) _
          have HXC : Hid (∀ q, (Value.slice (some ⟨w5.heap.size + 1, 0, none⟩) 0 0).ownBlock = some q → w.heap.size ≤ q) := fun q hq => by
            have hq2 : w5.heap.size + 1 = q := by simpa [Value.ownBlock] using hq
            omega
          have HZC : Hid (∀ W', ((w5.drew.alloc (.cells #[.slice A2 n2 c2] 22)).alloc (.cells #[] 22)).grownBy W' (Value.slice (some ⟨w5.heap.size + 1, 0, none⟩) 0 0).ownBlock → W'.cell? ⟨w5.heap.size, 0, none⟩ = some (.slice A2 n2 c2)) := fun W' gW => by
            have h := new_cells w5.drew [Value.slice A2 n2 c2] 22 0 _ rfl
            rw [add_zero_] at h
            have h2 : (w5.drew.alloc (.cells #[.slice A2 n2 c2] 22)).cell? ⟨w5.heap.size, 0, none⟩ = some (.slice A2 n2 c2) := h
            have h0 := one_cell ((Below.refl (w5.drew.alloc (.cells #[.slice A2 n2 c2] 22)).heap.size _).alloc (Nat.le_refl _) (.cells #[] 22)) h2
            have hk := gW.block w5.heap.size (by simp; omega) (by simp [Value.ownBlock])
            unfold World.cell? at h0 ⊢
            rw [hk]
            exact h0
          clear eA wA
          have HO3 : Hid (∀ u ∈ ([] ++ X0.take i ++ [(Value.slice A2 n2 c2, xs)]).map Prod.fst, u.oneCell' = true) := fun u hu => by
            rw [List.nil_append, List.map_append, List.mem_append] at hu
            rcases hu with hu | hu
            · exact HY1.out u hu
            · rw [List.map_cons, List.map_nil, List.mem_singleton] at hu; rw [hu]; rfl
          have HL3 : Hid (([] ++ X0.take i ++ [(Value.slice A2 n2 c2, xs)]).length + (n - i) ≤ 1000000000000) := by
            show _ ≤ _
            rw [List.nil_append, List.length_append, HLA.out, List.length_singleton]
            omega
          clear hz5 hb5
          go_region_held3 (fun _ => True) (trivial) (first
            | (refine stepAppV rfl _ _ rfl w.heap.size _ [] (X0.take i) ⟨g, 0, none⟩ i c rfl rfl HL5.out (by simp) HY1.out HLA.out HC1.out (by simp; omega) HB5A.out.size ?_; intro v6 w6 o6 g6 k6; have b6 := HB5A.out.grown g6 HB5A.out.size (fun q hq => HX5.out q hq))
            | (refine stepAppV rfl _ _ rfl w.heap.size _ [] (X0.take i) ⟨g, 0, none⟩ i c rfl rfl HLB.out (by simp) HY1.out HLA.out (HC1B.out _ HBB.out) (by simp; omega) HBB.out.size ?_; intro v6 w6 o6 g6 k6; have b6 := HBB.out.grown g6 HBB.out.size (fun q hq => HX5.out q hq); have z6 := HZB.out _ g6)
            | (refine stepAppV rfl _ _ rfl w.heap.size _ [] (X0.take i) ⟨g, 0, none⟩ i c rfl rfl HLC.out (by simp) HY1.out HLA.out (HC1B.out _ HBC.out) (by simp; omega) HBC.out.size ?_; intro v6 w6 o6 g6 k6; have b6 := HBC.out.grown g6 HBC.out.size (fun q hq => HXC.out q hq); have z6 := HZC.out _ g6)
            | (refine stepAppV rfl _ _ rfl w.heap.size v6 ([] ++ X0.take i) [(.slice A2 n2 c2, xs)] ⟨w6.heap.size, 0, none⟩ 1 1 rfl rfl (o6.below ((Below.refl _ _).alloc (Nat.le_refl _) _)) (by rw [List.nil_append]; exact HY1.out) (fun u hu => by rw [List.map_cons, List.map_nil, List.mem_singleton] at hu; rw [hu]; rfl) rfl (fun q u hu => by
                have hq : q = 0 := by rcases q with _ | q <;> simp at hu ⊢
                subst hq
                simp at hu
                subst hu
                exact new_cells w6 [_] _ 0 _ rfl) (by rw [List.nil_append, HLA.out]; omega) (b6.alloc b6.size _).size ?_; intro v7 w7 o7 g7 k7; have b7 := (b6.alloc b6.size _).grown g7 (b6.alloc b6.size _).size (fun q hq => (o6.lt q hq).1))
            | (refine stepAppV rfl _ _ rfl w.heap.size v6 ([] ++ X0.take i) [(.slice A2 n2 c2, xs)] ⟨w5.heap.size + 1, 0, none⟩ 1 1 rfl rfl o6 (by rw [List.nil_append]; exact HY1.out) (fun u hu => by rw [List.map_cons, List.map_nil, List.mem_singleton] at hu; rw [hu]; rfl) rfl (fun q u hu => by
                have hq : q = 0 := by rcases q with _ | q <;> simp at hu ⊢
                subst hq
                simp at hu
                subst hu
                rw [add_zero_]
                exact z6) (by rw [List.nil_append, HLA.out]; omega) b6.size ?_; intro v7 w7 o7 g7 k7; have b7 := b6.grown g7 b6.size (fun q hq => (o6.lt q hq).1))
            | (refine stepAppV rfl _ _ rfl w.heap.size v6 ([] ++ X0.take i) [(.slice A2 n2 c2, xs)] ⟨w5.heap.size, 0, none⟩ 1 1 rfl rfl o6 (by rw [List.nil_append]; exact HY1.out) (fun u hu => by rw [List.map_cons, List.map_nil, List.mem_singleton] at hu; rw [hu]; rfl) rfl (fun q u hu => by
                have hq : q = 0 := by rcases q with _ | q <;> simp at hu ⊢
                subst hq
                simp at hu
                subst hu
                rw [add_zero_]
                exact z6) (by rw [List.nil_append, HLA.out]; omega) b6.size ?_; intro v7 w7 o7 g7 k7; have b7 := b6.grown g7 b6.size (fun q hq => (o6.lt q hq).1))
            | (refine stepAppV rfl _ _ rfl w.heap.size v7 ([] ++ X0.take i ++ [(.slice A2 n2 c2, xs)]) (X0.drop i) ⟨g, i, none⟩ (n - i) _ rfl rfl o7 HO3.out HY3.out HLD.out (HC3.out _ b7) HL3.out b7.size ?_; intro v8 w8 o8 g8 k8; have b8 := b7.grown g8 b7.size (fun q hq => (o7.lt q hq).1))
            | fail)
          all_goals (
            rw [List.nil_append] at o8
            obtain ⟨A8, n8, c8, rfl, hl8⟩ := o8.form
            obtain ⟨g8', rfl⟩ := o8.some_ (by rw [← hl8]; simp; omega)
            have hnew := ins_new (p := (.slice A2 n2 c2, xs)) HS.out (by rw [HN.out]; exact hi) HI.out.1 HNX.out
            have hnot := (ins_not (p := (.slice A2 n2 c2, xs)) HS.out HI.out.1 HNX.out).2
            have HFIN : Hid (InsV w base X0 (.slice A2 n2 c2, xs) (.returned (.slice (some ⟨g8', 0, none⟩) n8 c8)) w8) :=
              ⟨g8', n8, c8, _, rfl, o8.mono HB.out, hnew.1, b8, fun hc => absurd hc hnot, fun _ => hnew.2⟩
            clear o8 g8 k8 b8 hl8 hnew hnot
            go_wp2_with fail
            go_ret
            exact HFIN.out)
      · have HLX := Lib.hid hlx
        have HCL := Lib.hid (HLT.out _ hlx)
        clear hlx HLT HSA
        go_wp2_with (first
            | (go_at_call 143; (with_reducible refine (HCL.out _ ?_).mono ?_); (exact Below.refl _ _); rintro e w2 ⟨rfl, q2, rfl⟩)
            | fail)
        go_roundw
        case rel => exact ⟨i + 1, by go_num, by omega, fun j hj => by
          rcases Nat.lt_or_eq_of_le (show j ≤ i by omega) with h | h
          · exact HI.out.1 j h
          · rw [h]; exact HLX.out, below_drewN HI.out.2 _⟩
        case measure => simp [intOf]; omega
    · obtain rfl : i = n := by omega
      go_wp2_with fail
      have HNX : Hid (i < X0.length → lexLt xs (nthV X0 i).2 = true) := fun h => by have := HN.out; omega
      obtain ⟨w5, e5⟩ : ∃ W : World, W = wr := ⟨_, rfl⟩
      rw [← e5]
      have HB5 : Hid (Below w.heap.size w w5) := by rw [e5]; exact HI.out.2
      clear e5
      have hi0 : (0 : Int) ≤ (i : Int) := by omega
      have hi1 : (i : Int) ≤ (c : Int) := by omega
      have hi2 : (i : Int) ≤ (i : Int) := by omega
      have hz5 := HB5.out.size
      have HL5 : Hid (OV (w5.drew.alloc (.cells #[] 22)) w.heap.size (.slice (some ⟨w5.heap.size, 0, none⟩) 0 0) []) := OV.lit w5.drew w.heap.size hz5
      have hb5 : Below w.heap.size w (w5.drew.alloc (.cells #[] 22)) := HB5.out.drew.alloc hz5 _
      have HB5A := Lib.hid hb5
      have HX5 : Hid (∀ q, (Value.slice (some ⟨w5.heap.size, 0, none⟩) 0 0).ownBlock = some q → w.heap.size ≤ q) := fun q hq => by
        have hq2 : w5.heap.size = q := by simpa [Value.ownBlock] using hq
        omega
      have HCELL : Hid (∀ W, Below w.heap.size w W → ∀ k, k < X0.length → W.cell? ⟨g, k, none⟩ = some (nthV X0 k).1) := fun W bW k hk => one_cell bW (H.out.cell hk)
      have HC1 : Hid (∀ j u, ((X0.take i).map Prod.fst)[j]? = some u → (w5.drew.alloc (.cells #[] 22)).cell? ((⟨g, 0, none⟩ : Addr).add j) = some u) := fun j u hu => by
        rw [List.getElem?_map, List.getElem?_take] at hu
        by_cases hj : j < i
        · rw [if_pos hj] at hu
          rw [List.getElem?_eq_getElem (by have := HN.out; omega)] at hu
          rw [show (⟨g, 0, none⟩ : Addr).add j = ⟨g, j, none⟩ by unfold Addr.add; split <;> simp_all, HCELL.out _ HB5A.out j (by have := HN.out; omega), nthV_lt (by have := HN.out; omega)]
          exact hu
        · rw [if_neg hj] at hu
          cases hu
      have HC3 : Hid (∀ W, Below w.heap.size w W → ∀ j u, ((X0.drop i).map Prod.fst)[j]? = some u → W.cell? ((⟨g, i, none⟩ : Addr).add j) = some u) := fun W bW j u hu => by
        rw [List.getElem?_map, List.getElem?_drop] at hu
        have hj : i + j < X0.length := by
          rcases Nat.lt_or_ge (i + j) X0.length with h | h
          · exact h
          · rw [List.getElem?_eq_none h] at hu; cases hu
        rw [List.getElem?_eq_getElem hj] at hu
        rw [show (⟨g, i, none⟩ : Addr).add j = ⟨g, i + j, none⟩ by unfold Addr.add; split <;> simp_all, HCELL.out _ bW (i + j) hj, nthV_lt hj]
        exact hu
      have HONE : Hid (∀ u ∈ X0.map Prod.fst, u.oneCell' = true) := HG.out.one
      have HY1 : Hid (∀ u ∈ (X0.take i).map Prod.fst, u.oneCell' = true) := fun u hu => HONE.out u (by rw [List.map_take] at hu; exact List.mem_of_mem_take hu)
      have HY3 : Hid (∀ u ∈ (X0.drop i).map Prod.fst, u.oneCell' = true) := fun u hu => HONE.out u (by rw [List.map_drop] at hu; exact List.mem_of_mem_drop hu)
      have HLA : Hid ((X0.take i).length = i) := by show _ = _; rw [List.length_take, HN.out]; omega
      have HLD : Hid ((X0.drop i).length = i - i) := by show _ = _; rw [List.length_drop, HN.out]
      have HC1B : Hid (∀ W, Below w.heap.size w W → ∀ j u, ((X0.take i).map Prod.fst)[j]? = some u → W.cell? ((⟨g, 0, none⟩ : Addr).add j) = some u) := fun W bW j u hu => by
        rw [List.getElem?_map, List.getElem?_take] at hu
        by_cases hj : j < i
        · rw [if_pos hj] at hu
          rw [List.getElem?_eq_getElem (by have := HN.out; omega)] at hu
          rw [show (⟨g, 0, none⟩ : Addr).add j = ⟨g, j, none⟩ by unfold Addr.add; split <;> simp_all, HCELL.out _ bW j (by have := HN.out; omega), nthV_lt (by have := HN.out; omega)]
          exact hu
        · rw [if_neg hj] at hu
          cases hu
      obtain ⟨wA, eA⟩ : ∃ W : World, W = (w5.drew.alloc (.cells #[] 22)).alloc (.cells #[.slice A2 n2 c2] 22) := ⟨_, rfl⟩
      have HLB : Hid (OV ((w5.drew.alloc (.cells #[] 22)).alloc (.cells #[.slice A2 n2 c2] 22)) w.heap.size (.slice (some ⟨w5.heap.size, 0, none⟩) 0 0) []) := HL5.out.below ((Below.refl _ _).alloc (Nat.le_refl _) _)
      have HBB : Hid (Below w.heap.size w ((w5.drew.alloc (.cells #[] 22)).alloc (.cells #[.slice A2 n2 c2] 22))) := HB5A.out.alloc HB5A.out.size _
      have HZB : Hid (∀ W', ((w5.drew.alloc (.cells #[] 22)).alloc (.cells #[.slice A2 n2 c2] 22)).grownBy W' (Value.slice (some ⟨w5.heap.size, 0, none⟩) 0 0).ownBlock → W'.cell? ⟨w5.heap.size + 1, 0, none⟩ = some (.slice A2 n2 c2)) := fun W' gW => by
        have h0 : ((w5.drew.alloc (.cells #[] 22)).alloc (.cells #[.slice A2 n2 c2] 22)).cell? ⟨w5.heap.size + 1, 0, none⟩ = some (.slice A2 n2 c2) := by
          have h := new_cells (w5.drew.alloc (.cells #[] 22)) [Value.slice A2 n2 c2] 22 0 _ rfl
          rw [add_zero_] at h
          have e : (w5.drew.alloc (.cells #[] 22)).heap.size = w5.heap.size + 1 := by simp
          rw [e] at h
          exact h
        have hk := gW.block (w5.heap.size + 1) (by simp) (by simp [Value.ownBlock])
        unfold World.cell? at h0 ⊢
        rw [hk]
        exact h0
      have HLC : Hid (OV ((w5.drew.alloc (.cells #[.slice A2 n2 c2] 22)).alloc (.cells #[] 22)) w.heap.size (.slice (some ⟨w5.heap.size + 1, 0, none⟩) 0 0) []) := by
        have h := OV.lit (w5.drew.alloc (.cells #[.slice A2 n2 c2] 22)) w.heap.size (by simp; omega)
        rw [show (w5.drew.alloc (.cells #[.slice A2 n2 c2] 22)).heap.size = w5.heap.size + 1 by simp] at h
        exact h
      have HBC : Hid (Below w.heap.size w ((w5.drew.alloc (.cells #[.slice A2 n2 c2] 22)).alloc (.cells #[] 22))) := (HB5.out.drew.alloc hz5 _).alloc (by simp; omega) _
      have HXC : Hid (∀ q, (Value.slice (some ⟨w5.heap.size + 1, 0, none⟩) 0 0).ownBlock = some q → w.heap.size ≤ q) := fun q hq => by
        have hq2 : w5.heap.size + 1 = q := by simpa [Value.ownBlock] using hq
        omega
      have HZC : Hid (∀ W', ((w5.drew.alloc (.cells #[.slice A2 n2 c2] 22)).alloc (.cells #[] 22)).grownBy W' (Value.slice (some ⟨w5.heap.size + 1, 0, none⟩) 0 0).ownBlock → W'.cell? ⟨w5.heap.size, 0, none⟩ = some (.slice A2 n2 c2)) := fun W' gW => by
        have h := new_cells w5.drew [Value.slice A2 n2 c2] 22 0 _ rfl
        rw [add_zero_] at h
        have h2 : (w5.drew.alloc (.cells #[.slice A2 n2 c2] 22)).cell? ⟨w5.heap.size, 0, none⟩ = some (.slice A2 n2 c2) := h
        have h0 := one_cell ((Below.refl (w5.drew.alloc (.cells #[.slice A2 n2 c2] 22)).heap.size _).alloc (Nat.le_refl _) (.cells #[] 22)) h2
        have hk := gW.block w5.heap.size (by simp; omega) (by simp [Value.ownBlock])
        unfold World.cell? at h0 ⊢
        rw [hk]
        exact h0
      clear eA wA
      have HO3 : Hid (∀ u ∈ ([] ++ X0.take i ++ [(Value.slice A2 n2 c2, xs)]).map Prod.fst, u.oneCell' = true) := fun u hu => by
        rw [List.nil_append, List.map_append, List.mem_append] at hu
        rcases hu with hu | hu
        · exact HY1.out u hu
        · rw [List.map_cons, List.map_nil, List.mem_singleton] at hu; rw [hu]; rfl
      have HL3 : Hid (([] ++ X0.take i ++ [(Value.slice A2 n2 c2, xs)]).length + 0 ≤ 1000000000000) := by
        show _ ≤ _
        rw [List.nil_append, List.length_append, HLA.out, List.length_singleton]
        omega
      clear hz5 hb5
      go_region_held3 (fun _ => True) (trivial) (first
        | (refine stepAppV rfl _ _ rfl w.heap.size _ [] (X0.take i) ⟨g, 0, none⟩ i c rfl rfl HL5.out (by simp) HY1.out HLA.out HC1.out (by simp; omega) HB5A.out.size ?_; intro v6 w6 o6 g6 k6; have b6 := HB5A.out.grown g6 HB5A.out.size (fun q hq => HX5.out q hq))
        | (refine stepAppV rfl _ _ rfl w.heap.size _ [] (X0.take i) ⟨g, 0, none⟩ i c rfl rfl HLB.out (by simp) HY1.out HLA.out (HC1B.out _ HBB.out) (by simp; omega) HBB.out.size ?_; intro v6 w6 o6 g6 k6; have b6 := HBB.out.grown g6 HBB.out.size (fun q hq => HX5.out q hq); have z6 := HZB.out _ g6)
        | (refine stepAppV rfl _ _ rfl w.heap.size _ [] (X0.take i) ⟨g, 0, none⟩ i c rfl rfl HLC.out (by simp) HY1.out HLA.out (HC1B.out _ HBC.out) (by simp; omega) HBC.out.size ?_; intro v6 w6 o6 g6 k6; have b6 := HBC.out.grown g6 HBC.out.size (fun q hq => HXC.out q hq); have z6 := HZC.out _ g6)
        | (refine stepAppV rfl _ _ rfl w.heap.size v6 ([] ++ X0.take i) [(.slice A2 n2 c2, xs)] ⟨w6.heap.size, 0, none⟩ 1 1 rfl rfl (o6.below ((Below.refl _ _).alloc (Nat.le_refl _) _)) (by rw [List.nil_append]; exact HY1.out) (fun u hu => by rw [List.map_cons, List.map_nil, List.mem_singleton] at hu; rw [hu]; rfl) rfl (fun q u hu => by
            have hq : q = 0 := by rcases q with _ | q <;> simp at hu ⊢
            subst hq
            simp at hu
            subst hu
            exact new_cells w6 [_] _ 0 _ rfl) (by rw [List.nil_append, HLA.out]; omega) (b6.alloc b6.size _).size ?_; intro v7 w7 o7 g7 k7; have b7 := (b6.alloc b6.size _).grown g7 (b6.alloc b6.size _).size (fun q hq => (o6.lt q hq).1))
        | (refine stepAppV rfl _ _ rfl w.heap.size v6 ([] ++ X0.take i) [(.slice A2 n2 c2, xs)] ⟨w5.heap.size + 1, 0, none⟩ 1 1 rfl rfl o6 (by rw [List.nil_append]; exact HY1.out) (fun u hu => by rw [List.map_cons, List.map_nil, List.mem_singleton] at hu; rw [hu]; rfl) rfl (fun q u hu => by
            have hq : q = 0 := by rcases q with _ | q <;> simp at hu ⊢
            subst hq
            simp at hu
            subst hu
            rw [add_zero_]
            exact z6) (by rw [List.nil_append, HLA.out]; omega) b6.size ?_; intro v7 w7 o7 g7 k7; have b7 := b6.grown g7 b6.size (fun q hq => (o6.lt q hq).1))
        | (refine stepAppV rfl _ _ rfl w.heap.size v6 ([] ++ X0.take i) [(.slice A2 n2 c2, xs)] ⟨w5.heap.size, 0, none⟩ 1 1 rfl rfl o6 (by rw [List.nil_append]; exact HY1.out) (fun u hu => by rw [List.map_cons, List.map_nil, List.mem_singleton] at hu; rw [hu]; rfl) rfl (fun q u hu => by
            have hq : q = 0 := by rcases q with _ | q <;> simp at hu ⊢
            subst hq
            simp at hu
            subst hu
            rw [add_zero_]
            exact z6) (by rw [List.nil_append, HLA.out]; omega) b6.size ?_; intro v7 w7 o7 g7 k7; have b7 := b6.grown g7 b6.size (fun q hq => (o6.lt q hq).1))
        | (refine stepAppV rfl _ _ rfl w.heap.size v7 ([] ++ X0.take i ++ [(.slice A2 n2 c2, xs)]) (X0.drop i) (if c = i then ⟨g, 0, none⟩ else ⟨g, i, none⟩) 0 _ rfl (by show Value.slice (if c = i then some (⟨g, 0, none⟩ : Addr) else some ⟨g, i, none⟩) _ _ = Value.slice (some (if c = i then (⟨g, 0, none⟩ : Addr) else ⟨g, i, none⟩)) _ _; split <;> rfl) o7 HO3.out HY3.out (by rw [HLD.out, Nat.sub_self]) (fun j u hu => by rw [List.drop_eq_nil_of_le (by rw [HN.out]; exact Nat.le_refl _)] at hu; simp at hu) HL3.out b7.size ?_; intro v8 w8 o8 g8 k8; have b8 := b7.grown g8 b7.size (fun q hq => (o7.lt q hq).1))
        | fail)
      all_goals (
        rw [List.nil_append] at o8
        obtain ⟨A8, n8, c8, rfl, hl8⟩ := o8.form
        obtain ⟨g8', rfl⟩ := o8.some_ (by rw [← hl8]; simp; omega)
        have hnew := ins_new (p := (.slice A2 n2 c2, xs)) HS.out (by rw [HN.out]; exact hi) HI.out.1 HNX.out
        have hnot := (ins_not (p := (.slice A2 n2 c2, xs)) HS.out HI.out.1 HNX.out).2
        have HFIN : Hid (InsV w base X0 (.slice A2 n2 c2, xs) (.returned (.slice (some ⟨g8', 0, none⟩) n8 c8)) w8) :=
          ⟨g8', n8, c8, _, rfl, o8.mono HB.out, hnew.1, b8, fun hc => absurd hc hnot, fun _ => hnew.2⟩
        clear o8 g8 k8 b8 hl8 hnew hnot
        go_wp2_with fail
        all_goals go_ret
        all_goals exact HFIN.out)
end Go.Proofs.Ytgbojgmmingfdaa
