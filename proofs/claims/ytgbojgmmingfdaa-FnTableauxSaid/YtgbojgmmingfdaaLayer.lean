/- layer of the program: all ways to put a content into the rows of a shape. -/
import Derived.Test.YtgbojgmmingfdaaSee
import Derived.Test.YtgbojgmmingfdaaShapes
import Derived.Deep.RegionHeld3
import Derived.Deep.DeepCutAuto
import Derived.Deep.CutRange
import Derived.Deep.OwnRows
namespace Go.Proofs.Ytgbojgmmingfdaa
open Go.RowKit

theorem addr_succ (a : Addr) (j : Nat) : a.add (j + 1) = ⟨a.block, a.off + (j + 1), none⟩ := by unfold Addr.add; simp
theorem nth_cons' (a : Int) (l : List Int) (j : Nat) : nth (a :: l) (j + 1) = nth l j := by simp [nth, List.getD]
/-- The bound that the row before lays. -/
def UV (w : World) (rows : Nat) (vu : Value) : Option (List Int) → Prop
  | none => vu = .slice none 0 0
  | some u => ∃ au cu, vu = .slice (some au) rows cu ∧ RT w (some au) rows u ∧ Bd u 100000
theorem UV.turn {w w' : World} {g base b rows : Nat} {v vu : Value} {ps : List (List Int × Int)} {cells : List Value} {under : Option (List Int)} (h : UV w rows vu under) (ho : VO w g base b v ps cells) (t : Turn g v w w') : UV w' rows vu under := by
  cases under with
  | none => exact h
  | some u =>
    obtain ⟨au, cu, h1, h2, h3⟩ := h
    exact ⟨au, cu, h1, h2.turn ho t, h3⟩
theorem UV.below {w w' : World} {rows : Nat} {vu : Value} {under : Option (List Int)} (h : UV w rows vu under) (b : Below w.heap.size w w') : UV w' rows vu under := by
  cases under with
  | none => exact h
  | some u =>
    obtain ⟨au, cu, h1, h2, h3⟩ := h
    exact ⟨au, cu, h1, h2.below b, h3⟩
/-- What layer asks. -/
structure Lay (rows d : Nat) (most : Int) (shape old put : List Int) (L : Nat) (rest : List Nat) : Prop where
  rows16 : rows ≤ 16
  most0 : 0 ≤ most ∧ most ≤ 1000
  d_le : d ≤ rows
  lsh : shape.length = rows
  lold : old.length = rows
  lput : put.length = rows
  bsh : Bd shape 1000
  bold : Bd old 1000
  bput : Bd put 1000
  same : ∀ j, rows - d ≤ j → nth shape j = nth old j
  left : L ≤ 1000
  cont : ∀ c ∈ rest, c ≤ 1000
abbrev fI (l : List Nat) : List Int := l.map fun c : Nat => (c : Int)

theorem made_OI (w : World) (n : Nat) (hn : n ≤ 1000000000) : OI (w.alloc (.cells (madeCells #[Value.int .i64 0] n) 3)) w.heap.size (.slice (some ⟨w.heap.size, 0, none⟩) n n) (List.replicate n 0) := by
  have e : (madeCells #[Value.int .i64 0] n).toList = cellsI (List.replicate n 0) := by
    have := toList_madeCells_one (.int .i64 0) n
    rw [this]
    simp [cellsI]
  have e2 : madeCells #[Value.int .i64 0] n = (cellsI (List.replicate n 0)).toArray := by rw [← e]
  rw [e2]
  exact OI.lit w w.heap.size (List.replicate n 0) n (by simp) (Nat.le_refl _) (by simp; omega)
theorem Sees.from_ {w X w' : World} {g base b : Nat} {v : Value} {ps : List (List Int × Int)} {e : Ending} (h : Below w.heap.size w X) (s : Sees X g base b v ps e w') : Sees w g base b v ps e w' := by
  obtain ⟨v', cells', he, ho, t, f⟩ := s
  exact ⟨v', cells', he, ho, (Turn.of_below h).trans (From.refl _ _) t, f.imp id fun h2 k hk => Nat.le_trans h.size (h2 k hk)⟩
/-- What layer is shown to do. -/
def LayerP (rest : List Nat) (d : Nat) : Prop := ∀ (w : World) (g base b rows : Nat) (most : Int) (As Ac Ao Ap : Option Addr) (cs cc co cp : Nat) (c0 : Int) (shape old put : List Int) (L : Nat) (vu v : Value) (under : Option (List Int))
    (ps : List (List Int × Int)) (cells : List Value) (N r left nc : Int),
    RT w As rows shape → rows ≤ cs → RT w Ac (rest.length + 1) (c0 :: fI rest) → rest.length + 1 ≤ cc → cc ≤ 9223372036854775807 → RT w Ao rows old → RT w Ap rows put → rows ≤ cp → UV w rows vu under → VO w g base b v ps cells →
    Lay rows d most shape old put L rest → r = ((rows - d : Nat) : Int) → left = (L : Int) → Okp ps N →
    N + (layerR rows most (layerK rows most (fI rest)) old under d shape L put).length ≤ 100000000000 → base ≤ w.heap.size → b ≤ w.heap.size →
    Calls Try.prog 179 #[.slice As rows cs, .slice Ac (rest.length + 1) cc, .slice Ao rows co, .int .i64 r, .int .i64 left, vu, .slice Ap rows cp, .int .i64 most, .func (.func 176) #[] #[.pointer (some ⟨g, 0, none⟩)]] w
      (Sees w g base b v (addAll ps (layerR rows most (layerK rows most (fI rest)) old under d shape L put)))

set_option maxRecDepth 100000 in
set_option maxHeartbeats 4000000 in
theorem layer_zero (rest : List Nat) (ih : ∀ c rest', rest = c :: rest' → ∀ d, LayerP rest' d) : LayerP rest 0 := by
  intro w g base b rows most As Ac Ao Ap cs cc co cp c0 shape old put L vu v under ps cells N r left nc hs hcs hcont hcc hcc63 hold hput hcp hu ho hl hr hL hok hN hb1 hb2
  subst hr hL
  have h16 := hl.rows16
  by_cases hz : 0 < L
  · have HR := Lib.hid (layerR_end (rows := rows) (most := most) (K := layerK rows most (fI rest)) (old := old) (under := under) (shape := shape) (put := put) (left := (L : Int)) (by omega))
    go_enter Try.func179, Try.ntmps179
    go_wp2
    refine bodyPost_ret (results_none rfl _ _ _) rfl ?_
    rw [HR.out]
    exact ⟨_, cells, rfl, ho, Turn.refl _ _ _, From.refl _ _⟩
  obtain rfl : L = 0 := by omega
  have hRf := layerR_full (rows := rows) (most := most) (K := layerK rows most (fI rest)) (old := old) (under := under) (shape := shape) (put := put) (left := ((0 : Nat) : Int)) (by omega)
  rw [hRf] at hN
  have HR := Lib.hid hRf
  clear hRf hz
  cases rest with
  | nil =>
    have HRT := Lib.hid hs
    have hshl := hl.lsh
    go_enter Try.func179, Try.ntmps179
    go_wp2_with fail
    refine (see_any cs HRT.out.ri hcs (by omega) ho hok.grows (by have hN' := hN; rw [show layerK rows most (fI []) shape put = [shape] from rfl] at hN'; simp at hN'; omega) hok.len hb1 hb2).mono ?_
    rintro e w1 ⟨v1, cells1, rfl, ho1, t1, f1⟩
    go_wp2
    refine bodyPost_ret (results_none rfl _ _ _) rfl ?_
    rw [HR.out, show layerK rows most (fI []) shape put = [shape] from rfl, addAll_one]
    exact ⟨v1, cells1, rfl, ho1, t1, f1⟩
  | cons c rest =>
    have hlen : (c :: rest).length = rest.length + 1 := rfl
    have hfI : fI (c :: rest) = (c : Int) :: fI rest := rfl
    rw [hlen] at hcont hcc ⊢
    rw [hfI] at hcont hN
    have hbp := hl.bput
    have hlp := hl.lput
    have hsmall : Hid (∀ k, 0 ≤ sumTo put k ∧ sumTo put k ≤ 1000 * k) := fun k => hbp.sum k
    have HBP := Lib.hid hbp
    have IH := Lib.hid (ih c rest rfl rows)
    clear ih hlen
    go_enter Try.func179, Try.ntmps179
    go_wp2_with (at_make; refine wpMake rfl _ _ rfl rows _ _ rfl rfl rfl rfl (by omega) ?_; intro w2 o2 b2 s2)
    obtain ⟨G, hG⟩ : ∃ G, G = w.heap.size := ⟨_, rfl⟩
    have HGG := Lib.hid hG
    rw [← hG] at o2 s2
    rw [← hG]
    clear hG
    go_loopw [19, 20, 21, 43] (fun t _ _ i wr => ∃ k : Nat, k ≤ rows ∧ i = .int .i64 (k : Int) ∧ t = .int .i64 (sumTo put k) ∧ OI wr G (.slice (some ⟨G, 0, none⟩) rows rows) (prefTo put rows k) ∧ Below w.heap.size w wr) (fun _ _ _ i _ => rows - (intOf i).toNat)
    case atStart => exact ⟨0, Nat.zero_le _, rfl, rfl, by rw [prefTo_zero]; exact o2, b2⟩
    case round =>
      clear o2 b2
      obtain ⟨k, hk, rfl, rfl, hoi, hbl⟩ := hrel
      by_cases hlt : k < rows
      · obtain ⟨ad, hA, hc⟩ := (hput.ri.below hbl).cell hlt
        subst hA
        have hoc := hoi.cellAt hlt
        have hof := hoi.frozenAt k
        have hs1 := hsmall.out k
        have hs2 := HBP.out k
        have HS := Lib.hid (hoi.stored k (sumTo put k))
        have HN := Lib.hid (prefTo_set (put := put) (n := rows) hlt rfl)
        clear hoi
        go_wp2
        go_roundw
        case rel => exact ⟨k + 1, by omega, by go_num, rfl, by rw [← HN.out]; exact HS.out.1, hbl.setCell (by rw [HGG.out]; exact Nat.le_refl _) _⟩
        case measure => simp [intOf]; omega
      · obtain rfl : rows = k := by omega
        rw [prefTo_all] at hoi
        have hcw := hcont.below hbl
        obtain ⟨ad, hA, hc0⟩ := hcw.ri.cell (k := 1) (by omega)
        subst hA
        obtain ⟨ab, hab⟩ : ∃ ab, ab = ad.block := ⟨_, rfl⟩
        obtain ⟨ao, hao⟩ : ∃ ao, ao = ad.off := ⟨_, rfl⟩
        rw [addr_succ ad 0, ← hab, ← hao] at hc0
        rw [Nat.zero_add] at hc0
        have e1 : nth (c0 :: (c : Int) :: fI rest) 1 = (c : Int) := rfl
        rw [e1] at hc0
        have htail : RT wr (some ⟨ab, ao + 1, none⟩) (rest.length + 1) ((c : Int) :: fI rest) := by
          refine ⟨⟨by simp [fI], fun _ => ⟨_, rfl, fun j hj => ?_⟩⟩, fun ad' e' _ => ?_⟩
          · obtain ⟨ad2, e2, hc2⟩ := hcw.ri.cell (k := j + 1) (by omega)
            obtain rfl := Option.some.inj e2
            rw [addr_succ] at hc2
            rw [addr_at, hab, hao]
            rw [show ad.off + 1 + j = ad.off + (j + 1) by omega, hc2, nth_cons']
          · obtain rfl := Option.some.inj e'
            show ∃ cs m, wr.heap[ab]? = _
            rw [hab]
            exact hcw.ty ad rfl (by omega)
        have HSH : Hid (∀ W, Below wr.heap.size wr W → RT W As rows shape) := fun W bW => (hs.below hbl).below bW
        have HTL : Hid (∀ W, Below wr.heap.size wr W → RT W (some ⟨ab, ao + 1, none⟩) (rest.length + 1) ((c : Int) :: fI rest)) := fun W bW => htail.below bW
        have HNX : Hid (∀ W, Below wr.heap.size wr W → OI W G (.slice (some ⟨G, 0, none⟩) rows rows) (prefs put rows)) := fun W bW => hoi.below bW
        have HVO : Hid (∀ W, Below wr.heap.size wr W → VO W g base b v ps cells) := fun W bW => (ho.below hbl).below bW
        have HBL := Lib.hid hbl
        have HC1 := Lib.hid hc0
        have hcc1 : ¬ cc = 1 := by omega
        rw [hab, hao] at HTL HC1
        have HDA : Hid (∀ o, (wr.alloc o).drew.cell? ⟨ad.block, ad.off + 1, none⟩ = some (.int .i64 (c : Int))) := fun o => by
          have h1 : (wr.alloc o).cell? ⟨ad.block, ad.off + 1, none⟩ = some (.int .i64 (c : Int)) := one_cell ((Below.refl _ _).alloc (Nat.le_refl _) _) (by rw [hab, hao] at hc0; exact hc0)
          exact h1
        have HCF : Hid (∀ W, Turn g v w W → W.cell? ⟨ad.block, ad.off + 1, none⟩ = some (.int .i64 (c : Int))) := fun W tW => by
          obtain ⟨ad2, e2, hc2⟩ := (hcont.turn ho tW).ri.cell (k := 1) (by omega)
          obtain rfl := Option.some.inj e2
          rw [addr_succ ad 0, Nat.zero_add] at hc2
          exact hc2
        clear hab hao htail hcw hc0 e1 hoi hbl
        have hc1 := HC1.out
        have hr9 : rows ≤ 1000000000 := by omega
        have HVe : Hid (∀ W, VO W g base b v ps cells → VO W g base b v ps cells) := fun _ h => h
        have hq1 : (1 : Int) ≤ (rest.length : Int) + 1 + 1 := by omega
        have hq2 : (1 : Int) < (rest.length : Int) + 1 + 1 := by omega
        have hq3 : 1 < rest.length + 1 + 1 := by omega
        have hq4 : 1 ≤ rest.length + 1 + 1 := by omega
        have HCL : Hid (∀ W : World, RI W As rows shape → Calls Try.prog 134 #[.slice As rows cs] W (Makes W shape)) := fun W h => clone_any _ h hr9
        have rs1 : RI wr As rows shape := (HSH.out wr (Below.refl _ _)).ri
        have HLSH := Lib.hid hl.lsh
        have hlay : Lay rows rows most shape shape (List.replicate rows 0) c rest := ⟨h16, hl.most0, Nat.le_refl _, hl.lsh, hl.lsh, by simp, hl.bsh, hl.bsh, Bd.zeros _ (by omega), fun _ _ => rfl, hl.cont c List.mem_cons_self, fun x hx => hl.cont x (List.mem_cons_of_mem _ hx)⟩
        have HCALL : Hid (∀ (X : World) (AC : Option Addr) (cC : Nat) (Ag : Option Addr), Below wr.heap.size wr X → RT X AC rows shape → RT X Ag rows (List.replicate rows 0) →
            Calls Try.prog 179 #[.slice As rows cs, .slice (some ⟨ad.block, ad.off + 1, none⟩) (rest.length + 1) (cc - 1), .slice AC rows cC, .int .i64 0, .int .i64 (c : Int), .slice (some ⟨G, 0, none⟩) rows rows, .slice Ag rows rows, .int .i64 most, .func (.func 176) #[] #[.pointer (some ⟨g, 0, none⟩)]] X
              (Sees w g base b v (addAll ps (layerK rows most ((c : Int) :: fI rest) shape put)))) := fun X AC cC Ag bX h1 h2 => by
          have := IH.out X g base b rows most As (some ⟨ad.block, ad.off + 1, none⟩) AC Ag cs (cc - 1) cC rows (c : Int) shape shape (List.replicate rows 0) c (.slice (some ⟨G, 0, none⟩) rows rows) v (some (prefs put rows)) ps cells N 0 (c : Int) 0
            (HSH.out X bX) hcs (HTL.out X bX) (by omega) (by omega) h1 h2 (Nat.le_refl _) ⟨⟨G, 0, none⟩, rows, rfl, RT.of_OI (HNX.out X bX), HBP.out.prefs h16⟩ (HVO.out X bX) hlay (by simp) rfl hok (by rw [layerK_cons] at hN; exact hN)
            (Nat.le_trans hb1 (Nat.le_trans HBL.out.size bX.size)) (Nat.le_trans hb2 (Nat.le_trans HBL.out.size bX.size))
          exact this.mono fun e w' hh => Sees.from_ (HBL.out.trans (bX.mono HBL.out.size)) (by rw [layerK_cons]; exact hh)
        have hmk := run_make_row' (P := Try.prog) 22 3 (.int .i64 0) 8 Try.underlying22 Try.infoInt rfl .i64 .i64 rows (by omega) (by omega)
        clear IH hlay hN hok hs hold hput hu ho hcont
        go_wp2
        go_region_held3 (fun w' => w'.cell? ⟨ad.block, ad.off + 1, none⟩ = some (.int .i64 (c : Int))) (first | exact hc1 | exact HCF.out _ ht' | exact HDA.out _ | exact one_cell bM HC1.out | exact one_cell bC HC1.out | exact one_cell (bC.alloc bC.size _) HC1.out | exact one_cell ((Below.refl _ _).alloc (Nat.le_refl _) _) HC1.out) (first
          | (go_at_call 134; (with_reducible refine (HCL.out _ ?_).mono ?_); (first | exact rs1 | exact rs1.alloc _); rintro e wC ⟨AC, nC, cC, rfl, oC, rC, ⟨cpC, leC⟩, bC'⟩; have bC : Below wr.heap.size wr wC := (by first | exact ⟨bC'.os, bC'.tape, bC'.output, bC'.size, bC'.block⟩ | exact ((Below.refl wr.heap.size wr).alloc (Nat.le_refl _) _).trans ((show Below (wr.alloc _).heap.size (wr.alloc _) wC from ⟨bC'.os, bC'.tape, bC'.output, bC'.size, bC'.block⟩).mono (by simp))); obtain rfl : rows = nC := HLSH.out.symm.trans rC.1)
          | (go_at_call 179; (with_reducible refine (HCALL.out _ _ _ _ ?_ ?_ ?_).mono ?_); (first | exact bC.alloc bC.size _ | exact bC); (first | exact RT.of_OI (OI.alloc oC _) | exact RT.of_OI oC); (first | exact RT.of_OI (made_OI wC rows hr9) | exact RT.of_OI (OI.below (made_OI wr rows hr9) (show Below (wr.alloc _).heap.size (wr.alloc _) wC from ⟨bC'.os, bC'.tape, bC'.output, bC'.size, bC'.block⟩))); rintro e wF ⟨v', cells', rfl, hv', ht', hf'⟩))
        all_goals go_wp2
        all_goals refine bodyPost_ret (results_none rfl _ _ _) rfl ?_
        all_goals rw [HR.out]
        all_goals exact ⟨v', cells', rfl, hv', ht', hf'⟩
end Go.Proofs.Ytgbojgmmingfdaa
