/- times of the program: the product of two polynomials. -/
import Derived.Test.YtgbojgmmingfdaaPlusW
import Derived.BigRegion
namespace Go.Proofs.Ytgbojgmmingfdaa
open Go.RowKit Go.Maps Go.MapKept Go.WideMaps

def addE (a b : List Int) : List Int := gen (fun j => nth a j + nth b j) 7
def mixE (a b : List Int) (i : Nat) : List Int := gen (fun j => if j < i then nth a j + nth b j else nth a j) 7
theorem mixE_len (a b : List Int) (i : Nat) : (mixE a b i).length = 7 := gen_len _ _
theorem mixE_zero {a b : List Int} (h : a.length = 7) : mixE a b 0 = a := by
  refine ext_nth (by rw [mixE_len, h]) fun j hj => ?_
  rw [mixE_len] at hj
  rw [mixE, nth_gen hj, if_neg (by omega)]
theorem mixE_all (a b : List Int) : mixE a b 7 = addE a b := by
  refine ext_nth (by rw [mixE_len, addE, gen_len]) fun j hj => ?_
  rw [mixE_len] at hj
  rw [mixE, addE, nth_gen hj, nth_gen hj, if_pos hj]
theorem mixE_at {a b : List Int} {i : Nat} (h : i < 7) : nth (mixE a b i) i = nth a i := by rw [mixE, nth_gen h, if_neg (by omega)]
theorem mixE_set {a b : List Int} {i : Nat} (h : i < 7) : (mixE a b i).set i (nth a i + nth b i) = mixE a b (i + 1) := by
  refine ext_nth (by rw [List.length_set, mixE_len, mixE_len]) fun j hj => ?_
  rw [List.length_set, mixE_len] at hj
  by_cases hji : i = j
  · subst hji
    rw [nth_set_eq (by rw [mixE_len]; exact hj), mixE, nth_gen hj, if_pos (by omega)]
  · rw [nth_set_ne hji, mixE, mixE, nth_gen hj, nth_gen hj]
    by_cases h2 : j < i
    · rw [if_pos h2, if_pos (by omega)]
    · rw [if_neg h2, if_neg (by omega)]
theorem addE_at (a b : List Int) {j : Nat} (h : j < 7) : nth (addE a b) j = nth a j + nth b j := by rw [addE, nth_gen h]
theorem keyL_add (a b : List Int) : keyL (addE a b) = keyL a + keyL b := by
  rw [keyL_low, keyL_low, keyL_low]
  have : ∀ n, n ≤ 7 → lowN (addE a b) n = lowN a n + lowN b n := fun n => by
    induction n with
    | zero => intro _; rfl
    | succ n ih =>
      intro hn
      rw [lowN, lowN, lowN, ih (by omega), addE_at a b (by omega), Int.add_mul]; omega
  exact this 7 (Nat.le_refl _)
def prodT (f g : List (List Int × Int)) : List (List Int × Int) := f.flatMap fun a => g.map fun b => (addE a.1 b.1, a.2 * b.2)
def timesK (L M : List (Int × Int)) : List (Int × Int) := gatherK (L.flatMap fun a => M.map fun b => (a.1 + b.1, a.2 * b.2))
theorem prodT_kc (f g : List (List Int × Int)) : (prodT f g).map kc = (f.map kc).flatMap fun a => (g.map kc).map fun b => (a.1 + b.1, a.2 * b.2) := by
  unfold prodT
  rw [List.map_flatMap, List.flatMap_map]
  refine flatMap_same fun a _ => ?_
  rw [List.map_map, List.map_map]
  refine List.map_congr_left fun b _ => ?_
  simp only [Function.comp, kc]
  rw [keyL_add]
def oneT (a : List Int × Int) (g : List (List Int × Int)) : List (List Int × Int) := g.map fun b => (addE a.1 b.1, a.2 * b.2)
theorem prodT_snoc (f g : List (List Int × Int)) (a : List Int × Int) : prodT (f ++ [a]) g = prodT f g ++ oneT a g := by simp [prodT, oneT]
theorem oneT_snoc (a b : List Int × Int) (g : List (List Int × Int)) : oneT a (g ++ [b]) = oneT a g ++ [(addE a.1 b.1, a.2 * b.2)] := by simp [oneT]
theorem oneT_abs (a : List Int × Int) (g : List (List Int × Int)) : absT (oneT a g) = a.2.natAbs * absT g := by
  induction g with
  | nil => simp [oneT, absT]
  | cons x g ih =>
    have e : oneT a (x :: g) = (addE a.1 x.1, a.2 * x.2) :: oneT a g := rfl
    rw [e, absT_cons, absT_cons, ih, Int.natAbs_mul, Nat.mul_add]
theorem prodT_abs (f g : List (List Int × Int)) : absT (prodT f g) = absT f * absT g := by
  induction f with
  | nil => simp [prodT, absT]
  | cons a f ih =>
    have e : prodT (a :: f) g = oneT a g ++ prodT f g := by simp [prodT, oneT]
    rw [e, absT_app, oneT_abs, ih, absT_cons, Nat.add_mul]
theorem prodT_perm {f g f' g' : List (List Int × Int)} (h1 : f.Perm f') (h2 : g.Perm g') : (prodT f g).Perm (prodT f' g') := by
  refine (h1.flatMap_right _).trans (perm_flatMap fun a _ => h2.map _)
theorem prodT_ok {E1 E2 : Int} {f g : List (List Int × Int)} (hf : ∀ x ∈ f, x.1.length = 7 ∧ ∀ j, 0 ≤ nth x.1 j ∧ nth x.1 j ≤ E1) (hg : ∀ x ∈ g, x.1.length = 7 ∧ ∀ j, 0 ≤ nth x.1 j ∧ nth x.1 j ≤ E2) (hE : 0 ≤ E1 + E2) : ∀ x ∈ prodT f g, x.1.length = 7 ∧ ∀ j, 0 ≤ nth x.1 j ∧ nth x.1 j ≤ E1 + E2 := fun x hx => by
  obtain ⟨a, ha, hx⟩ := List.mem_flatMap.1 hx
  obtain ⟨b, hb, rfl⟩ := List.mem_map.1 hx
  refine ⟨gen_len _ _, fun j => ?_⟩
  by_cases hj : j < 7
  · rw [addE_at _ _ hj]
    have := (hf a ha).2 j
    have := (hg b hb).2 j
    omega
  · rw [nth_ge (by rw [addE, gen_len]; omega)]; omega
/-- What the product's map holds on the way. -/
structure TimS (H : Type) (w w' : World) (E : Int) (cnt : Nat) (X : List (List Int × Int)) : Prop where
  ex : ∃ acc, PM H w' w.heap.size cnt acc ∧ PolE E acc ∧ absT acc ≤ absT X ∧ ∀ q, coefK (acc.map kc) q = coefK (X.map kc) q
  bel : Below w.heap.size w w'
theorem TimS.below {H : Type} {w w1 w2 : World} {E : Int} {cnt : Nat} {X : List (List Int × Int)} (h : TimS H w w1 E cnt X) (b : Below w1.heap.size w1 w2) : TimS H w w2 E cnt X := by
  obtain ⟨⟨acc, h1, h2⟩, h3⟩ := h
  exact ⟨⟨acc, h1.same (b.block _ h1.lt), h2⟩, h3.trans (b.mono h3.size)⟩
theorem TimS.kept {H : Type} {w w1 w2 : World} {E : Int} {cnt r : Nat} {X : List (List Int × Int)} (h : TimS H w w1 E cnt X) (g : w1.grownBy w2 (some r)) (hr : w.heap.size < r) : TimS H w w2 E cnt X := by
  obtain ⟨⟨acc, h1, h2⟩, h3⟩ := h
  exact ⟨⟨acc, h1.same (g.block _ h1.lt fun e => by injection e; omega), h2⟩, h3.grown g h3.size fun k hk => by injection hk; omega⟩
theorem TimS.lt {H : Type} {w w1 : World} {E : Int} {cnt : Nat} {X : List (List Int × Int)} (h : TimS H w w1 E cnt X) : w.heap.size < w1.heap.size := by
  obtain ⟨⟨acc, h1, h2⟩, h3⟩ := h
  exact h1.lt
/-- One more term. -/
theorem TimS.add {H : Type} {w W : World} {E : Int} {cnt : Nat} {X : List (List Int × Int)} {x : List Int × Int} (h : TimS H w W E cnt X) (hx : x.1.length = 7 ∧ ∀ j, 0 ≤ nth x.1 j ∧ nth x.1 j ≤ E) (hE : E ≤ 1000000) (hn : cnt ≤ 100000000) (hA : absT (X ++ [x]) ≤ 1000000000000000000) :
    Calls Try.prog 65 #[.map (some w.heap.size), kv x.1, .int .i64 x.2] W (fun r w' => r = .returned (.tuple #[]) ∧ TimS H w w' E (cnt + 1) (X ++ [x]) ∧ W.grownBy w' (some w.heap.size)) := by
  obtain ⟨⟨acc, h1, h2, h3, h4⟩, h5⟩ := h
  have h6 := h2.cf_abs x.1
  have he : Ex7 x.1 := ⟨hx.1, fun y hy => by
    obtain ⟨j, hj, rfl⟩ := List.getElem_of_mem hy
    have := hx.2 j
    rw [nth_lt hj] at this
    exact WalkArith.wf_i64 (by omega)⟩
  rw [absT_app, absT_cons] at hA
  refine (addM_any h1 (by unfold maxLen; omega) he (by omega)).mono ?_
  rintro r w' ⟨hr, p1, p2⟩
  refine ⟨hr, ⟨⟨_, p1, h2.add x.2 hx, ?_, fun q => ?_⟩, h5.grown p2 h5.size fun k hk => by injection hk; omega⟩, p2⟩
  · have := addP_abs (acc := acc) (e := x.1) (c := x.2)
    rw [absT_app, absT_cons]; omega
  · rw [coef_addP, h4, List.map_append, coefK_append, List.map_cons, List.map_nil, coefK_cons, coefK_nil]
    show _ = _ + ((if keyL x.1 = q then x.2 else 0) + 0)
    omega
end Go.Proofs.Ytgbojgmmingfdaa

/- times of the program: the walk. -/
namespace Go.Proofs.Ytgbojgmmingfdaa
open Go.RowKit Go.Maps Go.MapKept Go.WideMaps

theorem PR.grownE {H : Type} {w w' : World} {b r n cnt k : Nat} {acc L : List (List Int × Int)} (h : PR H w b r n acc L cnt) (hg : w.grownBy w' (some k)) (h1 : b ≠ k) (h2 : r ≠ k) : PR H w' b r n acc L cnt :=
  h.kept hg (fun e => h1 (by injection e)) (fun e => h2 (by injection e))
theorem kv_cells (e : List Int) : kv e = .agg (cellsI e).toArray := rfl
set_option maxRecDepth 100000 in
set_option maxHeartbeats 4000000 in
theorem times_any {H : Type} {w : World} {b1 b2 n1 n2 : Nat} {E1 E2 : Int} {f g : List (List Int × Int)} (hf : PM H w b1 n1 f) (hg : PM H w b2 n2 g) (pf : PolE E1 f) (pg : PolE E2 g) (hE : 0 ≤ E1 + E2 ∧ E1 + E2 ≤ 127) (hE1 : E1 ≤ 127) (hE2 : E2 ≤ 127) (hA : absT f * absT g ≤ 1000000000000000000)
    (hL : f.length * g.length ≤ 10000000) (hL1 : f.length ≤ 10000000) (hL2 : g.length ≤ 10000000) :
    Calls Try.prog 181 #[.map (some b1), .map (some b2)] w (MakesK H w (E1 + E2) (absT f * absT g) (gatherK ((prodT f g).map kc))) := by
  have gf := pf.good (by omega)
  have gg := pg.good (by omega)
  have HF := Lib.hid hf
  have HG := Lib.hid hg
  have HGF := Lib.hid gf
  have HGG := Lib.hid gg
  have HPF := Lib.hid pf
  have HPG := Lib.hid pg
  have HA := Lib.hid hA
  have HL := Lib.hid hL
  have hmm := fun t w => run_makeMap (P := Try.prog) t w
  obtain ⟨w1, e1⟩ : ∃ W, W = w.alloc (.map #[] 0) := ⟨_, rfl⟩
  have HO1 : Hid (TimS H w w1 (E1 + E2) 0 []) := by rw [e1]; exact ⟨⟨[], PM.made w, PolE.nil_ _, Nat.le_refl _, fun q => rfl⟩, (Below.refl _ _).alloc (Nat.le_refl _) _⟩
  have HF1 : Hid (PM H w1 b1 n1 f) := by rw [e1]; exact hf.alloc _
  have HSF : Hid (b1 < w.heap.size ∧ b2 < w.heap.size) := ⟨hf.lt, hg.lt⟩
  have E1' := Lib.hid e1
  clear e1 hf hg gf gg pf pg hA hL
  go_enter Try.func181, Try.ntmps181
  go_wp2_with (first | (rw [← E1'.out]; at_range; refine wpList_range_poly _ rfl _ rfl b1 n1 f rfl HF1.out HGF.out ?_; intro w2 hpr g2 s2) | fail)
  have HR2 := Lib.hid hpr
  have b12 : Below w1.heap.size w1 w2 := ⟨g2.os, g2.tape, g2.output, g2.size, fun i hi => g2.block i hi (by simp)⟩
  have HO2 : Hid (TimS H w w2 (E1 + E2) 0 []) := HO1.out.below b12
  have HR1 : Hid (w.heap.size < w1.heap.size ∧ w1.heap.size < w2.heap.size) := ⟨HO1.out.lt, by omega⟩
  clear hpr g2 s2 b12
  go_frame
  go_loopw [6, 7, 8, 9, 10, 11, 15, 16] (fun _ _ _ _ _ _ _ _ wr => ∃ (L : List (List Int × Int)) (cnt : Nat), Hid (PR H wr b1 w1.heap.size n1 f L cnt ∧ TimS H w wr (E1 + E2) (L.length * g.length) (prodT L g) ∧ w2.heap.size ≤ wr.heap.size)) (fun _ _ _ _ _ _ _ _ wr => wr.rangeLeft b1 w1.heap.size)
  case atStart => exact ⟨[], _, HR2.out, by simpa [prodT] using HO2.out, Nat.le_refl _⟩
  case round =>
    obtain ⟨L, cnt, HX⟩ := hrel
    go_wp2_with (first | (at_next; refine wpList_next_poly _ rfl _ rfl b1 w1.heap.size n1 f L cnt rfl HX.out.1 HGF.out ?_ ?_) | fail)
    · intro h0 hperm
      have HFIN : Hid (MakesK H w (E1 + E2) (absT f * absT g) (gatherK ((prodT f g).map kc)) (.returned (.map (some w.heap.size))) wr) := by
        obtain ⟨-, ⟨⟨acc, a1, a2, a3, a4⟩, a5⟩, -⟩ := HX.out
        refine ⟨_, rfl, Nat.le_refl _, ⟨_, acc, a1, by rw [hperm.length_eq]; have := HL.out; omega, a2, ?_, ?_⟩, a5⟩
        · rw [prodT_abs, absT_perm hperm] at a3; exact a3
        · unfold kf
          refine gatherK_congr fun q => ?_
          rw [a4, coefK_perm ((prodT_perm hperm (List.Perm.refl g)).map kc)]
      clear hperm
      go_wp2
      go_ret
      exact HFIN.out
    · intro ea za w3 cnt' hec hpr3 hlt g3 s3 hen
      have hE7 := (HGF.out.2 _ hec).1
      have HEA : Hid (ea.length = 7 ∧ ∀ j, 0 ≤ nth ea j ∧ nth ea j ≤ E1) := (HPF.out.ok _ hec).1
      obtain ⟨x0, x1, x2, x3, x4, x5, x6, rfl⟩ := hE7.seven
      have hen' : (Instr.entry (.pointer (some ⟨w1.heap.size, 0, none⟩))).run Try.prog w3 = .ok (.tuple #[.agg #[.int .i64 x0, .int .i64 x1, .int .i64 x2, .int .i64 x3, .int .i64 x4, .int .i64 x5, .int .i64 x6], .int .i64 za]) w3 := hen
      have HY : Hid (PR H w3 b1 w1.heap.size n1 f (L ++ [([x0, x1, x2, x3, x4, x5, x6], za)]) cnt' ∧ cnt' < cnt ∧ TimS H w w3 (E1 + E2) (L.length * g.length) (prodT L g) ∧ w2.heap.size ≤ w3.heap.size) := by
        refine ⟨hpr3, hlt, HX.out.2.1.kept g3 HR1.out.1, by have := HX.out.2.2; omega⟩
      clear hec hpr3 hlt g3 s3 hen hE7
      obtain ⟨w4, e4⟩ : ∃ W, W = w3.alloc (.cells #[.int .i64 x0, .int .i64 x1, .int .i64 x2, .int .i64 x3, .int .i64 x4, .int .i64 x5, .int .i64 x6] 76) := ⟨_, rfl⟩
      have b4 : Below w3.heap.size w3 w4 := by rw [e4]; exact (Below.refl _ _).alloc (Nat.le_refl _) _
      have K4 : Hid (BK w4 w3.heap.size 76 (cellsI [x0, x1, x2, x3, x4, x5, x6])) := by rw [e4]; exact BK.new w3 _ _
      have B4 := Lib.hid b4
      have E4 := Lib.hid e4
      have HGW : Hid (PM H w4 b2 n2 g) := by
        have h := HY.out.2.2.1.bel
        exact (HG.out.same (h.block _ HG.out.lt)).same (b4.block _ (Nat.lt_of_lt_of_le HG.out.lt h.size))
      have hs4 : w4.heap.size = w3.heap.size + 1 := by rw [e4]; simp
      obtain ⟨wo, rfl⟩ : ∃ wo : World, wo = wr := ⟨_, rfl⟩
      clear b4 e4
      go_wp2_with (first | (rw [← E4.out]; at_range; refine wpList_range_poly _ rfl _ rfl b2 n2 g rfl HGW.out HGG.out ?_; intro w6 hpr6 g6 s6) | fail)
      have b46 : Below w4.heap.size w4 w6 := ⟨g6.os, g6.tape, g6.output, g6.size, fun i hi => g6.block i hi (by simp)⟩
      have HR6 := Lib.hid hpr6
      have HZ : Hid (PR H w6 b1 w1.heap.size n1 f (L ++ [([x0, x1, x2, x3, x4, x5, x6], za)]) cnt' ∧ TimS H w w6 (E1 + E2) (L.length * g.length) (prodT L g) ∧ BK w6 w3.heap.size 76 (cellsI [x0, x1, x2, x3, x4, x5, x6])) :=
        ⟨(HY.out.1.below B4.out).below b46, (HY.out.2.2.1.below B4.out).below b46, K4.out.below b46 (by omega)⟩
      have HRR : Hid (w3.heap.size < w4.heap.size ∧ w1.heap.size < w3.heap.size ∧ w4.heap.size < w6.heap.size) := ⟨by omega, by have := HY.out.2.2.2; have := HR1.out; omega, by omega⟩
      clear hpr6 g6 s6 b46 hs4
      go_frame
      go_loopw [8, 9, 10, 11, 22, 23] (fun _ _ _ _ _ _ wr => ∃ (M : List (List Int × Int)) (cnt2 : Nat), Hid (PR H wr b2 w4.heap.size n2 g M cnt2 ∧ PR H wr b1 w1.heap.size n1 f (L ++ [([x0, x1, x2, x3, x4, x5, x6], za)]) cnt' ∧ TimS H w wr (E1 + E2) (L.length * g.length + M.length) (prodT L g ++ oneT ([x0, x1, x2, x3, x4, x5, x6], za) M) ∧ BK wr w3.heap.size 76 (cellsI [x0, x1, x2, x3, x4, x5, x6]) ∧ w6.heap.size ≤ wr.heap.size)) (fun _ _ _ _ _ _ wr => wr.rangeLeft b2 w4.heap.size)
      case atStart => exact ⟨[], _, HR6.out, HZ.out.1, by simpa [oneT] using HZ.out.2.1, HZ.out.2.2, Nat.le_refl _⟩
      case round =>
        obtain ⟨M, cnt2, HM⟩ := hrel
        go_wp2_with (first | (at_next; refine wpList_next_poly _ rfl _ rfl b2 w4.heap.size n2 g M cnt2 rfl HM.out.1 HGG.out ?_ ?_) | fail)
        · intro h02 hperm2
          have HT : Hid (TimS H w wr (E1 + E2) ((L ++ [([x0, x1, x2, x3, x4, x5, x6], za)]).length * g.length) (prodT (L ++ [([x0, x1, x2, x3, x4, x5, x6], za)]) g)) := by
            obtain ⟨⟨acc, a1, a2, a3, a4⟩, a5⟩ := HM.out.2.2.1
            have hl := hperm2.length_eq
            refine ⟨⟨acc, ?_, a2, ?_, fun q => ?_⟩, a5⟩
            · rw [List.length_append, List.length_singleton, Nat.add_mul, Nat.one_mul, ← hl]
              rw [hl] at a1 ⊢
              exact a1
            · rw [absT_app, oneT_abs, absT_perm hperm2] at a3
              rw [prodT_snoc, absT_app, oneT_abs]; exact a3
            · rw [a4, prodT_snoc, List.map_append, List.map_append, coefK_append, coefK_append]
              congr 1
              exact coefK_perm ((hperm2.map _).map kc) q
          clear hperm2
          go_wp2
          go_roundw
          case rel => exact ⟨_, cnt', HM.out.2.1, HT.out, by have := HM.out.2.2.2.2; have := HRR.out; have := HY.out.2.2.2; omega⟩
          case measure =>
            rw [HM.out.2.1.left_eq, HX.out.1.left_eq]
            exact HY.out.2.1
        · intro eb zb w7 cnt3 hec hpr7 hlt g7 s7 hen
          have hE7 := (HGG.out.2 _ hec).1
          have HEB : Hid (eb.length = 7 ∧ ∀ j, 0 ≤ nth eb j ∧ nth eb j ≤ E2) := (HPG.out.ok _ hec).1
          obtain ⟨y0, y1, y2, y3, y4, y5, y6, rfl⟩ := hE7.seven
          have hen' : (Instr.entry (.pointer (some ⟨w4.heap.size, 0, none⟩))).run Try.prog w7 = .ok (.tuple #[.agg #[.int .i64 y0, .int .i64 y1, .int .i64 y2, .int .i64 y3, .int .i64 y4, .int .i64 y5, .int .i64 y6], .int .i64 zb]) w7 := hen
          have HM7 : Hid (PR H w7 b2 w4.heap.size n2 g (M ++ [([y0, y1, y2, y3, y4, y5, y6], zb)]) cnt3 ∧ cnt3 < cnt2 ∧ PR H w7 b1 w1.heap.size n1 f (L ++ [([x0, x1, x2, x3, x4, x5, x6], za)]) cnt' ∧ TimS H w w7 (E1 + E2) (L.length * g.length + M.length) (prodT L g ++ oneT ([x0, x1, x2, x3, x4, x5, x6], za) M) ∧ BK w7 w3.heap.size 76 (cellsI [x0, x1, x2, x3, x4, x5, x6]) ∧ w6.heap.size ≤ w7.heap.size) := by
            obtain ⟨m1, m2, m3, m4, m5⟩ := HM.out
            have h1 := HRR.out
            have h2 := HR1.out
            have h3 := HSF.out
            exact ⟨hpr7, hlt, m2.grownE g7 (by omega) (by omega), m3.kept g7 (by omega), m4.same (g7.block _ m4.lt fun e => by injection e; omega), by omega⟩
          have HMET : Hid (M.length + 1 ≤ g.length ∧ L.length + 1 ≤ f.length ∧ absT (M ++ [([y0, y1, y2, y3, y4, y5, y6], zb)]) ≤ absT g ∧ absT (L ++ [([x0, x1, x2, x3, x4, x5, x6], za)]) ≤ absT f) := by
            have h1 := hpr7.len
            have h2 := HM.out.2.1.len
            rw [List.length_append, List.length_singleton] at h1 h2
            exact ⟨h1, h2, hpr7.met.abs, HM.out.2.1.met.abs⟩
          obtain ⟨wp, rfl⟩ : ∃ wp : World, wp = wr := ⟨_, rfl⟩
          clear hec hpr7 hlt g7 s7 hen hE7
          obtain ⟨w8, e8⟩ : ∃ W, W = w7.alloc (.cells #[.int .i64 y0, .int .i64 y1, .int .i64 y2, .int .i64 y3, .int .i64 y4, .int .i64 y5, .int .i64 y6] 76) := ⟨_, rfl⟩
          have b8 : Below w7.heap.size w7 w8 := by rw [e8]; exact (Below.refl _ _).alloc (Nat.le_refl _) _
          have K8 : Hid (BK w8 w7.heap.size 76 (cellsI [y0, y1, y2, y3, y4, y5, y6])) := by rw [e8]; exact BK.new w7 _ _
          have hs8 : w8.heap.size = w7.heap.size + 1 := by rw [e8]; simp
          have B8 := Lib.hid b8
          have E8 := Lib.hid e8
          have KA : ∀ o, BK (w7.alloc o) w3.heap.size 76 (cellsI [x0, x1, x2, x3, x4, x5, x6]) := fun o => HM7.out.2.2.2.2.1.alloc o
          have q0 : ∀ o, (w7.alloc o).cell? ⟨w3.heap.size, 0, none⟩ = some (.int .i64 x0) := fun o => (KA o).cell (j := 0) rfl
          have q1 : ∀ o, (w7.alloc o).cell? ⟨w3.heap.size, 1, none⟩ = some (.int .i64 x1) := fun o => (KA o).cell (j := 1) rfl
          have q2 : ∀ o, (w7.alloc o).cell? ⟨w3.heap.size, 2, none⟩ = some (.int .i64 x2) := fun o => (KA o).cell (j := 2) rfl
          have q3 : ∀ o, (w7.alloc o).cell? ⟨w3.heap.size, 3, none⟩ = some (.int .i64 x3) := fun o => (KA o).cell (j := 3) rfl
          have q4 : ∀ o, (w7.alloc o).cell? ⟨w3.heap.size, 4, none⟩ = some (.int .i64 x4) := fun o => (KA o).cell (j := 4) rfl
          have q5 : ∀ o, (w7.alloc o).cell? ⟨w3.heap.size, 5, none⟩ = some (.int .i64 x5) := fun o => (KA o).cell (j := 5) rfl
          have q6 : ∀ o, (w7.alloc o).cell? ⟨w3.heap.size, 6, none⟩ = some (.int .i64 x6) := fun o => (KA o).cell (j := 6) rfl
          obtain ⟨w9, e9⟩ : ∃ W, W = w8.alloc (.cells #[.int .i64 x0, .int .i64 x1, .int .i64 x2, .int .i64 x3, .int .i64 x4, .int .i64 x5, .int .i64 x6] 76) := ⟨_, rfl⟩
          have b9 : Below w8.heap.size w8 w9 := by rw [e9]; exact (Below.refl _ _).alloc (Nat.le_refl _) _
          have K9 : Hid (BK w9 (w7.heap.size + 1) 76 (cellsI [x0, x1, x2, x3, x4, x5, x6])) := by rw [e9, ← hs8]; exact BK.new w8 _ _
          have B9 := Lib.hid b9
          have E9 := Lib.hid e9
          have HS8 : Hid (w8.heap.size = w7.heap.size + 1) := hs8
          clear b8 e8 b9 e9 hs8 KA
          go_wp2
          rw [show w7.alloc (.cells #[.int .i64 y0, .int .i64 y1, .int .i64 y2, .int .i64 y3, .int .i64 y4, .int .i64 y5, .int .i64 y6] 76) = w8 from E8.out.symm]
          rw [show w8.alloc (.cells #[.int .i64 x0, .int .i64 x1, .int .i64 x2, .int .i64 x3, .int .i64 x4, .int .i64 x5, .int .i64 x6] 76) = w9 from E9.out.symm]
          obtain ⟨a, ha⟩ : ∃ a, a = [x0, x1, x2, x3, x4, x5, x6] := ⟨_, rfl⟩
          obtain ⟨b, hb⟩ : ∃ b, b = [y0, y1, y2, y3, y4, y5, y6] := ⟨_, rfl⟩
          rw [← ha] at K9 HEA
          rw [← hb] at K8 HEB
          have HAX := Lib.hid ha
          have HBX := Lib.hid hb
          obtain ⟨g8, hg8⟩ : ∃ g, g = w7.heap.size := ⟨_, rfl⟩
          have HG8 := Lib.hid hg8
          rw [← hg8] at K8 K9 HS8 ⊢
          clear ha hb hg8 q0 q1 q2 q3 q4 q5 q6
          have HK9 : Hid (BK w9 (g8 + 1) 76 (cellsI (mixE a b 0)) ∧ Below w8.heap.size w8 w9) := by rw [mixE_zero HEA.out.1]; exact ⟨K9.out, B9.out⟩
          go_loopw [11, 28] (fun _ iv wq => ∃ i : Nat, i ≤ 7 ∧ iv = .int .i64 (i : Int) ∧ Hid (BK wq (g8 + 1) 76 (cellsI (mixE a b i)) ∧ Below w8.heap.size w8 wq)) (fun _ iv _ => 7 - (intOf iv).toNat)
          case atStart => exact ⟨0, by omega, rfl, HK9.out⟩
          case round =>
            obtain ⟨i, hi, rfl, HQ⟩ := hrel
            by_cases hi7 : i < 7
            · obtain ⟨u, hu⟩ : ∃ u, u = nth a i := ⟨_, rfl⟩
              obtain ⟨v, hv⟩ : ∃ u, u = nth b i := ⟨_, rfl⟩
              have x1' : wr.cell? ⟨g8 + 1, i, none⟩ = some (.int .i64 u) := by
                have h := HQ.out.1.cell (cellsI_at (mixE a b i) i (by rw [mixE_len]; exact hi7))
                rw [mixE_at hi7, ← hu] at h
                exact h
              have x2' : wr.cell? ⟨g8, i, none⟩ = some (.int .i64 v) := by
                have h := (K8.out.below HQ.out.2 (by have := HS8.out; omega)).cell (cellsI_at b i (by rw [HEB.out.1]; exact hi7))
                rw [← hv] at h
                exact h
              have x3' : wr.frozen? ⟨g8 + 1, i, none⟩ = false := HQ.out.1.frozen
              have hub := HEA.out.2 i
              have hvb := HEB.out.2 i
              rw [← hu] at hub
              rw [← hv] at hvb
              have hw : IntKind.i64.wrap (u + v) = u + v := IntWalk.i64_in _ (by omega)
              have HST : Hid (∀ nq, BK ((wr.drewN nq).setCell ⟨g8 + 1, i, none⟩ (.int .i64 (u + v))) (g8 + 1) 76 (cellsI (mixE a b (i + 1))) ∧ Below w8.heap.size w8 ((wr.drewN nq).setCell ⟨g8 + 1, i, none⟩ (.int .i64 (u + v)))) := fun nq => by
                refine ⟨?_, (below_drewN HQ.out.2 nq).setCell (by have := HS8.out; simp only; omega) _⟩
                have h := BK.set (w := wr.drewN nq) HQ.out.1 i (.int .i64 (u + v))
                rw [cellsI_set, hu, hv, mixE_set hi7] at h
                rw [hu, hv]
                exact h
              clear hu hv
              go_wp2
              go_region
              go_wp2
              go_roundw
              case rel => exact ⟨i + 1, by omega, by go_num, HST.out 1⟩
              case measure => simp [intOf]; omega
            · have HQ7 : Hid (BK wr (g8 + 1) 76 (cellsI (addE a b))) := by
                have h := HQ.out.1
                rw [show i = 7 by omega, mixE_all] at h
                exact h
              obtain ⟨ev, hev⟩ : ∃ ev, ev = addE a b := ⟨_, rfl⟩
              rw [← hev] at HQ7
              have HEV := Lib.hid hev
              have hl7 : ev.length = 7 := by rw [hev]; exact gen_len _ _
              have HEB2 : Hid (ev.length = 7 ∧ ∀ j, 0 ≤ nth ev j ∧ nth ev j ≤ E1 + E2) := by
                refine ⟨hl7, fun j => ?_⟩
                by_cases hj : j < 7
                · rw [hev, addE_at _ _ hj]
                  have h1 := HEA.out.2 j
                  have h2 := HEB.out.2 j
                  omega
                · rw [nth_ge (by omega)]; omega
              obtain ⟨Z, hZ⟩ : ∃ Z, Z = za * zb := ⟨_, rfl⟩
              have hsn : (prodT L g ++ oneT (a, za) M) ++ [(ev, Z)] = prodT L g ++ oneT (a, za) (M ++ [(b, zb)]) := by
                rw [oneT_snoc, hev, hZ, List.append_assoc]
              have habs : absT ((prodT L g ++ oneT (a, za) M) ++ [(ev, Z)]) ≤ absT f * absT g := by
                rw [hsn, absT_app, prodT_abs, oneT_abs]
                have h1 := HMET.out.2.2.2
                rw [absT_app, absT_cons] at h1
                have h2 := HMET.out.2.2.1
                have h3 : za.natAbs * absT (M ++ [([y0, y1, y2, y3, y4, y5, y6], zb)]) ≤ za.natAbs * absT g := Nat.mul_le_mul_left _ h2
                have h4 : (absT L + za.natAbs) * absT g ≤ absT f * absT g := Nat.mul_le_mul_right _ (by simp only at h1; omega)
                rw [Nat.add_mul] at h4
                rw [← HBX.out] at h3
                simp only
                omega
              have hZb : -1000000000000000000 ≤ Z ∧ Z ≤ 1000000000000000000 := by
                rw [absT_app, absT_cons] at habs
                have := HA.out
                simp only at habs
                omega
              have hw : IntKind.i64.wrap (za * zb) = Z := by rw [← hZ]; exact IntWalk.i64_in _ (by omega)
              have HTS : Hid (TimS H w wr (E1 + E2) (L.length * g.length + M.length) (prodT L g ++ oneT (a, za) M)) := by
                have h := (HM7.out.2.2.2.1.below B8.out).below HQ.out.2
                rw [← HAX.out] at h
                exact h
              have HADD : Hid (Calls Try.prog 65 #[.map (some w.heap.size), kv ev, .int .i64 Z] wr (fun r w' => r = .returned (.tuple #[]) ∧ TimS H w w' (E1 + E2) (L.length * g.length + M.length + 1) ((prodT L g ++ oneT (a, za) M) ++ [(ev, Z)]) ∧ wr.grownBy w' (some w.heap.size))) := by
                have h1 := HMET.out
                have h2 := HL.out
                have h3 : (L.length + 1) * g.length ≤ f.length * g.length := Nat.mul_le_mul_right _ h1.2.1
                rw [Nat.add_mul, Nat.one_mul] at h3
                exact TimS.add (x := (ev, Z)) HTS.out HEB2.out (by omega) (by omega) (Nat.le_trans habs HA.out)
              have HSN := Lib.hid hsn
              have HPX : Hid (PR H wr b2 w4.heap.size n2 g (M ++ [([y0, y1, y2, y3, y4, y5, y6], zb)]) cnt3 ∧ PR H wr b1 w1.heap.size n1 f (L ++ [([x0, x1, x2, x3, x4, x5, x6], za)]) cnt' ∧ BK wr w3.heap.size 76 (cellsI [x0, x1, x2, x3, x4, x5, x6]) ∧ w6.heap.size ≤ wr.heap.size) := by
                obtain ⟨m1, m2, m3, m4, m5, m6⟩ := HM7.out
                have hb8 := B8.out
                have hq := HQ.out.2
                refine ⟨(m1.below hb8).below hq, (m3.below hb8).below hq, (m5.below hb8 m5.lt).below hq ?_, ?_⟩
                · have := m5.lt; have := hb8.size; omega
                · have := hb8.size; have := hq.size; omega
              obtain ⟨s0, s1, s2, s3, s4, s5, s6, rfl⟩ : ∃ s0 s1 s2 s3 s4 s5 s6, ev = [s0, s1, s2, s3, s4, s5, s6] := by
                rcases ev with _ | ⟨p0, _ | ⟨p1, _ | ⟨p2, _ | ⟨p3, _ | ⟨p4, _ | ⟨p5, _ | ⟨p6, _ | ⟨p7, r⟩⟩⟩⟩⟩⟩⟩⟩
                all_goals first | exact ⟨_, _, _, _, _, _, _, rfl⟩ | (simp only [List.length_cons, List.length_nil] at hl7; omega)
              have q0 := HQ7.out.cell (j := 0) rfl
              have q1 := HQ7.out.cell (j := 1) rfl
              have q2 := HQ7.out.cell (j := 2) rfl
              have q3 := HQ7.out.cell (j := 3) rfl
              have q4 := HQ7.out.cell (j := 4) rfl
              have q5 := HQ7.out.cell (j := 5) rfl
              have q6 := HQ7.out.cell (j := 6) rfl
              have HADD' : Hid (Calls Try.prog 65 #[.map (some w.heap.size), .agg #[.int .i64 s0, .int .i64 s1, .int .i64 s2, .int .i64 s3, .int .i64 s4, .int .i64 s5, .int .i64 s6], .int .i64 Z] wr (fun r w' => r = .returned (.tuple #[]) ∧ TimS H w w' (E1 + E2) (L.length * g.length + M.length + 1) ((prodT L g ++ oneT (a, za) M) ++ [([s0, s1, s2, s3, s4, s5, s6], Z)]) ∧ wr.grownBy w' (some w.heap.size))) := HADD.out
              clear hev hl7 hZ hsn habs
              go_wp2_with (first | (go_at_call 65; refine HADD'.out.mono ?_; rintro r wE ⟨rfl, p5, g5⟩) | fail)
              have P5 := Lib.hid p5
              have G5 := Lib.hid g5
              have HRL : Hid (PR H wE b2 w4.heap.size n2 g (M ++ [([y0, y1, y2, y3, y4, y5, y6], zb)]) cnt3 ∧ PR H wE b1 w1.heap.size n1 f (L ++ [([x0, x1, x2, x3, x4, x5, x6], za)]) cnt' ∧ BK wE w3.heap.size 76 (cellsI [x0, x1, x2, x3, x4, x5, x6]) ∧ w6.heap.size ≤ wE.heap.size) := by
                obtain ⟨a1, a2, a3, a4⟩ := HPX.out
                have h1 := HRR.out
                have h2 := HR1.out
                have h3 := HSF.out
                exact ⟨a1.grownE G5.out (by omega) (by omega), a2.grownE G5.out (by omega) (by omega), a3.same (G5.out.block _ a3.lt fun e => by injection e; omega), Nat.le_trans a4 G5.out.size⟩
              clear p5 g5
              go_roundw
              case rel =>
                refine ⟨_, cnt3, HRL.out.1, HRL.out.2.1, ?_, HRL.out.2.2.1, HRL.out.2.2.2⟩
                have h := P5.out
                rw [HSN.out, HAX.out, HBX.out] at h
                rw [List.length_append, List.length_singleton, ← Nat.add_assoc]
                exact h
              case measure =>
                rw [HRL.out.1.left_eq, HM.out.1.left_eq]
                exact HM7.out.2.1
end Go.Proofs.Ytgbojgmmingfdaa
