/- Small shapes: of a size of at most 8. -/
import Derived.Test.YtgbojgmmingfdaaShapes
import Derived.Test.YtgbojgmmingfdaaFillT
import Derived.Test.YtgbojgmmingfdaaTermA
namespace Go.Proofs.Ytgbojgmmingfdaa
open Go.RowKit

def smallB (l : List Int) : Bool := isShapeB l && decide (sumL l ≤ 8)
theorem smallB_shape {l : List Int} (h : smallB l = true) : isShapeB l = true ∧ sumL l ≤ 8 := by simpa [smallB] using h
theorem smallB_no {l : List Int} (h : isShapeB l = false) : smallB l = false := by simp [smallB, h]
theorem smallB_yes {l : List Int} (h : isShapeB l = true) : smallB l = decide (sumL l ≤ 8) := by simp [smallB, h]
set_option maxHeartbeats 1000000 in
theorem l4Small_any {A : Option Addr} {n : Nat} {l : List Int} {w : World} (c : Nat) (hx : RI w A n l) (hn : n ≤ 1000000000) :
    Calls Try.prog 123 #[.slice A n c] w (Gives w (.bool (smallB l))) := by
  have HIS : Hid (∀ W, RI W A n l → Calls Try.prog 57 #[.slice A n c] W (Gives W (.bool (isShapeB l)))) := fun W h => sIsShape_any _ h hn
  rcases hs : isShapeB l with _ | _
  · have HO := Lib.hid (smallB_no hs)
    go_enter Try.func123, Try.ntmps123
    go_wp2_with (go_at_call 57; (with_reducible refine (HIS.out _ ?_).mono ?_); (first | exact hx | exact hx.drewN _); rintro e w' ⟨rfl, q0, rfl⟩)
    go_ret
    rw [HO.out]
    exact ⟨rfl, (by first | exact ⟨_, rfl⟩ | exact ⟨_, (World.drewN_drewN _ _ _).symm⟩ | exact Quiet.refl _ | (simp only [World.drewN_drewN]; exact ⟨_, rfl⟩))⟩
  · have HO := Lib.hid (smallB_yes hs)
    have hlen : n ≤ 16 := by have h2 := hs; simp only [isShapeB, Bool.and_eq_true, decide_eq_true_eq] at h2; rw [← hx.1]; exact h2.1
    have HSS : Hid (∀ W, RI W A n l → Calls Try.prog 58 #[.slice A n c] W (Gives W (.int .i64 (sumL l)))) := fun W h => sSum_any _ h (small_shape hs) (by omega)
    obtain ⟨S, hS⟩ : ∃ S, S = sumL l := ⟨_, rfl⟩
    have HSE := Lib.hid hS
    rw [← hS] at HSS HO
    clear hS
    go_enter Try.func123, Try.ntmps123
    go_wp2_with (first | (go_at_call 57; (with_reducible refine (HIS.out _ ?_).mono ?_); (first | exact hx | exact hx.drewN _); rintro e w' ⟨rfl, q0, rfl⟩) | (go_at_call 58; (with_reducible refine (HSS.out _ ?_).mono ?_); (first | exact hx | exact hx.drewN _); rintro e w' ⟨rfl, q1, rfl⟩))
    go_ret
    rw [HO.out]
    exact ⟨rfl, (by first | exact ⟨_, rfl⟩ | exact ⟨_, (World.drewN_drewN _ _ _).symm⟩ | exact Quiet.refl _ | (simp only [World.drewN_drewN]; exact ⟨_, rfl⟩))⟩
set_option maxHeartbeats 1000000 in
theorem iSmall_any {A : Option Addr} {n : Nat} {l : List Int} {w : World} (c : Nat) (hx : RI w A n l) (hn : n ≤ 1000000000) :
    Calls Try.prog 62 #[.slice A n c] w (Gives w (.bool (smallB l))) := by
  have HIS : Hid (∀ W, RI W A n l → Calls Try.prog 92 #[.slice A n c] W (Gives W (.bool (isShapeB l)))) := fun W h => iIsShape_any _ h hn
  rcases hs : isShapeB l with _ | _
  · have HO := Lib.hid (smallB_no hs)
    go_enter Try.func62, Try.ntmps62
    go_wp2_with (go_at_call 92; (with_reducible refine (HIS.out _ ?_).mono ?_); (first | exact hx | exact hx.drewN _); rintro e w' ⟨rfl, q0, rfl⟩)
    go_ret
    rw [HO.out]
    exact ⟨rfl, (by first | exact ⟨_, rfl⟩ | exact ⟨_, (World.drewN_drewN _ _ _).symm⟩ | exact Quiet.refl _ | (simp only [World.drewN_drewN]; exact ⟨_, rfl⟩))⟩
  · have HO := Lib.hid (smallB_yes hs)
    have hlen : n ≤ 16 := by have h2 := hs; simp only [isShapeB, Bool.and_eq_true, decide_eq_true_eq] at h2; rw [← hx.1]; exact h2.1
    have HSS : Hid (∀ W, RI W A n l → Calls Try.prog 93 #[.slice A n c] W (Gives W (.int .i64 (sumL l)))) := fun W h => iSum_any _ h (small_shape hs) (by omega)
    obtain ⟨S, hS⟩ : ∃ S, S = sumL l := ⟨_, rfl⟩
    have HSE := Lib.hid hS
    rw [← hS] at HSS HO
    clear hS
    go_enter Try.func62, Try.ntmps62
    go_wp2_with (first | (go_at_call 92; (with_reducible refine (HIS.out _ ?_).mono ?_); (first | exact hx | exact hx.drewN _); rintro e w' ⟨rfl, q0, rfl⟩) | (go_at_call 93; (with_reducible refine (HSS.out _ ?_).mono ?_); (first | exact hx | exact hx.drewN _); rintro e w' ⟨rfl, q1, rfl⟩))
    go_ret
    rw [HO.out]
    exact ⟨rfl, (by first | exact ⟨_, rfl⟩ | exact ⟨_, (World.drewN_drewN _ _ _).symm⟩ | exact Quiet.refl _ | (simp only [World.drewN_drewN]; exact ⟨_, rfl⟩))⟩
end Go.Proofs.Ytgbojgmmingfdaa

/- SchurPoly of the program. -/
namespace Go.Proofs.Ytgbojgmmingfdaa
open Go.RowKit Go.Maps Go.MapKept Go.WideMaps

theorem PM.same {H : Type} {w w' : World} {b n : Nat} {acc : List (List Int × Int)} (h : PM H w b n acc) (e : w'.heap[b]? = w.heap[b]?) : PM H w' b n acc := by
  obtain ⟨D, ⟨es, clock, hb, r⟩, hr⟩ := h
  exact ⟨D, ⟨es, clock, e.trans hb, r⟩, hr⟩
theorem PM.made {H : Type} (w : World) : PM H (w.alloc (.map #[] 0)) w.heap.size 0 [] :=
  ⟨.map [], World.ownsMap_made w _ _ _, ⟨fun e he => by simp [DataW.atKey, cf], fun e he => by simp [Maps.has, cf]⟩, fun i j _ hj => by simp at hj⟩
theorem ent_of {P : Program} {f : FuncId} {fn : Func} {c : Code} (hf : P.funcs[f]? = some fn) (hname : (fn.name == "runtime.NumGoroutine") = false) (hb : fn.body = some c) (args : Array Value) (w : World) :
    (callFunc f args).run P w = .ok (.enter f args) w := ent_tm hf hname hb args w
theorem Kept.of_grown {O : Nat → Prop} {w w' : World} {b : Nat} (h : w.grownBy w' (some b)) (hO : O b) : Kept O w w' :=
  ⟨h.os, h.tape, h.output, h.size, fun k hk hn => h.block k hk fun e => hn (by injection e with e; rw [e]; exact hO)⟩
/-- What the closure's variable holds. -/
structure SchI (H : Type) (w0 : World) (gf b : Nat) (w : World) (s : List (List Int × Int) × Nat) (O : Nat → Prop) : Prop where
  own : ∀ k, O k ↔ k = gf ∨ k = b
  bf : BK w gf 74 [.map (some b)]
  pm : PM H w b s.2 s.1
  bel : Below w0.heap.size w0 w
def stepS (s : List (List Int × Int) × Nat) (t : List (List Int)) : List (List Int × Int) × Nat := (addP s.1 (wtE t) 1, s.2 + 1)
theorem foldl_stepS : ∀ (ts : List (List (List Int))) (s : List (List Int × Int) × Nat), ts.foldl stepS s = (accT s.1 ts, s.2 + ts.length)
  | [], s => by simp [accT]
  | t :: ts, s => by
    rw [List.foldl_cons, foldl_stepS ts]
    simp only [stepS, List.length_cons]
    rw [show s.2 + 1 + ts.length = s.2 + (ts.length + 1) by omega]
    rfl
theorem cellsI_set (l : List Int) (j : Nat) (y : Int) : (cellsI l).set j (.int .i64 y) = cellsI (l.set j y) := by simp [cellsI, List.map_set]
theorem expE_take {e r : List Int} {j : Nat} (h : j < r.length) : expE e (r.take (j + 1)) = bumpE (expE e (r.take j)) (nth r j) := by
  unfold expE
  rw [take_succ_nth h, List.foldl_append]; rfl
theorem wt_take {t : List (List Int)} {j : Nat} (h : j < t.length) : (t.take (j + 1)).foldl expE zeroE = expE ((t.take j).foldl expE zeroE) (nthL t j) := by
  rw [List.take_succ_eq_append_getElem h, List.foldl_append]
  have : nthL t j = t[j] := by simp [nthL, List.getD, h]
  rw [this]; rfl
theorem take_sum (T : List (List Int)) (k : Nat) : ((T.take k).map List.length).sum ≤ (T.map List.length).sum := by
  conv => rhs; rw [← List.take_append_drop k T, List.map_append, List.sum_append]
  omega
theorem row_sum : ∀ {T : List (List Int)} {k : Nat}, k < T.length → (nthL T k).length ≤ (T.map List.length).sum
  | [], k, h => by simp at h
  | r :: T, 0, _ => by simp [nthL]
  | r :: T, k + 1, h => by
    have := row_sum (T := T) (k := k) (by simpa using h)
    have e : nthL (r :: T) (k + 1) = nthL T k := by simp [nthL]
    rw [e, List.map_cons, List.sum_cons]; omega
theorem nthL_memL {T : List (List Int)} {k : Nat} (h : k < T.length) : nthL T k ∈ T := by
  unfold nthL
  rw [List.getD_eq_getElem?_getD, List.getElem?_eq_getElem h]
  exact List.getElem_mem _
/-- What is counted on the way. -/
theorem e_way {T : List (List Int)} {k q : Nat} (h7 : ∀ r ∈ T, ∀ x ∈ r, 0 ≤ x ∧ x < 7) (hk : k < T.length) (h8 : (T.map List.length).sum ≤ 8) :
    (expE ((T.take k).foldl expE zeroE) ((nthL T k).take q)).length = 7 ∧ ∀ j, 0 ≤ nth (expE ((T.take k).foldl expE zeroE) ((nthL T k).take q)) j ∧ nth (expE ((T.take k).foldl expE zeroE) ((nthL T k).take q)) j ≤ 16 := by
  have h1 := key_tab (T.take k) zeroE rfl fun r hr => h7 r (List.mem_of_mem_take hr)
  have h2 := key_row ((nthL T k).take q) _ h1.1 fun x hx => h7 _ (nthL_memL hk) x (List.mem_of_mem_take hx)
  have h3 := tab_in (T.take k) (e := zeroE) (N := 0) fun j => by rw [zeroE_at]; omega
  have h4 := row_in ((nthL T k).take q) h3
  refine ⟨h2.1, fun j => ?_⟩
  have h5 := h4 j
  have h6 := take_sum T k
  have h9 := row_sum hk
  have h10 : ((nthL T k).take q).length ≤ (nthL T k).length := by rw [List.length_take]; omega
  omega
set_option maxRecDepth 100000 in
set_option maxHeartbeats 1000000 in
theorem seeS_any {H : Type} {w0 w : World} {gf b : Nat} {s : List (List Int × Int) × Nat} {O : Nat → Prop} {T : List (List Int)} {A : Option Addr} {m c : Nat} {cells : List Value} (hg : w0.heap.size ≤ gf ∧ w0.heap.size ≤ b ∧ gf ≠ b) (hi : SchI H w0 gf b w s O)
    (hs : s.2 ≤ 1000000000) (hcf : ∀ e, 0 ≤ cf s.1 e ∧ cf s.1 e ≤ 1000000000) (hT : TO w0.heap.size w O (.slice A m c) T cells) (h7 : ∀ r ∈ T, ∀ x ∈ r, 0 ≤ x ∧ x < 7) (hsz : (T.map List.length).sum ≤ 8) (hTl : T.length ≤ 1000) :
    Calls Try.prog 64 #[.slice A m c, .pointer (some ⟨gf, 0, none⟩)] w (fun e w' => e = .returned (.bool true) ∧ ∃ O' : Nat → Prop, SchI H w0 gf b w' (stepS s T) O' ∧ (∀ k, O' k → O k ∨ w.heap.size ≤ k) ∧ Kept O w w') := by
  have hm : T.length = m := by
    obtain ⟨A', n', c', e, h1, -⟩ := OS.form hT.1
    rw [h1, (slice_inj e).2.1]
  have HT := Lib.hid hT
  have HI := Lib.hid hi
  have H7 := Lib.hid h7
  have HG := Lib.hid hg
  obtain ⟨w1, e1⟩ : ∃ W, W = w.alloc (.cells (cellsI zeroE).toArray 76) := ⟨_, rfl⟩
  have b1 : Below w.heap.size w w1 := by rw [e1]; exact (Below.refl _ _).alloc (Nat.le_refl _) _
  have k1 : Hid (BK w1 w.heap.size 76 (cellsI zeroE)) := by rw [e1]; exact BK.new w _ _
  have B1 := Lib.hid b1
  have E1 := Lib.hid e1
  obtain ⟨g, hgg⟩ : ∃ g, g = w.heap.size := ⟨_, rfl⟩
  have HGG := Lib.hid hgg
  have H8 := Lib.hid hsz
  clear hT hi h7 b1 e1 hsz
  go_enter Try.func64, Try.ntmps64
  go_wp2
  have hal : w.alloc (.cells #[.int .i64 0, .int .i64 0, .int .i64 0, .int .i64 0, .int .i64 0, .int .i64 0, .int .i64 0] 76) = w1 := E1.out.symm
  rw [hal, ← hgg]
  clear hal
  rw [← HGG.out] at k1
  clear hgg
  go_loopw [6, 8, 12] (fun _ _ i wr => ∃ k : Nat, k ≤ m ∧ i = .int .i64 (k : Int) ∧ Hid (BK wr g 76 (cellsI ((T.take k).foldl expE zeroE)) ∧ Below w.heap.size w wr)) (fun _ _ i _ => m - (intOf i).toNat)
  case atStart => exact ⟨0, Nat.zero_le _, rfl, by simpa using k1.out, B1.out⟩
  case round =>
    obtain ⟨k, hk, rfl, HX⟩ := hrel
    by_cases hlt : k < m
    · obtain ⟨ad, A', n', c', rfl, x1, -, x2, -⟩ := OS.cell HT.out.1 (k := k) hlt
      have y1 := one_cell HX.out.2 x1
      have X2 := Lib.hid x2
      have hrl : Hid ((nthL T k).length = n') := x2.ri.1
      have hn8 : n' ≤ 8 := by rw [← hrl.out]; exact Nat.le_trans (row_sum (by omega)) H8.out
      have HW : Hid (∀ q, (expE ((T.take k).foldl expE zeroE) ((nthL T k).take q)).length = 7 ∧ ∀ j, 0 ≤ nth (expE ((T.take k).foldl expE zeroE) ((nthL T k).take q)) j ∧ nth (expE ((T.take k).foldl expE zeroE) ((nthL T k).take q)) j ≤ 16) := fun q => e_way H7.out (by omega) H8.out
      obtain ⟨e0, he0⟩ : ∃ e0, e0 = (T.take k).foldl expE zeroE := ⟨_, rfl⟩
      rw [← he0] at HX HW
      have HE0 := Lib.hid he0
      obtain ⟨wo, hwo⟩ : ∃ wo : World, wo = wr := ⟨_, rfl⟩
      rw [← hwo] at HX y1 ⊢
      clear he0 x2 x1 hwo
      go_wp2
      go_loopw [8, 18] (fun _ j wq => ∃ q : Nat, q ≤ n' ∧ j = .int .i64 (q : Int) ∧ Hid (BK wq g 76 (cellsI (expE e0 ((nthL T k).take q))) ∧ Below w.heap.size w wq)) (fun _ j _ => n' - (intOf j).toNat)
      case atStart => exact ⟨0, Nat.zero_le _, rfl, HX.out⟩
      case round =>
        obtain ⟨q, hq, rfl, HQ⟩ := hrel
        by_cases hqt : q < n'
        · obtain ⟨ad2, rfl, z1⟩ := (X2.out.ri.below HQ.out.2).cell hqt
          obtain ⟨X, hX⟩ : ∃ X : Nat, nth (nthL T k) q = (X : Int) := ⟨(nth (nthL T k) q).toNat, by have := (H7.out _ (nthL_memL (k := k) (by omega)) _ (nth_mem (l := nthL T k) (k := q) (by rw [hrl.out]; exact hqt))).1; omega⟩
          have hX7 : X < 7 := by have := (H7.out _ (nthL_memL (k := k) (by omega)) _ (nth_mem (l := nthL T k) (k := q) (by rw [hrl.out]; exact hqt))).2; omega
          rw [hX] at z1
          obtain ⟨y, hy⟩ : ∃ y, y = nth (expE e0 ((nthL T k).take q)) X := ⟨_, rfl⟩
          have hyb := (HW.out q).2 X
          have z2 : wr.cell? ⟨g, X, none⟩ = some (.int .i64 y) := HQ.out.1.cell (by rw [hy]; exact cellsI_at _ _ (by rw [(HW.out q).1]; exact hX7))
          have z3 : wr.frozen? ⟨g, X, none⟩ = false := HQ.out.1.frozen
          rw [← hy] at hyb
          have HS : Hid (BK (wr.setCell ⟨g, X, none⟩ (.int .i64 (y + 1))) g 76 (cellsI (expE e0 ((nthL T k).take (q + 1)))) ∧ Below w.heap.size w (wr.setCell ⟨g, X, none⟩ (.int .i64 (y + 1)))) := by
            refine ⟨?_, HQ.out.2.setCell (by rw [HGG.out]; exact Nat.le_refl _) _⟩
            have h := HQ.out.1.set X (.int .i64 (y + 1))
            rw [cellsI_set] at h
            rw [expE_take (by rw [hrl.out]; exact hqt), hX, bumpE, Int.toNat_natCast, ← hy]
            exact h
          have hw : IntKind.i64.wrap (y + 1) = y + 1 := IntWalk.i64_in _ (by omega)
          clear hy hX
          go_wp2
          go_roundw
          case rel => exact ⟨q + 1, by omega, by go_num, HS.out⟩
          case measure => simp [intOf]; omega
        · obtain rfl : q = n' := by omega
          have HR : Hid (BK wr g 76 (cellsI ((T.take (k + 1)).foldl expE zeroE)) ∧ Below w.heap.size w wr) := by
            have h := HQ.out
            rw [List.take_of_length_le (by rw [hrl.out]; exact Nat.le_refl _), HE0.out, ← wt_take (by omega)] at h
            exact h
          go_wp2
          go_roundw
          case rel => exact ⟨k + 1, by omega, by go_num, HR.out⟩
          case measure => simp [intOf]; omega
    · obtain rfl : k = m := by omega
      have hall : (T.take k).foldl expE zeroE = wtE T := by rw [List.take_of_length_le (by omega)]; rfl
      rw [hall] at HX
      have hk7 := (key_tab T zeroE rfl H7.out).1
      have ht8 := tab_in T (e := zeroE) (N := 0) fun j => by rw [zeroE_at]; omega
      have hE : Ex7 (wtE T) := ⟨hk7, fun x hx => by
        obtain ⟨j, hj, rfl⟩ := List.getElem_of_mem hx
        have h1 := ht8 j
        have h2 := H8.out
        have e : nth (wtE T) j = (wtE T)[j] := nth_lt hj
        rw [show nth (T.foldl expE zeroE) j = (wtE T)[j] from e] at h1
        exact WalkArith.wf_i64 (by omega)⟩
      obtain ⟨ev, hev⟩ : ∃ ev, ev = wtE T := ⟨_, rfl⟩
      rw [← hev] at HX hE
      have HEV := Lib.hid hev
      have HE := Lib.hid hE
      have HPM : Hid (PM H wr b s.2 s.1) := HI.out.pm.same (HX.out.2.block b HI.out.pm.lt)
      have HBF : Hid (BK wr gf 74 [.map (some b)]) := HI.out.bf.same (HX.out.2.block gf HI.out.bf.lt)
      have c0 := HBF.out.cell (j := 0) rfl
      obtain ⟨e0, e1, e2, e3, e4, e5, e6, rfl⟩ := hE.seven
      have q0 := HX.out.1.cell (j := 0) rfl
      have q1 := HX.out.1.cell (j := 1) rfl
      have q2 := HX.out.1.cell (j := 2) rfl
      have q3 := HX.out.1.cell (j := 3) rfl
      have q4 := HX.out.1.cell (j := 4) rfl
      have q5 := HX.out.1.cell (j := 5) rfl
      have q6 := HX.out.1.cell (j := 6) rfl
      have HC : Hid (Calls Try.prog 65 #[.map (some b), .agg #[.int .i64 e0, .int .i64 e1, .int .i64 e2, .int .i64 e3, .int .i64 e4, .int .i64 e5, .int .i64 e6], .int .i64 1] wr (fun r w' => r = .returned (.tuple #[]) ∧ PM H w' b (s.2 + 1) (addP s.1 [e0, e1, e2, e3, e4, e5, e6] 1) ∧ wr.grownBy w' (some b))) :=
        addM_any HPM.out (by unfold maxLen; omega) HE.out (by have := hcf [e0, e1, e2, e3, e4, e5, e6]; omega)
      clear hE hev hall hk7 ht8
      go_wp2_with (go_at_call 65; refine HC.out.mono ?_; rintro e w' ⟨rfl, p1, p2⟩)
      go_ret
      refine ⟨rfl, O, ⟨HI.out.own, HBF.out.same (p2.block gf HBF.out.lt fun e => HG.out.2.2 (Option.some.inj e)), ?_, HI.out.bel.trans ?_⟩, fun k h => .inl h, ?_⟩
      · rw [HEV.out] at p1; exact p1
      · exact (HX.out.2.mono HI.out.bel.size).grown p2 (Nat.le_trans HI.out.bel.size HX.out.2.size) fun k hk => by injection hk with hk; rw [← hk]; exact HG.out.2.1
      · exact (Kept.of_below HX.out.2).trans (fun k h => .inl h) (Kept.of_grown p2 ((HI.out.own b).2 (.inr rfl)))
/-- What the tableaux must be. -/
def okT8 (T : List (List Int)) : Prop := (∀ r ∈ T, ∀ x ∈ r, 0 ≤ x ∧ x < 7) ∧ (T.map List.length).sum ≤ 8 ∧ T.length ≤ 1000
theorem schurC (H : Type) {w0 : World} {gf b : Nat} (hg : w0.heap.size ≤ gf ∧ w0.heap.size ≤ b ∧ gf ≠ b) :
    ClosT Try.prog 64 #[.pointer (some ⟨gf, 0, none⟩)] w0.heap.size (List (List Int × Int) × Nat) (SchI H w0 gf b) stepS (fun _ _ => true) (fun s m => s.2 + m ≤ 1000000000 ∧ AccOk s.1 s.2) okT8 where
  ent := ent_of Try.func64 (by kernel_rfl) rfl
  ge hi k hk := by
    rcases (hi.own k).1 hk with rfl | rfl
    · exact ⟨hg.1, hi.bf.lt⟩
    · exact ⟨hg.2.1, hi.pm.lt⟩
  keep hi hk := ⟨hi.own, hi.bf.same (hk.block _ hi.bf.lt fun h => h.2 ((hi.own _).2 (.inl rfl))), hi.pm.same (hk.block _ hi.pm.lt fun h => h.2 ((hi.own _).2 (.inr rfl))), hi.bel.trans (hk.low (fun k h => h.1) hi.bel.size)⟩
  next := fun {s p m} h hp _ => by
    obtain ⟨h1, h2⟩ := h
    have h3 := (key_tab p zeroE rfl hp.1).1
    have h4 := tab_in p (e := zeroE) (N := 0) fun j => by rw [zeroE_at]; omega
    have h5 := hp.2.1
    refine ⟨by simp only [stepS]; omega, ?_⟩
    have h6 := h2.add (s := wtE p) (by omega) h3 fun j => by have := h4 j; unfold wtE; omega
    exact h6
  less h hm := by have := h.1; exact ⟨by omega, h.2⟩
  call hi hf hp hT := by
    have h1 := hf.1
    exact seeS_any hg hi (by omega) (fun e => by have := hf.2.cf_le (by omega) e; omega) hT hp.1 hp.2.1 hp.2.2
end Go.Proofs.Ytgbojgmmingfdaa
