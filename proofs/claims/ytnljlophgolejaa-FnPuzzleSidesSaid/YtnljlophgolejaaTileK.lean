/- tilings of the program: all puzzles with two sides are seen. -/
import Derived.Test.YtnljlophgolejaaTileJ
import Derived.Test.YtnljlophgolejaaLayer
namespace Go.Proofs.Ytnljlophgolejaa
open Go.RowKit

theorem tile_any {F : FuncId} {caps : Array Value} {n : Nat} {S : Type} {inv : World → S → (Nat → Prop) → Prop} {step : S → PZ → S} {go : S → PZ → Bool} {fit : S → Nat → Prop} {okp : PZ → Prop}
    (wt : Bool) (w0 : World) (a b : List Int) (Aa Ab : Option Addr) (ca cb nk ck : Nat) (C : Clos Try.prog F caps w0.heap.size n S inv step go fit okp) (hn7 : n ≤ 7) (ha : RI w0 Aa n a) (hb : RI w0 Ab n b) : ∀ d, TileC wt w0 a b Aa Ab ca cb nk ck C d
  | 0 => tile_end wt w0 a b Aa Ab ca cb nk ck C hn7
  | d + 1 => tile_step wt w0 a b Aa Ab ca cb nk ck C hn7 ha hb d (tile_any wt w0 a b Aa Ab ca cb nk ck C hn7 ha hb d)

theorem triples_new {w : World} (wt : Bool) :
    Calls Try.prog 96 #[.bool wt] w (fun e w' => ∃ g n c, e = .returned (.slice (some ⟨g, 0, none⟩) n c) ∧ RTr w' (some ⟨g, 0, none⟩) n (trips wt) ∧ (w.heap.size ≤ g ∧ g < w'.heap.size) ∧ Below w.heap.size w w') := by
  have h5 := lit_five w
  have b5 : Below w.heap.size w (w.alloc (.cells #[.int .i64 0, .int .i64 0, .int .i64 0, .int .i64 1, .int .i64 1, .int .i64 1, .int .i64 0, .int .i64 1, .int .i64 2, .int .i64 1, .int .i64 2, .int .i64 0, .int .i64 2, .int .i64 0, .int .i64 1] 112)) := (Below.refl _ _).alloc (Nat.le_refl _) _
  cases wt
  · go_enter Try.func96, Try.ntmps96
    go_wp2
    go_ret
    refine ⟨_, _, _, rfl, ⟨rfl, w.heap.size, rfl, by simp, fun k hk => ?_⟩, ⟨Nat.le_refl _, by simp⟩, b5⟩
    have hc : ∀ m, m < 15 → _ = (five.map (Value.int .i64))[m]? := fun m hm => h5.cellF (m := m) hm
    have hk' : k = 0 ∨ k = 1 ∨ k = 2 ∨ k = 3 ∨ k = 4 := by omega
    rcases hk' with rfl | rfl | rfl | rfl | rfl <;> exact ⟨(hc _ (by omega)).trans rfl, (hc _ (by omega)).trans rfl, (hc _ (by omega)).trans rfl⟩
  · go_enter Try.func96, Try.ntmps96
    obtain ⟨wa, hwa⟩ : ∃ wa : World, wa = w.alloc (.cells #[.int .i64 0, .int .i64 0, .int .i64 0, .int .i64 1, .int .i64 1, .int .i64 1, .int .i64 0, .int .i64 1, .int .i64 2, .int .i64 1, .int .i64 2, .int .i64 0, .int .i64 2, .int .i64 0, .int .i64 1] 112) := ⟨_, rfl⟩
    rw [← hwa] at h5 b5
    have hs : wa.heap.size = w.heap.size + 1 := by rw [hwa]; simp
    go_wp2_with (at_builtin; refine wpAppF rfl _ _ 92 112 rfl 3 24 (.agg #[.int .i64 0, .int .i64 0, .int .i64 0]) Try.underTrips Try.infoTrip rfl (by omega) (by omega) (by decide) w.heap.size w.heap.size (.slice (some ⟨w.heap.size, 0, none⟩) 5 5) 5 (five.map .inl) ([1, 0, 3].map .inl) (five.map (.int .i64)) ([1, 0, 3].map (.int .i64)) ⟨w.heap.size + 1, 0, none⟩ 1 rfl rfl (by rw [← hwa]; exact h5.alloc _) rfl (by rw [← hwa, ← hs]; exact new_cells wa [.int .i64 1, .int .i64 0, .int .i64 3] _) (FRs.ints _ _ _) (Dist.ints _) (fun u hu _ _ => .inl (noOwn_ints hu)) (by omega) (by simp; omega) ?_; intro v' w' h1 h2 h3)
    obtain ⟨g, c, rfl, hg1, hg2⟩ := OF.shape h1 (by omega)
    go_wp2
    go_ret
    refine ⟨_, _, _, rfl, ⟨rfl, g, rfl, hg2, fun k hk => ?_⟩, ⟨hg1, hg2⟩, ?_⟩
    · have hc : ∀ m, m < 18 → w'.cell? ⟨g, m, none⟩ = (five.map (Value.int .i64) ++ [1, 0, 3].map (Value.int .i64))[m]? := fun m hm => h1.cellF (m := m) hm
      have hk' : k = 0 ∨ k = 1 ∨ k = 2 ∨ k = 3 ∨ k = 4 ∨ k = 5 := by omega
      rcases hk' with rfl | rfl | rfl | rfl | rfl | rfl <;> exact ⟨(hc _ (by omega)).trans rfl, (hc _ (by omega)).trans rfl, (hc _ (by omega)).trans rfl⟩
    · rw [← hwa] at h2
      exact (b5.alloc b5.size _).grown h2 (by simp; omega) (fun k hk => by simp [Value.ownBlock] at hk; omega)

theorem balloc {a w : World} (h : Below a.heap.size a w) (o : Obj) : Below a.heap.size a (w.alloc o) := h.alloc h.size o
theorem bstep {a w w' : World} (h : Below a.heap.size a w) (b : Below w.heap.size w w') : Below a.heap.size a w' := bnext h b h.size
theorem bdrew {a w : World} (h : Below a.heap.size a w) : Below a.heap.size a w.drew := h.drew
theorem RTr.alloc {w : World} {A : Option Addr} {n : Nat} {ts : List (Int × Int × Int)} (h : RTr w A n ts) (o : Obj) : RTr (w.alloc o) A n ts := h.below ((Below.refl _ _).alloc (Nat.le_refl _) _)

/-- Block g holds n zeros, new from size B on. -/
def Zr (w : World) (B g n : Nat) : Prop := B ≤ g ∧ w.heap[g]? = some (.cells (madeCells #[Value.int .i64 0] n) 3 (0, 0))
theorem Zr.new {w : World} {B g n : Nat} (hB : B ≤ w.heap.size) (hg : g = w.heap.size) : Zr (w.alloc (.cells (madeCells #[Value.int .i64 0] n) 3)) B g n := by
  subst hg
  exact ⟨hB, heap_alloc_new w _⟩
theorem Zr.lt {w : World} {B g n : Nat} (h : Zr w B g n) : g < w.heap.size := by
  by_cases h1 : g < w.heap.size
  · exact h1
  · have := h.2
    rw [Array.getElem?_eq_none (by omega)] at this; cases this
theorem Zr.alloc {w : World} {B g n : Nat} (h : Zr w B g n) (o : Obj) : Zr (w.alloc o) B g n := ⟨h.1, (Below.heap_alloc w o g h.lt).trans h.2⟩
theorem Zr.below {w w' : World} {B g n : Nat} (h : Zr w B g n) (b : Below w.heap.size w w') : Zr w' B g n := ⟨h.1, (b.block g h.lt).trans h.2⟩
theorem Zr.drew {w : World} {B g n : Nat} (h : Zr w B g n) : Zr w.drew B g n := h
theorem Zr.oi {w : World} {B g n : Nat} (h : Zr w B g n) (hn : n ≤ 1000000000) : OI w B (.slice (some ⟨g, 0, none⟩) n n) (List.replicate n 0) := by
  have e : (madeCells #[Value.int .i64 0] n).toList = cellsI (List.replicate n 0) := by
    have := toList_madeCells_one (.int .i64 0) n
    rw [this]
    simp [cellsI]
  have h1 := made_OI w n hn
  refine ⟨by rw [cellsI_length, Nat.mul_one], ?_⟩
  rcases h1.2 with ⟨h2, h3⟩ | ⟨g', cap, cur, he, hb, hg, hnc, hcm, hsz, ht⟩
  · cases h2
  · obtain ⟨e1, e2, e3⟩ := slice_inj he
    injection e1 with e1
    injection e1 with e1
    subst e1 e3
    rw [heap_alloc_new] at hg
    exact .inr ⟨g, n, cur, by rw [List.length_replicate], h.1, h.2.trans hg, hnc, hcm, hsz, ht⟩

set_option maxRecDepth 100000 in
set_option maxHeartbeats 4000000 in
theorem tilings_any {F : FuncId} {caps : Array Value} {n : Nat} {S : Type} {inv : World → S → (Nat → Prop) → Prop} {step : S → PZ → S} {go : S → PZ → Bool} {fit : S → Nat → Prop} {okp : PZ → Prop}
    (wt : Bool) (w0 : World) (a b : List Int) (Aa Ab : Option Addr) (ca cb : Nat) (C : Clos Try.prog F caps w0.heap.size n S inv step go fit okp) (hn7 : n ≤ 7) (hn1 : 1 ≤ n) (ha : RI w0 Aa n a) (hb : RI w0 Ab n b)
    {w : World} {s : S} {O : Nat → Prop} (hi : inv w s O) (hbel : Below w0.heap.size w0 w) (hfit : fit s (tlAll wt a b).length) (hok : ∀ q ∈ tlAll wt a b, okp q) :
    Calls Try.prog 57 #[.slice Aa n ca, .slice Ab n cb, .bool wt, .func (.func F) #[] caps] w (fun e w' => e = .returned (.bool (seeAll step go s (tlAll wt a b)).2) ∧
      ∃ O' : Nat → Prop, inv w' (seeAll step go s (tlAll wt a b)).1 O' ∧ (∀ k, O' k → O k ∨ w.heap.size ≤ k) ∧ Kept O w w') := by
  have ht8 := tri_small (n := n) (by omega)
  obtain ⟨T, hT⟩ : ∃ T, T = tri n := ⟨_, rfl⟩
  have hOO := C.ge hi
  have htl : tlAll wt a b = tl wt n a b (tri n) 0 0 (pz (List.replicate (tri n) 0) (List.replicate (tri n) 0) (List.replicate (tri n) 0) (tri 0 + 0)) := by unfold tlAll; rw [ha.1]; simp [tri_zero, pz]
  rw [htl] at hfit hok ⊢
  have HTILE : Hid (∀ (W : World) (gk nk ck gL gR gB : Nat), Below w.heap.size w W → Zr W w.heap.size gL T → Zr W w.heap.size gR T → Zr W w.heap.size gB T → gL ≠ gR → gL ≠ gB → gR ≠ gB → RTr W (some ⟨gk, 0, none⟩) nk (trips wt) → w.heap.size ≤ gk ∧ gk < W.heap.size → gk ≠ gL → gk ≠ gR → gk ≠ gB →
      Calls Try.prog 95 #[.agg #[.int .i64 (n : Int), .slice (some ⟨gL, 0, none⟩) T T, .slice (some ⟨gR, 0, none⟩) T T, .slice (some ⟨gB, 0, none⟩) T T], .slice Aa n ca, .slice Ab n cb, .slice (some ⟨gk, 0, none⟩) nk ck, .int .i64 0, .int .i64 0, .func (.func F) #[] caps] W
        (fun e w' => e = .returned (.bool (seeAll step go s (tl wt n a b (tri n) 0 0 (pz (List.replicate (tri n) 0) (List.replicate (tri n) 0) (List.replicate (tri n) 0) (tri 0 + 0)))).2) ∧
      ∃ O' : Nat → Prop, inv w' (seeAll step go s (tl wt n a b (tri n) 0 0 (pz (List.replicate (tri n) 0) (List.replicate (tri n) 0) (List.replicate (tri n) 0) (tri 0 + 0)))).1 O' ∧ (∀ k, O' k → O k ∨ w.heap.size ≤ k) ∧ Kept O w w')) := by
    intro W gk nk ck gL gR gB bW zL zR zB d1 d2 d3 tr kg d4 d5 d6
    subst hT
    have hle := hbel.size
    have nO : ∀ g, w.heap.size ≤ g → ¬ O g := fun g h1 h2 => by have := (hOO g h2).2; omega
    have ts : TS wt w0 (tri n) gk nk gL gR gB O W (List.replicate (tri n) 0) (List.replicate (tri n) 0) (List.replicate (tri n) 0) :=
      ⟨hbel.trans (bW.mono hle), (zL.oi (by omega)).mono hle, (zR.oi (by omega)).mono hle, (zB.oi (by omega)).mono hle, d1, d2, d3, nO _ zL.1, nO _ zR.1, nO _ zB.1, tr, ⟨by omega, kg.2⟩, nO _ kg.1, d4, d5, d6⟩
    refine (tile_any wt w0 a b Aa Ab ca cb nk ck C hn7 ha hb (tri n) W s O _ _ _ gk gL gR gB 0 0 (C.keep hi (Kept.of_below bW)) ts (.inl (by omega)) (Nat.le_refl _) (by rw [tri_zero]; omega) hfit hok).mono ?_
    rintro e w' ⟨he, O', L', R', B', i', q', k', t', -⟩
    refine ⟨he, O', i', fun k h => (q' k h).imp id fun h => Nat.le_trans bW.size h, (Kept.of_below bW).trans (fun k h => ?_) k'⟩
    rcases h with h | rfl | rfl | rfl
    · exact .inl h
    · exact .inr zL.1
    · exact .inr zR.1
    · exact .inr zB.1
  have HTT := Lib.hid hT
  have HAT : Hid (∀ W, Calls Try.prog 84 #[.int .i64 (n : Int), .int .i64 0] W (fun e w' => e = .returned (.int .i64 (T : Int)) ∧ w' = W)) := fun W => at_eq n 0 _ _ T rfl rfl (by omega) (by omega) (by rw [hT]; rfl)
  have HTR : Hid (∀ W, Calls Try.prog 96 #[.bool wt] W (fun e w' => ∃ g n c, e = .returned (.slice (some ⟨g, 0, none⟩) n c) ∧ RTr w' (some ⟨g, 0, none⟩) n (trips wt) ∧ (W.heap.size ≤ g ∧ g < w'.heap.size) ∧ Below W.heap.size W w')) := fun W => triples_new wt
  have hmk := run_make_row' (P := Try.prog) 22 3 (.int .i64 0) 8 Try.underlying22 Try.infoInt rfl .i64 .i64 T (by omega) (by omega)
  clear hi hbel hfit hok hT hOO htl ha hb
  go_enter Try.func57, Try.ntmps57
  go_wp2_with (go_at_call 84; (with_reducible refine (HAT.out _).mono ?_); rintro e w' ⟨rfl, rfl⟩)
  go_region_held3 (fun _ => True) (trivial) (first
    | (go_at_call 96; (with_reducible refine (HTR.out _).mono ?_); rintro e wT ⟨gk, nk, ck, rfl, tT, kT, bT⟩)
    | (go_at_call 95; (refine (HTILE.out _ _ _ _ _ _ _ ?_ ?_ ?_ ?_ ?_ ?_ ?_ ?_ ?_ ?_ ?_ ?_).mono ?_);
        (all_goals (try (first
          | ((repeat (first | (with_reducible exact Below.refl _ _) | (with_reducible refine bstep ?_ bT) | (with_reducible refine balloc ?_ _) | (with_reducible refine bdrew ?_))); done)
          | ((repeat (first | ((with_reducible refine Zr.new ?_ ?_); (focus (have zT := bT.size; (try simp at zT ⊢); (try omega); done)); (first | rfl | (simp; done))) | (with_reducible refine Zr.alloc ?_ _) | (with_reducible refine Zr.below ?_ bT) | (with_reducible refine Zr.drew ?_))); done)
          | ((repeat (first | exact tT | (with_reducible refine RTr.alloc ?_ _))); done)
          | (have zT := bT.size; have yT := kT; (try simp at zT yT ⊢); (try omega); done))));
        rintro e wF ⟨rfl, O', i', q', k'⟩))
  all_goals go_wp2
  all_goals go_ret
  all_goals exact ⟨rfl, O', i', q', k'⟩
end Go.Proofs.Ytnljlophgolejaa
