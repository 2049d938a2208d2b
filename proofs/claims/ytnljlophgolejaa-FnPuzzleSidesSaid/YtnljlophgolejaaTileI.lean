/- tile of the program: a puzzle that is whole. -/
import Derived.Test.YtnljlophgolejaaTileP
import Derived.Test.YtnljlophgolejaaDraw
import Derived.BigRegion
import Derived.Deep.RegionHeld3
namespace Go.Proofs.Ytnljlophgolejaa
open Go.RowKit

/-- What tile is shown to do. -/
def TileC {F : FuncId} {caps : Array Value} {n : Nat} {S : Type} {inv : World → S → (Nat → Prop) → Prop} {step : S → PZ → S} {go : S → PZ → Bool} {fit : S → Nat → Prop} {okp : PZ → Prop}
    (wt : Bool) (w0 : World) (a b : List Int) (Aa Ab : Option Addr) (ca cb nk ck : Nat) (_ : Clos Try.prog F caps w0.heap.size n S inv step go fit okp) (d : Nat) : Prop :=
  ∀ (w : World) (s : S) (O : Nat → Prop) (L R B : List Int) (gk gL gR gB r k : Nat), inv w s O → TS wt w0 (tri n) gk nk gL gR gB O w L R B → r < n ∨ d = 0 → k ≤ r → tri r + k + d = tri n →
    fit s (tl wt n a b d r k (pz L R B (tri r + k))).length → (∀ q ∈ tl wt n a b d r k (pz L R B (tri r + k)), okp q) →
    Calls Try.prog 95 #[.agg #[.int .i64 (n : Int), .slice (some ⟨gL, 0, none⟩) (tri n) (tri n), .slice (some ⟨gR, 0, none⟩) (tri n) (tri n), .slice (some ⟨gB, 0, none⟩) (tri n) (tri n)], .slice Aa n ca, .slice Ab n cb,
        .slice (some ⟨gk, 0, none⟩) nk ck, .int .i64 (r : Int), .int .i64 (k : Int), .func (.func F) #[] caps] w
      (TPost inv wt w0 (tri n) gk nk gL gR gB O L R B (tri r + k) w (seeAll step go s (tl wt n a b d r k (pz L R B (tri r + k)))))

theorem three_cells' {w W : World} {p q r : Addr} {u u' u'' : Value} (b : Below w.heap.size w W) (x : w.cell? p = some u ∧ w.cell? q = some u' ∧ w.cell? r = some u'') : W.cell? p = some u ∧ W.cell? q = some u' ∧ W.cell? r = some u'' :=
  ⟨one_cell b x.1, one_cell b x.2.1, one_cell b x.2.2⟩

set_option maxRecDepth 100000 in
set_option maxHeartbeats 4000000 in
theorem tile_end {F : FuncId} {caps : Array Value} {n : Nat} {S : Type} {inv : World → S → (Nat → Prop) → Prop} {step : S → PZ → S} {go : S → PZ → Bool} {fit : S → Nat → Prop} {okp : PZ → Prop}
    (wt : Bool) (w0 : World) (a b : List Int) (Aa Ab : Option Addr) (ca cb nk ck : Nat) (C : Clos Try.prog F caps w0.heap.size n S inv step go fit okp) (hn7 : n ≤ 7) : TileC wt w0 a b Aa Ab ca cb nk ck C 0 := by
  intro w s O L R B gk gL gR gB r k hi hT hr hk hd hfit hok
  have hlen : tri r + k = tri n := by omega
  obtain ⟨hrn, hk0⟩ : r = n ∧ k = 0 := tri_inj (k' := 0) hk (Nat.zero_le _) hlen
  subst hrn hk0
  have ht8 := tri_small (n := r) (by omega)
  have lL := hT.oL.ri.1
  have lR := hT.oR.ri.1
  have lB := hT.oB.ri.1
  have hp : tl wt r a b 0 r 0 (pz L R B (tri r + 0)) = [(L, R, B)] := by
    rw [tl, Nat.add_zero]
    unfold pz
    rw [List.take_of_length_le (by omega), List.take_of_length_le (by omega), List.take_of_length_le (by omega)]
  rw [hp] at hfit hok ⊢
  have hsee : seeAll step go s [(L, R, B)] = (step s (L, R, B), go s (L, R, B)) := by
    rw [seeAll]
    by_cases h : go s (L, R, B) = true
    · rw [if_pos h, seeAll, h]
    · rw [if_neg h]; simp at h; rw [h]
  rw [hsee]
  have hO := C.ge hi
  have HP := Lib.hid (hok (L, R, B) (List.mem_singleton.2 rfl))
  have HFIT : Hid (fit s (0 + 1)) := hfit
  have HI := Lib.hid hi
  have HT := Lib.hid hT
  have HOO := Lib.hid hO
  obtain ⟨T, hTT⟩ : ∃ T, T = tri r := ⟨_, rfl⟩
  rw [← hTT] at HT lL lR lB ht8 ⊢
  have HTT := Lib.hid hTT
  clear hTT hok hfit hp hsee hi hT hr hd hlen hO hk
  go_enter Try.func95, Try.ntmps95
  go_wp2_with fail
  obtain ⟨w1, ew1⟩ : ∃ W : World, W = w.alloc (.cells #[.int .i64 (r : Int), .slice (some ⟨gL, 0, none⟩) T T, .slice (some ⟨gR, 0, none⟩) T T, .slice (some ⟨gB, 0, none⟩) T T] 53) := ⟨_, rfl⟩
  obtain ⟨gp, hgp⟩ : ∃ g, g = w.heap.size := ⟨_, rfl⟩
  have b1 : Below w.heap.size w w1 := by rw [ew1]; exact (Below.refl _ _).alloc (Nat.le_refl _) _
  have K1 : Hid (BK w1 gp 53 [.int .i64 (r : Int), .slice (some ⟨gL, 0, none⟩) T T, .slice (some ⟨gR, 0, none⟩) T T, .slice (some ⟨gB, 0, none⟩) T T]) := by rw [ew1, hgp]; exact BK.new w _ _
  obtain ⟨f0, f1, f2, f3⟩ := K1.out.four
  rw [← ew1, ← hgp]
  have HGP := Lib.hid hgp
  have HB1 := Lib.hid b1
  have HTW := Lib.hid (HT.out.keep (HT.out.bel.trans (b1.mono HT.out.bel.size)) (Kept.of_below b1) fun k h => .inl h)
  have HC1 : Hid (∀ W, Below w1.heap.size w1 W → Calls Try.prog 107 #[.slice (some ⟨gL, 0, none⟩) T T] W (Makes W L)) := fun W bW => clone_any _ (HTW.out.oL.ri.below bW) (by omega)
  have HC2 : Hid (∀ W, Below w1.heap.size w1 W → Calls Try.prog 107 #[.slice (some ⟨gR, 0, none⟩) T T] W (Makes W R)) := fun W bW => clone_any _ (HTW.out.oR.ri.below bW) (by omega)
  have HC3 : Hid (∀ W, Below w1.heap.size w1 W → Calls Try.prog 107 #[.slice (some ⟨gB, 0, none⟩) T T] W (Makes W B)) := fun W bW => clone_any _ (HTW.out.oB.ri.below bW) (by omega)
  have HX : Hid (w1.cell? ⟨gp, 1, none⟩ = some (.slice (some ⟨gL, 0, none⟩) T T) ∧ w1.cell? ⟨gp, 2, none⟩ = some (.slice (some ⟨gR, 0, none⟩) T T) ∧ w1.cell? ⟨gp, 3, none⟩ = some (.slice (some ⟨gB, 0, none⟩) T T)) := ⟨f1, f2, f3⟩
  have HENT := Lib.hid C.ent
  have HCL : Hid (∀ (W : World) (A1 : Option Addr) (n1 c1 : Nat) (A2 : Option Addr) (n2 c2 : Nat) (A3 : Option Addr) (n3 c3 : Nat), Below w1.heap.size w1 W → Three W w1.heap.size (.slice A1 n1 c1) (.slice A2 n2 c2) (.slice A3 n3 c3) L R B →
      Calls Try.prog F (#[.agg #[.int .i64 (r : Int), .slice A1 n1 c1, .slice A2 n2 c2, .slice A3 n3 c3]] ++ caps) W (fun e w' => e = .returned (.bool (go s (L, R, B))) ∧ ∃ O' : Nat → Prop, inv w' (step s (L, R, B)) O' ∧ (∀ k, O' k → O k ∨ w.heap.size ≤ k) ∧ Kept O w w' ∧ (w'.cell? ⟨gp, 1, none⟩ = some (.slice (some ⟨gL, 0, none⟩) T T) ∧ w'.cell? ⟨gp, 2, none⟩ = some (.slice (some ⟨gR, 0, none⟩) T T) ∧ w'.cell? ⟨gp, 3, none⟩ = some (.slice (some ⟨gB, 0, none⟩) T T)))) :=
    fun W A1 n1 c1 A2 n2 c2 A3 n3 c3 bW t3 => by
      have bw := HB1.out.trans (bW.mono HB1.out.size)
      refine (C.call (p := (L, R, B)) (B := w1.heap.size) (C.keep HI.out (Kept.of_below bw)) HFIT.out HP.out (Nat.le_trans HT.out.bel.size HB1.out.size) bW.size (fun k h => Nat.lt_of_lt_of_le (HOO.out k h).2 HB1.out.size) t3).mono ?_
      rintro e w' ⟨he, O', hi, hg, hk⟩
      have hgO : ¬ O gp := fun h => by have := (HOO.out gp h).2; have := HGP.out; omega
      have hx := three_cells' bW HX.out
      have hb := hk.block gp (Nat.lt_of_lt_of_le K1.out.lt bW.size) hgO
      exact ⟨he, O', hi, fun k h => (hg k h).imp id fun h => Nat.le_trans HB1.out.size h, (Kept.of_below bw).trans (fun k h => .inl h) hk, (cell_same hb).trans hx.1, (cell_same hb).trans hx.2.1, (cell_same hb).trans hx.2.2⟩
  clear ew1 hgp b1 f0 f1 f2 f3
  go_region_held3 (fun w' => w'.cell? ⟨gp, 1, none⟩ = some (.slice (some ⟨gL, 0, none⟩) T T) ∧ w'.cell? ⟨gp, 2, none⟩ = some (.slice (some ⟨gR, 0, none⟩) T T) ∧ w'.cell? ⟨gp, 3, none⟩ = some (.slice (some ⟨gB, 0, none⟩) T T)) (first | exact HX.out | exact three_cells' bA.out HX.out | exact three_cells' bB.out HX.out | exact three_cells' bC.out HX.out | exact xD) (first
    | (go_at_call 107; (with_reducible refine (HC1.out _ ?_).mono ?_); (exact ⟨rfl, rfl, rfl, Nat.le_refl _, fun _ _ => rfl⟩); rintro e wA ⟨A1, n1, c1, rfl, oA, rA, cpA, bA'⟩; have bA : Hid (Below w1.heap.size w1 wA) := ⟨bA'.os, bA'.tape, bA'.output, bA'.size, bA'.block⟩)
    | (go_at_call 107; (with_reducible refine (HC2.out _ ?_).mono ?_); (exact bA.out); rintro e wB ⟨A2, n2, c2, rfl, oB, rB, cpB, bB'⟩; have bAB : Hid (Below wA.heap.size wA wB) := ⟨bB'.os, bB'.tape, bB'.output, bB'.size, bB'.block⟩; have bB := Lib.hid (bA.out.trans (bAB.out.mono bA.out.size)))
    | (go_at_call 107; (with_reducible refine (HC3.out _ ?_).mono ?_); (exact bB.out); rintro e wC ⟨A3, n3, c3, rfl, oC, rC, cpC, bC'⟩; have bBC : Hid (Below wB.heap.size wB wC) := ⟨bC'.os, bC'.tape, bC'.output, bC'.size, bC'.block⟩; have bC := Lib.hid (bB.out.trans (bBC.out.mono bB.out.size)))
    | (rw [HENT.out]; (refine (HCL.out _ _ _ _ _ _ _ _ _ _ bC.out ?_).mono ?_); (exact ⟨(oA.below bAB.out).below bBC.out, (OI.mono oB bA.out.size).below bBC.out, OI.mono oC bB.out.size, apart oA oB (Nat.le_refl _), apart oA oC bAB.out.size, apart oB oC (Nat.le_refl _)⟩); rintro e wD ⟨rfl, O', iD, gD, kD, xD⟩))
  all_goals go_wp2
  all_goals go_ret
  all_goals exact ⟨rfl, O', L, R, B, iD, gD, kD.mono fun k h => .inl h, HT.out.keep (kD.low (fun k h => (HOO.out k h).1) HT.out.bel.size |> HT.out.bel.trans) kD gD, fun j _ => ⟨rfl, rfl, rfl⟩⟩
end Go.Proofs.Ytnljlophgolejaa
