/- l4Lattice, l4Product of the reference. -/
import Derived.Test.YtmodpicemlkbjaaRef
namespace Go.Proofs.Ytmodpicemlkbjaa
open Go.RowKit

theorem strip_any (mus : List Nat) (i : Nat) (h : LatP mus (i + 1)) : ∀ d, StripP mus i d := by
  intro d
  induction d with
  | zero => exact strip_end mus i 0 h (fun d' e => by omega)
  | succ d ih => exact strip_end mus i (d + 1) h (fun d' e => by obtain rfl : d = d' := by omega
                                                                 exact ih)
theorem OP.low {w : World} {base b base' b' : Nat} {v : Value} {ps : List (List Int × Int)} {cells : List Value} (h : OP w base b v ps cells) (h1 : base' ≤ base) (h2 : b' ≤ b) : OP w base' b' v ps cells := OF.mono h h1 h2

set_option maxRecDepth 100000 in
set_option maxHeartbeats 1000000 in
theorem lat_any (mus : List Nat) : ∀ n i, mus.length = i + n → LatP mus i := by
  intro n
  induction n with
  | zero =>
    intro i hin w base b rows most As Am Al ns cs nm cm cl s1 s lastl last v ps cells N hs hcs hpad hns h16 hm0 hm1 hmu hla hcl hlast hinv hc hmul ho hok hN hb1 hb2
    have hd : mus.drop i = [] := List.drop_eq_nil_of_le (by omega)
    rw [hd] at hN ⊢
    have hL : layerC rows most (fI []) s (undB rows last) = [s] := rfl
    rw [hL] at hN ⊢
    have hbe : bare s1 = bare s := by rw [← hpad, bare_padL (by rw [hs.1]; exact hns)]
    have hnm : nm = i := by rw [← hmu.1]; simp; omega
    have HOK := Lib.hid hok
    have HP := Lib.hid (hok.smallP (by simp at hN; omega))
    have HG := Lib.hid hok.grows.len
    have HBE := Lib.hid hbe
    have HN := Lib.hid hN
    have HHs := Lib.hid hs
    have HL1 : Hid ((ps.length : Int) ≤ 100000000000) := by have := HG.out; simp at hN; show _ ≤ _; omega
    clear hL hok hbe hN hinv hpad hd
    subst hnm
    go_enter Try.func123, Try.ntmps123
    go_wp2_with fail
    refine (l4Bare_any _ hs (by omega) hcs).mono ?_
    rintro e w1 ⟨A1, n1, c1, rfl, o1, r1, ⟨cp1, le1⟩, b1⟩
    have hln : n1 ≤ 16 := by rw [← r1.1]; unfold bare; rw [List.length_take, HHs.out.1]; omega
    go_wp2_with fail
    refine (l4Add_any c1 1 (ho.below b1) o1.ri (by omega) (by have := HL1.out; omega) HP.out (by omega) (by omega)).mono ?_
    rintro e w2 ⟨A2, n2, c2, cells2, rfl, o2, r2, ⟨cp2, le2⟩, b2⟩
    have HF : Hid (AddsL w base b ps [s] (.returned (.slice A2 n2 c2)) w2) :=
      ⟨_, cells2, rfl, by rw [addAll_one, ← HBE.out]; exact o2.low (Nat.le_trans hb1 b1.size) (Nat.le_trans hb2 b1.size), b1.trans (b2.mono b1.size)⟩
    clear o2 r2 b2
    go_wp2
    go_ret
    exact HF.out
  | succ n ih =>
    intro i hin w base b rows most As Am Al ns cs nm cm cl s1 s lastl last v ps cells N hs hcs hpad hns h16 hm0 hm1 hmu hla hcl hlast hinv hc hmul ho hok hN hb1 hb2
    obtain ⟨c, hcx⟩ : ∃ c, c = mus[i]'(by omega) := ⟨_, rfl⟩
    have hd : mus.drop i = c :: mus.drop (i + 1) := by rw [hcx]; exact List.drop_eq_getElem_cons (by omega)
    have hS := strip_any mus i (ih (i + 1) (by omega)) rows
    rw [hd] at hN ⊢
    rw [show fI (c :: mus.drop (i + 1)) = (c : Int) :: fI (mus.drop (i + 1)) from rfl, layerC_cons] at hN ⊢
    obtain ⟨LL, hLL⟩ : ∃ LL, LL = layerR rows most (layerK rows most (fI (mus.drop (i + 1)))) s (undB rows last) rows s (c : Int) (List.replicate rows 0) := ⟨_, rfl⟩
    rw [← hLL] at hN ⊢
    obtain ⟨ad, hA, hc0⟩ := hmu.cell (k := i) (by rw [← hmu.1]; simp; omega)
    subst hA
    have hnth : nth (fI mus) i = (c : Int) := by rw [nth_lt (by simp; omega)]; simp [hcx]
    rw [hnth] at hc0
    have hnm : nm = mus.length := by rw [← hmu.1]; simp
    have HCALL : Hid (∀ (X : World) (Ag : Option Addr), Below w.heap.size w X → RI X Ag rows (List.replicate rows 0) →
        Calls Try.prog 145 #[.slice As ns cs, .slice (some ad) nm cm, .int .i64 (rows : Int), .int .i64 most, .int .i64 (i : Int), .int .i64 0, .int .i64 (c : Int), .slice Ag rows rows, .slice Al rows cl, v] X
          (AddsL w base b ps LL)) := fun X Ag bX h1 => by
      have h2 := hS X base b rows 0 ns cs nm cm rows cl most As (some ad) Ag Al s1 s s (List.replicate rows 0) lastl last c v ps cells N (c : Int)
        (by omega) (Nat.le_refl _) rfl (hc c (by rw [hcx]; exact List.getElem_mem _)) (by omega) (hs.below bX) hcs hpad hns h16 hm0 hm1 (hmu.below bX) h1 (Nat.le_refl _) (hla.below bX) hcl hlast (hinv []) hc hmul (by omega) (ho.below bX) hok (by rw [← hLL]; exact hN) (Nat.le_trans hb1 bX.size) (Nat.le_trans hb2 bX.size)
      rw [← hLL, show ((0 : Nat) : Int) = 0 from rfl] at h2
      exact h2.mono fun e w' ⟨v', cells', h3, h4, h5⟩ => ⟨v', cells', h3, h4, bX.trans (h5.mono bX.size)⟩
    have hmk := run_make_row' (P := Try.prog) 30 3 (.int .i64 0) 8 Try.underlying30 Try.infoInt rfl .i64 .i64 rows (by omega) (by omega)
    have HC0 := Lib.hid hc0
    have hr9 : rows ≤ 1000000000 := by omega
    have hq1 : (i : Int) < (nm : Int) := by omega
    have hq2 : decide ((i : Int) = (nm : Int)) = false := decide_eq_false (by omega)
    have HDA : Hid (∀ o, (w.alloc o).drew.cell? (ad.add i) = some (.int .i64 (c : Int))) := fun o => by
      have h1 : (w.alloc o).cell? (ad.add i) = some (.int .i64 (c : Int)) := one_cell ((Below.refl _ _).alloc (Nat.le_refl _) _) hc0
      exact h1
    have HCF : Hid (∀ W, Below w.heap.size w W → W.cell? (ad.add i) = some (.int .i64 (c : Int))) := fun W bW => one_cell bW hc0
    clear hnm hS ih hd hs hpad hmu hla hinv hc ho hok hN hLL hnth hcx hin hlast
    go_enter Try.func123, Try.ntmps123
    go_wp2
    go_region_held3 (fun w' => w'.cell? (ad.add i) = some (.int .i64 (c : Int))) (first | exact hc0 | exact HCF.out _ hb' | exact HDA.out _ | exact one_cell ((Below.refl _ _).alloc (Nat.le_refl _) _) HC0.out) ((go_at_call 145; (with_reducible refine (HCALL.out _ _ ?_ ?_).mono ?_); (first | exact (Below.refl _ _).alloc (Nat.le_refl _) _ | exact below_drewN ((Below.refl _ _).alloc (Nat.le_refl _) _) 1); (first | exact (made_OI w rows hr9).ri | exact ((made_OI w rows hr9).ri).drewN 1); rintro e wF ⟨v', cells', rfl, hv', hb'⟩))
    all_goals go_wp2
    all_goals go_ret
    all_goals exact ⟨v', cells', rfl, hv', hb'⟩
end Go.Proofs.Ytmodpicemlkbjaa
