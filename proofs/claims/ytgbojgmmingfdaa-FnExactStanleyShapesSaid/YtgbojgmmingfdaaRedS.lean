/- ReducedWords of the reference. -/
import Derived.Test.YtgbojgmmingfdaaSrtW
import Derived.Test.YtgbojgmmingfdaaRedW
namespace Go.Proofs.Ytgbojgmmingfdaa
open Go.RowKit

def ReadsSb (w : World) (ls : List (List Int)) (ok : Bool) : Ending → World → Prop := fun e w' => ∃ A n c, e = .returned (.tuple #[.slice A n c, .bool ok]) ∧ RS w' A n ls ∧ Below w.heap.size w w'
theorem tailW_nil (f : Nat) (l : List Int) : tailW f l [] = redS f l := by
  unfold tailW
  simp
theorem words_len {l : List Int} (hp : permB l = true) : (redS 21 l).length = wordsN l :=
  (red_perm (prm_of hp) (fin_21 (permB_size hp).2) (dnv_21 (permB_size hp).2)).length_eq.symm
theorem redI_pos : ∀ (f : Nat) (w : List Int), Prm w → fin' w ≤ f → 0 < (redI f w).length
  | 0, _, _, _ => by simp [redI]
  | f + 1, w, hp, hf => by
    rw [redI]
    split
    · simp
    · rename_i hne
      obtain ⟨k, hk⟩ := List.exists_mem_of_ne_nil _ hne
      have hl := (mem_ldsL hp).1 hk
      have hv := fin_vsw hp hl
      have h1 := redI_pos f (vsw k w) (hp.vsw (ldes_lt hp hl)) (by omega)
      obtain ⟨v, hv2⟩ := List.exists_mem_of_length_pos h1
      exact List.length_pos_of_mem (List.mem_flatMap.2 ⟨k, hk, List.mem_map.2 ⟨v, hv2, rfl⟩⟩)
theorem zip_fst {α β : Type} : ∀ {a : List α} {b : List β}, a.length = b.length → (a.zip b).map Prod.fst = a
  | [], [], _ => rfl
  | x :: a, y :: b, h => by simp only [List.zip_cons_cons, List.map_cons]; rw [zip_fst (by simpa using h)]
  | [], _ :: _, h => by simp at h
  | _ :: _, [], h => by simp at h
theorem zip_snd {α β : Type} : ∀ {a : List α} {b : List β}, a.length = b.length → (a.zip b).map Prod.snd = b
  | [], [], _ => rfl
  | x :: a, y :: b, h => by simp only [List.zip_cons_cons, List.map_cons]; rw [zip_snd (by simpa using h)]
  | [], _ :: _, h => by simp at h
  | _ :: _, [], h => by simp at h
theorem OS.ov {w : World} {base b : Nat} {v : Value} {ls : List (List Int)} {cells : List Value} (h : OS w base b v ls cells) (hs : ∀ x ∈ ls, x.length ≤ 1000000) : OV w base v (cells.zip ls) ∧ GoodV w (cells.zip ls) ∧ (cells.zip ls).length = ls.length ∧ (cells.zip ls).map Prod.snd = ls := by
  have hl : cells.length = ls.length := by rw [h.2.1.1, rows_len]
  have hz : (cells.zip ls).length = ls.length := by rw [List.length_zip, hl, Nat.min_self]
  refine ⟨?_, fun p hp => ?_, hz, zip_snd hl⟩
  · unfold OV
    rw [hz, zip_fst hl]
    exact h.1
  · obtain ⟨j, hj, e⟩ := List.getElem_of_mem hp
    rw [hz] at hj
    rw [List.getElem_zip] at e
    have hu : cells[j]? = some p.1 := by rw [← e, List.getElem?_eq_getElem (by omega)]
    have hx : (rows ls)[j]? = some (.inr p.2) := by rw [rows_at hj, nthL_lt hj, ← e]
    have ho : OI w b p.1 p.2 := h.2.1.2 j _ _ hx hu
    obtain ⟨A, n, c, hv, hr, -⟩ := ho.form
    refine ⟨A, n, c, hv, hr, ?_⟩
    rw [← hr.1]
    exact hs _ (by rw [← e]; exact List.getElem_mem hj)
set_option maxRecDepth 100000 in
set_option maxHeartbeats 2000000 in
theorem sRed_any {A : Option Addr} {n : Nat} {l : List Int} {w : World} (c : Nat) (hx : RI w A n l) (hn : n ≤ 1000000000) (hc : n ≤ c) :
    Calls Try.prog 69 #[.slice A n c] w (ReadsSb w (redB l) (redOk l)) := by
  have HIS : Hid (Calls Try.prog 138 #[.slice A n c] w (Gives w (.bool (permB l)))) := sIsPerm_any c hx hn hc
  have HX := Lib.hid hx
  have HL : Hid (l.length = n) := hx.1
  rcases hp : permB l with _ | _
  · have HE : Hid (redB l = [] ∧ redOk l = false) := by
      have h : redOk l = false := by rw [redOk, hp]; rfl
      exact ⟨by rw [redB, h]; rfl, h⟩
    rw [hp] at HIS
    clear hx hp
    go_enter Try.func69, Try.ntmps69
    go_wp2_with (first | (go_at_call 138; refine HIS.out.mono ?_; rintro e w1 ⟨rfl, q1, rfl⟩) | fail)
    go_ret2
    rw [HE.out.1, HE.out.2]
    exact ⟨_, _, _, rfl, ⟨rfl, fun k hk => by omega⟩, below_drewN (Below.refl _ _) _⟩
  have HP := Lib.hid hp
  have hsz := permB_size hp
  rw [HL.out] at hsz
  rw [hp] at HIS
  have HLT : Hid (∀ ad, A = some ad → ad.block < w.heap.size) := fun ad e => by
    subst e
    exact hx.lt (by omega)
  have HWD : Hid (∀ W, Below w.heap.size w W → Calls Try.prog 139 #[.slice A n c, .slice (some ⟨W.heap.size, 0, none⟩) 0 0, .slice (some ⟨W.heap.size + 1, 0, none⟩) 0 0] ((W.alloc (.cells #[] 3)).alloc (.cells #[] 22)) (fun e w' => ∃ A' n' c' r cells', e = .returned (.slice A' n' c') ∧ OS w' w.heap.size w.heap.size (.slice A' n' c') r cells' ∧ Hid (Lim [] (redS 21 l) r) ∧ Below w.heap.size w w')) := fun W bW => by
    have hb2 : Below W.heap.size W (W.alloc (.cells #[] 3)) := (Below.refl _ _).alloc (Nat.le_refl _) _
    have hb3 : Below (W.alloc (.cells #[] 3)).heap.size (W.alloc (.cells #[] 3)) ((W.alloc (.cells #[] 3)).alloc (.cells #[] 22)) := (Below.refl _ _).alloc (Nat.le_refl _) _
    have hb13 := hb2.trans (hb3.mono hb2.size)
    have hbw := bW.trans (hb13.mono bW.size)
    have h1 : OI ((W.alloc (.cells #[] 3)).alloc (.cells #[] 22)) w.heap.size (.slice (some ⟨W.heap.size, 0, none⟩) 0 0) [] := OI.below (OI.lit W w.heap.size [] 0 rfl bW.size (by simp)) hb3
    have h2 : OS ((W.alloc (.cells #[] 3)).alloc (.cells #[] 22)) w.heap.size w.heap.size (.slice (some ⟨W.heap.size + 1, 0, none⟩) 0 0) [] [] := by
      have h := OS.lit (W.alloc (.cells #[] 3)) w.heap.size w.heap.size [] [] (Nat.le_trans bW.size hb2.size) FRs.nil_ Dist.nil_ (by simp) 0 rfl
      simpa using h
    have h := l1Words_any 21 ((W.alloc (.cells #[] 3)).alloc (.cells #[] 22)) w.heap.size n c 0 0 0 0 A (some ⟨W.heap.size, 0, none⟩) (some ⟨W.heap.size + 1, 0, none⟩) l [] [] [] ⟨HX.out.below hbw, .inr HLT.out⟩ HP.out hc (dnv_21 (permB_size HP.out).2) (Nat.le_refl _) h1 (by simp) h2 (by simp) (by simp) hbw.size
    rw [tailW_nil] at h
    refine h.mono ?_
    rintro e w' ⟨A', n', c', r, cells', rfl, o, hl, hg, hf⟩
    exact ⟨A', n', c', r, cells', rfl, o, hl, hbw.grown hg hbw.size fun k hk => by have hk' : some (W.heap.size + 1) = some k := hk; injection hk' with hk'; have := bW.size; omega⟩
  have HWN : Hid ((redS 21 l).length = wordsN l) := words_len hp
  clear hx hp
  go_enter Try.func69, Try.ntmps69
  go_upto_region 4 with (first
    | (go_at_call 138; refine HIS.out.mono ?_; rintro e w1 ⟨rfl, q1, rfl⟩)
    | (go_at_call 139; refine (HWD.out _ (below_drewN (Below.refl _ _) _)).mono ?_; rintro e w2 ⟨A2, n2, c2, r, cells, rfl, o2, HLM, b2⟩)
    | fail)
  have HRN : Hid (r.length = n2) := OS.lenS o2
  by_cases h8 : wordsN l ≤ 800
  · have HOK : Hid (redOk l = true) := by show _ = _; rw [redOk, HP.out, decide_eq_true h8]; rfl
    have hr : r = redS 21 l := by
      have h := HLM.out
      unfold Lim at h
      rw [if_pos (by rw [HWN.out]; simpa using h8)] at h
      simpa using h
    have HN2 : Hid (n2 = wordsN l) := by show _ = _; rw [← HRN.out, hr]; exact HWN.out
    have hn2 : ¬ 800 < n2 := by rw [HN2.out]; omega
    have hn2' : decide (800 < (n2 : Int)) = false := decide_eq_false (by omega)
    have hpos : 0 < n2 := by
      rw [HN2.out, wordsN]
      exact redI_pos 21 l (prm_of HP.out) (fin_21 (permB_size HP.out).2)
    have hovs : OV w2 w.heap.size (.slice A2 n2 c2) (cells.zip r) ∧ GoodV w2 (cells.zip r) ∧ (cells.zip r).length = r.length ∧ (cells.zip r).map Prod.snd = r := OS.ov o2 fun x hx => by
      rw [hr] at hx
      have h1 := red_perm (prm_of HP.out) (fin_21 (permB_size HP.out).2) (dnv_21 (permB_size HP.out).2)
      have h2 := (redI_play (prm_of HP.out) (fin_21 (permB_size HP.out).2) (h1.mem_iff.2 hx)).2.1
      have := dnv_21 (permB_size HP.out).2
      omega
    obtain ⟨ov, gv, zl, zs⟩ := hovs
    obtain ⟨g, rfl⟩ := ov.some_ hpos
    have HSR : Hid (Calls Try.prog 140 #[.slice (some ⟨g, 0, none⟩) n2 c2] w2 (ReadsS w2 (redI 21 l))) := by
      refine (l1Sorted_any ov gv (by rw [zl, HRN.out]; omega)).mono ?_
      rintro e w' ⟨X, hX, hs, hrd⟩
      have hXS : X.map Prod.snd = redI 21 l := by
        refine red_sorted (prm_of HP.out) (fin_21 (permB_size HP.out).2) (dnv_21 (permB_size HP.out).2) ?_ ?_
        · have h := hX.map Prod.snd
          rw [zs, hr] at h
          exact h
        · rw [List.pairwise_map]
          exact hs
      rw [hXS] at hrd
      exact hrd
    have B2 := Lib.hid b2
    clear o2 b2 hr hn2 h8 ov gv zl zs
    go_wp2_with (first | (go_at_call 140; refine HSR.out.mono ?_; rintro e w3 ⟨A3, n3, c3, rfl, r3, b3⟩) | fail)
    go_ret2
    rw [redB, HOK.out]
    exact ⟨A3, n3, c3, rfl, r3, bnext B2.out b3 B2.out.size⟩
  · have HOK : Hid (redOk l = false) := by show _ = _; rw [redOk, HP.out, decide_eq_false h8]; rfl
    have hn2 : 800 < n2 := by
      have h := HLM.out
      unfold Lim at h
      rw [if_neg (by rw [HWN.out]; simpa using h8), HRN.out] at h
      exact h.1
    have hn2' : decide (800 < (n2 : Int)) = true := decide_eq_true (by omega)
    have B2 := Lib.hid b2
    clear o2 b2 hn2 h8
    go_wp2
    go_ret2
    rw [redB, HOK.out]
    exact ⟨_, _, _, rfl, ⟨rfl, fun k hk => by omega⟩, B2.out⟩
end Go.Proofs.Ytgbojgmmingfdaa
