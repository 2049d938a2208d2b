/- ReducedWords of the reference. -/
import Derived.Test.YtgbojgmmingfdaaMrgV
import Derived.Test.YtgbojgmmingfdaaRedW
import Derived.Test.YtgbojgmmingfdaaInsR
import Derived.Test.YtgbojgmmingfdaaEdW
import Derived.Test.YtgbojgmmingfdaaAdd
import Derived.Test.YtgbojgmmingfdaaGauss
namespace Go.Proofs.Ytgbojgmmingfdaa
open Go.RowKit

def ReadsSb (w : World) (ls : List (List Int)) (ok : Bool) : Ending → World → Prop := fun e w' => ∃ A n c, e = .returned (.tuple #[.slice A n c, .bool ok]) ∧ RS w' A n ls ∧ Below w.heap.size w w'
theorem tailW_nil (f : Nat) (l : List Int) : tailW f l [] = redS f l := by
  unfold tailW
  simp
theorem words_len {l : List Int} (hp : permB l = true) : (redS 21 l).length = wordsN l :=
  (red_perm (prm_of hp) (fin_21 (permB_size hp).2) (dnv_21 (permB_size hp).2)).length_eq.symm
theorem redI_pos : ∀ (f : Nat) (w : List Int), Prm w → fin' w ≤ f → 0 < (redI f w).length
  | 0, _, _, _ => by simp [redI]
  | f + 1, w, hp, hf => by
    rw [redI]
    split
    · simp
    · rename_i hne
      obtain ⟨k, hk⟩ := List.exists_mem_of_ne_nil _ hne
      have hl := (mem_ldsL hp).1 hk
      have hv := fin_vsw hp hl
      have h1 := redI_pos f (vsw k w) (hp.vsw (ldes_lt hp hl)) (by omega)
      obtain ⟨v, hv2⟩ := List.exists_mem_of_length_pos h1
      exact List.length_pos_of_mem (List.mem_flatMap.2 ⟨k, hk, List.mem_map.2 ⟨v, hv2, rfl⟩⟩)
theorem zip_fst {α β : Type} : ∀ {a : List α} {b : List β}, a.length = b.length → (a.zip b).map Prod.fst = a
  | [], [], _ => rfl
  | x :: a, y :: b, h => by simp only [List.zip_cons_cons, List.map_cons]; rw [zip_fst (by simpa using h)]
  | [], _ :: _, h => by simp at h
  | _ :: _, [], h => by simp at h
theorem zip_snd {α β : Type} : ∀ {a : List α} {b : List β}, a.length = b.length → (a.zip b).map Prod.snd = b
  | [], [], _ => rfl
  | x :: a, y :: b, h => by simp only [List.zip_cons_cons, List.map_cons]; rw [zip_snd (by simpa using h)]
  | [], _ :: _, h => by simp at h
  | _ :: _, [], h => by simp at h
theorem OS.ov {w : World} {base b : Nat} {v : Value} {ls : List (List Int)} {cells : List Value} (h : OS w base b v ls cells) (hs : ∀ x ∈ ls, x.length ≤ 1000000) : OV w base v (cells.zip ls) ∧ GoodV w (cells.zip ls) ∧ (cells.zip ls).length = ls.length ∧ (cells.zip ls).map Prod.snd = ls := by
  have hl : cells.length = ls.length := by rw [h.2.1.1, rows_len]
  have hz : (cells.zip ls).length = ls.length := by rw [List.length_zip, hl, Nat.min_self]
  refine ⟨?_, fun p hp => ?_, hz, zip_snd hl⟩
  · unfold OV
    rw [hz, zip_fst hl]
    exact h.1
  · obtain ⟨j, hj, e⟩ := List.getElem_of_mem hp
    rw [hz] at hj
    rw [List.getElem_zip] at e
    have hu : cells[j]? = some p.1 := by rw [← e, List.getElem?_eq_getElem (by omega)]
    have hx : (rows ls)[j]? = some (.inr p.2) := by rw [rows_at hj, nthL_lt hj, ← e]
    have ho : OI w b p.1 p.2 := h.2.1.2 j _ _ hx hu
    obtain ⟨A, n, c, hv, hr, -⟩ := ho.form
    refine ⟨A, n, c, hv, hr, ?_⟩
    rw [← hr.1]
    exact hs _ (by rw [← e]; exact List.getElem_mem hj)
set_option maxRecDepth 100000 in
set_option maxHeartbeats 2000000 in
theorem sRed_any {A : Option Addr} {n : Nat} {l : List Int} {w : World} (c : Nat) (hx : RI w A n l) (hn : n ≤ 1000000000) (hc : n ≤ c) :
    Calls Try.prog 69 #[.slice A n c] w (ReadsSb w (redB l) (redOk l)) := by
  have HIS : Hid (Calls Try.prog 138 #[.slice A n c] w (Gives w (.bool (permB l)))) := sIsPerm_any c hx hn hc
  have HX := Lib.hid hx
  have HL : Hid (l.length = n) := hx.1
  rcases hp : permB l with _ | _
  · have HE : Hid (redB l = [] ∧ redOk l = false) := by
      have h : redOk l = false := by rw [redOk, hp]; rfl
      exact ⟨by rw [redB, h]; rfl, h⟩
    rw [hp] at HIS
    clear hx hp
    go_enter Try.func69, Try.ntmps69
    go_wp2_with (first | (go_at_call 138; refine HIS.out.mono ?_; rintro e w1 ⟨rfl, q1, rfl⟩) | fail)
    go_ret2
    rw [HE.out.1, HE.out.2]
    exact ⟨_, _, _, rfl, ⟨rfl, fun k hk => by omega⟩, below_drewN (Below.refl _ _) _⟩
  have HP := Lib.hid hp
  have hsz := permB_size hp
  rw [HL.out] at hsz
  rw [hp] at HIS
  have HLT : Hid (∀ ad, A = some ad → ad.block < w.heap.size) := fun ad e => by
    subst e
    exact hx.lt (by omega)
  have HWD : Hid (∀ W, Below w.heap.size w W → Calls Try.prog 139 #[.slice A n c, .slice (some ⟨W.heap.size, 0, none⟩) 0 0, .slice (some ⟨W.heap.size + 1, 0, none⟩) 0 0] ((W.alloc (.cells #[] 3)).alloc (.cells #[] 22)) (fun e w' => ∃ A' n' c' r cells', e = .returned (.slice A' n' c') ∧ OS w' w.heap.size w.heap.size (.slice A' n' c') r cells' ∧ Hid (Lim [] (redS 21 l) r) ∧ Below w.heap.size w w')) := fun W bW => by
    have hb2 : Below W.heap.size W (W.alloc (.cells #[] 3)) := (Below.refl _ _).alloc (Nat.le_refl _) _
    have hb3 : Below (W.alloc (.cells #[] 3)).heap.size (W.alloc (.cells #[] 3)) ((W.alloc (.cells #[] 3)).alloc (.cells #[] 22)) := (Below.refl _ _).alloc (Nat.le_refl _) _
    have hb13 := hb2.trans (hb3.mono hb2.size)
    have hbw := bW.trans (hb13.mono bW.size)
    have h1 : OI ((W.alloc (.cells #[] 3)).alloc (.cells #[] 22)) w.heap.size (.slice (some ⟨W.heap.size, 0, none⟩) 0 0) [] := OI.below (OI.lit W w.heap.size [] 0 rfl bW.size (by simp)) hb3
    have h2 : OS ((W.alloc (.cells #[] 3)).alloc (.cells #[] 22)) w.heap.size w.heap.size (.slice (some ⟨W.heap.size + 1, 0, none⟩) 0 0) [] [] := by
      have h := OS.lit (W.alloc (.cells #[] 3)) w.heap.size w.heap.size [] [] (Nat.le_trans bW.size hb2.size) FRs.nil_ Dist.nil_ (by simp) 0 rfl
      simpa using h
    have h := l1Words_any 21 ((W.alloc (.cells #[] 3)).alloc (.cells #[] 22)) w.heap.size n c 0 0 0 0 A (some ⟨W.heap.size, 0, none⟩) (some ⟨W.heap.size + 1, 0, none⟩) l [] [] [] ⟨HX.out.below hbw, .inr HLT.out⟩ HP.out hc (dnv_21 (permB_size HP.out).2) (Nat.le_refl _) h1 (by simp) h2 (by simp) (by simp) hbw.size
    rw [tailW_nil] at h
    refine h.mono ?_
    rintro e w' ⟨A', n', c', r, cells', rfl, o, hl, hg, hf⟩
    exact ⟨A', n', c', r, cells', rfl, o, hl, hbw.grown hg hbw.size fun k hk => by have hk' : some (W.heap.size + 1) = some k := hk; injection hk' with hk'; have := bW.size; omega⟩
  have HWN : Hid ((redS 21 l).length = wordsN l) := words_len hp
  clear hx hp
  go_enter Try.func69, Try.ntmps69
  go_upto_region 4 with (first
    | (go_at_call 138; refine HIS.out.mono ?_; rintro e w1 ⟨rfl, q1, rfl⟩)
    | (go_at_call 139; refine (HWD.out _ (below_drewN (Below.refl _ _) _)).mono ?_; rintro e w2 ⟨A2, n2, c2, r, cells, rfl, o2, HLM, b2⟩)
    | fail)
  have HRN : Hid (r.length = n2) := OS.lenS o2
  by_cases h8 : wordsN l ≤ 800
  · have HOK : Hid (redOk l = true) := by show _ = _; rw [redOk, HP.out, decide_eq_true h8]; rfl
    have hr : r = redS 21 l := by
      have h := HLM.out
      unfold Lim at h
      rw [if_pos (by rw [HWN.out]; simpa using h8)] at h
      simpa using h
    have HN2 : Hid (n2 = wordsN l) := by show _ = _; rw [← HRN.out, hr]; exact HWN.out
    have hn2 : ¬ 800 < n2 := by rw [HN2.out]; omega
    have hn2' : decide (800 < (n2 : Int)) = false := decide_eq_false (by omega)
    have hpos : 0 < n2 := by
      rw [HN2.out, wordsN]
      exact redI_pos 21 l (prm_of HP.out) (fin_21 (permB_size HP.out).2)
    have hovs : OV w2 w.heap.size (.slice A2 n2 c2) (cells.zip r) ∧ GoodV w2 (cells.zip r) ∧ (cells.zip r).length = r.length ∧ (cells.zip r).map Prod.snd = r := OS.ov o2 fun x hx => by
      rw [hr] at hx
      have h1 := red_perm (prm_of HP.out) (fin_21 (permB_size HP.out).2) (dnv_21 (permB_size HP.out).2)
      have h2 := (redI_play (prm_of HP.out) (fin_21 (permB_size HP.out).2) (h1.mem_iff.2 hx)).2.1
      have := dnv_21 (permB_size HP.out).2
      omega
    obtain ⟨ov, gv, zl, zs⟩ := hovs
    obtain ⟨g, rfl⟩ := ov.some_ hpos
    have HSR : Hid (Calls Try.prog 140 #[.slice (some ⟨g, 0, none⟩) n2 c2] w2 (ReadsS w2 (redI 21 l))) := by
      refine (l1Sorted_any ov gv (by rw [zl, HRN.out]; omega)).mono ?_
      rintro e w' ⟨X, hX, hs, hrd⟩
      have hXS : X.map Prod.snd = redI 21 l := by
        refine red_sorted (prm_of HP.out) (fin_21 (permB_size HP.out).2) (dnv_21 (permB_size HP.out).2) ?_ ?_
        · have h := hX.map Prod.snd
          rw [zs, hr] at h
          exact h
        · rw [List.pairwise_map]
          exact hs
      rw [hXS] at hrd
      exact hrd
    have B2 := Lib.hid b2
    clear o2 b2 hr hn2 h8 ov gv zl zs
    go_wp2_with (first | (go_at_call 140; refine HSR.out.mono ?_; rintro e w3 ⟨A3, n3, c3, rfl, r3, b3⟩) | fail)
    go_ret2
    rw [redB, HOK.out]
    exact ⟨A3, n3, c3, rfl, r3, bnext B2.out b3 B2.out.size⟩
  · have HOK : Hid (redOk l = false) := by show _ = _; rw [redOk, HP.out, decide_eq_false h8]; rfl
    have hn2 : 800 < n2 := by
      have h := HLM.out
      unfold Lim at h
      rw [if_neg (by rw [HWN.out]; simpa using h8), HRN.out] at h
      exact h.1
    have hn2' : decide (800 < (n2 : Int)) = true := decide_eq_true (by omega)
    have B2 := Lib.hid b2
    clear o2 b2 hn2 h8
    go_wp2
    go_ret2
    rw [redB, HOK.out]
    exact ⟨_, _, _, rfl, ⟨rfl, fun k hk => by omega⟩, B2.out⟩
end Go.Proofs.Ytgbojgmmingfdaa

/- StanleyShapes of the reference. -/
namespace Go.Proofs.Ytgbojgmmingfdaa
open Go.RowKit

theorem sep_inj : ∀ {a b x y : List Int}, (∀ z ∈ a, 0 ≤ z) → (∀ z ∈ b, 0 ≤ z) → a ++ -1 :: x = b ++ -1 :: y → a = b ∧ x = y
  | [], [], x, y, _, _, h => by simpa using h
  | [], q :: b, x, y, _, hb, h => by
    have h0 := hb q (by simp)
    rw [List.nil_append, List.cons_append] at h
    injection h with h1 h2
    omega
  | p :: a, [], x, y, ha, _, h => by
    have h0 := ha p (by simp)
    rw [List.nil_append, List.cons_append] at h
    injection h with h1 h2
    omega
  | p :: a, q :: b, x, y, ha, hb, h => by
    rw [List.cons_append, List.cons_append] at h
    injection h with h1 h2
    obtain ⟨e1, e2⟩ := sep_inj (fun z hz => ha z (List.mem_cons_of_mem _ hz)) (fun z hz => hb z (List.mem_cons_of_mem _ hz)) h2
    exact ⟨by rw [h1, e1], e2⟩
def Pos (T : List (List Int)) : Prop := ∀ r ∈ T, ∀ z ∈ r, 0 ≤ z
theorem flat_cons (r : List Int) (T : List (List Int)) : flatT (r :: T) = r ++ -1 :: flatT T := by
  simp [flatT]
theorem flat_inj : ∀ {S T : List (List Int)}, Pos S → Pos T → flatT S = flatT T → S = T
  | [], [], _, _, _ => rfl
  | [], q :: T, _, _, h => by rw [flat_cons] at h; simp [flatT] at h
  | p :: S, [], _, _, h => by rw [flat_cons] at h; simp [flatT] at h
  | p :: S, q :: T, hS, hT, h => by
    rw [flat_cons, flat_cons] at h
    obtain ⟨e1, e2⟩ := sep_inj (hS p (by simp)) (hT q (by simp)) h
    rw [e1, flat_inj (fun r hr => hS r (List.mem_cons_of_mem _ hr)) (fun r hr => hT r (List.mem_cons_of_mem _ hr)) e2]
theorem stanS_snoc (Ts : List (List (List Int))) (T : List (List Int)) : stanS (Ts ++ [T]) = addP (stanS Ts) (shapeT T) 1 := by
  simp [stanS, List.foldl_append]
theorem stanS_grows' (Ts : List (List (List Int))) : Grows (stanS Ts) Ts.length := by
  have h := stanS_grows Ts Ts.length (Nat.le_refl _)
  rwa [List.take_length] at h
theorem stanS_mem' {Ts : List (List (List Int))} {x : List Int × Int} (hx : x ∈ stanS Ts) : ∃ T ∈ Ts, x.1 = shapeT T := by
  have h := stanS_mem (Ts := Ts) Ts.length (Nat.le_refl _) x
  rw [List.take_length] at h
  exact h hx
theorem RedOf.posT {l v : List Int} (h : RedOf l v) : Pos (egT v) := fun r hr z hz => (h.tab.1.bd r hr z hz).1
structure OkS (ps : List (List Int × Int)) (N : Int) : Prop where
  grows : Grows ps N
  short : ∀ x ∈ ps, x.1.length ≤ 1000
theorem OkS.smallP {ps : List (List Int × Int)} {N : Int} (h : OkS ps N) (hN : N ≤ 100000000000) : SmallP ps := fun k hk => by
  have h1 := h.short _ (nthP_mem hk)
  have h2 := h.grows.cnt _ (nthP_mem hk)
  refine ⟨by omega, by omega, by omega⟩
theorem stan_okp {l : List Int} {Ts : List (List (List Int))} (h : ∀ T ∈ Ts, ∃ v, RedOf l v ∧ T = egT v) : OkS (stanS Ts) Ts.length :=
  ⟨stanS_grows' Ts, fun x hx => by
    obtain ⟨T, hT, e⟩ := stanS_mem' hx
    obtain ⟨v, hv, rfl⟩ := h T hT
    rw [e, shapeT_len]
    exact hv.tab.2.1⟩
theorem stanR_small {l : List Int} : (stanR l).length ≤ 10000 ∧ ∀ i, i < (stanR l).length → (nthP (stanR l) i).1.length ≤ 100000 := by
  rcases h : redOk l with _ | _
  · rw [stanR, h]
    exact ⟨by simp, fun i hi => by simp at hi⟩
  · have hpb : permB l = true ∧ wordsN l ≤ 800 := by
      rw [redOk, Bool.and_eq_true, decide_eq_true_eq] at h
      exact h
    have hT : ∀ T ∈ distT (redI 21 l), ∃ v, RedOf l v ∧ T = egT v := fun T hT => by
      have h1 := distT_of (ws := redI 21 l) (redI 21 l).length (Nat.le_refl _) T
      rw [List.take_length] at h1
      obtain ⟨v, hv, e⟩ := h1 hT
      exact ⟨v, RedOf.of hpb.1 (fin_21 (permB_size hpb.1).2) hv, e⟩
    have hn : (distT (redI 21 l)).length ≤ 800 := by
      have h1 := distT_len (redI 21 l) (redI 21 l).length (Nat.le_refl _)
      rw [List.take_length] at h1
      have := hpb.2
      unfold wordsN at this
      omega
    have ok := stan_okp hT
    rw [stanR, h, if_pos rfl]
    have h2 := ok.grows.len
    refine ⟨by omega, fun i hi => ?_⟩
    have := ok.short _ (nthP_mem hi)
    omega
/-- What holds between two words. -/
structure SSt (w wr : World) (gs ns cs : Nat) (X : List PV) (D : List (List (List Int))) (ov : Value) (pc : List Value) : Prop where
  row : OV wr w.heap.size (.slice (some ⟨gs, 0, none⟩) ns cs) X
  gd : GoodV wr X
  srt : X.Pairwise LtP
  pm : (X.map Prod.snd).Perm (D.map flatT)
  ps : OP wr w.heap.size w.heap.size ov (stanS D) pc
  bel : Below w.heap.size w wr
section
variable {w w1 w2 : World} {gs ns cs : Nat} {X : List PV} {D : List (List (List Int))} {ov : Value} {pc : List Value}
theorem SSt.below (h : SSt w w1 gs ns cs X D ov pc) (b : Below w1.heap.size w1 w2) : SSt w w2 gs ns cs X D ov pc :=
  ⟨h.row.below b, h.gd.below b, h.srt, h.pm, OP.below h.ps b, h.bel.trans (b.mono h.bel.size)⟩
theorem SSt.mem (h : SSt w w1 gs ns cs X D ov pc) {T : List (List Int)} (hT : Pos T) (hD : ∀ S ∈ D, Pos S) : flatT T ∈ X.map Prod.snd ↔ T ∈ D := by
  rw [h.pm.mem_iff, List.mem_map]
  constructor
  · rintro ⟨S, hS, e⟩
    rw [← flat_inj (hD S hS) hT e]; exact hS
  · exact fun hT => ⟨T, hT, rfl⟩
end
set_option maxRecDepth 100000 in
set_option maxHeartbeats 8000000 in
theorem sStan_any {A : Option Addr} {n : Nat} {l : List Int} {w : World} (c : Nat) (hx : RI w A n l) (hn : n ≤ 1000000000) (hc : n ≤ c) :
    Calls Try.prog 17 #[.slice A n c] w (MakesPb w (stanR l) (redOk l)) := by
  have HL : Hid (l.length = n) := hx.1
  have HRD : Hid (Calls Try.prog 69 #[.slice A n c] w (ReadsSb w (redB l) (redOk l))) := sRed_any c hx hn hc
  have HX := Lib.hid hx
  clear hx hc
  rcases hok : redOk l with _ | _
  · have HE : Hid (stanR l = []) := by show _ = _; rw [stanR, hok]; rfl
    rw [hok] at HRD
    clear hok
    go_enter Try.func17, Try.ntmps17
    go_wp2_with (first | (go_at_call 69; refine HRD.out.mono ?_; rintro e w1 ⟨A1, n1, c1, rfl, o1, b1⟩) | fail)
    go_ret2
    rw [HE.out]
    exact ⟨_, _, _, [], rfl, OF.nil_ _ _ _ _ _, rfl, by omega, b1⟩
  have hpb : permB l = true ∧ wordsN l ≤ 800 := by
    rw [redOk, Bool.and_eq_true, decide_eq_true_eq] at hok
    exact hok
  obtain ⟨ws, hws⟩ : ∃ ws, ws = redI 21 l := ⟨_, rfl⟩
  have HWS : Hid (ws.length ≤ 800 ∧ ∀ v ∈ ws, RedOf l v) := ⟨by rw [hws]; exact hpb.2, fun v hv => RedOf.of hpb.1 (fin_21 (permB_size hpb.1).2) (by rw [← hws]; exact hv)⟩
  have HE : Hid (stanR l = stanS (distT ws)) := by show _ = _; rw [stanR, hok, hws]; rfl
  have hrb : redB l = ws := by rw [redB, hok, hws]; rfl
  rw [hok, hrb] at HRD
  clear hpb hok hws hrb
  have HDO : Hid (∀ k, k ≤ ws.length → ∀ T ∈ distT (ws.take k), ∃ v, RedOf l v ∧ T = egT v) := fun k hk T hT => by
    obtain ⟨v, hv, e⟩ := distT_of k hk T hT
    exact ⟨v, HWS.out.2 v hv, e⟩
  go_enter Try.func17, Try.ntmps17
  go_upto_region 4 with (first | (go_at_call 69; refine HRD.out.mono ?_; rintro e w1 ⟨A1, n1, c1, rfl, o1, b1⟩) | fail)
  have b2 : Below w1.heap.size w1 (w1.alloc (.cells #[] 22)) := (Below.refl _ _).alloc (Nat.le_refl _) _
  have b3 : Below (w1.alloc (.cells #[] 22)).heap.size (w1.alloc (.cells #[] 22)) ((w1.alloc (.cells #[] 22)).alloc (.cells #[] 47)) := (Below.refl _ _).alloc (Nat.le_refl _) _
  have S0 : Hid (SSt w ((w1.alloc (.cells #[] 22)).alloc (.cells #[] 47)) w1.heap.size 0 0 [] [] (.slice (some ⟨w1.heap.size + 1, 0, none⟩) 0 0) []) := by
    refine ⟨(OV.lit w1 w.heap.size b1.size).below b3, fun p hp => by simp at hp, List.Pairwise.nil, by simp, ?_, ?_⟩
    · have h := OP.lit (w1.alloc (.cells #[] 22)) w.heap.size w.heap.size (by simp; have := b1.size; omega)
      rw [show (w1.alloc (.cells #[] 22)).heap.size = w1.heap.size + 1 by simp] at h
      exact h
    · exact bnext (bnext b1 b2 b1.size) b3 (bnext b1 b2 b1.size).size
  have HRS : Hid (RS w1 A1 n1 ws) := o1
  have HN1 : Hid (ws.length = n1) := o1.1
  have hn1 : n1 ≤ 800 := by rw [← HN1.out]; exact HWS.out.1
  have B3 : Hid (Below w1.heap.size w1 ((w1.alloc (.cells #[] 22)).alloc (.cells #[] 47))) := b2.trans (b3.mono b2.size)
  clear o1 b1 b2 b3
  go_wp2_with fail
  go_loopw [6, 7, 8, 9, 10, 11] (fun sv ov i _ _ _ wr => ∃ (k gs ns cs : Nat) (D : Option Addr) (dn dd : Nat) (X : List PV) (pc : List Value), k ≤ n1 ∧ i = .int .i64 (k : Int) ∧ sv = .slice (some ⟨gs, 0, none⟩) ns cs ∧ ov = .slice D dn dd ∧ Hid (SSt w wr gs ns cs X (distT (ws.take k)) (.slice D dn dd) pc ∧ Below w1.heap.size w1 wr)) (fun _ _ i _ _ _ _ => n1 - (intOf i).toNat)
  case atStart => exact ⟨0, _, _, _, _, _, _, [], [], Nat.zero_le _, rfl, rfl, rfl, by
    have h : distT (ws.take 0) = [] := by simp [distT]
    rw [h]; exact ⟨S0.out, B3.out⟩⟩
  case round =>
    clear S0 B3
    obtain ⟨k, gs, ns, cs, D, dn, dd, X, pc, hk, rfl, rfl, rfl, HY⟩ := hrel
    by_cases hlt : k < n1
    · obtain ⟨ad, A2, n2, c2, rfl, z0, r2, -⟩ := (HRS.out.below HY.out.2).2 k hlt
      obtain ⟨v, hv⟩ : ∃ v, v = nthL ws k := ⟨_, rfl⟩
      rw [← hv] at r2
      have hkw : k < ws.length := by rw [HN1.out]; exact hlt
      have HRO : Hid (RedOf l v) := HWS.out.2 v (by rw [hv, nthL_lt hkw]; exact List.getElem_mem _)
      have HDT : Hid (distT (ws.take (k + 1)) = if egT v ∈ distT (ws.take k) then distT (ws.take k) else distT (ws.take k) ++ [egT v]) := by show _ = _; rw [distT_take hkw, hv]
      have HR2 := Lib.hid r2
      have HV2 : Hid (v.length = n2) := r2.1
      have hn2 : n2 ≤ 21 := by rw [← HV2.out]; exact HRO.out.word.2
      obtain ⟨wo, rfl⟩ : ∃ wo : World, wo = wr := ⟨_, rfl⟩
      have Z0 := Lib.hid z0
      have RP0 : Hid (RS (wo.alloc (.cells #[] 22)) (some ⟨wo.heap.size, 0, none⟩) 0 (egT (v.take 0)) ∧ Below wo.heap.size wo (wo.alloc (.cells #[] 22))) := ⟨⟨by simp [egT], fun k hk => by omega⟩, (Below.refl _ _).alloc (Nat.le_refl _) _⟩
      clear hv r2 hkw z0
      go_wp2_with fail
      go_loopw [9, 10] (fun pv j wq => ∃ (q pn pd : Nat) (P : Option Addr), q ≤ n2 ∧ j = .int .i64 (q : Int) ∧ pv = .slice P pn pd ∧ Hid (RS wq P pn (egT (v.take q)) ∧ Below wo.heap.size wo wq)) (fun _ j _ => n2 - (intOf j).toNat)
      case atStart => exact ⟨0, _, _, _, Nat.zero_le _, rfl, rfl, RP0.out⟩
      case round =>
        clear RP0
        obtain ⟨q, pn, pd, P, hq, rfl, rfl, HP⟩ := hrel
        have z1 : wr.cell? (ad.add k) = some (.slice A2 n2 c2) := one_cell HP.out.2 Z0.out
        by_cases hlq : q < n2
        · have hr3 := HR2.out.below HP.out.2
          obtain ⟨ad2, rfl, hcl⟩ := hr3.2 (by omega)
          have z2 := hcl q hlq
          have hqv : q < v.length := by rw [HV2.out]; exact hlq
          have HT : Hid (egT (v.take (q + 1)) = (egI (egT (v.take q)) (nth v q)).1) := by show _ = _; rw [take_succ_nth hqv, egT_snoc]
          have hsz := permB_size HRO.out.pm
          have hvb : ∀ j, j < v.length → 0 ≤ nth v j ∧ nth v j ≤ ((6 : Nat) : Int) := fun j hj => by
            have := HRO.out.ok _ (nth_mem hj)
            omega
          have hok := egT_ok (M := 6) (v := v) (fun x hx => by have := HRO.out.ok x hx; omega) q (by omega)
          have HED : Hid (Calls Try.prog 70 #[.slice P pn pd, .int .i64 (nth v q)] wr (MakesSn wr (egI (egT (v.take q)) (nth v q)).1 (egI (egT (v.take q)) (nth v q)).2)) :=
            l4Edel_any pd (nth v q) HP.out.1 (egT_fine hvb (by have := HV2.out; omega) (by omega) hqv) hok.asc
          obtain ⟨y, hy⟩ : ∃ y, y = nth v q := ⟨_, rfl⟩
          rw [← hy] at z2 HED HT
          clear hr3 hcl hqv hsz hvb hok hy
          go_wp2_with (first
            | (go_at_call 70; refine HED.out.mono ?_; rintro e w4 ⟨A4, n4, c4, ec, rfl, o4, l4, q4, b4⟩)
            | fail)
          have F4 : Hid (RS w4 A4 n4 (egT (v.take (q + 1))) ∧ Below wo.heap.size wo w4) := ⟨by rw [HT.out]; exact OS.rs o4 l4.symm, HP.out.2.trans (b4.mono HP.out.2.size)⟩
          clear o4 l4 b4
          go_roundw
          case rel => exact ⟨q + 1, _, _, _, by omega, by go_num, rfl, F4.out⟩
          case measure => simp [intOf]; omega
        · have htk : v.take q = v := List.take_of_length_le (by rw [HV2.out]; omega)
          have HPT : Hid (RS wr P pn (egT v)) := by
            have h := HP.out.1
            rw [htk] at h
            exact h
          have HTB := Lib.hid HRO.out.tab
          have HTL : Hid ((egT v).length = pn) := HPT.out.1
          have hpn : pn ≤ 1000 := by rw [← HTL.out]; exact HTB.out.2.1
          have hcol : ∀ r ∈ egT v, r.length ≤ 21 := fun r hr => by
            have h1 := HTB.out.1.cols r hr
            have h2 := HV2.out
            omega
          have hrow : (egT v).length ≤ 21 := by
            have h1 := HTB.out.1.rows
            have h2 := HV2.out
            omega
          have HFL : Hid (Calls Try.prog 72 #[.slice P pn pd] wr (Makes wr (flatT (egT v)))) := l4Flat_any pd HPT.out hpn fun r hr => by have := hcol r hr; omega
          have HFN : Hid ((flatT (egT v)).length ≤ 1000000) := by
            have h := flatT_len hcol
            have h2 : (egT v).length * (21 + 1) ≤ 21 * 22 := Nat.mul_le_mul_right _ hrow
            show _ ≤ _
            omega
          have HSH : Hid (∀ W, Below wr.heap.size wr W → Calls Try.prog 74 #[.slice P pn pd] W (Makes W (shapeT (egT v)))) := fun W bW => l4Shape_any pd (HPT.out.below bW) hpn
          have HST : Hid (SSt w wr gs ns cs X (distT (ws.take k)) (.slice D dn dd) pc) := HY.out.1.below HP.out.2
          have HB1 : Hid (Below w1.heap.size w1 wr) := HY.out.2.trans (HP.out.2.mono HY.out.2.size)
          have HDL : Hid ((distT (ws.take k)).length ≤ 800) := by
            have := distT_len ws k (by rw [HN1.out]; exact hk)
            show _ ≤ _
            omega
          have HXL : Hid (X.length ≤ 1000) := by
            have h := HST.out.pm.length_eq
            rw [List.length_map, List.length_map] at h
            have := HDL.out
            show _ ≤ _
            omega
          have HNS : Hid (X.length = ns) := HST.out.row.len
          have HMEM : Hid (flatT (egT v) ∈ X.map Prod.snd ↔ egT v ∈ distT (ws.take k)) := HST.out.mem HRO.out.posT fun S hS => by
            obtain ⟨u, hu, rfl⟩ := HDO.out k (by rw [HN1.out]; exact hk) S hS
            exact hu.posT
          have HOK : Hid (OkS (stanS (distT (ws.take k))) ((distT (ws.take k)).length : Nat)) := stan_okp (HDO.out k (by rw [HN1.out]; exact hk))
          clear htk hcol hrow
          by_cases hin : egT v ∈ distT (ws.take k)
          · have HIN := Lib.hid (HMEM.out.2 hin)
            have HOLD : Hid (distT (ws.take (k + 1)) = distT (ws.take k)) := by show _ = _; rw [HDT.out, if_pos hin]
            clear hin
            go_wp2_with (first
              | (go_at_call 72; refine HFL.out.mono ?_; rintro e w4 ⟨A4, n4, c4, rfl, o4, r4, ⟨q4, q5⟩, b4⟩)
              | (go_at_call 71; refine (l1Insert_any (HST.out.below b4).row (HST.out.below b4).gd r4 (by have := r4.1; have := HFN.out; omega) HST.out.srt HXL.out (HST.out.below b4).bel.size).mono ?_; rintro e w5 ⟨g5, n5, c5, X5, rfl, o5, s5, b5, i5, j5⟩; obtain rfl := i5 HIN.out; obtain rfl : n5 = ns := o5.len.symm.trans HNS.out)
              | fail)
            have hb45 := b4.trans (b5.mono b4.size)
            have F5 : Hid (SSt w w5 g5 n5 c5 X5 (distT (ws.take (k + 1))) (.slice D dn dd) pc ∧ Below w1.heap.size w1 w5) := by
              have h := HST.out.below hb45
              rw [HOLD.out]
              exact ⟨⟨o5, h.gd, h.srt, h.pm, h.ps, h.bel⟩, HB1.out.trans (hb45.mono HB1.out.size)⟩
            clear o5 s5 b5 i5 j5 o4 r4 b4 hb45
            go_roundw
            case rel => exact ⟨k + 1, _, _, _, _, _, _, _, _, by omega, by go_num, rfl, rfl, F5.out⟩
            case measure => simp [intOf]; omega
          · have HNI : Hid (¬ flatT (egT v) ∈ X.map Prod.snd) := fun h => hin (HMEM.out.1 h)
            have HNEW : Hid (distT (ws.take (k + 1)) = distT (ws.take k) ++ [egT v]) := by show _ = _; rw [HDT.out, if_neg hin]
            clear hin
            go_upto_region 15 with (first
              | (go_at_call 72; refine HFL.out.mono ?_; rintro e w4 ⟨A4, n4, c4, rfl, o4, r4, ⟨q4, q5⟩, b4⟩)
              | (go_at_call 71; refine (l1Insert_any (HST.out.below b4).row (HST.out.below b4).gd r4 (by have := r4.1; have := HFN.out; omega) HST.out.srt HXL.out (HST.out.below b4).bel.size).mono ?_; rintro e w5 ⟨g5, n5, c5, X5, rfl, o5, s5, b5, i5, j5⟩)
              | fail)
            have hp5 := j5 HNI.out
            have hn5 : n5 = ns + 1 := by
              rw [← o5.len, hp5.length_eq, List.length_cons, HNS.out]
            subst hn5
            have hb45 := b4.trans (b5.mono b4.size)
            have hst5 := HST.out.below hb45
            have F5 : Hid (OV w5 w.heap.size (.slice (some ⟨g5, 0, none⟩) (ns + 1) c5) X5 ∧ GoodV w5 X5 ∧ X5.Pairwise LtP ∧ (X5.map Prod.snd).Perm ((distT (ws.take k) ++ [egT v]).map flatT)) := by
              refine ⟨o5, GoodV.perm (fun p hp => ?_) hp5, s5, ?_⟩
              · rcases List.mem_cons.1 hp with rfl | hp
                · exact ⟨A4, n4, c4, rfl, r4.below b5, by have := r4.1; have := HFN.out; omega⟩
                · exact hst5.gd p hp
              · refine (hp5.map Prod.snd).trans ?_
                rw [List.map_cons, List.map_append, List.map_cons, List.map_nil]
                exact (List.Perm.cons _ hst5.pm).trans (List.perm_append_singleton _ _).symm
            have O5 : Hid (OP w5 w.heap.size w.heap.size (.slice D dn dd) (stanS (distT (ws.take k))) pc) := hst5.ps
            have BW5 : Hid (Below w.heap.size w w5) := hst5.bel
            have B45 := Lib.hid hb45
            have hns : ns ≤ 1000 := by rw [← HNS.out]; exact HXL.out
            have HSL : Hid ((stanS (distT (ws.take k))).length ≤ 100000000000) := by
              have h1 := HOK.out.grows.len
              have h2 := HDL.out
              show _ ≤ _
              omega
            have HSP : Hid (SmallP (stanS (distT (ws.take k)))) := HOK.out.smallP (by have := HDL.out; omega)
            clear hp5 hb45 hst5 o5 s5 b5 i5 j5 o4 r4 b4
            go_wp2_with (first
              | (go_at_call 74; refine (HSH.out _ B45.out).mono ?_; rintro e w6 ⟨A6, n6, c6, rfl, o6, r6, ⟨q6, q7⟩, b6⟩)
              | (go_at_call 73; refine (l4Add_any c6 1 (OP.below O5.out b6) r6 (by have := r6.1; rw [shapeT_len, HTL.out] at this; omega) HSL.out HSP.out (by omega) (by omega)).mono ?_; rintro e w7 ⟨A7, n7, c7, pc7, rfl, o7, l7, q8, b7⟩)
              | fail)
            have hb67 := b6.trans (b7.mono b6.size)
            have F7 : Hid (SSt w w7 g5 (ns + 1) c5 X5 (distT (ws.take (k + 1))) (.slice A7 n7 c7) pc7 ∧ Below w1.heap.size w1 w7) := by
              rw [HNEW.out]
              obtain ⟨f1, f2, f3, f4⟩ := F5.out
              refine ⟨⟨f1.below hb67, f2.below hb67, f3, f4, ?_, BW5.out.trans (hb67.mono BW5.out.size)⟩, ?_⟩
              · rw [stanS_snoc]
                exact OF.mono o7 (Nat.le_trans BW5.out.size b6.size) (Nat.le_trans BW5.out.size b6.size)
              · have h := HB1.out.trans (B45.out.mono HB1.out.size)
                exact h.trans (hb67.mono h.size)
            clear hb67 o7 l7 q8 b7 o6 r6 b6
            go_roundw
            case rel => exact ⟨k + 1, _, _, _, _, _, _, _, _, by omega, by go_num, rfl, rfl, F7.out⟩
            case measure => simp [intOf]; omega
    · have hds : distT (ws.take k) = distT ws := by rw [List.take_of_length_le (by rw [HN1.out]; omega)]
      have HFIN : Hid (MakesPb w (stanR l) true (.returned (.tuple #[.slice D dn dd, .bool true])) wr) := by
        have h := HY.out.1.ps
        rw [hds, ← HE.out] at h
        exact MakesPb.of h HY.out.1.bel
      clear hds
      go_wp2_with fail
      go_ret2
      exact HFIN.out
end Go.Proofs.Ytgbojgmmingfdaa
