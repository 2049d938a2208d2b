/- Key polynomials: the sorting of the exponents, and what the program makes of them, in plain words. -/
import Derived.Test.YtgbojgmmingfdaaExch
namespace Go.Proofs.Ytgbojgmmingfdaa

/-- Two that stand one beside the other exchanged. -/
def swA : Nat → List Int → List Int
  | 0, a :: b :: r => b :: a :: r
  | j + 1, x :: r => x :: swA j r
  | _, l => l
theorem swapL_swA : ∀ (j : Nat) (l : List Int), j + 1 < l.length → swapL l j (j + 1) = swA j l
  | _, [], h => by simp at h
  | 0, [a], h => by simp at h
  | 0, a :: b :: r, _ => rfl
  | j + 1, x :: r, h => by
    have h1 : j + 1 < r.length := by simpa using h
    rw [swA, ← swapL_swA j r h1]
    rfl
def upC (x : Int) (l : List Int) : Nat := (l.filter fun y => decide (x < y)).length
def invL : List Int → Nat
  | [] => 0
  | x :: r => upC x r + invL r
theorem swA_perm : ∀ (j : Nat) (l : List Int), (swA j l).Perm l
  | 0, [] => List.Perm.refl _
  | 0, [a] => List.Perm.refl _
  | 0, a :: b :: r => List.Perm.swap a b r
  | j + 1, [] => List.Perm.refl _
  | j + 1, x :: r => (swA_perm j r).cons x
theorem upC_perm {x : Int} {a b : List Int} (h : a.Perm b) : upC x a = upC x b := (h.filter _).length_eq
theorem swA_inv : ∀ (j : Nat) (l : List Int), j + 1 < l.length → nth l j < nth l (j + 1) → invL (swA j l) + 1 = invL l
  | _, [], h, _ => by simp at h
  | 0, [a], h, _ => by simp at h
  | 0, a :: b :: r, _, h => by
    have h' : a < b := h
    show invL (b :: a :: r) + 1 = invL (a :: b :: r)
    simp only [invL, upC, List.filter_cons]
    rw [decide_eq_false (show ¬ b < a by omega), decide_eq_true h']
    simp only [Bool.false_eq_true, if_false, if_true, List.length_cons]
    omega
  | j + 1, x :: r, h, h2 => by
    have h1 : j + 1 < r.length := by simpa using h
    have ih := swA_inv j r h1 h2
    show invL (x :: swA j r) + 1 = invL (x :: r)
    simp only [invL]
    rw [upC_perm (swA_perm j r)]
    omega
theorem inv_pos : ∀ (j : Nat) (l : List Int), j + 1 < l.length → nth l j < nth l (j + 1) → 0 < invL l := fun j l h h2 => by
  have := swA_inv j l h h2
  omega
theorem upC_le (x : Int) (l : List Int) : upC x l ≤ l.length := List.length_filter_le _ _
theorem inv_five {l : List Int} (h : l.length ≤ 5) : invL l ≤ 10 := by
  rcases l with _ | ⟨a, _ | ⟨b, _ | ⟨c, _ | ⟨d, _ | ⟨e, _ | ⟨f, r⟩⟩⟩⟩⟩⟩
  · simp [invL]
  · have := upC_le a []; simp only [invL, List.length_nil] at *; omega
  · have := upC_le a [b]; have := upC_le b []; simp only [invL, List.length_nil, List.length_cons] at *; omega
  · have := upC_le a [b, c]; have := upC_le b [c]; have := upC_le c []; simp only [invL, List.length_nil, List.length_cons] at *; omega
  · have := upC_le a [b, c, d]; have := upC_le b [c, d]; have := upC_le c [d]; have := upC_le d []; simp only [invL, List.length_nil, List.length_cons] at *; omega
  · have := upC_le a [b, c, d, e]; have := upC_le b [c, d, e]; have := upC_le c [d, e]; have := upC_le d [e]; have := upC_le e []; simp only [invL, List.length_nil, List.length_cons] at *; omega
  · simp only [List.length_cons] at h; omega
def ascB (l : List Int) (j : Nat) : Bool := decide (nth l j < nth l (j + 1))
def firstAsc (l : List Int) : Option Nat := (List.range (l.length - 1)).find? (ascB l)
theorem find_first {p : Nat → Bool} {n j : Nat} (hj : j < n) (h : p j = true) (h0 : ∀ i, i < j → p i = false) : (List.range n).find? p = some j := by
  induction n with
  | zero => omega
  | succ n ih =>
    rw [List.range_succ, List.find?_append]
    rcases Nat.lt_or_ge j n with h1 | h1
    · rw [ih h1]; rfl
    · obtain rfl : j = n := by omega
      have : (List.range j).find? p = none := by
        rw [List.find?_eq_none]
        intro x hx
        rw [h0 x (List.mem_range.1 hx)]; simp
      rw [this]
      simp [h]
theorem firstAsc_some {l : List Int} {j : Nat} (hj : j + 1 < l.length) (h : nth l j < nth l (j + 1)) (h0 : ∀ i, i < j → ¬ nth l i < nth l (i + 1)) : firstAsc l = some j :=
  find_first (by omega) (decide_eq_true h) fun i hi => decide_eq_false (h0 i hi)
theorem firstAsc_none {l : List Int} (h0 : ∀ i, i + 1 < l.length → ¬ nth l i < nth l (i + 1)) : firstAsc l = none := by
  unfold firstAsc
  rw [List.find?_eq_none]
  intro x hx
  rw [List.mem_range] at hx
  rw [ascB, decide_eq_false (h0 x (by omega))]; simp
def monoK (e : List Int) : List (Int × Int) := [(keyL (padL e 7), 1)]
def keyM : Nat → List Int → List (Int × Int)
  | 0, e => monoK e
  | n + 1, e => match firstAsc e with
    | none => monoK e
    | some j => demK j (keyM n (swA j e))
theorem keyM_none {e : List Int} (n : Nat) (h : firstAsc e = none) : keyM n e = monoK e := by
  cases n with
  | zero => rfl
  | succ n => rw [keyM, h]
theorem keyM_some {e : List Int} {j : Nat} (n : Nat) (h : firstAsc e = some j) : keyM (n + 1) e = demK j (keyM n (swA j e)) := by rw [keyM, h]
theorem swA_all {P : Int → Prop} (h0 : P 0) {l : List Int} {j : Nat} (h : ∀ i, P (nth l i)) : ∀ i, P (nth (swA j l) i) := fun i => by
  rcases Nat.lt_or_ge i (swA j l).length with h1 | h1
  · rw [nth_lt h1]
    have h2 : (swA j l)[i] ∈ l := (swA_perm j l).mem_iff.1 (List.getElem_mem h1)
    obtain ⟨k, hk, e⟩ := List.getElem_of_mem h2
    have := h k
    rw [nth_lt hk, e] at this
    exact this
  · rw [nth_ge h1]; exact h0
theorem PK.mono {H : Type} {w : World} {b C C' : Nat} {E : Int} {L : List (Int × Int)} (h : PK H w b E C L) (hC : C ≤ C') : PK H w b E C' L := by
  obtain ⟨n, f, f1, f2, f3, f4, f5⟩ := h
  exact ⟨n, f, f1, f2, f3, Nat.le_trans f4 hC, f5⟩
theorem PK.len {H : Type} {w : World} {b C : Nat} {E : Int} {L : List (Int × Int)} (h : PK H w b E C L) (hE : E ≤ 127) : L.length ≤ C := by
  obtain ⟨n, f, f1, f2, f3, f4, f5⟩ := h
  rw [← f5, (f3.perm hE).length_eq, List.length_map]
  exact Nat.le_trans f3.len f4
theorem PK.one {H : Type} {w : World} {b C : Nat} {e : List Int} (h : PK H w b 24 C [(keyL e, 1)]) (h7 : e.length = 7) (h4 : ∀ j, 0 ≤ nth e j ∧ nth e j ≤ 4) : PK H w b 4 1 [(keyL e, 1)] := by
  obtain ⟨n, f, f1, f2, f3, f4, f5⟩ := h
  have h1 := f3.back (by omega)
  rw [f5] at h1
  have h2 : [(keyL e, (1 : Int))].map exT = [(e, 1)] := by
    show [exT (kc (e, 1))] = _
    rw [exT_kc h7 fun j _ => by have := h4 j; simp only; omega]
  rw [h2] at h1
  obtain rfl : f = [(e, 1)] := List.singleton_perm.1 h1 |>.symm
  refine ⟨n, _, f1, f2, ⟨f3.srt, fun x hx => ?_⟩, Nat.le_refl _, f5⟩
  obtain rfl : x = (e, 1) := by simpa using hx
  exact ⟨⟨h7, h4⟩, by simp⟩
end Go.Proofs.Ytgbojgmmingfdaa

/- key and KeyPoly of the program. -/
namespace Go.Proofs.Ytgbojgmmingfdaa
open Go.RowKit

set_option maxRecDepth 100000 in
set_option maxHeartbeats 2000000 in
theorem key_step {H : Type} {A : Option Addr} {m C : Nat} {l : List Int} {w : World} {R : List (Int × Int)} (c : Nat) (hx : RI w A m l) (hm : m ≤ 5) (hl : ∀ j, 0 ≤ nth l j ∧ nth l j ≤ 4)
    (hrec : ∀ j, j + 1 < m → nth l j < nth l (j + 1) → (∀ i, i < j → ¬ nth l i < nth l (i + 1)) → ∃ (Cr : Nat) (L : List (Int × Int)), C = Cr * 5 ∧ Cr ≤ 10000000 ∧ R = demK j L ∧ ∀ W A' c', RI W A' m (swA j l) → Calls Try.prog 116 #[.slice A' m c'] W (MakesK H W 4 Cr L))
    (hnone : (∀ i, i + 1 < m → ¬ nth l i < nth l (i + 1)) → R = monoK l ∧ 1 ≤ C) :
    Calls Try.prog 116 #[.slice A m c] w (MakesK H w 4 C R) := by
  have HLn : Hid (l.length = m) := hx.1
  have HX := Lib.hid hx
  have HREC := Lib.hid hrec
  have HNONE := Lib.hid hnone
  have HMO : Hid (∀ q, Calls Try.prog 172 #[.slice A m c] (w.drewN q) (MakesR1 (w.drewN q) (padL l 7, 1))) := fun q => monomial_any c (HX.out.drewN q) (by omega) fun j => by have := hl j; omega
  have hp7 : (padL l 7).length = 7 := padL_len (by rw [HLn.out]; omega)
  have HP7 := Lib.hid hp7
  have HPO : Hid (polyB [(padL l 7, 1)] = true) := one_poly hp7 fun j => by rw [nth_padL]; have := hl j; omega
  have HL4 := Lib.hid hl
  clear hx hl hp7 hrec hnone
  go_enter Try.func116, Try.ntmps116
  go_wp2
  go_loopw [3] (fun i wr => ∃ k : Nat, 1 ≤ k ∧ i = .int .i64 (k : Int) ∧ Quiet w wr ∧ Hid (∀ j, j + 1 < k → ¬ nth l j < nth l (j + 1))) (fun i _ => m - (intOf i).toNat)
  case atStart => exact ⟨1, Nat.le_refl _, rfl, (by first | exact ⟨_, rfl⟩ | exact ⟨_, (World.drewN_drewN _ _ _).symm⟩ | exact Quiet.refl _ | (simp only [World.drewN_drewN]; exact ⟨_, rfl⟩)), fun j hj => by omega⟩
  case round =>
    obtain ⟨k, hk1, rfl, ⟨q, rfl⟩, HT⟩ := hrel
    by_cases hlt : k < m
    · obtain ⟨r, rfl⟩ : ∃ r, k = r + 1 := ⟨k - 1, by omega⟩
      have hlt' : decide (((r : Int) + 1) < (m : Int)) = true := decide_eq_true (by omega)
      obtain ⟨ad, rfl, z0⟩ := HX.out.cell (k := r) (by omega)
      obtain ⟨ad', e, z1⟩ := HX.out.cell (k := r + 1) (by omega)
      obtain rfl := Option.some.inj e
      obtain ⟨u, hu⟩ : ∃ u, u = nth l r := ⟨_, rfl⟩
      obtain ⟨v, hv⟩ : ∃ u, u = nth l (r + 1) := ⟨_, rfl⟩
      rw [← hu] at z0
      rw [← hv] at z1
      have HUV : Hid (u = nth l r ∧ v = nth l (r + 1)) := ⟨hu, hv⟩
      have hw1 : IntKind.i64.wrap ((r : Int) + 1 - 1) = (r : Int) := by rw [show (r : Int) + 1 - 1 = (r : Int) by omega]; exact IntWalk.i64_in _ (by omega)
      have hw2 : IntKind.i64.wrap (r : Int) = (r : Int) := IntWalk.i64_in _ (by omega)
      have hw3 : IntKind.i64.wrap ((r : Int) + 1 + 1) = (r : Int) + 1 + 1 := IntWalk.i64_in _ (by omega)
      have hr0 : (r : Int) < (m : Int) := by omega
      have hr1 : (r : Int) + 1 < (m : Int) := by omega
      have hr2 : (0 : Int) ≤ (r : Int) + 1 := by omega
      have hr3 : r < m := by omega
      clear hu hv e
      rw [show (((r + 1 : Nat)) : Int) = (r : Int) + 1 from rfl]
      have z0' : (w.drewN q).cell? (ad.add r) = some (.int .i64 u) := z0
      have z1' : w.cell? ⟨ad.block, ad.off + (r + 1), none⟩ = some (.int .i64 v) := by
        have e2 : ad.add (r + 1) = ⟨ad.block, ad.off + (r + 1), none⟩ := by unfold Addr.add; rw [if_neg (Nat.succ_ne_zero r)]
        rw [← e2]; exact z1
      rcases hna : decide (u < v) with _ | _
      · have HNA := Lib.hid hna
        go_wp2_with fail
        go_region
        go_wp2_with fail
        go_roundw
        case rel => exact ⟨r + 2, by omega, by go_num, (by first | exact ⟨_, rfl⟩ | exact ⟨_, (World.drewN_drewN _ _ _).symm⟩ | exact Quiet.refl _ | (simp only [World.drewN_drewN]; exact ⟨_, rfl⟩)), fun j hj => by
          by_cases h : j = r
          · subst h; rw [← HUV.out.1, ← HUV.out.2]; have := of_decide_eq_false HNA.out; omega
          · have := HT.out j (by omega); omega⟩
        case measure => simp [intOf]; omega
      · obtain ⟨Cr, L, hC, hCr, hR, hcall⟩ := HREC.out r (by omega) (by rw [← HUV.out.1, ← HUV.out.2]; exact of_decide_eq_true hna) (fun i hi => by have := HT.out i (by omega); omega)
        have HC : Hid (C = Cr * 5 ∧ Cr ≤ 10000000 ∧ R = demK r L) := ⟨hC, hCr, hR⟩
        have HCALL := Lib.hid hcall
        have HEX : Hid (∀ W, RI W (some ad) m l → Calls Try.prog 99 #[.slice (some ad) m c, .int .i64 (r : Int), .int .i64 ((r : Int) + 1)] W (Makes W (swA r l))) := fun W h => by
          have h2 := exchanged_any (w := W) c r (r + 1) h (by omega) (by omega) (by omega) (by omega)
          rw [swapL_swA r l (by rw [HLn.out]; omega)] at h2
          exact h2
        clear hC hCr hR hcall
        go_wp2_with fail
        go_region
        go_wp2_with (first
          | (go_at_call 99; refine (HEX.out _ (by exact HX.out.drewN _)).mono ?_; rintro e w2 ⟨A2, n2, c2, rfl, o2, r2, ⟨cp2, le2⟩, b2⟩)
          | fail)
        have HR2 := Lib.hid r2
        have h02 : Below w.heap.size w (w.drewN (q + 1)) := below_drewN (Below.refl _ _) _
        have HB2 : Hid (Below w.heap.size w w2) := h02.trans (b2.mono h02.size)
        clear h02
        obtain rfl : n2 = m := by rw [← r2.1, (swA_perm r l).length_eq]; exact HLn.out
        clear o2 r2 b2
        go_wp2_with (first
          | (go_at_call 116; refine (HCALL.out _ _ _ HR2.out).mono ?_; rintro e w3 ⟨b3, rfl, l3, p3, c3⟩)
          | fail)
        have P3 := Lib.hid p3
        have HB3 : Hid (Below w.heap.size w w3) := HB2.out.trans (c3.mono HB2.out.size)
        have hlen := p3.len (by omega)
        have HDM : Hid (Calls Try.prog 171 #[.map (some b3), .int .i64 (r : Int)] w3 (MakesK H w3 4 C R)) := by
          rw [HC.out.1, HC.out.2.2]
          have h5 : ((4 : Int) + 1).toNat = 5 := rfl
          have h := demazureK_any (H := H) r (by omega) (by omega) P3.out (by rw [h5]; have := HC.out.2.1; omega) (by rw [h5]; have := HC.out.2.1; omega)
          rw [h5] at h
          exact h
        clear p3 c3 l3 hlen
        go_wp2_with (first
          | (go_at_call 171; refine HDM.out.mono ?_; rintro e w4 ⟨b4, rfl, l4, p4, c4⟩)
          | fail)
        go_ret
        exact ⟨b4, rfl, by have := HB3.out.size; omega, p4, HB3.out.trans (c4.mono HB3.out.size)⟩
    · have hlt' : decide ((k : Int) < (m : Int)) = false := decide_eq_false (by omega)
      have hno := HNONE.out (fun i hi => by have := HT.out i (by omega); omega)
      have HNO := Lib.hid hno
      clear hno
      go_wp2_with (first
        | (go_at_call 172; refine (HMO.out _).mono ?_; rintro e w2 ⟨A2, c2, rfl, r2, b2⟩)
        | fail)
      have HR2 := Lib.hid r2
      have h02 : Below w.heap.size w (w.drewN q) := below_drewN (Below.refl _ _) _
      have HB2 : Hid (Below w.heap.size w w2) := h02.trans (b2.mono h02.size)
      clear h02
      have HOP : Hid (Calls Try.prog 169 #[.slice A2 1 c2] w2 (MakesK H w2 4 C R)) := by
        refine (open_any H c2 HR2.out HPO.out).mono ?_
        rintro e w3 ⟨b3, rfl, l3, p3, c3⟩
        refine ⟨b3, rfl, l3, ?_, c3⟩
        rw [HNO.out.1]
        exact (PK.one p3 HP7.out fun j => by rw [nth_padL]; exact HL4.out j).mono HNO.out.2
      clear r2 b2
      go_wp2_with (first
        | (go_at_call 169; refine HOP.out.mono ?_; rintro e w4 ⟨b4, rfl, l4, p4, c4⟩)
        | fail)
      go_ret
      exact ⟨b4, rfl, by have := HB2.out.size; omega, p4, HB2.out.trans (c4.mono HB2.out.size)⟩
theorem swA_len (j : Nat) (l : List Int) : (swA j l).length = l.length := (swA_perm j l).length_eq
theorem pow5_pos : ∀ n : Nat, 1 ≤ 5 ^ n
  | 0 => Nat.le_refl _
  | n + 1 => by have := pow5_pos n; rw [Nat.pow_succ]; omega
theorem pow5_le {n : Nat} (h : n ≤ 9) : 5 ^ n ≤ 10000000 := Nat.le_trans (Nat.pow_le_pow_right (by omega) h) (by decide)
theorem key_any {H : Type} : ∀ (fuel : Nat) {A : Option Addr} {m : Nat} {l : List Int} {w : World} (c : Nat), RI w A m l → m ≤ 5 → (∀ j, 0 ≤ nth l j ∧ nth l j ≤ 4) → invL l ≤ fuel → fuel ≤ 10 →
    Calls Try.prog 116 #[.slice A m c] w (MakesK H w 4 (5 ^ fuel) (keyM fuel l)) := by
  intro fuel
  induction fuel with
  | zero =>
    intro A m l w c hx hm hl hinv _
    have hlen := hx.1
    refine key_step c hx hm hl (fun j hj h _ => ?_) fun _ => ⟨rfl, Nat.le_refl _⟩
    have := inv_pos j l (by omega) h
    omega
  | succ fuel ih =>
    intro A m l w c hx hm hl hinv hf
    have hlen : l.length = m := hx.1
    refine key_step c hx hm hl (fun j hj h h0 => ?_) fun h0 => ⟨keyM_none _ (firstAsc_none (fun i hi => h0 i (by omega))), pow5_pos _⟩
    have h1 := swA_inv j l (by omega) h
    refine ⟨5 ^ fuel, keyM fuel (swA j l), Nat.pow_succ .., pow5_le (by omega), keyM_some _ (firstAsc_some (by omega) h h0), fun W A' c' hx' => ?_⟩
    exact ih c' hx' hm (swA_all (P := fun x => 0 ≤ x ∧ x ≤ 4) ⟨by omega, by omega⟩ hl) (by omega) (by omega)
def keyOk (e : List Int) : Bool := decide (1 ≤ e.length) && (decide (e.length ≤ 5) && allB (fun k => inB (nth e k) 0 4) e.length)
def keyB (e : List Int) : Bool := keyOk e && shutB (keyM 10 e)
def keyR (e : List Int) : List (List Int × Int) := if keyB e then shutT (keyM 10 e) else []
theorem keyR_yes {e : List Int} (h : keyOk e = true) : keyR e = shutT (keyM 10 e) ∧ keyB e = shutB (keyM 10 e) := by
  have h2 : keyB e = shutB (keyM 10 e) := by rw [keyB, h]; rfl
  refine ⟨?_, h2⟩
  unfold keyR
  rw [h2]
  split
  · rfl
  · rename_i h3
    rw [shut_no (by simpa using h3)]
theorem keyR_no {e : List Int} (h : keyOk e = false) : keyR e = [] ∧ keyB e = false := by
  have h2 : keyB e = false := by rw [keyB, h]; rfl
  refine ⟨?_, h2⟩
  unfold keyR
  rw [h2]; rfl
set_option maxRecDepth 100000 in
set_option maxHeartbeats 2000000 in
theorem iKeyPoly_any {A : Option Addr} {m : Nat} {l : List Int} {w : World} (c : Nat) (hx : RI w A m l) (hm : m ≤ 1000000000) :
    Calls Try.prog 43 #[.slice A m c] w (MakesTm w (keyR l) (keyB l)) := by
  have HLn : Hid (l.length = m) := hx.1
  have HX := Lib.hid hx
  have HNIL : Hid (keyOk l = false → ∀ wr, Below w.heap.size w wr → MakesTm w (keyR l) (keyB l) (.returned (.tuple #[.slice none 0 0, .bool false])) wr) := fun h wr hb => by
    rw [(keyR_no h).1, (keyR_no h).2]
    exact ⟨_, _, rfl, OF.nil_ _ _ _ _ _, hb⟩
  clear hx
  go_enter Try.func43, Try.ntmps43
  by_cases h1 : m < 1
  · have hN := Lib.hid (HNIL.out (by rw [keyOk, HLn.out, decide_eq_false (by omega)]; rfl))
    have h1' : decide ((m : Int) < 1) = true := decide_eq_true (by omega)
    go_wp2
    go_ret2
    exact hN.out _ (Below.refl _ _)
  by_cases h2 : 5 < m
  · have hN := Lib.hid (HNIL.out (by rw [keyOk, HLn.out, decide_eq_false (show ¬ m ≤ 5 by omega)]; simp))
    have h1' : decide ((m : Int) < 1) = false := decide_eq_false (by omega)
    have h2' : decide (5 < (m : Int)) = true := decide_eq_true (by omega)
    go_wp2
    go_ret2
    exact hN.out _ (Below.refl _ _)
  have h1' : decide ((m : Int) < 1) = false := decide_eq_false (by omega)
  have h2' : decide (5 < (m : Int)) = false := decide_eq_false (by omega)
  have HM : Hid (1 ≤ m ∧ m ≤ 5) := ⟨by omega, by omega⟩
  clear h1 h2
  go_wp2
  go_loopw [5, 16] (fun _ i wr => ∃ k : Nat, k ≤ m ∧ i = .int .i64 (k : Int) ∧ Quiet w wr ∧ Hid (∀ j, j < k → 0 ≤ nth l j ∧ nth l j ≤ 4)) (fun _ i _ => m - (intOf i).toNat)
  case atStart => exact ⟨0, Nat.zero_le _, rfl, (by first | exact ⟨_, rfl⟩ | exact ⟨_, (World.drewN_drewN _ _ _).symm⟩ | exact Quiet.refl _ | (simp only [World.drewN_drewN]; exact ⟨_, rfl⟩)), fun j hj => by omega⟩
  case round =>
    obtain ⟨k, hk, rfl, ⟨q, rfl⟩, HT⟩ := hrel
    by_cases hlt : k < m
    · obtain ⟨ad, rfl, z0⟩ := HX.out.cell hlt
      obtain ⟨u, hu⟩ : ∃ u, u = nth l k := ⟨_, rfl⟩
      rw [← hu] at z0
      have HU := Lib.hid hu
      clear hu
      by_cases u0 : 0 ≤ u ∧ u ≤ 4
      · have a1 : decide (u < 0) = false := decide_eq_false (by omega)
        have a2 : decide (4 < u) = false := decide_eq_false (by omega)
        have HU4 := Lib.hid u0
        clear u0
        go_wp2_with fail
        go_roundw
        case rel => exact ⟨k + 1, by omega, by go_num, (by first | exact ⟨_, rfl⟩ | exact ⟨_, (World.drewN_drewN _ _ _).symm⟩ | exact Quiet.refl _ | (simp only [World.drewN_drewN]; exact ⟨_, rfl⟩)), fun j hj => by
          by_cases h : j = k
          · subst h; rw [← HU.out]; exact HU4.out
          · exact HT.out j (by omega)⟩
        case measure => simp [intOf]; omega
      · have hno : keyOk l = false := by
          rw [keyOk, allB_no (k := k) (by rw [HLn.out]; exact hlt) (by rw [← HU.out]; simp [inB]; omega)]; simp
        have hN := Lib.hid (HNIL.out hno)
        by_cases u1 : u < 0
        · have a1 : decide (u < 0) = true := decide_eq_true u1
          clear u0 u1
          go_wp2_with fail
          go_ret2
          exact hN.out _ (below_drewN (Below.refl _ _) _)
        · have a1 : decide (u < 0) = false := decide_eq_false u1
          have a2 : decide (4 < u) = true := decide_eq_true (by omega)
          clear u0 u1
          go_wp2_with fail
          go_ret2
          exact hN.out _ (below_drewN (Below.refl _ _) _)
    · have hall : ∀ j, 0 ≤ nth l j ∧ nth l j ≤ 4 := fun j => by
        by_cases h : j < m
        · exact HT.out j (by omega)
        · rw [nth_ge (by rw [HLn.out]; omega)]; omega
      have hyes : keyOk l = true := by
        have h3 := HM.out
        rw [keyOk, HLn.out, decide_eq_true h3.1, decide_eq_true h3.2, allB_yes fun j _ => by have := hall j; simp [inB]; omega]; rfl
      have HY := Lib.hid (keyR_yes hyes)
      have HKY : Hid (Calls Try.prog 116 #[.slice A m c] (w.drewN q) (MakesK Unit (w.drewN q) 4 (5 ^ 10) (keyM 10 l))) := key_any 10 c (HX.out.drewN q) HM.out.2 hall (inv_five (by rw [HLn.out]; exact HM.out.2)) (Nat.le_refl _)
      clear hall hyes
      go_wp2_with (first
        | (go_at_call 116; refine HKY.out.mono ?_; rintro e w2 ⟨b2, rfl, l2, p2, d2⟩)
        | (go_at_call 66; refine (closedK_any p2 (by omega)).mono ?_; rintro e w6 ⟨v6, cs6, rfl, o6, c6⟩)
        | fail)
      go_ret2
      have h02 : Below w.heap.size w (w.drewN q) := below_drewN (Below.refl _ _) _
      have h2 : Below w.heap.size w w2 := h02.trans (d2.mono h02.size)
      rw [HY.out.1, HY.out.2]
      exact ⟨v6, cs6, rfl, OF.mono o6 h2.size h2.size, h2.trans (c6.mono h2.size)⟩
end Go.Proofs.Ytgbojgmmingfdaa
