/- Numbers and lists that the kernel is made to lay out before it goes on. -/
import Derived.Test.YtgbojgmmingfdaaGrP
import Derived.Test.YtgbojgmmingfdaaSee
import Derived.Test.YtgbojgmmingfdaaAdd
import Derived.Test.YtgbojgmmingfdaaShapes
import Derived.Test.YtgbojgmmingfdaaSchurB
import Derived.Test.YtgbojgmmingfdaaPlusW
import Derived.Test.YtgbojgmmingfdaaTimesW
import Derived.Test.YtgbojgmmingfdaaBoxP
namespace Go.Proofs.Ytgbojgmmingfdaa

def fcN {α : Type} (n : Nat) (k : Nat → α) : α := match n with | 0 => k 0 | m + 1 => k (Nat.succ m)
theorem fcN_eq {α : Type} (n : Nat) (k : Nat → α) : fcN n k = k n := by cases n <;> rfl
def fcI {α : Type} (x : Int) (k : Int → α) : α := match x with | .ofNat n => fcN n fun n => k (.ofNat n) | .negSucc n => fcN n fun n => k (.negSucc n)
theorem fcI_eq {α : Type} (x : Int) (k : Int → α) : fcI x k = k x := by cases x <;> simp [fcI, fcN_eq]
def fcL {α : Type} : List Int → (List Int → α) → α
  | [], k => k []
  | x :: r, k => fcI x fun x => fcL r fun r => k (x :: r)
theorem fcL_eq {α : Type} : ∀ (l : List Int) (k : List Int → α), fcL l k = k l
  | [], k => rfl
  | x :: r, k => by rw [fcL, fcI_eq, fcL_eq r]
def fcP {α : Type} : List (List Int × Int) → (List (List Int × Int) → α) → α
  | [], k => k []
  | x :: r, k => fcL x.1 fun a => fcI x.2 fun b => fcP r fun r => k ((a, b) :: r)
theorem fcP_eq {α : Type} : ∀ (l : List (List Int × Int)) (k : List (List Int × Int) → α), fcP l k = k l
  | [], k => rfl
  | x :: r, k => by rw [fcP, fcL_eq, fcI_eq, fcP_eq r]
def fcK {α : Type} : List (Int × Int) → (List (Int × Int) → α) → α
  | [], k => k []
  | x :: r, k => fcI x.1 fun a => fcI x.2 fun b => fcK r fun r => k ((a, b) :: r)
theorem fcK_eq {α : Type} : ∀ (l : List (Int × Int)) (k : List (Int × Int) → α), fcK l k = k l
  | [], k => rfl
  | x :: r, k => by rw [fcK, fcI_eq, fcI_eq, fcK_eq r]

def roomAt (under : Option (List Int)) (put : List Int) (r : Nat) : Bool := match under with | none => true | some u => decide (0 ≤ nth u r - sumTo put r)
/-- Every row from this one on has room by the row above. -/
def roomB (under : Option (List Int)) (put : List Int) (rows : Nat) : Nat → Bool
  | 0 => true
  | d + 1 => roomAt under put (rows - (d + 1)) && roomB under put rows d
def zeroL : List Int → Bool
  | [] => true
  | x :: r => decide (x = 0) && zeroL r
theorem zeroL_nth : ∀ {l : List Int}, zeroL l = true → ∀ j, nth l j = 0
  | [], _, j => rfl
  | x :: r, h, j => by
    rw [zeroL, Bool.and_eq_true] at h
    obtain ⟨h1, h2⟩ := h
    cases j with
    | zero => exact of_decide_eq_true h1
    | succ j => exact zeroL_nth h2 j
theorem nth_drop' (l : List Int) (q j : Nat) : nth (l.drop q) j = nth l (q + j) := by simp [nth, List.getD]
theorem set_same' {l : List Int} {i : Nat} {x : Int} (h : x = nth l i) : l.set i x = l := by
  rcases Nat.lt_or_ge i l.length with h1 | h1
  · rw [h, nth_lt h1]; exact List.set_getElem_self h1
  · exact List.set_eq_of_length_le h1
/-- What is left where nothing can be put any more. -/
theorem layerR_fin {rows : Nat} {most : Int} {K : List Int → List Int → List (List Int)} {old : List Int} {under : Option (List Int)} (hm : 0 ≤ most) {shape put : List Int} {q : Nat} (hq : 1 ≤ q) (ho : ∀ j, q - 1 ≤ j → nth old j = 0) (hp : ∀ j, q ≤ j → nth put j = 0) {left : Int} (hl : 0 ≤ left) :
    ∀ d, q + d = rows → ∀ e, e ≤ d → layerR rows most K old under e shape left put = if 0 < left then [] else if roomB under put rows e then K shape put else [] := by
  intro d hd e
  induction e with
  | zero =>
    intro _
    rw [layerR]
    rfl
  | succ e ih =>
    intro he
    have hr : q ≤ rows - (e + 1) := by omega
    have h0 := ho (rows - (e + 1)) (by omega)
    have h1 := ho (rows - (e + 1) - 1) (by omega)
    have h2 := hp (rows - (e + 1)) hr
    have hne : rows - (e + 1) ≠ 0 := by omega
    have hput : put.set (rows - (e + 1)) ((0 : Nat) : Int) = put := set_same' h2.symm
    have hsh : shape.set (rows - (e + 1)) (nth shape (rows - (e + 1)) + ((0 : Nat) : Int)) = shape := set_same' (by simp)
    rw [layerR]
    show _ = if 0 < left then [] else if (roomAt under put (rows - (e + 1)) && roomB under put rows e) = true then K shape put else []
    have key : (mostAt most old under put left (rows - (e + 1)) + 1).toNat = if roomAt under put (rows - (e + 1)) = true then 1 else 0 := by
      unfold mostAt roomAt
      simp only [h0, h1, if_neg hne]
      cases under with
      | none => simp; omega
      | some u =>
        simp only [decide_eq_true_eq]
        split <;> omega
    rw [key]
    split
    · rename_i h
      rw [h, Bool.true_and]
      show (List.range 1).flatMap _ = _
      rw [show List.range 1 = [0] from rfl, List.flatMap_cons, List.flatMap_nil, List.append_nil, hput, hsh]
      have := ih (by omega)
      simpa using this
    · rename_i h
      have h' : roomAt under put (rows - (e + 1)) = false := by simpa using h
      rw [h', Bool.false_and]
      simp
def layerRF (rows : Nat) (most : Int) (K : List Int → List Int → List (List Int)) (old : List Int) (under : Option (List Int)) : Nat → List Int → Int → List Int → List (List Int)
  | 0, shape, left, put => if 0 < left then [] else K shape put
  | d + 1, shape, left, put =>
    if (decide (1 ≤ rows - (d + 1)) && (zeroL (old.drop (rows - (d + 1) - 1)) && (zeroL (put.drop (rows - (d + 1))) && decide (0 ≤ left)))) = true then (if 0 < left then [] else if roomB under put rows (d + 1) then K shape put else [])
    else (List.range (mostAt most old under put left (rows - (d + 1)) + 1).toNat).flatMap fun (n : Nat) =>
      layerRF rows most K old under d (shape.set (rows - (d + 1)) (nth shape (rows - (d + 1)) + (n : Int))) (left - (n : Int)) (put.set (rows - (d + 1)) (n : Int))
theorem layerRF_eq {rows : Nat} {most : Int} (hm : 0 ≤ most) (K : List Int → List Int → List (List Int)) (old : List Int) (under : Option (List Int)) : ∀ (d : Nat) (shape : List Int) (left : Int) (put : List Int), d ≤ rows → layerRF rows most K old under d shape left put = layerR rows most K old under d shape left put
  | 0, shape, left, put, _ => rfl
  | d + 1, shape, left, put, hd => by
    rw [layerRF]
    split
    · rename_i h
      simp only [Bool.and_eq_true, decide_eq_true_eq] at h
      obtain ⟨h1, h2, h3, h4⟩ := h
      refine (layerR_fin hm (q := rows - (d + 1)) h1 (fun j hj => ?_) (fun j hj => ?_) h4 (d + 1) (by omega) (d + 1) (Nat.le_refl _)).symm
      · have := zeroL_nth h2 (j - (rows - (d + 1) - 1))
        rw [nth_drop'] at this
        rw [show j = rows - (d + 1) - 1 + (j - (rows - (d + 1) - 1)) by omega]
        exact this
      · have := zeroL_nth h3 (j - (rows - (d + 1)))
        rw [nth_drop'] at this
        rw [show j = rows - (d + 1) + (j - (rows - (d + 1))) by omega]
        exact this
    · rw [layerR]
      congr 1
      funext n
      rw [layerRF_eq hm K old under d _ _ _ (by omega)]
def layerCF (rows : Nat) (most : Int) : List Int → List Int → Option (List Int) → List (List Int)
  | [], shape, _ => [shape]
  | c :: rest, shape, under => layerRF rows most (fun s p => fcL s fun s => fcL p fun p => layerCF rows most rest s (some (prefs p rows))) shape under rows shape c (List.replicate rows 0)
theorem layerCF_eq {rows : Nat} {most : Int} (hm : 0 ≤ most) : ∀ (b shape : List Int) (under : Option (List Int)), layerCF rows most b shape under = layerC rows most b shape under
  | [], shape, under => rfl
  | c :: rest, shape, under => by
    rw [layerCF, layerC, layerRF_eq hm _ _ _ _ _ _ _ (Nat.le_refl _)]
    congr 1
    funext s p
    rw [fcL_eq, fcL_eq, layerCF_eq hm rest]
def addAllF : List (List Int × Int) → List (List Int) → List (List Int × Int)
  | acc, [] => acc
  | acc, s :: l => fcL (bare s) fun t => fcP (addP acc t 1) fun a => addAllF a l
theorem addAllF_eq : ∀ (l : List (List Int)) (acc : List (List Int × Int)), addAllF acc l = addAll acc l
  | [], acc => rfl
  | s :: l, acc => by rw [addAllF, fcL_eq, fcP_eq, addAllF_eq l]; rfl
def shF (a b : List Int) : List (List Int × Int) := if shOk a b then fcL (padL a 16) fun s => addAllF [] (layerCF 16 16 b s none) else []
theorem shF_eq (a b : List Int) : shF a b = shB a b := by
  unfold shF shB
  split
  · rw [fcL_eq, addAllF_eq, layerCF_eq (by omega)]; rfl
  · rfl
end Go.Proofs.Ytgbojgmmingfdaa

/- slices.Equal; the number of times that a shape stands among parts: program and reference. -/
namespace Go.Proofs.Ytgbojgmmingfdaa
open Go.RowKit

theorem equal_any {A C : Option Addr} {n m : Nat} {xs ys : List Int} {w : World} (b : Bool) (c d : Nat) (hx : RI w A n xs) (hy : RI w C m ys) (hb : b = decide (xs = ys)) (hn : n ≤ 9223372036854775807) (hm : m ≤ 9223372036854775807) :
    Calls Try.prog 79 #[.slice A n c, .slice C m d] w (Gives w (.bool b)) := by
  have HL1 := Lib.hid hx.1
  have HL2 := Lib.hid hy.1
  have HB := Lib.hid hb
  clear hb
  by_cases hnm : n = m
  · subst hnm
    go_enter Try.func79, Try.ntmps79
    go_wp2
    go_loopw [5, 13] (fun _ i wr => ∃ k q : Nat, k ≤ n ∧ i = .int .i64 k ∧ w.drewN q = wr ∧ ∀ j, j < k → nth xs j = nth ys j) (fun _ i _ => n - (intOf i).toNat)
    case atStart => exact ⟨0, 0, Nat.zero_le _, rfl, rfl, by simp⟩
    case round =>
      obtain ⟨k, q, hk, rfl, rfl, ht⟩ := hrel
      have HT := Lib.hid ht
      clear ht
      by_cases hlt : k < n
      · obtain ⟨ad, hA, hc⟩ := hx.cell hlt
        obtain ⟨ad', hA', hc'⟩ := hy.cell hlt
        subst hA hA'
        go_wp2
        go_quiet (fail)
        go_wp2
        · go_ret
          refine ⟨?_, _, (World.drewN_drewN _ _ _).symm⟩
          have : b = false := by
            rw [HB.out]
            rename_i hne
            simp only [decide_eq_false_iff_not]
            intro e
            subst e
            simp at hne
          rw [this]; rfl
        · go_roundw
          case rel =>
            refine ⟨k + 1, _, by omega, by go_num, rfl, ?_⟩
            intro j hj
            rename_i hne
            by_cases hjk : j = k
            · subst hjk; simpa using hne
            · exact HT.out j (by omega)
          case measure => simp [intOf]; omega
      · go_wp2
        go_ret
        refine ⟨?_, _, rfl⟩
        have : b = true := by
          rw [HB.out]
          simp only [decide_eq_true_eq]
          exact agree_all HL1.out HL2.out (fun j hj => HT.out j (by omega))
        rw [this]; rfl
  · go_enter Try.func79, Try.ntmps79
    go_wp2
    go_ret
    refine ⟨?_, Quiet.refl _⟩
    have : b = false := by
      rw [HB.out]
      simp only [decide_eq_false_iff_not]
      intro e
      subst e
      exact hnm (HL1.out.symm.trans HL2.out)
    rw [this]; rfl

/-- How many times a shape stands among parts: the first of its kind. -/
def cntP (ps : List (List Int × Int)) (s : List Int) : Int := match ps with | [] => 0 | x :: r => if x.1 = s then x.2 else cntP r s
theorem cntP_at : ∀ {ps : List (List Int × Int)} {s : List Int} {k : Nat}, (∀ j, j < k → (nthP ps j).1 ≠ s) → k < ps.length → (nthP ps k).1 = s → cntP ps s = (nthP ps k).2
  | [], s, k, _, hk, _ => by simp at hk
  | x :: r, s, 0, _, _, h => by
    have h' : x.1 = s := h
    rw [cntP, if_pos h']; rfl
  | x :: r, s, k + 1, h0, hk, h => by
    have h1 : x.1 ≠ s := h0 0 (by omega)
    rw [cntP, if_neg h1]
    have e : ∀ j, nthP (x :: r) (j + 1) = nthP r j := fun j => by simp [nthP, List.getD]
    rw [e] at h ⊢
    exact cntP_at (fun j hj => by have := h0 (j + 1) (by omega); rw [e] at this; exact this) (by simpa using hk) h
theorem cntP_none : ∀ {ps : List (List Int × Int)} {s : List Int}, (∀ j, j < ps.length → (nthP ps j).1 ≠ s) → cntP ps s = 0
  | [], s, _ => rfl
  | x :: r, s, h0 => by
    have h1 : x.1 ≠ s := h0 0 (by simp)
    rw [cntP, if_neg h1]
    have e : ∀ j, nthP (x :: r) (j + 1) = nthP r j := fun j => by simp [nthP, List.getD]
    exact cntP_none fun j hj => by have := h0 (j + 1) (by simpa using hj); rw [e] at this; exact this
set_option maxHeartbeats 1000000 in
theorem countOf_any {w : World} {base b n : Nat} {A : Option Addr} {s : List Int} {v : Value} {ps : List (List Int × Int)} {cells : List Value} (c : Nat) (hx : RI w A n s) (hn : n ≤ 1000000) (ho : OP w base b v ps cells) (hl : ∀ k, k < ps.length → (nthP ps k).1.length ≤ 1000000) (hN : ps.length ≤ 100000000000) :
    Calls Try.prog 125 #[v, .slice A n c] w (GivesB w (.int .i64 (cntP ps s))) := by
  obtain ⟨A0, n0, c0, rfl, hn0, hc0, hc63⟩ := ho.form
  rw [hn0] at hN
  have HN := Lib.hid hn0
  have HL := Lib.hid hl
  have HX := Lib.hid hx
  have HO := Lib.hid ho
  clear hn0 hl ho
  go_enter Try.func125, Try.ntmps125
  go_wp2
  go_loopw [6, 9] (fun _ i wr => ∃ k : Nat, k ≤ n0 ∧ i = .int .i64 (k : Int) ∧ Below w.heap.size w wr ∧ Hid (∀ j, j < k → (nthP ps j).1 ≠ s)) (fun _ i _ => n0 - (intOf i).toNat)
  case atStart => exact ⟨0, Nat.zero_le _, rfl, Below.refl _ _, fun j hj => by omega⟩
  case round =>
    obtain ⟨k, hk, rfl, hb, ht⟩ := hrel
    by_cases hlt : k < n0
    · have hok := HO.out.below hb
      obtain ⟨G, cc, hGG, _⟩ := OF.shape hok (by rw [HN.out]; omega)
      obtain ⟨rfl, e2, e3⟩ := slice_inj hGG
      clear e2 e3 hGG
      obtain ⟨A4, n4, c4, k1, _, k2, _, k4⟩ := OP.cell hok (k := k) (by rw [HN.out]; exact hlt)
      have hl4 := HL.out k (by rw [HN.out]; exact hlt)
      have hri := k2.ri
      rw [hri.1] at hl4
      have HK := Lib.hid hri
      have HB := Lib.hid hb
      have hs := hb.size
      clear hok k2 hri hb
      rcases hd : decide ((nthP ps k).1 = s) with _ | _
      · have HD := Lib.hid hd
        have HS : Hid (∀ W, Below wr.heap.size wr W → Calls Try.prog 79 #[.slice A4 n4 c4, .slice A n c] W (Gives W (.bool false))) := fun W bW => equal_any false _ _ (HK.out.below bW) ((HX.out.below HB.out).below bW) HD.out.symm (by omega) (by omega)
        clear hd
        go_wp2_with (go_at_call 79; (with_reducible refine (HS.out _ ?_).mono ?_); (exact (Below.refl _ _).alloc (Nat.le_refl _) _); rintro e w' ⟨rfl, q0, rfl⟩)
        go_roundw
        case rel => exact ⟨k + 1, by omega, by go_num, below_drewN (HB.out.alloc hs _) _, fun j hj => by
          by_cases e : j = k
          · subst e; exact of_decide_eq_false HD.out
          · exact ht.out j (by omega)⟩
        case measure => simp [intOf]; omega
      · have HD := Lib.hid hd
        have HS : Hid (∀ W, Below wr.heap.size wr W → Calls Try.prog 79 #[.slice A4 n4 c4, .slice A n c] W (Gives W (.bool true))) := fun W bW => equal_any true _ _ (HK.out.below bW) ((HX.out.below HB.out).below bW) HD.out.symm (by omega) (by omega)
        have HE := Lib.hid (cntP_at ht.out (by rw [HN.out]; exact hlt) (of_decide_eq_true hd))
        clear hd
        go_wp2_with (go_at_call 79; (with_reducible refine (HS.out _ ?_).mono ?_); (exact (Below.refl _ _).alloc (Nat.le_refl _) _); rintro e w' ⟨rfl, q0, rfl⟩)
        go_ret
        rw [HE.out]
        exact ⟨rfl, below_drewN (HB.out.alloc hs _) _⟩
    · obtain rfl : k = n0 := by omega
      have HE := Lib.hid (cntP_none (ps := ps) (s := s) fun j hj => ht.out j (by rw [HN.out] at hj; exact hj))
      go_wp2
      go_ret
      rw [HE.out]
      exact ⟨rfl, hb⟩
end Go.Proofs.Ytgbojgmmingfdaa

/- FnLr: what the walk wants to know of products of shapes; the checks as the kernel does them. -/
namespace Go.Proofs.Ytgbojgmmingfdaa
open Go.RowKit

/-- A step of the sum of the law. -/
def lrStep (f : List (List Int × Int)) (p : List Int × Int) : List (List Int × Int) :=
  if p.1.length ≤ 3 ∧ sumL p.1 ≤ 8 then shutT (plusK p.2 (f.map kc) ((schurR p.1 3).map kc)) else f
def lrSum (l : List (List Int × Int)) : List (List Int × Int) := l.foldl lrStep []
def lrOne (a b : List Int) (z : List (List Int × Int)) (p : List Int × Int) : Bool :=
  decide (1 ≤ p.2) && (decide (p.2 ≤ 1000) && (containsB p.1 a && (containsB p.1 b && (isShapeB (conjB p.1) && (isShapeB p.1 && decide (cntP z (conjB p.1) = p.2))))))
def pokAt (ps : List (List Int × Int)) (k : Nat) : Bool := isShapeB (nthP ps k).1 && (decide ((nthP ps k).2 ≠ 0) && (decide (k = 0) || lexLt (nthP ps (k - 1)).1 (nthP ps k).1))
def lrPairG (a b x y : List Int) (l m z : List (List Int × Int)) : Bool :=
  decide (l = m) && (shOk a b && (shOk x y && (l.all (lrOne a b z) && (List.range l.length).all (pokAt l))))
def lrPair (a b : List Int) : Bool := lrPairG a b (conjB a) (conjB b) (shB a b) (shB b a) (shB (conjB a) (conjB b))
def lrPairF (a b : List Int) : Bool := fcL (conjB a) fun x => fcL (conjB b) fun y => fcP (shF a b) fun l => fcP (shF b a) fun m => fcP (shF x y) fun z => lrPairG a b x y l m z
theorem lrPairF_eq (a b : List Int) : lrPairF a b = lrPair a b := by
  unfold lrPairF lrPair
  simp only [fcL_eq, fcP_eq, shF_eq]
def lrMulG (a b : List Int) (l : List (List Int × Int)) : Bool :=
  decide (8 < sumL a + sumL b) || (schurB a 3 && (schurB b 3 && decide (lrSum l = shutT (timesK ((schurR a 3).map kc) ((schurR b 3).map kc)))))
def lrMul (a b : List Int) : Bool := lrMulG a b (shB a b)
-- the same with all laid out
def shutF (L : List (Int × Int)) : List (List Int × Int) := fcK L fun L => fcP (L.map exT) fun ts => if (decide (L.length ≤ 600) && polyB ts) = true then ts else []
theorem shutF_eq (L : List (Int × Int)) : shutF L = shutT L := by
  unfold shutF shutT shutB
  simp only [fcK_eq, fcP_eq]
def schurF (ms : List Int) (n : Int) : Option (List (List Int × Int)) := if schurOk ms n = true then fcK (schurK n.toNat ms) fun L => fcP (L.map exT) fun ts => if (decide (L.length ≤ 600) && polyB ts) = true then some ts else none else none
theorem schurF_some {ms : List Int} {n : Int} {ts : List (List Int × Int)} (h : schurF ms n = some ts) : schurB ms n = true ∧ schurR ms n = ts := by
  unfold schurF at h
  split at h
  · rename_i h1
    simp only [fcK_eq, fcP_eq] at h
    split at h
    · rename_i h2
      have h3 : schurB ms n = true := by unfold schurB shutB; rw [h1, h2]; rfl
      refine ⟨h3, ?_⟩
      injection h with h
      rw [schurR, if_pos h3, ← h]
      rfl
    · cases h
  · cases h
def stepF (f : List (List Int × Int)) (p : List Int × Int) : Option (List (List Int × Int)) :=
  if p.1.length ≤ 3 ∧ sumL p.1 ≤ 8 then (match schurF p.1 3 with | none => none | some g => fcK (f.map kc) fun F => fcK (g.map kc) fun G => fcP (shutF (plusK p.2 F G)) fun t => some t) else some f
theorem stepF_some {f t : List (List Int × Int)} {p : List Int × Int} (h : stepF f p = some t) : lrStep f p = t := by
  unfold stepF at h
  unfold lrStep
  split at h
  · rename_i h1
    rw [if_pos h1]
    split at h
    · cases h
    · rename_i g hg
      simp only [fcK_eq, fcP_eq, shutF_eq] at h
      injection h with h
      rw [(schurF_some hg).2]
      exact h
  · rename_i h1
    rw [if_neg h1]
    injection h
def sumF : List (List Int × Int) → List (List Int × Int) → Option (List (List Int × Int))
  | f, [] => some f
  | f, p :: l => match stepF f p with | none => none | some t => sumF t l
theorem sumF_some : ∀ {l f t : List (List Int × Int)}, sumF f l = some t → l.foldl lrStep f = t
  | [], f, t, h => by injection h
  | p :: l, f, t, h => by
    rw [sumF] at h
    split at h
    · cases h
    · rename_i u hu
      rw [List.foldl_cons, stepF_some hu]
      exact sumF_some h
def lrMulF (a b : List Int) : Bool :=
  decide (8 < sumL a + sumL b) || (match schurF a 3, schurF b 3 with
    | some g, some h => fcK (g.map kc) fun G => fcK (h.map kc) fun H => fcP (shF a b) fun l => match sumF [] l with
      | none => false
      | some s => decide (s = shutF (timesK G H))
    | _, _ => false)
theorem lrMulF_yes {a b : List Int} (h : lrMulF a b = true) : lrMul a b = true := by
  unfold lrMulF at h
  unfold lrMul lrMulG
  rw [Bool.or_eq_true] at h ⊢
  rcases h with h | h
  · exact .inl h
  · refine .inr ?_
    split at h
    · rename_i g k hg hk
      simp only [fcK_eq, fcP_eq, shF_eq, shutF_eq] at h
      split at h
      · cases h
      · rename_i s hs
        have e := of_decide_eq_true h
        rw [(schurF_some hg).1, (schurF_some hk).1, (schurF_some hg).2, (schurF_some hk).2, lrSum, sumF_some hs, e]
        simp
    · cases h
def lrA : List (List Int) := (shapesIn 4 8).filter smallB
end Go.Proofs.Ytgbojgmmingfdaa
