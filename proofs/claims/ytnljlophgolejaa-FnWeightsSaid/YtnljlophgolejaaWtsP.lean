/- Weighted products, plain: the sum of all counts; where sizes add, the plain product is left. -/
import Derived.Test.YtnljlophgolejaaPDel
import Derived.Test.YtnljlophgolejaaWProS
import Derived.Test.YtnljlophgolejaaCountI
import Derived.Test.YtnljlophgolejaaPzFinW
namespace Go.Proofs.Ytnljlophgolejaa

/-- The sum of the counts. -/
def sumC : List (List Int × Int) → Int
  | [] => 0
  | x :: r => x.2 + sumC r
/-- The sum of the weights. -/
def sumF (f : PZ → Int) : List PZ → Int
  | [] => 0
  | p :: r => f p + sumF f r
theorem sumC_insZ (s : List Int) (n : Int) : ∀ ps, sumC (insZ ps s n) = sumC ps + n
  | [] => by simp [insZ, sumC]
  | x :: r => by
    rw [insZ]
    split
    · rw [sumC, sumC, sumC_insZ s n r]; omega
    · split
      · simp only [sumC]; omega
      · simp only [sumC]; omega
theorem sumC_nz : ∀ ps, sumC (nz ps) = sumC ps
  | [] => rfl
  | x :: r => by
    rw [nz_cons]
    split
    · rw [sumC_nz r, sumC]; omega
    · rw [sumC, sumC, sumC_nz r]
theorem sumC_fold {n : Nat} {f : PZ → Int} : ∀ (l : List PZ) (s : List (List Int × Int)), sumC (l.foldl (proS n f) s) = sumC s + sumF f l
  | [], s => by simp [sumF]
  | p :: l, s => by
    rw [List.foldl_cons, sumC_fold l, proS, sumC_insZ, sumF]; omega
theorem sumC_app : ∀ (a b : List (List Int × Int)), sumC (a ++ b) = sumC a + sumC b
  | [], b => by simp [sumC]
  | x :: r, b => by rw [List.cons_append, sumC, sumC, sumC_app r b]; omega
theorem sumF_app (f : PZ → Int) : ∀ (a b : List PZ), sumF f (a ++ b) = sumF f a + sumF f b
  | [], b => by simp [sumF]
  | x :: r, b => by rw [List.cons_append, sumF, sumF, sumF_app f r b]; omega
theorem sum_wp {a b Y : List Int} (h : wpOk a b Y = true) : sumC (wpB a b Y) = sumF (wtF a.length Y) (spAll true a b) := by
  rw [wpB, if_pos h, sumC_nz, sumC_fold]
  simp [sumC]

/-- The shapes of some kind. -/
def onlyP (F : List Int → Bool) (ps : List (List Int × Int)) : List (List Int × Int) := ps.filter fun x => F x.1
theorem only_cons (F : List Int → Bool) (x : List Int × Int) (r : List (List Int × Int)) : onlyP F (x :: r) = if F x.1 = true then x :: onlyP F r else onlyP F r := by
  unfold onlyP
  rw [List.filter_cons]
theorem only_no {F : List Int → Bool} {s : List Int} {n : Int} (h : F s = false) : ∀ ps, onlyP F (insZ ps s n) = onlyP F ps
  | [] => by simp [insZ, onlyP, h]
  | x :: r => by
    rw [insZ]
    split
    · rw [only_cons, only_cons, only_no h r]
    · split
      · rename_i e
        rw [only_cons, only_cons, e, h]; simp
      · rw [only_cons, h]; simp
theorem insZ_front {s : List Int} {n : Int} : ∀ {ps : List (List Int × Int)}, (∀ y ∈ ps, lexLt s y.1 = true) → insZ ps s n = (s, n) :: ps
  | [], _ => rfl
  | x :: r, h => by
    have h1 := h x List.mem_cons_self
    rw [insZ, if_neg (by rw [lex_asymm h1]; simp), if_neg (fun e => lex_ne h1 e.symm)]
theorem only_mem {F : List Int → Bool} {ps : List (List Int × Int)} {y : List Int × Int} (h : y ∈ onlyP F ps) : y ∈ ps := (List.mem_filter.1 h).1
theorem only_yes {F : List Int → Bool} {s : List Int} {n : Int} (h : F s = true) : ∀ {ps : List (List Int × Int)}, Srt ps → onlyP F (insZ ps s n) = insZ (onlyP F ps) s n
  | [], _ => by simp [insZ, onlyP, h]
  | x :: r, hs => by
    obtain ⟨hr, hx⟩ := srt_cons hs
    have ih := only_yes (n := n) h hr
    rw [insZ]
    by_cases h1 : lexLt x.1 s = true
    · rw [if_pos h1, only_cons, only_cons, ih]
      split
      · rw [insZ, if_pos h1]
      · rfl
    · rw [if_neg h1]
      by_cases h3 : x.1 = s
      · rw [if_pos h3, only_cons, only_cons, if_pos h, h3, if_pos h, insZ, if_neg (by rw [h3, lex_irr]; simp), if_pos h3]
      · rw [if_neg h3, only_cons, if_pos h]
        have hsx : lexLt s x.1 = true := lex_total (by simpa using h1) h3
        rw [insZ_front]
        intro y hy
        rcases List.mem_cons.1 (only_mem hy) with rfl | h4
        · exact hsx
        · exact lex_trans hsx (hx y h4)
theorem only_fold {n : Nat} {f : PZ → Int} {F : List Int → Bool} : ∀ (l : List PZ) {s : List (List Int × Int)}, Srt s →
    onlyP F (l.foldl (proS n f) s) = (l.filter fun p => F (shapeStr (sideB n p.2.2 n))).foldl (proS n f) (onlyP F s)
  | [], s, _ => rfl
  | p :: l, s, hs => by
    rw [List.foldl_cons, only_fold l (s := proS n f s p) (insZ_srt hs), List.filter_cons, proS]
    split
    · rename_i h
      rw [List.foldl_cons, only_yes h hs]; rfl
    · rename_i h
      rw [only_no (by simpa using h)]
theorem fold_same {n : Nat} {f g : PZ → Int} : ∀ (l : List PZ) (s : List (List Int × Int)), (∀ p ∈ l, f p = g p) → l.foldl (proS n f) s = l.foldl (proS n g) s
  | [], _, _ => rfl
  | p :: l, s, h => by
    rw [List.foldl_cons, List.foldl_cons, fold_same l _ fun q hq => h q (List.mem_cons_of_mem _ hq)]
    unfold proS
    rw [h p List.mem_cons_self]
theorem fold_pos {n : Nat} : ∀ (l : List PZ) (s : List (List Int × Int)), (∀ x ∈ s, 0 < x.2) → ∀ x ∈ l.foldl (proS n fun _ => 1) s, 0 < x.2
  | [], _, h => h
  | p :: l, s, h => fold_pos l _ (proS_pos h)
theorem nz_of {ps : List (List Int × Int)} (h : ∀ x ∈ ps, 0 < x.2) : nz ps = ps := List.filter_eq_self.2 fun x hx => by
  have := h x hx
  simp; omega
theorem nz_only {F : List Int → Bool} {ps : List (List Int × Int)} : onlyP F (nz ps) = nz (onlyP F ps) := by
  unfold onlyP nz
  rw [List.filter_filter, List.filter_filter]
  congr 1
  funext x
  exact Bool.and_comm _ _
theorem wRow_one {n : Nat} {B Y : List Int} {r : Nat} {x : Int} (h : ∀ k, nth B k ≠ 3) : ∀ m, wRow n B Y r m x = x
  | 0 => rfl
  | m + 1 => by rw [wRow, wStep_no rfl (h _), wRow_one h m]
theorem wAll_one {n : Nat} {B Y : List Int} (h : ∀ k, nth B k ≠ 3) : ∀ m, wAll n B Y m = 1
  | 0 => rfl
  | m + 1 => by rw [wAll, wRow_one h, wAll_one h m]
theorem chkW_at {a b : List Int} (h : alikeB a b = true) (h5 : a.length ≤ 5) : chkW1 a.length a b = true := by
  obtain ⟨h1, h2, h3, -⟩ := alike_str h
  have h4 := chkW_small
  rw [List.all_eq_true] at h4
  have h6 := h4 a.length (by rw [List.mem_range]; omega)
  unfold chkWA at h6
  rw [List.all_eq_true] at h6
  have h7 := h6 a (str_strs h1)
  rw [List.all_eq_true] at h7
  have h8 := h7 b (by rw [h3]; exact str_strs h2)
  rwa [if_pos h] at h8
/-- Does the size add? -/
def addsB (a b : List Int) (s : List Int) : Bool := decide (sumL s = sumL (shapeStr a) + sumL (shapeStr b))
theorem plain_wp {a b Y : List Int} (h : wpOk a b Y = true) : onlyP (addsB a b) (wpB a b Y) = ppB a b := by
  have hw := h
  unfold wpOk at hw
  rw [Bool.and_eq_true] at hw
  obtain ⟨hal, hsh⟩ := hw
  have h5 := (shB_in hsh).1
  have hc := chkW_at hal h5
  unfold chkW1 at hc
  rw [Bool.and_eq_true] at hc
  have e1 : (spAll true a b).filter (adds a.length a b) = spAll false a b := of_decide_eq_true hc.1
  have e2 := hc.2
  rw [List.all_eq_true] at e2
  rw [wpB, if_pos h, nz_only, only_fold _ (by intro i j _ hj; simp at hj)]
  have e3 : (spAll true a b).filter (fun p => addsB a b (shapeStr (sideB a.length p.2.2 a.length))) = spAll false a b := e1
  rw [e3, ppB, if_pos hal]
  have e4 : onlyP (addsB a b) [] = [] := rfl
  rw [e4, fold_same (g := fun _ => 1), nz_of (fold_pos _ _ (by simp))]
  intro p hp
  have hok : okP a.length p := tl_okP (wt := false) hal p (by rw [tlAll_eq (alike_str hal).1]; exact hp)
  rw [wtF_ok hok, wtP, wAll_one]
  intro k hk
  have h6 := e2 p hp
  rw [List.all_eq_true] at h6
  by_cases hlt : k < p.2.2.length
  · have h7 := h6 _ (List.getElem_mem hlt)
    rw [decide_eq_true_eq] at h7
    rw [nth_lt hlt] at hk
    exact h7 hk
  · rw [nth_ge (by omega)] at hk
    cases hk
theorem strR_small (l : List Int) : ∀ k, ∀ x ∈ strR l k, 0 ≤ x ∧ x ≤ k
  | 0 => by simp [strR]
  | k + 1 => fun x hx => by
    unfold strR at hx
    split at hx
    · have := strR_small l k x hx; omega
    · rcases List.mem_cons.1 hx with h | h
      · have := strZ_le l k; omega
      · have := strR_small l k x h; omega
theorem shapeStr_small (l : List Int) : Small (shapeStr l) := fun j hj => by
  have hx : nth (shapeStr l) j ∈ shapeStr l := by rw [nth_lt hj]; exact List.getElem_mem _
  unfold shapeStr at hx hj ⊢
  split at hx
  · rename_i h
    rw [if_pos h] at hj ⊢
    have h1 := strR_small l l.length _ (List.mem_of_mem_take hx)
    have h2 := (isStrB_iff.1 h).1.2
    omega
  · cases hx
theorem key_small {n : Nat} {f : PZ → Int} : ∀ (l : List PZ) (s : List (List Int × Int)), (∀ x ∈ s, Small x.1) → ∀ x ∈ l.foldl (proS n f) s, Small x.1
  | [], _, h => h
  | p :: l, s, h => key_small l _ fun x hx => by
    rcases insZ_mem hx with h1 | ⟨h1, -⟩
    · exact h x h1
    · rw [h1]; exact shapeStr_small _
theorem wpB_keys {a b Y : List Int} : ∀ x ∈ wpB a b Y, Small x.1 := fun x hx => by
  unfold wpB at hx
  split at hx
  · exact key_small _ _ (by simp) x (nz_mem hx)
  · cases hx
/-- Sums of machine numbers. -/
theorem wrap_more (a b : Int) : IntKind.i64.wrap (IntKind.i64.wrap a + b) = IntKind.i64.wrap (a + b) := by
  simp only [IntKind.wrap_i64]; omega
theorem wrap_less (a b : Int) : IntKind.i64.wrap (IntKind.i64.wrap a - b) = IntKind.i64.wrap (a - b) := by
  simp only [IntKind.wrap_i64]; omega
theorem sumC_take {ps : List (List Int × Int)} {k : Nat} (h : k < ps.length) : sumC (ps.take (k + 1)) = sumC (ps.take k) + (nthP ps k).2 := by
  rw [List.take_succ_eq_append_getElem h, sumC_app, nthP_lt h]; simp [sumC]
theorem sumF_take {f : PZ → Int} {l : List PZ} {k : Nat} (h : k < l.length) : sumF f (l.take (k + 1)) = sumF f (l.take k) + f (l[k]) := by
  rw [List.take_succ_eq_append_getElem h, sumF_app]; simp [sumF]
theorem only_take {F : List Int → Bool} {ps : List (List Int × Int)} {k : Nat} (h : k < ps.length) : onlyP F (ps.take (k + 1)) = if F (nthP ps k).1 = true then onlyP F (ps.take k) ++ [nthP ps k] else onlyP F (ps.take k) := by
  rw [List.take_succ_eq_append_getElem h, nthP_lt h]
  unfold onlyP
  rw [List.filter_append, List.filter_cons]
  split
  · rfl
  · simp
end Go.Proofs.Ytnljlophgolejaa
