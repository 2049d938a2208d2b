/- Operators of Demazure on polynomials, in plain words: they are idempotent, those that stand apart commute, and neighbours satisfy the braid relation. -/
import Derived.Test.YtgbojgmmingfdaaKeyP
namespace Go.Proofs.Ytgbojgmmingfdaa

/-- The sum of a function over a polynomial. -/
def smP (φ : List Int → Int) (f : List (List Int × Int)) : Int := (f.map fun x => x.2 * φ x.1).sum
theorem smP_nil (φ : List Int → Int) : smP φ [] = 0 := rfl
theorem smP_cons (φ : List Int → Int) (x : List Int × Int) (f : List (List Int × Int)) : smP φ (x :: f) = x.2 * φ x.1 + smP φ f := by simp [smP]
theorem smP_app (φ : List Int → Int) (f g : List (List Int × Int)) : smP φ (f ++ g) = smP φ f + smP φ g := by simp [smP, List.sum_append]
def Alk (f g : List (List Int × Int)) : Prop := ∀ φ, smP φ f = smP φ g
theorem Alk.refl (f : List (List Int × Int)) : Alk f f := fun _ => rfl
theorem Alk.symm {f g : List (List Int × Int)} (h : Alk f g) : Alk g f := fun φ => (h φ).symm
theorem Alk.trans {f g k : List (List Int × Int)} (h : Alk f g) (h2 : Alk g k) : Alk f k := fun φ => (h φ).trans (h2 φ)
/-- What the operator leaves of a monomial. -/
def dE (i : Nat) (e : List Int) : List (List Int × Int) := dvT i (upE i e, 1)
def opT (i : Nat) (φ : List Int → Int) (e : List Int) : Int := smP φ (dE i e)
def demT (i : Nat) (f : List (List Int × Int)) : List (List Int × Int) := divL i (raL i f)
theorem dvs_scale (i : Nat) (e : List Int) (c : Int) (m : Nat) (φ : List Int → Int) : smP φ (dvs i (e, c) m) = c * smP φ (dvs i (e, 1) m) := by
  induction m with
  | zero => simp [dvs, smP]
  | succ m ih =>
    rw [dvs_succ, dvs_succ, smP_app, smP_app, ih, smP_cons, smP_cons, smP_nil, Int.mul_add]
    simp only
    have : dC e i c = c * dC e i 1 := by unfold dC; split <;> omega
    rw [this, Int.mul_assoc]
    congr 1
    generalize dC e i 1 * φ (swE e i (dLo e i + ↑m) (dHi e i - 1 - ↑m)) = z
    rw [Int.add_zero, Int.add_zero]
theorem smP_dem (i : Nat) (φ : List Int → Int) (f : List (List Int × Int)) : smP φ (demT i f) = smP (opT i φ) f := by
  induction f with
  | nil => rfl
  | cons x f ih =>
    have e : demT i (x :: f) = dvT i (upE i x.1, x.2) ++ demT i f := rfl
    rw [e, smP_app, smP_cons, ih]
    congr 1
    exact dvs_scale i (upE i x.1) x.2 _ φ
theorem Alk.dem {i : Nat} {f g : List (List Int × Int)} (h : Alk f g) : Alk (demT i f) (demT i g) := fun φ => by rw [smP_dem, smP_dem, h]
/-- All exponents from 0 to 4, seven of them. -/
def Gd (e : List Int) : Prop := e.length = 7 ∧ ∀ j, 0 ≤ nth e j ∧ nth e j ≤ 4
theorem smP_congr {φ ψ : List Int → Int} {f : List (List Int × Int)} (hf : ∀ x ∈ f, Gd x.1) (h : ∀ e, Gd e → φ e = ψ e) : smP φ f = smP ψ f := by
  induction f with
  | nil => rfl
  | cons x f ih => rw [smP_cons, smP_cons, ih fun y hy => hf y (List.mem_cons_of_mem _ hy), h x.1 (hf x (by simp))]
theorem dE_good {i : Nat} {e : List Int} (hi : i < 6) (h : Gd e) : ∀ y ∈ dE i e, Gd y.1 := fun y hy => by
  refine ⟨?_, dvT_up hi h y hy⟩
  obtain ⟨k, hk, rfl⟩ := List.mem_map.1 hy
  rw [swE_len, upE_len]; exact h.1
theorem dem_good {i : Nat} {f : List (List Int × Int)} (hi : i < 6) (h : ∀ x ∈ f, Gd x.1) : ∀ x ∈ demT i f, Gd x.1 := fun x hx => by
  obtain ⟨y, hy, hx⟩ := List.mem_flatMap.1 hx
  obtain ⟨z, hz, rfl⟩ := List.mem_map.1 hy
  have h1 := dvT_up hi (h z hz) x hx
  refine ⟨?_, h1⟩
  obtain ⟨k, hk, rfl⟩ := List.mem_map.1 hx
  rw [swE_len, upE_len]; exact (h z hz).1
/-! ### the terms of one monomial, by its two exponents -/
/-- The two exponents that are left, and the coefficient. -/
def loc (a b : Int) : List (Int × Int × Int) := (List.range (max (a + 1) b - min (a + 1) b).toNat).map fun k : Nat => (max (a + 1) b - 1 - k, min (a + 1) b + k, if a + 1 < b then -1 else 1)
theorem dE_loc {i : Nat} {e : List Int} (hi : i + 1 < e.length) : dE i e = (loc (nth e i) (nth e (i + 1))).map fun t => (swE e i t.2.1 t.1, t.2.2) := by
  unfold dE dvT dvs loc
  have u0 : nth (upE i e) i = nth e i + 1 := upE_at (by omega)
  have u1 : nth (upE i e) (i + 1) = nth e (i + 1) := upE_ne (by omega)
  unfold dLo dHi dC
  simp only [u0, u1]
  rw [List.map_map]
  refine List.map_congr_left fun k _ => ?_
  simp only [Function.comp]
  congr 1
  unfold swE upE
  rw [List.set_comm _ _ (by omega), List.set_set]
  rw [List.set_comm _ _ (by omega)]
end Go.Proofs.Ytgbojgmmingfdaa

/- The braid relation at three exponents, by the kernel. -/
namespace Go.Proofs.Ytgbojgmmingfdaa

theorem smK_ins (ψ : Int → Int) (k c : Int) : ∀ l : List (Int × Int), ((insK k c l).map fun x => x.2 * ψ x.1).sum = c * ψ k + (l.map fun x => x.2 * ψ x.1).sum
  | [] => by
    unfold insK
    split
    · rename_i h; rw [h]; simp
    · simp
  | y :: l => by
    have ih := smK_ins ψ k c l
    unfold insK
    split
    · simp only [List.map_cons, List.sum_cons]; rw [ih]; omega
    · split
      · rename_i h1
        split
        · rename_i h2
          simp only [List.map_cons, List.sum_cons]
          have e : c * ψ k + y.2 * ψ y.1 = 0 := by rw [h1, ← Int.add_mul, Int.add_comm c, h2, Int.zero_mul]
          omega
        · simp only [List.map_cons, List.sum_cons]
          rw [Int.add_mul, h1]; omega
      · split
        · rename_i h2; rw [h2]; simp
        · simp only [List.map_cons, List.sum_cons]
theorem smK_gather (ψ : Int → Int) : ∀ l : List (Int × Int), ((gatherK l).map fun x => x.2 * ψ x.1).sum = (l.map fun x => x.2 * ψ x.1).sum
  | [] => rfl
  | x :: l => by
    have e : gatherK (x :: l) = insK x.1 x.2 (gatherK l) := rfl
    rw [e, smK_ins, smK_gather ψ l]
    simp
abbrev M3 := List ((Int × Int × Int) × Int)
def smM (ψ : Int × Int × Int → Int) (l : M3) : Int := (l.map fun x => x.2 * ψ x.1).sum
theorem smM_cons (ψ : Int × Int × Int → Int) (x : (Int × Int × Int) × Int) (l : M3) : smM ψ (x :: l) = x.2 * ψ x.1 + smM ψ l := by simp [smM]
theorem smM_app (ψ : Int × Int × Int → Int) (a b : M3) : smM ψ (a ++ b) = smM ψ a + smM ψ b := by simp [smM, List.sum_append]
def t0 (x : Int × Int × Int) : M3 := (loc x.1 x.2.1).map fun t => ((t.1, t.2.1, x.2.2), t.2.2)
def t1 (x : Int × Int × Int) : M3 := (loc x.2.1 x.2.2).map fun t => ((x.1, t.1, t.2.1), t.2.2)
def bnd (f : Int × Int × Int → M3) (l : M3) : M3 := l.flatMap fun x => (f x.1).map fun y => (y.1, x.2 * y.2)
theorem smM_scale (ψ : Int × Int × Int → Int) (c : Int) (l : M3) : smM ψ (l.map fun y => (y.1, c * y.2)) = c * smM ψ l := by
  induction l with
  | nil => simp [smM]
  | cons x l ih => rw [List.map_cons, smM_cons, ih, smM_cons, Int.mul_add, Int.mul_assoc]
theorem smM_bnd (ψ : Int × Int × Int → Int) (f : Int × Int × Int → M3) (l : M3) : smM ψ (bnd f l) = smM (fun x => smM ψ (f x)) l := by
  induction l with
  | nil => rfl
  | cons x l ih =>
    have e : bnd f (x :: l) = (f x.1).map (fun y => (y.1, x.2 * y.2)) ++ bnd f l := rfl
    rw [e, smM_app, smM_scale, ih, smM_cons]
def enc3 (t : (Int × Int × Int) × Int) : Int × Int := (t.1.1 * 10000 + t.1.2.1 * 100 + t.1.2.2, t.2)
def in3 (t : (Int × Int × Int) × Int) : Bool := decide (0 ≤ t.1.1) && (decide (t.1.1 < 100) && (decide (0 ≤ t.1.2.1) && (decide (t.1.2.1 < 100) && (decide (0 ≤ t.1.2.2) && decide (t.1.2.2 < 100)))))
theorem smM_enc (ψ : Int × Int × Int → Int) {l : M3} (h : l.all in3 = true) : smM ψ l = ((l.map enc3).map fun x => x.2 * (fun k : Int => ψ (k / 10000, k / 100 % 100, k % 100)) x.1).sum := by
  induction l with
  | nil => rfl
  | cons x l ih =>
    rw [List.all_cons, Bool.and_eq_true] at h
    rw [smM_cons, ih h.2, List.map_cons, List.map_cons, List.sum_cons]
    congr 1
    obtain ⟨⟨a, b, c⟩, z⟩ := x
    have h1 := h.1
    simp only [in3, Bool.and_eq_true, decide_eq_true_eq] at h1
    simp only [enc3]
    rw [show (a * 10000 + b * 100 + c) / 10000 = a by omega, show (a * 10000 + b * 100 + c) / 100 % 100 = b by omega, show (a * 10000 + b * 100 + c) % 100 = c by omega]
def eqM (a b : M3) : Bool := a.all in3 && (b.all in3 && decide (gatherK (a.map enc3) = gatherK (b.map enc3)))
theorem eqM_sm {a b : M3} (h : eqM a b = true) (ψ : Int × Int × Int → Int) : smM ψ a = smM ψ b := by
  simp only [eqM, Bool.and_eq_true, decide_eq_true_eq] at h
  rw [smM_enc ψ h.1, smM_enc ψ h.2.1]
  have h1 := smK_gather (fun k : Int => ψ (k / 10000, k / 100 % 100, k % 100)) (a.map enc3)
  have h2 := smK_gather (fun k : Int => ψ (k / 10000, k / 100 % 100, k % 100)) (b.map enc3)
  rw [h.2.2] at h1
  exact h1.symm.trans h2
def fiveL : List Int := [0, 1, 2, 3, 4]
theorem braid_all : (fiveL.all fun a => fiveL.all fun b => fiveL.all fun c => eqM (bnd t0 (bnd t1 (t0 (a, b, c)))) (bnd t1 (bnd t0 (t1 (a, b, c))))) = true := by decide +kernel
theorem idem_all : (fiveL.all fun a => fiveL.all fun b => fiveL.all fun c => eqM (bnd t0 (t0 (a, b, c))) (t0 (a, b, c))) = true := by decide +kernel
theorem fiveL_mem {a : Int} (h : 0 ≤ a ∧ a ≤ 4) : a ∈ fiveL := by
  have : a = 0 ∨ a = 1 ∨ a = 2 ∨ a = 3 ∨ a = 4 := by omega
  rcases this with rfl | rfl | rfl | rfl | rfl <;> simp [fiveL]
theorem braid_at {a b c : Int} (ha : 0 ≤ a ∧ a ≤ 4) (hb : 0 ≤ b ∧ b ≤ 4) (hc : 0 ≤ c ∧ c ≤ 4) (ψ : Int × Int × Int → Int) :
    smM (fun x => smM (fun y => smM ψ (t0 y)) (t1 x)) (t0 (a, b, c)) = smM (fun x => smM (fun y => smM ψ (t1 y)) (t0 x)) (t1 (a, b, c)) := by
  have h := braid_all
  simp only [List.all_eq_true] at h
  have h1 := eqM_sm (h a (fiveL_mem ha) b (fiveL_mem hb) c (fiveL_mem hc)) ψ
  rw [smM_bnd, smM_bnd, smM_bnd, smM_bnd] at h1
  exact h1
theorem idem_at {a b c : Int} (ha : 0 ≤ a ∧ a ≤ 4) (hb : 0 ≤ b ∧ b ≤ 4) (hc : 0 ≤ c ∧ c ≤ 4) (ψ : Int × Int × Int → Int) :
    smM (fun x => smM ψ (t0 x)) (t0 (a, b, c)) = smM ψ (t0 (a, b, c)) := by
  have h := idem_all
  simp only [List.all_eq_true] at h
  have h1 := eqM_sm (h a (fiveL_mem ha) b (fiveL_mem hb) c (fiveL_mem hc)) ψ
  rw [smM_bnd] at h1
  exact h1
end Go.Proofs.Ytgbojgmmingfdaa
