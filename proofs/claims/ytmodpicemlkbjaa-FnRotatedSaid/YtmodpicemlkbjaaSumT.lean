/- Counts among parts as sums; intersection numbers of two and three shapes. No program is in sight here. -/
import Derived.Test.YtmodpicemlkbjaaInterP
import Derived.Test.YtmodpicemlkbjaaCnt
import Derived.Test.YtmodpicemlkbjaaInterW
namespace Go.Proofs.Ytmodpicemlkbjaa

/-- How many times a shape stands among parts, all of them. -/
def sumT (t : List Int) : List (List Int × Int) → Int
  | [] => 0
  | x :: r => (if x.1 = t then x.2 else 0) + sumT t r
theorem sumT_append (t : List Int) : ∀ a b : List (List Int × Int), sumT t (a ++ b) = sumT t a + sumT t b
  | [], b => by simp [sumT]
  | x :: a, b => by rw [List.cons_append, sumT, sumT, sumT_append t a b]; omega
theorem sumT_none {t : List Int} : ∀ {ps : List (List Int × Int)}, (∀ x ∈ ps, x.1 ≠ t) → sumT t ps = 0
  | [], _ => rfl
  | x :: r, h => by
    rw [sumT, if_neg (h x List.mem_cons_self), sumT_none fun y hy => h y (List.mem_cons_of_mem _ hy)]
    rfl
theorem sumT_split (t : List Int) (ps : List (List Int × Int)) (p : Nat) : sumT t ps = sumT t (ps.take p) + sumT t (ps.drop p) := by rw [← sumT_append, List.take_append_drop]
theorem cntP_sumT {t : List Int} : ∀ {ps : List (List Int × Int)}, Srt ps → cntP ps t = sumT t ps
  | [], _ => rfl
  | x :: r, h => by
    have e : ∀ j, nthP (x :: r) (j + 1) = nthP r j := fun j => by simp [nthP, List.getD]
    have hr : Srt r := fun i j hij hj => by
      have := h (i + 1) (j + 1) (by omega) (by simpa using hj)
      rwa [e, e] at this
    rw [cntP, sumT]
    by_cases hx : x.1 = t
    · rw [if_pos hx, if_pos hx, sumT_none fun y hy hyt => ?_]
      · omega
      · obtain ⟨j, hj, ej⟩ := List.getElem_of_mem hy
        have h1 := h 0 (j + 1) (by omega) (by simpa using hj)
        rw [e, nthP_lt hj, ej, hyt] at h1
        have h2 : (nthP (x :: r) 0).1 = t := hx
        rw [h2, lex_irr] at h1
        cases h1
    · rw [if_neg hx, if_neg hx, cntP_sumT hr]; omega
theorem sumT_add {ps : List (List Int × Int)} {s t : List Int} {n : Int} (hs : Srt ps) (hpos : ∀ x ∈ ps, 1 ≤ x.2) (hn : 1 ≤ n) : sumT t (addP ps s n) = sumT t ps + if s = t then n else 0 := by
  obtain ⟨p, hp⟩ := place_of ps hs s
  by_cases hf : p < ps.length ∧ (nthP ps p).1 = s
  · have hc := hpos _ (nthP_mem hf.1)
    rw [addP_found (by omega) hp.lo hf.1 hf.2 (by omega), sumT_append, sumT_append, sumT_split t ps p, nthP_cons_take hf.1]
    simp only [sumT, hf.2]
    split <;> omega
  · have hf2 : p < ps.length → (nthP ps p).1 ≠ s := fun h1 h2 => hf ⟨h1, h2⟩
    rw [addP_new (by omega) hp hf2, sumT_append, sumT_append, sumT_split t ps p]
    simp only [sumT]
    omega
theorem sumT_addG {c : Int} (hc : 1 ≤ c) {t : List Int} : ∀ (l : List (List Int × Int)) {acc : List (List Int × Int)} {T : Int}, Wt acc T → (∀ x ∈ l, 1 ≤ x.2 ∧ x.1.length ≤ 16) → sumT t (addG c acc l) = sumT t acc + c * sumT t l
  | [], acc, T, h, _ => by simp [addG, sumT]
  | x :: l, acc, T, h, hl => by
    obtain ⟨h1, h2⟩ := hl x List.mem_cons_self
    have hcx : 1 ≤ c * x.2 := by have := Int.mul_le_mul hc h1 (by omega) (by omega); omega
    have h3 := sumT_addG hc (t := t) l (h.add h2 hcx) fun y hy => hl y (List.mem_cons_of_mem _ hy)
    have e : addG c acc (x :: l) = addG c (addP acc x.1 (c * x.2)) l := rfl
    rw [e, h3, sumT_add h.srt h.pos hcx, sumT, Int.mul_add]
    split <;> omega
/-- The sum of f over parts, each as often as it counts. -/
def dot (f : List Int → Int) : List (List Int × Int) → Int
  | [] => 0
  | p :: r => p.2 * f p.1 + dot f r
theorem dot_congr {f g : List Int → Int} : ∀ {ps : List (List Int × Int)}, (∀ x ∈ ps, f x.1 = g x.1) → dot f ps = dot g ps
  | [], _ => rfl
  | p :: r, h => by rw [dot, dot, h p List.mem_cons_self, dot_congr fun y hy => h y (List.mem_cons_of_mem _ hy)]
theorem dot_one (t : List Int) : ∀ ps : List (List Int × Int), dot (fun s => if s = t then 1 else 0) ps = sumT t ps
  | [] => rfl
  | p :: r => by
    rw [dot, sumT, dot_one t r]
    split <;> simp_all
theorem sumT_steps {k n : Int} {s t : List Int} : ∀ (now : List (List Int × Int)) {acc : List (List Int × Int)} {T : Int}, Wt acc T → (∀ x ∈ now, 1 ≤ x.2) →
    sumT t (now.foldl (fun a p => Go.Proofs.Ytmodpicemlkbjaa.addG p.2 a (grB p.1 s k n)) acc) = sumT t acc + dot (fun p => sumT t (grB p s k n)) now
  | [], acc, T, h, _ => by simp [dot]
  | p :: now, acc, T, h, hp => by
    have h1 := hp p List.mem_cons_self
    have hg := grB_wt p.1 s k n
    have hx : ∀ x ∈ grB p.1 s k n, 1 ≤ x.2 ∧ x.1.length ≤ 16 := fun x hx => ⟨hg.pos x hx, hg.short x hx⟩
    have h2 := Wt.addG h1 (grB p.1 s k n) h hx
    have h3 := sumT_steps (k := k) (n := n) (s := s) (t := t) now h2 fun x hx => hp x (List.mem_cons_of_mem _ hx)
    rw [List.foldl_cons, h3, sumT_addG h1 _ h hx, dot]
    omega
theorem sumT_step {k n : Int} {s t : List Int} {now : List (List Int × Int)} (hp : ∀ x ∈ now, 1 ≤ x.2) : sumT t (stepN k n s now) = dot (fun p => sumT t (grB p s k n)) now := by
  have := sumT_steps (k := k) (n := n) (s := s) (t := t) now Wt.nil_ hp
  rw [stepN, this]
  simp [sumT]
end Go.Proofs.Ytmodpicemlkbjaa
