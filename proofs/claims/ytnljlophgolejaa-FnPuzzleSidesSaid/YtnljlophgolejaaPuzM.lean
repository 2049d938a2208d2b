/- Marks of puzzles; SidesOf of both sides. -/
import Derived.Test.YtnljlophgolejaaSides
namespace Go.Proofs.Ytnljlophgolejaa
open Go.RowKit

theorem BK.grownK {w w' : World} {g : Nat} {T : TypeId} {cs : List Value} {row : Option Nat} (hb : BK w g T cs) (hg : w.grownBy w' row) (hne : row = none ∨ row ≠ some g) : BK w' g T cs :=
  (hg.block g hb.lt (by rcases hne with e | e <;> first | (rw [e]; simp) | exact Ne.symm e)).trans hb
section
variable {w w' : World} {base : Nat} {v1 v2 v3 : Value} {a b c a' : List Int} {row : Option Nat}
theorem Three.below (h : Three w base v1 v2 v3 a b c) (hb : Below w.heap.size w w') : Three w' base v1 v2 v3 a b c := ⟨h.1.below hb, h.2.1.below hb, h.2.2.1.below hb, h.2.2.2⟩
theorem Three.kept (h : Three w base v1 v2 v3 a b c) (hg : w.grownBy w' row) (k : (v1.ownBlock = none ∨ v1.ownBlock ≠ row) ∧ (v2.ownBlock = none ∨ v2.ownBlock ≠ row) ∧ (v3.ownBlock = none ∨ v3.ownBlock ≠ row)) : Three w' base v1 v2 v3 a b c :=
  ⟨h.1.kept hg k.1, h.2.1.kept hg k.2.1, h.2.2.1.kept hg k.2.2, h.2.2.2⟩
theorem Three.mark1 (h : Three w base v1 v2 v3 a b c) (hg : w.grownBy w' v1.ownBlock) (ho : OI w' base v1 a') : Three w' base v1 v2 v3 a' b c :=
  ⟨ho, h.2.1.kept hg (flip_apart h.2.2.2.1), h.2.2.1.kept hg (flip_apart h.2.2.2.2.1), h.2.2.2⟩
theorem Three.mark2 (h : Three w base v1 v2 v3 a b c) (hg : w.grownBy w' v2.ownBlock) (ho : OI w' base v2 a') : Three w' base v1 v2 v3 a a' c :=
  ⟨h.1.kept hg h.2.2.2.1, ho, h.2.2.1.kept hg (flip_apart h.2.2.2.2.2), h.2.2.2⟩
theorem Three.mark3 (h : Three w base v1 v2 v3 a b c) (hg : w.grownBy w' v3.ownBlock) (ho : OI w' base v3 a') : Three w' base v1 v2 v3 a b a' :=
  ⟨h.1.kept hg h.2.2.2.2.1, h.2.1.kept hg h.2.2.2.2.2, ho, h.2.2.2⟩
end

/-- The sides that SidesOf returns. -/
def sdL (S : Int) (L R B : List Int) : List Int := if puzB S L R B true = true then sideL S.toNat L S.toNat else []
def sdR (S : Int) (L R B : List Int) : List Int := if puzB S L R B true = true then sideR R S.toNat else []
def sdB (S : Int) (L R B : List Int) : List Int := if puzB S L R B true = true then sideB S.toNat B S.toNat else []
theorem puzB_size {S : Int} {L R B : List Int} {wt : Bool} (h : puzB S L R B wt = true) : 1 ≤ S ∧ S ≤ 7 := by
  unfold puzB at h
  rw [Bool.and_eq_true] at h
  exact inB_iff.1 (sizesB_iff.1 h.1).1
theorem sdL_len (S : Int) (L R B : List Int) : (sdL S L R B).length ≤ 7 := by
  unfold sdL
  split
  · next h => have := puzB_size h; rw [sideL, gen_len]; omega
  · simp
theorem sdR_len (S : Int) (L R B : List Int) : (sdR S L R B).length ≤ 7 := by
  unfold sdR
  split
  · next h => have := puzB_size h; rw [sideR, gen_len]; omega
  · simp
theorem sdB_len (S : Int) (L R B : List Int) : (sdB S L R B).length ≤ 7 := by
  unfold sdB
  split
  · next h => have := puzB_size h; rw [sideB, gen_len]; omega
  · simp
theorem Three.nils (w : World) (base : Nat) : Three w base (.slice none 0 0) (.slice none 0 0) (.slice none 0 0) [] [] [] :=
  ⟨OI.nil_ _ _, OI.nil_ _ _, OI.nil_ _ _, .inl rfl, .inl rfl, .inl rfl⟩
section
variable {A1 A2 A3 : Option Addr} {n1 n2 n3 : Nat} {L R B : List Int} {w : World} (c1 c2 c3 : Nat) (S : Int) (h1 : RI w A1 n1 L) (h2 : RI w A2 n2 R) (h3 : RI w A3 n3 B)
    (m1 : n1 ≤ 1000000000) (m2 : n2 ≤ 1000000000) (m3 : n3 ≤ 1000000000)
include h1 h2 h3 m1 m2 m3
theorem iSides_any : Calls Try.prog 40 #[.agg #[.int .i64 S, .slice A1 n1 c1, .slice A2 n2 c2, .slice A3 n3 c3]] w (MakesT w (sdL S L R B) (sdR S L R B) (sdB S L R B) (puzB S L R B true)) := by
  rcases hp : puzB S L R B true with _ | _
  · have HF : Hid (sdL S L R B = [] ∧ sdR S L R B = [] ∧ sdB S L R B = []) := by
      show _ ∧ _ ∧ _
      simp [sdL, sdR, sdB, hp]
    go_enter Try.func40, Try.ntmps40
    go_wp2_with fail
    refine (iWeightedOk_any _ _ _ S (h1.alloc _) (h2.alloc _) (h3.alloc _) m1 m2 m3).mono ?_
    rintro e w1 ⟨rfl, b1⟩
    rw [hp]
    have g1 := bnext ((Below.refl w.heap.size w).alloc (Nat.le_refl _) _) b1 (by simp)
    go_wp2
    refine bodyPost_ret (v := .tuple #[.slice none 0 0, .slice none 0 0, .slice none 0 0, .bool false]) (by simp [results, Try.results40, go_sem]; try rfl) rfl ?_
    rw [HF.out.1, HF.out.2.1, HF.out.2.2]
    exact ⟨none, 0, 0, none, 0, 0, none, 0, 0, rfl, Three.nils _ _, g1⟩
  · obtain ⟨s1, s2⟩ := puzB_size hp
    obtain ⟨n, rfl⟩ := Int.eq_ofNat_of_zero_le (a := S) (by omega)
    rw [sdL, sdR, sdB, if_pos hp, if_pos hp, if_pos hp, Int.toNat_natCast]
    exact iSides_yes c1 c2 c3 n h1 h2 h3 m1 m2 m3 hp
end
end Go.Proofs.Ytnljlophgolejaa

/- Puzzles turned: lists that are written over. -/
namespace Go.Proofs.Ytnljlophgolejaa
open Go.RowKit

def tRow (T : Nat → Nat → Nat) (g : Int → Int) (src : List Int) (r : Nat) : Nat → List Int → List Int
  | 0, l => l
  | k + 1, l => (tRow T g src r k l).set (T r k) (g (nth src (tri r + k)))
def tAll (T : Nat → Nat → Nat) (g : Int → Int) (src : List Int) : Nat → List Int → List Int
  | 0, l => l
  | r + 1, l => tRow T g src r (r + 1) (tAll T g src r l)
theorem tRow_len {T : Nat → Nat → Nat} {g : Int → Int} {src : List Int} {r : Nat} (k : Nat) (l : List Int) : (tRow T g src r k l).length = l.length := by
  induction k with
  | zero => rfl
  | succ k ih => rw [tRow, List.length_set, ih]
theorem tAll_len {T : Nat → Nat → Nat} {g : Int → Int} {src : List Int} (r : Nat) (l : List Int) : (tAll T g src r l).length = l.length := by
  induction r with
  | zero => rfl
  | succ r ih => rw [tAll, tRow_len, ih]
theorem tRow_agree {T : Nat → Nat → Nat} {g : Int → Int} {src : List Int} {r j : Nat} {l l' : List Int} (hl : l.length = l'.length) (hj : j < l.length) (k : Nat) (h : nth l j = nth l' j ∨ ∃ i, i < k ∧ T r i = j) :
    nth (tRow T g src r k l) j = nth (tRow T g src r k l') j := by
  induction k with
  | zero =>
    rcases h with h | ⟨i, hi, _⟩
    · exact h
    · omega
  | succ k ih =>
    rw [tRow, tRow]
    by_cases e : T r k = j
    · subst e
      rw [nth_set_eq (by rw [tRow_len]; exact hj), nth_set_eq (by rw [tRow_len, ← hl]; exact hj)]
    · rw [nth_set_ne e, nth_set_ne e]
      refine ih ?_
      rcases h with h | ⟨i, hi, he⟩
      · exact .inl h
      · refine .inr ⟨i, ?_, he⟩
        have : i ≠ k := fun h => e (h ▸ he)
        omega
theorem tAll_agree {T : Nat → Nat → Nat} {g : Int → Int} {src : List Int} {j : Nat} {l l' : List Int} (hl : l.length = l'.length) (hj : j < l.length) (n : Nat) (h : nth l j = nth l' j ∨ ∃ r, r < n ∧ ∃ i, i < r + 1 ∧ T r i = j) :
    nth (tAll T g src n l) j = nth (tAll T g src n l') j := by
  induction n with
  | zero =>
    rcases h with h | ⟨i, hi, _⟩
    · exact h
    · omega
  | succ n ih =>
    rw [tAll, tAll]
    refine tRow_agree (by rw [tAll_len, tAll_len, hl]) (by rw [tAll_len]; exact hj) _ ?_
    rcases h with h | ⟨r, hr, i, hi, he⟩
    · exact .inl (ih (.inl h))
    · by_cases e : r = n
      · subst e; exact .inr ⟨i, hi, he⟩
      · exact .inl (ih (.inr ⟨r, by omega, i, hi, he⟩))
theorem tAll_same {T : Nat → Nat → Nat} {g : Int → Int} {src : List Int} {l l' : List Int} {n m : Nat} (hl : l.length = m) (hl' : l'.length = m) (hc : ∀ j, j < m → ∃ r, r < n ∧ ∃ i, i < r + 1 ∧ T r i = j) : tAll T g src n l = tAll T g src n l' :=
  agree_all (by rw [tAll_len, hl]) (by rw [tAll_len, hl']) fun j hj => tAll_agree (hl.trans hl'.symm) (by omega) n (.inr (hc j hj))

def rotT (n r k : Nat) : Nat := tri (k + n - 1 - r) + (n - 1 - r)
def mirT (r k : Nat) : Nat := tri r + (r - k)
theorem rotT_all : ∀ n, n < 8 → ∀ j, j < tri n → ∃ r, r < n ∧ ∃ i, i < r + 1 ∧ rotT n r i = j := by decide +kernel
theorem mirT_all : ∀ n, n < 8 → ∀ j, j < tri n → ∃ r, r < n ∧ ∃ i, i < r + 1 ∧ mirT r i = j := by decide +kernel
theorem rotT_lt {n r k : Nat} (h : r < n) (hk : k ≤ r) : rotT n r k < tri n := tri_lt (by omega) (by omega)
theorem mirT_lt {n r k : Nat} (h : r < n) (hk : k ≤ r) : mirT r k < tri n := tri_lt h (by omega)
def flipB (x : Int) : Int := if x < 2 then 1 - x else x
end Go.Proofs.Ytnljlophgolejaa
