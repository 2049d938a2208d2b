/- Reduced words, in plain words: the lists of all of them. -/
import Derived.Test.YtgbojgmmingfdaaRedP
namespace Go.Proofs.Ytgbojgmmingfdaa

theorem idx_lt {w : List Int} (hp : Prm w) {x : Int} (h : 0 ≤ x ∧ x < w.length) : w.idxOf x < w.length ∧ nth w (w.idxOf x) = x := by
  obtain ⟨j, hj, e⟩ := hp.sur x h.1 h.2
  have hm : x ∈ w := by rw [← e]; exact nth_mem hj
  have h1 : w.idxOf x < w.length := List.idxOf_lt_length_of_mem hm
  exact ⟨h1, by rw [nth_lt h1]; exact List.getElem_idxOf h1⟩
theorem idx_at {w : List Int} (hp : Prm w) {p : Nat} (h : p < w.length) : w.idxOf (nth w p) = p := by
  have h1 := idx_lt hp (hp.rng p h)
  exact hp.inj _ _ h1.1 h h1.2
/-- The inverse. -/
def invB (w : List Int) : List Int := gen (fun x => (w.idxOf (x : Int) : Int)) w.length
theorem invB_len (w : List Int) : (invB w).length = w.length := gen_len _ _
theorem nth_invB {w : List Int} {x : Nat} (h : x < w.length) : nth (invB w) x = (w.idxOf (x : Int) : Int) := nth_gen h
def ldB (w : List Int) (k : Nat) : Bool := decide (nth (invB w) (k + 1) < nth (invB w) k)
def rdB (w : List Int) (k : Nat) : Bool := decide (nth w (k + 1) < nth w k)
def ldsL (w : List Int) : List Nat := (List.range (w.length - 1)).filter (ldB w)
def rdsL (w : List Int) : List Nat := (List.range (w.length - 1)).filter (rdB w)
theorem ldB_iff {w : List Int} (hp : Prm w) {k : Nat} (hk : k + 1 < w.length) : ldB w k = true ↔ ldes w k := by
  rw [ldB, nth_invB hk, nth_invB (by omega), decide_eq_true_eq]
  have a := idx_lt hp (x := (k : Int)) (by omega)
  have b := idx_lt hp (x := ((k + 1 : Nat) : Int)) (by omega)
  constructor
  · intro h
    exact ⟨w.idxOf ((k + 1 : Nat) : Int), w.idxOf (k : Int), by omega, a.1, by rw [b.2]; omega, a.2⟩
  · rintro ⟨p, q, h1, h2, h3, h4⟩
    have e1 := idx_at hp (p := p) (by omega)
    have e2 := idx_at hp h2
    rw [h3] at e1
    rw [h4] at e2
    rw [show ((k + 1 : Nat) : Int) = (k : Int) + 1 by omega, e1, e2]
    omega
theorem mem_ldsL {w : List Int} (hp : Prm w) {k : Nat} : k ∈ ldsL w ↔ ldes w k := by
  rw [ldsL, List.mem_filter, List.mem_range]
  constructor
  · rintro ⟨h1, h2⟩
    exact (ldB_iff hp (by omega)).1 h2
  · intro h
    have := ldes_lt hp h
    exact ⟨by omega, (ldB_iff hp this).2 h⟩
theorem mem_rdsL {w : List Int} {k : Nat} : k ∈ rdsL w ↔ rdes w k := by
  rw [rdsL, List.mem_filter, List.mem_range, rdB, decide_eq_true_eq]
  unfold rdes
  omega
theorem invB_vsw {w : List Int} (hp : Prm w) {k : Nat} (hk : k + 1 < w.length) : invB (vsw k w) = swN k (invB w) := by
  have hv := hp.vsw hk
  refine ext_nth (by rw [swN_len, invB_len, invB_len, vsw_len]) fun j hj => ?_
  rw [invB_len, vsw_len] at hj
  rw [nth_swN k _ (by rw [invB_len]; exact hk), nth_invB (by rw [vsw_len]; exact hj), nth_invB (sk_lt hk hj)]
  have a := idx_lt hp (x := ((sk k j : Nat) : Int)) (by have := sk_lt hk hj; omega)
  have e := nth_vsw (k := k) a.1
  rw [a.2, show vs k ((sk k j : Nat) : Int) = (j : Int) by unfold vs sk; (repeat' split) <;> omega] at e
  have b := idx_at hv (p := w.idxOf ((sk k j : Nat) : Int)) (by rw [vsw_len]; exact a.1)
  rw [e] at b
  rw [b]
/-- How far there is to go from the front. -/
def fin' (w : List Int) : Nat := dnv (invB w)
theorem fin_vsw {w : List Int} (hp : Prm w) {k : Nat} (h : ldes w k) : fin' (vsw k w) + 1 = fin' w := by
  have hk := ldes_lt hp h
  unfold fin'
  rw [invB_vsw hp hk]
  refine swN_dnv k _ (by rw [invB_len]; exact hk) ?_
  have := (ldB_iff hp hk).2 h
  rw [ldB, decide_eq_true_eq] at this
  exact this
theorem fin_21 {w : List Int} (h : w.length ≤ 7) : fin' w ≤ 21 := dnv_21 (by rw [invB_len]; exact h)
def redI : Nat → List Int → List (List Int)
  | 0, _ => [[]]
  | f + 1, w => if ldsL w = [] then [[]] else (ldsL w).flatMap fun k => (redI f (vsw k w)).map ((k : Int) :: ·)
def redS : Nat → List Int → List (List Int)
  | 0, _ => [[]]
  | f + 1, w => if rdsL w = [] then [[]] else (rdsL w).flatMap fun k => (redS f (swN k w)).map (· ++ [(k : Int)])
theorem no_lds {w : List Int} (hp : Prm w) : ldsL w = [] ↔ ∀ k, ¬ ldes w k := by
  constructor
  · intro h k hk
    have := (mem_ldsL hp).2 hk
    rw [h] at this; cases this
  · intro h
    refine List.eq_nil_iff_forall_not_mem.2 fun k hk => h k ((mem_ldsL hp).1 hk)
theorem no_rds {w : List Int} : rdsL w = [] ↔ ∀ k, ¬ rdes w k := by
  constructor
  · intro h k hk
    have := mem_rdsL.2 hk
    rw [h] at this; cases this
  · intro h
    refine List.eq_nil_iff_forall_not_mem.2 fun k hk => h k (mem_rdsL.1 hk)
theorem mem_redI : ∀ (f : Nat) (w v : List Int), Prm w → fin' w ≤ f → (v ∈ redI f w ↔ RedI v w)
  | 0, w, v, hp, hf => by
    have hn : ∀ k, ¬ ldes w k := fun k hk => by have := fin_vsw hp hk; omega
    rw [redI, List.mem_singleton]
    cases v with
    | nil => exact ⟨fun _ => hn, fun _ => rfl⟩
    | cons j u => exact ⟨fun h => (by cases h), fun h => by obtain ⟨k, _, h, _⟩ := h; exact absurd h (hn k)⟩
  | f + 1, w, v, hp, hf => by
    rw [redI]
    by_cases h : ldsL w = []
    · rw [if_pos h, List.mem_singleton]
      have hn := (no_lds hp).1 h
      cases v with
      | nil => exact ⟨fun _ => hn, fun _ => rfl⟩
      | cons j u => exact ⟨fun h => (by cases h), fun h => by obtain ⟨k, _, h, _⟩ := h; exact absurd h (hn k)⟩
    · rw [if_neg h, List.mem_flatMap]
      constructor
      · rintro ⟨k, hk, hm⟩
        obtain ⟨u, hu, rfl⟩ := List.mem_map.1 hm
        have hl := (mem_ldsL hp).1 hk
        have hv := fin_vsw hp hl
        exact ⟨k, rfl, hl, (mem_redI f _ u (hp.vsw (ldes_lt hp hl)) (by omega)).1 hu⟩
      · intro hr
        cases v with
        | nil => exact absurd ((no_lds hp).2 hr) h
        | cons j u =>
          obtain ⟨k, rfl, hl, hu⟩ := hr
          have hv := fin_vsw hp hl
          exact ⟨k, (mem_ldsL hp).2 hl, List.mem_map.2 ⟨u, (mem_redI f _ u (hp.vsw (ldes_lt hp hl)) (by omega)).2 hu, rfl⟩⟩
theorem dn_swN {w : List Int} {k : Nat} (h : rdes w k) : dnv (swN k w) + 1 = dnv w := swN_dnv k w h.1 h.2
theorem mem_redS : ∀ (f : Nat) (w v : List Int), Prm w → dnv w ≤ f → (v ∈ redS f w ↔ RedS v.reverse w)
  | 0, w, v, hp, hf => by
    have hn : ∀ k, ¬ rdes w k := fun k hk => by have := dn_swN hk; omega
    rw [redS, List.mem_singleton, ← List.reverse_eq_nil_iff]
    generalize v.reverse = r
    cases r with
    | nil => exact ⟨fun _ => hn, fun _ => rfl⟩
    | cons j u => exact ⟨fun h => (by cases h), fun h => by obtain ⟨k, _, h, _⟩ := h; exact absurd h (hn k)⟩
  | f + 1, w, v, hp, hf => by
    rw [redS]
    by_cases h : rdsL w = []
    · rw [if_pos h, List.mem_singleton, ← List.reverse_eq_nil_iff]
      have hn := no_rds.1 h
      generalize v.reverse = r
      cases r with
      | nil => exact ⟨fun _ => hn, fun _ => rfl⟩
      | cons j u => exact ⟨fun h => (by cases h), fun h => by obtain ⟨k, _, h, _⟩ := h; exact absurd h (hn k)⟩
    · rw [if_neg h, List.mem_flatMap]
      constructor
      · rintro ⟨k, hk, hm⟩
        obtain ⟨u, hu, rfl⟩ := List.mem_map.1 hm
        have hl := mem_rdsL.1 hk
        have hv := dn_swN hl
        rw [List.reverse_append]
        exact ⟨k, rfl, hl, (mem_redS f _ u (hp.swN hl.1) (by omega)).1 hu⟩
      · intro hr
        obtain ⟨r, hrv⟩ : ∃ r, v.reverse = r := ⟨_, rfl⟩
        have hv' : v = r.reverse := by rw [← hrv, List.reverse_reverse]
        rw [hrv] at hr
        cases r with
        | nil => exact absurd (no_rds.2 hr) h
        | cons j u =>
          obtain ⟨k, rfl, hl, hu⟩ := hr
          have hv := dn_swN hl
          refine ⟨k, mem_rdsL.2 hl, List.mem_map.2 ⟨u.reverse, (mem_redS f _ u.reverse (hp.swN hl.1) (by omega)).2 (by rw [List.reverse_reverse]; exact hu), ?_⟩⟩
          rw [hv', List.reverse_cons]
theorem lexLt_cons (k : Int) (a b : List Int) : lexLt (k :: a) (k :: b) = lexLt a b := by rw [lexLt, if_pos rfl]
theorem lexLt_first {j k : Int} (h : j < k) (a b : List Int) : lexLt (j :: a) (k :: b) = true := by rw [lexLt, if_neg (by omega)]; exact decide_eq_true h
theorem ldsL_up (w : List Int) : (ldsL w).Pairwise (· < ·) := List.Pairwise.filter _ List.pairwise_lt_range
theorem rdsL_up (w : List Int) : (rdsL w).Pairwise (· < ·) := List.Pairwise.filter _ List.pairwise_lt_range
theorem redI_up : ∀ (f : Nat) (w : List Int), (redI f w).Pairwise (fun a b => lexLt a b = true)
  | 0, _ => List.pairwise_singleton _ _
  | f + 1, w => by
    rw [redI]
    split
    · exact List.pairwise_singleton _ _
    · refine List.pairwise_flatMap.2 ⟨fun k _ => ?_, (ldsL_up w).imp fun {a b} hab x hx y hy => ?_⟩
      · rw [List.pairwise_map]
        exact (redI_up f (vsw k w)).imp fun {a b} h => by rw [lexLt_cons]; exact h
      · obtain ⟨u, -, rfl⟩ := List.mem_map.1 hx
        obtain ⟨v, -, rfl⟩ := List.mem_map.1 hy
        exact lexLt_first (by omega) _ _
theorem redS_nodup : ∀ (f : Nat) (w : List Int), (redS f w).Nodup
  | 0, _ => List.pairwise_singleton _ _
  | f + 1, w => by
    rw [redS]
    split
    · exact List.pairwise_singleton _ _
    · refine List.pairwise_flatMap.2 ⟨fun k _ => ?_, (rdsL_up w).imp fun {a b} hab x hx y hy e => ?_⟩
      · rw [List.pairwise_map]
        exact (redS_nodup f (swN k w)).imp fun {a b} h e => h (List.append_cancel_right e)
      · obtain ⟨u, -, rfl⟩ := List.mem_map.1 hx
        obtain ⟨v, -, rfl⟩ := List.mem_map.1 hy
        have h1 := congrArg List.reverse e
        rw [List.reverse_append, List.reverse_append] at h1
        have h2 : (a : Int) = b := (List.cons.inj h1).1
        omega
theorem redI_nodup (f : Nat) (w : List Int) : (redI f w).Nodup := (redI_up f w).imp fun {a b} h e => by subst e; rw [lex_irr] at h; cases h
/-- Both lists hold the same words. -/
theorem red_perm {w : List Int} (hp : Prm w) {f g : Nat} (hf : fin' w ≤ f) (hg : dnv w ≤ g) : (redI f w).Perm (redS g w) := by
  rw [List.perm_ext_iff_of_nodup (redI_nodup f w) (redS_nodup g w)]
  intro v
  rw [mem_redI f w v hp hf, mem_redS g w v hp hg]
  exact red_eq v.length v w (Nat.le_refl _) hp
/-- Sorted in any way, the words of the reference are those of the program. -/
theorem red_sorted {w : List Int} (hp : Prm w) {f g : Nat} (hf : fin' w ≤ f) (hg : dnv w ≤ g) {S : List (List Int)} (h1 : S.Perm (redS g w)) (h2 : S.Pairwise (fun a b => lexLt b a = false)) : S = redI f w := by
  refine List.Perm.eq_of_pairwise (le := fun a b => lexLt b a = false) (fun a b _ _ ha hb => ?_) h2 ((redI_up f w).imp fun {a b} h => ?_) (h1.trans (red_perm hp hf hg).symm)
  · by_cases e : a = b
    · exact e
    · have := lex_total ha (fun h => e h.symm)
      rw [hb] at this; cases this
  · rcases h3 : lexLt b a with _ | _
    · rfl
    · have := lex_trans h h3
      rw [lex_irr] at this; cases this
/-- What a word makes; how long it is. -/
def playL (u : List Int) (v : List Int) : List Int := v.foldl (fun x k => swN k.toNat x) u
theorem playL_snoc (u v : List Int) (k : Int) : playL u (v ++ [k]) = swN k.toNat (playL u v) := by simp [playL]
theorem redS_play : ∀ (r w : List Int), Prm w → RedS r w → playL (gen (fun i => (i : Int)) w.length) r.reverse = w ∧ r.length = dnv w ∧ (∀ x ∈ r, 0 ≤ x ∧ x + 1 < w.length)
  | [], w, hp, h => by
    have hid := ident hp h
    have e : w = gen (fun i => (i : Int)) w.length := ext_nth (by rw [gen_len]) fun j hj => by rw [hid j hj, nth_gen hj]
    refine ⟨?_, ?_, by simp⟩
    · exact e.symm
    · rw [dnv_zero]
      · rfl
      · rw [List.pairwise_iff_getElem]
        intro i j hi hj hij
        rw [← nth_lt hi, ← nth_lt hj, hid i hi, hid j hj]
        omega
  | j :: r, w, hp, ⟨k, hk, hr, hs⟩ => by
    subst hk
    obtain ⟨h1, h2, h3⟩ := redS_play r (swN k w) (hp.swN hr.1) hs
    have := dn_swN hr
    rw [swN_len] at h1 h3
    have hk := hr.1
    refine ⟨?_, by rw [List.length_cons]; omega, fun x hx => ?_⟩
    · rw [List.reverse_cons, playL_snoc, h1, Int.toNat_natCast, swN_swN hr.1]
    · rcases List.mem_cons.1 hx with rfl | hx
      · omega
      · exact h3 x hx
theorem redI_play {w : List Int} (hp : Prm w) {f : Nat} (hf : fin' w ≤ f) {v : List Int} (hv : v ∈ redI f w) :
    playL (gen (fun i => (i : Int)) w.length) v = w ∧ v.length = dnv w ∧ (∀ x ∈ v, 0 ≤ x ∧ x + 1 < w.length) := by
  have h1 := (red_eq v.length v w (Nat.le_refl _) hp).1 ((mem_redI f w v hp hf).1 hv)
  obtain ⟨a, b, c⟩ := redS_play _ w hp h1
  rw [List.reverse_reverse] at a
  rw [List.length_reverse] at b
  exact ⟨a, b, fun x hx => c x (List.mem_reverse.2 hx)⟩
/-- How many there are. -/
theorem redI_count : ∀ (f : Nat) (w : List Int), w.length ≤ 7 → (redI f w).length ≤ 6 ^ f
  | 0, _, _ => Nat.le_refl _
  | f + 1, w, h => by
    have hp : 1 ≤ 6 ^ (f + 1) := Nat.pos_of_ne_zero (by simp)
    rw [redI]
    split
    · exact hp
    · have hl : (ldsL w).length ≤ 6 := by
        refine Nat.le_trans (List.length_filter_le _ _) ?_
        rw [List.length_range]; omega
      have key : ∀ L : List Nat, (L.flatMap fun k => (redI f (vsw k w)).map ((k : Int) :: ·)).length ≤ L.length * 6 ^ f := fun L => by
        induction L with
        | nil => simp
        | cons k L ih =>
          rw [List.flatMap_cons, List.length_append, List.length_map, List.length_cons, Nat.add_mul]
          have := redI_count f (vsw k w) (by rw [vsw_len]; exact h)
          omega
      have h2 := key (ldsL w)
      have h3 : (ldsL w).length * 6 ^ f ≤ 6 * 6 ^ f := Nat.mul_le_mul_right _ hl
      rw [Nat.pow_succ]
      omega
end Go.Proofs.Ytgbojgmmingfdaa
