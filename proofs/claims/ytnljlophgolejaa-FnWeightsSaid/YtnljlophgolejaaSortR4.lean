/- slices.SortFunc at []Puzzle of this seat: laid by the kit's tools lay-shelf.mjs and lay-plain.mjs (seat r4 only: the numbers are this translation's). -/
import Derived.Shelf.SlSortCmp.WholeK
import Derived.Test.YtnljlophgolejaaProg
import Derived.Test.YtnljlophgolejaaSortF
import Derived.Test.YtnljlophgolejaaZParts
import Derived.Test.YtnljlophgolejaaDraw
namespace Go.Proofs
open Go.Shelf
def Try.sortPz_ren : Go.Shelf.Ren := ⟨fun | 6 => 98 | 15 => 128 | 14 => 127 | 28 => 144 | 29 => 145 | 20 => 136 | 21 => 137 | 22 => 138 | 23 => 139 | 24 => 140 | 25 => 141 | 26 => 142 | 27 => 143 | 46 => 148 | 47 => 149 | 48 => 150 | 49 => 151 | 50 => 152 | 57 => 154 | n => n, fun | 22 => 27 | 24 => 53 | 25 => 96 | 3 => 3 | 39 => 117 | 0 => 0 | 53 => 129 | 55 => 131 | 4 => 4 | 46 => 123 | 45 => 122 | 50 => 63 | 5 => 5 | 9 => 9 | 66 => 132 | 70 => 136 | 76 => 139 | 77 => 77 | n => n, fun | n => n⟩
theorem Try.sortPz : Go.Proofs.SlLaysF0.n6 Try.prog Try.sortPz_ren := {
  mixed := by kernel_rfl
  f6 := ⟨Try.f98.name, by decide, Try.func98.trans (congrArg some (by kernel_rfl))⟩
  f14 := ⟨Try.f127.name, by decide, Try.func127.trans (congrArg some (by kernel_rfl))⟩
  f15 := Try.func128.trans (congrArg some (by kernel_rfl))
  f20 := ⟨Try.f136.name, by decide, Try.func136.trans (congrArg some (by kernel_rfl))⟩
  f21 := ⟨Try.f137.name, by decide, Try.func137.trans (congrArg some (by kernel_rfl))⟩
  f22 := ⟨Try.f138.name, by decide, Try.func138.trans (congrArg some (by kernel_rfl))⟩
  f23 := ⟨Try.f139.name, by decide, Try.func139.trans (congrArg some (by kernel_rfl))⟩
  f24 := ⟨Try.f140.name, by decide, Try.func140.trans (congrArg some (by kernel_rfl))⟩
  f25 := ⟨Try.f141.name, by decide, Try.func141.trans (congrArg some (by kernel_rfl))⟩
  f26 := ⟨Try.f142.name, by decide, Try.func142.trans (congrArg some (by kernel_rfl))⟩
  f27 := ⟨Try.f143.name, by decide, Try.func143.trans (congrArg some (by kernel_rfl))⟩
  f28 := Try.func144.trans (congrArg some (by kernel_rfl))
  f29 := Try.func145.trans (congrArg some (by kernel_rfl))
  f46 := ⟨Try.f148.name, by decide, Try.func148.trans (congrArg some (by kernel_rfl))⟩
  f47 := Try.func149.trans (congrArg some (by kernel_rfl))
  f48 := Try.func150.trans (congrArg some (by kernel_rfl))
  f49 := ⟨Try.f151.name, by decide, Try.func151.trans (congrArg some (by kernel_rfl))⟩
  f50 := ⟨Try.f152.name, by decide, Try.func152.trans (congrArg some (by kernel_rfl))⟩
  f57 := ⟨Try.f154.name, by decide, Try.func154.trans (congrArg some (by kernel_rfl))⟩
  t0 := Try.underlying0
  a0 := Try.isAgg0
  z0 := Try.sizeOf0
  v0 := Try.zeroValue0
  t3 := Try.underlying3
  a3 := Try.isAgg3
  z3 := Try.sizeOf3
  v3 := Try.zeroValue3
  t4 := Try.underlying4
  a4 := Try.isAgg4
  z4 := Try.sizeOf4
  v4 := Try.zeroValue4
  t5 := Try.underlying5
  a5 := Try.isAgg5
  z5 := Try.sizeOf5
  v5 := Try.zeroValue5
  t9 := Try.underlying9
  a9 := Try.isAgg9
  z9 := Try.sizeOf9
  v9 := Try.zeroValue9
  t22 := Try.underlying27
  a22 := Try.isAgg27
  z22 := Try.sizeOf27
  v22 := Try.zeroValue27
  t25 := Try.underlying96
  a25 := Try.isAgg96
  z25 := Try.sizeOf96
  v25 := Try.zeroValue96
  t39 := Try.underlying117
  a39 := Try.isAgg117
  z39 := Try.sizeOf117
  v39 := Try.zeroValue117
  t45 := Try.underlying122
  a45 := Try.isAgg122
  z45 := Try.sizeOf122
  v45 := Try.zeroValue122
  t46 := Try.underlying123
  a46 := Try.isAgg123
  z46 := Try.sizeOf123
  v46 := Try.zeroValue123
  t50 := Try.underlying63
  a50 := Try.isAgg63
  z50 := Try.sizeOf63
  v50 := Try.zeroValue63
  t53 := Try.underlying129
  a53 := Try.isAgg129
  z53 := Try.sizeOf129
  v53 := Try.zeroValue129
  t55 := Try.underlying131
  a55 := Try.isAgg131
  z55 := Try.sizeOf131
  v55 := Try.zeroValue131
  t66 := Try.underlying132
  a66 := Try.isAgg132
  z66 := Try.sizeOf132
  v66 := Try.zeroValue132
  t70 := Try.underlying136
  a70 := Try.isAgg136
  z70 := Try.sizeOf136
  v70 := Try.zeroValue136
  t76 := Try.underlying139
  a76 := Try.isAgg139
  z76 := Try.sizeOf139
  v76 := Try.zeroValue139
  t77 := Try.underlying77
  a77 := Try.isAgg77
  z77 := Try.sizeOf77
  v77 := Try.zeroValue77 }
end Go.Proofs

/- slices.SortFunc at puzzles, by the right labels. -/
namespace Go.Proofs.Ytnljlophgolejaa
open Go.RowKit

/-- The fields of one puzzle. -/
def zE (n : Int) (p : PZ) : List (Int ⊕ List Int) := [.inl n, .inr p.1, .inr p.2.1, .inr p.2.2]
theorem zF_flat (n : Int) (ps : List PZ) : zF n ps = (ps.map (zE n)).flatten := List.flatMap_def
/-- The right labels among the fields. -/
def rtF : List (Int ⊕ List Int) → List Int
  | [_, _, .inr r, _] => r
  | _ => []
def cfZ (x y : List (Int ⊕ List Int)) : Int := cmpB (rtF x) (rtF y)
theorem four_form {w : World} {b : Nat} {n : Int} {p : PZ} {c : List Value} (h : FRs w b (zE n p) c) : ∃ A1 n1 c1 A2 n2 c2 A3 n3 c3, c = [.int .i64 n, .slice A1 n1 c1, .slice A2 n2 c2, .slice A3 n3 c3] ∧ OI w b (.slice A1 n1 c1) p.1 ∧ OI w b (.slice A2 n2 c2) p.2.1 ∧ OI w b (.slice A3 n3 c3) p.2.2 := by
  have hl := h.1
  obtain ⟨u0, h0, f0⟩ := h.at_ (j := 0) (x := .inl n) rfl
  obtain ⟨u1, h1, f1⟩ := h.at_ (j := 1) (x := .inr p.1) rfl
  obtain ⟨u2, h2, f2⟩ := h.at_ (j := 2) (x := .inr p.2.1) rfl
  obtain ⟨u3, h3, f3⟩ := h.at_ (j := 3) (x := .inr p.2.2) rfl
  have f0' : u0 = .int .i64 n := f0
  have f1' : OI w b u1 p.1 := f1
  have f2' : OI w b u2 p.2.1 := f2
  have f3' : OI w b u3 p.2.2 := f3
  obtain ⟨A1, n1, c1, rfl, -⟩ := f1'.form
  obtain ⟨A2, n2, c2, rfl, -⟩ := f2'.form
  obtain ⟨A3, n3, c3, rfl, -⟩ := f3'.form
  refine ⟨A1, n1, c1, A2, n2, c2, A3, n3, c3, ?_, f1', f2', f3'⟩
  subst f0'
  refine List.ext_getElem? fun j => ?_
  have hj : j = 0 ∨ j = 1 ∨ j = 2 ∨ j = 3 ∨ 4 ≤ j := by omega
  rcases hj with rfl | rfl | rfl | rfl | hj
  · exact h0
  · exact h1
  · exact h2
  · exact h3
  · rw [List.getElem?_eq_none (by rw [hl]; simpa [zE] using hj), List.getElem?_eq_none (by simpa using hj)]

set_option maxHeartbeats 1000000 in
/-- The closure that puzzlesOf sorts by. -/
theorem cmpPz_any {A1 A2 A3 C1 C2 C3 : Option Addr} {n1 n2 n3 m1 m2 m3 : Nat} {x y : List Int} {W : World} (n : Int) (c1 c2 c3 d1 d2 d3 : Nat) (h1 : RI W A2 n2 x) (h2 : RI W C2 m2 y) (hn : n2 ≤ 9223372036854775807) (hm : m2 ≤ 9223372036854775807) :
    Calls Try.prog 99 #[.agg #[.int .i64 n, .slice A1 n1 c1, .slice A2 n2 c2, .slice A3 n3 c3], .agg #[.int .i64 n, .slice C1 m1 d1, .slice C2 m2 d2, .slice C3 m3 d3]] W
      (fun e w' => e = .returned (.int .i64 (cmpB x y)) ∧ ∃ q os', w' = Go.Sort.grow (W.drewN q) os') := by
  have HE : Hid (∀ W', Below W.heap.size W W' → Calls Try.prog 100 #[.slice A2 n2 c2, .slice C2 m2 d2] W' (Gives W' (.int .i64 (cmpB x y)))) := fun W' b => compare_any _ _ (h1.below b) (h2.below b) hn hm
  clear h1 h2
  generalize cmpB x y = r at HE ⊢
  go_enter Try.func99, Try.ntmps99
  go_wp2_with (go_at_call 100; (with_reducible refine (HE.out _ ?_).mono ?_); (exact ((Below.refl _ _).alloc (Nat.le_refl _) _).alloc (by simp) _); rintro e w' ⟨rfl, q, rfl⟩)
  go_ret
  exact ⟨rfl, q, _, by rw [Go.Sort.alloc_eq_grow, Go.Sort.alloc_eq_grow, Go.Sort.grow_grow]; rfl⟩

/-- Sorted and strictly ascending lists of the same elements are one. -/
theorem sorted_mem : ∀ {ps : List PZ}, ps.Pairwise LtR → ∀ a ∈ ps, ∀ b ∈ ps, ¬ lexLt a.2.1 b.2.1 = true → ¬ lexLt b.2.1 a.2.1 = true → a = b
  | [], _, a, ha, _, _, _, _ => by cases ha
  | x :: l, h, a, ha, b, hb, h2, h3 => by
    obtain ⟨h1, h4⟩ := List.pairwise_cons.1 h
    rcases List.mem_cons.1 ha with ea | ha
    · rcases List.mem_cons.1 hb with eb | hb
      · rw [ea, eb]
      · rw [ea] at h2; exact absurd (h1 b hb) h2
    · rcases List.mem_cons.1 hb with eb | hb
      · rw [eb] at h3; exact absurd (h1 a ha) h3
      · exact sorted_mem h4 a ha b hb h2 h3
theorem sorted_eq {n : Int} {ps qs : List PZ} {els : List (List (Int ⊕ List Int))} (hs : ps.Pairwise LtR) (hp : qs.Perm ps) (he : els.Perm (qs.map (zE n))) (hw : els.Pairwise fun x y => decide (cfZ y x < 0) = false) : els = ps.map (zE n) := by
  have hp2 : els.Perm (ps.map (zE n)) := he.trans (hp.map _)
  refine List.Perm.eq_of_pairwise (le := fun x y => decide (cfZ y x < 0) = false) (fun a b ha hb h1 h2 => ?_) hw ?_ hp2
  · obtain ⟨p, hpm, rfl⟩ := List.mem_map.1 (hp2.mem_iff.1 ha)
    obtain ⟨q, hqm, rfl⟩ := List.mem_map.1 hb
    have e1 := of_decide_eq_false h1
    have e2 := of_decide_eq_false h2
    rw [cfZ, cmpB_neg] at e1 e2
    rw [sorted_mem hs p hpm q hqm e2 e1]
  · rw [List.pairwise_map]
    refine hs.imp fun {a b} h => decide_eq_false ?_
    rw [cfZ, cmpB_neg]
    have h' : lexLt a.2.1 b.2.1 = true := h
    show ¬ lexLt b.2.1 a.2.1 = true
    rw [lex_asymm h']
    simp

theorem sortZ_any {w : World} {base b N c : Nat} {n : Int} {A : Option Addr} {ps qs : List PZ} {cells : List Value} (hs : ps.Pairwise LtR) (hp : qs.Perm ps) (h : OZ w base b (.slice A N c) n qs cells) (hN : N ≤ 1000000000000) :
    Calls Try.prog 98 #[.slice A N c, .func (.func 99) #[] #[]] w (fun e w' => e = .returned (.tuple #[]) ∧ ∃ cells', OZ w' base b (.slice A N c) n ps cells' ∧ w.grownBy w' (Value.ownBlock (.slice A N c))) := by
  have h' : OF w base b 53 4 (.slice A N c) (qs.map (zE n)).length (qs.map (zE n)).flatten cells := by rw [List.length_map, ← zF_flat]; exact h
  have hcall := sortF_any Try.sortPz cfZ 99 (fun f => ∃ p, f = zE n p) (by decide) Try.isAgg53 Try.sizeOf53
    (fun x _ => by rw [cfZ, cmpB_neg, lex_irr]; simp) (fun x y z _ _ _ h1 h2 => by rw [cfZ, cmpB_neg] at *; exact lex_trans h1 h2)
    (fun x y z _ _ _ h1 h2 => by
      rw [cfZ, cmpB_neg] at *
      intro h3
      by_cases e : rtF x = rtF y
      · rw [e] at h3; exact h2 h3
      · have h4 := lex_total (by simpa using h1) e
        exact h2 (lex_trans h4 h3))
    ⟨zE n ([], [], []), [.int .i64 n, .slice none 0 0, .slice none 0 0, .slice none 0 0], FRs.four (OI.nil_ _ _) (OI.nil_ _ _) (OI.nil_ _ _), rfl, _, rfl⟩
    (ent_of Try.func99 (by kernel_rfl) rfl) (fun f hf => by obtain ⟨p, -, rfl⟩ := List.mem_map.1 hf; exact ⟨rfl, p, rfl⟩) h' hN
    (fun W f1 f2 c1 c2 hf1 hf2 ho1 ho2 _ _ => by
      obtain ⟨p, rfl⟩ := ho1
      obtain ⟨q, rfl⟩ := ho2
      obtain ⟨A1, n1, k1, A2, n2, k2, A3, n3, k3, rfl, r1, r2, r3⟩ := four_form hf1
      obtain ⟨C1, m1, d1, C2, m2, d2, C3, m3, d3, rfl, s1, s2, s3⟩ := four_form hf2
      exact cmpPz_any n _ _ _ _ _ _ r2.ri s2.ri (by have := r2.le; omega) (by have := s2.le; omega))
  change Calls Try.prog 98 _ _ _ at hcall
  refine hcall.mono ?_
  rintro e w' ⟨rfl, els', cells', hp', hw', ho', gr⟩
  have he := sorted_eq hs hp hp' hw'
  subst he
  refine ⟨rfl, cells', ?_, gr⟩
  unfold OZ
  rw [zF_flat, ← List.length_map (f := zE n)]
  exact ho'
end Go.Proofs.Ytnljlophgolejaa
