/- A merge sort of slices that read as lists, in the order of the reference's loops. -/
import Derived.Test.YtgbojgmmingfdaaSPerm
import Derived.Test.YtgbojgmmingfdaaSArg
import Derived.Test.YtgbojgmmingfdaaShapes
import Derived.BigRegion
import Derived.Deep.DeepCutAuto
import Derived.Deep.CutRange
namespace Go.Proofs.Ytgbojgmmingfdaa
open Go.RowKit

/-- A slice, and the list that it reads as. -/
abbrev PV := Value × List Int
def nthV (X : List PV) (k : Nat) : PV := X.getD k (undef, [])
theorem nthV_lt {X : List PV} {k : Nat} (h : k < X.length) : nthV X k = X[k] := by simp [nthV, List.getD, h]
/-- In this order. -/
def LeP (x y : PV) : Prop := lexLt y.2 x.2 = false
theorem LeP.trans {x y z : PV} (h1 : LeP x y) (h2 : LeP y z) : LeP x z := by
  unfold LeP at *
  rcases h : lexLt z.2 x.2 with _ | _
  · rfl
  · by_cases e : y.2 = z.2
    · rw [e] at h1; rw [h1] at h; cases h
    · have h3 := lex_total h2 (fun h4 => e h4.symm)
      have h4 := lex_trans h3 h
      rw [h1] at h4; cases h4
def segV (X : List PV) (a b : Nat) : List PV := (X.drop a).take (b - a)
theorem sgV_nil (X : List PV) (a : Nat) : segV X a a = [] := by simp [segV]
theorem sgV_snoc {X : List PV} {a b : Nat} (hab : a ≤ b) (hb : b < X.length) : segV X a (b + 1) = segV X a b ++ [nthV X b] := by
  unfold segV
  rw [show b + 1 - a = b - a + 1 by omega, List.take_succ_eq_append_getElem (by rw [List.length_drop]; omega), nthV_lt hb]
  simp only [List.getElem_drop]
  congr 3
  omega
theorem sgV_len {X : List PV} {a b : Nat} (hb : b ≤ X.length) : (segV X a b).length = b - a := by
  unfold segV; rw [List.length_take, List.length_drop]; omega
theorem sgV_app {X : List PV} {a b c : Nat} (hab : a ≤ b) (hbc : b ≤ c) : segV X a b ++ segV X b c = segV X a c := by
  unfold segV
  have h : X.drop b = (X.drop a).drop (b - a) := by rw [List.drop_drop]; congr 1; omega
  rw [h, show c - a = (b - a) + (c - b) by omega, List.take_add]
theorem sgV_all (X : List PV) : segV X 0 X.length = X := by simp [segV]
theorem sgV_at {X : List PV} {a b k : Nat} (hk : k < b - a) : nthV (segV X a b) k = nthV X (a + k) := by
  unfold segV nthV
  simp [List.getD, List.getElem?_take, hk, List.getElem?_drop]
theorem nthV_left {a b : List PV} {k : Nat} (h : k < a.length) : nthV (a ++ b) k = nthV a k := by simp [nthV, List.getD, List.getElem?_append_left h]
theorem nthV_right {a b : List PV} {k : Nat} (h : a.length ≤ k) : nthV (a ++ b) k = nthV b (k - a.length) := by simp [nthV, List.getD, List.getElem?_append_right h]
/-- In each stretch of s places the lists ascend. -/
def ChunkV (s : Nat) (X : List PV) : Prop := ∀ i j, i < j → j < X.length → i / s = j / s → LeP (nthV X i) (nthV X j)
theorem chunkV_one (X : List PV) : ChunkV 1 X := fun i j hij hj h => by
  rw [Nat.div_one, Nat.div_one] at h; omega
theorem chunkV_all {s : Nat} {X : List PV} (h : ChunkV s X) (hs : X.length ≤ s) : X.Pairwise LeP := by
  rw [List.pairwise_iff_getElem]
  intro i j hi hj hij
  have := h i j hij hj (by rw [Nat.div_eq_of_lt (by omega), Nat.div_eq_of_lt (by omega)])
  rwa [nthV_lt hi, nthV_lt hj] at this
/-- What has been merged of two stretches. -/
structure MrgV (X : List PV) (at_ mid en i j : Nat) (M : List PV) : Prop where
  b1 : at_ ≤ i
  b2 : i ≤ mid
  b3 : mid ≤ j
  b4 : j ≤ en
  b5 : en ≤ X.length
  perm : M.Perm (segV X at_ i ++ segV X mid j)
  srt : M.Pairwise LeP
  lo1 : ∀ m ∈ M, ∀ k, i ≤ k → k < mid → LeP m (nthV X k)
  lo2 : ∀ m ∈ M, ∀ k, j ≤ k → k < en → LeP m (nthV X k)
section
variable {X M : List PV} {at_ mid en i j : Nat}
theorem MrgV.start (h1 : at_ ≤ mid) (h2 : mid ≤ en) (h3 : en ≤ X.length) : MrgV X at_ mid en at_ mid [] :=
  ⟨Nat.le_refl _, h1, Nat.le_refl _, h2, h3, by simp [sgV_nil], List.Pairwise.nil, by simp, by simp⟩
theorem MrgV.left (h : MrgV X at_ mid en i j M) (hi : i < mid) (hc : ∀ k, i < k → k < mid → LeP (nthV X i) (nthV X k)) (hd : j < en → ∀ k, j ≤ k → k < en → LeP (nthV X i) (nthV X k)) : MrgV X at_ mid en (i + 1) j (M ++ [nthV X i]) := by
  refine ⟨by have := h.b1; omega, hi, h.b3, h.b4, h.b5, ?_, ?_, fun m hm k h1 h2 => ?_, fun m hm k h1 h2 => ?_⟩
  · rw [sgV_snoc h.b1 (by have := h.b3; have := h.b4; have := h.b5; omega)]
    refine (h.perm.append_right _).trans ?_
    rw [List.append_assoc, List.append_assoc]
    exact List.Perm.append_left _ List.perm_append_comm
  · rw [List.pairwise_append]
    refine ⟨h.srt, List.pairwise_singleton _ _, fun x hx y hy => ?_⟩
    rw [List.mem_singleton.1 hy]
    exact h.lo1 x hx i (Nat.le_refl _) hi
  · rcases List.mem_append.1 hm with hm | hm
    · exact h.lo1 m hm k (by omega) h2
    · rw [List.mem_singleton.1 hm]; exact hc k (by omega) h2
  · rcases List.mem_append.1 hm with hm | hm
    · exact h.lo2 m hm k h1 h2
    · rw [List.mem_singleton.1 hm]; exact hd (by omega) k h1 h2
theorem MrgV.right (h : MrgV X at_ mid en i j M) (hj : j < en) (hc : ∀ k, j < k → k < en → LeP (nthV X j) (nthV X k)) (hd : i < mid → ∀ k, i ≤ k → k < mid → LeP (nthV X j) (nthV X k)) : MrgV X at_ mid en i (j + 1) (M ++ [nthV X j]) := by
  refine ⟨h.b1, h.b2, by have := h.b3; omega, hj, h.b5, ?_, ?_, fun m hm k h1 h2 => ?_, fun m hm k h1 h2 => ?_⟩
  · rw [sgV_snoc h.b3 (by have := h.b5; omega), ← List.append_assoc]
    exact h.perm.append_right _
  · rw [List.pairwise_append]
    refine ⟨h.srt, List.pairwise_singleton _ _, fun x hx y hy => ?_⟩
    rw [List.mem_singleton.1 hy]
    exact h.lo2 x hx j (Nat.le_refl _) hj
  · rcases List.mem_append.1 hm with hm | hm
    · exact h.lo1 m hm k h1 h2
    · rw [List.mem_singleton.1 hm]; exact hd (by omega) k h1 h2
  · rcases List.mem_append.1 hm with hm | hm
    · exact h.lo2 m hm k (by omega) h2
    · rw [List.mem_singleton.1 hm]; exact hc k (by omega) h2
end
/-- Whole stretches have been merged, up to a place. -/
structure LvlV (s : Nat) (X : List PV) (a : Nat) (Y : List PV) : Prop where
  le : a ≤ X.length
  perm : Y.Perm (segV X 0 a)
  chunk : ChunkV (2 * s) Y
theorem div_nextV {s a i : Nat} (h : s * a ≤ i) (h2 : i < s * a + s) : i / s = a := by
  have hs : 0 < s := by
    rcases Nat.eq_zero_or_pos s with h0 | h0
    · subst h0; omega
    · exact h0
  exact Nat.div_eq_of_lt_le (by rw [Nat.mul_comm]; exact h) (by rw [Nat.mul_comm, Nat.mul_add]; omega)
theorem LvlV.next {s q mid en : Nat} {X Y M : List PV} (hs : 0 < s) (h : LvlV s X (2 * s * q) Y) (hm : MrgV X (2 * s * q) mid en mid en M) (hen : en ≤ 2 * s * q + 2 * s) : LvlV s X en (Y ++ M) := by
  have hY : Y.length = 2 * s * q := by rw [h.perm.length_eq, sgV_len h.le]; omega
  have hM : M.length = en - 2 * s * q := by
    rw [hm.perm.length_eq, sgV_app hm.b1 hm.b3, sgV_len hm.b5]
  have hb1 := hm.b1
  have hb3 := hm.b3
  refine ⟨hm.b5, ?_, fun i j hij hj hd => ?_⟩
  · rw [← sgV_app (Nat.zero_le _) (show 2 * s * q ≤ en by omega), ← sgV_app (X := X) hm.b1 hm.b3]
    exact h.perm.append hm.perm
  · rw [List.length_append] at hj
    by_cases h1 : j < Y.length
    · have := h.chunk i j hij h1 hd
      rwa [nthV_left h1, nthV_left (by omega)]
    · have hj2 := div_nextV (s := 2 * s) (a := q) (i := j) (by omega) (by omega)
      have hi2 : 2 * s * q ≤ i := by
        rw [hj2] at hd
        have := Nat.div_mul_le_self i (2 * s)
        rw [hd, Nat.mul_comm] at this
        exact this
      have hp := h.le
      have h3 := List.pairwise_iff_getElem.1 hm.srt (i - Y.length) (j - Y.length) (by omega) (by omega) (by omega)
      rw [nthV_right (by omega), nthV_right (by omega), nthV_lt (by omega), nthV_lt (by omega)]
      exact h3
end Go.Proofs.Ytgbojgmmingfdaa

/- l1Sorted of the reference: a merge sort. -/
namespace Go.Proofs.Ytgbojgmmingfdaa
open Go.RowKit

/-- A row of slices that the call owns; what they read as lies below. -/
def OV (w : World) (base : Nat) (v : Value) (X : List PV) : Prop := w.ownsRow base 22 1 v X.length (X.map Prod.fst)
def GoodV (w : World) (X : List PV) : Prop := ∀ p ∈ X, ∃ A n c, p.1 = .slice A n c ∧ RI w A n p.2 ∧ n ≤ 1000000
section
variable {w w' : World} {base base' : Nat} {v : Value} {X Y : List PV}
theorem OV.below (h : OV w base v X) (b : Below w.heap.size w w') : OV w' base v X :=
  World.ownsRow.kept h (row := none) ⟨b.os, b.tape, b.output, b.size, fun k hk _ => b.block k hk⟩ (by cases hv : v.ownBlock <;> simp)
theorem OV.mono (h : OV w base v X) (hb : base' ≤ base) : OV w base' v X := by
  refine ⟨h.1, ?_⟩
  rcases h.2 with hn | ⟨g, cap, cur, rfl, hg, r⟩
  · exact .inl hn
  · exact .inr ⟨g, cap, cur, rfl, Nat.le_trans hb hg, r⟩
theorem OV.lt (h : OV w base v X) : ∀ k, v.ownBlock = some k → base ≤ k ∧ k < w.heap.size := World.ownsRow.lt h
theorem OV.form (h : OV w base v X) : ∃ A n c, v = .slice A n c ∧ X.length = n := by
  rcases h.2 with ⟨rfl, h0⟩ | ⟨g, cap, cur, rfl, -⟩
  · exact ⟨_, _, _, rfl, h0⟩
  · exact ⟨_, _, _, rfl, rfl⟩
theorem OV.len {A : Option Addr} {n c : Nat} (h : OV w base (.slice A n c) X) : X.length = n := by
  obtain ⟨A', n', c', e, h1⟩ := h.form
  rw [h1, (slice_inj e).2.1]
theorem OV.some_ {A : Option Addr} {n c : Nat} (h : OV w base (.slice A n c) X) (hn : 0 < n) : ∃ g, A = some ⟨g, 0, none⟩ := by
  have hl := h.len
  rcases h.2 with ⟨he, h0⟩ | ⟨g, cap, cur, he, -⟩
  · omega
  · exact ⟨g, (slice_inj he).1⟩
theorem OV.cell {g n c k : Nat} (h : OV w base (.slice (some ⟨g, 0, none⟩) n c) X) (hk : k < X.length) : w.cell? ⟨g, k, none⟩ = some (nthV X k).1 := by
  have hl := h.len
  have h1 := h
  unfold OV at h1
  rw [hl] at h1
  rw [h1.cellAt k (by omega), List.getElem?_map, List.getElem?_eq_getElem hk, nthV_lt hk]
  rfl
theorem GoodV.below (h : GoodV w X) (b : Below w.heap.size w w') : GoodV w' X := fun p hp => by
  obtain ⟨A, n, c, e, h1, h2⟩ := h p hp
  exact ⟨A, n, c, e, h1.below b, h2⟩
theorem GoodV.perm (h : GoodV w X) (hp : Y.Perm X) : GoodV w Y := fun p hq => h p (hp.mem_iff.1 hq)
theorem GoodV.one (h : GoodV w X) : ∀ u ∈ X.map Prod.fst, u.oneCell' = true := fun u hu => by
  obtain ⟨p, hp, rfl⟩ := List.mem_map.1 hu
  obtain ⟨A, n, c, e, -⟩ := h p hp
  rw [e]; rfl
theorem OV.lit (w : World) (base : Nat) (hb : base ≤ w.heap.size) : OV (w.alloc (.cells #[] 22)) base (.slice (some ⟨w.heap.size, 0, none⟩) 0 0) [] := by
  have := World.ownsRow_lit (e := 22) (size := 1) (base := base) w #[] 0 hb (by simp only [maxLen]; omega) (by simp)
  simpa [OV] using this
end
theorem wpAppV {w : World} {ops : Array Oper} {rest : List Oper} {o : Oper} {a : Act} {Q : Exit → Act → World → Prop} (hgd : o.guard = none) (s x : Operand)
    (ho : o.op = .call { callee := .builtin .append, args := #[s, x], argTypes := #[42, 42] })
    (base : Nat) (v : Value) (X Y : List PV) (ad : Addr) (m c : Nat) (hs : a.eval s = v) (hx : a.eval x = .slice (some ad) m c)
    (hown : OV w base v X) (hX : ∀ u ∈ X.map Prod.fst, u.oneCell' = true) (hY : ∀ u ∈ Y.map Prod.fst, u.oneCell' = true) (hl : Y.length = m) (hnews : ∀ j u, (Y.map Prod.fst)[j]? = some u → w.cell? (ad.add j) = some u) (hlen : X.length + m ≤ 1000000000000) (hbase : base ≤ w.heap.size)
    (h : ∀ v' w', OV w' base v' (X ++ Y) → w.grownBy w' v.ownBlock → (v'.ownBlock = v.ownBlock ∨ v'.ownBlock = some w.heap.size) → wpList Try.prog ops Q rest (a.put o.dst v') w') :
    wpList Try.prog ops Q (o :: rest) a w := by
  refine wpList_plain hgd fun K hK => ?_
  obtain ⟨i0, hi, hz, hs1, hb⟩ := info_parts Try.infoInts
  obtain ⟨v', w', hr, h2, h3, _, h5⟩ := run_append_own_at (P := Try.prog) w base 42 o.type 22 i0 (.slice none 0 0) 1 24 Try.underlying42 hi hz hs1 hb rfl (by omega) v X.length (X.map Prod.fst) hown ad m c (Y.map Prod.fst) (by rw [List.length_map, hl]; omega) hnews
    hY (by simp only [maxLen]; omega) (by omega) hbase
  unfold Oper.wp execOp
  simp only [ho, resolve, invoke, builtin, Sem.run_bind, Sem.run_pure, Result.andThen_ok, List.map_toArray, List.map_cons, List.map_nil, hs, hx, hr]
  refine hK _ _ (h v' w' ?_ h3 h5)
  unfold OV
  rw [List.length_append, List.map_append, hl]
  exact h2
/-- The lists, read. -/
theorem OV.rs {w : World} {base n c : Nat} {A : Option Addr} {X : List PV} (h : OV w base (.slice A n c) X) (hg : GoodV w X) : RS w A n (X.map Prod.snd) := by
  have hl := h.len
  refine ⟨by rw [List.length_map]; exact hl, fun k hk => ?_⟩
  obtain ⟨g, rfl⟩ := h.some_ (by omega)
  have hc := h.cell (k := k) (by omega)
  obtain ⟨A', n', c', e, h1, h2⟩ := hg (nthV X k) (by rw [nthV_lt (by omega)]; exact List.getElem_mem _)
  have hadd : (⟨g, 0, none⟩ : Addr).add k = ⟨g, k, none⟩ := by unfold Addr.add; split <;> simp_all
  refine ⟨⟨g, 0, none⟩, A', n', c', rfl, by rw [hadd, hc, e], ?_, by omega⟩
  rw [nthL_lt (by rw [List.length_map]; omega), List.getElem_map, ← nthV_lt (by omega)]
  exact h1
def ReadsS (w : World) (ls : List (List Int)) : Ending → World → Prop := fun e w' => ∃ A n c, e = .returned (.slice A n c) ∧ RS w' A n ls ∧ Below w.heap.size w w'
set_option maxRecDepth 100000 in
set_option maxHeartbeats 8000000 in
theorem l1Sorted_any {w : World} {base g n c : Nat} {X0 : List PV} (h : OV w base (.slice (some ⟨g, 0, none⟩) n c) X0) (hg : GoodV w X0) (hn : X0.length ≤ 1000) :
    Calls Try.prog 140 #[.slice (some ⟨g, 0, none⟩) n c] w (fun e w' => ∃ X : List PV, X.Perm X0 ∧ X.Pairwise LeP ∧ ReadsS w (X.map Prod.snd) e w') := by
  obtain ⟨w1, e1⟩ : ∃ W, W = w.alloc (.cells #[] 22) := ⟨_, rfl⟩
  have b1 : Below w.heap.size w w1 := by rw [e1]; exact (Below.refl _ _).alloc (Nat.le_refl _) _
  have HL1 : Hid (OV w1 w.heap.size (.slice (some ⟨w.heap.size, 0, none⟩) 0 0) []) := by rw [e1]; exact OV.lit w _ (Nat.le_refl _)
  have H1 : Hid (OV w1 base (.slice (some ⟨g, 0, none⟩) n c) X0) := h.below b1
  have HNW : Hid (∀ j u, (X0.map Prod.fst)[j]? = some u → w1.cell? ((⟨g, 0, none⟩ : Addr).add j) = some u) := fun j u hu => World.ownsRow.cells H1.out (g := g) rfl j u hu
  have B1 := Lib.hid b1
  have HG := Lib.hid hg
  have HN0 : Hid (X0.length = n) := h.len
  have hn3 : n ≤ 1000 := by rw [← HN0.out]; exact hn
  have E1 := Lib.hid e1
  clear b1 e1 h hg hn
  go_enter Try.func140, Try.ntmps140
  go_wp2_with (at_builtin; rw [← E1.out]; refine wpAppV rfl _ _ rfl w.heap.size (.slice (some ⟨w.heap.size, 0, none⟩) 0 0) [] X0 ⟨g, 0, none⟩ n c rfl rfl HL1.out (by simp) HG.out.one HN0.out HNW.out (by simp; omega) B1.out.size ?_; intro v3 w3 o3 g3 k3)
  rw [List.nil_append] at o3
  obtain ⟨A3, n3, c3, rfl, hl3⟩ := o3.form
  obtain rfl : n3 = n := hl3.symm.trans HN0.out
  have HB3 : Hid (Below w.heap.size w w3) := B1.out.grown g3 B1.out.size fun q hq => by simp [Value.ownBlock] at hq; omega
  have HO3 := Lib.hid o3
  clear o3 g3 k3 hl3
  go_loopw [3, 4, 5, 6, 7, 8, 9, 10] (fun o z _ _ _ _ _ _ wr => ∃ (Ao : Option Addr) (co s : Nat) (X : List PV), o = .slice Ao n3 co ∧ z = .int .i64 (s : Int) ∧ 1 ≤ s ∧ s ≤ 2000 ∧ Hid (OV wr w.heap.size (.slice Ao n3 co) X ∧ X.Perm X0 ∧ ChunkV s X ∧ Below w.heap.size w wr)) (fun _ z _ _ _ _ _ _ _ => n3 - (intOf z).toNat)
  case atStart => exact ⟨A3, c3, 1, X0, rfl, rfl, Nat.le_refl _, by omega, HO3.out, List.Perm.refl _, chunkV_one X0, HB3.out⟩
  case round =>
    obtain ⟨Ao, co, s, X, rfl, rfl, hs1, hs2, HX⟩ := hrel
    by_cases hlt : s < n3
    · obtain ⟨go, rfl⟩ := HX.out.1.some_ (by omega)
      obtain ⟨wo, rfl⟩ : ∃ wo : World, wo = wr := ⟨_, rfl⟩
      have O4 : Hid (OV (wo.alloc (.cells #[] 22)) wo.heap.size (.slice (some ⟨wo.heap.size, 0, none⟩) 0 0) [] ∧ Below wo.heap.size wo (wo.alloc (.cells #[] 22))) := ⟨OV.lit wo _ (Nat.le_refl _), (Below.refl _ _).alloc (Nat.le_refl _) _⟩
      go_wp2_with fail
      go_loopw [5, 6, 7, 8, 9, 10] (fun nx z _ _ _ _ wq => ∃ (a : Nat) (An : Option Addr) (nn cn : Nat) (Y : List PV), nx = .slice An nn cn ∧ z = .int .i64 (a : Int) ∧ a ≤ 6000 ∧ Hid (OV wq wo.heap.size (.slice An nn cn) Y ∧ Below wo.heap.size wo wq ∧ LvlV s X (min a n3) Y ∧ ∃ q, a = 2 * s * q)) (fun _ z _ _ _ _ _ => n3 - (intOf z).toNat)
      case atStart => exact ⟨0, _, _, _, [], rfl, rfl, by omega, O4.out.1, O4.out.2, ⟨by omega, by rw [Nat.zero_min, sgV_nil], fun i j _ hj => by simp at hj⟩, 0, by simp⟩
      case round =>
        obtain ⟨a, An, nn, cn, Y, rfl, rfl, ha, HY⟩ := hrel
        by_cases hat : a < n3
        · obtain ⟨mid, hmid⟩ : ∃ m, m = min (a + s) n3 := ⟨_, rfl⟩
          obtain ⟨en, hen⟩ : ∃ m, m = min (a + 2 * s) n3 := ⟨_, rfl⟩
          have HMID := Lib.hid hmid
          have HEN := Lib.hid hen
          have hb : a ≤ mid ∧ mid ≤ en ∧ en ≤ n3 := by omega
          clear hmid hen
          go_upto_region 10 with fail
          go_cut [8] (fun v8 wx => v8 = .int .i64 (mid : Int) ∧ wx = wr)
          case first =>
            have hv : ∀ z : Int, z = (if (n3 : Int) < (a : Int) + s then (n3 : Int) else (a : Int) + s) → Value.int .i64 z = .int .i64 (mid : Int) := fun z h => by
              rw [h]
              have := HMID.out
              congr 1
              split <;> omega
            have HV := Lib.hid hv
            clear hv
            go_wp2
            all_goals go_meet
            all_goals exact ⟨HV.out _ (by split <;> omega), rfl⟩
          case rest =>
            obtain ⟨rfl, rfl⟩ := hcut
            go_upto_region 12 with fail
            go_cut [10] (fun v10 wx => v10 = .int .i64 (en : Int) ∧ wx = wc)
            case first =>
              have hv : ∀ z : Int, z = (if (n3 : Int) < (a : Int) + 2 * s then (n3 : Int) else (a : Int) + 2 * s) → Value.int .i64 z = .int .i64 (en : Int) := fun z h => by
                rw [h]
                have := HEN.out
                congr 1
                split <;> omega
              have HV := Lib.hid hv
              clear hv
              go_wp2
              all_goals go_meet
              all_goals exact ⟨HV.out _ (by split <;> omega), rfl⟩
            case rest =>
              obtain ⟨rfl, rfl⟩ := hcut
              go_wp2
              obtain ⟨wq, hwq⟩ : ∃ wq : World, wq = wc := ⟨_, rfl⟩
              rw [← hwq] at HY ⊢
              clear hwq
              have hlv : Hid (LvlV s X a Y ∧ ∃ q, a = 2 * s * q) := by
                have h := HY.out.2.2
                rw [show min a n3 = a by omega] at h
                exact h
              have hXl : X.length = n3 := by rw [HX.out.2.1.length_eq, ← HN0.out]
              have HXL := Lib.hid hXl
              have HC1 : Hid (∀ i k, a ≤ i → i < k → k < mid → LeP (nthV X i) (nthV X k)) := fun i k h1 h2 h3 => by
                obtain ⟨q, hq⟩ := hlv.out.2
                have hm := HMID.out
                have e : a = s * (2 * q) := by rw [hq, Nat.mul_comm 2 s, Nat.mul_assoc]
                refine HX.out.2.2.1 i k h2 (by omega) ?_
                rw [div_nextV (s := s) (a := 2 * q) (i := i) (by omega) (by omega), div_nextV (s := s) (a := 2 * q) (i := k) (by omega) (by omega)]
              have HC2 : Hid (∀ i k, mid ≤ i → i < k → k < en → LeP (nthV X i) (nthV X k)) := fun i k h1 h2 h3 => by
                obtain ⟨q, hq⟩ := hlv.out.2
                have hm := HMID.out
                have hen := HEN.out
                have e : a + s = s * (2 * q + 1) := by rw [hq, Nat.mul_comm 2 s, Nat.mul_assoc, Nat.mul_add, Nat.mul_one]
                refine HX.out.2.2.1 i k h2 (by omega) ?_
                rw [div_nextV (s := s) (a := 2 * q + 1) (i := i) (by omega) (by omega), div_nextV (s := s) (a := 2 * q + 1) (i := k) (by omega) (by omega)]
              clear hXl
              go_loopw [5, 7, 8] (fun nx iv jv wz => ∃ (i j : Nat) (An : Option Addr) (nn cn : Nat) (M : List PV), nx = .slice An nn cn ∧ iv = .int .i64 (i : Int) ∧ jv = .int .i64 (j : Int) ∧ i ≤ mid ∧ j ≤ en ∧ Hid (OV wz wo.heap.size (.slice An nn cn) (Y ++ M) ∧ Below wo.heap.size wo wz ∧ MrgV X a mid en i j M)) (fun _ iv jv _ => (mid - (intOf iv).toNat) + (en - (intOf jv).toNat))
              case atStart =>
                refine ⟨a, mid, An, nn, cn, [], rfl, rfl, rfl, hb.1, hb.2.1, ?_, HY.out.2.1, MrgV.start hb.1 hb.2.1 (by rw [HX.out.2.1.length_eq, HN0.out]; exact hb.2.2)⟩
                rw [List.append_nil]; exact HY.out.1
              case round =>
                obtain ⟨i, j, An, nn, cn, M, rfl, rfl, rfl, hi, hj, HM⟩ := hrel
                have HOX : Hid (OV wr w.heap.size (.slice (some ⟨go, 0, none⟩) n3 co) X) := HX.out.1.below HM.out.2.1
                have HONE : Hid (∀ u ∈ (Y ++ M).map Prod.fst, u.oneCell' = true) := fun u hu => by
                  have h1 := hlv.out.1.perm
                  have h2 := HM.out.2.2.perm
                  rw [List.map_append, List.mem_append] at hu
                  have hsub : ∀ p, p ∈ Y ∨ p ∈ M → p ∈ X := fun p hp => by
                    rcases hp with hp | hp
                    · have := h1.mem_iff.1 hp
                      exact List.mem_of_mem_drop (List.mem_of_mem_take this)
                    · have := h2.mem_iff.1 hp
                      rcases List.mem_append.1 this with h3 | h3
                      · exact List.mem_of_mem_drop (List.mem_of_mem_take h3)
                      · exact List.mem_of_mem_drop (List.mem_of_mem_take h3)
                  refine GoodV.one (HG.out.perm HX.out.2.1) u ?_
                  rcases hu with hu | hu
                  · obtain ⟨p, hp, rfl⟩ := List.mem_map.1 hu
                    exact List.mem_map.2 ⟨p, hsub p (.inl hp), rfl⟩
                  · obtain ⟨p, hp, rfl⟩ := List.mem_map.1 hu
                    exact List.mem_map.2 ⟨p, hsub p (.inr hp), rfl⟩
                have HLEN : Hid ((Y ++ M).length + 1 ≤ 1000000000000) := by
                  have h1 := hlv.out.1.perm.length_eq
                  have h2 := HM.out.2.2.perm.length_eq
                  have hm := HM.out.2.2
                  rw [sgV_len hlv.out.1.le] at h1
                  rw [List.length_append, sgV_len (by have := hm.b3; have := hm.b4; have := hm.b2; have := hm.b5; omega), sgV_len (by have := hm.b4; have := hm.b5; omega)] at h2
                  have := HXL.out
                  have := hm.b2; have := hm.b4
                  show _ ≤ _
                  rw [List.length_append]; omega
                by_cases hii : i < mid
                · have hi1 : decide (i < mid) = true := decide_eq_true (by omega)
                  obtain ⟨Ai, ni, ci, ei, ri, hin⟩ := HG.out (nthV X i) (HX.out.2.1.mem_iff.1 (by rw [nthV_lt (by have := HXL.out; omega)]; exact List.getElem_mem _))
                  have zi := HOX.out.cell (k := i) (by have := HXL.out; omega)
                  rw [ei] at zi
                  have Ei := Lib.hid ei
                  have Ri : Hid (RI wr Ai ni (nthV X i).2) := ri.below (HX.out.2.2.2.trans (HM.out.2.1.mono HX.out.2.2.2.size))
                  have hni : ni ≤ 1000000 := hin
                  clear ei ri hin
                  by_cases hjj : j < en
                  · have hj1 : decide (en ≤ j) = false := decide_eq_false (by omega)
                    obtain ⟨Aj, nj, cj, ej, rj, hjn⟩ := HG.out (nthV X j) (HX.out.2.1.mem_iff.1 (by rw [nthV_lt (by have := HXL.out; omega)]; exact List.getElem_mem _))
                    have zj := HOX.out.cell (k := j) (by have := HXL.out; omega)
                    rw [ej] at zj
                    have Ej := Lib.hid ej
                    have Rj : Hid (RI wr Aj nj (nthV X j).2) := rj.below (HX.out.2.2.2.trans (HM.out.2.1.mono HX.out.2.2.2.size))
                    have hnj : nj ≤ 1000000 := hjn
                    clear ej rj hjn
                    have HLT : Hid (∀ b, lexLt (nthV X j).2 (nthV X i).2 = b → ∀ q', Calls Try.prog 143 #[.slice Aj nj cj, .slice Ai ni ci] (wr.drewN q') (Gives (wr.drewN q') (.bool b))) := fun b hb2 q' => by
                      rw [← hb2]
                      exact l1Less_any cj ci (Rj.out.drewN q') (Ri.out.drewN q') (by omega) (by omega)
                    rcases hlx : lexLt (nthV X j).2 (nthV X i).2 with _ | _
                    · have HLX := Lib.hid hlx
                      have HCL := Lib.hid (HLT.out _ hlx)
                      clear hlx HLT
                      go_wp2
                      go_quiet (first | (go_at_call 143; first | (with_reducible exact qcall (HCL.out _)) | (with_reducible exact qcall_add (HCL.out _))))
                      obtain ⟨w5, e5⟩ : ∃ W, W = wr.drewN nq := ⟨_, rfl⟩
                      rw [← e5]
                      have HM5 : Hid (OV w5 wo.heap.size (.slice An nn cn) (Y ++ M) ∧ Below wo.heap.size wo w5) := by rw [e5]; exact ⟨HM.out.1.below (below_drewN (Below.refl _ _) _), below_drewN HM.out.2.1 _⟩
                      have z5 : w5.cell? ⟨go, i, none⟩ = some (.slice Ai ni ci) := by rw [e5]; exact zi
                      have HN5 : Hid (∀ u, ([nthV X i].map Prod.fst)[0]? = some u → u = .slice Ai ni ci) := fun u hu => by
                        simp at hu
                        rw [← hu]; exact Ei.out
                      clear e5
                      go_wp2_with (at_builtin; refine wpAppV rfl _ _ rfl wo.heap.size (.slice An nn cn) (Y ++ M) [nthV X i] ⟨w5.heap.size, 0, none⟩ 1 1 rfl rfl (HM5.out.1.below ((Below.refl _ _).alloc (Nat.le_refl _) _)) HONE.out (fun u hu => by rw [List.map_cons, List.map_nil, List.mem_singleton] at hu; rw [hu, Ei.out]; rfl) rfl (fun q u hu => by
                          have hq : q = 0 := by have := (List.getElem?_eq_some_iff.1 hu).1; simp at this; omega
                          subst hq
                          rw [HN5.out u hu]
                          exact new_cells w5 [_] _ 0 _ rfl) HLEN.out (Nat.le_trans HM5.out.2.size (by simp)) ?_; intro v6 w6 o6 g6 k6)
                      obtain ⟨A6, n6, c6, rfl, -⟩ := o6.form
                      have hbA : Below wo.heap.size wo (w5.alloc (.cells #[.slice Ai ni ci] 22)) := HM5.out.2.alloc HM5.out.2.size _
                      have HF : Hid (OV w6 wo.heap.size (.slice A6 n6 c6) (Y ++ (M ++ [nthV X i])) ∧ Below wo.heap.size wo w6 ∧ MrgV X a mid en (i + 1) j (M ++ [nthV X i])) := by
                        refine ⟨by rw [← List.append_assoc]; exact o6, hbA.grown g6 hbA.size fun k hk => (HM.out.1.lt k hk).1, HM.out.2.2.left hii (fun k h1 h2 => HC1.out i k HM.out.2.2.b1 h1 h2) fun _ k h1 h2 => by
                          have e : LeP (nthV X i) (nthV X j) := HLX.out
                          rcases Nat.eq_or_lt_of_le h1 with h3 | h3
                          · rw [← h3]; exact e
                          · exact e.trans (HC2.out j k HM.out.2.2.b3 h3 h2)⟩
                      clear o6 g6 k6 hbA
                      go_roundw
                      case rel => exact ⟨i + 1, j, A6, n6, c6, _, rfl, by go_num, rfl, by omega, hj, HF.out⟩
                      case measure => simp [intOf]; omega
                    · have HLX := Lib.hid hlx
                      have HCL := Lib.hid (HLT.out _ hlx)
                      clear hlx HLT
                      go_wp2
                      go_quiet (first | (go_at_call 143; first | (with_reducible exact qcall (HCL.out _)) | (with_reducible exact qcall_add (HCL.out _))))
                      obtain ⟨w5, e5⟩ : ∃ W, W = wr.drewN nq := ⟨_, rfl⟩
                      rw [← e5]
                      have HM5 : Hid (OV w5 wo.heap.size (.slice An nn cn) (Y ++ M) ∧ Below wo.heap.size wo w5) := by rw [e5]; exact ⟨HM.out.1.below (below_drewN (Below.refl _ _) _), below_drewN HM.out.2.1 _⟩
                      have z5 : w5.cell? ⟨go, j, none⟩ = some (.slice Aj nj cj) := by rw [e5]; exact zj
                      have HN5 : Hid (∀ u, ([nthV X j].map Prod.fst)[0]? = some u → u = .slice Aj nj cj) := fun u hu => by
                        simp at hu
                        rw [← hu]; exact Ej.out
                      clear e5
                      go_wp2_with (at_builtin; refine wpAppV rfl _ _ rfl wo.heap.size (.slice An nn cn) (Y ++ M) [nthV X j] ⟨w5.heap.size, 0, none⟩ 1 1 rfl rfl (HM5.out.1.below ((Below.refl _ _).alloc (Nat.le_refl _) _)) HONE.out (fun u hu => by rw [List.map_cons, List.map_nil, List.mem_singleton] at hu; rw [hu, Ej.out]; rfl) rfl (fun q u hu => by
                          have hq : q = 0 := by have := (List.getElem?_eq_some_iff.1 hu).1; simp at this; omega
                          subst hq
                          rw [HN5.out u hu]
                          exact new_cells w5 [_] _ 0 _ rfl) HLEN.out (Nat.le_trans HM5.out.2.size (by simp)) ?_; intro v6 w6 o6 g6 k6)
                      obtain ⟨A6, n6, c6, rfl, -⟩ := o6.form
                      have hbA : Below wo.heap.size wo (w5.alloc (.cells #[.slice Aj nj cj] 22)) := HM5.out.2.alloc HM5.out.2.size _
                      have HF : Hid (OV w6 wo.heap.size (.slice A6 n6 c6) (Y ++ (M ++ [nthV X j])) ∧ Below wo.heap.size wo w6 ∧ MrgV X a mid en i (j + 1) (M ++ [nthV X j])) := by
                        refine ⟨by rw [← List.append_assoc]; exact o6, hbA.grown g6 hbA.size fun k hk => (HM.out.1.lt k hk).1, HM.out.2.2.right hjj (fun k h1 h2 => HC2.out j k HM.out.2.2.b3 h1 h2) fun _ k h1 h2 => by
                          have e : LeP (nthV X j) (nthV X i) := lex_asymm HLX.out
                          rcases Nat.eq_or_lt_of_le h1 with h3 | h3
                          · rw [← h3]; exact e
                          · exact e.trans (HC1.out i k HM.out.2.2.b1 h3 h2)⟩
                      clear o6 g6 k6 hbA
                      go_roundw
                      case rel => exact ⟨i, j + 1, A6, n6, c6, _, rfl, rfl, by go_num, hi, by omega, HF.out⟩
                      case measure => simp [intOf]; omega
                  · have hj1 : decide (en ≤ j) = true := decide_eq_true (by omega)
                    go_wp2
                    go_quiet (fail)
                    obtain ⟨w5, e5⟩ : ∃ W, W = wr.drewN nq := ⟨_, rfl⟩
                    rw [← e5]
                    have HM5 : Hid (OV w5 wo.heap.size (.slice An nn cn) (Y ++ M) ∧ Below wo.heap.size wo w5) := by rw [e5]; exact ⟨HM.out.1.below (below_drewN (Below.refl _ _) _), below_drewN HM.out.2.1 _⟩
                    have z5 : w5.cell? ⟨go, i, none⟩ = some (.slice Ai ni ci) := by rw [e5]; exact zi
                    have HN5 : Hid (∀ u, ([nthV X i].map Prod.fst)[0]? = some u → u = .slice Ai ni ci) := fun u hu => by
                      simp at hu
                      rw [← hu]; exact Ei.out
                    clear e5
                    go_wp2_with (at_builtin; refine wpAppV rfl _ _ rfl wo.heap.size (.slice An nn cn) (Y ++ M) [nthV X i] ⟨w5.heap.size, 0, none⟩ 1 1 rfl rfl (HM5.out.1.below ((Below.refl _ _).alloc (Nat.le_refl _) _)) HONE.out (fun u hu => by rw [List.map_cons, List.map_nil, List.mem_singleton] at hu; rw [hu, Ei.out]; rfl) rfl (fun q u hu => by
                        have hq : q = 0 := by have := (List.getElem?_eq_some_iff.1 hu).1; simp at this; omega
                        subst hq
                        rw [HN5.out u hu]
                        exact new_cells w5 [_] _ 0 _ rfl) HLEN.out (Nat.le_trans HM5.out.2.size (by simp)) ?_; intro v6 w6 o6 g6 k6)
                    obtain ⟨A6, n6, c6, rfl, -⟩ := o6.form
                    have hbA : Below wo.heap.size wo (w5.alloc (.cells #[.slice Ai ni ci] 22)) := HM5.out.2.alloc HM5.out.2.size _
                    have HF : Hid (OV w6 wo.heap.size (.slice A6 n6 c6) (Y ++ (M ++ [nthV X i])) ∧ Below wo.heap.size wo w6 ∧ MrgV X a mid en (i + 1) j (M ++ [nthV X i])) := by
                      refine ⟨by rw [← List.append_assoc]; exact o6, hbA.grown g6 hbA.size fun k hk => (HM.out.1.lt k hk).1, HM.out.2.2.left hii (fun k h1 h2 => HC1.out i k HM.out.2.2.b1 h1 h2) fun h1 => absurd h1 hjj⟩
                    clear o6 g6 k6 hbA
                    go_roundw
                    case rel => exact ⟨i + 1, j, A6, n6, c6, _, rfl, by go_num, rfl, by omega, hj, HF.out⟩
                    case measure => simp [intOf]; omega
                · have hi1 : decide (i < mid) = false := decide_eq_false (by omega)
                  by_cases hjj : j < en
                  · have hj1 : decide (en ≤ j) = false := decide_eq_false (by omega)
                    obtain ⟨Aj, nj, cj, ej, rj, hjn⟩ := HG.out (nthV X j) (HX.out.2.1.mem_iff.1 (by rw [nthV_lt (by have := HXL.out; omega)]; exact List.getElem_mem _))
                    have zj := HOX.out.cell (k := j) (by have := HXL.out; omega)
                    rw [ej] at zj
                    have Ej := Lib.hid ej
                    have Rj : Hid (RI wr Aj nj (nthV X j).2) := rj.below (HX.out.2.2.2.trans (HM.out.2.1.mono HX.out.2.2.2.size))
                    have hnj : nj ≤ 1000000 := hjn
                    clear ej rj hjn
                    go_wp2
                    go_quiet (fail)
                    obtain ⟨w5, e5⟩ : ∃ W, W = wr.drewN nq := ⟨_, rfl⟩
                    rw [← e5]
                    have HM5 : Hid (OV w5 wo.heap.size (.slice An nn cn) (Y ++ M) ∧ Below wo.heap.size wo w5) := by rw [e5]; exact ⟨HM.out.1.below (below_drewN (Below.refl _ _) _), below_drewN HM.out.2.1 _⟩
                    have z5 : w5.cell? ⟨go, j, none⟩ = some (.slice Aj nj cj) := by rw [e5]; exact zj
                    have HN5 : Hid (∀ u, ([nthV X j].map Prod.fst)[0]? = some u → u = .slice Aj nj cj) := fun u hu => by
                      simp at hu
                      rw [← hu]; exact Ej.out
                    clear e5
                    go_wp2_with (at_builtin; refine wpAppV rfl _ _ rfl wo.heap.size (.slice An nn cn) (Y ++ M) [nthV X j] ⟨w5.heap.size, 0, none⟩ 1 1 rfl rfl (HM5.out.1.below ((Below.refl _ _).alloc (Nat.le_refl _) _)) HONE.out (fun u hu => by rw [List.map_cons, List.map_nil, List.mem_singleton] at hu; rw [hu, Ej.out]; rfl) rfl (fun q u hu => by
                        have hq : q = 0 := by have := (List.getElem?_eq_some_iff.1 hu).1; simp at this; omega
                        subst hq
                        rw [HN5.out u hu]
                        exact new_cells w5 [_] _ 0 _ rfl) HLEN.out (Nat.le_trans HM5.out.2.size (by simp)) ?_; intro v6 w6 o6 g6 k6)
                    obtain ⟨A6, n6, c6, rfl, -⟩ := o6.form
                    have hbA : Below wo.heap.size wo (w5.alloc (.cells #[.slice Aj nj cj] 22)) := HM5.out.2.alloc HM5.out.2.size _
                    have HF : Hid (OV w6 wo.heap.size (.slice A6 n6 c6) (Y ++ (M ++ [nthV X j])) ∧ Below wo.heap.size wo w6 ∧ MrgV X a mid en i (j + 1) (M ++ [nthV X j])) := by
                      refine ⟨by rw [← List.append_assoc]; exact o6, hbA.grown g6 hbA.size fun k hk => (HM.out.1.lt k hk).1, HM.out.2.2.right hjj (fun k h1 h2 => HC2.out j k HM.out.2.2.b3 h1 h2) fun h1 => absurd h1 hii⟩
                    clear o6 g6 k6 hbA
                    go_roundw
                    case rel => exact ⟨i, j + 1, A6, n6, c6, _, rfl, rfl, by go_num, hi, by omega, HF.out⟩
                    case measure => simp [intOf]; omega
                  · have HF : Hid (LvlV s X (min (a + 2 * s) n3) (Y ++ M)) := by
                      have hm := HM.out.2.2
                      obtain rfl : i = mid := by omega
                      obtain rfl : j = en := by omega
                      obtain ⟨hl, q, hq⟩ := hlv.out
                      have hen := HEN.out
                      rw [← hen]
                      rw [hq] at hl hm
                      exact hl.next (by omega) hm (by rw [← hq]; omega)
                    go_wp2
                    go_roundw
                    case rel =>
                      refine ⟨a + 2 * s, An, nn, cn, Y ++ M, rfl, by go_num, by omega, HM.out.1, HM.out.2.1, HF.out, ?_⟩
                      obtain ⟨q, hq⟩ := hlv.out.2
                      exact ⟨q + 1, by rw [hq, Nat.mul_add, Nat.mul_one]⟩
                    case measure => simp [intOf]; omega
        · have HF : Hid (OV wr w.heap.size (.slice An nn cn) Y ∧ Y.Perm X0 ∧ ChunkV (2 * s) Y ∧ Below w.heap.size w wr) := by
            obtain ⟨o1, b1, lv, -⟩ := HY.out
            have hl : X.length = n3 := by rw [HX.out.2.1.length_eq, ← HN0.out]
            rw [show min a n3 = X.length by omega] at lv
            have hp := lv.perm
            rw [sgV_all] at hp
            exact ⟨o1.mono HX.out.2.2.2.size, hp.trans HX.out.2.1, lv.chunk, HX.out.2.2.2.trans (b1.mono HX.out.2.2.2.size)⟩
          obtain rfl : nn = n3 := by have := HF.out.1.len; have := HF.out.2.1.length_eq; have := HN0.out; omega
          go_wp2
          go_roundw
          case rel => exact ⟨An, cn, 2 * s, Y, rfl, by go_num, by omega, by omega, HF.out⟩
          case measure => simp [intOf]; omega
    · have hXl : X.length = n3 := by rw [HX.out.2.1.length_eq, ← HN0.out]
      have HFIN : Hid (∃ X' : List PV, X'.Perm X0 ∧ X'.Pairwise LeP ∧ ReadsS w (X'.map Prod.snd) (.returned (.slice Ao n3 co)) wr) :=
        ⟨X, HX.out.2.1, chunkV_all HX.out.2.2.1 (by omega), Ao, n3, co, rfl, HX.out.1.rs ((HG.out.perm HX.out.2.1).below HX.out.2.2.2), HX.out.2.2.2⟩
      clear hXl
      go_wp2
      go_ret
      exact HFIN.out
end Go.Proofs.Ytgbojgmmingfdaa
