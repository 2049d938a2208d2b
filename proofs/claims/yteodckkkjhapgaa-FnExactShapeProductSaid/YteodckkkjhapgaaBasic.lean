/- The small functions of the statements: copies, comparisons, marks. -/
import Derived.Test.YteodckkkjhapgaaWords
namespace Go.Proofs.Yteodckkkjhapgaa
open Go.RowKit

def Gives (w : World) (v : Value) : Ending → World → Prop := fun e w' => e = .returned v ∧ Quiet w w'

/-- A value, new blocks. -/
def GivesB (w : World) (v : Value) : Ending → World → Prop := fun e w' => e = .returned v ∧ Below w.heap.size w w'

theorem two_cells {w W : World} {p q : Addr} {u u' : Value} (b : Below w.heap.size w W) (x1 : w.cell? p = some u) (x4 : w.cell? q = some u') : W.cell? p = some u ∧ W.cell? q = some u' :=
  ⟨(b.cell (World.block_lt_of_cell? w _ x1)).trans x1, (b.cell (World.block_lt_of_cell? w _ x4)).trans x4⟩
theorem one_cell {w W : World} {p : Addr} {u : Value} (b : Below w.heap.size w W) (x1 : w.cell? p = some u) : W.cell? p = some u := (b.cell (World.block_lt_of_cell? w _ x1)).trans x1

theorem qcall {P : Program} {f : FuncId} {args : Array Value} {w : World} {n : Nat} {v : Value} (h : Calls P f args (w.drewN n) (Gives (w.drewN n) v)) :
    Calls P f args (w.drewN n) fun e w'' => e = .returned v ∧ ∃ m, w'' = w.drewN m :=
  h.mono fun _ _ ⟨he, m, hm⟩ => ⟨he, n + m, by rw [← hm, World.drewN_drewN]⟩
theorem qcall_add {P : Program} {f : FuncId} {args : Array Value} {w : World} {a n : Nat} {v : Value} (h : Calls P f args (w.drewN (a + n)) (Gives (w.drewN (a + n)) v)) :
    Calls P f args (w.drewN (a + n)) fun e w'' => e = .returned v ∧ ∃ m, w'' = w.drewN (a + m) :=
  h.mono fun _ _ ⟨he, m, hm⟩ => ⟨he, n + m, by rw [← hm, World.drewN_drewN, Nat.add_assoc]⟩

theorem agree_all {xs ys : List Int} {n : Nat} (h1 : xs.length = n) (h2 : ys.length = n) (h : ∀ j, j < n → nth xs j = nth ys j) : xs = ys :=
  ext_nth (h1.trans h2.symm) (fun j hj => h j (by omega))

theorem eqI_any {A C : Option Addr} {n m : Nat} {xs ys : List Int} {w : World} (b : Bool) (c d : Nat) (hx : RI w A n xs) (hy : RI w C m ys) (hb : b = decide (xs = ys)) (hn : n ≤ 9223372036854775807) (hm : m ≤ 9223372036854775807) :
    Calls Try.prog 35 #[.slice A n c, .slice C m d] w (Gives w (.bool b)) := by
  have HL1 := Lib.hid hx.1
  have HL2 := Lib.hid hy.1
  have HB := Lib.hid hb
  clear hb
  by_cases hnm : n = m
  · subst hnm
    go_enter Try.func35, Try.ntmps35
    go_wp2
    go_loopw [5] (fun i wr => ∃ k q : Nat, k ≤ n ∧ i = .int .i64 k ∧ w.drewN q = wr ∧ ∀ j, j < k → nth xs j = nth ys j) (fun i _ => n - (intOf i).toNat)
    case atStart => exact ⟨0, 0, Nat.zero_le _, rfl, rfl, by simp⟩
    case round =>
      obtain ⟨k, q, hk, rfl, rfl, ht⟩ := hrel
      have HT := Lib.hid ht
      clear ht
      by_cases hlt : k < n
      · obtain ⟨ad, hA, hc⟩ := hx.cell hlt
        obtain ⟨ad', hA', hc'⟩ := hy.cell hlt
        subst hA hA'
        go_wp2
        go_quiet (fail)
        go_wp2
        · go_ret
          refine ⟨?_, _, (World.drewN_drewN _ _ _).symm⟩
          have : b = false := by
            rw [HB.out]
            rename_i hne
            simp only [decide_eq_false_iff_not]
            intro e
            subst e
            simp at hne
          rw [this]; rfl
        · go_roundw
          case rel =>
            refine ⟨k + 1, _, by omega, by go_num, rfl, ?_⟩
            intro j hj
            rename_i hne
            by_cases hjk : j = k
            · subst hjk; simpa using hne
            · exact HT.out j (by omega)
          case measure => simp [intOf]; omega
      · go_wp2
        go_ret
        refine ⟨?_, _, rfl⟩
        have : b = true := by
          rw [HB.out]
          simp only [decide_eq_true_eq]
          exact agree_all HL1.out HL2.out (fun j hj => HT.out j (by omega))
        rw [this]; rfl
  · go_enter Try.func35, Try.ntmps35
    go_wp2
    go_ret
    refine ⟨?_, Quiet.refl _⟩
    have : b = false := by
      rw [HB.out]
      simp only [decide_eq_false_iff_not]
      intro e
      subst e
      exact hnm (HL1.out.symm.trans HL2.out)
    rw [this]; rfl

/-- What a function leaves that returns a new slice. -/
def Makes (w : World) (l : List Int) : Ending → World → Prop := fun e w' =>
  ∃ A n c, e = .returned (.slice A n c) ∧ OI w' w.heap.size (.slice A n c) l ∧ RI w' A n l ∧ (n ≤ c ∧ n ≤ 1000000000000) ∧ Below w.heap.size w w'
theorem Makes.of {w w' : World} {v : Value} {l : List Int} (ho : OI w' w.heap.size v l) (hb : Below w.heap.size w w') (hl : l.length ≤ 1000000000000) : Makes w l (.returned v) w' := by
  obtain ⟨A, n, c, rfl, hr, hc, _⟩ := ho.form
  exact ⟨A, n, c, rfl, ho, hr, ⟨hc, hr.1 ▸ hl⟩, hb⟩
theorem Makes.nil {w w' : World} (hb : Below w.heap.size w w') : Makes w [] (.returned (.slice none 0 0)) w' := Makes.of (OI.nil_ _ _) hb (by simp)

/-- The same with a number and a bool behind it. -/
def Makes3 (w : World) (l : List Int) (k : Int) (b : Bool) : Ending → World → Prop := fun e w' =>
  ∃ A n c, e = .returned (.tuple #[.slice A n c, .int .i64 k, .bool b]) ∧ OI w' w.heap.size (.slice A n c) l ∧ RI w' A n l ∧ (n ≤ c ∧ n ≤ 1000000000000) ∧ Below w.heap.size w w'
theorem Makes3.of {w w' : World} {v : Value} {l : List Int} {k : Int} {b : Bool} (ho : OI w' w.heap.size v l) (hb : Below w.heap.size w w') (hl : l.length ≤ 1000000000000) : Makes3 w l k b (.returned (.tuple #[v, .int .i64 k, .bool b])) w' := by
  obtain ⟨A, n, c, rfl, hr, hc, _⟩ := ho.form
  exact ⟨A, n, c, rfl, ho, hr, ⟨hc, hr.1 ▸ hl⟩, hb⟩

theorem toI_any {A : Option Addr} {n : Nat} {xs : List Int} {w : World} (c : Nat) (hx : RI w A n xs) (hn : n ≤ 1000000000) :
    Calls Try.prog 32 #[.slice A n c] w (Makes w xs) := by
  have HL := Lib.hid hx.1
  go_enter Try.func32, Try.ntmps32
  go_wp2_with (at_make; refine wpMake rfl _ _ rfl n _ _ rfl rfl rfl rfl (by omega) ?_; intro w1 hown hbel hsz)
  go_loopw [4] (fun i wr => ∃ (k : Nat) (l : List Int), k ≤ n ∧ i = .int .i64 k ∧ OI wr w.heap.size (.slice (some ⟨w.heap.size, 0, none⟩) n n) l ∧ Below w.heap.size w wr ∧ ∀ j, j < k → nth l j = nth xs j) (fun i _ => n - (intOf i).toNat)
  case atStart => exact ⟨0, _, Nat.zero_le _, rfl, hown, hbel, by simp⟩
  case round =>
    obtain ⟨k, l, hk, rfl, ho, hb, ht⟩ := hrel
    have HT := Lib.hid ht
    clear ht
    by_cases hlt : k < n
    · obtain ⟨ad, hA, hc⟩ := (hx.below hb).cell hlt
      subst hA
      have hc2 := ho.cellAt hlt
      have hf := ho.frozenAt k
      have HS := Lib.hid (ho.stored k (nth xs k))
      have hl := Lib.hid ho.len
      clear ho
      go_wp2
      go_roundw
      case rel =>
        refine ⟨k + 1, _, by omega, by go_num, HS.out.1, hb.setCell (Nat.le_refl _) _, ?_⟩
        intro j hj
        by_cases hjk : j = k
        · subst hjk; exact nth_set_eq (by rw [hl.out]; exact hlt)
        · rw [nth_set_ne (Ne.symm hjk)]; exact HT.out j (by omega)
      case measure => simp [intOf]; omega
    · have hl := ho.len
      have e : l = xs := agree_all hl HL.out (fun j hj => HT.out j (by omega))
      subst e
      have HO := Lib.hid ho
      clear ho hl
      go_wp2
      go_ret
      exact Makes.of HO.out hb (by rw [HL.out]; omega)

/-- The numbers from k on, n of them. -/
def upFrom (k : Int) (n : Nat) : List Int := (List.range n).map (fun i : Nat => k + (i : Int))
theorem upFrom_len (k : Int) (n : Nat) : (upFrom k n).length = n := by simp [upFrom]
theorem upFrom_nth {k : Int} {n j : Nat} (h : j < n) : nth (upFrom k n) j = k + j := by
  rw [nth_lt (by rw [upFrom_len]; exact h)]; simp [upFrom]

theorem markI_any {w : World} {base : Nat} {A : Option Addr} {n c : Nat} {l : List Int} (k0 : Int) (ho : OI w base (.slice A n c) l) (h0 : 0 ≤ k0) (h1 : k0 ≤ 1000000000000) (hn : n ≤ 1000000000000) :
    Calls Try.prog 36 #[.slice A n c, .int .i64 k0] w (fun e w' => e = .returned (.int .i64 (k0 + n)) ∧ OI w' base (.slice A n c) (upFrom k0 n) ∧ w.grownBy w' (Value.ownBlock (.slice A n c))) := by
  rcases ho.2 with ⟨he, hl⟩ | ⟨g, cap, cur, he, r⟩
  · injection he with h1 h2 h3
    subst h1 h2 h3
    obtain rfl : l = [] := List.eq_nil_of_length_eq_zero hl
    have HO := Lib.hid ho
    clear ho hl
    go_enter Try.func36, Try.ntmps36
    go_wp2
    go_loopw [1, 5] (fun k i wr => k = .int .i64 k0 ∧ i = .int .i64 0 ∧ w = wr) (fun _ i _ => 0)
    case atStart => exact ⟨rfl, rfl, rfl⟩
    case round =>
      obtain ⟨rfl, rfl, rfl⟩ := hrel
      go_wp2
      go_ret
      exact ⟨by simp, HO.out, World.grownBy.refl _ _⟩
  · injection he with h1 h2 h3
    subst h1
    clear r h2 h3
    go_enter Try.func36, Try.ntmps36
    go_wp2
    go_loopw [1, 5] (fun k i wr => ∃ (q : Nat) (m : List Int), q ≤ n ∧ k = .int .i64 (k0 + q) ∧ i = .int .i64 q ∧ OI wr base (.slice (some ⟨g, 0, none⟩) n c) m ∧ w.grownBy wr (some g) ∧ ∀ j, j < q → nth m j = k0 + j) (fun _ i _ => n - (intOf i).toNat)
    case atStart => exact ⟨0, l, Nat.zero_le _, by simp, rfl, ho, World.grownBy.refl _ _, by simp⟩
    case round =>
      obtain ⟨q, m, hq, rfl, rfl, hom, hg, ht⟩ := hrel
      have HT := Lib.hid ht
      have HG := Lib.hid hg
      clear ht hg ho
      by_cases hlt : q < n
      · have hc2 := hom.cellAt hlt
        have hf := hom.frozenAt q
        have HS := Lib.hid (hom.stored q (k0 + q))
        have hl := Lib.hid hom.len
        clear hom
        go_wp2
        go_roundw
        case rel =>
          refine ⟨q + 1, _, by omega, by go_num, by go_num, HS.out.1, HG.out.trans HS.out.2, ?_⟩
          intro j hj
          by_cases hjk : j = q
          · subst hjk; exact nth_set_eq (by rw [hl.out]; exact hlt)
          · rw [nth_set_ne (Ne.symm hjk)]; exact HT.out j (by omega)
        case measure => simp [intOf]; omega
      · have hl := hom.len
        obtain rfl : q = n := by omega
        have e : m = upFrom k0 q := agree_all hl (upFrom_len _ _) (fun j hj => by rw [HT.out j (by omega), upFrom_nth hj])
        subst e
        have HO := Lib.hid hom
        clear hom hl
        go_wp2
        go_ret
        exact ⟨rfl, HO.out, HG.out⟩

theorem heldI_any {A : Option Addr} {n : Nat} {w : World} (c : Nat) (k0 : Int) (hx : RI w A n (upFrom k0 n)) (h0 : 0 ≤ k0) (h1 : k0 ≤ 1000000000000) (hn : n ≤ 1000000000000) :
    Calls Try.prog 91 #[.slice A n c, .int .i64 k0] w (Gives w (.int .i64 (k0 + n))) := by
  go_enter Try.func91, Try.ntmps91
  go_wp2
  go_loopw [1, 5] (fun k i wr => ∃ (q : Nat), q ≤ n ∧ k = .int .i64 (k0 + q) ∧ i = .int .i64 q ∧ w = wr) (fun _ i _ => n - (intOf i).toNat)
  case atStart => exact ⟨0, Nat.zero_le _, by simp, rfl, rfl⟩
  case round =>
    obtain ⟨q, hq, rfl, rfl, rfl⟩ := hrel
    by_cases hlt : q < n
    · obtain ⟨ad, hA, hc⟩ := hx.cell hlt
      subst hA
      rw [upFrom_nth hlt] at hc
      go_wp2
      go_roundw
      case rel => exact ⟨q + 1, by omega, by go_num, by go_num, by trivial⟩
      case measure => simp [intOf]; omega
    · obtain rfl : q = n := by omega
      go_wp2
      go_ret
      exact ⟨rfl, Quiet.refl _⟩

/-- What a law leaves. -/
def Law (w : World) : Ending → World → Prop := fun e w' => e = .returned (.bool true) ∧ Below w.heap.size w w'
theorem bmark {B : Nat} {a w w' wx : World} {base : Nat} {v : Value} {l : List Int} (g : Below B a w) (hg : w.grownBy w' v.ownBlock) (ho : OI wx base v l) (hB : B ≤ base) (hs : B ≤ w.heap.size) : Below B a w' :=
  g.grown hg hs fun k hk => Nat.le_trans hB (ho.lt k hk).1
theorem bnext {B : Nat} {a b c : World} (h : Below B a b) (k : Below b.heap.size b c) (hB : B ≤ b.heap.size) : Below B a c := h.trans (k.mono hB)
end Go.Proofs.Yteodckkkjhapgaa
