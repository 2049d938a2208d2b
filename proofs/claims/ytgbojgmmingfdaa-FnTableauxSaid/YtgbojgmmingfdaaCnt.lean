/- slices.Equal; the number of times that a shape stands among parts: program and reference. -/
import Derived.Test.YtgbojgmmingfdaaSee
import Derived.Test.YtgbojgmmingfdaaAdd
import Derived.Test.YtgbojgmmingfdaaBegW
namespace Go.Proofs.Ytgbojgmmingfdaa
open Go.RowKit

theorem equal_any {A C : Option Addr} {n m : Nat} {xs ys : List Int} {w : World} (b : Bool) (c d : Nat) (hx : RI w A n xs) (hy : RI w C m ys) (hb : b = decide (xs = ys)) (hn : n ≤ 9223372036854775807) (hm : m ≤ 9223372036854775807) :
    Calls Try.prog 79 #[.slice A n c, .slice C m d] w (Gives w (.bool b)) := by
  have HL1 := Lib.hid hx.1
  have HL2 := Lib.hid hy.1
  have HB := Lib.hid hb
  clear hb
  by_cases hnm : n = m
  · subst hnm
    go_enter Try.func79, Try.ntmps79
    go_wp2
    go_loopw [5, 13] (fun _ i wr => ∃ k q : Nat, k ≤ n ∧ i = .int .i64 k ∧ w.drewN q = wr ∧ ∀ j, j < k → nth xs j = nth ys j) (fun _ i _ => n - (intOf i).toNat)
    case atStart => exact ⟨0, 0, Nat.zero_le _, rfl, rfl, by simp⟩
    case round =>
      obtain ⟨k, q, hk, rfl, rfl, ht⟩ := hrel
      have HT := Lib.hid ht
      clear ht
      by_cases hlt : k < n
      · obtain ⟨ad, hA, hc⟩ := hx.cell hlt
        obtain ⟨ad', hA', hc'⟩ := hy.cell hlt
        subst hA hA'
        go_wp2
        go_quiet (fail)
        go_wp2
        · go_ret
          refine ⟨?_, _, (World.drewN_drewN _ _ _).symm⟩
          have : b = false := by
            rw [HB.out]
            rename_i hne
            simp only [decide_eq_false_iff_not]
            intro e
            subst e
            simp at hne
          rw [this]; rfl
        · go_roundw
          case rel =>
            refine ⟨k + 1, _, by omega, by go_num, rfl, ?_⟩
            intro j hj
            rename_i hne
            by_cases hjk : j = k
            · subst hjk; simpa using hne
            · exact HT.out j (by omega)
          case measure => simp [intOf]; omega
      · go_wp2
        go_ret
        refine ⟨?_, _, rfl⟩
        have : b = true := by
          rw [HB.out]
          simp only [decide_eq_true_eq]
          exact agree_all HL1.out HL2.out (fun j hj => HT.out j (by omega))
        rw [this]; rfl
  · go_enter Try.func79, Try.ntmps79
    go_wp2
    go_ret
    refine ⟨?_, Quiet.refl _⟩
    have : b = false := by
      rw [HB.out]
      simp only [decide_eq_false_iff_not]
      intro e
      subst e
      exact hnm (HL1.out.symm.trans HL2.out)
    rw [this]; rfl

/-- How many times a shape stands among parts: the first of its kind. -/
def cntP (ps : List (List Int × Int)) (s : List Int) : Int := match ps with | [] => 0 | x :: r => if x.1 = s then x.2 else cntP r s
theorem cntP_at : ∀ {ps : List (List Int × Int)} {s : List Int} {k : Nat}, (∀ j, j < k → (nthP ps j).1 ≠ s) → k < ps.length → (nthP ps k).1 = s → cntP ps s = (nthP ps k).2
  | [], s, k, _, hk, _ => by simp at hk
  | x :: r, s, 0, _, _, h => by
    have h' : x.1 = s := h
    rw [cntP, if_pos h']; rfl
  | x :: r, s, k + 1, h0, hk, h => by
    have h1 : x.1 ≠ s := h0 0 (by omega)
    rw [cntP, if_neg h1]
    have e : ∀ j, nthP (x :: r) (j + 1) = nthP r j := fun j => by simp [nthP, List.getD]
    rw [e] at h ⊢
    exact cntP_at (fun j hj => by have := h0 (j + 1) (by omega); rw [e] at this; exact this) (by simpa using hk) h
theorem cntP_none : ∀ {ps : List (List Int × Int)} {s : List Int}, (∀ j, j < ps.length → (nthP ps j).1 ≠ s) → cntP ps s = 0
  | [], s, _ => rfl
  | x :: r, s, h0 => by
    have h1 : x.1 ≠ s := h0 0 (by simp)
    rw [cntP, if_neg h1]
    have e : ∀ j, nthP (x :: r) (j + 1) = nthP r j := fun j => by simp [nthP, List.getD]
    exact cntP_none fun j hj => by have := h0 (j + 1) (by simpa using hj); rw [e] at this; exact this
set_option maxHeartbeats 1000000 in
theorem countOf_any {w : World} {base b n : Nat} {A : Option Addr} {s : List Int} {v : Value} {ps : List (List Int × Int)} {cells : List Value} (c : Nat) (hx : RI w A n s) (hn : n ≤ 1000000) (ho : OP w base b v ps cells) (hl : ∀ k, k < ps.length → (nthP ps k).1.length ≤ 1000000) (hN : ps.length ≤ 100000000000) :
    Calls Try.prog 125 #[v, .slice A n c] w (GivesB w (.int .i64 (cntP ps s))) := by
  obtain ⟨A0, n0, c0, rfl, hn0, hc0, hc63⟩ := ho.form
  rw [hn0] at hN
  have HN := Lib.hid hn0
  have HL := Lib.hid hl
  have HX := Lib.hid hx
  have HO := Lib.hid ho
  clear hn0 hl ho
  go_enter Try.func125, Try.ntmps125
  go_wp2
  go_loopw [6, 9] (fun _ i wr => ∃ k : Nat, k ≤ n0 ∧ i = .int .i64 (k : Int) ∧ Below w.heap.size w wr ∧ Hid (∀ j, j < k → (nthP ps j).1 ≠ s)) (fun _ i _ => n0 - (intOf i).toNat)
  case atStart => exact ⟨0, Nat.zero_le _, rfl, Below.refl _ _, fun j hj => by omega⟩
  case round =>
    obtain ⟨k, hk, rfl, hb, ht⟩ := hrel
    by_cases hlt : k < n0
    · have hok := HO.out.below hb
      obtain ⟨G, cc, hGG, _⟩ := OF.shape hok (by rw [HN.out]; omega)
      obtain ⟨rfl, e2, e3⟩ := slice_inj hGG
      clear e2 e3 hGG
      obtain ⟨A4, n4, c4, k1, _, k2, _, k4⟩ := OP.cell hok (k := k) (by rw [HN.out]; exact hlt)
      have hl4 := HL.out k (by rw [HN.out]; exact hlt)
      have hri := k2.ri
      rw [hri.1] at hl4
      have HK := Lib.hid hri
      have HB := Lib.hid hb
      have hs := hb.size
      clear hok k2 hri hb
      rcases hd : decide ((nthP ps k).1 = s) with _ | _
      · have HD := Lib.hid hd
        have HS : Hid (∀ W, Below wr.heap.size wr W → Calls Try.prog 79 #[.slice A4 n4 c4, .slice A n c] W (Gives W (.bool false))) := fun W bW => equal_any false _ _ (HK.out.below bW) ((HX.out.below HB.out).below bW) HD.out.symm (by omega) (by omega)
        clear hd
        go_wp2_with (go_at_call 79; (with_reducible refine (HS.out _ ?_).mono ?_); (exact (Below.refl _ _).alloc (Nat.le_refl _) _); rintro e w' ⟨rfl, q0, rfl⟩)
        go_roundw
        case rel => exact ⟨k + 1, by omega, by go_num, below_drewN (HB.out.alloc hs _) _, fun j hj => by
          by_cases e : j = k
          · subst e; exact of_decide_eq_false HD.out
          · exact ht.out j (by omega)⟩
        case measure => simp [intOf]; omega
      · have HD := Lib.hid hd
        have HS : Hid (∀ W, Below wr.heap.size wr W → Calls Try.prog 79 #[.slice A4 n4 c4, .slice A n c] W (Gives W (.bool true))) := fun W bW => equal_any true _ _ (HK.out.below bW) ((HX.out.below HB.out).below bW) HD.out.symm (by omega) (by omega)
        have HE := Lib.hid (cntP_at ht.out (by rw [HN.out]; exact hlt) (of_decide_eq_true hd))
        clear hd
        go_wp2_with (go_at_call 79; (with_reducible refine (HS.out _ ?_).mono ?_); (exact (Below.refl _ _).alloc (Nat.le_refl _) _); rintro e w' ⟨rfl, q0, rfl⟩)
        go_ret
        rw [HE.out]
        exact ⟨rfl, below_drewN (HB.out.alloc hs _) _⟩
    · obtain rfl : k = n0 := by omega
      have HE := Lib.hid (cntP_none (ps := ps) (s := s) fun j hj => ht.out j (by rw [HN.out] at hj; exact hj))
      go_wp2
      go_ret
      rw [HE.out]
      exact ⟨rfl, hb⟩
end Go.Proofs.Ytgbojgmmingfdaa

/- Tableaux compared, and looked for in a list of tableaux. -/
namespace Go.Proofs.Ytgbojgmmingfdaa
open Go.RowKit

theorem ext_rows {a b : List (List Int)} (hl : a.length = b.length) (h : ∀ j, j < a.length → nthL a j = nthL b j) : a = b := by
  apply List.ext_getElem hl
  intro i h1 h2
  have := h i h1
  rwa [nthL_lt h1, nthL_lt h2] at this
set_option maxRecDepth 100000 in
set_option maxHeartbeats 1000000 in
theorem eqF_any {A B : Option Addr} {n m : Nat} {ls ms : List (List Int)} {w : World} (c d : Nat) (hx : RS w A n ls) (hy : RS w B m ms) (hn : n ≤ 1000000) (hm : m ≤ 1000000) (hs : ∀ k, k < n → (nthL ls k).length ≤ 1000000) (ht : ∀ k, k < m → (nthL ms k).length ≤ 1000000) :
    Calls Try.prog 78 #[.slice A n c, .slice B m d, .func (.func 79) #[] #[]] w (Gives w (.bool (decide (ls = ms)))) := by
  have HL : Hid (ls.length = n) := hx.1
  have HM : Hid (ms.length = m) := hy.1
  have HX := Lib.hid hx
  have HY := Lib.hid hy
  have HSS := Lib.hid hs
  have HTT := Lib.hid ht
  clear hx hy hs ht
  by_cases hnm : n = m
  case neg =>
    have HE : Hid (decide (ls = ms) = false) := decide_eq_false fun e => hnm (by rw [← HL.out, ← HM.out, e])
    have hb : ((n : Int) != (m : Int)) = true := by simp; omega
    clear hnm
    go_enter Try.func78, Try.ntmps78
    go_wp2
    go_ret
    exact ⟨by rw [HE.out]; rfl, (by first | exact ⟨_, rfl⟩ | exact ⟨_, (World.drewN_drewN _ _ _).symm⟩ | exact Quiet.refl _ | (simp only [World.drewN_drewN]; exact ⟨_, rfl⟩))⟩
  subst hnm
  go_enter Try.func78, Try.ntmps78
  go_wp2
  go_loopw [7, 8, 9, 17] (fun _ _ _ i wr => ∃ k : Nat, k ≤ n ∧ i = .int .i64 (k : Int) ∧ Quiet w wr ∧ Hid (∀ j, j < k → nthL ls j = nthL ms j)) (fun _ _ _ i _ => n - (intOf i).toNat)
  case atStart => exact ⟨0, Nat.zero_le _, rfl, (by first | exact ⟨_, rfl⟩ | exact ⟨_, (World.drewN_drewN _ _ _).symm⟩ | exact Quiet.refl _ | (simp only [World.drewN_drewN]; exact ⟨_, rfl⟩)), fun j hj => by omega⟩
  case round =>
    obtain ⟨k, hk, rfl, ⟨q, rfl⟩, HT⟩ := hrel
    by_cases hlt : k < n
    · obtain ⟨ad, A1, n1, c1, rfl, z1, r1, h1⟩ := HX.out.2 k hlt
      obtain ⟨ad2, A2, n2, c2, rfl, z2, r2, h2⟩ := HY.out.2 k hlt
      have e1 := HSS.out k hlt
      have e2 := HTT.out k hlt
      rw [r1.1] at e1
      rw [r2.1] at e2
      have HEQ : Hid (∀ b, decide (nthL ls k = nthL ms k) = b → ∀ q', Calls Try.prog 79 #[.slice A1 n1 c1, .slice A2 n2 c2] (w.drewN q') (Gives (w.drewN q') (.bool b))) := fun b hb q' => equal_any b c1 c2 (r1.drewN q') (r2.drewN q') hb.symm (by omega) (by omega)
      clear r1 r2 h1 h2
      rcases hd : decide (nthL ls k = nthL ms k) with _ | _
      · have HNE := Lib.hid (of_decide_eq_false hd)
        have HE : Hid (decide (ls = ms) = false) := decide_eq_false fun e => HNE.out (by rw [e])
        have HD := Lib.hid hd
        clear hd
        go_wp2_with (first | (go_at_call 79; refine (HEQ.out _ HD.out _).mono ?_; rintro e w2 ⟨rfl, q2, rfl⟩) | fail)
        go_ret
        exact ⟨by rw [HE.out]; rfl, (by first | exact ⟨_, rfl⟩ | exact ⟨_, (World.drewN_drewN _ _ _).symm⟩ | exact Quiet.refl _ | (simp only [World.drewN_drewN]; exact ⟨_, rfl⟩))⟩
      · have HEE := Lib.hid (of_decide_eq_true hd)
        have HD := Lib.hid hd
        clear hd
        go_wp2_with (first | (go_at_call 79; refine (HEQ.out _ HD.out _).mono ?_; rintro e w2 ⟨rfl, q2, rfl⟩) | fail)
        go_roundw
        case rel => exact ⟨k + 1, by omega, by go_num, (by first | exact ⟨_, rfl⟩ | exact ⟨_, (World.drewN_drewN _ _ _).symm⟩ | exact Quiet.refl _ | (simp only [World.drewN_drewN]; exact ⟨_, rfl⟩)), fun j hj => by
          by_cases h : j = k
          · subst h; exact HEE.out
          · exact HT.out j (by omega)⟩
        case measure => simp [intOf]; omega
    · have HE : Hid (decide (ls = ms) = true) := decide_eq_true (ext_rows (by rw [HL.out, HM.out]) fun j hj => HT.out j (by rw [HL.out] at hj; omega))
      go_wp2
      go_ret
      exact ⟨by rw [HE.out]; rfl, (by first | exact ⟨_, rfl⟩ | exact ⟨_, (World.drewN_drewN _ _ _).symm⟩ | exact Quiet.refl _ | (simp only [World.drewN_drewN]; exact ⟨_, rfl⟩))⟩
/-- A list of tableaux that the call owns; no tableau is written any more. -/
structure O3 (w : World) (base : Nat) (v : Value) (Ts : List (List (List Int))) (cells : List Value) : Prop where
  row : w.ownsRow base 42 1 v Ts.length cells
  els : ∀ (j : Nat) (T : List (List Int)) (u : Value), Ts[j]? = some T → cells[j]? = some u → ∃ pc, OS w base base u T pc
section
variable {w w' : World} {base : Nat} {v : Value} {Ts : List (List (List Int))} {cells : List Value}
theorem O3.below (h : O3 w base v Ts cells) (b : Below w.heap.size w w') : O3 w' base v Ts cells :=
  ⟨World.ownsRow.kept h.row (row := none) ⟨b.os, b.tape, b.output, b.size, fun k hk _ => b.block k hk⟩ (by cases hv : v.ownBlock <;> simp), fun j T u h1 h2 => by
    obtain ⟨pc, h3⟩ := h.els j T u h1 h2
    exact ⟨pc, OF.below h3 b⟩⟩
theorem O3.lt (h : O3 w base v Ts cells) : ∀ k, v.ownBlock = some k → base ≤ k ∧ k < w.heap.size := World.ownsRow.lt h.row
theorem O3.form (h : O3 w base v Ts cells) : ∃ A n c, v = .slice A n c ∧ Ts.length = n ∧ n ≤ c ∧ c ≤ 9223372036854775807 := by
  rcases h.row.2 with ⟨rfl, h0⟩ | ⟨g, cap, cur, rfl, -, -, hnc, hcm, -⟩
  · exact ⟨_, _, _, rfl, h0, by omega, by omega⟩
  · exact ⟨_, _, _, rfl, rfl, hnc, by simpa [maxLen] using hcm⟩
theorem O3.len {A : Option Addr} {n c : Nat} (h : O3 w base (.slice A n c) Ts cells) : Ts.length = n := by
  obtain ⟨A', n', c', e, h1, -⟩ := h.form
  rw [h1, (slice_inj e).2.1]
theorem O3.cells_len (h : O3 w base v Ts cells) : cells.length = Ts.length := by have := h.row.1; simpa using this
theorem O3.typed (h : O3 w base v Ts cells) : ∀ g, v.ownBlock = some g → ∃ cs m, w.heap[g]? = some (.cells cs 42 m) := by
  intro g hg
  rcases h.row.2 with ⟨rfl, _⟩ | ⟨g', cap, cur, rfl, _, hh, _⟩
  · simp [Value.ownBlock] at hg
  · simp [Value.ownBlock] at hg
    subst hg
    exact ⟨_, _, hh⟩
theorem O3.cell {A : Option Addr} {n c k : Nat} (h : O3 w base (.slice A n c) Ts cells) (hk : k < n) : ∃ ad A' n' c' pc, A = some ad ∧ w.cell? (ad.add k) = some (.slice A' n' c') ∧ cells[k]? = some (.slice A' n' c') ∧ OS w base base (.slice A' n' c') (Ts.getD k []) pc ∧ n' ≤ c' := by
  have hl := h.len
  have hcl := h.cells_len
  have hu : cells[k]? = some (cells[k]'(by omega)) := List.getElem?_eq_getElem _
  have hT : Ts[k]? = some (Ts.getD k []) := by
    rw [List.getD, List.getElem?_eq_getElem (by omega)]; rfl
  obtain ⟨pc, h3⟩ := h.els k _ _ hT hu
  obtain ⟨A', n', c', hv, -, hc, -⟩ := OS.form h3
  rw [hv] at hu h3
  rcases h.row.2 with ⟨he, h0⟩ | ⟨g, cap, cur, he, r⟩
  · omega
  · obtain ⟨rfl, -, -⟩ := slice_inj he
    exact ⟨⟨g, 0, none⟩, A', n', c', pc, rfl, h.row.cells (g := g) rfl k _ hu, hu, h3, hc⟩
/-- What is written in the list's own row leaves the tableaux alone. -/
theorem O3.elsKept {u : Value} {T : List (List Int)} {pc : List Value} (h : O3 w base v Ts cells) (hu : OS w base base u T pc) (hg : w.grownBy w' v.ownBlock) : OS w' base base u T pc := by
  refine OF.kept hu hg ?_ fun g e => ?_
  · rcases hq : u.ownBlock with _ | g
    · exact .inl rfl
    · refine .inr fun e => ?_
      obtain ⟨cs, m, h1⟩ := OF.typed hu g hq
      obtain ⟨cs2, m2, h2⟩ := h.typed g e.symm
      rw [h1] at h2
      injection h2 with h2
      injection h2 with _ h3
      exact absurd h3 (by decide)
  · obtain ⟨cs, m, hh⟩ := h.typed g e
    exact ⟨cs, _, m, hh, by decide⟩
end
theorem Try.infoRows : (Try.prog.info? 42).map (fun i => (i.zero, i.size, i.bytes)) = some (some (.slice none 0 0), 1, 24) := by kernel_rfl
theorem O3.lit (w : World) (base : Nat) (hb : base ≤ w.heap.size) : O3 (w.alloc (.cells #[] 42)) base (.slice (some ⟨w.heap.size, 0, none⟩) 0 0) [] [] := by
  refine ⟨?_, fun j T u h => by simp at h⟩
  have := World.ownsRow_lit (e := 42) (size := 1) (base := base) w #[] 0 hb (by simp only [maxLen]; omega) (by simp)
  simpa using this
/-- 'append(all, p)'. -/
theorem wpApp3 {w0 : World} {ops : Array Oper} {rest : List Oper} {o : Oper} {a : Act} {Q : Exit → Act → World → Prop} (hgd : o.guard = none) (s x : Operand)
    (ho : o.op = .call { callee := .builtin .append, args := #[s, x], argTypes := #[56, 56] })
    (base : Nat) (v u : Value) (Ts : List (List (List Int))) (cells pc : List Value) (T : List (List Int)) (hs : a.eval s = v) (hx : a.eval x = .slice (some ⟨w0.heap.size, 0, none⟩) 1 1)
    (hown : O3 w0 base v Ts cells) (hu : OS w0 base base u T pc) (hlen : Ts.length + 1 ≤ 1000000000000) (hbase : base ≤ w0.heap.size)
    (h : ∀ v' w', O3 w' base v' (Ts ++ [T]) (cells ++ [u]) → (w0.alloc (.cells #[u] 42)).grownBy w' v.ownBlock → wpList Try.prog ops Q rest (a.put o.dst v') w') :
    wpList Try.prog ops Q (o :: rest) a (w0.alloc (.cells #[u] 42)) := by
  refine wpList_plain hgd fun K hK => ?_
  obtain ⟨i0, hi, hz, hs1, hb⟩ := info_parts Try.infoRows
  have hbel : Below w0.heap.size w0 (w0.alloc (.cells #[u] 42)) := (Below.refl _ _).alloc (Nat.le_refl _) _
  have hown1 := hown.below hbel
  have hu1 : OS (w0.alloc (.cells #[u] 42)) base base u T pc := OF.below hu hbel
  obtain ⟨A, n, c, hform, -⟩ := OS.form hu
  have hone : ∀ y ∈ cells, y.oneCell' = true := fun y hy => by
    obtain ⟨j, hj, e⟩ := List.getElem_of_mem hy
    have hcl := hown.cells_len
    obtain ⟨pc', h3⟩ := hown.els j (Ts[j]'(by omega)) y (List.getElem?_eq_getElem _) (by rw [List.getElem?_eq_getElem hj, e])
    obtain ⟨A', n', c', rfl, -⟩ := OS.form h3
    rfl
  obtain ⟨v', w', hr, h2, h3, _, h5⟩ := run_append_own_at (P := Try.prog) (w0.alloc (.cells #[u] 42)) base 56 o.type 42 i0 (.slice none 0 0) 1 24 Try.underlying56 hi hz hs1 hb rfl (by omega) v Ts.length cells hown1.row ⟨w0.heap.size, 0, none⟩ 1 1 [u] rfl (new_cells w0 [u] _)
    (fun y hy => by rw [List.mem_singleton.1 hy, hform]; rfl) (by simp only [maxLen]; omega) (by omega) (by simp; omega)
  unfold Oper.wp execOp
  simp only [ho, resolve, invoke, builtin, Sem.run_bind, Sem.run_pure, Result.andThen_ok, List.map_toArray, List.map_cons, List.map_nil, hs, hx, hr]
  refine hK _ _ (h v' w' ⟨by rw [List.length_append]; exact h2, fun j T' u' hj hj2 => ?_⟩ h3)
  have hcl := hown.cells_len
  rcases Nat.lt_or_ge j Ts.length with hlt | hge
  · rw [List.getElem?_append_left hlt] at hj
    rw [List.getElem?_append_left (by omega)] at hj2
    obtain ⟨pc', h4⟩ := hown1.els j T' u' hj hj2
    exact ⟨pc', hown1.elsKept h4 h3⟩
  · rw [List.getElem?_append_right hge] at hj
    rw [List.getElem?_append_right (by omega), hcl] at hj2
    have h0 : j - Ts.length = 0 := by have := (List.getElem?_eq_some_iff.1 hj).1; simp at this; omega
    rw [h0] at hj hj2
    simp at hj hj2
    subst hj hj2
    exact ⟨pc, hown1.elsKept hu1 h3⟩
end Go.Proofs.Ytgbojgmmingfdaa

/- slices.ContainsFunc over tableaux, with the closure of StanleyShapes. -/
namespace Go.Proofs.Ytgbojgmmingfdaa
open Go.RowKit

/-- Not great. -/
def Low (T : List (List Int)) : Prop := T.length ≤ 1000 ∧ ∀ k, k < T.length → (nthL T k).length ≤ 1000
theorem stanClos_any {w : World} {A B : Option Addr} {n m X : Nat} {T P : List (List Int)} (c d : Nat) (hx : RS w A n T) (hy : RS w B m P) (hT : Low T) (hP : Low P) (hX : w.cell? ⟨X, 0, none⟩ = some (.slice B m d)) :
    Calls Try.prog 77 #[.slice A n c, .pointer (some ⟨X, 0, none⟩)] w (Gives w (.bool (decide (T = P)))) := by
  have h1 := hx.1
  have h2 := hy.1
  have HE : Hid (Calls Try.prog 78 #[.slice A n c, .slice B m d, .func (.func 79) #[] #[]] w (Gives w (.bool (decide (T = P))))) :=
    eqF_any c d hx hy (by have := hT.1; omega) (by have := hP.1; omega) (fun k hk => by have := hT.2 k (by omega); omega) (fun k hk => by have := hP.2 k (by omega); omega)
  obtain ⟨b, hb⟩ : ∃ b, b = decide (T = P) := ⟨_, rfl⟩
  rw [← hb] at HE ⊢
  clear hb hx hy h1 h2
  go_enter Try.func77, Try.ntmps77
  go_wp2_with (first | (go_at_call 78; refine HE.out.mono ?_; rintro e w2 ⟨rfl, q2, rfl⟩) | fail)
  go_ret
  exact ⟨rfl, (by first | exact ⟨_, rfl⟩ | exact ⟨_, (World.drewN_drewN _ _ _).symm⟩ | exact Quiet.refl _ | (simp only [World.drewN_drewN]; exact ⟨_, rfl⟩))⟩
set_option maxRecDepth 100000 in
set_option maxHeartbeats 1000000 in
theorem idx3_any {w : World} {base : Nat} {A B : Option Addr} {n m X : Nat} {Ts : List (List (List Int))} {P : List (List Int)} {cells : List Value} (c d : Nat) (hx : O3 w base (.slice A n c) Ts cells) (hy : RS w B m P) (hT : ∀ T ∈ Ts, Low T) (hP : Low P) (hX : w.cell? ⟨X, 0, none⟩ = some (.slice B m d)) (hn : n ≤ 1000000) :
    Calls Try.prog 146 #[.slice A n c, .func (.func 77) #[] #[.pointer (some ⟨X, 0, none⟩)]] w (fun e w' => ∃ i : Int, e = .returned (.int .i64 i) ∧ Quiet w w' ∧ Hid (decide (i ≥ 0) = decide (P ∈ Ts))) := by
  have HL : Hid (Ts.length = n) := hx.len
  have HX := Lib.hid hx
  have HY := Lib.hid hy
  have HTT := Lib.hid hT
  have HPP := Lib.hid hP
  have HCX := Lib.hid hX
  clear hx hy hT hP hX
  go_enter Try.func146, Try.ntmps146
  go_wp2
  go_loopw [5, 8] (fun _ i wr => ∃ k : Nat, k ≤ n ∧ i = .int .i64 (k : Int) ∧ Quiet w wr ∧ Hid (∀ j, j < k → Ts.getD j [] ≠ P)) (fun _ i _ => n - (intOf i).toNat)
  case atStart => exact ⟨0, Nat.zero_le _, rfl, (by first | exact ⟨_, rfl⟩ | exact ⟨_, (World.drewN_drewN _ _ _).symm⟩ | exact Quiet.refl _ | (simp only [World.drewN_drewN]; exact ⟨_, rfl⟩)), fun j hj => by omega⟩
  case round =>
    obtain ⟨k, hk, rfl, ⟨q, rfl⟩, HT⟩ := hrel
    by_cases hlt : k < n
    · obtain ⟨ad, A1, n1, c1, pc, rfl, z0, -, o1, -⟩ := (HX.out.below (below_drewN (Below.refl _ _) q)).cell hlt
      obtain ⟨T, hTT⟩ : ∃ T, T = Ts.getD k [] := ⟨_, rfl⟩
      rw [← hTT] at o1
      have HTE := Lib.hid hTT
      have hkl : k < Ts.length := by rw [HL.out]; exact hlt
      have hmem : T ∈ Ts := by rw [hTT, List.getD, List.getElem?_eq_getElem hkl]; exact List.getElem_mem hkl
      have HCL : Hid (∀ b, decide (T = P) = b → Calls Try.prog 77 #[.slice A1 n1 c1, .pointer (some ⟨X, 0, none⟩)] (w.drewN q) (Gives (w.drewN q) (.bool b))) := fun b hb => by
        rw [← hb]
        exact stanClos_any c1 d (OS.rs o1 (OS.lenS o1).symm) (HY.out.below (below_drewN (Below.refl _ _) q)) (HTT.out T hmem) HPP.out HCX.out
      have HMEM := Lib.hid hmem
      clear hTT o1 hkl hmem
      rcases hd : decide (T = P) with _ | _
      · have HNE := Lib.hid (of_decide_eq_false hd)
        have HD := Lib.hid hd
        clear hd
        go_wp2_with (first | (go_at_call 77; refine (HCL.out _ HD.out).mono ?_; rintro e w2 ⟨rfl, q2, rfl⟩) | fail)
        go_roundw
        case rel => exact ⟨k + 1, by omega, by go_num, (by first | exact ⟨_, rfl⟩ | exact ⟨_, (World.drewN_drewN _ _ _).symm⟩ | exact Quiet.refl _ | (simp only [World.drewN_drewN]; exact ⟨_, rfl⟩)), fun j hj => by
          by_cases h : j = k
          · subst h; rw [← HTE.out]; exact HNE.out
          · exact HT.out j (by omega)⟩
        case measure => simp [intOf]; omega
      · have HEE := Lib.hid (of_decide_eq_true hd)
        have HD := Lib.hid hd
        clear hd
        go_wp2_with (first | (go_at_call 77; refine (HCL.out _ HD.out).mono ?_; rintro e w2 ⟨rfl, q2, rfl⟩) | fail)
        go_ret
        refine ⟨(k : Int), rfl, (by first | exact ⟨_, rfl⟩ | exact ⟨_, (World.drewN_drewN _ _ _).symm⟩ | exact Quiet.refl _ | (simp only [World.drewN_drewN]; exact ⟨_, rfl⟩)), ?_⟩
        show _ = _
        rw [decide_eq_true (show ((k : Nat) : Int) ≥ 0 by omega), decide_eq_true (by rw [← HEE.out]; exact HMEM.out)]
    · have HE : Hid (decide (P ∈ Ts) = false) := decide_eq_false fun h => by
        obtain ⟨j, hj, e⟩ := List.getElem_of_mem h
        refine HT.out j (by rw [HL.out] at hj; omega) ?_
        rw [List.getD, List.getElem?_eq_getElem hj]
        exact e
      go_wp2
      go_ret
      refine ⟨-1, rfl, (by first | exact ⟨_, rfl⟩ | exact ⟨_, (World.drewN_drewN _ _ _).symm⟩ | exact Quiet.refl _ | (simp only [World.drewN_drewN]; exact ⟨_, rfl⟩)), ?_⟩
      show _ = _
      rw [HE.out]
      rfl
theorem cont3_any {w : World} {base : Nat} {A B : Option Addr} {n m X : Nat} {Ts : List (List (List Int))} {P : List (List Int)} {cells : List Value} (c d : Nat) (hx : O3 w base (.slice A n c) Ts cells) (hy : RS w B m P) (hT : ∀ T ∈ Ts, Low T) (hP : Low P) (hX : w.cell? ⟨X, 0, none⟩ = some (.slice B m d)) (hn : n ≤ 1000000) :
    Calls Try.prog 76 #[.slice A n c, .func (.func 77) #[] #[.pointer (some ⟨X, 0, none⟩)]] w (Gives w (.bool (decide (P ∈ Ts)))) := by
  have HI : Hid (Calls Try.prog 146 #[.slice A n c, .func (.func 77) #[] #[.pointer (some ⟨X, 0, none⟩)]] w (fun e w' => ∃ i : Int, e = .returned (.int .i64 i) ∧ Quiet w w' ∧ Hid (decide (i ≥ 0) = decide (P ∈ Ts)))) := idx3_any c d hx hy hT hP hX hn
  clear hx hy hT hP hX
  go_enter Try.func76, Try.ntmps76
  go_wp2_with (first | (go_at_call 146; refine HI.out.mono ?_; rintro e w2 ⟨i, rfl, ⟨q2, rfl⟩, HII⟩) | fail)
  go_ret
  exact ⟨by rw [← HII.out]; rfl, (by first | exact ⟨_, rfl⟩ | exact ⟨_, (World.drewN_drewN _ _ _).symm⟩ | exact Quiet.refl _ | (simp only [World.drewN_drewN]; exact ⟨_, rfl⟩))⟩
end Go.Proofs.Ytgbojgmmingfdaa
