/- addQ of the laws: a shape with a power is added some times to an ascending list; the shapes are shared. -/
import Derived.Test.YtbemglmnnehllaaQAdd
import Derived.Test.YtbemglmnnehllaaLLess
import Derived.RegionTactic
import Derived.BigRegion
import Derived.Deep.CutRange
import Derived.Deep.DeepCutAuto
import Derived.Deep.RegionHeld3
namespace Go.Proofs.Ytbemglmnnehllaa
open Go.RowKit

/-- Where the parts of a sum come from: from the first k parts of another one, or the one that is added. -/
def From3 (cells : List Value) (u : Value) (k : Nat) (d : Bool) (cs : List Value) : Prop := ∀ x ∈ cs, x.ownBlock = none ∨ (∃ j, j < k * 3 ∧ cells[j]? = some x) ∨ (d = true ∧ x = u)
theorem From3.nil (cells : List Value) (u : Value) (d : Bool) : From3 cells u 0 d [] := fun x h => by cases h
theorem From3.next {cells : List Value} {u : Value} {k : Nat} {d d' : Bool} {cs : List Value} (h : From3 cells u k d cs) (hd : d = true → d' = true) : From3 cells u (k + 1) d' cs := fun x hx => by
  rcases h x hx with h1 | ⟨j, hj, e⟩ | ⟨h1, h2⟩
  · exact .inl h1
  · exact .inr (.inl ⟨j, by omega, e⟩)
  · exact .inr (.inr ⟨hd h1, h2⟩)
theorem From3.add {cells : List Value} {u : Value} {k : Nat} {d : Bool} {cs : List Value} (p y : Int) (h : From3 cells u k d cs) : From3 cells u k true (cs ++ [.int .i64 p, u, .int .i64 y]) := fun x hx => by
  rcases List.mem_append.1 hx with h1 | h1
  · rcases h x h1 with h2 | h2 | ⟨-, h2⟩
    · exact .inl h2
    · exact .inr (.inl h2)
    · exact .inr (.inr ⟨rfl, h2⟩)
  · simp at h1
    rcases h1 with rfl | rfl | rfl
    · exact .inl rfl
    · exact .inr (.inr ⟨rfl, rfl⟩)
    · exact .inl rfl
theorem From3.keep {cells : List Value} {u x1 : Value} {k : Nat} {d : Bool} {cs : List Value} (p y : Int) (h : From3 cells u k d cs) (hx : cells[k * 3 + 1]? = some x1) : From3 cells u (k + 1) d (cs ++ [.int .i64 p, x1, .int .i64 y]) := fun x hx' => by
  rcases List.mem_append.1 hx' with h1 | h1
  · exact (h.next fun e => e) x h1
  · simp at h1
    rcases h1 with rfl | rfl | rfl
    · exact .inl rfl
    · exact .inr (.inl ⟨k * 3 + 1, by omega, hx⟩)
    · exact .inl rfl
/-- What addQ leaves. -/
def AddsQ (w : World) (b : Nat) (cells : List Value) (u : Value) (ps : List QT) : Ending → World → Prop := fun e w' =>
  ∃ A' n' c' cs, e = .returned (.slice A' n' c') ∧ OU w' w.heap.size b (.slice A' n' c') ps cs ∧ (∀ x ∈ cs, x.ownBlock = none ∨ x ∈ cells ∨ x = u) ∧ Below w.heap.size w w'
theorem AddsQ.of {w w' : World} {b k : Nat} {cells cs : List Value} {u v : Value} {ps : List QT} {d : Bool} (h : OU w' w.heap.size b v ps cs) (hf : From3 cells u k d cs) (hb : Below w.heap.size w w') : AddsQ w b cells u ps (.returned v) w' := by
  obtain ⟨A', c', rfl, _⟩ := OF.form h
  refine ⟨A', _, c', cs, rfl, h, fun x hx => ?_, hb⟩
  rcases hf x hx with h1 | ⟨j, -, e⟩ | ⟨-, h1⟩
  · exact .inl h1
  · exact .inr (.inl (List.mem_of_getElem? e))
  · exact .inr (.inr h1)

set_option maxRecDepth 100000 in
set_option maxHeartbeats 4000000 in
theorem laddQ_any {A : Option Addr} {n : Nat} {s : List Int} {v0 : Value} {base b : Nat} {ps : List (List Int × Int)} {cells : List Value} {w : World} (c : Nat) (p y : Int) (h : OU w base b v0 (decL ps) cells) (hkey : Keyed ps) (hx : OI w b (.slice A n c) s)
    (hap : ∀ u' ∈ cells, u'.ownBlock = none ∨ u'.ownBlock ≠ (Value.slice A n c).ownBlock)
    (hn : n ≤ 1000000) (hm : ps.length ≤ 100000000000) (hp : SmallK ps) (hy1 : -1000000000000 ≤ y) (hy2 : y ≤ 1000000000000) :
    Calls Try.prog 25 #[v0, .int .i64 p, .slice A n c, .int .i64 y] w (AddsQ w b cells (.slice A n c) (decL (addP ps (p :: s) y))) := by
  obtain ⟨A0, m, c0, rfl, hl0, hc0, _⟩ := h.form
  rw [decL_len] at hl0
  have HL := Lib.hid hl0
  have HKY := Lib.hid hkey
  have HP := Lib.hid hp
  have HX := Lib.hid hx
  have HAP := Lib.hid hap
  have HH := Lib.hid h
  have hm' : m ≤ 100000000000 := by omega
  clear hl0 hp hm hkey hx hap h
  go_enter Try.func25, Try.ntmps25
  go_wp2
  go_loopw [9, 10, 11, 12] (fun u d i _ wr => ∃ (k : Nat) (cs : List Value), k ≤ m ∧ i = .int .i64 (k : Int) ∧ d = .bool (addUp ps (p :: s) y k).2 ∧ OU wr w.heap.size b u (decL (addUp ps (p :: s) y k).1) cs ∧ Hid (From3 cells (.slice A n c) k (addUp ps (p :: s) y k).2 cs) ∧ Below w.heap.size w wr) (fun _ _ i _ _ => m - (intOf i).toNat)
  case atStart => exact ⟨0, [], Nat.zero_le _, rfl, rfl, OU.lit w _ _ (Nat.le_refl _), From3.nil _ _ _, (Below.refl _ _).alloc (Nat.le_refl _) _⟩
  case round =>
    obtain ⟨k, cs, hk, rfl, rfl, ho, hcs, hbl⟩ := hrel
    have hsz := hbl.size
    have hlen := (addUp_len ps (p :: s) y k).1
    by_cases hlt : k < m
    · obtain ⟨G, cc, hG, _⟩ := OF.shape HH.out (by rw [decL_len, HL.out]; omega)
      obtain ⟨rfl, e2, e3⟩ := slice_inj hG
      clear e2 e3 hG
      obtain ⟨q, t, cn, hqt⟩ := HKY.out.at (k := k) (by rw [HL.out]; exact hlt)
      obtain ⟨A1, n1, c1, k0, k1, kc, k2, k3, k4⟩ := OU.cell HH.out (k := k) (by rw [decL_len, HL.out]; exact hlt)
      rw [nthQ_dec (by rw [HL.out]; exact hlt) hqt] at k0 k2 k4
      simp only at k0 k2 k4
      obtain ⟨p1, p2, p3⟩ := HP.out k (by rw [HL.out]; exact hlt)
      rw [hqt] at p1 p2 p3
      simp only [List.length_cons] at p1 p2 p3
      rw [k2.ri.1] at p1
      have hk0 : wr.cell? ⟨G, k * 3, none⟩ = some (.int .i64 q) := one_cell hbl k0
      have hk1 : wr.cell? ⟨G, k * 3 + 1, none⟩ = some (.slice A1 n1 c1) := one_cell hbl k1
      have hk4 : wr.cell? ⟨G, k * 3 + 2, none⟩ = some (.int .i64 cn) := one_cell hbl k4
      have KW : Hid (∀ W, Below w.heap.size w W → W.cell? ⟨G, k * 3, none⟩ = some (.int .i64 q) ∧ W.cell? ⟨G, k * 3 + 1, none⟩ = some (.slice A1 n1 c1) ∧ W.cell? ⟨G, k * 3 + 2, none⟩ = some (.int .i64 cn) ∧ OI W b (.slice A1 n1 c1) t) := fun W bW => ⟨one_cell bW k0, one_cell bW k1, one_cell bW k4, OI.below k2 bW⟩
      have HQT := Lib.hid hqt
      have HO := Lib.hid ho
      have HKC := Lib.hid kc
      have HU1 := Lib.hid (OI.below k2 hbl)
      have HB := Lib.hid hbl
      have HXR := Lib.hid (OI.below HX.out hbl)
      have HC : Hid (∀ u' ∈ cs, u'.ownBlock = none ∨ u'.ownBlock ≠ (Value.slice A1 n1 c1).ownBlock) := fun u' hu' => by
        rcases hcs.out u' hu' with h1 | ⟨j, hj, e⟩ | ⟨-, rfl⟩
        · exact .inl h1
        · exact HH.out.2.2 j (k * 3 + 1) u' _ (by omega) e kc
        · rcases HAP.out _ (List.mem_of_getElem? kc) with h2 | h2
          · rcases h3 : (Value.slice A n c).ownBlock with _ | g
            · exact .inl rfl
            · exact .inr (by rw [h2]; simp)
          · exact .inr fun e => h2 e.symm
      have HCN : Hid ((addUp ps (p :: s) y k).2 = false → ∀ u' ∈ cs, u'.ownBlock = none ∨ u'.ownBlock ≠ (Value.slice A n c).ownBlock) := fun hd u' hu' => by
        rcases hcs.out u' hu' with h1 | ⟨j, hj, e⟩ | ⟨h1, -⟩
        · exact .inl h1
        · exact HAP.out _ (List.mem_of_getElem? e)
        · rw [hd] at h1; cases h1
      have HLE : Hid (∀ W, Below wr.heap.size wr W → Calls Try.prog 45 #[.slice A1 n1 c1, .slice A n c] W (Gives W (.bool (lexLt t s)))) := fun W bW => lless_any c1 c (HU1.out.ri.below bW) (HXR.out.ri.below bW) (by omega) (by omega)
      have HIN : Hid (∀ W, Below wr.heap.size wr W → Calls Try.prog 24 #[.slice A1 n1 c1, .slice A n c] W (Gives W (.bool (decide (t = s))))) := fun W bW => ints_any _ c1 c (HU1.out.ri.below bW) (HXR.out.ri.below bW) rfl (by omega) (by omega)
      have hq : q < p ∨ q = p ∨ p < q := by omega
      obtain ⟨L, hL⟩ : ∃ L, L = lexLt (q :: t) (p :: s) := ⟨_, rfl⟩
      obtain ⟨E, hE⟩ : ∃ E : Bool, E = decide (q = p ∧ t = s) := ⟨_, rfl⟩
      have HL' := Lib.hid hL
      have HE := Lib.hid hE
      clear ho kc k2 k0 k1 k4 hqt hL hE hbl
      go_upto_region 6 with (fail)
      go_cut [12] from 22 to 46 (fun v12 wx => v12 = .bool L ∧ ∃ z, wx = wr.drewN z)
      case first =>
        rcases hq with hq | hq | hq
        · have h1 : decide (q < p) = true := decide_eq_true hq
          have HV : Hid (L = true) := by show _ = _; rw [HL'.out]; exact lex_cons_lt t s hq
          clear hq
          go_wp2
          go_meet
          exact ⟨by rw [HV.out], 0, rfl⟩
        · have HV : Hid (L = lexLt t s) := by show _ = _; rw [HL'.out, hq]; exact lex_cons_eq p t s
          have h1 : decide (q < p) = false := decide_eq_false (by omega)
          have h2 : (q == p) = true := by simpa using hq
          clear hq
          go_wp2_with (go_at_call 45; (with_reducible refine (HLE.out _ ?_).mono ?_); (exact Below.refl _ _); rintro e w' ⟨rfl, z1, rfl⟩)
          go_meet
          exact ⟨by rw [HV.out], z1, rfl⟩
        · have h1 : decide (q < p) = false := decide_eq_false (by omega)
          have h2 : (q == p) = false := by simp; omega
          have HV : Hid (L = false) := by show _ = _; rw [HL'.out]; exact lex_cons_gt t s hq
          clear hq
          go_wp2
          go_meet
          exact ⟨by rw [HV.out], 0, rfl⟩
      case rest =>
        obtain ⟨rfl, z0, rfl⟩ := hcut
        obtain ⟨wq, ewq⟩ : ∃ W : World, W = wr.drewN z0 := ⟨_, rfl⟩
        have bq : Below wr.heap.size wr wq := by rw [ewq]; exact Quiet.below ⟨_, rfl⟩
        have HBQ := Lib.hid bq
        have HBW := Lib.hid (bnext HB.out bq HB.out.size)
        rw [← ewq]
        have hk0 := one_cell bq hk0
        have hk1 := one_cell bq hk1
        have hk4 := one_cell bq hk4
        clear ewq bq
        rcases hd : (addUp ps (p :: s) y k).2 with _ | _
        · have HD := Lib.hid hd
          clear hd
          rcases L with _ | _
          · have HLT : Hid (lexLt (nthP ps k).1 (p :: s) = false) := by show _ = _; rw [HQT.out]; exact HL'.out.symm
            have hcs1 := hcs
            rw [HD.out] at hcs1
            have HCN1 := Lib.hid (HCN.out HD.out)
            go_upto_region 9 with (fail)
            go_cut [68] from 53 to 68 (fun v68 wx => v68 = .bool E ∧ Below wq.heap.size wq wx)
            case first =>
              by_cases hqp : q = p
              · have h2 : (q == p) = true := by simpa using hqp
                have HV : Hid (E = decide (t = s)) := by show _ = _; rw [HE.out]; simp [hqp]
                clear hqp
                go_wp2_with (go_at_call 24; (with_reducible refine (HIN.out _ ?_).mono ?_); (exact HBQ.out); rintro e w' ⟨rfl, z1, rfl⟩)
                go_meet
                exact ⟨by rw [HV.out], Quiet.below ⟨_, rfl⟩⟩
              · have h2 : (q == p) = false := by simpa using hqp
                have HV : Hid (E = false) := by show _ = _; rw [HE.out]; simp [hqp]
                clear hqp
                go_wp2
                go_meet
                exact ⟨by rw [HV.out], Below.refl _ _⟩
            case rest =>
              obtain ⟨rfl, b9⟩ := hcut
              have HBC := Lib.hid (bnext HBW.out b9 HBW.out.size)
              have hoc := Lib.hid (OU.below HO.out (bnext HBQ.out b9 HBQ.out.size))
              have hxc := Lib.hid (HXR.out.below (bnext HBQ.out b9 HBQ.out.size))
              clear hk0 hk1 hk4 b9
              obtain ⟨hk0, hk1, hk4, -⟩ := KW.out _ HBC.out
              rcases E with _ | _
              · have HNE : Hid ((nthP ps k).1 ≠ p :: s) := by
                  show _ ≠ _
                  rw [HQT.out]
                  intro e
                  injection e with e1 e2
                  have h := HE.out.symm
                  rw [decide_eq_false_iff_not] at h
                  exact h ⟨e1, e2⟩
                go_upto_region 13 with (at_builtin; refine wpAppU rfl _ _ rfl w.heap.size b u9 (.slice A n c) (decL (addUp ps (p :: s) y k).1) cs s p y rfl rfl (by exact hoc.out) (by exact hxc.out) (by exact HCN1.out) (by rw [decL_len]; omega) (by exact HBC.out.size) ?_; intro v' w' h1 h2 h3)
                have HB2 : Hid (Below w.heap.size w w') := (HBC.out.alloc HBC.out.size _).grown h2 (by simp; have := HBC.out.size; omega) (fun j hj => (OF.lt hoc.out j hj).1)
                have HO2 : Hid (OU w' w.heap.size b v' (decL ((addUp ps (p :: s) y k).1 ++ [(p :: s, y)])) (cs ++ [.int .i64 p, .slice A n c, .int .i64 y])) := by show OU _ _ _ _ _ _; rw [decL_append]; exact h1
                have hcs2 : Hid (From3 cells (.slice A n c) (k + 1) true ((cs ++ [.int .i64 p, .slice A n c, .int .i64 y]) ++ [.int .i64 q, .slice A1 n1 c1, .int .i64 cn])) := (hcs1.out.add p y).keep q cn HKC.out
                have HC2 : Hid (∀ u' ∈ cs ++ [.int .i64 p, .slice A n c, .int .i64 y], u'.ownBlock = none ∨ u'.ownBlock ≠ (Value.slice A1 n1 c1).ownBlock) := fun u' hu' => by
                  rcases List.mem_append.1 hu' with h4 | h4
                  · exact HC.out u' h4
                  · simp at h4
                    rcases h4 with rfl | rfl | rfl
                    · exact .inl rfl
                    · rcases HAP.out _ (List.mem_of_getElem? HKC.out) with h5 | h5
                      · rcases h6 : (Value.slice A n c).ownBlock with _ | g
                        · exact .inl rfl
                        · exact .inr (by rw [h5]; simp)
                      · exact .inr fun e => h5 e.symm
                    · exact .inl rfl
                clear h1 h2 h3 hk0 hk1 hk4
                obtain ⟨hk0, hk1, hk4, hu1⟩ := KW.out _ HB2.out
                have hob := HB2.out.size
                have HU2 := Lib.hid hu1
                clear hu1
                go_wp2_with (at_builtin; refine wpAppU rfl _ _ rfl w.heap.size b v' (.slice A1 n1 c1) (decL ((addUp ps (p :: s) y k).1 ++ [(p :: s, y)])) (cs ++ [.int .i64 p, .slice A n c, .int .i64 y]) t q cn rfl rfl (by exact HO2.out) (by exact HU2.out) (by exact HC2.out) (by rw [decL_len, List.length_append]; simp; omega) (by exact HB2.out.size) ?_; intro v3 w3 h1 h2 h3)
                have HF : Hid (OU w3 w.heap.size b v3 (decL (addUp ps (p :: s) y (k + 1)).1) ((cs ++ [.int .i64 p, .slice A n c, .int .i64 y]) ++ [.int .i64 q, .slice A1 n1 c1, .int .i64 cn]) ∧ Below w.heap.size w w3) :=
                  ⟨by rw [addUp_new HD.out HLT.out HNE.out, decL_append, HQT.out]; exact h1, (HB2.out.alloc HB2.out.size _).grown h2 (by simp; have := HB2.out.size; omega) (fun j hj => (OF.lt HO2.out j hj).1)⟩
                clear h1 h2 h3
                go_roundw
                case rel => exact ⟨k + 1, _, by omega, by go_num, by rw [addUp_new HD.out HLT.out HNE.out], HF.out.1, (by rw [addUp_new HD.out HLT.out HNE.out]; exact hcs2.out), HF.out.2⟩
                case measure => simp [intOf]; omega
              · have hqs := of_decide_eq_true HE.out.symm
                have HEQ : Hid ((nthP ps k).1 = p :: s) := by show _ = _; rw [HQT.out, hqs.1, hqs.2]
                clear hqs
                by_cases hz : cn + y = 0
                · have HZ : Hid ((nthP ps k).2 + y = 0) := by show _ = _; rw [HQT.out]; exact hz
                  have hz1 : (cn + y != 0) = false := by simpa using hz
                  clear hz
                  have hcs2 : Hid (From3 cells (.slice A n c) (k + 1) true cs) := hcs1.out.next fun e => by cases e
                  go_wp2
                  go_roundw
                  case rel => exact ⟨k + 1, cs, by omega, by go_num, by rw [addUp_gone HD.out HLT.out HEQ.out HZ.out], by rw [addUp_gone HD.out HLT.out HEQ.out HZ.out]; exact hoc.out, (by rw [addUp_gone HD.out HLT.out HEQ.out HZ.out]; exact hcs2.out), HBC.out⟩
                  case measure => simp [intOf]; omega
                · have HZ : Hid ((nthP ps k).2 + y ≠ 0) := by show _ ≠ _; rw [HQT.out]; exact hz
                  have hz1 : (cn + y != 0) = true := by simpa using hz
                  clear hz
                  have hw1 : IntKind.i64.wrap (cn + y) = cn + y := IntWalk.i64_in _ (by omega)
                  have hcs2 : Hid (From3 cells (.slice A n c) (k + 1) true (cs ++ [.int .i64 p, .slice A n c, .int .i64 (cn + y)])) := (hcs1.out.add p (cn + y)).next fun e => e
                  go_wp2_with (at_builtin; refine wpAppU rfl _ _ rfl w.heap.size b u9 (.slice A n c) (decL (addUp ps (p :: s) y k).1) cs s p (cn + y) rfl rfl (by exact hoc.out) (by exact hxc.out) (by exact HCN1.out) (by rw [decL_len]; omega) (by exact HBC.out.size) ?_; intro v' w' h1 h2 h3)
                  have HF : Hid (OU w' w.heap.size b v' (decL (addUp ps (p :: s) y (k + 1)).1) (cs ++ [.int .i64 p, .slice A n c, .int .i64 (cn + y)]) ∧ Below w.heap.size w w') :=
                    ⟨by rw [addUp_more HD.out HLT.out HEQ.out HZ.out, decL_append, HQT.out]; exact h1, (HBC.out.alloc HBC.out.size _).grown h2 (by simp; have := HBC.out.size; omega) (fun j hj => (OF.lt hoc.out j hj).1)⟩
                  clear h1 h2 h3
                  go_roundw
                  case rel => exact ⟨k + 1, _, by omega, by go_num, by rw [addUp_more HD.out HLT.out HEQ.out HZ.out], HF.out.1, (by rw [addUp_more HD.out HLT.out HEQ.out HZ.out]; exact hcs2.out), HF.out.2⟩
                  case measure => simp [intOf]; omega
          · have HLT : Hid (lexLt (nthP ps k).1 (p :: s) = true) := by show _ = _; rw [HQT.out]; exact HL'.out.symm
            have hcs2 : Hid (From3 cells (.slice A n c) (k + 1) false (cs ++ [.int .i64 q, .slice A1 n1 c1, .int .i64 cn])) := by
              have h := hcs.out
              rw [HD.out] at h
              exact h.keep q cn HKC.out
            have hoq := OU.below HO.out HBQ.out
            have huq := HU1.out.below HBQ.out
            go_wp2_with (at_builtin; refine wpAppU rfl _ _ rfl w.heap.size b u9 (.slice A1 n1 c1) (decL (addUp ps (p :: s) y k).1) cs t q cn rfl rfl (by exact hoq) (by exact huq) (by exact HC.out) (by rw [decL_len]; omega) (by exact HBW.out.size) ?_; intro v' w' h1 h2 h3)
            have HF : Hid (OU w' w.heap.size b v' (decL (addUp ps (p :: s) y (k + 1)).1) (cs ++ [.int .i64 q, .slice A1 n1 c1, .int .i64 cn]) ∧ Below w.heap.size w w') :=
              ⟨by rw [addUp_less HD.out HLT.out, decL_append, HQT.out]; exact h1, (HBW.out.alloc HBW.out.size _).grown h2 (by simp; have := HBW.out.size; omega) (fun j hj => (OF.lt HO.out j hj).1)⟩
            clear h1 h2 h3
            go_roundw
            case rel => exact ⟨k + 1, _, by omega, by go_num, by rw [addUp_less HD.out HLT.out], HF.out.1, (by rw [addUp_less HD.out HLT.out]; exact hcs2.out), HF.out.2⟩
            case measure => simp [intOf]; omega
        · have HD := Lib.hid hd
          clear hd
          have hcs2 : Hid (From3 cells (.slice A n c) (k + 1) true (cs ++ [.int .i64 q, .slice A1 n1 c1, .int .i64 cn])) := by
            have h := hcs.out
            rw [HD.out] at h
            exact h.keep q cn HKC.out
          have hoq := OU.below HO.out HBQ.out
          have huq := HU1.out.below HBQ.out
          go_wp2_with (at_builtin; refine wpAppU rfl _ _ rfl w.heap.size b u9 (.slice A1 n1 c1) (decL (addUp ps (p :: s) y k).1) cs t q cn rfl rfl (by exact hoq) (by exact huq) (by exact HC.out) (by rw [decL_len]; omega) (by exact HBW.out.size) ?_; intro v' w' h1 h2 h3)
          have HF : Hid (OU w' w.heap.size b v' (decL (addUp ps (p :: s) y (k + 1)).1) (cs ++ [.int .i64 q, .slice A1 n1 c1, .int .i64 cn]) ∧ Below w.heap.size w w') :=
            ⟨by rw [addUp_keep HD.out, decL_append, HQT.out]; exact h1, (HBW.out.alloc HBW.out.size _).grown h2 (by simp; have := HBW.out.size; omega) (fun j hj => (OF.lt HO.out j hj).1)⟩
          clear h1 h2 h3
          go_roundw
          case rel => exact ⟨k + 1, _, by omega, by go_num, by rw [addUp_keep HD.out], HF.out.1, (by rw [addUp_keep HD.out]; exact hcs2.out), HF.out.2⟩
          case measure => simp [intOf]; omega
    · obtain rfl : m = k := by omega
      have HO := Lib.hid ho
      have HB := Lib.hid hbl
      clear ho hbl
      rcases hd : (addUp ps (p :: s) y m).2 with _ | _
      · have HD := Lib.hid hd
        have HPD := Lib.hid (addP_last HL.out hd)
        clear hd
        have hcs1 := hcs
        rw [HD.out] at hcs1
        have HCN1 : Hid (∀ u' ∈ cs, u'.ownBlock = none ∨ u'.ownBlock ≠ (Value.slice A n c).ownBlock) := fun u' hu' => by
          rcases hcs1.out u' hu' with h1 | ⟨j, hj, e⟩ | ⟨h1, -⟩
          · exact .inl h1
          · exact HAP.out _ (List.mem_of_getElem? e)
          · cases h1
        have hxr := OI.below HX.out HB.out
        go_wp2_with (at_builtin; refine wpAppU rfl _ _ rfl w.heap.size b u9 (.slice A n c) (decL (addUp ps (p :: s) y m).1) cs s p y rfl rfl (by exact HO.out) (by exact hxr) (by exact HCN1.out) (by rw [decL_len]; omega) (by exact hsz) ?_; intro v' w' h1 h2 h3)
        have HF : Hid (AddsQ w b cells (.slice A n c) (decL (addP ps (p :: s) y)) (.returned v') w') := by
          have h4 : OU w' w.heap.size b v' (decL (addP ps (p :: s) y)) (cs ++ [.int .i64 p, .slice A n c, .int .i64 y]) := by rw [HPD.out, decL_append]; exact h1
          exact AddsQ.of h4 (hcs1.out.add p y) ((HB.out.alloc hsz _).grown h2 (by simp; omega) (fun j hj => (OF.lt HO.out j hj).1))
        clear h1 h2 h3
        go_ret
        exact HF.out
      · have HD := Lib.hid hd
        have HPD := Lib.hid (addP_done HL.out hd)
        clear hd
        have HF : Hid (AddsQ w b cells (.slice A n c) (decL (addP ps (p :: s) y)) (.returned u9) wr) := by
          rw [HPD.out]
          exact AddsQ.of HO.out hcs.out HB.out
        go_wp2
        go_ret
        exact HF.out
end Go.Proofs.Ytbemglmnnehllaa
