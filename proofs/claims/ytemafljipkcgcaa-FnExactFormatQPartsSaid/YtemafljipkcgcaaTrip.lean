/- Triples of labels; places of small triangles. -/
import Derived.Test.YtemafljipkcgcaaParts
import Derived.Test.YtemafljipkcgcaaPuz
import Derived.ChangeKeysEq
namespace Go.Proofs.Ytemafljipkcgcaa
open Go.RowKit

theorem at_any {w : World} (r k : Nat) (R K : Int) (x : Nat) (hR : R = r) (hK : K = k) (hr : r ≤ 8) (hk : k ≤ 8) (hx : tri r + k = x) :
    Calls Try.prog 77 #[.int .i64 R, .int .i64 K] w (Gives w (.int .i64 (x : Int))) := by
  subst hR hK
  have h0 := tri_small hr
  have h1 := Lib.hid (tri_cast r)
  have h2 : (r : Int) * (r + 1) ≤ 72 := by
    have := Nat.mul_le_mul hr (Nat.add_le_add_right hr 1)
    have e : (r : Int) * (r + 1) = ((r * (r + 1) : Nat) : Int) := by simp
    omega
  have h3 : 0 ≤ (r : Int) * (r + 1) := Int.mul_nonneg (by omega) (by omega)
  go_enter Try.func77, Try.ntmps77
  go_wp2
  go_ret
  exact ⟨by rw [h1.out, ← hx]; simp, (by first | exact ⟨_, rfl⟩ | exact ⟨_, (World.drewN_drewN _ _ _).symm⟩ | exact Quiet.refl _ | (simp only [World.drewN_drewN]; exact ⟨_, rfl⟩))⟩

theorem at_eq {w : World} (r k : Nat) (R K : Int) (x : Nat) (hR : R = r) (hK : K = k) (hr : r ≤ 8) (hk : k ≤ 8) (hx : tri r + k = x) :
    Calls Try.prog 77 #[.int .i64 R, .int .i64 K] w (fun e w' => e = .returned (.int .i64 (x : Int)) ∧ w' = w) := by
  subst hR hK
  have h0 := tri_small hr
  have h1 := Lib.hid (tri_cast r)
  have h2 : (r : Int) * (r + 1) ≤ 72 := by
    have := Nat.mul_le_mul hr (Nat.add_le_add_right hr 1)
    have e : (r : Int) * (r + 1) = ((r * (r + 1) : Nat) : Int) := by simp
    omega
  have h3 : 0 ≤ (r : Int) * (r + 1) := Int.mul_nonneg (by omega) (by omega)
  go_enter Try.func77, Try.ntmps77
  go_wp2
  go_ret
  exact ⟨by rw [h1.out, ← hx]; simp, rfl⟩

theorem at_gen {w : World} (R K : Int) (h1 : 0 ≤ R) (h2 : R ≤ 8) (h3 : 0 ≤ K) (h4 : K ≤ 8) : Calls Try.prog 77 #[.int .i64 R, .int .i64 K] w (Gives w (.int .i64 (atI R K))) := by
  obtain ⟨r, rfl⟩ := Int.eq_ofNat_of_zero_le h1
  obtain ⟨k, rfl⟩ := Int.eq_ofNat_of_zero_le h3
  rw [atI_eq rfl rfl rfl]
  exact at_any r k _ _ _ rfl rfl (by omega) (by omega) rfl
theorem at_gen_eq {w : World} (R K : Int) (h1 : 0 ≤ R) (h2 : R ≤ 8) (h3 : 0 ≤ K) (h4 : K ≤ 8) : Calls Try.prog 77 #[.int .i64 R, .int .i64 K] w (fun e w' => e = .returned (.int .i64 (atI R K)) ∧ w' = w) := by
  obtain ⟨r, rfl⟩ := Int.eq_ofNat_of_zero_le h1
  obtain ⟨k, rfl⟩ := Int.eq_ofNat_of_zero_le h3
  rw [atI_eq rfl rfl rfl]
  exact at_eq r k _ _ _ rfl rfl (by omega) (by omega) rfl
theorem place_any {w : World} (r k : Nat) (R K : Int) (x : Nat) (hR : R = r) (hK : K = k) (hr : r ≤ 8) (hk : k ≤ 8) (hx : tri r + k = x) :
    Calls Try.prog 79 #[.int .i64 R, .int .i64 K] w (Gives w (.int .i64 (x : Int))) := by
  subst hR hK
  have h0 := tri_small hr
  have h1 := Lib.hid (tri_cast r)
  have h2 : (r : Int) * (r + 1) ≤ 72 := by
    have := Nat.mul_le_mul hr (Nat.add_le_add_right hr 1)
    have e : (r : Int) * (r + 1) = ((r * (r + 1) : Nat) : Int) := by simp
    omega
  have h3 : 0 ≤ (r : Int) * (r + 1) := Int.mul_nonneg (by omega) (by omega)
  go_enter Try.func79, Try.ntmps79
  go_wp2
  go_ret
  exact ⟨by rw [h1.out, ← hx]; simp, (by first | exact ⟨_, rfl⟩ | exact ⟨_, (World.drewN_drewN _ _ _).symm⟩ | exact Quiet.refl _ | (simp only [World.drewN_drewN]; exact ⟨_, rfl⟩))⟩

theorem place_gen {w : World} (R K : Int) (h1 : 0 ≤ R) (h2 : R ≤ 8) (h3 : 0 ≤ K) (h4 : K ≤ 8) : Calls Try.prog 79 #[.int .i64 R, .int .i64 K] w (Gives w (.int .i64 (atI R K))) := by
  obtain ⟨r, rfl⟩ := Int.eq_ofNat_of_zero_le h1
  obtain ⟨k, rfl⟩ := Int.eq_ofNat_of_zero_le h3
  rw [atI_eq rfl rfl rfl]
  exact place_any r k _ _ _ rfl rfl (by omega) (by omega) rfl

theorem up_any {w : World} (l r : Int) (wt : Bool) (hl : 0 ≤ l ∧ l ≤ 2) (hr : 0 ≤ r ∧ r ≤ 2) :
    Calls Try.prog 117 #[.int .i64 l, .int .i64 r, .bool wt] w (Gives w (.int .i64 (upB l r wt))) := by
  have h1 : l = 0 ∨ l = 1 ∨ l = 2 := by omega
  have h2 : r = 0 ∨ r = 1 ∨ r = 2 := by omega
  clear hl hr
  rcases h1 with rfl | rfl | rfl <;> rcases h2 with rfl | rfl | rfl <;> cases wt
  all_goals
    go_enter Try.func117, Try.ntmps117
    go_wp2
    go_ret
    exact ⟨rfl, (by first | exact ⟨_, rfl⟩ | exact ⟨_, (World.drewN_drewN _ _ _).symm⟩ | exact Quiet.refl _ | (simp only [World.drewN_drewN]; exact ⟨_, rfl⟩))⟩

theorem down_any {w : World} (l t : Int) (hl : 0 ≤ l ∧ l ≤ 2) (ht : 0 ≤ t ∧ t ≤ 3) :
    Calls Try.prog 118 #[.int .i64 l, .int .i64 t] w (Gives w (.int .i64 (downB l t))) := by
  have h1 : l = 0 ∨ l = 1 ∨ l = 2 := by omega
  have h2 : t = 0 ∨ t = 1 ∨ t = 2 ∨ t = 3 := by omega
  clear hl ht
  rcases h1 with rfl | rfl | rfl <;> rcases h2 with rfl | rfl | rfl | rfl
  all_goals
    go_enter Try.func118, Try.ntmps118
    go_wp2
    go_ret
    exact ⟨rfl, (by first | exact ⟨_, rfl⟩ | exact ⟨_, (World.drewN_drewN _ _ _).symm⟩ | exact Quiet.refl _ | (simp only [World.drewN_drewN]; exact ⟨_, rfl⟩))⟩
theorem eqInt (d : Nat) (w : World) (a x : Int) : (Op.equalIn (d + 1) 3 (.int .i64 a) (.int .i64 x)).run Try.prog w = .ok (a == x) w := by
  simp [Op.equalIn, run_underlying Try.underlying3]
@[go_sem] theorem run_eql_arr3 (w : World) (a b c x y z : Int) :
    (Op.equalIn 10000 113 (.agg #[.int .i64 a, .int .i64 b, .int .i64 c]) (.agg #[.int .i64 x, .int .i64 y, .int .i64 z])).run Try.prog w = .ok ((a == x) && ((b == y) && (c == z))) w := by
  have hp : Try.prog.plainKey 3 = true := by kernel_rfl
  have hc : Try.prog.cellsOf 3 = 1 := by kernel_rfl
  have hu : Try.prog.underlying 113 = some (.array 3 3) := by kernel_rfl
  obtain ⟨i, hi⟩ : ∃ i, Try.prog.info? 3 = some i := by
    have : (Try.prog.info? 3).isSome = true := by kernel_rfl
    exact Option.isSome_iff_exists.1 this
  have p : ∀ (xs : Array Value) (j : Nat) (v : Value), xs[j]? = some v → (part 3 xs j).run Try.prog w = .ok v w := fun xs j v h => run_part_plain w hp h
  have e : (Op.equalIn (9999 + 1) 113 (.agg #[.int .i64 a, .int .i64 b, .int .i64 c]) (.agg #[.int .i64 x, .int .i64 y, .int .i64 z])).run Try.prog w = .ok ((a == x) && ((b == y) && (c == z))) w := by
    rw [run_equalIn_array w 9999 _ _ hu hi, hc]
    have a0 := p #[.int .i64 a, .int .i64 b, .int .i64 c] (0 * 1) (.int .i64 a) rfl
    have a1 := p #[.int .i64 a, .int .i64 b, .int .i64 c] (1 * 1) (.int .i64 b) rfl
    have a2 := p #[.int .i64 a, .int .i64 b, .int .i64 c] (2 * 1) (.int .i64 c) rfl
    have b0 := p #[.int .i64 x, .int .i64 y, .int .i64 z] (0 * 1) (.int .i64 x) rfl
    have b1 := p #[.int .i64 x, .int .i64 y, .int .i64 z] (1 * 1) (.int .i64 y) rfl
    have b2 := p #[.int .i64 x, .int .i64 y, .int .i64 z] (2 * 1) (.int .i64 z) rfl
    have q := eqInt 9998
    simp only [show List.range 3 = [0, 1, 2] from rfl, Op.eqItems, Sem.run_bind, a0, b0, Result.andThen_ok, q w a x]
    cases a == x
    · simp
    · simp only [Bool.not_true, Bool.false_eq_true, if_false, Sem.run_bind, a1, b1, Result.andThen_ok, q w b y]
      cases b == y
      · simp
      · simp only [Bool.not_true, Bool.false_eq_true, if_false, Sem.run_bind, a2, b2, Result.andThen_ok, q w c z]
        cases c == z <;> simp
  exact e

def nthT (ts : List (Int × Int × Int)) (j : Nat) : Int × Int × Int := ts.getD j (0, 0, 0)
/-- The slice reads as the triples. -/
def RTr (w : World) (A : Option Addr) (n : Nat) (ts : List (Int × Int × Int)) : Prop :=
  ts.length = n ∧ ∃ g, A = some ⟨g, 0, none⟩ ∧ g < w.heap.size ∧ ∀ k, k < n → w.cell? ⟨g, k * 3, none⟩ = some (.int .i64 (nthT ts k).1) ∧ w.cell? ⟨g, k * 3 + 1, none⟩ = some (.int .i64 (nthT ts k).2.1) ∧ w.cell? ⟨g, k * 3 + 2, none⟩ = some (.int .i64 (nthT ts k).2.2)
theorem RTr.below {w w' : World} {A : Option Addr} {n : Nat} {ts : List (Int × Int × Int)} (h : RTr w A n ts) (hb : Below w.heap.size w w') : RTr w' A n ts := by
  obtain ⟨h1, g, h2, h3, h4⟩ := h
  have hs := hb.size
  refine ⟨h1, g, h2, by omega, fun k hk => ?_⟩
  obtain ⟨a, b, c⟩ := h4 k hk
  exact ⟨by rw [hb.cell h3]; exact a, by rw [hb.cell h3]; exact b, by rw [hb.cell h3]; exact c⟩
theorem hasT_at {ts : List (Int × Int × Int)} {a b c : Int} {k : Nat} (hk : k < ts.length) (h : a = (nthT ts k).1 ∧ b = (nthT ts k).2.1 ∧ c = (nthT ts k).2.2) : hasT ts a b c = true := by
  unfold hasT
  rw [List.any_eq_true]
  refine ⟨nthT ts k, ?_, ?_⟩
  · simp [nthT, List.getD, List.getElem?_eq_getElem hk]
  · simp [← h.1, ← h.2.1, ← h.2.2]
theorem hasT_none {ts : List (Int × Int × Int)} {a b c : Int} (h : ∀ k, k < ts.length → ¬(a = (nthT ts k).1 ∧ b = (nthT ts k).2.1 ∧ c = (nthT ts k).2.2)) : hasT ts a b c = false := by
  rw [← Bool.not_eq_true]
  intro h'
  unfold hasT at h'
  rw [List.any_eq_true] at h'
  obtain ⟨t, ht, he⟩ := h'
  obtain ⟨k, hk, e⟩ := List.getElem_of_mem ht
  refine h k hk ?_
  have : nthT ts k = t := by simp [nthT, List.getD, List.getElem?_eq_getElem hk, e]
  rw [this]
  simpa using he

theorem indexT_any {A : Option Addr} {n : Nat} {ts : List (Int × Int × Int)} {w : World} (cp : Nat) (a b c : Int) (hx : RTr w A n ts) (hn : n ≤ 1000) :
    Calls Try.prog 138 #[.slice A n cp, .agg #[.int .i64 a, .int .i64 b, .int .i64 c]] w (fun e w' => ∃ i : Int, e = .returned (.int .i64 i) ∧ Below w.heap.size w w' ∧ decide (i ≥ 0) = hasT ts a b c) := by
  obtain ⟨hl, g, rfl, hg, hc⟩ := hx
  have HL := Lib.hid hl
  have HC := Lib.hid hc
  clear hc hl
  go_enter Try.func138, Try.ntmps138
  go_wp2
  obtain ⟨wb, hwb⟩ : ∃ wb : World, wb = w.alloc (.cells #[.int .i64 a, .int .i64 b, .int .i64 c] 113) := ⟨_, rfl⟩
  rw [← hwb]
  have b1 : Below w.heap.size w wb := by rw [hwb]; exact (Below.refl _ _).alloc (Nat.le_refl _) _
  have hb : ∀ (j : Nat) (u : Value), [Value.int .i64 a, .int .i64 b, .int .i64 c][j]? = some u → wb.cell? ⟨w.heap.size, j, none⟩ = some u := by
    intro j u h
    have := new_cells w [Value.int .i64 a, .int .i64 b, .int .i64 c] 113 j u h
    have hadd : (⟨w.heap.size, 0, none⟩ : Addr).add j = ⟨w.heap.size, j, none⟩ := by unfold Addr.add; split <;> simp_all
    rw [hadd] at this
    rw [hwb]
    exact this
  have hb0 := hb 0 _ rfl
  have hb1 := hb 1 _ rfl
  have hb2 := hb 2 _ rfl
  have hC : Hid (∀ k, k < n → wb.cell? ⟨g, k * 3, none⟩ = some (.int .i64 (nthT ts k).1) ∧ wb.cell? ⟨g, k * 3 + 1, none⟩ = some (.int .i64 (nthT ts k).2.1) ∧ wb.cell? ⟨g, k * 3 + 2, none⟩ = some (.int .i64 (nthT ts k).2.2)) := by
    intro k hk
    obtain ⟨x, y, z⟩ := HC.out k hk
    exact ⟨by rw [b1.cell hg]; exact x, by rw [b1.cell hg]; exact y, by rw [b1.cell hg]; exact z⟩
  clear hb hwb HC
  go_loopw [5, 8] (fun _ i wr => ∃ k : Nat, k ≤ n ∧ i = .int .i64 k ∧ Quiet wb wr ∧ ∀ j, j < k → ¬(a = (nthT ts j).1 ∧ b = (nthT ts j).2.1 ∧ c = (nthT ts j).2.2)) (fun _ i _ => n - (intOf i).toNat)
  case atStart => exact ⟨0, Nat.zero_le _, rfl, (by first | exact ⟨_, rfl⟩ | exact ⟨_, (World.drewN_drewN _ _ _).symm⟩ | exact Quiet.refl _ | (simp only [World.drewN_drewN]; exact ⟨_, rfl⟩)), by simp⟩
  case round =>
    obtain ⟨k, hk, rfl, ⟨q, rfl⟩, ht⟩ := hrel
    have HT := Lib.hid ht
    clear ht
    by_cases hlt : k < n
    · obtain ⟨c0, c1, c2⟩ := hC.out k hlt
      obtain ⟨t, htt⟩ : ∃ t, t = nthT ts k := ⟨_, rfl⟩
      have HN := Lib.hid htt
      rw [← htt] at c0 c1 c2
      clear htt
      obtain ⟨x, y, z⟩ := t
      simp only at c0 c1 c2
      by_cases he : a = x ∧ b = y ∧ c = z
      · have HE := Lib.hid he
        have h1 : (a == x) = true := by simpa using he.1
        have h2 : (b == y) = true := by simpa using he.2.1
        have h3 : (c == z) = true := by simpa using he.2.2
        clear he
        go_wp2_with fail
        go_quiet (fail)
        go_wp2
        go_ret
        exact ⟨_, rfl, by first | exact below_drewN b1 _ | exact below_drewN (below_drewN b1 _) _, by rw [hasT_at (k := k) (by rw [HL.out]; exact hlt) (by rw [← HN.out]; exact HE.out)]; simp⟩
      · have HE : Hid (¬(a = (nthT ts k).1 ∧ b = (nthT ts k).2.1 ∧ c = (nthT ts k).2.2)) := by rw [← HN.out]; exact he
        have hor : a ≠ x ∨ (a = x ∧ b ≠ y) ∨ (a = x ∧ b = y ∧ c ≠ z) := by omega
        clear he
        rcases hor with h | ⟨h, h'⟩ | ⟨h, h', h''⟩
        · have h1 : (a == x) = false := by simpa using h
          clear h
          go_wp2_with fail
          go_quiet (fail)
          go_wp2
          go_roundw
          case rel => exact ⟨k + 1, by omega, by go_num, (by first | exact ⟨_, rfl⟩ | exact ⟨_, (World.drewN_drewN _ _ _).symm⟩ | exact Quiet.refl _ | (simp only [World.drewN_drewN]; exact ⟨_, rfl⟩)), upTo (P := fun j => ¬(a = (nthT ts j).1 ∧ b = (nthT ts j).2.1 ∧ c = (nthT ts j).2.2)) HT.out HE.out⟩
          case measure => simp [intOf]; omega
        · have h1 : (a == x) = true := by simpa using h
          have h2 : (b == y) = false := by simpa using h'
          clear h h'
          go_wp2_with fail
          go_quiet (fail)
          go_wp2
          go_roundw
          case rel => exact ⟨k + 1, by omega, by go_num, (by first | exact ⟨_, rfl⟩ | exact ⟨_, (World.drewN_drewN _ _ _).symm⟩ | exact Quiet.refl _ | (simp only [World.drewN_drewN]; exact ⟨_, rfl⟩)), upTo (P := fun j => ¬(a = (nthT ts j).1 ∧ b = (nthT ts j).2.1 ∧ c = (nthT ts j).2.2)) HT.out HE.out⟩
          case measure => simp [intOf]; omega
        · have h1 : (a == x) = true := by simpa using h
          have h2 : (b == y) = true := by simpa using h'
          have h3 : (c == z) = false := by simpa using h''
          clear h h' h''
          go_wp2_with fail
          go_quiet (fail)
          go_wp2
          go_roundw
          case rel => exact ⟨k + 1, by omega, by go_num, (by first | exact ⟨_, rfl⟩ | exact ⟨_, (World.drewN_drewN _ _ _).symm⟩ | exact Quiet.refl _ | (simp only [World.drewN_drewN]; exact ⟨_, rfl⟩)), upTo (P := fun j => ¬(a = (nthT ts j).1 ∧ b = (nthT ts j).2.1 ∧ c = (nthT ts j).2.2)) HT.out HE.out⟩
          case measure => simp [intOf]; omega
    · go_wp2
      go_ret
      exact ⟨_, rfl, below_drewN b1 _, by rw [hasT_none (fun j hj => HT.out j (by rw [HL.out] at hj; omega))]; simp⟩

theorem containsT_any {A : Option Addr} {n : Nat} {ts : List (Int × Int × Int)} {w : World} (cp : Nat) (a b c : Int) (hx : RTr w A n ts) (hn : n ≤ 1000) :
    Calls Try.prog 120 #[.slice A n cp, .agg #[.int .i64 a, .int .i64 b, .int .i64 c]] w (GivesB w (.bool (hasT ts a b c))) := by
  go_enter Try.func120, Try.ntmps120
  go_wp2_with fail
  have b1 : Below w.heap.size w (w.alloc (.cells #[.int .i64 a, .int .i64 b, .int .i64 c] 113)) := (Below.refl _ _).alloc (Nat.le_refl _) _
  refine (indexT_any _ _ _ _ (hx.below b1) hn).mono ?_
  rintro e w1 ⟨i, rfl, bl, hi⟩
  have HI := Lib.hid hi
  clear hi
  go_wp2
  go_ret
  exact ⟨by rw [← HI.out]; rfl, bnext b1 bl b1.size⟩
theorem FRs.ints (w : World) (b : Nat) (xs : List Int) : FRs w b (xs.map .inl) (xs.map (.int .i64)) := by
  refine ⟨by simp, fun j x u h1 h2 => ?_⟩
  rw [List.getElem?_map] at h1 h2
  rcases h : xs[j]? with _ | y
  · rw [h] at h1; cases h1
  · rw [h] at h1 h2
    obtain rfl := Option.some.inj h1
    obtain rfl := Option.some.inj h2
    rfl
theorem Dist.ints (xs : List Int) : Dist (xs.map (.int .i64)) := by
  intro i j u u' _ h1 _
  rw [List.getElem?_map] at h1
  rcases h : xs[i]? with _ | y
  · rw [h] at h1; cases h1
  · rw [h] at h1
    obtain rfl := Option.some.inj h1
    exact .inl rfl
theorem noOwn_ints {xs : List Int} {u : Value} (h : u ∈ xs.map (.int .i64)) : u.ownBlock = none := by
  rw [List.mem_map] at h
  obtain ⟨x, _, rfl⟩ := h
  rfl
theorem Try.infoTrip : (Try.prog.info? 113).map (fun i => (i.zero, i.size, i.bytes)) = some (some (.agg #[.int .i64 0, .int .i64 0, .int .i64 0]), 3, 24) := by kernel_rfl
theorem Try.underTrips : Try.prog.underlying 110 = some (.slice 113) := by kernel_rfl
def five : List Int := [0, 0, 0, 1, 1, 1, 0, 1, 2, 1, 2, 0, 2, 0, 1]
theorem lit_five (w : World) : OF (w.alloc (.cells #[.int .i64 0, .int .i64 0, .int .i64 0, .int .i64 1, .int .i64 1, .int .i64 1, .int .i64 0, .int .i64 1, .int .i64 2, .int .i64 1, .int .i64 2, .int .i64 0, .int .i64 2, .int .i64 0, .int .i64 1] 113)) w.heap.size w.heap.size 113 3 (.slice (some ⟨w.heap.size, 0, none⟩) 5 5) 5 (five.map .inl) (five.map (.int .i64)) :=
  ⟨World.ownsRow_lit (e := 113) (size := 3) (base := w.heap.size) w #[.int .i64 0, .int .i64 0, .int .i64 0, .int .i64 1, .int .i64 1, .int .i64 1, .int .i64 0, .int .i64 1, .int .i64 2, .int .i64 1, .int .i64 2, .int .i64 0, .int .i64 2, .int .i64 0, .int .i64 1] 5 (Nat.le_refl _) (by simp only [maxLen]; omega) (by rfl), FRs.ints _ _ _, Dist.ints _⟩

theorem triples_any {w : World} (wt : Bool) :
    Calls Try.prog 119 #[.bool wt] w (fun e w' => ∃ A n c, e = .returned (.slice A n c) ∧ RTr w' A n (trips wt) ∧ n ≤ 6 ∧ Below w.heap.size w w') := by
  have h5 := lit_five w
  have b5 : Below w.heap.size w (w.alloc (.cells #[.int .i64 0, .int .i64 0, .int .i64 0, .int .i64 1, .int .i64 1, .int .i64 1, .int .i64 0, .int .i64 1, .int .i64 2, .int .i64 1, .int .i64 2, .int .i64 0, .int .i64 2, .int .i64 0, .int .i64 1] 113)) := (Below.refl _ _).alloc (Nat.le_refl _) _
  cases wt
  · go_enter Try.func119, Try.ntmps119
    go_wp2
    go_ret
    refine ⟨_, _, _, rfl, ⟨rfl, w.heap.size, rfl, by simp, fun k hk => ?_⟩, by omega, b5⟩
    have hc : ∀ m, m < 15 → _ = (five.map (Value.int .i64))[m]? := fun m hm => h5.cellF (m := m) hm
    have hk' : k = 0 ∨ k = 1 ∨ k = 2 ∨ k = 3 ∨ k = 4 := by omega
    rcases hk' with rfl | rfl | rfl | rfl | rfl <;> exact ⟨(hc _ (by omega)).trans rfl, (hc _ (by omega)).trans rfl, (hc _ (by omega)).trans rfl⟩
  · go_enter Try.func119, Try.ntmps119
    obtain ⟨wa, hwa⟩ : ∃ wa : World, wa = w.alloc (.cells #[.int .i64 0, .int .i64 0, .int .i64 0, .int .i64 1, .int .i64 1, .int .i64 1, .int .i64 0, .int .i64 1, .int .i64 2, .int .i64 1, .int .i64 2, .int .i64 0, .int .i64 2, .int .i64 0, .int .i64 1] 113) := ⟨_, rfl⟩
    rw [← hwa] at h5 b5
    have hs : wa.heap.size = w.heap.size + 1 := by rw [hwa]; simp
    go_wp2_with (at_builtin; refine wpAppF rfl _ _ 110 113 rfl 3 24 (.agg #[.int .i64 0, .int .i64 0, .int .i64 0]) Try.underTrips Try.infoTrip rfl (by omega) (by omega) (by decide) w.heap.size w.heap.size (.slice (some ⟨w.heap.size, 0, none⟩) 5 5) 5 (five.map .inl) ([1, 0, 3].map .inl) (five.map (.int .i64)) ([1, 0, 3].map (.int .i64)) ⟨w.heap.size + 1, 0, none⟩ 1 rfl rfl (by rw [← hwa]; exact h5.alloc _) rfl (by rw [← hwa, ← hs]; exact new_cells wa [.int .i64 1, .int .i64 0, .int .i64 3] _) (FRs.ints _ _ _) (Dist.ints _) (fun u hu _ _ => .inl (noOwn_ints hu)) (by omega) (by simp; omega) ?_; intro v' w' h1 h2 h3)
    obtain ⟨g, c, rfl, hg1, hg2⟩ := OF.shape h1 (by omega)
    go_wp2
    go_ret
    refine ⟨_, _, _, rfl, ⟨rfl, g, rfl, hg2, fun k hk => ?_⟩, by omega, ?_⟩
    · have hc : ∀ m, m < 18 → w'.cell? ⟨g, m, none⟩ = (five.map (Value.int .i64) ++ [1, 0, 3].map (Value.int .i64))[m]? := fun m hm => h1.cellF (m := m) hm
      have hk' : k = 0 ∨ k = 1 ∨ k = 2 ∨ k = 3 ∨ k = 4 ∨ k = 5 := by omega
      rcases hk' with rfl | rfl | rfl | rfl | rfl | rfl <;> exact ⟨(hc _ (by omega)).trans rfl, (hc _ (by omega)).trans rfl, (hc _ (by omega)).trans rfl⟩
    · rw [← hwa] at h2
      exact (b5.alloc b5.size _).grown h2 (by simp; omega) (fun k hk => by simp [Value.ownBlock] at hk; omega)
end Go.Proofs.Ytemafljipkcgcaa
