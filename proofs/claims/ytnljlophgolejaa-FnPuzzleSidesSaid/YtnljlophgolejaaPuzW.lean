/- Weights of puzzles. -/
import Derived.Test.YtnljlophgolejaaPuzO
import Derived.Test.YtnljlophgolejaaWords
namespace Go.Proofs.Ytnljlophgolejaa
open Go.RowKit

def wStep (n : Nat) (B Y : List Int) (r k : Nat) (x : Int) : Int := if nth B (tri r + k) = 3 then wrap64 (x * (nth Y (k + n - 1 - r) - nth Y k)) else x
def wRow (n : Nat) (B Y : List Int) (r : Nat) : Nat → Int → Int
  | 0, x => x
  | k + 1, x => wStep n B Y r k (wRow n B Y r k x)
def wAll (n : Nat) (B Y : List Int) : Nat → Int
  | 0 => 1
  | r + 1 => wRow n B Y r (r + 1) (wAll n B Y r)
theorem wStep_yes {n : Nat} {B Y : List Int} {r k p : Nat} {x b y1 y2 : Int} (hb : nth B (tri r + k) = b) (h : b = 3) (hp : k + n - 1 - r = p) (h1 : nth Y p = y1) (h2 : nth Y k = y2) : wStep n B Y r k x = wrap64 (x * (y1 - y2)) := by
  rw [wStep, if_pos (hb.trans h), hp, h1, h2]
theorem wStep_no {n : Nat} {B Y : List Int} {r k : Nat} {x b : Int} (hb : nth B (tri r + k) = b) (h : ¬ b = 3) : wStep n B Y r k x = x := by
  rw [wStep, if_neg (by rw [hb]; exact h)]
theorem wRow_none {n : Nat} {B Y : List Int} {r : Nat} {x : Int} : ∀ m, (∀ k, k < m → nth B (tri r + k) ≤ 1) → wRow n B Y r m x = x
  | 0, _ => rfl
  | m + 1, h => by rw [wRow, wStep_no rfl (by have := h m (by omega); omega), wRow_none m fun k hk => h k (by omega)]

set_option maxRecDepth 4000 in
set_option maxHeartbeats 4000000 in
theorem weigh_any {A1 A2 A3 AY : Option Addr} {n1 n2 n3 ny : Nat} {B Y : List Int} {w : World} (c1 c2 c3 cy : Nat) (n : Nat) (h3 : RI w A3 n3 B) (hy : RI w AY ny Y)
    (hn : n ≤ 5) (e3 : n3 = tri n) (ey : ny = n) (hb : ∀ j, j < n → -9 ≤ nth Y j ∧ nth Y j ≤ 9) :
    Calls Try.prog 72 #[.agg #[.int .i64 n, .slice A1 n1 c1, .slice A2 n2 c2, .slice A3 n3 c3], .slice AY ny cy] w (GivesB w (.int .i64 (wAll n B Y n))) := by
  subst ey
  have HE := Lib.hid e3
  have HY := Lib.hid hb
  clear e3 hb
  have ht : tri ny ≤ 36 := tri_small (by omega)
  go_enter Try.func72, Try.ntmps72
  go_wp2
  obtain ⟨w1, e1⟩ : ∃ w1 : World, w1 = w.alloc (Obj.cells #[Value.int IntKind.i64 (ny : Int), Value.slice A1 n1 c1, Value.slice A2 n2 c2, Value.slice A3 n3 c3] 53) := ⟨_, rfl⟩
  have b1 : Below w.heap.size w w1 := by rw [e1]; exact (Below.refl _ _).alloc (Nat.le_refl _) _
  obtain ⟨bx, hbx⟩ : ∃ g, g = w.heap.size := ⟨_, rfl⟩
  have K1 : Hid (BK w1 bx 53 [Value.int IntKind.i64 (ny : Int), Value.slice A1 n1 c1, Value.slice A2 n2 c2, Value.slice A3 n3 c3]) := by
    rw [e1, hbx]; exact BK.new w _ _
  rw [← e1, ← hbx]
  clear e1 hbx
  have q0 := K1.out.cell (j := 0) rfl
  have q3 := K1.out.cell (j := 3) rfl
  go_loopw [5, 10] (fun o i wr => ∃ r : Nat, r ≤ ny ∧ i = .int .i64 (r : Int) ∧ o = .int .i64 (wAll ny B Y r) ∧ Quiet w1 wr) (fun _ i _ => ny - (intOf i).toNat)
  case atStart => exact ⟨0, Nat.zero_le _, rfl, rfl, (by first | exact ⟨_, rfl⟩ | exact ⟨_, (World.drewN_drewN _ _ _).symm⟩ | exact Quiet.refl _ | (simp only [World.drewN_drewN]; exact ⟨_, rfl⟩))⟩
  case round =>
    obtain ⟨r, hr, rfl, rfl, ⟨q, rfl⟩⟩ := hrel
    by_cases hlt : r < ny
    · have hlt' : r < ny := hlt
      go_wp2
      go_loopw [5, 15] (fun o i wr => ∃ k : Nat, k ≤ r + 1 ∧ i = .int .i64 (k : Int) ∧ o = .int .i64 (wRow ny B Y r k (wAll ny B Y r)) ∧ Quiet w1 wr) (fun _ i _ => r + 1 - (intOf i).toNat)
      case atStart => exact ⟨0, Nat.zero_le _, rfl, rfl, (by first | exact ⟨_, rfl⟩ | exact ⟨_, (World.drewN_drewN _ _ _).symm⟩ | exact Quiet.refl _ | (simp only [World.drewN_drewN]; exact ⟨_, rfl⟩))⟩
      case round =>
        obtain ⟨k, hk, rfl, rfl, ⟨q, rfl⟩⟩ := hrel
        by_cases hlt2 : k < r + 1
        · obtain ⟨y, hyy⟩ : ∃ a, tri r + k = a := ⟨_, rfl⟩
          have ly : y < n3 := by rw [HE.out, ← hyy]; exact tri_lt hlt' (by omega)
          have TA : atI (r : Int) (k : Int) = y := atI_eq rfl rfl hyy
          obtain ⟨ad, hA, x3⟩ := (h3.below b1).cell ly
          subst hA
          obtain ⟨b, hb⟩ : ∃ v, v = nth B y := ⟨_, rfl⟩
          rw [← hb] at x3
          have FB : Hid (nth B (tri r + k) = b) := by show nth B (tri r + k) = b; rw [hb, ← hyy]
          clear hb
          obtain ⟨p, hp⟩ : ∃ p, k + ny - 1 - r = p := ⟨_, rfl⟩
          have lp : p < ny := by omega
          obtain ⟨ady, hA, x4⟩ := (hy.below b1).cell lp
          subst hA
          have x5 : w1.cell? (ady.add k) = some (Value.int .i64 (nth Y k)) := by
            obtain ⟨ad', hA', hc⟩ := (hy.below b1).cell (show k < ny by omega)
            obtain rfl := Option.some.inj hA'
            exact hc
          obtain ⟨y1, hy1⟩ : ∃ v, v = nth Y p := ⟨_, rfl⟩
          obtain ⟨y2, hy2⟩ : ∃ v, v = nth Y k := ⟨_, rfl⟩
          have r1 := HY.out p lp
          have r2 := HY.out k (by omega)
          rw [← hy1] at x4 r1
          rw [← hy2] at x5 r2
          have F1 : Hid (nth Y p = y1) := hy1.symm
          have F2 : Hid (nth Y k = y2) := hy2.symm
          have FP : Hid (k + ny - 1 - r = p) := hp
          have ep : (k : Int) + (ny : Int) - 1 - (r : Int) = (p : Int) := by omega
          clear hy1 hy2 hp
          obtain ⟨x, hx⟩ : ∃ x, x = wRow ny B Y r k (wAll ny B Y r) := ⟨_, rfl⟩
          have HX : Hid (wRow ny B Y r k (wAll ny B Y r) = x) := hx.symm
          rw [← hx]
          clear hx
          by_cases h3' : b = 3
          · have HC : Hid (wRow ny B Y r (k + 1) (wAll ny B Y r) = wrap64 (x * (y1 - y2))) := by
              show wRow ny B Y r (k + 1) _ = _
              rw [wRow, HX.out, wStep_yes FB.out h3' FP.out F1.out F2.out]
            have g : (b == 3) = true := by simpa using h3'
            clear h3'
            go_wp2_with fail
            go_quiet ((go_at_call 84; first | exact qcall (at_gen _ _ (by omega) (by omega) (by omega) (by omega)) | exact qcall_add (at_gen _ _ (by omega) (by omega) (by omega) (by omega))))
            go_wp2_with fail
            go_quiet (fail)
            go_wp2
            go_roundw
            case rel => exact ⟨k + 1, by omega, by go_num, by rw [HC.out], (by first | exact ⟨_, rfl⟩ | exact ⟨_, (World.drewN_drewN _ _ _).symm⟩ | exact Quiet.refl _ | (simp only [World.drewN_drewN]; exact ⟨_, rfl⟩))⟩
            case measure => simp [intOf]; omega
          · have HC : Hid (wRow ny B Y r (k + 1) (wAll ny B Y r) = x) := by
              show wRow ny B Y r (k + 1) _ = _
              rw [wRow, HX.out, wStep_no FB.out h3']
            have g : (b == 3) = false := by simpa using h3'
            clear h3'
            go_wp2_with fail
            go_quiet ((go_at_call 84; first | exact qcall (at_gen _ _ (by omega) (by omega) (by omega) (by omega)) | exact qcall_add (at_gen _ _ (by omega) (by omega) (by omega) (by omega))))
            go_wp2
            go_roundw
            case rel => exact ⟨k + 1, by omega, by go_num, by rw [HC.out], (by first | exact ⟨_, rfl⟩ | exact ⟨_, (World.drewN_drewN _ _ _).symm⟩ | exact Quiet.refl _ | (simp only [World.drewN_drewN]; exact ⟨_, rfl⟩))⟩
            case measure => simp [intOf]; omega
        · obtain rfl : k = r + 1 := by omega
          go_wp2
          go_roundw
          case rel => exact ⟨r + 1, by omega, by go_num, rfl, (by first | exact ⟨_, rfl⟩ | exact ⟨_, (World.drewN_drewN _ _ _).symm⟩ | exact Quiet.refl _ | (simp only [World.drewN_drewN]; exact ⟨_, rfl⟩))⟩
          case measure => simp [intOf]; omega
    · obtain rfl : r = ny := by omega
      go_wp2
      go_ret
      exact ⟨rfl, below_drewN b1 _⟩
set_option maxRecDepth 4000 in
set_option maxHeartbeats 4000000 in
theorem l5Weight_any {A1 A2 A3 AY : Option Addr} {n1 n2 n3 ny : Nat} {B Y : List Int} {w : World} (c1 c2 c3 cy : Nat) (n : Nat) (h3 : RI w A3 n3 B) (hy : RI w AY ny Y)
    (hn1 : 1 ≤ n) (hn : n ≤ 5) (e3 : n3 = tri n) (ey : ny = n) (hb : ∀ j, j < n → -9 ≤ nth Y j ∧ nth Y j ≤ 9) :
    Calls Try.prog 69 #[.agg #[.int .i64 n, .slice A1 n1 c1, .slice A2 n2 c2, .slice A3 n3 c3], .slice AY ny cy] w (GivesB w (.int .i64 (wAll n B Y (n - 1)))) := by
  subst ey
  have HE := Lib.hid e3
  have HY := Lib.hid hb
  clear e3 hb
  have ht : tri ny ≤ 36 := tri_small (by omega)
  go_enter Try.func69, Try.ntmps69
  go_wp2
  obtain ⟨w1, e1⟩ : ∃ w1 : World, w1 = w.alloc (Obj.cells #[Value.int IntKind.i64 (ny : Int), Value.slice A1 n1 c1, Value.slice A2 n2 c2, Value.slice A3 n3 c3] 53) := ⟨_, rfl⟩
  have b1 : Below w.heap.size w w1 := by rw [e1]; exact (Below.refl _ _).alloc (Nat.le_refl _) _
  obtain ⟨bx, hbx⟩ : ∃ g, g = w.heap.size := ⟨_, rfl⟩
  have K1 : Hid (BK w1 bx 53 [Value.int IntKind.i64 (ny : Int), Value.slice A1 n1 c1, Value.slice A2 n2 c2, Value.slice A3 n3 c3]) := by
    rw [e1, hbx]; exact BK.new w _ _
  rw [← e1, ← hbx]
  clear e1 hbx
  have q0 := K1.out.cell (j := 0) rfl
  have q3 := K1.out.cell (j := 3) rfl
  go_loopw [5, 6] (fun o i wr => ∃ r : Nat, r + 1 ≤ ny ∧ i = .int .i64 ((r : Int) + 1) ∧ o = .int .i64 (wAll ny B Y r) ∧ Quiet w1 wr) (fun _ i _ => ny - (intOf i).toNat)
  case atStart => exact ⟨0, by omega, rfl, rfl, (by first | exact ⟨_, rfl⟩ | exact ⟨_, (World.drewN_drewN _ _ _).symm⟩ | exact Quiet.refl _ | (simp only [World.drewN_drewN]; exact ⟨_, rfl⟩))⟩
  case round =>
    obtain ⟨r, hr, rfl, rfl, ⟨q, rfl⟩⟩ := hrel
    by_cases hlt : r + 1 < ny
    · have hlt' : r < ny := by omega
      go_wp2
      go_loopw [5, 7] (fun o i wr => ∃ k : Nat, k ≤ r + 1 ∧ i = .int .i64 (k : Int) ∧ o = .int .i64 (wRow ny B Y r k (wAll ny B Y r)) ∧ Quiet w1 wr) (fun _ i _ => r + 1 - (intOf i).toNat)
      case atStart => exact ⟨0, Nat.zero_le _, rfl, rfl, (by first | exact ⟨_, rfl⟩ | exact ⟨_, (World.drewN_drewN _ _ _).symm⟩ | exact Quiet.refl _ | (simp only [World.drewN_drewN]; exact ⟨_, rfl⟩))⟩
      case round =>
        obtain ⟨k, hk, rfl, rfl, ⟨q, rfl⟩⟩ := hrel
        by_cases hlt2 : k < r + 1
        · obtain ⟨y, hyy⟩ : ∃ a, tri r + k = a := ⟨_, rfl⟩
          have ly : y < n3 := by rw [HE.out, ← hyy]; exact tri_lt hlt' (by omega)
          have TA : atI (r : Int) (k : Int) = y := atI_eq rfl rfl hyy
          obtain ⟨ad, hA, x3⟩ := (h3.below b1).cell ly
          subst hA
          obtain ⟨b, hb⟩ : ∃ v, v = nth B y := ⟨_, rfl⟩
          rw [← hb] at x3
          have FB : Hid (nth B (tri r + k) = b) := by show nth B (tri r + k) = b; rw [hb, ← hyy]
          clear hb
          obtain ⟨p, hp⟩ : ∃ p, k + ny - 1 - r = p := ⟨_, rfl⟩
          have lp : p < ny := by omega
          obtain ⟨ady, hA, x4⟩ := (hy.below b1).cell lp
          subst hA
          have x5 : w1.cell? (ady.add k) = some (Value.int .i64 (nth Y k)) := by
            obtain ⟨ad', hA', hc⟩ := (hy.below b1).cell (show k < ny by omega)
            obtain rfl := Option.some.inj hA'
            exact hc
          obtain ⟨y1, hy1⟩ : ∃ v, v = nth Y p := ⟨_, rfl⟩
          obtain ⟨y2, hy2⟩ : ∃ v, v = nth Y k := ⟨_, rfl⟩
          have r1 := HY.out p lp
          have r2 := HY.out k (by omega)
          rw [← hy1] at x4 r1
          rw [← hy2] at x5 r2
          have F1 : Hid (nth Y p = y1) := hy1.symm
          have F2 : Hid (nth Y k = y2) := hy2.symm
          have FP : Hid (k + ny - 1 - r = p) := hp
          have ep : (k : Int) + (ny : Int) - ((r : Int) + 1) = (p : Int) := by omega
          clear hy1 hy2 hp
          obtain ⟨x, hx⟩ : ∃ x, x = wRow ny B Y r k (wAll ny B Y r) := ⟨_, rfl⟩
          have HX : Hid (wRow ny B Y r k (wAll ny B Y r) = x) := hx.symm
          rw [← hx]
          clear hx
          by_cases h3' : b = 3
          · have HC : Hid (wRow ny B Y r (k + 1) (wAll ny B Y r) = wrap64 (x * (y1 - y2))) := by
              show wRow ny B Y r (k + 1) _ = _
              rw [wRow, HX.out, wStep_yes FB.out h3' FP.out F1.out F2.out]
            have g : (b == 3) = true := by simpa using h3'
            clear h3'
            go_wp2_with fail
            go_quiet ((go_at_call 93; first | exact qcall (place_gen _ _ (by omega) (by omega) (by omega) (by omega)) | exact qcall_add (place_gen _ _ (by omega) (by omega) (by omega) (by omega))))
            go_wp2_with fail
            go_quiet (fail)
            go_wp2
            go_roundw
            case rel => exact ⟨k + 1, by omega, by go_num, by rw [HC.out], (by first | exact ⟨_, rfl⟩ | exact ⟨_, (World.drewN_drewN _ _ _).symm⟩ | exact Quiet.refl _ | (simp only [World.drewN_drewN]; exact ⟨_, rfl⟩))⟩
            case measure => simp [intOf]; omega
          · have HC : Hid (wRow ny B Y r (k + 1) (wAll ny B Y r) = x) := by
              show wRow ny B Y r (k + 1) _ = _
              rw [wRow, HX.out, wStep_no FB.out h3']
            have g : (b == 3) = false := by simpa using h3'
            clear h3'
            go_wp2_with fail
            go_quiet ((go_at_call 93; first | exact qcall (place_gen _ _ (by omega) (by omega) (by omega) (by omega)) | exact qcall_add (place_gen _ _ (by omega) (by omega) (by omega) (by omega))))
            go_wp2
            go_roundw
            case rel => exact ⟨k + 1, by omega, by go_num, by rw [HC.out], (by first | exact ⟨_, rfl⟩ | exact ⟨_, (World.drewN_drewN _ _ _).symm⟩ | exact Quiet.refl _ | (simp only [World.drewN_drewN]; exact ⟨_, rfl⟩))⟩
            case measure => simp [intOf]; omega
        · obtain rfl : k = r + 1 := by omega
          go_wp2
          go_roundw
          case rel => exact ⟨r + 1, by omega, by go_num, rfl, (by first | exact ⟨_, rfl⟩ | exact ⟨_, (World.drewN_drewN _ _ _).symm⟩ | exact Quiet.refl _ | (simp only [World.drewN_drewN]; exact ⟨_, rfl⟩))⟩
          case measure => simp [intOf]; omega
    · obtain rfl : ny = r + 1 := by omega
      go_wp2
      go_ret
      exact ⟨rfl, below_drewN b1 _⟩
end Go.Proofs.Ytnljlophgolejaa

/- PuzzleWeight of both sides. -/
namespace Go.Proofs.Ytnljlophgolejaa
open Go.RowKit

def shB (S : Int) (Y : List Int) : Bool := decide (S ≤ 5) && (decide ((Y.length : Int) = S) && allB (fun j => inB (nth Y j) (-9) 9) Y.length)
theorem shB_big {S : Int} {Y : List Int} (h : ¬ S ≤ 5) : shB S Y = false := by simp [shB, h]
theorem shB_len {S : Int} {Y : List Int} (h : ¬ (Y.length : Int) = S) : shB S Y = false := by simp [shB, h]
theorem shB_no {S : Int} {Y : List Int} {n k : Nat} (hn : Y.length = n) (hk : k < n) (h : inB (nth Y k) (-9) 9 = false) : shB S Y = false := by
  subst hn
  simp [shB, allB_no (p := fun j => inB (nth Y j) (-9) 9) hk h]
theorem shB_yes {S : Int} {Y : List Int} {n : Nat} (hS : S ≤ 5) (hn : Y.length = n) (he : (n : Int) = S) (h : ∀ j, j < n → inB (nth Y j) (-9) 9 = true) : shB S Y = true := by
  subst hn
  simp [shB, hS, he, allB_yes (p := fun j => inB (nth Y j) (-9) 9) h]

theorem iShifts_any {A : Option Addr} {n : Nat} {l : List Int} {w : World} (c : Nat) (S : Int) (hx : RI w A n l) (hn : n ≤ 1000000000) (hS : S ≤ 5) :
    Calls Try.prog 70 #[.slice A n c, .int .i64 S] w (Gives w (.bool (shB S l))) := by
  have HL := Lib.hid hx.1
  go_enter Try.func70, Try.ntmps70
  go_wp2
  go_loopw [6, 9] (fun _ i wr => ∃ k : Nat, k ≤ n ∧ i = .int .i64 k ∧ Quiet w wr ∧ ∀ j, j < k → inB (nth l j) (-9) 9 = true) (fun _ i _ => n - (intOf i).toNat)
  case atStart => exact ⟨0, Nat.zero_le _, rfl, (by first | exact ⟨_, rfl⟩ | exact ⟨_, (World.drewN_drewN _ _ _).symm⟩ | exact Quiet.refl _ | (simp only [World.drewN_drewN]; exact ⟨_, rfl⟩)), by simp⟩
  case round =>
    obtain ⟨k, hk, rfl, ⟨q, rfl⟩, ht⟩ := hrel
    have HT := Lib.hid ht
    clear ht
    by_cases hlt : k < n
    · obtain ⟨ad, hA, hc⟩ := hx.cell hlt
      subst hA
      obtain ⟨y, hy⟩ : ∃ y, y = nth l k := ⟨_, rfl⟩
      rw [← hy] at hc
      have HY : Hid (nth l k = y) := hy.symm
      clear hy
      rcases Bool.eq_false_or_eq_true (inB y (-9) 9) with hb | hb
      · have hb' : -9 ≤ y ∧ y ≤ 9 := inB_iff.1 hb
        have HB : Hid (inB (nth l k) (-9) 9 = true) := by show inB (nth l k) (-9) 9 = true; rw [HY.out]; exact hb
        clear hb
        go_wp2
        go_roundw
        case rel => exact ⟨k + 1, by omega, by go_num, (by first | exact ⟨_, rfl⟩ | exact ⟨_, (World.drewN_drewN _ _ _).symm⟩ | exact Quiet.refl _ | (simp only [World.drewN_drewN]; exact ⟨_, rfl⟩)), upTo HT.out HB.out⟩
        case measure => simp [intOf]; omega
      · have HB : Hid (inB (nth l k) (-9) 9 = false) := by show inB (nth l k) (-9) 9 = false; rw [HY.out]; exact hb
        have hb' : ¬(-9 ≤ y ∧ y ≤ 9) := by rw [← inB_iff, hb]; simp
        clear hb
        by_cases h9 : y < -9
        · go_wp2
          go_ret
          exact ⟨ret_bool (shB_no HL.out hlt HB.out).symm, (by first | exact ⟨_, rfl⟩ | exact ⟨_, (World.drewN_drewN _ _ _).symm⟩ | exact Quiet.refl _ | (simp only [World.drewN_drewN]; exact ⟨_, rfl⟩))⟩
        · go_wp2
          go_ret
          exact ⟨ret_bool (shB_no HL.out hlt HB.out).symm, (by first | exact ⟨_, rfl⟩ | exact ⟨_, (World.drewN_drewN _ _ _).symm⟩ | exact Quiet.refl _ | (simp only [World.drewN_drewN]; exact ⟨_, rfl⟩))⟩
    · by_cases he : (n : Int) = S
      · have g : ((n : Int) == S) = true := by simpa using he
        have HE := Lib.hid he
        clear he
        go_wp2
        go_ret
        exact ⟨ret_bool (by rw [shB_yes hS HL.out HE.out (fun j hj => HT.out j (by omega))]), (by first | exact ⟨_, rfl⟩ | exact ⟨_, (World.drewN_drewN _ _ _).symm⟩ | exact Quiet.refl _ | (simp only [World.drewN_drewN]; exact ⟨_, rfl⟩))⟩
      · have g : ((n : Int) == S) = false := by simpa using he
        have HE := Lib.hid he
        clear he
        go_wp2
        go_ret
        exact ⟨ret_bool (by rw [shB_len (by rw [HL.out]; exact HE.out)]), (by first | exact ⟨_, rfl⟩ | exact ⟨_, (World.drewN_drewN _ _ _).symm⟩ | exact Quiet.refl _ | (simp only [World.drewN_drewN]; exact ⟨_, rfl⟩))⟩

theorem sShifts_any {A : Option Addr} {n : Nat} {l : List Int} {w : World} (c : Nat) (S : Int) (hx : RI w A n l) (hn : n ≤ 1000000000) :
    Calls Try.prog 68 #[.int .i64 S, .slice A n c] w (Gives w (.bool (shB S l))) := by
  have HL := Lib.hid hx.1
  by_cases hS : S ≤ 5
  case neg =>
    have HF := Lib.hid (shB_big (Y := l) hS)
    go_enter Try.func68, Try.ntmps68
    go_wp2
    go_ret
    exact ⟨ret_bool HF.out.symm, (by first | exact ⟨_, rfl⟩ | exact ⟨_, (World.drewN_drewN _ _ _).symm⟩ | exact Quiet.refl _ | (simp only [World.drewN_drewN]; exact ⟨_, rfl⟩))⟩
  by_cases he : (n : Int) = S
  case neg =>
    have HF := Lib.hid (shB_len (S := S) (Y := l) (by rw [hx.1]; exact he))
    go_enter Try.func68, Try.ntmps68
    have g : ((n : Int) != S) = true := by simpa using he
    go_wp2
    go_ret
    exact ⟨ret_bool HF.out.symm, (by first | exact ⟨_, rfl⟩ | exact ⟨_, (World.drewN_drewN _ _ _).symm⟩ | exact Quiet.refl _ | (simp only [World.drewN_drewN]; exact ⟨_, rfl⟩))⟩
  subst he
  have g : ((n : Int) != (n : Int)) = false := by simp
  go_enter Try.func68, Try.ntmps68
  go_wp2
  go_loopw [5] (fun i wr => ∃ k : Nat, k ≤ n ∧ i = .int .i64 k ∧ Quiet w wr ∧ ∀ j, j < k → inB (nth l j) (-9) 9 = true) (fun i _ => n - (intOf i).toNat)
  case atStart => exact ⟨0, Nat.zero_le _, rfl, (by first | exact ⟨_, rfl⟩ | exact ⟨_, (World.drewN_drewN _ _ _).symm⟩ | exact Quiet.refl _ | (simp only [World.drewN_drewN]; exact ⟨_, rfl⟩)), by simp⟩
  case round =>
    obtain ⟨k, hk, rfl, ⟨q, rfl⟩, ht⟩ := hrel
    have HT := Lib.hid ht
    clear ht
    by_cases hlt : k < n
    · obtain ⟨ad, hA, hc⟩ := hx.cell hlt
      subst hA
      rcases hb : inB (nth l k) (-9) 9 with _ | _
      · have HB := Lib.hid hb
        go_wp2_with (go_at_call 108; refine (l1In_any _ _ _).mono ?_; rintro e w' ⟨rfl, q0, rfl⟩)
        go_ret
        exact ⟨ret_bool (shB_no HL.out hlt HB.out).symm, (by first | exact ⟨_, rfl⟩ | exact ⟨_, (World.drewN_drewN _ _ _).symm⟩ | exact Quiet.refl _ | (simp only [World.drewN_drewN]; exact ⟨_, rfl⟩))⟩
      · have HB := Lib.hid hb
        go_wp2_with (go_at_call 108; refine (l1In_any _ _ _).mono ?_; rintro e w' ⟨rfl, q0, rfl⟩)
        go_roundw
        case rel => exact ⟨k + 1, by omega, by go_num, (by first | exact ⟨_, rfl⟩ | exact ⟨_, (World.drewN_drewN _ _ _).symm⟩ | exact Quiet.refl _ | (simp only [World.drewN_drewN]; exact ⟨_, rfl⟩)), upTo HT.out HB.out⟩
        case measure => simp [intOf]; omega
    · go_wp2
      go_ret
      exact ⟨ret_bool (shB_yes hS HL.out rfl (fun j hj => HT.out j (by omega))).symm, (by first | exact ⟨_, rfl⟩ | exact ⟨_, (World.drewN_drewN _ _ _).symm⟩ | exact Quiet.refl _ | (simp only [World.drewN_drewN]; exact ⟨_, rfl⟩))⟩

/-- Is there a weight? -/
def okW (S : Int) (L R B Y : List Int) : Bool := puzB S L R B true && shB S Y
def wtW (S : Int) (L R B Y : List Int) : Int := if okW S L R B Y = true then wAll S.toNat B Y S.toNat else 0
section
variable {A1 A2 A3 AY : Option Addr} {n1 n2 n3 ny : Nat} {L R B Y : List Int} {w : World} (c1 c2 c3 cy : Nat) (S : Int) (h1 : RI w A1 n1 L) (h2 : RI w A2 n2 R) (h3 : RI w A3 n3 B) (hy : RI w AY ny Y)
    (m1 : n1 ≤ 1000000000) (m2 : n2 ≤ 1000000000) (m3 : n3 ≤ 1000000000) (my : ny ≤ 1000000000)
include h1 h2 h3 hy m1 m2 m3 my
theorem iWeight_any : Calls Try.prog 50 #[.agg #[.int .i64 S, .slice A1 n1 c1, .slice A2 n2 c2, .slice A3 n3 c3], .slice AY ny cy] w (GivesB w (.tuple #[.int .i64 (wtW S L R B Y), .bool (okW S L R B Y)])) := by
  go_enter Try.func50, Try.ntmps50
  go_wp2_with fail
  obtain ⟨w0, e0⟩ : ∃ w0 : World, w0 = w.alloc (Obj.cells #[Value.int IntKind.i64 S, Value.slice A1 n1 c1, Value.slice A2 n2 c2, Value.slice A3 n3 c3] 53) := ⟨_, rfl⟩
  have g0 : Below w.heap.size w w0 := by rw [e0]; exact (Below.refl _ _).alloc (Nat.le_refl _) _
  obtain ⟨bx, hbx⟩ : ∃ g, g = w.heap.size := ⟨_, rfl⟩
  have K0 : Hid (BK w0 bx 53 [Value.int IntKind.i64 S, Value.slice A1 n1 c1, Value.slice A2 n2 c2, Value.slice A3 n3 c3]) := by
    rw [e0, hbx]; exact BK.new w _ _
  rw [← e0, ← hbx]
  clear e0 hbx
  refine (iWeightedOk_any _ _ _ S (h1.below g0) (h2.below g0) (h3.below g0) m1 m2 m3).mono ?_
  rintro e w1 ⟨rfl, b1⟩
  have g1 := bnext g0 b1 g0.size
  have K1 : Hid (BK w1 bx _ _) := K0.out.below b1 K0.out.lt
  obtain ⟨q0, q1, q2, q3⟩ := K1.out.four
  rcases hp : puzB S L R B true with _ | _
  · have HF : Hid (okW S L R B Y = false) := by show okW S L R B Y = false; simp [okW, hp]
    have HW : Hid (wtW S L R B Y = 0) := by show wtW S L R B Y = 0; simp [wtW, HF.out]
    go_wp2
    go_ret2
    exact ⟨by rw [HF.out, HW.out]; rfl, g1⟩
  have HP := Lib.hid hp
  by_cases hS : S ≤ 5
  case neg =>
    have HF : Hid (okW S L R B Y = false) := by show okW S L R B Y = false; simp [okW, shB_big hS]
    have HW : Hid (wtW S L R B Y = 0) := by show wtW S L R B Y = 0; simp [wtW, HF.out]
    go_wp2
    go_ret2
    exact ⟨by rw [HF.out, HW.out]; rfl, g1⟩
  rcases hs : shB S Y with _ | _
  · have HF : Hid (okW S L R B Y = false) := by show okW S L R B Y = false; simp [okW, hs]
    have HW : Hid (wtW S L R B Y = 0) := by show wtW S L R B Y = 0; simp [wtW, HF.out]
    go_wp2_with (go_at_call 70; refine (iShifts_any _ _ (hy.below g1) my hS).mono ?_; rintro e w' ⟨rfl, q0, rfl⟩)
    go_ret2
    exact ⟨by rw [HF.out, HW.out]; rfl, below_drewN g1 _⟩
  have HF : Hid (okW S L R B Y = true) := by show okW S L R B Y = true; simp [okW, hs, hp]
  have hp2 : sizesB S L R B = true := by
    have := hp
    unfold puzB at this
    rw [Bool.and_eq_true] at this
    exact this.1
  obtain ⟨hi, -, -, hB⟩ := sizesB_iff.1 hp2
  have hi := inB_iff.1 hi
  obtain ⟨n, rfl⟩ := Int.eq_ofNat_of_zero_le (a := S) (by omega)
  have hs2 := hs
  unfold shB at hs2
  simp only [Bool.and_eq_true, decide_eq_true_eq] at hs2
  have HW : Hid (wtW n L R B Y = wAll n B Y n) := by show wtW n L R B Y = _; rw [wtW, if_pos HF.out, Int.toNat_natCast]
  have HN : Hid (n3 = tri n ∧ ny = n ∧ ∀ j, j < n → -9 ≤ nth Y j ∧ nth Y j ≤ 9) := by
    refine ⟨by rw [← h3.1, hB, Int.toNat_natCast], by rw [← hy.1]; omega, fun j hj => ?_⟩
    exact inB_iff.1 (allB_at hs2.2.2 (by omega))
  have hn5 : n ≤ 5 := by omega
  clear hs2 hB hp2 hi hp
  go_wp2_with (go_at_call 70; refine (iShifts_any _ _ (hy.below g1) my hS).mono ?_; rintro e w' ⟨rfl, q0, rfl⟩)
  refine (weigh_any _ _ _ _ n (h3.below (below_drewN g1 _)) (hy.below (below_drewN g1 _)) hn5 HN.out.1 HN.out.2.1 HN.out.2.2).mono ?_
  rintro e w2 ⟨rfl, b2⟩
  have g2 := bnext (below_drewN g1 _) b2 g1.size
  go_wp2
  go_ret2
  exact ⟨by rw [HF.out, HW.out]; rfl, g2⟩
end
end Go.Proofs.Ytnljlophgolejaa
