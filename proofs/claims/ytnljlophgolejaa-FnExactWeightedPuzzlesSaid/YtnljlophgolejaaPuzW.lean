/- Weights of puzzles. -/
import Derived.Test.YtnljlophgolejaaPuzC
import Derived.Test.YtnljlophgolejaaWords
namespace Go.Proofs.Ytnljlophgolejaa
open Go.RowKit

def wStep (n : Nat) (B Y : List Int) (r k : Nat) (x : Int) : Int := if nth B (tri r + k) = 3 then wrap64 (x * (nth Y (k + n - 1 - r) - nth Y k)) else x
def wRow (n : Nat) (B Y : List Int) (r : Nat) : Nat → Int → Int
  | 0, x => x
  | k + 1, x => wStep n B Y r k (wRow n B Y r k x)
def wAll (n : Nat) (B Y : List Int) : Nat → Int
  | 0 => 1
  | r + 1 => wRow n B Y r (r + 1) (wAll n B Y r)
theorem wStep_yes {n : Nat} {B Y : List Int} {r k p : Nat} {x b y1 y2 : Int} (hb : nth B (tri r + k) = b) (h : b = 3) (hp : k + n - 1 - r = p) (h1 : nth Y p = y1) (h2 : nth Y k = y2) : wStep n B Y r k x = wrap64 (x * (y1 - y2)) := by
  rw [wStep, if_pos (hb.trans h), hp, h1, h2]
theorem wStep_no {n : Nat} {B Y : List Int} {r k : Nat} {x b : Int} (hb : nth B (tri r + k) = b) (h : ¬ b = 3) : wStep n B Y r k x = x := by
  rw [wStep, if_neg (by rw [hb]; exact h)]
theorem wRow_none {n : Nat} {B Y : List Int} {r : Nat} {x : Int} : ∀ m, (∀ k, k < m → nth B (tri r + k) ≤ 1) → wRow n B Y r m x = x
  | 0, _ => rfl
  | m + 1, h => by rw [wRow, wStep_no rfl (by have := h m (by omega); omega), wRow_none m fun k hk => h k (by omega)]

set_option maxRecDepth 4000 in
set_option maxHeartbeats 4000000 in
theorem weigh_any {A1 A2 A3 AY : Option Addr} {n1 n2 n3 ny : Nat} {B Y : List Int} {w : World} (c1 c2 c3 cy : Nat) (n : Nat) (h3 : RI w A3 n3 B) (hy : RI w AY ny Y)
    (hn : n ≤ 5) (e3 : n3 = tri n) (ey : ny = n) (hb : ∀ j, j < n → -9 ≤ nth Y j ∧ nth Y j ≤ 9) :
    Calls Try.prog 72 #[.agg #[.int .i64 n, .slice A1 n1 c1, .slice A2 n2 c2, .slice A3 n3 c3], .slice AY ny cy] w (GivesB w (.int .i64 (wAll n B Y n))) := by
  subst ey
  have HE := Lib.hid e3
  have HY := Lib.hid hb
  clear e3 hb
  have ht : tri ny ≤ 36 := tri_small (by omega)
  go_enter Try.func72, Try.ntmps72
  go_wp2
  obtain ⟨w1, e1⟩ : ∃ w1 : World, w1 = w.alloc (Obj.cells #[Value.int IntKind.i64 (ny : Int), Value.slice A1 n1 c1, Value.slice A2 n2 c2, Value.slice A3 n3 c3] 53) := ⟨_, rfl⟩
  have b1 : Below w.heap.size w w1 := by rw [e1]; exact (Below.refl _ _).alloc (Nat.le_refl _) _
  obtain ⟨bx, hbx⟩ : ∃ g, g = w.heap.size := ⟨_, rfl⟩
  have K1 : Hid (BK w1 bx 53 [Value.int IntKind.i64 (ny : Int), Value.slice A1 n1 c1, Value.slice A2 n2 c2, Value.slice A3 n3 c3]) := by
    rw [e1, hbx]; exact BK.new w _ _
  rw [← e1, ← hbx]
  clear e1 hbx
  have q0 := K1.out.cell (j := 0) rfl
  have q3 := K1.out.cell (j := 3) rfl
  go_loopw [5, 10] (fun o i wr => ∃ r : Nat, r ≤ ny ∧ i = .int .i64 (r : Int) ∧ o = .int .i64 (wAll ny B Y r) ∧ Quiet w1 wr) (fun _ i _ => ny - (intOf i).toNat)
  case atStart => exact ⟨0, Nat.zero_le _, rfl, rfl, (by first | exact ⟨_, rfl⟩ | exact ⟨_, (World.drewN_drewN _ _ _).symm⟩ | exact Quiet.refl _ | (simp only [World.drewN_drewN]; exact ⟨_, rfl⟩))⟩
  case round =>
    obtain ⟨r, hr, rfl, rfl, ⟨q, rfl⟩⟩ := hrel
    by_cases hlt : r < ny
    · have hlt' : r < ny := hlt
      go_wp2
      go_loopw [5, 15] (fun o i wr => ∃ k : Nat, k ≤ r + 1 ∧ i = .int .i64 (k : Int) ∧ o = .int .i64 (wRow ny B Y r k (wAll ny B Y r)) ∧ Quiet w1 wr) (fun _ i _ => r + 1 - (intOf i).toNat)
      case atStart => exact ⟨0, Nat.zero_le _, rfl, rfl, (by first | exact ⟨_, rfl⟩ | exact ⟨_, (World.drewN_drewN _ _ _).symm⟩ | exact Quiet.refl _ | (simp only [World.drewN_drewN]; exact ⟨_, rfl⟩))⟩
      case round =>
        obtain ⟨k, hk, rfl, rfl, ⟨q, rfl⟩⟩ := hrel
        by_cases hlt2 : k < r + 1
        · obtain ⟨y, hyy⟩ : ∃ a, tri r + k = a := ⟨_, rfl⟩
          have ly : y < n3 := by rw [HE.out, ← hyy]; exact tri_lt hlt' (by omega)
          have TA : atI (r : Int) (k : Int) = y := atI_eq rfl rfl hyy
          obtain ⟨ad, hA, x3⟩ := (h3.below b1).cell ly
          subst hA
          obtain ⟨b, hb⟩ : ∃ v, v = nth B y := ⟨_, rfl⟩
          rw [← hb] at x3
          have FB : Hid (nth B (tri r + k) = b) := by show nth B (tri r + k) = b; rw [hb, ← hyy]
          clear hb
          obtain ⟨p, hp⟩ : ∃ p, k + ny - 1 - r = p := ⟨_, rfl⟩
          have lp : p < ny := by omega
          obtain ⟨ady, hA, x4⟩ := (hy.below b1).cell lp
          subst hA
          have x5 : w1.cell? (ady.add k) = some (Value.int .i64 (nth Y k)) := by
            obtain ⟨ad', hA', hc⟩ := (hy.below b1).cell (show k < ny by omega)
            obtain rfl := Option.some.inj hA'
            exact hc
          obtain ⟨y1, hy1⟩ : ∃ v, v = nth Y p := ⟨_, rfl⟩
          obtain ⟨y2, hy2⟩ : ∃ v, v = nth Y k := ⟨_, rfl⟩
          have r1 := HY.out p lp
          have r2 := HY.out k (by omega)
          rw [← hy1] at x4 r1
          rw [← hy2] at x5 r2
          have F1 : Hid (nth Y p = y1) := hy1.symm
          have F2 : Hid (nth Y k = y2) := hy2.symm
          have FP : Hid (k + ny - 1 - r = p) := hp
          have ep : (k : Int) + (ny : Int) - 1 - (r : Int) = (p : Int) := by omega
          clear hy1 hy2 hp
          obtain ⟨x, hx⟩ : ∃ x, x = wRow ny B Y r k (wAll ny B Y r) := ⟨_, rfl⟩
          have HX : Hid (wRow ny B Y r k (wAll ny B Y r) = x) := hx.symm
          rw [← hx]
          clear hx
          by_cases h3' : b = 3
          · have HC : Hid (wRow ny B Y r (k + 1) (wAll ny B Y r) = wrap64 (x * (y1 - y2))) := by
              show wRow ny B Y r (k + 1) _ = _
              rw [wRow, HX.out, wStep_yes FB.out h3' FP.out F1.out F2.out]
            have g : (b == 3) = true := by simpa using h3'
            clear h3'
            go_wp2_with fail
            go_quiet ((go_at_call 84; first | exact qcall (at_gen _ _ (by omega) (by omega) (by omega) (by omega)) | exact qcall_add (at_gen _ _ (by omega) (by omega) (by omega) (by omega))))
            go_wp2_with fail
            go_quiet (fail)
            go_wp2
            go_roundw
            case rel => exact ⟨k + 1, by omega, by go_num, by rw [HC.out], (by first | exact ⟨_, rfl⟩ | exact ⟨_, (World.drewN_drewN _ _ _).symm⟩ | exact Quiet.refl _ | (simp only [World.drewN_drewN]; exact ⟨_, rfl⟩))⟩
            case measure => simp [intOf]; omega
          · have HC : Hid (wRow ny B Y r (k + 1) (wAll ny B Y r) = x) := by
              show wRow ny B Y r (k + 1) _ = _
              rw [wRow, HX.out, wStep_no FB.out h3']
            have g : (b == 3) = false := by simpa using h3'
            clear h3'
            go_wp2_with fail
            go_quiet ((go_at_call 84; first | exact qcall (at_gen _ _ (by omega) (by omega) (by omega) (by omega)) | exact qcall_add (at_gen _ _ (by omega) (by omega) (by omega) (by omega))))
            go_wp2
            go_roundw
            case rel => exact ⟨k + 1, by omega, by go_num, by rw [HC.out], (by first | exact ⟨_, rfl⟩ | exact ⟨_, (World.drewN_drewN _ _ _).symm⟩ | exact Quiet.refl _ | (simp only [World.drewN_drewN]; exact ⟨_, rfl⟩))⟩
            case measure => simp [intOf]; omega
        · obtain rfl : k = r + 1 := by omega
          go_wp2
          go_roundw
          case rel => exact ⟨r + 1, by omega, by go_num, rfl, (by first | exact ⟨_, rfl⟩ | exact ⟨_, (World.drewN_drewN _ _ _).symm⟩ | exact Quiet.refl _ | (simp only [World.drewN_drewN]; exact ⟨_, rfl⟩))⟩
          case measure => simp [intOf]; omega
    · obtain rfl : r = ny := by omega
      go_wp2
      go_ret
      exact ⟨rfl, below_drewN b1 _⟩
set_option maxRecDepth 4000 in
set_option maxHeartbeats 4000000 in
theorem l5Weight_any {A1 A2 A3 AY : Option Addr} {n1 n2 n3 ny : Nat} {B Y : List Int} {w : World} (c1 c2 c3 cy : Nat) (n : Nat) (h3 : RI w A3 n3 B) (hy : RI w AY ny Y)
    (hn1 : 1 ≤ n) (hn : n ≤ 5) (e3 : n3 = tri n) (ey : ny = n) (hb : ∀ j, j < n → -9 ≤ nth Y j ∧ nth Y j ≤ 9) :
    Calls Try.prog 69 #[.agg #[.int .i64 n, .slice A1 n1 c1, .slice A2 n2 c2, .slice A3 n3 c3], .slice AY ny cy] w (GivesB w (.int .i64 (wAll n B Y (n - 1)))) := by
  subst ey
  have HE := Lib.hid e3
  have HY := Lib.hid hb
  clear e3 hb
  have ht : tri ny ≤ 36 := tri_small (by omega)
  go_enter Try.func69, Try.ntmps69
  go_wp2
  obtain ⟨w1, e1⟩ : ∃ w1 : World, w1 = w.alloc (Obj.cells #[Value.int IntKind.i64 (ny : Int), Value.slice A1 n1 c1, Value.slice A2 n2 c2, Value.slice A3 n3 c3] 53) := ⟨_, rfl⟩
  have b1 : Below w.heap.size w w1 := by rw [e1]; exact (Below.refl _ _).alloc (Nat.le_refl _) _
  obtain ⟨bx, hbx⟩ : ∃ g, g = w.heap.size := ⟨_, rfl⟩
  have K1 : Hid (BK w1 bx 53 [Value.int IntKind.i64 (ny : Int), Value.slice A1 n1 c1, Value.slice A2 n2 c2, Value.slice A3 n3 c3]) := by
    rw [e1, hbx]; exact BK.new w _ _
  rw [← e1, ← hbx]
  clear e1 hbx
  have q0 := K1.out.cell (j := 0) rfl
  have q3 := K1.out.cell (j := 3) rfl
  go_loopw [5, 6] (fun o i wr => ∃ r : Nat, r + 1 ≤ ny ∧ i = .int .i64 ((r : Int) + 1) ∧ o = .int .i64 (wAll ny B Y r) ∧ Quiet w1 wr) (fun _ i _ => ny - (intOf i).toNat)
  case atStart => exact ⟨0, by omega, rfl, rfl, (by first | exact ⟨_, rfl⟩ | exact ⟨_, (World.drewN_drewN _ _ _).symm⟩ | exact Quiet.refl _ | (simp only [World.drewN_drewN]; exact ⟨_, rfl⟩))⟩
  case round =>
    obtain ⟨r, hr, rfl, rfl, ⟨q, rfl⟩⟩ := hrel
    by_cases hlt : r + 1 < ny
    · have hlt' : r < ny := by omega
      go_wp2
      go_loopw [5, 7] (fun o i wr => ∃ k : Nat, k ≤ r + 1 ∧ i = .int .i64 (k : Int) ∧ o = .int .i64 (wRow ny B Y r k (wAll ny B Y r)) ∧ Quiet w1 wr) (fun _ i _ => r + 1 - (intOf i).toNat)
      case atStart => exact ⟨0, Nat.zero_le _, rfl, rfl, (by first | exact ⟨_, rfl⟩ | exact ⟨_, (World.drewN_drewN _ _ _).symm⟩ | exact Quiet.refl _ | (simp only [World.drewN_drewN]; exact ⟨_, rfl⟩))⟩
      case round =>
        obtain ⟨k, hk, rfl, rfl, ⟨q, rfl⟩⟩ := hrel
        by_cases hlt2 : k < r + 1
        · obtain ⟨y, hyy⟩ : ∃ a, tri r + k = a := ⟨_, rfl⟩
          have ly : y < n3 := by rw [HE.out, ← hyy]; exact tri_lt hlt' (by omega)
          have TA : atI (r : Int) (k : Int) = y := atI_eq rfl rfl hyy
          obtain ⟨ad, hA, x3⟩ := (h3.below b1).cell ly
          subst hA
          obtain ⟨b, hb⟩ : ∃ v, v = nth B y := ⟨_, rfl⟩
          rw [← hb] at x3
          have FB : Hid (nth B (tri r + k) = b) := by show nth B (tri r + k) = b; rw [hb, ← hyy]
          clear hb
          obtain ⟨p, hp⟩ : ∃ p, k + ny - 1 - r = p := ⟨_, rfl⟩
          have lp : p < ny := by omega
          obtain ⟨ady, hA, x4⟩ := (hy.below b1).cell lp
          subst hA
          have x5 : w1.cell? (ady.add k) = some (Value.int .i64 (nth Y k)) := by
            obtain ⟨ad', hA', hc⟩ := (hy.below b1).cell (show k < ny by omega)
            obtain rfl := Option.some.inj hA'
            exact hc
          obtain ⟨y1, hy1⟩ : ∃ v, v = nth Y p := ⟨_, rfl⟩
          obtain ⟨y2, hy2⟩ : ∃ v, v = nth Y k := ⟨_, rfl⟩
          have r1 := HY.out p lp
          have r2 := HY.out k (by omega)
          rw [← hy1] at x4 r1
          rw [← hy2] at x5 r2
          have F1 : Hid (nth Y p = y1) := hy1.symm
          have F2 : Hid (nth Y k = y2) := hy2.symm
          have FP : Hid (k + ny - 1 - r = p) := hp
          have ep : (k : Int) + (ny : Int) - ((r : Int) + 1) = (p : Int) := by omega
          clear hy1 hy2 hp
          obtain ⟨x, hx⟩ : ∃ x, x = wRow ny B Y r k (wAll ny B Y r) := ⟨_, rfl⟩
          have HX : Hid (wRow ny B Y r k (wAll ny B Y r) = x) := hx.symm
          rw [← hx]
          clear hx
          by_cases h3' : b = 3
          · have HC : Hid (wRow ny B Y r (k + 1) (wAll ny B Y r) = wrap64 (x * (y1 - y2))) := by
              show wRow ny B Y r (k + 1) _ = _
              rw [wRow, HX.out, wStep_yes FB.out h3' FP.out F1.out F2.out]
            have g : (b == 3) = true := by simpa using h3'
            clear h3'
            go_wp2_with fail
            go_quiet ((go_at_call 93; first | exact qcall (place_gen _ _ (by omega) (by omega) (by omega) (by omega)) | exact qcall_add (place_gen _ _ (by omega) (by omega) (by omega) (by omega))))
            go_wp2_with fail
            go_quiet (fail)
            go_wp2
            go_roundw
            case rel => exact ⟨k + 1, by omega, by go_num, by rw [HC.out], (by first | exact ⟨_, rfl⟩ | exact ⟨_, (World.drewN_drewN _ _ _).symm⟩ | exact Quiet.refl _ | (simp only [World.drewN_drewN]; exact ⟨_, rfl⟩))⟩
            case measure => simp [intOf]; omega
          · have HC : Hid (wRow ny B Y r (k + 1) (wAll ny B Y r) = x) := by
              show wRow ny B Y r (k + 1) _ = _
              rw [wRow, HX.out, wStep_no FB.out h3']
            have g : (b == 3) = false := by simpa using h3'
            clear h3'
            go_wp2_with fail
            go_quiet ((go_at_call 93; first | exact qcall (place_gen _ _ (by omega) (by omega) (by omega) (by omega)) | exact qcall_add (place_gen _ _ (by omega) (by omega) (by omega) (by omega))))
            go_wp2
            go_roundw
            case rel => exact ⟨k + 1, by omega, by go_num, by rw [HC.out], (by first | exact ⟨_, rfl⟩ | exact ⟨_, (World.drewN_drewN _ _ _).symm⟩ | exact Quiet.refl _ | (simp only [World.drewN_drewN]; exact ⟨_, rfl⟩))⟩
            case measure => simp [intOf]; omega
        · obtain rfl : k = r + 1 := by omega
          go_wp2
          go_roundw
          case rel => exact ⟨r + 1, by omega, by go_num, rfl, (by first | exact ⟨_, rfl⟩ | exact ⟨_, (World.drewN_drewN _ _ _).symm⟩ | exact Quiet.refl _ | (simp only [World.drewN_drewN]; exact ⟨_, rfl⟩))⟩
          case measure => simp [intOf]; omega
    · obtain rfl : ny = r + 1 := by omega
      go_wp2
      go_ret
      exact ⟨rfl, below_drewN b1 _⟩
end Go.Proofs.Ytnljlophgolejaa
