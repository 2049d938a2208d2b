/- Digits. -/
import Derived.Test.YtemafljipkcgcaaStrs
import Derived.LoopN
namespace Go.Proofs.Ytemafljipkcgcaa
open Go.RowKit

def dig (x : Int) : ByteArray := ⟨#[(48 + x.toNat).toUInt8]⟩
def lenV : Value → Nat
  | .slice _ n _ => n
  | _ => 0
theorem OKBy.form {w : World} {base : Nat} {v : Value} {x : Int} (h : OKBy w base v [x]) : ∃ g c, v = .slice (some ⟨g, 0, none⟩) 1 c ∧ w.cell? ⟨g, 0, none⟩ = some (.int .u8 x) ∧ base ≤ g := by
  rcases h.2 with ⟨_, hl⟩ | ⟨g, cap, cur, he, hg, r⟩
  · simp at hl
  · subst he
    have := World.ownsRow.cellAt h 0 (by simp)
    exact ⟨g, cap, rfl, by simpa [cellsBy] using this, hg⟩

theorem conv1 {w : World} {g c : Nat} {b : UInt8} (h : w.cell? ⟨g, 0, none⟩ = some (.int .u8 (b.toNat : Int))) : (convert 50 9 (.slice (some ⟨g, 0, none⟩) 1 c)).run Try.prog w = .ok (.string ⟨#[b]⟩) w :=
  run_convert_bytes_back (P := Try.prog) w 50 9 5 ⟨g, 0, none⟩ c [b] Try.underlying50 Try.underlying5 Try.underlying9 (fun j hj => by
    have : j = 0 := by simpa using hj
    subst this
    simpa [Addr.add] using h)

theorem iFmt_any {w : World} (x : Int) (h1 : 0 ≤ x) (h2 : x ≤ 3) : Calls Try.prog 88 #[.int .i64 x] w (fun e w' => e = .returned (.string (dig x)) ∧ w' = w) := by
  have hx : x = 0 ∨ x = 1 ∨ x = 2 ∨ x = 3 := by omega
  rcases hx with rfl | rfl | rfl | rfl
  all_goals
    go_enter Try.func88, Try.ntmps88
    go_wp2
    go_ret
    exact ⟨by rfl, rfl⟩
set_option maxRecDepth 4000 in
set_option maxHeartbeats 1000000 in
theorem sFmt_any {w : World} (x : Int) (h1 : 0 ≤ x) (h2 : x ≤ 3) : Calls Try.prog 86 #[.int .i64 x] w (fun e w' => e = .returned (.string (dig x)) ∧ Below w.heap.size w w') := by
  have hx : x = 0 ∨ x = 1 ∨ x = 2 ∨ x = 3 := by omega
  clear h1 h2
  rcases hx with rfl | rfl | rfl | rfl
  · go_enter Try.func86, Try.ntmps86
    go_wp2
    refine wp_loop_rounds 2 ?_
    simp only [Code.rounds]
    go_wp2_with (at_builtin; refine wpAppBy rfl _ _ rfl w.heap.size (.slice (some ⟨w.heap.size, 0, none⟩) 0 0) [] 48 (w.heap.size + 1) 1 rfl rfl (by exact (OKBy.lit w _ (Nat.le_refl _)).alloc _) (by simp) (by simp) (by simp <;> omega) ?_; intro v1 w1 h1 h2 h3; obtain ⟨g, c, rfl, hc, hb⟩ := h1.form; have b1 : Below w.heap.size w w1 := (((Below.refl _ _).alloc (Nat.le_refl _) _).alloc (by simp) _).grown h2 (by simp; omega) (fun k hk => by obtain rfl := Option.some.inj hk; exact Nat.le_refl _))
    have hgl := (h1.lt g rfl).2
    have hc' : (w1.alloc (Obj.cells #[] 5)).cell? ⟨g, 0, none⟩ = some (.int .u8 48) := (World.cell?_alloc_lt w1 _ _ hgl).trans hc
    refine wp_loop_rounds 2 ?_
    simp only [Code.rounds]
    clear h2 h3
    go_wp2_with (at_builtin; refine wpAppBy rfl _ _ rfl w1.heap.size (.slice (some ⟨w1.heap.size, 0, none⟩) 0 0) [] 48 (w1.heap.size + 1) 1 rfl rfl (by exact (OKBy.lit w1 _ (Nat.le_refl _)).alloc _) (by simp) (by simp) (by simp <;> omega) ?_; intro v2 w2 k1 k2 k3; obtain ⟨g2, c2, rfl, kc, kb⟩ := k1.form; have hcv := conv1 (c := c2) (b := 48) (by simpa using kc); have b2 : Below w1.heap.size w1 w2 := (((Below.refl _ _).alloc (Nat.le_refl _) _).alloc (by simp) _).grown k2 (by simp; omega) (fun k hk => by obtain rfl := Option.some.inj hk; exact Nat.le_refl _))
    go_ret
    exact ⟨by rfl, b1.trans (b2.mono b1.size)⟩
  · go_enter Try.func86, Try.ntmps86
    go_wp2
    refine wp_loop_rounds 2 ?_
    simp only [Code.rounds]
    go_wp2_with (at_builtin; refine wpAppBy rfl _ _ rfl w.heap.size (.slice (some ⟨w.heap.size, 0, none⟩) 0 0) [] 49 (w.heap.size + 1) 1 rfl rfl (by exact (OKBy.lit w _ (Nat.le_refl _)).alloc _) (by simp) (by simp) (by simp <;> omega) ?_; intro v1 w1 h1 h2 h3; obtain ⟨g, c, rfl, hc, hb⟩ := h1.form; have b1 : Below w.heap.size w w1 := (((Below.refl _ _).alloc (Nat.le_refl _) _).alloc (by simp) _).grown h2 (by simp; omega) (fun k hk => by obtain rfl := Option.some.inj hk; exact Nat.le_refl _))
    have hgl := (h1.lt g rfl).2
    have hc' : (w1.alloc (Obj.cells #[] 5)).cell? ⟨g, 0, none⟩ = some (.int .u8 49) := (World.cell?_alloc_lt w1 _ _ hgl).trans hc
    refine wp_loop_rounds 2 ?_
    simp only [Code.rounds]
    clear h2 h3
    go_wp2_with (at_builtin; refine wpAppBy rfl _ _ rfl w1.heap.size (.slice (some ⟨w1.heap.size, 0, none⟩) 0 0) [] 49 (w1.heap.size + 1) 1 rfl rfl (by exact (OKBy.lit w1 _ (Nat.le_refl _)).alloc _) (by simp) (by simp) (by simp <;> omega) ?_; intro v2 w2 k1 k2 k3; obtain ⟨g2, c2, rfl, kc, kb⟩ := k1.form; have hcv := conv1 (c := c2) (b := 49) (by simpa using kc); have b2 : Below w1.heap.size w1 w2 := (((Below.refl _ _).alloc (Nat.le_refl _) _).alloc (by simp) _).grown k2 (by simp; omega) (fun k hk => by obtain rfl := Option.some.inj hk; exact Nat.le_refl _))
    go_ret
    exact ⟨by rfl, b1.trans (b2.mono b1.size)⟩
  · go_enter Try.func86, Try.ntmps86
    go_wp2
    refine wp_loop_rounds 2 ?_
    simp only [Code.rounds]
    go_wp2_with (at_builtin; refine wpAppBy rfl _ _ rfl w.heap.size (.slice (some ⟨w.heap.size, 0, none⟩) 0 0) [] 50 (w.heap.size + 1) 1 rfl rfl (by exact (OKBy.lit w _ (Nat.le_refl _)).alloc _) (by simp) (by simp) (by simp <;> omega) ?_; intro v1 w1 h1 h2 h3; obtain ⟨g, c, rfl, hc, hb⟩ := h1.form; have b1 : Below w.heap.size w w1 := (((Below.refl _ _).alloc (Nat.le_refl _) _).alloc (by simp) _).grown h2 (by simp; omega) (fun k hk => by obtain rfl := Option.some.inj hk; exact Nat.le_refl _))
    have hgl := (h1.lt g rfl).2
    have hc' : (w1.alloc (Obj.cells #[] 5)).cell? ⟨g, 0, none⟩ = some (.int .u8 50) := (World.cell?_alloc_lt w1 _ _ hgl).trans hc
    refine wp_loop_rounds 2 ?_
    simp only [Code.rounds]
    clear h2 h3
    go_wp2_with (at_builtin; refine wpAppBy rfl _ _ rfl w1.heap.size (.slice (some ⟨w1.heap.size, 0, none⟩) 0 0) [] 50 (w1.heap.size + 1) 1 rfl rfl (by exact (OKBy.lit w1 _ (Nat.le_refl _)).alloc _) (by simp) (by simp) (by simp <;> omega) ?_; intro v2 w2 k1 k2 k3; obtain ⟨g2, c2, rfl, kc, kb⟩ := k1.form; have hcv := conv1 (c := c2) (b := 50) (by simpa using kc); have b2 : Below w1.heap.size w1 w2 := (((Below.refl _ _).alloc (Nat.le_refl _) _).alloc (by simp) _).grown k2 (by simp; omega) (fun k hk => by obtain rfl := Option.some.inj hk; exact Nat.le_refl _))
    go_ret
    exact ⟨by rfl, b1.trans (b2.mono b1.size)⟩
  · go_enter Try.func86, Try.ntmps86
    go_wp2
    refine wp_loop_rounds 2 ?_
    simp only [Code.rounds]
    go_wp2_with (at_builtin; refine wpAppBy rfl _ _ rfl w.heap.size (.slice (some ⟨w.heap.size, 0, none⟩) 0 0) [] 51 (w.heap.size + 1) 1 rfl rfl (by exact (OKBy.lit w _ (Nat.le_refl _)).alloc _) (by simp) (by simp) (by simp <;> omega) ?_; intro v1 w1 h1 h2 h3; obtain ⟨g, c, rfl, hc, hb⟩ := h1.form; have b1 : Below w.heap.size w w1 := (((Below.refl _ _).alloc (Nat.le_refl _) _).alloc (by simp) _).grown h2 (by simp; omega) (fun k hk => by obtain rfl := Option.some.inj hk; exact Nat.le_refl _))
    have hgl := (h1.lt g rfl).2
    have hc' : (w1.alloc (Obj.cells #[] 5)).cell? ⟨g, 0, none⟩ = some (.int .u8 51) := (World.cell?_alloc_lt w1 _ _ hgl).trans hc
    refine wp_loop_rounds 2 ?_
    simp only [Code.rounds]
    clear h2 h3
    go_wp2_with (at_builtin; refine wpAppBy rfl _ _ rfl w1.heap.size (.slice (some ⟨w1.heap.size, 0, none⟩) 0 0) [] 51 (w1.heap.size + 1) 1 rfl rfl (by exact (OKBy.lit w1 _ (Nat.le_refl _)).alloc _) (by simp) (by simp) (by simp <;> omega) ?_; intro v2 w2 k1 k2 k3; obtain ⟨g2, c2, rfl, kc, kb⟩ := k1.form; have hcv := conv1 (c := c2) (b := 51) (by simpa using kc); have b2 : Below w1.heap.size w1 w2 := (((Below.refl _ _).alloc (Nat.le_refl _) _).alloc (by simp) _).grown k2 (by simp; omega) (fun k hk => by obtain rfl := Option.some.inj hk; exact Nat.le_refl _))
    go_ret
    exact ⟨by rfl, b1.trans (b2.mono b1.size)⟩
end Go.Proofs.Ytemafljipkcgcaa
