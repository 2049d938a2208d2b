/- isReduced and EdelmanGreene of the program, at a reduced word. -/
import Derived.Test.YtgbojgmmingfdaaWordW
namespace Go.Proofs.Ytgbojgmmingfdaa
open Go.RowKit

theorem lessTo_dnC {l : List Int} {i : Nat} : ∀ m, i + 1 + m ≤ l.length → lessTo l i m = (dnC (nth l i) ((l.drop (i + 1)).take m) : Int)
  | 0, _ => by simp [lessTo, dnC]
  | m + 1, h => by
    have ih := lessTo_dnC (l := l) (i := i) m (by omega)
    have hd : m < (l.drop (i + 1)).length := by rw [List.length_drop]; omega
    rw [take_succ_nth hd, nth_drop, lessTo, ih]
    unfold dnC
    rw [List.filter_append, List.length_append]
    split
    · rename_i h1
      rw [List.filter_cons, if_pos (by simpa using h1)]
      simp
    · rename_i h1
      rw [List.filter_cons, if_neg (by simpa using h1)]
      simp
theorem lengthB_dnv {w : List Int} (h : permB w = true) : lengthB w = (dnv w : Int) := by
  rw [lengthB_yes h, codeB_yes h, sumL, gen_len]
  have key : ∀ k, k ≤ w.length → sumTo (gen (codeAt w w.length) w.length) k + (dnv (w.drop k) : Int) = (dnv w : Int) := fun k => by
    induction k with
    | zero => intro _; simp [sumTo]
    | succ k ih =>
      intro hk
      rw [← ih (by omega), sumTo, nth_gen (by omega), codeAt, if_pos (by omega), drop_nth (show k < w.length by omega), dnv, lessTo_dnC _ (by omega)]
      have e : (w.drop (k + 1)).take (w.length - 1 - k) = w.drop (k + 1) := List.take_of_length_le (by rw [List.length_drop]; omega)
      rw [e]
      omega
  have h1 := key w.length (Nat.le_refl _)
  rw [List.drop_length] at h1
  simp [dnv] at h1
  exact h1
/-- A reduced word of a permutation. -/
structure RedOf (w v : List Int) : Prop where
  pm : permB w = true
  play : playL (idn w.length) v = w
  len : v.length = dnv w
  ok : ∀ x ∈ v, 0 ≤ x ∧ x + 1 < w.length
theorem RedOf.of {w v : List Int} (hp : permB w = true) {f : Nat} (hf : fin' w ≤ f) (hv : v ∈ redI f w) : RedOf w v := by
  obtain ⟨a, b, c⟩ := redI_play (prm_of hp) hf hv
  exact ⟨hp, a, b, c⟩
theorem RedOf.word {w v : List Int} (h : RedOf w v) : WordOk w.length v ∧ v.length ≤ 21 := by
  have h1 := dnv_21 (permB_size h.pm).2
  have h2 := h.len
  exact ⟨⟨by omega, fun j hj => by rw [nth_lt hj]; exact h.ok _ (List.getElem_mem hj)⟩, by omega⟩
set_option maxRecDepth 100000 in
set_option maxHeartbeats 1000000 in
theorem isRed_any {A : Option Addr} {m : Nat} {l v : List Int} {w : World} (c : Nat) (hx : RI w A m v) (h : RedOf l v) :
    Calls Try.prog 90 #[.int .i64 (l.length : Int), .slice A m c] w (GivesB w (.bool true)) := by
  have hsz := permB_size h.pm
  have hwd := h.word
  have HL : Hid (v.length = m) := hx.1
  have HIW : Hid (∀ W, Below w.heap.size w W → Calls Try.prog 97 #[.int .i64 (l.length : Int), .slice A m c] W (Gives W (.bool true))) := fun W bW => isWord_any c l.length hsz (hx.below bW) hwd.1
  have HWP : Hid (∀ W, Below w.heap.size w W → Calls Try.prog 31 #[.int .i64 (l.length : Int), .slice A m c] W (Makes W l)) := fun W bW => by
    have h1 := iWordPerm_any c l.length hsz (hx.below bW) hwd.1
    rw [h.play] at h1
    exact h1
  have hlen : lengthB l = (m : Int) := by rw [lengthB_dnv h.pm, ← h.len, HL.out]
  have HLN : Hid (∀ W A' n' c', RI W A' n' l → n' ≤ c' → Calls Try.prog 154 #[.slice A' n' c'] W (GivesB W (.int .i64 (m : Int)))) := fun W A' n' c' hr hc => by
    have h1 := length_any (w := W) c' hr (by rw [← hr.1]; omega) hc
    rw [hlen] at h1
    exact h1
  have hmm : ((m : Int) == (m : Int)) = true := by simp
  clear hx h hwd hsz hlen
  obtain ⟨N, hN⟩ : ∃ N, N = l.length := ⟨_, rfl⟩
  rw [← hN] at HIW HWP ⊢
  clear hN
  go_enter Try.func90, Try.ntmps90
  go_wp2_with (first
    | (go_at_call 97; refine (HIW.out _ (Below.refl _ _)).mono ?_; rintro e w1 ⟨rfl, q1, rfl⟩)
    | (go_at_call 31; refine (HWP.out _ (below_drewN (Below.refl _ _) _)).mono ?_; rintro e w2 ⟨A2, n2, c2, rfl, o2, r2, ⟨cp2, le2⟩, b2⟩)
    | (go_at_call 154; refine (HLN.out _ _ _ _ r2 cp2).mono ?_; rintro e w3 ⟨rfl, b3⟩)
    | fail)
  go_ret
  have hb1 : Below w.heap.size w (w.drewN q1) := below_drewN (Below.refl _ _) _
  have hb2 := bnext hb1 b2 hb1.size
  exact ⟨rfl, bnext hb2 b3 hb2.size⟩
/-- Two tableaux and 'true'. -/
def MakesSSb (w : World) (p q : List (List Int)) : Ending → World → Prop := fun e w' =>
  ∃ A n c pc B m d qc, e = .returned (.tuple #[.slice A n c, .slice B m d, .bool true]) ∧ OS w' w.heap.size w.heap.size (.slice A n c) p pc ∧ OS w' w.heap.size w.heap.size (.slice B m d) q qc ∧ Below w.heap.size w w'
set_option maxRecDepth 100000 in
set_option maxHeartbeats 1000000 in
theorem iEg_any {A : Option Addr} {m : Nat} {l v : List Int} {w : World} (c : Nat) (hx : RI w A m v) (h : RedOf l v) :
    Calls Try.prog 24 #[.int .i64 (l.length : Int), .slice A m c] w (MakesSSb w (egT v) (egQ v v.length)) := by
  have HIR : Hid (Calls Try.prog 90 #[.int .i64 (l.length : Int), .slice A m c] w (GivesB w (.bool true))) := isRed_any c hx h
  have HIN : Hid (∀ W, Below w.heap.size w W → Calls Try.prog 91 #[.slice A m c, .bool true] W (MakesSS W (egT v) (egQ v v.length))) := fun W bW => by
    have hwd := h.word
    have hsz := permB_size h.pm
    refine inserting_any c 6 (hx.below bW) (fun j hj => ?_) (by omega) (by omega)
    have := hwd.1.2 j hj
    omega
  clear hx h
  go_enter Try.func24, Try.ntmps24
  go_wp2_with (first
    | (go_at_call 90; refine HIR.out.mono ?_; rintro e w1 ⟨rfl, b1⟩; have B1 := Lib.hid b1)
    | (go_at_call 91; refine (HIN.out _ B1.out).mono ?_; rintro e w2 ⟨A2, n2, c2, pc, A3, n3, c3, qc, rfl, o2, o3, b2⟩)
    | fail)
  have hs := B1.out.size
  have hb := bnext B1.out b2 hs
  go_ret3
  exact ⟨_, _, _, pc, _, _, _, qc, rfl, OF.mono o2 hs hs, OF.mono o3 hs hs, hb⟩
end Go.Proofs.Ytgbojgmmingfdaa
