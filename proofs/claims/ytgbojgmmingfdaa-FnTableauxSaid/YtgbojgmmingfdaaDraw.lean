/- The cursor over the bytes of a draw; boxes and shapes drawn. -/
import Derived.Test.YtgbojgmmingfdaaWords
import Derived.Test.YtgbojgmmingfdaaShapes
import Derived.Test.YtgbojgmmingfdaaPlain
namespace Go.Proofs.Ytgbojgmmingfdaa
open Go.RowKit

/-- A slice of bytes that reads so long as nothing below is written. -/
def RB (w : World) (A : Option Addr) (n : Nat) : Prop := n ≤ 9223372036854775807 ∧ ∀ k, k < n → ∃ ad z, A = some ad ∧ w.cell? (ad.add k) = some (.int .u8 z) ∧ 0 ≤ z ∧ z ≤ 255
theorem RB.below {w w' : World} {A : Option Addr} {n : Nat} (h : RB w A n) (b : Below w.heap.size w w') : RB w' A n :=
  ⟨h.1, fun k hk => by
    obtain ⟨ad, z, h1, h2, h3⟩ := h.2 k hk
    exact ⟨ad, z, h1, (b.cell (World.block_lt_of_cell? w _ h2)).trans h2, h3⟩⟩
/-- The cursor in block g. -/
def Cur (w : World) (g : Nat) (A : Option Addr) (n c : Nat) : Prop := ∃ i : Nat, ∃ h : Int, i ≤ n ∧ BK w g 137 [.slice A n c, .int .i64 (i : Int), .int .i64 h]

theorem i64_and255 (n : Int) : 0 ≤ bits BinOp.and IntKind.i64 n 255 ∧ bits BinOp.and IntKind.i64 n 255 ≤ 255 := by
  have h255 : (BitVec.ofInt 64 255).toNat = 2 ^ 8 - 1 := by decide
  have key : (BitVec.ofInt 64 n &&& BitVec.ofInt 64 255).toNat = (n % ((2 ^ 64 : Nat) : Int)).toNat % 2 ^ 8 := by
    rw [BitVec.toNat_and, BitVec.toNat_ofInt, h255, Nat.and_two_pow_sub_one_eq_mod]
  have e : bits BinOp.and IntKind.i64 n 255 = IntKind.i64.wrap ((BitVec.ofInt 64 n &&& BitVec.ofInt 64 255).toNat : Nat) := rfl
  rw [e, key, IntKind.wrap_i64]
  omega
theorem BK.grown {w : World} {g : Nat} {T : TypeId} {cs : List Value} (_ : BK w g T cs) (j : Nat) (v : Value) : w.grownBy (w.setCell ⟨g, j, none⟩ v) (some g) :=
  ⟨rfl, rfl, rfl, by simp [World.setCell], fun k hk hne => Below.heap_setCell _ _ _ _ (fun e => hne (by rw [e]))⟩
/-- What a draw of a number leaves. -/
def Draws (w : World) (g : Nat) (A : Option Addr) (n c : Nat) (P : Int → Prop) : Ending → World → Prop := fun e w' =>
  ∃ x : Int, e = .returned (.int .i64 x) ∧ P x ∧ Cur w' g A n c ∧ w.grownBy w' (some g)

set_option maxHeartbeats 1000000 in
theorem l1Byte_any {w : World} {g : Nat} {A : Option Addr} {n c : Nat} (hc : Cur w g A n c) (hb : RB w A n) (hne : ∀ ad, A = some ad → 0 < n → ad.block ≠ g) :
    Calls Try.prog 150 #[.pointer (some ⟨g, 0, none⟩)] w (Draws w g A n c fun x => 0 ≤ x ∧ x ≤ 255) := by
  obtain ⟨i, h, hi, hk⟩ := hc
  have k0 := hk.cell (j := 0) rfl
  have k1 := hk.cell (j := 1) rfl
  have k2 := hk.cell (j := 2) rfl
  have kf : ∀ j, w.frozen? ⟨g, j, none⟩ = false := fun j => hk.frozen
  have kf2 := kf 2
  have HK := Lib.hid hk
  clear hk kf
  go_enter Try.func150, Try.ntmps150
  go_wp2
  obtain ⟨H, hH⟩ : ∃ H, H = wrap64 (wrap64 (h * 6364136223846793005) + 1442695040888963407) := ⟨_, rfl⟩
  rw [← hH]
  clear hH kf2
  obtain ⟨W, hW⟩ : ∃ W, W = w.setCell ⟨g, 2, none⟩ (.int .i64 H) := ⟨_, rfl⟩
  have hk := HK.out.set 2 (.int .i64 H)
  have hg := HK.out.grown 2 (.int .i64 H)
  rw [← hW] at hk hg ⊢
  simp only [List.set_cons_succ, List.set_cons_zero] at hk
  have k0 := hk.cell (j := 0) rfl
  have k1 := hk.cell (j := 1) rfl
  have k2 := hk.cell (j := 2) rfl
  have kf1 : W.frozen? ⟨g, 1, none⟩ = false := hk.frozen
  have HK := Lib.hid hk
  have HG := Lib.hid hg
  have HW := Lib.hid hW
  clear hk hg
  clear hW
  have hin : Hid ((i : Int) < (n : Int) → ∃ ad z, A = some ad ∧ W.cell? (ad.add i) = some (.int .u8 z) ∧ 0 ≤ z ∧ z ≤ 255) := fun hlt => by
    obtain ⟨ad, z, e, hz, hz2⟩ := hb.2 i (by omega)
    refine ⟨ad, z, e, ?_, hz2⟩
    rw [HW.out, World.cell?_setCell_other]
    · exact hz
    · intro e2
      refine hne ad e (by omega) ?_
      have := congrArg Addr.block e2
      simp only [Addr.add] at this
      split at this <;> exact this.symm
  go_region
  obtain ⟨x, hx⟩ : ∃ x, x = bits BinOp.and IntKind.i64 (bits BinOp.xor IntKind.i64 (H / 8589934592) (H / 35184372088832)) 255 := ⟨_, rfl⟩
  have hxr := i64_and255 (bits BinOp.xor IntKind.i64 (H / 8589934592) (H / 35184372088832))
  rw [← hx] at hxr ⊢
  clear hx
  go_wp2
  go_region
  go_wp2
  · rename_i hlt _ _
    have hn63 := hb.1
    obtain ⟨ad, z, rfl, hz, hz1, hz2⟩ := hin.out (by omega)
    go_region
    have hyr := i64_and255 (x + z)
    obtain ⟨y, hy⟩ : ∃ y, y = bits BinOp.and IntKind.i64 (x + z) 255 := ⟨_, rfl⟩
    rw [← hy] at hyr ⊢
    clear hy
    go_wp2
    go_ret
    have hk2 := HK.out.set 1 (.int .i64 ((i : Int) + 1))
    have hg2 := HK.out.grown 1 (.int .i64 ((i : Int) + 1))
    simp only [List.set_cons_succ, List.set_cons_zero] at hk2
    have hg3 := HG.out.trans hg2
    exact ⟨y, rfl, hyr, ⟨i + 1, H, by omega, hk2⟩, ⟨hg3.os, hg3.tape, hg3.output, hg3.size, hg3.block⟩⟩
  · go_ret
    have hg3 := HG.out
    exact ⟨x, rfl, hxr, ⟨i, H, hi, HK.out⟩, ⟨hg3.os, hg3.tape, hg3.output, hg3.size, hg3.block⟩⟩
/-- The cursor and the bytes stay what they are. -/
theorem Cur.kept {w w' : World} {g : Nat} {A : Option Addr} {n c : Nat} (h : Cur w g A n c) (b : Below w.heap.size w w') : Cur w' g A n c := by
  obtain ⟨i, x, h1, h2⟩ := h
  exact ⟨i, x, h1, h2.below b h2.lt⟩
theorem Cur.same {w w' : World} {g : Nat} {A : Option Addr} {n c : Nat} (h : Cur w g A n c) (b : w'.heap[g]? = w.heap[g]?) : Cur w' g A n c := by
  obtain ⟨i, x, h1, h2⟩ := h
  exact ⟨i, x, h1, b.trans h2⟩
theorem Cur.lt {w : World} {g : Nat} {A : Option Addr} {n c : Nat} (h : Cur w g A n c) : g < w.heap.size := by
  obtain ⟨i, x, h1, h2⟩ := h
  exact h2.lt
theorem RB.low {w w' : World} {A : Option Addr} {n g : Nat} (h : RB w A n) (hg : w.grownBy w' (some g)) (hne : ∀ ad, A = some ad → 0 < n → ad.block ≠ g) : RB w' A n :=
  ⟨h.1, fun k hk => by
    obtain ⟨ad, z, h1, h2, h3⟩ := h.2 k hk
    refine ⟨ad, z, h1, ?_, h3⟩
    have hlt := World.block_lt_of_cell? w _ h2
    have hb := hg.block _ hlt (fun e => by
      have := Option.some.inj e
      refine hne ad h1 (by omega) ?_
      simp only [Addr.add] at this
      split at this <;> exact this)
    unfold World.cell? at h2 ⊢
    rw [hb]
    exact h2⟩
theorem cell_low {w w' : World} {ad : Addr} {u : Value} {g : Nat} (hg : w.grownBy w' (some g)) (hne : ad.block ≠ g) (h : w.cell? ad = some u) : w'.cell? ad = some u := by
  have hb := hg.block _ (World.block_lt_of_cell? w _ h) (fun e => hne (Option.some.inj e))
  unfold World.cell? at h ⊢
  rw [hb]
  exact h
theorem addr_off (g j : Nat) : (⟨g, 0, none⟩ : Addr).add j = ⟨g, j, none⟩ := by unfold Addr.add; split <;> simp_all
theorem addr_at (g o j : Nat) : (⟨g, o, none⟩ : Addr).add j = ⟨g, o + j, none⟩ := by unfold Addr.add; split <;> simp_all
theorem addr_zero (a : Addr) : a.add 0 = a := by unfold Addr.add; split <;> simp_all
/-- What all draws ask. -/
structure Dr (w : World) (g : Nat) (A : Option Addr) (n c : Nat) : Prop where
  cur : Cur w g A n c
  byt : RB w A n
  ne : ∀ ad, A = some ad → 0 < n → ad.block ≠ g
theorem Dr.next {w w' : World} {g : Nat} {A : Option Addr} {n c : Nat} (h : Dr w g A n c) (hc : Cur w' g A n c) (hg : w.grownBy w' (some g)) : Dr w' g A n c := ⟨hc, h.byt.low hg h.ne, h.ne⟩
theorem Dr.below {w w' : World} {g : Nat} {A : Option Addr} {n c : Nat} (h : Dr w g A n c) (b : Below w.heap.size w w') : Dr w' g A n c := ⟨h.cur.kept b, h.byt.below b, h.ne⟩

/-- n from 1 to 256: a number below n. -/
theorem l1Below_any {w : World} {g : Nat} {A : Option Addr} {n c : Nat} (m : Int) (h : Dr w g A n c) (h1 : 1 ≤ m) (h2 : m ≤ 256) :
    Calls Try.prog 86 #[.pointer (some ⟨g, 0, none⟩), .int .i64 m] w (Draws w g A n c fun x => 0 ≤ x ∧ x < m) := by
  go_enter Try.func86, Try.ntmps86
  go_wp2_with fail
  refine (l1Byte_any h.cur h.byt h.ne).mono ?_
  rintro e w1 ⟨x, rfl, hx, hc, hg⟩
  have hm0 : (m == 0) = false := by simp; omega
  go_wp2
  go_ret
  exact ⟨x % m, rfl, ⟨Int.emod_nonneg _ (by omega), Int.emod_lt_of_pos _ (by omega)⟩, hc, hg⟩
theorem l1Once_any {w : World} {g : Nat} {A : Option Addr} {n c : Nat} (m : Int) (h : Dr w g A n c) (h1 : 1 ≤ m) (h2 : m ≤ 256) :
    Calls Try.prog 114 #[.pointer (some ⟨g, 0, none⟩), .int .i64 m] w (fun e w' => ∃ b : Bool, e = .returned (.bool b) ∧ Cur w' g A n c ∧ w.grownBy w' (some g)) := by
  go_enter Try.func114, Try.ntmps114
  go_wp2_with fail
  refine (l1Below_any m h h1 h2).mono ?_
  rintro e w1 ⟨x, rfl, hx, hc, hg⟩
  obtain ⟨b, hb⟩ : ∃ b : Bool, b = (x == 0) := ⟨_, rfl⟩
  go_wp2
  go_ret
  exact ⟨_, rfl, hc, hg⟩
theorem l1Pick2_any {w : World} {g : Nat} {A : Option Addr} {n c : Nat} (a b : Int) {G : Nat} (h : Dr w g A n c) (hx : RI w (some ⟨G, 0, none⟩) 2 [a, b]) (hG : G ≠ g) :
    Calls Try.prog 160 #[.pointer (some ⟨g, 0, none⟩), .slice (some ⟨G, 0, none⟩) 2 2] w (Draws w g A n c fun x => x = a ∨ x = b) := by
  go_enter Try.func160, Try.ntmps160
  go_wp2_with fail
  refine (l1Below_any 2 h (by omega) (by omega)).mono ?_
  rintro e w1 ⟨x, rfl, hx1, hc, hg⟩
  have hx2 : x = 0 ∨ x = 1 := by omega
  obtain ⟨ad, e, hcell⟩ := hx.2 (by omega)
  obtain rfl := Option.some.inj e
  have c0 := cell_low hg (by simpa [Addr.add] using hG) (hcell 0 (by omega))
  have c1 := cell_low hg (by simpa [Addr.add] using hG) (hcell 1 (by omega))
  have e0 : nth [a, b] 0 = a := rfl
  have e1 : nth [a, b] 1 = b := rfl
  rw [e0] at c0
  rw [e1] at c1
  rw [addr_off] at c0 c1
  clear e0 e1 hcell hx
  have HG := Lib.hid hg
  clear hg
  rcases hx2 with rfl | rfl
  · go_wp2
    go_ret
    exact ⟨a, rfl, .inl rfl, hc, HG.out⟩
  · go_wp2
    go_ret
    exact ⟨b, rfl, .inr rfl, hc, HG.out⟩
/-- Two numbers in one result. -/
def Draws2 (w : World) (g : Nat) (A : Option Addr) (n c : Nat) (P : Int → Int → Prop) : Ending → World → Prop := fun e w' =>
  ∃ x y : Int, e = .returned (.tuple #[.int .i64 x, .int .i64 y]) ∧ P x y ∧ Cur w' g A n c ∧ w.grownBy w' (some g)
theorem dBox_any {w : World} {g : Nat} {A : Option Addr} {n c : Nat} (h : Dr w g A n c) :
    Calls Try.prog 100 #[.pointer (some ⟨g, 0, none⟩), .int .i64 6] w (Draws2 w g A n c fun k m => (2 ≤ m ∧ m ≤ 6) ∧ 0 ≤ k ∧ k ≤ m) := by
  go_enter Try.func100, Try.ntmps100
  go_wp2_with fail
  refine (l1Below_any 5 h (by omega) (by omega)).mono ?_
  rintro e w1 ⟨x, rfl, hx, hc, hg⟩
  have d1 := h.next hc hg
  have HG := Lib.hid hg
  clear hg hc
  go_wp2_with fail
  refine (l1Once_any 12 d1 (by omega) (by omega)).mono ?_
  rintro e w2 ⟨b, rfl, hc2, hg2⟩
  have d2 := d1.next hc2 hg2
  have HG2 := Lib.hid (HG.out.trans hg2)
  clear hg2 hc2
  cases b
  · go_wp2_with fail
    refine (l1Below_any _ d2 (by omega) (by omega)).mono ?_
    rintro e w3 ⟨y, rfl, hy, hc3, hg3⟩
    have HG3 := Lib.hid (HG2.out.trans hg3)
    clear hg3
    go_wp2
    go_ret2
    exact ⟨1 + y, 2 + x, rfl, by omega, hc3, HG3.out⟩
  · go_wp2_with fail
    have hlt := d2.cur.lt
    have hne : w2.heap.size ≠ g := by omega
    have b3 : Below w2.heap.size w2 (w2.alloc (.cells #[.int .i64 0, .int .i64 (2 + x)] 3)) := (Below.refl _ _).alloc (Nat.le_refl _) _
    have d3 := d2.below b3
    have o3 := OI.lit w2 w2.heap.size [0, 2 + x] 2 rfl (Nat.le_refl _) (by simp)
    refine (l1Pick2_any 0 (2 + x) d3 (by simpa [cellsI] using o3.ri) hne).mono ?_
    rintro e w3 ⟨y, rfl, hy, hc3, hg3⟩
    have HG3 := Lib.hid ((grown_below HG2.out b3).trans hg3)
    clear hg3
    go_wp2
    go_ret2
    exact ⟨y, 2 + x, rfl, by omega, hc3, HG3.out⟩
/-- A shape in a box of K rows and M columns, as it is drawn. -/
structure ShIn (l : List Int) (K M : Nat) : Prop where
  len : l.length ≤ K
  pos : ∀ j, j < l.length → 1 ≤ nth l j ∧ nth l j ≤ M
  down : ∀ j, j + 1 < l.length → nth l (j + 1) ≤ nth l j
/-- The next row is this at most. -/
def lastOr (l : List Int) (M : Nat) : Int := if l.length = 0 then M else nth l (l.length - 1)
theorem lastOr_nil (M : Nat) : lastOr [] M = M := rfl
theorem lastOr_app (l : List Int) (M : Nat) (x : Int) : lastOr (l ++ [x]) M = x := by
  unfold lastOr
  rw [if_neg (by simp), nth_append_right (by simp)]
  simp [nth]
theorem ShIn.nil (K M : Nat) : ShIn [] K M := ⟨by simp, fun j h => by simp at h, fun j h => by simp at h⟩
theorem ShIn.last {l : List Int} {K M : Nat} (h : ShIn l K M) : 0 ≤ lastOr l M ∧ lastOr l M ≤ M := by
  unfold lastOr
  split
  · omega
  · have := h.pos (l.length - 1) (by omega)
    omega
theorem ShIn.app {l : List Int} {K M : Nat} {x : Int} (h : ShIn l K M) (hk : l.length < K) (h1 : 1 ≤ x) (h2 : x ≤ lastOr l M) : ShIn (l ++ [x]) K M := by
  have hM := h.last.2
  have e : nth (l ++ [x]) l.length = x := by rw [nth_append_right (Nat.le_refl _)]; simp [nth]
  refine ⟨by simp; omega, fun j hj => ?_, fun j hj => ?_⟩
  · rw [List.length_append, List.length_singleton] at hj
    rcases Nat.lt_or_ge j l.length with h3 | h3
    · rw [nth_append_left h3]; exact h.pos j h3
    · obtain rfl : j = l.length := by omega
      rw [e]; omega
  · rw [List.length_append, List.length_singleton] at hj
    rw [nth_append_left (show j < l.length by omega)]
    rcases Nat.lt_or_ge (j + 1) l.length with h3 | h3
    · rw [nth_append_left h3]; exact h.down j h3
    · have e2 : j + 1 = l.length := by omega
      rw [e2, e]
      have : lastOr l M = nth l j := by unfold lastOr; rw [if_neg (by omega)]; congr 1; omega
      omega
def DrawsSh (w : World) (g : Nat) (A : Option Addr) (n c : Nat) (K M : Nat) : Ending → World → Prop := fun e w' =>
  ∃ A' n' c' l, e = .returned (.slice A' n' c') ∧ OI w' w.heap.size (.slice A' n' c') l ∧ ShIn l K M ∧ Cur w' g A n c ∧ w.grownBy w' (some g)
set_option maxHeartbeats 1000000 in
theorem dShape_any {w : World} {g : Nat} {A : Option Addr} {n c : Nat} (K M : Nat) (kI mI : Int) (h : Dr w g A n c) (hk : kI = (K : Int)) (hm : mI = (M : Int)) (hK : K ≤ 16) (hM : M ≤ 16) :
    Calls Try.prog 101 #[.pointer (some ⟨g, 0, none⟩), .int .i64 kI, .int .i64 mI] w (DrawsSh w g A n c K M) := by
  subst hk hm
  have hglt := h.cur.lt
  go_enter Try.func101, Try.ntmps101
  go_wp2
  go_loopw [7, 8, 9] (fun u m i wr => ∃ (l : List Int), l.length ≤ K ∧ ShIn l K M ∧ i = .int .i64 (l.length : Int) ∧ m = .int .i64 (lastOr l M) ∧ OI wr w.heap.size u l ∧ Dr wr g A n c ∧ w.grownBy wr (some g)) (fun _ _ i _ => K - (intOf i).toNat)
  case atStart =>
    have b3 : Below w.heap.size w (w.alloc (.cells #[] 3)) := (Below.refl _ _).alloc (Nat.le_refl _) _
    exact ⟨[], by simp, ShIn.nil _ _, rfl, rfl, OI.lit w w.heap.size [] 0 rfl (Nat.le_refl _) (by simp), h.below b3, grown_below (World.grownBy.refl _ _) b3⟩
  case round =>
    obtain ⟨l, hl, hs, rfl, rfl, ho, hd, hg⟩ := hrel
    have hlast := hs.last
    have HS := Lib.hid hs
    have HG := Lib.hid hg
    clear hs hg
    obtain ⟨m, hmm⟩ : ∃ m, m = lastOr l M := ⟨_, rfl⟩
    obtain ⟨k, hkk⟩ : ∃ k, k = l.length := ⟨_, rfl⟩
    rw [← hmm] at hlast ⊢
    rw [← hkk] at hl ⊢
    have HM := Lib.hid hmm
    have HK := Lib.hid hkk
    clear hmm hkk
    have hend : DrawsSh w g A n c K M (.returned u7) wr := by
      obtain ⟨A', n', c', rfl, _⟩ := ho.form
      exact ⟨A', n', c', l, rfl, ho, HS.out, hd.cur, HG.out⟩
    have HE := Lib.hid hend
    clear hend
    by_cases hlt : k < K ∧ 0 < m
    · obtain ⟨hlt, hm0⟩ := hlt
      go_wp2_with fail
      refine (l1Below_any (m + 1) hd (by omega) (by omega)).mono ?_
      rintro e w1 ⟨x, rfl, hx, hc, hg1⟩
      have hgb : w.heap.size ≤ wr.heap.size := HG.out.size
      have ho1 := ho.kept_low hg1 (fun b e => by injection e with e; omega)
      have d1 := hd.next hc hg1
      have HG1 := Lib.hid (HG.out.trans hg1)
      have hs1 : w.heap.size ≤ w1.heap.size := HG1.out.size
      clear hg1 hc ho hd
      by_cases hx0 : x = 0
      · subst hx0
        go_wp2
        go_ret
        obtain ⟨A', n', c', rfl, _⟩ := ho1.form
        exact ⟨A', n', c', l, rfl, ho1, HS.out, d1.cur, HG1.out⟩
      · have hlen : l.length + 1 ≤ 1000000000000 := by rw [← HK.out]; omega
        go_wp2_with (at_builtin; refine wpApp1 rfl _ _ rfl w.heap.size u7 l x rfl (by exact ho1) rfl hlen (by exact hs1) ?_; intro v' w' h1 h2 h3)
        have b2 : Below w1.heap.size w1 (w1.alloc (.cells #[.int .i64 x] 3)) := (Below.refl _ _).alloc (Nat.le_refl _) _
        go_roundw
        case rel =>
          refine ⟨l ++ [x], ?_, ?_, ?_, ?_, h1, ?_, ?_⟩
          · rw [List.length_append, ← HK.out]; simp; omega
          · exact HS.out.app (by rw [← HK.out]; exact hlt) (by omega) (by rw [← HM.out]; omega)
          · rw [List.length_append, ← HK.out]; simp
          · rw [lastOr_app]
          · have hG := grown_step HG1.out h2 (.inr fun k hk => (ho1.lt k hk).1)
            refine ⟨d1.cur.same ?_, h.byt.low hG h.ne, h.ne⟩
            exact h2.block g (by omega) fun e => by have := (ho1.lt g e.symm).1; omega
          · exact grown_step HG1.out h2 (.inr fun k hk => (ho1.lt k hk).1)
        case measure => simp [intOf]; omega
    · by_cases hkK : k < K
      · have hm0 : m ≤ 0 := by omega
        go_wp2
        go_ret
        exact HE.out
      · go_wp2
        go_ret
        exact HE.out
theorem Dr.new {w : World} {A : Option Addr} {n c : Nat} (hb : RB w A n) (q : Nat) (x : Int) : Dr ((w.drewN q).alloc (.cells #[.slice A n c, .int .i64 0, .int .i64 x] 137)) w.heap.size A n c := by
  refine ⟨⟨0, x, Nat.zero_le _, by simpa using BK.new (w.drewN q) 137 [.slice A n c, .int .i64 0, .int .i64 x]⟩, hb.below ((Quiet.below ⟨q, rfl⟩).alloc (by simp) _), fun ad e hn => ?_⟩
  obtain ⟨ad', z, e', h2, _⟩ := hb.2 0 hn
  rw [e] at e'
  obtain rfl := Option.some.inj e'
  have := World.block_lt_of_cell? w _ h2
  simp only [Addr.add] at this
  split at this <;> simp_all <;> omega
set_option maxRecDepth 4000 in
/-- A new cursor. -/
theorem l1New_any {w : World} {A : Option Addr} {n c : Nat} (hb : RB w A n) :
    Calls Try.prog 85 #[.slice A n c] w (fun e w' => ∃ g, e = .returned (.pointer (some ⟨g, 0, none⟩)) ∧ w.heap.size ≤ g ∧ Dr w' g A n c ∧ Below w.heap.size w w') := by
  have hn63 := hb.1
  go_enter Try.func85, Try.ntmps85
  go_wp2
  go_loopw [3, 4] (fun h i wr => ∃ (k : Nat) (x : Int), k ≤ n ∧ i = .int .i64 (k : Int) ∧ h = .int .i64 x ∧ Quiet w wr) (fun _ i _ => n - (intOf i).toNat)
  case atStart => exact ⟨0, _, Nat.zero_le _, rfl, rfl, (by first | exact ⟨_, rfl⟩ | exact ⟨_, (World.drewN_drewN _ _ _).symm⟩ | exact Quiet.refl _ | (simp only [World.drewN_drewN]; exact ⟨_, rfl⟩))⟩
  case round =>
    obtain ⟨k, x, hk, rfl, rfl, ⟨q, rfl⟩⟩ := hrel
    by_cases hlt : k < n
    · rcases h4 : decide ((k : Int) < 4000) with _ | _
      · go_wp2
        go_ret
        exact ⟨w.heap.size, rfl, Nat.le_refl _, Dr.new hb q x, ((Quiet.below ⟨q, rfl⟩).alloc (by simp) _)⟩
      · obtain ⟨ad, z, rfl, hz, hz1, hz2⟩ := hb.2 k hlt
        go_wp2
        go_roundw
        case rel => exact ⟨k + 1, _, by omega, by go_num, rfl, (by first | exact ⟨_, rfl⟩ | exact ⟨_, (World.drewN_drewN _ _ _).symm⟩ | exact Quiet.refl _ | (simp only [World.drewN_drewN]; exact ⟨_, rfl⟩))⟩
        case measure => simp [intOf]; omega
    · go_wp2
      go_ret
      exact ⟨w.heap.size, rfl, Nat.le_refl _, Dr.new hb q x, ((Quiet.below ⟨q, rfl⟩).alloc (by simp) _)⟩
/-- What is drawn: three shapes in a box. -/
def DrawsBx (w : World) : Ending → World → Prop := fun e w' =>
  ∃ A1 n1 c1 A2 n2 c2 A3 n3 c3 l1 l2 l3 W1 W2, ∃ K M : Nat, e = .returned (.tuple #[.slice A1 n1 c1, .slice A2 n2 c2, .slice A3 n3 c3, .int .i64 (K : Int), .int .i64 ((K : Int) + M)]) ∧
    (2 ≤ K + M ∧ K + M ≤ 6) ∧ ShIn l1 K M ∧ ShIn l2 K M ∧ ShIn l3 K M ∧ OI w' w.heap.size (.slice A1 n1 c1) l1 ∧ OI w' W1 (.slice A2 n2 c2) l2 ∧ OI w' W2 (.slice A3 n3 c3) l3 ∧ w.heap.size ≤ W1 ∧ W1 ≤ W2 ∧ Below w.heap.size w w'
/-- The same, and that the slices lie in blocks of their own. -/
def DrawsBy (w : World) : Ending → World → Prop := fun e w' =>
  ∃ A1 n1 c1 A2 n2 c2 A3 n3 c3 l1 l2 l3 W1 W2, ∃ K M : Nat, e = .returned (.tuple #[.slice A1 n1 c1, .slice A2 n2 c2, .slice A3 n3 c3, .int .i64 (K : Int), .int .i64 ((K : Int) + M)]) ∧
    (2 ≤ K + M ∧ K + M ≤ 6) ∧ ShIn l1 K M ∧ ShIn l2 K M ∧ ShIn l3 K M ∧ OI w' w.heap.size (.slice A1 n1 c1) l1 ∧ OI w' W1 (.slice A2 n2 c2) l2 ∧ OI w' W2 (.slice A3 n3 c3) l3 ∧ w.heap.size ≤ W1 ∧ W1 ≤ W2 ∧ Below w.heap.size w w' ∧
    (∀ k, Value.ownBlock (.slice A1 n1 c1) = some k → k < W1) ∧ (∀ k, Value.ownBlock (.slice A2 n2 c2) = some k → k < W2)
theorem drawBoxes_apart {w : World} {A : Option Addr} {n : Nat} (c : Nat) (hb : RB w A n) :
    Calls Try.prog 32 #[.slice A n c] w (DrawsBy w) := by
  go_enter Try.func32, Try.ntmps32
  go_wp2_with fail
  refine (l1New_any hb).mono ?_
  rintro e w1 ⟨g, rfl, hg, d1, b1⟩
  have HB1 := Lib.hid b1
  clear b1
  go_wp2_with fail
  refine (dBox_any d1).mono ?_
  rintro e w2 ⟨k, m, rfl, ⟨⟨hm1, hm2⟩, hk1, hk2⟩, hc2, hg2⟩
  have d2 := d1.next hc2 hg2
  obtain ⟨K, rfl⟩ := Int.eq_ofNat_of_zero_le hk1
  obtain ⟨M, hM⟩ := Int.eq_ofNat_of_zero_le (a := m - K) (by omega)
  obtain rfl : m = (K : Int) + M := by omega
  clear hM hk1
  have hsub : (K : Int) + M - K = M := by omega
  have HG2 := Lib.hid hg2
  clear hg2 hc2
  go_wp2_with fail
  refine (dShape_any K M _ _ d2 rfl (by first | rfl | omega) (by omega) (by omega)).mono ?_
  rintro e w3 ⟨A3, n3, c3, l3, rfl, o3, sh3, hc3, hg3⟩
  have d3 := d2.next hc3 hg3
  have HG3 := Lib.hid hg3
  clear hg3 hc3
  go_wp2_with fail
  refine (dShape_any K M _ _ d3 rfl (by first | rfl | omega) (by omega) (by omega)).mono ?_
  rintro e w4 ⟨A4, n4, c4, l4, rfl, o4, sh4, hc4, hg4⟩
  have d4 := d3.next hc4 hg4
  have HG4 := Lib.hid hg4
  clear hg4 hc4
  go_wp2_with fail
  refine (dShape_any K M _ _ d4 rfl (by first | rfl | omega) (by omega) (by omega)).mono ?_
  rintro e w5 ⟨A5, n5, c5, l5, rfl, o5, sh5, hc5, hg5⟩
  have HG5 := Lib.hid hg5
  clear hg5
  go_wp2
  refine bodyPost_ret (v := .tuple #[.slice A3 n3 c3, .slice A4 n4 c4, .slice A5 n5 c5, .int .i64 (K : Int), .int .i64 ((K : Int) + M)]) (by simp [results, Try.results32, go_sem]; try rfl) rfl ?_
  have hlt := d1.cur.lt
  have hs2 := HG2.out.size
  have hs3 := HG3.out.size
  have hs4 := HG4.out.size
  have hb1 := HB1.out.size
  have k3 := (o3.kept_low HG4.out (fun b e => by injection e with e; omega)).kept_low HG5.out (fun b e => by injection e with e; omega)
  have k4 := o4.kept_low HG5.out (fun b e => by injection e with e; omega)
  refine ⟨A3, n3, c3, A4, n4, c4, A5, n5, c5, l3, l4, l5, w3.heap.size, w4.heap.size, K, M, rfl, ⟨by omega, by omega⟩, sh3, sh4, sh5, k3.mono (by omega), k4, o5, by omega, by omega, ?_, fun k hk => (o3.lt k hk).2, fun k hk => (o4.lt k hk).2⟩
  have hq := ((HG2.out.trans HG3.out).trans HG4.out).trans HG5.out
  exact HB1.out.grown hq hb1 (fun b e => by injection e with e; omega)
theorem drawBoxes_any {w : World} {A : Option Addr} {n : Nat} (c : Nat) (hb : RB w A n) :
    Calls Try.prog 32 #[.slice A n c] w (DrawsBx w) := by
  refine (drawBoxes_apart c hb).mono ?_
  rintro e w' ⟨A1, n1, c1, A2, n2, c2, A3, n3, c3, l1, l2, l3, W1, W2, K, M, h1, h2, h3, h4, h5, h6, h7, h8, h9, h10, h11, -⟩
  exact ⟨A1, n1, c1, A2, n2, c2, A3, n3, c3, l1, l2, l3, W1, W2, K, M, h1, h2, h3, h4, h5, h6, h7, h8, h9, h10, h11⟩
/-- As the model's words have it. -/
theorem ShIn.shape {l : List Int} {K M : Nat} (h : ShIn l K M) (hK : K ≤ 16) (hM : M ≤ 16) : isShapeB l = true := by
  have hl := h.len
  rw [isShapeB_all rfl fun j hj => ?_]
  · simp; omega
  · have := h.pos j hj
    refine shapeAt_iff.2 ⟨by omega, fun h0 => ?_⟩
    have := h.down (j - 1) (by omega)
    rwa [show j - 1 + 1 = j by omega] at this
theorem ShIn.box {l : List Int} {K M : Nat} (h : ShIn l K M) (h1 : 2 ≤ K + M ∧ K + M ≤ 6) : inBoxB l K ((K : Int) + M) = true := by
  refine inBoxB_iff.2 ⟨boxB_iff.2 ⟨by omega, by omega⟩, h.shape (by omega) (by omega), by have := h.len; omega, ?_⟩
  rcases Nat.eq_zero_or_pos l.length with h0 | h0
  · rw [nth_ge (by omega)]; omega
  · have := h.pos 0 h0; omega
end Go.Proofs.Ytgbojgmmingfdaa

/- slices.Compare and slices.Clone at []int; the closures that compare a part's shape with another. -/
namespace Go.Proofs.Ytgbojgmmingfdaa
open Go.RowKit

theorem cmpB_same {a b : List Int} {k : Nat} (ha : k < a.length) (hb : k < b.length) (h : nth a k = nth b k) : cmpB (a.drop k) (b.drop k) = cmpB (a.drop (k + 1)) (b.drop (k + 1)) := by
  unfold cmpB
  rw [lexLt_same ha hb h, drop_nth ha, drop_nth hb, h]
  simp only [List.cons.injEq, true_and]
theorem cmpB_lt {a b : List Int} {k : Nat} (ha : k < a.length) (hb : k < b.length) (h : nth a k < nth b k) : cmpB (a.drop k) (b.drop k) = -1 := by
  unfold cmpB
  rw [lexLt_diff ha hb (by omega), if_pos (by simpa using h)]
theorem cmpB_gt {a b : List Int} {k : Nat} (ha : k < a.length) (hb : k < b.length) (h : nth b k < nth a k) : cmpB (a.drop k) (b.drop k) = 1 := by
  unfold cmpB
  rw [lexLt_diff ha hb (by omega), if_neg (by simp; omega), drop_nth ha, drop_nth hb, if_neg (by simp; omega)]
theorem cmpB_end1 {a b : List Int} {k : Nat} (ha : k = a.length) (hb : k < b.length) : cmpB (a.drop k) (b.drop k) = -1 := by
  unfold cmpB
  rw [lexLt_end (.inl ha) (by omega) (by omega), if_pos (by simp; omega)]
theorem cmpB_end0 {a b : List Int} {k : Nat} (ha : k = a.length) (hb : k = b.length) : cmpB (a.drop k) (b.drop k) = 0 := by
  unfold cmpB
  rw [lexLt_end (.inl ha) (by omega) (by omega), if_neg (by simp; omega), List.drop_eq_nil_of_le (by omega), List.drop_eq_nil_of_le (by omega), if_pos rfl]
theorem cmpB_end2 {a b : List Int} {k : Nat} (ha : k < a.length) (hb : k = b.length) : cmpB (a.drop k) (b.drop k) = 1 := by
  unfold cmpB
  rw [lexLt_end (.inr hb) (by omega) (by omega), if_neg (by simp; omega), drop_nth ha, show b.drop k = [] from List.drop_eq_nil_of_le (by omega), if_neg (by simp)]

theorem isNaN_any {w : World} (a : Int) : Calls Try.prog 185 #[.int .i64 a] w (Gives w (.bool false)) := by
  go_enter Try.func185, Try.ntmps185
  go_wp2
  go_ret
  exact ⟨by simp, Quiet.refl _⟩
theorem icmp_lt {w : World} {a b : Int} (h : a < b) : Calls Try.prog 147 #[.int .i64 a, .int .i64 b] w (Gives w (.int .i64 (-1))) := by
  go_enter Try.func147, Try.ntmps147
  go_wp2_with (go_at_call 185; refine (isNaN_any _).mono ?_; rintro e w' ⟨rfl, q0, rfl⟩)
  go_ret
  exact ⟨rfl, (by first | exact ⟨_, rfl⟩ | exact ⟨_, (World.drewN_drewN _ _ _).symm⟩ | exact Quiet.refl _ | (simp only [World.drewN_drewN]; exact ⟨_, rfl⟩))⟩
theorem icmp_gt {w : World} {a b : Int} (h : b < a) : Calls Try.prog 147 #[.int .i64 a, .int .i64 b] w (Gives w (.int .i64 1)) := by
  have h' : ¬ a < b := by omega
  go_enter Try.func147, Try.ntmps147
  go_wp2_with (go_at_call 185; refine (isNaN_any _).mono ?_; rintro e w' ⟨rfl, q0, rfl⟩)
  go_ret
  exact ⟨rfl, (by first | exact ⟨_, rfl⟩ | exact ⟨_, (World.drewN_drewN _ _ _).symm⟩ | exact Quiet.refl _ | (simp only [World.drewN_drewN]; exact ⟨_, rfl⟩))⟩
theorem icmp_eq {w : World} {a : Int} : Calls Try.prog 147 #[.int .i64 a, .int .i64 a] w (Gives w (.int .i64 0)) := by
  go_enter Try.func147, Try.ntmps147
  go_wp2_with (go_at_call 185; refine (isNaN_any _).mono ?_; rintro e w' ⟨rfl, q0, rfl⟩)
  go_ret
  exact ⟨rfl, (by first | exact ⟨_, rfl⟩ | exact ⟨_, (World.drewN_drewN _ _ _).symm⟩ | exact Quiet.refl _ | (simp only [World.drewN_drewN]; exact ⟨_, rfl⟩))⟩
theorem ret_int {a b : Int} (h : a = b) : Ending.returned (.int .i64 a) = .returned (.int .i64 b) := by rw [h]

theorem compare_any {A C : Option Addr} {n m : Nat} {xs ys : List Int} {w : World} (c d : Nat) (hx : RI w A n xs) (hy : RI w C m ys) (hn : n ≤ 9223372036854775807) (hm : m ≤ 9223372036854775807) :
    Calls Try.prog 82 #[.slice A n c, .slice C m d] w (Gives w (.int .i64 (cmpB xs ys))) := by
  have HL1 := Lib.hid hx.1
  have HL2 := Lib.hid hy.1
  go_enter Try.func82, Try.ntmps82
  go_wp2
  go_loopw [5, 6, 7, 8, 11] (fun _ _ _ _ i wr => ∃ k : Nat, k ≤ n ∧ k ≤ m ∧ i = .int .i64 k ∧ Quiet w wr ∧ Hid (cmpB (xs.drop k) (ys.drop k) = cmpB xs ys)) (fun _ _ _ _ i _ => n - (intOf i).toNat)
  case atStart => exact ⟨0, Nat.zero_le _, Nat.zero_le _, rfl, (by first | exact ⟨_, rfl⟩ | exact ⟨_, (World.drewN_drewN _ _ _).symm⟩ | exact Quiet.refl _ | (simp only [World.drewN_drewN]; exact ⟨_, rfl⟩)), rfl⟩
  case round =>
    obtain ⟨k, hk, hk2, rfl, ⟨q, rfl⟩, HT⟩ := hrel
    by_cases hlt : k < n
    · obtain ⟨ad, hA, hc⟩ := hx.cell hlt
      subst hA
      by_cases hlt2 : k < m
      · obtain ⟨ad', hA', hc'⟩ := hy.cell hlt2
        subst hA'
        obtain ⟨x, hxx⟩ : ∃ x, x = nth xs k := ⟨_, rfl⟩
        obtain ⟨y, hyy⟩ : ∃ y, y = nth ys k := ⟨_, rfl⟩
        rw [← hxx] at hc
        rw [← hyy] at hc'
        have HX := Lib.hid hxx
        have HY := Lib.hid hyy
        clear hxx hyy
        rcases Int.lt_trichotomy x y with h | h | h
        · go_wp2_with (go_at_call 147; refine (icmp_lt h).mono ?_; rintro e w' ⟨rfl, q0, rfl⟩)
          go_ret
          exact ⟨ret_int ((cmpB_lt (by rw [HL1.out]; exact hlt) (by rw [HL2.out]; exact hlt2) (by rw [← HX.out, ← HY.out]; exact h)).symm.trans HT.out), (by first | exact ⟨_, rfl⟩ | exact ⟨_, (World.drewN_drewN _ _ _).symm⟩ | exact Quiet.refl _ | (simp only [World.drewN_drewN]; exact ⟨_, rfl⟩))⟩
        · subst h
          go_wp2_with (go_at_call 147; refine (icmp_eq).mono ?_; rintro e w' ⟨rfl, q0, rfl⟩)
          go_roundw
          case rel => exact ⟨k + 1, by omega, by omega, by go_num, (by first | exact ⟨_, rfl⟩ | exact ⟨_, (World.drewN_drewN _ _ _).symm⟩ | exact Quiet.refl _ | (simp only [World.drewN_drewN]; exact ⟨_, rfl⟩)), (cmpB_same (by rw [HL1.out]; exact hlt) (by rw [HL2.out]; exact hlt2) (by rw [← HX.out, ← HY.out])).symm.trans HT.out⟩
          case measure => simp [intOf]; omega
        · go_wp2_with (go_at_call 147; refine (icmp_gt h).mono ?_; rintro e w' ⟨rfl, q0, rfl⟩)
          go_ret
          exact ⟨ret_int ((cmpB_gt (by rw [HL1.out]; exact hlt) (by rw [HL2.out]; exact hlt2) (by rw [← HX.out, ← HY.out]; exact h)).symm.trans HT.out), (by first | exact ⟨_, rfl⟩ | exact ⟨_, (World.drewN_drewN _ _ _).symm⟩ | exact Quiet.refl _ | (simp only [World.drewN_drewN]; exact ⟨_, rfl⟩))⟩
      · go_wp2
        go_ret
        exact ⟨ret_int ((cmpB_end2 (by rw [HL1.out]; exact hlt) (by rw [HL2.out]; omega)).symm.trans HT.out), (by first | exact ⟨_, rfl⟩ | exact ⟨_, (World.drewN_drewN _ _ _).symm⟩ | exact Quiet.refl _ | (simp only [World.drewN_drewN]; exact ⟨_, rfl⟩))⟩
    · obtain rfl : k = n := by omega
      by_cases hlt2 : k < m
      · go_wp2
        go_ret
        exact ⟨ret_int ((cmpB_end1 HL1.out.symm (by rw [HL2.out]; exact hlt2)).symm.trans HT.out), (by first | exact ⟨_, rfl⟩ | exact ⟨_, (World.drewN_drewN _ _ _).symm⟩ | exact Quiet.refl _ | (simp only [World.drewN_drewN]; exact ⟨_, rfl⟩))⟩
      · go_wp2
        go_ret
        exact ⟨ret_int ((cmpB_end0 HL1.out.symm (by rw [HL2.out]; omega)).symm.trans HT.out), (by first | exact ⟨_, rfl⟩ | exact ⟨_, (World.drewN_drewN _ _ _).symm⟩ | exact Quiet.refl _ | (simp only [World.drewN_drewN]; exact ⟨_, rfl⟩))⟩

theorem clone_any {A : Option Addr} {n : Nat} {l : List Int} {w : World} (c : Nat) (hx : RI w A n l) (hn : n ≤ 1000000000) :
    Calls Try.prog 134 #[.slice A n c] w (Makes w l) := by
  have heq := fun (w : World) (a : Option Addr) (n c : Nat) => Lib.run_eql_slice_nil (P := Try.prog) w 22 3 a n c 0 0 Try.underlying22
  rcases A with _ | ad
  · have hn0 : n = 0 := by
      rcases Nat.eq_zero_or_pos n with h | h
      · exact h
      · obtain ⟨_, e, _⟩ := hx.2 h; cases e
    subst hn0
    obtain rfl : l = [] := List.eq_nil_of_length_eq_zero hx.1
    go_enter Try.func134, Try.ntmps134
    go_wp2
    go_ret
    exact Makes.nil (Below.refl _ _)
  · have HL := Lib.hid hx.1
    go_enter Try.func134, Try.ntmps134
    go_wp2_with (at_builtin; refine wpAppI2 rfl _ _ rfl w.heap.size (.slice (some ⟨w.heap.size, 0, none⟩) 0 0) [] l (some ad) n c rfl rfl (by exact OI.lit w w.heap.size [] 0 rfl (Nat.le_refl _) (by simp)) (by exact hx.alloc _) (by simp; omega) (by simp) ?_; intro A3 n3 c3 w3 h1 h2 h3)
    go_ret
    rw [List.nil_append] at h1
    exact Makes.of h1 (((Below.refl _ _).alloc (Nat.le_refl _) _).grown h2 (by simp) (by simp [Value.ownBlock])) (by rw [HL.out]; omega)

/-- A part's shape is compared with another. -/
theorem partCmp_any {A C : Option Addr} {n m : Nat} {xs ys : List Int} {w : World} (p : Int) (c d : Nat) (hx : RI w A n xs) (hy : RI w C m ys) (hn : n ≤ 9223372036854775807) (hm : m ≤ 9223372036854775807) :
    Calls Try.prog 178 #[.agg #[.slice A n c, .int .i64 p], .slice C m d] w (GivesB w (.int .i64 (cmpB xs ys))) := by
  go_enter Try.func178, Try.ntmps178
  go_wp2_with fail
  refine (compare_any _ _ (hx.alloc _) (hy.alloc _) hn hm).mono ?_
  rintro e w1 ⟨rfl, q, rfl⟩
  go_wp2
  go_ret
  exact ⟨rfl, below_drewN ((Below.refl _ _).alloc (Nat.le_refl _) _) _⟩
end Go.Proofs.Ytgbojgmmingfdaa

/- slices.BinarySearchFunc over parts. -/
namespace Go.Proofs.Ytgbojgmmingfdaa
open Go.RowKit

/-- Whether the shape stands at its place. -/
def fndB (ps : List (List Int × Int)) (s : List Int) (p : Nat) : Bool := decide (p < ps.length ∧ (nthP ps p).1 = s)
theorem Place.below {ps : List (List Int × Int)} {s : List Int} {p h : Nat} (hp : Place ps s p) (hh : h < ps.length) : cmpB (nthP ps h).1 s < 0 ↔ h < p := by
  rw [cmpB_neg]
  constructor
  · intro h1
    by_cases h2 : h < p
    · exact h2
    · have := hp.hi h (by omega) hh
      rw [this] at h1; cases h1
  · exact hp.lo h

set_option maxRecDepth 100000 in
set_option maxHeartbeats 1000000 in
theorem bin_fill {w : World} {base b n m : Nat} {A0 A : Option Addr} {ps : List (List Int × Int)} {cells : List Value} {s : List Int} {p : Nat} (c0 d : Nat)
    (h : OP w base b (.slice A0 n c0) ps cells) (hx : RI w A m s) (hp : Place ps s p) (hn : n ≤ 1000000000000) (hm : m ≤ 1000000000000) (hl : ∀ k, k < ps.length → (nthP ps k).1.length ≤ 1000000000000) :
    Calls Try.prog 80 #[.slice A0 n c0, .slice A m d, .func (.func 178) #[] #[]] w
      (fun e w' => e = .returned (.tuple #[.int .i64 (p : Int), .bool (fndB ps s p)]) ∧ Below w.heap.size w w') := by
  obtain ⟨A', n', c', hv, hn0, hc, _⟩ := h.form
  obtain ⟨rfl, rfl, rfl⟩ := slice_inj hv
  have hle := hp.le
  rw [hn0] at hle
  have HN := Lib.hid hn0
  clear hv hn0
  go_enter Try.func80, Try.ntmps80
  go_wp2
  go_loopw [9, 10, 11] (fun i j _ wr => ∃ a q : Nat, a ≤ p ∧ p ≤ q ∧ q ≤ n ∧ i = .int .i64 (a : Int) ∧ j = .int .i64 (q : Int) ∧ Below w.heap.size w wr) (fun i j _ _ => (intOf j).toNat - (intOf i).toNat)
  case atStart => exact ⟨0, n, Nat.zero_le _, hle, Nat.le_refl _, rfl, rfl, Below.refl _ _⟩
  case round =>
    obtain ⟨a, q, h1, h2, h3, rfl, rfl, hb⟩ := hrel
    by_cases hlt : a < q
    · have ho := OP.below h hb
      obtain ⟨G, cc, hG, _⟩ := OF.shape ho (by rw [HN.out]; omega)
      obtain ⟨rfl, e2, e3⟩ := slice_inj hG
      clear e2 e3 hG
      have hH1 : a ≤ (a + q) / 2 ∧ (a + q) / 2 < q := by omega
      obtain ⟨hH2, hH3⟩ := hH1
      have hHl : (a + q) / 2 < ps.length := by rw [HN.out]; omega
      obtain ⟨A1, n1, c1, k1, _, k2, _, k4⟩ := OP.cell ho (k := (a + q) / 2) hHl
      have hlen := hl _ hHl
      rw [k2.ri.1] at hlen
      have hb1 := hp.below hHl
      have HB1 := Lib.hid hb1
      clear hb1 hHl
      go_wp2_with fail
      refine (partCmp_any _ _ _ k2.ri (hx.below hb) (by omega) (by omega)).mono ?_
      rintro e w1 ⟨rfl, b1⟩
      have g1 := bnext hb b1 hb.size
      by_cases hlo : (a + q) / 2 < p
      · have hneg := HB1.out.2 hlo
        go_wp2
        go_roundw
        case rel => exact ⟨(a + q) / 2 + 1, q, by omega, h2, h3, by go_num, by go_num, g1⟩
        case measure => simp [intOf]; omega
      · have hneg : ¬ cmpB (nthP ps ((a + q) / 2)).1 s < 0 := fun hh => hlo (HB1.out.1 hh)
        go_wp2
        go_roundw
        case rel => exact ⟨a, (a + q) / 2, h1, by omega, by omega, by go_num, by go_num, g1⟩
        case measure => simp [intOf]; omega
    · obtain rfl : a = q := by omega
      obtain rfl : a = p := by omega
      by_cases hlt : a < n
      · have ho := OP.below h hb
        obtain ⟨G, cc, hG, _⟩ := OF.shape ho (by rw [HN.out]; omega)
        obtain ⟨rfl, e2, e3⟩ := slice_inj hG
        clear e2 e3 hG
        have hHl : a < ps.length := by rw [HN.out]; exact hlt
        obtain ⟨A1, n1, c1, k1, _, k2, _, k4⟩ := OP.cell ho (k := a) hHl
        have hlen := hl _ hHl
        rw [k2.ri.1] at hlen
        have HF : Hid (fndB ps s a = (cmpB (nthP ps a).1 s == 0)) := by
          show fndB ps s a = _
          unfold fndB
          rw [Bool.eq_iff_iff, beq_iff_eq, cmpB_zero, decide_eq_true_eq]
          exact ⟨fun h => h.2, fun h => ⟨hHl, h⟩⟩
        clear hHl
        go_wp2_with fail
        refine (partCmp_any _ _ _ k2.ri (hx.below hb) (by omega) (by omega)).mono ?_
        rintro e w1 ⟨rfl, b1⟩
        have g1 := bnext hb b1 hb.size
        go_wp2
        go_ret2
        exact ⟨by rw [HF.out]; rfl, g1⟩
      · have HF : Hid (fndB ps s a = false) := by
          show fndB ps s a = false
          unfold fndB
          rw [HN.out]
          simp; omega
        go_wp2
        go_ret2
        exact ⟨by rw [HF.out]; rfl, hb⟩

end Go.Proofs.Ytgbojgmmingfdaa
