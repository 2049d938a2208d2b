/- Polynomials as maps keyed by seven exponents. -/
import Derived.Test.YtgbojgmmingfdaaWords
import Derived.Test.YtgbojgmmingfdaaPlain
import Derived.Maps.OwnSet
import Derived.Maps.OwnOps
import Derived.Maps.RangeWalk
import Derived.Maps.Ext
import Derived.WideKeyEntry
import Derived.WideKeyArr2
import Derived.DeepKeys4
namespace Go.Proofs.Ytgbojgmmingfdaa
open Go.RowKit Go.Maps

theorem rowK : (76 : TypeId) < Try.prog.types.size := of_decide_eq_true (by kernel_rfl)
theorem lawKL : WideMaps.KeyLaw Try.prog 76 := deep_law_laid laidOut (m := 2) (by omega) rowK (by kernel_rfl) (by rw [Try.underlying76])
theorem lawK : Go.Maps.Keyed Try.prog 76 := Go.Maps.Keyed.of_law lawKL
/-- Seven exponents as a key. -/
def kv (e : List Int) : Value := .agg (e.map (Value.int .i64)).toArray
def kl (e : List Int) : Lit := .string (keyBytes (e.map (Lit.int .i64)))
def Ex7 (e : List Int) : Prop := e.length = 7 ∧ ∀ x ∈ e, (Lit.int .i64 x).wf = true
theorem Ex7.seven {e : List Int} (h : Ex7 e) : ∃ a b c d f g i, e = [a, b, c, d, f, g, i] := by
  obtain ⟨h, -⟩ := h
  rcases e with _ | ⟨a, _ | ⟨b, _ | ⟨c, _ | ⟨d, _ | ⟨f, _ | ⟨g, _ | ⟨i, _ | ⟨j, r⟩⟩⟩⟩⟩⟩⟩⟩
  all_goals first | exact ⟨_, _, _, _, _, _, _, rfl⟩ | (simp only [List.length_cons, List.length_nil] at h; omega)
theorem arrK : WideMaps.ArrKey Try.prog 76 3 7 := ⟨Try.underlying76, by kernel_rfl, by kernel_rfl, by kernel_rfl⟩
theorem keyOf_kv {e : List Int} (h : Ex7 e) : keyOf Try.prog 76 (kv e) = some (kl e) := by
  have hw := h.2
  obtain ⟨a, b, c, d, f, g, i, rfl⟩ := h.seven
  have hsz : ∃ m, Try.prog.types.size = m + 1 := Nat.exists_eq_succ_of_ne_zero (Nat.pos_iff_ne_zero.1 (Nat.lt_of_le_of_lt (Nat.zero_le _) rowK))
  have hkt := arrK.keyType hsz
  obtain ⟨m0, hm0⟩ := hsz
  have hx : ∀ x ∈ [a, b, c, d, f, g, i], Try.prog.keyLits (m0 + 1) 3 [.int .i64 x] = some [.int .i64 x] := fun x hx => by
    simp [Program.keyLits, Try.underlying3, hw x hx]
  simp only [List.mem_cons, List.not_mem_nil, or_false, forall_eq_or_imp, forall_eq] at hx
  obtain ⟨x1, x2, x3, x4, x5, x6, x7⟩ := hx
  show keyOf _ _ (.agg (List.map (Value.int .i64) [a, b, c, d, f, g, i]).toArray) = some (.string (keyBytes (List.map (Lit.int .i64) [a, b, c, d, f, g, i])))
  unfold keyOf
  simp only [arrK.hu]
  rw [if_pos (by simp [hkt, Value.formed, arrK.hu, arrK.size]), hm0]
  unfold Program.keyLits
  simp only [arrK.hu, Value.cells]
  rw [if_pos (by rw [arrK.size]; simp)]
  simp [List.range_succ, arrK.one, x1, x2, x3, x4, x5, x6, x7]
theorem kl_inj {e e' : List Int} (h : Ex7 e) (h' : Ex7 e') (hk : kl e = kl e') : e = e' := by
  have h1 := lawK.inj (keyOf_kv h) (by rw [hk]; exact keyOf_kv h')
  unfold kv at h1
  injection h1 with h1
  have h2 : e.map (Value.int .i64) = e'.map (Value.int .i64) := by simpa using congrArg Array.toList h1
  exact (List.map_inj_right (fun x y hxy => by injection hxy)).1 h2
/-- The coefficient at a key. -/
def cf (acc : List (List Int × Int)) (e : List Int) : Int := match acc with | [] => 0 | x :: r => if x.1 = e then x.2 else cf r e
theorem cf_front {e : List Int} : ∀ {r : List (List Int × Int)}, (∀ y ∈ r, lexLt e y.1 = true) → cf r e = 0
  | [], _ => rfl
  | x :: r, h => by
    rw [cf, if_neg (fun e1 => lex_ne (h x List.mem_cons_self) e1.symm)]
    exact cf_front fun y hy => h y (List.mem_cons_of_mem _ hy)
theorem cf_addR {s : List Int} {n : Int} {e : List Int} : ∀ {acc : List (List Int × Int)}, Srt acc → cf (addR acc s n) e = cf acc e + if e = s then n else 0
  | [], _ => by
    by_cases h : e = s
    · subst h; simp [addR, cf]
    · simp [addR, cf, h, Ne.symm h]
  | x :: r, hs => by
    obtain ⟨hr, hx⟩ := srt_cons hs
    have ih := cf_addR (s := s) (n := n) (e := e) hr
    rw [addR]
    by_cases h1 : lexLt x.1 s = true
    · rw [if_pos h1, cf, cf]
      by_cases h2 : x.1 = e
      · rw [if_pos h2, if_pos h2, if_neg (fun e1 => by rw [← h2] at e1; exact lex_ne h1 e1)]; omega
      · rw [if_neg h2, if_neg h2, ih]
    · rw [if_neg h1]
      by_cases h3 : x.1 = s
      · rw [if_pos h3]
        by_cases h2 : e = s
        · subst h2
          have h0 : cf r e = 0 := cf_front (by rw [← h3]; exact hx)
          split
          · rename_i h4
            rw [cf, if_pos h3, h0]; simp; omega
          · rw [cf, if_pos rfl, cf, if_pos h3]; simp
        · have h5 : ¬ x.1 = e := fun e1 => h2 (by rw [← e1, h3])
          split
          · rw [cf, if_neg h5]; omega
          · rw [cf, if_neg (fun e1 => h2 e1.symm), cf, if_neg h5]; omega
      · rw [if_neg h3, cf]
        by_cases h2 : s = e
        · subst h2
          have h0 : cf (x :: r) s = 0 := cf_front fun y hy => by
            have hsx := lex_total (by simpa using h1) h3
            rcases List.mem_cons.1 hy with rfl | h4
            · exact hsx
            · exact lex_trans hsx (hx y h4)
          rw [if_pos rfl, h0]; simp
        · rw [if_neg h2, if_neg (fun e1 => h2 e1.symm)]; omega
theorem cf_addP {s : List Int} {n : Int} {e : List Int} {acc : List (List Int × Int)} (hs : Srt acc) : cf (addP acc s n) e = cf acc e + if e = s then n else 0 := by
  by_cases h : n = 0
  · subst h
    have e1 : addP acc s 0 = acc := by
      have key : ∀ i, i ≤ acc.length → addUp acc s 0 i = (acc.take i, true) := fun i => by
        induction i with
        | zero => intro _; rfl
        | succ i ih =>
          intro hi
          rw [addUp_keep (by rw [ih (by omega)]), ih (by omega)]
          rw [List.take_succ_eq_append_getElem (by omega), nthP_lt (by omega)]
      rw [addP_done rfl (by rw [key _ (Nat.le_refl _)]), key _ (Nat.le_refl _), List.take_length]
    rw [e1]; simp
  · rw [addP_rec h, cf_addR hs]
theorem srt_mk {x : List Int × Int} {r : List (List Int × Int)} (hr : Srt r) (hx : ∀ y ∈ r, lexLt x.1 y.1 = true) : Srt (x :: r) := fun i j hij hj => by
  have e : ∀ j, nthP (x :: r) (j + 1) = nthP r j := fun j => by simp [nthP, List.getD]
  rw [List.length_cons] at hj
  obtain ⟨j', rfl⟩ : ∃ j', j = j' + 1 := ⟨j - 1, by omega⟩
  rw [e]
  rcases i with _ | i
  · exact hx _ (nthP_mem (by omega))
  · rw [e]; exact hr i j' (by omega) (by omega)
theorem addR_key {s : List Int} {n : Int} : ∀ {ps : List (List Int × Int)} {x : List Int × Int}, x ∈ addR ps s n → x ∈ ps ∨ x.1 = s
  | [], x, h => by simp [addR] at h; rw [h]; exact .inr rfl
  | y :: r, x, h => by
    rw [addR] at h
    split at h
    · rcases List.mem_cons.1 h with h | h
      · exact .inl (by rw [h]; simp)
      · exact (addR_key h).imp (List.mem_cons_of_mem _) id
    · split at h
      · split at h
        · exact .inl (List.mem_cons_of_mem _ h)
        · rcases List.mem_cons.1 h with h | h
          · exact .inr (by rw [h])
          · exact .inl (List.mem_cons_of_mem _ h)
      · rcases List.mem_cons.1 h with h | h
        · exact .inr (by rw [h])
        · exact .inl h
theorem addR_srt {s : List Int} {n : Int} : ∀ {ps : List (List Int × Int)}, Srt ps → Srt (addR ps s n)
  | [], _ => by rw [addR]; exact srt_mk (fun i j _ hj => by simp at hj) (by simp)
  | x :: r, h => by
    obtain ⟨hr, hx⟩ := srt_cons h
    rw [addR]
    by_cases h1 : lexLt x.1 s = true
    · rw [if_pos h1]
      refine srt_mk (addR_srt hr) fun y hy => ?_
      rcases addR_key hy with h2 | h2
      · exact hx y h2
      · rw [h2]; exact h1
    · rw [if_neg h1]
      by_cases h3 : x.1 = s
      · rw [if_pos h3]
        split
        · exact hr
        · exact srt_mk hr (by rw [← h3]; exact hx)
      · rw [if_neg h3]
        refine srt_mk h fun y hy => ?_
        have hsx := lex_total (by simpa using h1) h3
        rcases List.mem_cons.1 hy with rfl | h4
        · exact hsx
        · exact lex_trans hsx (hx y h4)
theorem addP_none0 {s : List Int} {acc : List (List Int × Int)} : addP acc s 0 = acc := by
  have key : ∀ i, i ≤ acc.length → addUp acc s 0 i = (acc.take i, true) := fun i => by
    induction i with
    | zero => intro _; rfl
    | succ i ih =>
      intro hi
      rw [addUp_keep (by rw [ih (by omega)]), ih (by omega)]
      rw [List.take_succ_eq_append_getElem (by omega), nthP_lt (by omega)]
  rw [addP_done rfl (by rw [key _ (Nat.le_refl _)]), key _ (Nat.le_refl _), List.take_length]
theorem addP_srt {s : List Int} {n : Int} {acc : List (List Int × Int)} (h : Srt acc) : Srt (addP acc s n) := by
  by_cases hn : n = 0
  · subst hn; rw [addP_none0]; exact h
  · rw [addP_rec hn]; exact addR_srt h
/-- The map reads as the polynomial. -/
structure Rep {H : Type} (D : DataW H) (acc : List (List Int × Int)) : Prop where
  at_ : ∀ e, Ex7 e → D.atKey (kl e) (.lit (.int .i64 0)) = .lit (.int .i64 (cf acc e))
  has : ∀ e, Ex7 e → Maps.has D (kl e) = decide (cf acc e ≠ 0)
/-- Block b is a map that reads as a polynomial. -/
def PM (H : Type) (w : World) (b n : Nat) (acc : List (List Int × Int)) : Prop := ∃ D : DataW H, w.ownsMap Try.prog 76 (plainElem Try.prog 3) b n D ∧ Rep D acc ∧ Srt acc
end Go.Proofs.Ytgbojgmmingfdaa

/- An entry of a map that is found or made, and stored into: at a map that the call owns. -/
namespace Go.Proofs.Ytgbojgmmingfdaa
open Go.RowKit Go.Maps Go.MapKept Go.WideMaps
open Go.WideElems (Fit)
open Go.ChangeMaps (setBlock)

theorem set_back {α : Type} (f : α → α) : ∀ (l : List α) (j : Nat) (a : α), l[j]? = some a → f a = a → l.modify j f = l
  | [], _, _, h, _ => by simp at h
  | b :: r, 0, a, h, e => by
    simp at h
    subst h
    simp [e]
  | b :: r, j + 1, a, h, e => by
    simp at h
    simp [List.modify_succ_cons, set_back f r j a h e]
/-- The entry's world is that of a store of what is there already. -/
theorem entry_world {H : Type} {P : Program} {w : World} {t k e : TypeId} {R : Value → Option (DataW H × List MemPlace)} {b : Nat} {es : Array MapEntry} {clock : Nat} (K : KeyLaw P k) (ht : P.underlying t = some (.map k e)) {z : Value}
    (hz : ∀ u : World, (zeroValue e).run P u = .ok z u) (hb : w.heap[b]? = some (.map es clock)) (F : Fit P k R es clock) {key : Value} {lit : Lit} (hkey : keyOf P k key = some lit) :
    ∃ (v0 : Value) (st : Nat) (es1 : Array MapEntry) (clock1 : Nat), (Instr.mapEntry t (.map (some b)) key).run P w = .ok (.tuple #[v0, goInt st]) (setBlock w b (.map es1 clock1)) ∧
      (Instr.mapUpdate t (.map (some b)) key v0).run P w = .ok () (setBlock w b (.map es1 clock1)) ∧ (Instr.lookup t (.map (some b)) key false).run P w = .ok v0 w := by
  rcases K.find w hkey es.toList F.keys with ⟨h1, h2⟩ | ⟨j, e0, h1, h2, h3⟩
  · refine ⟨z, clock, es.push ⟨key, z, clock⟩, clock + 1, ?_, ?_, ?_⟩
    · simp [Instr.mapEntry, run_underlying ht, MapKept.run_getObj_map hb, K.check w false hkey, h1, hz, MapKept.run_setObj_map _ hb, Result.andThen, setBlock]
    · simp [Instr.mapUpdate, run_underlying ht, MapKept.run_getObj_map hb, K.check w false hkey, h1, MapKept.run_setObj_map _ hb, Result.andThen, setBlock]
    · simp [Instr.lookup, run_underlying ht, MapKept.run_getObj_map hb, K.check w _ hkey, h1, hz, Result.andThen]
  · have hj : es[j]? = some e0 := by simpa using h2
    have hsame : es.modify j (fun e => { e with key := key }) = es := by
      apply Array.ext'
      rw [Array.toList_modify]
      exact set_back _ _ _ e0 h2 (by rw [← h3])
    have hsame2 : es.modify j (fun e => { e with key := key, val := e0.val }) = es := by
      apply Array.ext'
      rw [Array.toList_modify]
      exact set_back _ _ _ e0 h2 (by rw [← h3])
    refine ⟨e0.val, e0.born, es, clock, ?_, ?_, ?_⟩
    · simp [Instr.mapEntry, run_underlying ht, MapKept.run_getObj_map hb, K.check w false hkey, h1, hj, h3, K.stays w hkey, hsame, MapKept.run_setObj_map _ hb, Result.andThen, setBlock]
    · simp [Instr.mapUpdate, run_underlying ht, MapKept.run_getObj_map hb, K.check w false hkey, h1, hj, h3, K.stays w hkey, hsame2, MapKept.run_setObj_map _ hb, Result.andThen, setBlock]
    · simp [Instr.lookup, run_underlying ht, MapKept.run_getObj_map hb, K.check w _ hkey, h1, Result.andThen]
theorem zeroI (u : World) : (zeroValue 3).run Try.prog u = .ok (.int .i64 0) u := by kernel_rfl
abbrev TM : TypeId := 74
/-- What the map reads as where one coefficient is another. -/
structure RepX {H : Type} (D : DataW H) (f : List Int → Int) (g : List Int → Bool) : Prop where
  at_ : ∀ e, Ex7 e → D.atKey (kl e) (.lit (.int .i64 0)) = .lit (.int .i64 (f e))
  has : ∀ e, Ex7 e → Maps.has D (kl e) = g e
theorem kl_key (e : List Int) : WideAt.IsKeyLit (kl e) := trivial
theorem wf_coef {H : Type} {w : World} {b n : Nat} {acc : List (List Int × Int)} {e : List Int} (h : PM H w b n acc) (he : Ex7 e) : (Instr.lookup TM (.map (some b)) (kv e) false).run Try.prog w = .ok (.int .i64 (cf acc e)) w ∧ (Lit.int .i64 (cf acc e)).wf = true := by
  obtain ⟨D, ho, hr, hs⟩ := h
  obtain ⟨c, h1, h2, h3⟩ := ho.lookup_int lawK Try.underlying74 Try.underlying3 (zeroI w) (keyOf_kv he)
  rw [hr.at_ e he] at h2
  have h4 : cf acc e = c := by simpa using h2
  rw [h4]
  exact ⟨h1, h3⟩
theorem PM.entry {H : Type} {w : World} {b n : Nat} {acc : List (List Int × Int)} {e : List Int} (h : PM H w b n acc) (hn : n < maxLen) (he : Ex7 e) :
    ∃ (st : Nat) (w1 : World), (Instr.mapEntry TM (.map (some b)) (kv e)).run Try.prog w = .ok (.tuple #[.int .i64 (cf acc e), goInt st]) w1 ∧ (Instr.lookup TM (.map (some b)) (kv e) false).run Try.prog w1 = .ok (.int .i64 (cf acc e)) w1 ∧ w.grownBy w1 (some b) ∧
      ∀ c, (Lit.int .i64 c).wf = true → ∃ w2 D2, (Instr.entryStore TM (.map (some b)) (goInt st) (.int .i64 c)).run Try.prog w1 = .ok () w2 ∧ World.ownsMap (H := H) w2 Try.prog 76 (plainElem Try.prog 3) b (n + 1) D2 ∧
        RepX D2 (fun x => if x = e then c else cf acc x) (fun x => if x = e then true else decide (cf acc x ≠ 0)) ∧ w.grownBy w2 (some b) := by
  obtain ⟨hlk, hwf⟩ := wf_coef h he
  obtain ⟨D, ho, hr, hs⟩ := h
  have ho' := ho
  obtain ⟨es, clock, hb, F, hle, hD⟩ := ho
  have hk := keyOf_kv he
  obtain ⟨v0, st, es1, clock1, h1, h2, h3⟩ := entry_world lawKL Try.underlying74 zeroI hb F hk
  have hv0 : v0 = .int .i64 (cf acc e) := by
    have := h3.symm.trans hlk
    injection this
  subst hv0
  obtain ⟨v0', st', es1', clock1', g1, -, g3⟩ := WideElems.entry_then_store lawKL Try.underlying74 zeroI hb F hk
  have e1 : Value.tuple #[.int .i64 (cf acc e), goInt st] = .tuple #[v0', goInt st'] ∧ setBlock w b (.map es1 clock1) = setBlock w b (.map es1' clock1') := by
    have := h1.symm.trans g1
    injection this with a1 a2
    exact ⟨a1, a2⟩
  have hst : st = st' := by
    have h4 := e1.1
    simp [goInt] at h4
    omega
  subst hst
  have hblk : es1 = es1' ∧ clock1 = clock1' := by
    have h4 : (setBlock w b (.map es1 clock1)).heap[b]? = (setBlock w b (.map es1' clock1')).heap[b]? := by rw [e1.2]
    rw [ChangeMaps.heap_setBlock_same hb, ChangeMaps.heap_setBlock_same hb] at h4
    injection h4 with h4
    injection h4 with h5 h6
    exact ⟨h5, h6⟩
  obtain ⟨rfl, rfl⟩ := hblk
  obtain ⟨w', hu, ho1, hg1⟩ := ho'.update lawK Try.underlying74 hn hk (plainElem_int Try.underlying3 hwf)
  have hw1 : w' = setBlock w b (.map es1 clock1) := by
    have := hu.symm.trans h2
    injection this
  subst hw1
  refine ⟨st, _, h1, ?_, hg1, fun c hc => ?_⟩
  · obtain ⟨c1, k1, k2, -⟩ := ho1.lookup_int lawK Try.underlying74 Try.underlying3 (zeroI _) hk
    rw [atKey_put_same ho'.isMap (kl_key e)] at k2
    have h4 : cf acc e = c1 := by simpa using k2
    rw [h4]
    exact k1
  · obtain ⟨es', clock', s1, s2⟩ := g3 (setBlock w b (.map es1 clock1)) (.int .i64 c) (ChangeMaps.heap_setBlock_same hb _)
    obtain ⟨w2, t1, t2, t3⟩ := ho'.update lawK Try.underlying74 hn hk (plainElem_int Try.underlying3 hc)
    have hw2 : w2 = setBlock w b (.map es' clock') := by
      have := t1.symm.trans s2
      injection this
    subst hw2
    have htwice : setBlock (setBlock w b (.map es1 clock1)) b (.map es' clock') = setBlock w b (.map es' clock') := by simp [setBlock]
    rw [htwice] at s1
    refine ⟨_, _, s1, t2, ⟨fun x hx => ?_, fun x hx => ?_⟩, t3⟩
    · by_cases hxe : x = e
      · subst hxe
        rw [atKey_put_same ho'.isMap (kl_key x), if_pos rfl]
      · rw [atKey_put_other (fun hkl => hxe (kl_inj hx he hkl)), hr.at_ x hx, if_neg hxe]
    · by_cases hxe : x = e
      · subst hxe
        rw [has_put_same ho'.isMap (kl_key x), if_pos rfl]
      · rw [has_put_other (fun hkl => hxe (kl_inj hx he hkl)), hr.has x hx, if_neg hxe]
end Go.Proofs.Ytgbojgmmingfdaa

/- Keys of seven exponents, and what a polynomial's map holds. -/
namespace Go.Proofs.Ytgbojgmmingfdaa
open Go.RowKit Go.Maps Go.MapKept Go.WideMaps

theorem keyLits_int {P : Program} {e : TypeId} (he : P.underlying e = some (.int .i64)) {m : Nat} {v : Value} {ls : List Lit} (h : P.keyLits (m + 1) e [v] = some ls) : ∃ a, v = .int .i64 a ∧ (Lit.int .i64 a).wf = true := by
  unfold Program.keyLits at h
  rw [he] at h
  cases v <;> simp at h
  obtain ⟨⟨h1, h2⟩, -⟩ := h
  exact ⟨_, by rw [h1], h2⟩
theorem arr_inv {P : Program} {k e : TypeId} (A : ArrKey P k e 7) (he : P.underlying e = some (.int .i64)) (hrow : k < P.types.size) {v : Value} {l : Lit} (h : keyOf P k v = some l) : ∃ e, Ex7 e ∧ v = kv e := by
  obtain ⟨m0, hm0⟩ : ∃ m, P.types.size = m + 1 := Nat.exists_eq_succ_of_ne_zero (Nat.pos_iff_ne_zero.1 (Nat.lt_of_le_of_lt (Nat.zero_le _) hrow))
  unfold keyOf at h
  simp only [A.hu] at h
  split at h
  case isFalse => cases h
  rename_i hf0
  rw [Bool.and_eq_true] at hf0
  have hf := hf0.2
  clear hf0
  unfold Value.formed at hf
  rw [A.hu] at hf
  cases v <;> simp at hf
  rename_i xs
  rw [A.size] at hf
  obtain ⟨l, rfl⟩ : ∃ l : List Value, xs = l.toArray := ⟨xs.toList, by simp⟩
  simp at hf
  rcases l with _ | ⟨a, _ | ⟨b, _ | ⟨c, _ | ⟨d, _ | ⟨f, _ | ⟨g, _ | ⟨i, _ | ⟨j, r⟩⟩⟩⟩⟩⟩⟩⟩
  all_goals first | (exfalso; simp only [List.length_cons, List.length_nil] at hf; omega) | skip
  unfold Program.keyLits at h
  simp only [A.hu, Value.cells] at h
  rw [if_pos (by rw [A.size]; simp), hm0] at h
  simp [List.range_succ, A.one, Option.bind_eq_some_iff] at h
  obtain ⟨_, h1, _, ⟨_, h2, _, ⟨_, h3, _, ⟨_, h4, _, ⟨_, h5, _, ⟨_, h6, _, ⟨_, h7, -⟩, -⟩, -⟩, -⟩, -⟩, -⟩, -⟩ := h
  obtain ⟨a, rfl, w1⟩ := keyLits_int he h1
  obtain ⟨b, rfl, w2⟩ := keyLits_int he h2
  obtain ⟨c, rfl, w3⟩ := keyLits_int he h3
  obtain ⟨d, rfl, w4⟩ := keyLits_int he h4
  obtain ⟨f, rfl, w5⟩ := keyLits_int he h5
  obtain ⟨g, rfl, w6⟩ := keyLits_int he h6
  obtain ⟨i, rfl, w7⟩ := keyLits_int he h7
  refine ⟨[a, b, c, d, f, g, i], ⟨rfl, ?_⟩, rfl⟩
  simp only [List.mem_cons, List.not_mem_nil, or_false, forall_eq_or_imp, forall_eq]
  exact ⟨w1, w2, w3, w4, w5, w6, w7⟩
theorem kv_inv {v : Value} {l : Lit} (h : keyOf Try.prog 76 v = some l) : ∃ e, Ex7 e ∧ v = kv e ∧ l = kl e :=
  match arr_inv arrK Try.underlying3 rowK h with
  | ⟨e, he, hv⟩ => ⟨e, he, hv, Option.some.inj (h.symm.trans ((congrArg _ hv).trans (keyOf_kv he)))⟩
end Go.Proofs.Ytgbojgmmingfdaa

/- A polynomial's map under a range: what has been seen, and that at the end it is all of it, in some order. -/
namespace Go.Proofs.Ytgbojgmmingfdaa
open Go.RowKit Go.Maps Go.MapKept Go.WideMaps

/-- The terms of a sorted polynomial are at their keys, and no term is nought. -/
def GoodP (acc : List (List Int × Int)) : Prop := Srt acc ∧ ∀ x ∈ acc, Ex7 x.1 ∧ x.2 ≠ 0
theorem cf_mem : ∀ {acc : List (List Int × Int)}, Srt acc → ∀ {x : List Int × Int}, x ∈ acc → cf acc x.1 = x.2
  | [], _, x, hx => by simp at hx
  | y :: r, h, x, hx => by
    obtain ⟨hr, hy⟩ := srt_cons h
    rw [cf]
    rcases List.mem_cons.1 hx with rfl | hx
    · rw [if_pos rfl]
    · rw [if_neg (lex_ne (hy x hx)), cf_mem hr hx]
theorem cf_key : ∀ {acc : List (List Int × Int)} {e : List Int}, cf acc e ≠ 0 → (e, cf acc e) ∈ acc
  | [], e, h => absurd rfl h
  | y :: r, e, h => by
    rw [cf] at h ⊢
    by_cases he : y.1 = e
    · rw [if_pos he, ← he]; exact List.mem_cons_self
    · rw [if_neg he] at h ⊢
      exact List.mem_cons_of_mem _ (cf_key h)
theorem srt_nodup : ∀ {acc : List (List Int × Int)}, Srt acc → (acc.map Prod.fst).Nodup
  | [], _ => List.nodup_nil
  | y :: r, h => by
    obtain ⟨hr, hy⟩ := srt_cons h
    rw [List.map_cons, List.nodup_cons]
    refine ⟨fun hm => ?_, srt_nodup hr⟩
    obtain ⟨z, hz, e⟩ := List.mem_map.1 hm
    exact lex_ne (hy z hz) e.symm
theorem dlit_inj {H : Type} {a b : Int} (h : (DataW.lit (.int .i64 a) : DataW H) = .lit (.int .i64 b)) : a = b := by
  injection h with h
  injection h
theorem met_other {L : List (List Int × Int)} {e e' : List Int} {c : Int} (h : e' ≠ e) : decide (e' ∈ (L ++ [(e, c)]).map Prod.fst) = decide (e' ∈ L.map Prod.fst) := by
  apply decide_eq_decide.2
  simp [h]
/-- What has been met of a polynomial. -/
def Met (acc L : List (List Int × Int)) : Prop := (∀ x ∈ L, Ex7 x.1 ∧ x ∈ acc) ∧ (L.map Prod.fst).Nodup
theorem Met.all {acc L : List (List Int × Int)} (h : Met acc L) (hg : GoodP acc) (hall : ∀ e, Ex7 e → cf acc e ≠ 0 → e ∈ L.map Prod.fst) : L.Perm acc := by
  have n1 : L.Nodup := List.Pairwise.of_map Prod.fst (fun a b (hab : a.1 ≠ b.1) e => hab (by rw [e])) h.2
  have n2 : acc.Nodup := List.Pairwise.of_map Prod.fst (fun a b (hab : a.1 ≠ b.1) e => hab (by rw [e])) (srt_nodup hg.1)
  refine (List.perm_ext_iff_of_nodup n1 n2).2 fun x => ⟨fun hx => (h.1 x hx).2, fun hx => ?_⟩
  obtain ⟨y, hy, e⟩ := List.mem_map.1 (hall x.1 (hg.2 x hx).1 (by rw [cf_mem hg.1 hx]; exact (hg.2 x hx).2))
  have : y = x := by
    have h1 := cf_mem hg.1 (h.1 y hy).2
    rw [e, cf_mem hg.1 hx] at h1
    exact Prod.ext e h1.symm
  rw [← this]; exact hy
/-- A range over a polynomial's map, with what it has met. -/
def PR (H : Type) (w : World) (b r n : Nat) (acc L : List (List Int × Int)) (cnt : Nat) : Prop :=
  ∃ (D : DataW H) (left : Lit → Bool), w.ranges Try.prog 76 (plainElem Try.prog 3) b r n D left cnt ∧ Rep D acc ∧ Met acc L ∧ (∀ kl, left kl = true → Maps.has D kl = true) ∧
    ∀ e, Ex7 e → left (kl e) = (decide (cf acc e ≠ 0) && !decide (e ∈ L.map Prod.fst))
theorem PR.start {H : Type} {w : World} {b r n cnt : Nat} {acc : List (List Int × Int)} {D : DataW H} (hr : w.ranges Try.prog 76 (plainElem Try.prog 3) b r n D (Maps.has D) cnt) (hp : Rep D acc) : PR H w b r n acc [] cnt :=
  ⟨D, _, hr, hp, ⟨by simp, by simp⟩, fun _ h => h, fun e he => by rw [hp.has e he]; simp⟩
theorem PR.owns {H : Type} {w : World} {b r n cnt : Nat} {acc L : List (List Int × Int)} (h : PR H w b r n acc L cnt) (hs : Srt acc) : PM H w b n acc := by
  obtain ⟨D, left, hr, hp, -⟩ := h
  exact ⟨D, hr.owns, hp, hs⟩
theorem PR.kept {H : Type} {w w' : World} {row : Option Nat} {b r n cnt : Nat} {acc L : List (List Int × Int)} (h : PR H w b r n acc L cnt) (hg : w.grownBy w' row) (hb : some b ≠ row) (hr : some r ≠ row) : PR H w' b r n acc L cnt := by
  obtain ⟨D, left, h1, h2⟩ := h
  exact ⟨D, left, h1.kept hg hb hr, h2⟩
theorem PR.done {H : Type} {w : World} {b r n cnt : Nat} {acc L : List (List Int × Int)} (h : PR H w b r n acc L cnt) (hg : GoodP acc) {left : Lit → Bool} (hl : ∀ e, Ex7 e → left (kl e) = (decide (cf acc e ≠ 0) && !decide (e ∈ L.map Prod.fst))) (h0 : ∀ kl, left kl = false) : L.Perm acc := by
  obtain ⟨-, -, -, -, hm, -⟩ := h
  refine hm.all hg fun e he hc => ?_
  have := hl e he
  rw [h0] at this
  simpa [hc] using this.symm
/-- The step of the range: all is met, or one more term comes. -/
theorem PR.next {H : Type} {w : World} {b r n cnt : Nat} {acc L : List (List Int × Int)} (h : PR H w b r n acc L cnt) (hg : GoodP acc) (ty : TypeId) :
    (cnt = 0 ∧ L.Perm acc ∧ (Instr.next (.pointer (some ⟨r, 0, none⟩)) false ty).run Try.prog w = .ok (.tuple #[.bool false]) w) ∨
    ∃ (x : List Int × Int) (w' : World) (cnt' : Nat), x ∈ acc ∧ (Instr.next (.pointer (some ⟨r, 0, none⟩)) false ty).run Try.prog w = .ok (.tuple #[.bool true, kv x.1, .int .i64 x.2]) w' ∧
      PR H w' b r n acc (L ++ [x]) cnt' ∧ cnt' < cnt ∧ w.grownBy w' (some r) ∧ w'.heap.size = w.heap.size ∧ (Instr.entry (.pointer (some ⟨r, 0, none⟩))).run Try.prog w' = .ok (.tuple #[kv x.1, .int .i64 x.2]) w' := by
  have hh := h
  obtain ⟨D, left, hr, hp, hm, hlh, hl⟩ := h
  rcases hr.next lawK ty with ⟨h0, hl0, hrun⟩ | ⟨key, v, l, y, w', cnt', hkey, hlk, hv, hat, hrun, hrg, hlt, hgr, hsz, hen⟩
  · exact .inl ⟨h0, hh.done hg hl hl0, hrun⟩
  · obtain ⟨e, he, rfl, rfl⟩ := kv_inv hkey
    obtain ⟨c, rfl, rfl, hc⟩ := plainElem_int_inv Try.underlying3 hv
    have h1 := hl e he
    rw [hlk] at h1
    have h1 := h1.symm
    rw [Bool.and_eq_true] at h1
    have h2 : cf acc e ≠ 0 := of_decide_eq_true h1.1
    have h3 : e ∉ L.map Prod.fst := by simpa using h1.2
    have hcf : c = cf acc e := dlit_inj ((hat (.lit (.int .i64 0))).symm.trans (hp.at_ e he))
    subst hcf
    have hx := cf_key h2
    refine .inr ⟨(e, cf acc e), w', cnt', hx, hrun, ⟨D, _, hrg, hp, ⟨fun z hz => ?_, ?_⟩, fun kl hk => hlh kl ?_, fun e' he' => ?_⟩, hlt, hgr, hsz, hen⟩
    · rcases List.mem_append.1 hz with hz | hz
      · exact hm.1 z hz
      · rw [List.mem_singleton.1 hz]; exact ⟨he, hx⟩
    · rw [List.map_append, List.nodup_append]
      refine ⟨hm.2, by simp, fun a ha b hb => ?_⟩
      rw [List.map_singleton, List.mem_singleton] at hb
      rw [hb]
      exact fun e1 => h3 (by have : a = e := e1; rw [← this]; exact ha)
    · simp only [Bool.and_eq_true] at hk; exact hk.1
    · show (left (kl e') && !(kl e').sameKey (kl e)) = _
      rw [hl e' he']
      by_cases hee : e' = e
      · rw [hee, WideAt.sameKey_self (lawK.key hkey)]; simp [List.map_append]
      · rw [sameKey_ne (fun e1 => hee (kl_inj he' he e1))]
        rw [met_other hee]; simp
/-- How many terms. -/
theorem entries_keyed {H : Type} {P : Program} {k : TypeId} {R : Value → Option (DataW H × List MemPlace)} {w : World} {b n : Nat} {D : DataW H} (h : w.ownsMap P k R b n D) (K : Go.Maps.Keyed P k) : ∃ es, D = .map es ∧ es.Pairwise (fun p q => p.1 ≠ q.1) ∧ ∀ p ∈ es, ∃ v, keyOf P k v = some p.1 := by
  obtain ⟨es, clock, _, F, _, rfl⟩ := h
  refine ⟨_, rfl, ((WideShapes.sorted_perm _).pairwise_iff (fun {_ _} hne => Ne.symm hne)).2 (Maps.fit_apart K F), fun p hp => ?_⟩
  obtain ⟨x, hx, rfl⟩ := List.mem_map.1 (mem_sorted.1 hp)
  obtain ⟨y, hy⟩ := F.reads x hx
  rw [WideElems.rg_of hy]
  exact ⟨_, WideElems.rd_key hy⟩
theorem PM.size {H : Type} {w : World} {b n : Nat} {acc : List (List Int × Int)} {D : DataW H} (ho : w.ownsMap Try.prog 76 (plainElem Try.prog 3) b n D) (hr : Rep D acc) (hg : GoodP acc) : Maps.size D = acc.length := by
  obtain ⟨es, rfl, hd, hk⟩ := entries_keyed ho lawK
  have hn1 : (es.map Prod.fst).Nodup := List.pairwise_map.2 hd
  have hn2 : (acc.map fun x => kl x.1).Nodup := by
    have h0 := srt_nodup hg.1
    rw [List.Nodup, List.pairwise_map] at h0 ⊢
    exact h0.imp_of_mem fun {a b} ha hb hab e => hab (kl_inj (hg.2 a ha).1 (hg.2 b hb).1 e)
  have hp : (es.map Prod.fst).Perm (acc.map fun x => kl x.1) := (List.perm_ext_iff_of_nodup hn1 hn2).2 fun l => by
    constructor
    · intro hl
      obtain ⟨p, hp, rfl⟩ := List.mem_map.1 hl
      obtain ⟨v, hv⟩ := hk p hp
      obtain ⟨e, he, rfl, e1⟩ := kv_inv hv
      have hh : Maps.has (.map es) p.1 = true := List.any_eq_true.2 ⟨p, hp, WideAt.sameKey_self (lawK.key hv)⟩
      rw [e1, hr.has e he] at hh
      exact List.mem_map.2 ⟨_, cf_key (of_decide_eq_true hh), e1.symm⟩
    · intro hl
      obtain ⟨x, hx, rfl⟩ := List.mem_map.1 hl
      have hh := hr.has x.1 (hg.2 x hx).1
      rw [cf_mem hg.1 hx, decide_eq_true (hg.2 x hx).2] at hh
      obtain ⟨p, hp, hpk⟩ := List.any_eq_true.1 hh
      exact List.mem_map.2 ⟨p, hp, WideAt.sameKey_eq hpk⟩
  have := hp.length_eq
  rw [List.length_map, List.length_map] at this
  exact this
end Go.Proofs.Ytgbojgmmingfdaa
