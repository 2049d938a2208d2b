/- An entry of a map that is found or made, and stored into: at a map that the call owns. -/
import Derived.Test.YtgbojgmmingfdaaPoly
namespace Go.Proofs.Ytgbojgmmingfdaa
open Go.RowKit Go.Maps Go.MapKept Go.WideMaps
open Go.WideElems (Fit)
open Go.ChangeMaps (setBlock)

theorem set_back {α : Type} (f : α → α) : ∀ (l : List α) (j : Nat) (a : α), l[j]? = some a → f a = a → l.modify j f = l
  | [], _, _, h, _ => by simp at h
  | b :: r, 0, a, h, e => by
    simp at h
    subst h
    simp [e]
  | b :: r, j + 1, a, h, e => by
    simp at h
    simp [List.modify_succ_cons, set_back f r j a h e]
/-- The entry's world is that of a store of what is there already. -/
theorem entry_world {H : Type} {P : Program} {w : World} {t k e : TypeId} {R : Value → Option (DataW H × List MemPlace)} {b : Nat} {es : Array MapEntry} {clock : Nat} (K : KeyLaw P k) (ht : P.underlying t = some (.map k e)) {z : Value}
    (hz : ∀ u : World, (zeroValue e).run P u = .ok z u) (hb : w.heap[b]? = some (.map es clock)) (F : Fit P k R es clock) {key : Value} {lit : Lit} (hkey : keyOf P k key = some lit) :
    ∃ (v0 : Value) (st : Nat) (es1 : Array MapEntry) (clock1 : Nat), (Instr.mapEntry t (.map (some b)) key).run P w = .ok (.tuple #[v0, goInt st]) (setBlock w b (.map es1 clock1)) ∧
      (Instr.mapUpdate t (.map (some b)) key v0).run P w = .ok () (setBlock w b (.map es1 clock1)) ∧ (Instr.lookup t (.map (some b)) key false).run P w = .ok v0 w := by
  rcases K.find w hkey es.toList F.keys with ⟨h1, h2⟩ | ⟨j, e0, h1, h2, h3⟩
  · refine ⟨z, clock, es.push ⟨key, z, clock⟩, clock + 1, ?_, ?_, ?_⟩
    · simp [Instr.mapEntry, run_underlying ht, MapKept.run_getObj_map hb, K.check w false hkey, h1, hz, MapKept.run_setObj_map _ hb, Result.andThen, setBlock]
    · simp [Instr.mapUpdate, run_underlying ht, MapKept.run_getObj_map hb, K.check w false hkey, h1, MapKept.run_setObj_map _ hb, Result.andThen, setBlock]
    · simp [Instr.lookup, run_underlying ht, MapKept.run_getObj_map hb, K.check w _ hkey, h1, hz, Result.andThen]
  · have hj : es[j]? = some e0 := by simpa using h2
    have hsame : es.modify j (fun e => { e with key := key }) = es := by
      apply Array.ext'
      rw [Array.toList_modify]
      exact set_back _ _ _ e0 h2 (by rw [← h3])
    have hsame2 : es.modify j (fun e => { e with key := key, val := e0.val }) = es := by
      apply Array.ext'
      rw [Array.toList_modify]
      exact set_back _ _ _ e0 h2 (by rw [← h3])
    refine ⟨e0.val, e0.born, es, clock, ?_, ?_, ?_⟩
    · simp [Instr.mapEntry, run_underlying ht, MapKept.run_getObj_map hb, K.check w false hkey, h1, hj, h3, K.stays w hkey, hsame, MapKept.run_setObj_map _ hb, Result.andThen, setBlock]
    · simp [Instr.mapUpdate, run_underlying ht, MapKept.run_getObj_map hb, K.check w false hkey, h1, hj, h3, K.stays w hkey, hsame2, MapKept.run_setObj_map _ hb, Result.andThen, setBlock]
    · simp [Instr.lookup, run_underlying ht, MapKept.run_getObj_map hb, K.check w _ hkey, h1, Result.andThen]
theorem zeroI (u : World) : (zeroValue 3).run Try.prog u = .ok (.int .i64 0) u := by kernel_rfl
abbrev TM : TypeId := 74
/-- What the map reads as where one coefficient is another. -/
structure RepX {H : Type} (D : DataW H) (f : List Int → Int) (g : List Int → Bool) : Prop where
  at_ : ∀ e, Ex7 e → D.atKey (kl e) (.lit (.int .i64 0)) = .lit (.int .i64 (f e))
  has : ∀ e, Ex7 e → Maps.has D (kl e) = g e
theorem kl_key (e : List Int) : WideAt.IsKeyLit (kl e) := trivial
theorem wf_coef {H : Type} {w : World} {b n : Nat} {acc : List (List Int × Int)} {e : List Int} (h : PM H w b n acc) (he : Ex7 e) : (Instr.lookup TM (.map (some b)) (kv e) false).run Try.prog w = .ok (.int .i64 (cf acc e)) w ∧ (Lit.int .i64 (cf acc e)).wf = true := by
  obtain ⟨D, ho, hr, hs⟩ := h
  obtain ⟨c, h1, h2, h3⟩ := ho.lookup_int lawK Try.underlying74 Try.underlying3 (zeroI w) (keyOf_kv he)
  rw [hr.at_ e he] at h2
  have h4 : cf acc e = c := by simpa using h2
  rw [h4]
  exact ⟨h1, h3⟩
theorem PM.entry {H : Type} {w : World} {b n : Nat} {acc : List (List Int × Int)} {e : List Int} (h : PM H w b n acc) (hn : n < maxLen) (he : Ex7 e) :
    ∃ (st : Nat) (w1 : World), (Instr.mapEntry TM (.map (some b)) (kv e)).run Try.prog w = .ok (.tuple #[.int .i64 (cf acc e), goInt st]) w1 ∧ (Instr.lookup TM (.map (some b)) (kv e) false).run Try.prog w1 = .ok (.int .i64 (cf acc e)) w1 ∧ w.grownBy w1 (some b) ∧
      ∀ c, (Lit.int .i64 c).wf = true → ∃ w2 D2, (Instr.entryStore TM (.map (some b)) (goInt st) (.int .i64 c)).run Try.prog w1 = .ok () w2 ∧ World.ownsMap (H := H) w2 Try.prog 76 (plainElem Try.prog 3) b (n + 1) D2 ∧
        RepX D2 (fun x => if x = e then c else cf acc x) (fun x => if x = e then true else decide (cf acc x ≠ 0)) ∧ w.grownBy w2 (some b) := by
  obtain ⟨hlk, hwf⟩ := wf_coef h he
  obtain ⟨D, ho, hr, hs⟩ := h
  have ho' := ho
  obtain ⟨es, clock, hb, F, hle, hD⟩ := ho
  have hk := keyOf_kv he
  obtain ⟨v0, st, es1, clock1, h1, h2, h3⟩ := entry_world lawKL Try.underlying74 zeroI hb F hk
  have hv0 : v0 = .int .i64 (cf acc e) := by
    have := h3.symm.trans hlk
    injection this
  subst hv0
  obtain ⟨v0', st', es1', clock1', g1, -, g3⟩ := WideElems.entry_then_store lawKL Try.underlying74 zeroI hb F hk
  have e1 : Value.tuple #[.int .i64 (cf acc e), goInt st] = .tuple #[v0', goInt st'] ∧ setBlock w b (.map es1 clock1) = setBlock w b (.map es1' clock1') := by
    have := h1.symm.trans g1
    injection this with a1 a2
    exact ⟨a1, a2⟩
  have hst : st = st' := by
    have h4 := e1.1
    simp [goInt] at h4
    omega
  subst hst
  have hblk : es1 = es1' ∧ clock1 = clock1' := by
    have h4 : (setBlock w b (.map es1 clock1)).heap[b]? = (setBlock w b (.map es1' clock1')).heap[b]? := by rw [e1.2]
    rw [ChangeMaps.heap_setBlock_same hb, ChangeMaps.heap_setBlock_same hb] at h4
    injection h4 with h4
    injection h4 with h5 h6
    exact ⟨h5, h6⟩
  obtain ⟨rfl, rfl⟩ := hblk
  obtain ⟨w', hu, ho1, hg1⟩ := ho'.update lawK Try.underlying74 hn hk (plainElem_int Try.underlying3 hwf)
  have hw1 : w' = setBlock w b (.map es1 clock1) := by
    have := hu.symm.trans h2
    injection this
  subst hw1
  refine ⟨st, _, h1, ?_, hg1, fun c hc => ?_⟩
  · obtain ⟨c1, k1, k2, -⟩ := ho1.lookup_int lawK Try.underlying74 Try.underlying3 (zeroI _) hk
    rw [atKey_put_same ho'.isMap (kl_key e)] at k2
    have h4 : cf acc e = c1 := by simpa using k2
    rw [h4]
    exact k1
  · obtain ⟨es', clock', s1, s2⟩ := g3 (setBlock w b (.map es1 clock1)) (.int .i64 c) (ChangeMaps.heap_setBlock_same hb _)
    obtain ⟨w2, t1, t2, t3⟩ := ho'.update lawK Try.underlying74 hn hk (plainElem_int Try.underlying3 hc)
    have hw2 : w2 = setBlock w b (.map es' clock') := by
      have := t1.symm.trans s2
      injection this
    subst hw2
    have htwice : setBlock (setBlock w b (.map es1 clock1)) b (.map es' clock') = setBlock w b (.map es' clock') := by simp [setBlock]
    rw [htwice] at s1
    refine ⟨_, _, s1, t2, ⟨fun x hx => ?_, fun x hx => ?_⟩, t3⟩
    · by_cases hxe : x = e
      · subst hxe
        rw [atKey_put_same ho'.isMap (kl_key x), if_pos rfl]
      · rw [atKey_put_other (fun hkl => hxe (kl_inj hx he hkl)), hr.at_ x hx, if_neg hxe]
    · by_cases hxe : x = e
      · subst hxe
        rw [has_put_same ho'.isMap (kl_key x), if_pos rfl]
      · rw [has_put_other (fun hkl => hxe (kl_inj hx he hkl)), hr.has x hx, if_neg hxe]
end Go.Proofs.Ytgbojgmmingfdaa
