/-
  coi.needs in memory: a map[int]bool of the call's own: looked up, stored into, counted.
-/
import Derived.Test.YtninglnchengeaaCone
import Derived.Test.YtninglnchengeaaCoiP
import Derived.Maps.OwnSet
namespace Go.Proofs.Ytninglnchengeaa
open Go.RowKit Base Go.Maps
set_option linter.unusedVariables false
set_option linter.unusedSimpArgs false
namespace Coi
open Circuit SetI

def ins (X : List Int) (y : Int) : List Int := if inX X y = true then X else X ++ [y]
theorem ins_nodup {X : List Int} (h : X.Nodup) (y : Int) : (ins X y).Nodup := by
  unfold ins
  split
  · exact h
  · rename_i hy
    rw [List.nodup_append]
    exact ⟨h, by simp, fun a ha b hb e => by rw [List.mem_singleton] at hb; subst hb; exact hy (inX_iff.2 (e ▸ ha))⟩
theorem ins_mem {X : List Int} {y v : Int} : v ∈ ins X y ↔ v ∈ X ∨ v = y := by
  unfold ins
  split
  · rename_i hy
    constructor
    · exact Or.inl
    · rintro (h | rfl)
      · exact h
      · exact inX_iff.1 hy
  · simp

theorem keys_old {D : DataW Unit} {X : List Int} (h : KeysAre D X) (hn : X.Nodup) {y : Int} (hy : y ∈ X) (d : DataW Unit) : KeysAre (D.put (.int .i64 y) d) X := by
  obtain ⟨es, rfl, hk, hp⟩ := h
  have hkk : ∀ p ∈ es, ∃ x, p.1 = .int .i64 x := hk
  have hf : ∀ (l : List (Lit × DataW Unit)), (∀ p ∈ l, ∃ x, p.1 = .int .i64 x) → ((l.filter fun p => !p.1.sameKey (.int .i64 y)).map fun p => Go.intOf p.1) = (l.map fun p => Go.intOf p.1).filter (fun x => decide (x ≠ y)) := by
    intro l hl
    induction l with
    | nil => rfl
    | cons p r ih =>
      obtain ⟨x, hx⟩ := hl p List.mem_cons_self
      have ihr := ih fun q hq => hl q (List.mem_cons_of_mem _ hq)
      have hi : Go.intOf p.1 = x := by rw [hx]; rfl
      rw [List.filter_cons, List.map_cons, List.filter_cons, hi, hx]
      by_cases e : x = y
      · subst e
        have h1 : (!(Lit.int .i64 x).sameKey (.int .i64 x)) = false := by simp [Lit.sameKey]
        rw [h1, if_neg (by simp), if_neg (by simp)]
        exact ihr
      · have h1 : (!(Lit.int .i64 x).sameKey (.int .i64 y)) = true := by simp [Lit.sameKey, e]
        rw [h1, if_pos rfl, if_pos (by simpa using e), List.map_cons, hi, ihr]
  unfold DataW.put
  refine ⟨_, rfl, fun p hpm => ?_, ?_⟩
  · have := (insert_perm _ _).subset hpm
    rw [List.mem_cons] at this
    rcases this with rfl | hm
    · exact ⟨y, rfl⟩
    · exact hk p (List.mem_filter.1 hm).1
  · have h1 : (Go.intKeys (.map (DataW.insert (.int .i64 y, d) (es.filter fun p => !p.1.sameKey (.int .i64 y))))).Perm (y :: Go.intKeys (.map (es.filter fun p => !p.1.sameKey (.int .i64 y)))) := by
      unfold Go.intKeys
      exact (insert_perm (.int .i64 y, d) _).map _
    refine h1.trans ?_
    have hf' : Go.intKeys (.map (es.filter fun p => !p.1.sameKey (.int .i64 y))) = (Go.intKeys (.map es)).filter fun x => decide (x ≠ y) := hf es hk
    rw [hf']
    have h2 : ((Go.intKeys (.map es)).filter fun x => decide (x ≠ y)).Perm (X.filter fun x => decide (x ≠ y)) := hp.filter _
    refine (List.Perm.cons y h2).trans ?_
    have h3 : X.filter (fun x => decide (x ≠ y)) = X.erase y := by
      rw [hn.erase_eq_filter]
      congr 1
      funext x
      by_cases e : x = y <;> simp [e]
    rw [h3]
    exact (List.perm_cons_erase hy).symm

theorem set_ins {D : DataW Unit} {X : List Int} (hm : IsMap D) (hat : ∀ x, SetI.I64 x → D.atKey (.int .i64 x) (.lit (.bool false)) = .lit (.bool (inX X x))) (hk : KeysAre D X) (hn : X.Nodup) (y : Int) :
    IsMap (D.put (.int .i64 y) (.lit (.bool true))) ∧ (∀ x, SetI.I64 x → (D.put (.int .i64 y) (.lit (.bool true))).atKey (.int .i64 x) (.lit (.bool false)) = .lit (.bool (inX (ins X y) x))) ∧ KeysAre (D.put (.int .i64 y) (.lit (.bool true))) (ins X y) := by
  obtain ⟨h1, h2⟩ := set_put hm hat y
  unfold ins
  by_cases hy : inX X y = true
  · rw [if_pos hy]
    refine ⟨h1, fun x hx => ?_, keys_old hk hn (inX_iff.1 hy) _⟩
    rw [h2 x hx]
    congr 2
    rw [Bool.eq_iff_iff, inX_iff, inX_iff, List.mem_append, List.mem_singleton]
    constructor
    · rintro (h | rfl)
      · exact h
      · exact inX_iff.1 hy
    · exact Or.inl
  · rw [if_neg hy]
    exact ⟨h1, h2, keys_put hk (fun h => hy (inX_iff.2 h)) _⟩

theorem look (w : World) {b n : Nat} {X : List Int} (h : SetK w b n X) {x : Int} (hx : SetI.I64 x) :
    (Instr.lookup 40 (.map (some b)) (.int .i64 x) false).run Try.prog w = .ok (.bool (inX X x)) w := by
  obtain ⟨D, ho, _, hat, _⟩ := h
  obtain ⟨v, ps, hrun, hv⟩ := ho.lookup law Try.underlying40 (zeroE w) (plainElem_bool Try.underlying4 false) (keyOf_int_mk Try.underlying3 (wf_lit hx))
  obtain ⟨y, rfl, hz⟩ := bool_inv Try.underlying4 hv
  simp only [Prod.mk.injEq] at hz
  have := hz.1.symm.trans (hat x hx)
  simp only [DataW.lit.injEq, Lit.bool.injEq] at this
  rw [hrun, this]
theorem store {w : World} {b n : Nat} {X : List Int} (h : SetK w b n X) (hnd : X.Nodup) {x : Int} (hx : SetI.I64 x) (hn : n < 9223372036854775807) :
    ∃ w', (Instr.mapUpdate 40 (.map (some b)) (.int .i64 x) (.bool true)).run Try.prog w = .ok () w' ∧ SetK w' b (n + 1) (ins X x) ∧ w.grownBy w' (some b) := by
  obtain ⟨D, ho, hm, hat, hk⟩ := h
  obtain ⟨w', hrun, ho', hg⟩ := ho.update law Try.underlying40 (by unfold maxLen; omega) (keyOf_int_mk Try.underlying3 (wf_lit hx)) (plainElem_bool Try.underlying4 true)
  obtain ⟨h1, h2, h3⟩ := set_ins hm hat hk hnd x
  exact ⟨w', hrun, ⟨_, ho', h1, h2, h3⟩, hg⟩
theorem len (w : World) {b n : Nat} {X : List Int} (h : SetK w b n X) (ty : TypeId) : (Builtin.len_ #[40] ty #[.map (some b)]).run Try.prog w = .ok (.int .i64 X.length) w := by
  obtain ⟨D, ho, _, _, hk⟩ := h
  rw [ho.len Try.underlying40 ty, keys_size hk]
/-- Its size is the bound. -/
theorem tight {w : World} {b n : Nat} {X : List Int} (h : SetK w b n X) : SetK w b X.length X := by
  obtain ⟨D, ⟨es, cl, hh, hf, hsz, hD⟩, hm, hat, hk⟩ := h
  have hs := keys_size hk
  refine ⟨D, ⟨es, cl, hh, hf, ?_, hD⟩, hm, hat, hk⟩
  rw [← hs, hD]
  unfold Maps.size
  simp [length_sorted]
theorem made (w : World) : SetK (w.alloc (.map #[] 0)) w.heap.size 0 [] :=
  ⟨.map [], World.ownsMap_made _ _ _ _, ⟨_, rfl⟩, fun x _ => by simp [DataW.atKey, inX], keys_nil⟩
theorem SetK_kept {w w' : World} {b n : Nat} {X : List Int} (h : SetK w b n X) {row : Option Nat} (hg : w.grownBy w' row) (hne : some b ≠ row) : SetK w' b n X := by
  obtain ⟨D, ho, r⟩ := h
  exact ⟨D, ho.kept hg hne, r⟩
end Coi
end Go.Proofs.Ytninglnchengeaa
