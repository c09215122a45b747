/-
  A map of the call's own from keys of one kind to integers: what it says of a key (the latest).
-/
import Derived.Test.YthdhlkcdbogcaaaLaws
import Derived.Test.YthdhlkcdbogcaaaGetI
import Derived.Maps.OwnOps
import Derived.Maps.OwnSet
import Derived.Maps.Views
namespace Go.Proofs.Ythdhlkcdbogcaaa
open Go.RowKit Base Go.Maps GetI
set_option linter.unusedVariables false
set_option linter.unusedSimpArgs false
namespace MapG

def I64 (x : Int) : Prop := -9223372036854775808 ≤ x ∧ x ≤ 9223372036854775807
theorem wf_lit {x : Int} (h : I64 x) : (Lit.int .i64 x).wf = true := by
  unfold I64 at h
  simp [Lit.wf, IntKind.min, IntKind.max, IntKind.signed, IntKind.bits]
  omega

/-- Keys of one kind: their values, their readings. -/
structure Kind (P : Program) (K : TypeId) {κ : Type} (kv : κ → Value) (kl : κ → Lit) (ok : κ → Prop) : Prop where
  law : Keyed P K
  of : ∀ x, ok x → keyOf P K (kv x) = some (kl x)
  inj : ∀ x y, ok x → ok y → kv x = kv y → x = y

theorem Kind.key {P : Program} {K : TypeId} {κ : Type} {kv : κ → Value} {kl : κ → Lit} {ok : κ → Prop} (h : Kind P K kv kl ok) {x : κ} (hx : ok x) : WideAt.IsKeyLit (kl x) := h.law.key (h.of x hx)
theorem Kind.ne {P : Program} {K : TypeId} {κ : Type} {kv : κ → Value} {kl : κ → Lit} {ok : κ → Prop} (h : Kind P K kv kl ok) {x y : κ} (hx : ok x) (hy : ok y) (hne : x ≠ y) : kl x ≠ kl y := by
  intro e
  have h1 := h.of x hx
  have h2 := h.of y hy
  rw [← e] at h2
  exact hne (h.inj x y hx hy (h.law.inj h1 h2))

/-- A map of the call's own that says so. -/
def MapI (P : Program) (K E : TypeId) {κ : Type} [DecidableEq κ] (kl : κ → Lit) (ok : κ → Prop) (w : World) (b n : Nat) (D : List (κ × Int)) : Prop :=
  ∃ M : DataW Unit, w.ownsMap P K (plainElem P E) b n M ∧ IsMap M ∧ ∀ x, ok x → Maps.has M (kl x) = (getI D x).isSome ∧ M.atKey (kl x) (.lit (.int .i64 0)) = .lit (.int .i64 ((getI D x).getD 0))

section
variable {P : Program} {K E T : TypeId} {κ : Type} [DecidableEq κ] {kv : κ → Value} {kl : κ → Lit} {ok : κ → Prop} {w w' : World} {b n : Nat} {D : List (κ × Int)}

theorem MapI.next (h : MapI P K E kl ok w b n D) (hb : Below w.heap.size w w') : MapI P K E kl ok w' b n D := by
  obtain ⟨M, ⟨es, cl, hh, r⟩, hm, hat⟩ := h
  exact ⟨M, ⟨es, cl, (hb.block b (Array.getElem?_eq_some_iff.1 hh).1).trans hh, r⟩, hm, hat⟩
theorem MapI.lt (h : MapI P K E kl ok w b n D) : b < w.heap.size := by
  obtain ⟨M, ho, _⟩ := h
  exact ho.lt
theorem MapI.kept {row : Option Nat} (h : MapI P K E kl ok w b n D) (hg : w.grownBy w' row) (hne : some b ≠ row) : MapI P K E kl ok w' b n D := by
  obtain ⟨M, ho, hm, hat⟩ := h
  exact ⟨M, ho.kept hg hne, hm, hat⟩
/-- What lies in the block is a map. -/
theorem MapI.is (h : MapI P K E kl ok w b n D) : ∃ es cl, w.heap[b]? = some (.map es cl) := by
  obtain ⟨M, ⟨es, cl, hh, r⟩, _⟩ := h
  exact ⟨es, cl, hh⟩
theorem MapI.same (h : MapI P K E kl ok w b n D) (hb : w'.heap[b]? = w.heap[b]?) : MapI P K E kl ok w' b n D := by
  obtain ⟨M, ⟨es, cl, hh, r⟩, hm, hat⟩ := h
  exact ⟨M, ⟨es, cl, hb.trans hh, r⟩, hm, hat⟩
theorem made (P : Program) (K E : TypeId) {κ : Type} [DecidableEq κ] (kl : κ → Lit) (ok : κ → Prop) (w : World) : MapI P K E kl ok (w.alloc (.map #[] 0)) w.heap.size 0 ([] : List (κ × Int)) :=
  ⟨.map [], World.ownsMap_made _ _ _ _, ⟨_, rfl⟩, fun x _ => ⟨rfl, rfl⟩⟩

theorem MapI.look (h : MapI P K E kl ok w b n D) (Y : Kind P K kv kl ok) (ht : P.underlying T = some (.map K E)) (he : P.underlying E = some (.int .i64)) (hz : (zeroValue E).run P w = .ok (.int .i64 0) w) {x : κ} (hx : ok x) :
    (Instr.lookup T (.map (some b)) (kv x) true).run P w = .ok (.tuple #[.int .i64 ((getI D x).getD 0), .bool (getI D x).isSome]) w := by
  obtain ⟨M, ho, hm, hat⟩ := h
  obtain ⟨h1, h2⟩ := hat x hx
  obtain ⟨v, ps, hrun, hv⟩ := ho.look_ok Y.law ht hz (plainElem_int he (by decide)) (Y.of x hx)
  obtain ⟨c, rfl, hc, _⟩ := plainElem_int_inv he hv
  simp only [Prod.mk.injEq] at hc
  have h3 := hc.1.symm.trans h2
  simp only [DataW.lit.injEq, Lit.int.injEq, true_and] at h3
  rw [hrun, h1, h3]
theorem MapI.look1 (h : MapI P K E kl ok w b n D) (Y : Kind P K kv kl ok) (ht : P.underlying T = some (.map K E)) (he : P.underlying E = some (.int .i64)) (hz : (zeroValue E).run P w = .ok (.int .i64 0) w) {x : κ} (hx : ok x) :
    (Instr.lookup T (.map (some b)) (kv x) false).run P w = .ok (.int .i64 ((getI D x).getD 0)) w := by
  obtain ⟨M, ho, hm, hat⟩ := h
  obtain ⟨h1, h2⟩ := hat x hx
  obtain ⟨v, ps, hrun, hv⟩ := ho.lookup Y.law ht hz (plainElem_int he (by decide)) (Y.of x hx)
  obtain ⟨c, rfl, hc, _⟩ := plainElem_int_inv he hv
  simp only [Prod.mk.injEq] at hc
  have h3 := hc.1.symm.trans h2
  simp only [DataW.lit.injEq, Lit.int.injEq, true_and] at h3
  rw [hrun, h3]
theorem MapI.store (h : MapI P K E kl ok w b n D) (Y : Kind P K kv kl ok) (ht : P.underlying T = some (.map K E)) (he : P.underlying E = some (.int .i64)) (hn : n < 9223372036854775807) {x : κ} (hx : ok x) {v : Int} (hv : I64 v) :
    ∃ w', (Instr.mapUpdate T (.map (some b)) (kv x) (.int .i64 v)).run P w = .ok () w' ∧ MapI P K E kl ok w' b (n + 1) ((x, v) :: D) ∧ w.grownBy w' (some b) := by
  obtain ⟨M, ho, hm, hat⟩ := h
  obtain ⟨w', hrun, ho', hg⟩ := ho.update Y.law ht (by unfold maxLen; omega) (Y.of x hx) (plainElem_int he (wf_lit hv))
  refine ⟨w', hrun, ⟨_, ho', hm.put _ _, fun y hy => ?_⟩, hg⟩
  by_cases hxy : x = y
  · subst hxy
    rw [getI_same, atKey_put_same hm (Y.key hx), has_put_same hm (Y.key hx)]
    exact ⟨rfl, rfl⟩
  · have hne := Y.ne hy hx (fun e => hxy e.symm)
    rw [getI_other D v hxy, atKey_put_other hne, has_put_other hne]
    exact hat y hy
end

/-! ### Integers as keys. -/
theorem int_kind {P : Program} {K : TypeId} (hK : P.underlying K = some (.int .i64)) : Kind P K (fun x : Int => .int .i64 x) (fun x => .int .i64 x) I64 :=
  ⟨int_keyed hK, fun x hx => keyOf_int_mk hK (wf_lit hx), fun x y _ _ h => by simpa using h⟩
end MapG
end Go.Proofs.Ythdhlkcdbogcaaa
