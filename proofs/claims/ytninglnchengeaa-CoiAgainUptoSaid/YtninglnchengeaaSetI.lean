/-
  A map[int]bool of the call's own that says true at just some integers.
-/
import Derived.Test.YtninglnchengeaaLaws
import Derived.Maps.OwnOps
import Derived.Maps.Views
import Derived.Lib.SlKeysI
namespace Go.Proofs.Ytninglnchengeaa
open Go.RowKit Base Go.Maps
set_option linter.unusedVariables false
set_option linter.unusedSimpArgs false
namespace SetI

theorem law : Keyed Try.prog 3 := int_keyed Try.underlying3
theorem zeroE (w : World) : (zeroValue 4).run Try.prog w = .ok (.bool false) w := by kernel_rfl

def I64 (x : Int) : Prop := -9223372036854775808 ≤ x ∧ x ≤ 9223372036854775807

theorem wf_lit {x : Int} (h : I64 x) : (Lit.int .i64 x).wf = true := by
  unfold I64 at h
  simp [Lit.wf, IntKind.min, IntKind.max, IntKind.signed, IntKind.bits]
  omega

/-- Is an integer one of some? -/
def inX (X : List Int) (x : Int) : Bool := X.any fun y => y == x

theorem inX_iff {X : List Int} {x : Int} : inX X x = true ↔ x ∈ X := by
  unfold inX
  rw [List.any_eq_true]
  constructor
  · rintro ⟨y, hy, he⟩
    rw [beq_iff_eq] at he
    rw [← he]
    exact hy
  · intro h
    exact ⟨x, h, by simp⟩

/-- A map of the call's own that says true at just these; its keys are these, each once. -/
def SetIs (w : World) (b n : Nat) (X : List Int) : Prop :=
  ∃ D : DataW Unit, w.ownsMap Try.prog 3 (plainElem Try.prog 4) b n D ∧ IsMap D ∧ ∀ x, I64 x → D.atKey (.int .i64 x) (.lit (.bool false)) = .lit (.bool (inX X x))

theorem bool_inv {e : TypeId} (he : Try.prog.underlying e = some .bool) {v : Value} {z : DataW Unit × List MemPlace} (h : plainElem Try.prog e v = some z) : ∃ y, v = .bool y ∧ z = (.lit (.bool y), []) := by
  unfold plainElem at h
  rw [he] at h
  cases v <;> simp at h
  exact ⟨_, rfl, h.symm⟩

theorem set_look {w : World} {b n : Nat} {X : List Int} (h : SetIs w b n X) {x : Int} (hx : I64 x) :
    (Instr.lookup 39 (.map (some b)) (.int .i64 x) false).run Try.prog w = .ok (.bool (inX X x)) w := by
  obtain ⟨D, ho, _, hat⟩ := h
  obtain ⟨v, ps, hrun, hv⟩ := ho.lookup law Try.underlying39 (zeroE w) (plainElem_bool Try.underlying4 false) (keyOf_int_mk Try.underlying3 (wf_lit hx))
  obtain ⟨y, rfl, hz⟩ := bool_inv Try.underlying4 hv
  simp only [Prod.mk.injEq] at hz
  have := hz.1.symm.trans (hat x hx)
  simp only [DataW.lit.injEq, Lit.bool.injEq] at this
  rw [hrun, this]

theorem SetIs.next {w w' : World} {b n : Nat} {X : List Int} (h : SetIs w b n X) (hb : Below w.heap.size w w') : SetIs w' b n X := by
  obtain ⟨D, ⟨es, cl, hh, r⟩, hm, hat⟩ := h
  exact ⟨D, ⟨es, cl, (hb.block b (Array.getElem?_eq_some_iff.1 hh).1).trans hh, r⟩, hm, hat⟩

theorem set_made (w : World) : SetIs (w.alloc (.map #[] 0)) w.heap.size 0 [] :=
  ⟨.map [], World.ownsMap_made _ _ _ _, ⟨_, rfl⟩, fun x _ => by simp [DataW.atKey, inX]⟩

theorem set_put {D : DataW Unit} {X : List Int} (hm : IsMap D) (hat : ∀ x, I64 x → D.atKey (.int .i64 x) (.lit (.bool false)) = .lit (.bool (inX X x))) (y : Int) :
    IsMap (D.put (.int .i64 y) (.lit (.bool true))) ∧ ∀ x, I64 x → (D.put (.int .i64 y) (.lit (.bool true))).atKey (.int .i64 x) (.lit (.bool false)) = .lit (.bool (inX (X ++ [y]) x)) := by
  refine ⟨hm.put _ _, fun x hx => ?_⟩
  unfold inX
  rw [List.any_append]
  by_cases hxy : x = y
  · subst hxy
    rw [atKey_put_same hm (by trivial)]
    simp
  · rw [atKey_put_other (by intro e; simp at e; exact hxy e), hat x hx]
    have : (y == x) = false := by simp; exact fun e => hxy e.symm
    simp [inX, this]

/-- The keys of a map are these. -/
def KeysAre (D : DataW Unit) (X : List Int) : Prop := ∃ es : List (Lit × DataW Unit), D = .map es ∧ (∀ p ∈ es, ∃ x, p.1 = .int .i64 x) ∧ (Go.intKeys D).Perm X

theorem insert_perm (x : Lit × DataW Unit) (l : List (Lit × DataW Unit)) : (DataW.insert x l).Perm (x :: l) := by
  induction l with
  | nil => exact List.Perm.refl _
  | cons y r ih =>
    unfold DataW.insert
    split
    · exact List.Perm.refl _
    · exact (List.Perm.cons y ih).trans (List.Perm.swap x y r)

theorem keys_nil : KeysAre (.map []) [] := ⟨[], rfl, fun p h => by simp at h, List.Perm.refl _⟩

theorem keys_put {D : DataW Unit} {X : List Int} (h : KeysAre D X) {y : Int} (hy : y ∉ X) (d : DataW Unit) : KeysAre (D.put (.int .i64 y) d) (X ++ [y]) := by
  obtain ⟨es, rfl, hk, hp⟩ := h
  have hf : es.filter (fun p => !p.1.sameKey (.int .i64 y)) = es := by
    rw [List.filter_eq_self]
    intro p hpm
    obtain ⟨x, hx⟩ := hk p hpm
    rw [hx]
    have hne : x ≠ y := fun e => by
      apply hy
      rw [← e]
      apply hp.subset
      unfold Go.intKeys
      exact List.mem_map.2 ⟨p, hpm, by rw [hx]; rfl⟩
    simp [Lit.sameKey, hne]
  unfold DataW.put
  simp only [hf]
  refine ⟨_, rfl, fun p hpm => ?_, ?_⟩
  · have := (insert_perm _ _).subset hpm
    rw [List.mem_cons] at this
    rcases this with rfl | hm
    · exact ⟨y, rfl⟩
    · exact hk p hm
  · unfold Go.intKeys at *
    refine ((insert_perm (.int .i64 y, d) es).map _).trans ?_
    rw [List.map_cons]
    exact (List.Perm.cons _ hp).trans (List.perm_append_comm (l₁ := [y]) (l₂ := X))

end SetI
end Go.Proofs.Ytninglnchengeaa
