/-
  circuit's names: a map[int]string of one's own; is a literal known?
-/
import Derived.Test.YtjmmhbmbafjneaaGreatDoorGateP
import Derived.Test.YtjmmhbmbafjneaaGreatDoorNeed
import Derived.BigQuiet
import Derived.Maps.OwnOps
import Derived.Maps.Views
namespace Go.Proofs.YtjmmhbmbafjneaaGreatDoor
open Go.RowKit Base Go.Maps
set_option linter.unusedVariables false
set_option linter.unusedSimpArgs false
namespace Circuit

theorem lawM : Keyed Tryz.prog 3 := int_keyed Tryz.underlying3
theorem zeroS (w : World) : (zeroValue 9).run Tryz.prog w = .ok (.string ⟨#[]⟩) w := by kernel_rfl

theorem wf_litM {x : Int} (h : I64 x) : (Lit.int .i64 x).wf = true := by
  unfold I64 at h
  simp [Lit.wf, IntKind.min, IntKind.max, IntKind.signed, IntKind.bits]
  omega

/-- What is said of a variable: the latest. -/
def get (D : List (Int × ByteArray)) (x : Int) : ByteArray := ((D.find? fun p => p.1 == x).map (·.2)).getD ⟨#[]⟩

/-- A map of the call's own that says so. -/
def MetIs (w : World) (b n : Nat) (D : List (Int × ByteArray)) : Prop :=
  ∃ M : DataW Unit, w.ownsMap Tryz.prog 3 (plainElem Tryz.prog 9) b n M ∧ IsMap M ∧ ∀ x, I64 x → M.atKey (.int .i64 x) (.lit (.string [])) = .lit (.string (get D x).data.toList)

theorem str_inv {e : TypeId} (he : Tryz.prog.underlying e = some .string) {v : Value} {z : DataW Unit × List MemPlace} (h : plainElem Tryz.prog e v = some z) : ∃ s : ByteArray, v = .string s ∧ z = (.lit (.string s.data.toList), []) := by
  unfold plainElem at h
  rw [he] at h
  cases v <;> simp at h
  exact ⟨_, rfl, h.2.symm⟩

theorem met_look {w : World} {b n : Nat} {D : List (Int × ByteArray)} (h : MetIs w b n D) {x : Int} (hx : I64 x) :
    (Instr.lookup 125 (.map (some b)) (.int .i64 x) false).run Tryz.prog w = .ok (.string (get D x)) w := by
  obtain ⟨M, ho, _, hat⟩ := h
  obtain ⟨v, ps, hrun, hv⟩ := ho.lookup lawM Tryz.underlying125 (zeroS w) (plainElem_string Tryz.underlying9 (s := ⟨#[]⟩) (by decide)) (keyOf_int_mk Tryz.underlying3 (wf_litM hx))
  obtain ⟨s, rfl, hz⟩ := str_inv Tryz.underlying9 hv
  simp only [Prod.mk.injEq] at hz
  have := hz.1.symm.trans (hat x hx)
  simp only [DataW.lit.injEq, Lit.string.injEq] at this
  have hs : s = get D x := by
    apply ByteArray.ext
    exact Array.toList_inj.1 this
  rw [hrun, hs]

theorem MetIs.next {w w' : World} {b n : Nat} {D : List (Int × ByteArray)} (h : MetIs w b n D) (hb : Below w.heap.size w w') : MetIs w' b n D := by
  obtain ⟨M, ⟨es, cl, hh, r⟩, hm, hat⟩ := h
  exact ⟨M, ⟨es, cl, (hb.block b (Array.getElem?_eq_some_iff.1 hh).1).trans hh, r⟩, hm, hat⟩

theorem met_made (w : World) : MetIs (w.alloc (.map #[] 0)) w.heap.size 0 [] :=
  ⟨.map [], World.ownsMap_made _ _ _ _, ⟨_, rfl⟩, fun x _ => by simp [DataW.atKey, get]⟩

theorem met_put {M : DataW Unit} {D : List (Int × ByteArray)} (hm : IsMap M) (hat : ∀ x, I64 x → M.atKey (.int .i64 x) (.lit (.string [])) = .lit (.string (get D x).data.toList)) (y : Int) (s : ByteArray) :
    IsMap (M.put (.int .i64 y) (.lit (.string s.data.toList))) ∧ ∀ x, I64 x → (M.put (.int .i64 y) (.lit (.string s.data.toList))).atKey (.int .i64 x) (.lit (.string [])) = .lit (.string (get ((y, s) :: D) x).data.toList) := by
  refine ⟨hm.put _ _, fun x hx => ?_⟩
  unfold get
  rw [List.find?_cons]
  by_cases hxy : x = y
  · subst hxy
    rw [atKey_put_same hm (by trivial)]
    simp
  · have hne : (y == x) = false := by simp; exact fun e => hxy e.symm
    rw [atKey_put_other (by intro e; simp at e; exact hxy e), hat x hx]
    simp only [hne]
    rfl

/-- Is a literal of something? -/
def known (D : List (Int × ByteArray)) (l : Int) : Bool := decide (0 ≤ l) && (decide (l < 2) || !(get D (var l)).toList.isEmpty)

end Circuit
end Go.Proofs.YtjmmhbmbafjneaaGreatDoor
