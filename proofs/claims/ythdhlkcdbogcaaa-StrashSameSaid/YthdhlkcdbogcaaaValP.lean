/-
  Plain: the list that interlocklaw06.values makes; what it says of a literal is what the ands make of it.
-/
import Derived.Test.YthdhlkcdbogcaaaBitL
namespace Go.Proofs.Ythdhlkcdbogcaaa
open Go.RowKit Base
set_option linter.unusedVariables false
set_option linter.unusedSimpArgs false
namespace StrashP
open Circuit GetI

def setB (L : List Bool) (u : Int) (b : Bool) : List Bool := L.set u.toNat b
def bitOf (bits : Nat) (k : Nat) : Bool := bits / 2 ^ (k % 64) % 2 == 1
/-- Inputs and latches, as bits say. -/
def baseL (x : Circ) (bits : Nat) : List Bool :=
  ((x.ins ++ x.lats.map (·.1)).zipIdx).foldl (fun L p => setB L (var p.1) (bitOf bits p.2)) (List.replicate (x.max + 1).toNat false)
def stepA (L : List Bool) (t : Tri) : List Bool := setB L (var t.1) (bitL L t.2.1 && bitL L t.2.2)
def valsL (x : Circ) (bits : Nat) : List Bool := x.ands.foldl stepA (baseL x bits)
def valV (L : List Bool) (u : Int) : Bool := L.getD u.toNat false

theorem bitL_valV (L : List Bool) (l : Int) : bitL L l = bitV (valV L) l := rfl
theorem setB_len (L : List Bool) (u : Int) (b : Bool) : (setB L u b).length = L.length := by unfold setB; simp
theorem valV_set {L : List Bool} {u : Int} {b : Bool} (h1 : 1 ≤ u) (h2 : u.toNat < L.length) : valV (setB L u b) = setV (valV L) u b := by
  funext v
  unfold valV setB setV
  by_cases e : v = u
  · subst e
    simp [List.getD_eq_getElem?_getD, List.getElem?_set, h2]
  · rw [if_neg e]
    show (L.set u.toNat b).getD v.toNat false = L.getD v.toNat false
    rw [List.getD_eq_getElem?_getD, List.getD_eq_getElem?_getD, List.getElem?_set, if_neg (by omega)]
theorem fold_eval : ∀ (A : List Tri) (L : List Bool), (∀ t ∈ A, 1 ≤ var t.1 ∧ (var t.1).toNat < L.length) → valV (A.foldl stepA L) = evalA A (valV L)
  | [], L, h => rfl
  | t :: r, L, h => by
    obtain ⟨h1, h2⟩ := h t List.mem_cons_self
    have ih := fold_eval r (stepA L t) (fun t' ht' => by
      obtain ⟨g1, g2⟩ := h t' (List.mem_cons_of_mem _ ht')
      exact ⟨g1, by unfold stepA; rw [setB_len]; exact g2⟩)
    rw [List.foldl_cons, ih]
    unfold stepA
    rw [valV_set h1 h2]
    rfl

theorem base_len : ∀ (ps : List (Int × Nat)) (bits : Nat) (L : List Bool), (ps.foldl (fun L p => setB L (var p.1) (bitOf bits p.2)) L).length = L.length
  | [], _, _ => rfl
  | p :: r, bits, L => by rw [List.foldl_cons, base_len r, setB_len]
theorem base_zero : ∀ (ps : List (Int × Nat)) (bits : Nat) (L : List Bool), (∀ p ∈ ps, 1 ≤ var p.1) → valV (ps.foldl (fun L p => setB L (var p.1) (bitOf bits p.2)) L) 0 = valV L 0
  | [], _, _, _ => rfl
  | p :: r, bits, L, h => by
    rw [List.foldl_cons, base_zero r bits _ (fun q hq => h q (List.mem_cons_of_mem _ hq))]
    have h1 := h p List.mem_cons_self
    show (L.set (var p.1).toNat _).getD 0 false = L.getD 0 false
    rw [List.getD_eq_getElem?_getD, List.getD_eq_getElem?_getD, List.getElem?_set, if_neg (by omega)]
theorem baseL_hashed (x : Circ) (bits : Nat) : baseL (hashed x) bits = baseL x bits := by
  have e : (hashed x).lats.map (·.1) = x.lats.map (·.1) := by
    show (x.lats.map _).map _ = _
    rw [List.map_map]
    rfl
  unfold baseL
  rw [e]
  rfl

theorem own_fine {x : Circ} (h : CheckOk x) {m : Int} (hm : m ∈ ownL x) : 1 ≤ var m ∧ var m ≤ x.max := by
  obtain ⟨g1, g2, g3⟩ := (ownOk_iff.1 h.2.1.1).1 m hm
  exact ⟨by unfold var; omega, g3⟩
theorem vals_eval {x : Circ} (h : CheckOk x) (bits : Nat) : valV (valsL x bits) = evalA x.ands (valV (baseL x bits)) := by
  unfold valsL
  refine fold_eval _ _ fun t ht => ?_
  obtain ⟨g1, g2⟩ := own_fine h (m := t.1) (by unfold ownL; exact List.mem_append_right _ (List.mem_map.2 ⟨t, ht, rfl⟩))
  refine ⟨g1, ?_⟩
  unfold baseL
  rw [base_len, List.length_replicate]
  omega
theorem base_valV0 {x : Circ} (h : CheckOk x) (bits : Nat) : valV (baseL x bits) 0 = false := by
  unfold baseL
  rw [base_zero]
  · unfold valV
    rw [List.getD_eq_getElem?_getD]
    cases e : (List.replicate (x.max + 1).toNat false)[(0 : Int).toNat]? with
    | none => rfl
    | some b => exact List.eq_of_mem_replicate (List.mem_of_getElem? e)
  · intro p hp
    have hm := List.fst_mem_of_mem_zipIdx hp
    refine (own_fine h (m := p.1) ?_).1
    unfold ownL
    exact List.mem_append_left _ hm
/-- What is told is the same. -/
theorem told_same {x : Circ} (h : CheckOk x) (bits : Nat) {m : Int} (hm : m ∈ told x) : bitL (valsL (hashed x) bits) (litS (stOf x).S m) = bitL (valsL x bits) m := by
  rw [bitL_valV, bitL_valV, vals_eval (hashed_ok h), vals_eval h, baseL_hashed]
  exact sem_told h (base_valV0 h bits) hm
end StrashP
end Go.Proofs.Ythdhlkcdbogcaaa
