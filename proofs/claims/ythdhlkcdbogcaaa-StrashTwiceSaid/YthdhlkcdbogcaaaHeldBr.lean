/-
  HeldTo, where two operations may come up: a call or a store. No program's function.
-/
import Derived.Test.YthdhlkcdbogcaaaHeldTo
namespace Go.Proofs.Ythdhlkcdbogcaaa
open Go.RowKit
set_option linter.unusedVariables false
namespace HeldTo

section
variable {P : Program} {ops : Array Oper} {Q : Exit → Act → World → Prop} {md : Region.Mode} {S : World → Prop} {s : Nat}

def Nx (P : Program) (md : Region.Mode) (ops : Array Oper) (Q : Exit → Act → World → Prop) (S : World → Prop) (s fuel : Nat) (listed : Array Bool) (i : Nat) (a : Act) (w : World) : Prop :=
  ((listed.setIfInBounds i true).getD s true = false → S w) ∧ wpAnyG P md ops Q S s fuel (listed.setIfInBounds i true) a w

/-- Either of two may come up. -/
theorem two {i j : Nat} {fuel : Nat} {listed : Array Bool} {a : Act} {w : World} (hr : Region.ready md ops listed = [i, j])
    (h1 : wpOp P ops Q i (Nx P md ops Q S s fuel listed i) a w) (h2 : wpOp P ops Q j (Nx P md ops Q S s fuel listed j) a w) : wpAnyG P md ops Q S s (fuel + 1) listed a w := by
  refine ⟨fun h0 => absurd (hr ▸ h0) (by simp), ?_⟩
  rw [hr]
  intro k hk
  simp only [List.mem_cons, List.not_mem_nil, or_false] at hk
  rcases hk with rfl | rfl
  · exact h1
  · exact h2
/-- One alone may come up. -/
theorem one {i : Nat} {fuel : Nat} {listed : Array Bool} {a : Act} {w : World} (hr : Region.ready md ops listed = [i])
    (h1 : wpOp P ops Q i (Nx P md ops Q S s fuel listed i) a w) : wpAnyG P md ops Q S s (fuel + 1) listed a w := by
  refine ⟨fun h0 => absurd (hr ▸ h0) (by simp), ?_⟩
  rw [hr]
  intro k hk
  simp only [List.mem_cons, List.not_mem_nil, or_false] at hk
  subst hk
  exact h1

/-- A call. -/
theorem opCall {i : Nat} {oi : Oper} {d : Option Tmp} {fuel : Nat} {listed : Array Bool} {a : Act} {w : World} {f : FuncId} {args : Array Value} {R : Value → World → Prop} (hi : ops[i]? = some oi) (hd : oi.dst = d)
    (hw : Region.wanted oi (yielded ops a.tmps) = true) (hv : (execOp a.eval oi).run P w = .ok (.enter f args) w) (hc : Calls P f args w (fun e w'' => ∃ v, e = .returned v ∧ R v w''))
    (h : ∀ v w', R v w' → S w' ∧ wpAnyG P md ops Q S s fuel (listed.setIfInBounds i true) (a.put d v) w') : wpOp P ops Q i (Nx P md ops Q S s fuel listed i) a w := by
  subst hd
  unfold wpOp
  simp only [hi, hw, if_true]
  refine .inl ?_
  unfold Oper.wp
  rw [hv]
  simp only [Oper.upon]
  refine hc.mono fun e w'' ⟨v, he, hR⟩ => ?_
  subst he
  exact ⟨fun _ => (h v w'' hR).1, (h v w'' hR).2⟩

/-- A value. -/
theorem opVal {i : Nat} {oi : Oper} {d : Option Tmp} {v : Value} {fuel : Nat} {listed : Array Bool} {a : Act} {w w2 : World} (hi : ops[i]? = some oi) (hd : oi.dst = d)
    (hw : Region.wanted oi (yielded ops a.tmps) = true) (hv : (execOp a.eval oi).run P w = .ok (.value v) w2) (hS : S w2)
    (h : wpAnyG P md ops Q S s fuel (listed.setIfInBounds i true) (a.put d v) w2) : wpOp P ops Q i (Nx P md ops Q S s fuel listed i) a w := by
  subst hd
  unfold wpOp
  simp only [hi, hw, if_true]
  refine .inl ?_
  unfold Oper.wp
  rw [hv]
  simp only [Oper.upon]
  exact ⟨fun _ => hS, h⟩

/-- A store. -/
theorem opStore {i : Nat} {oi : Oper} {d : Option Tmp} {fuel : Nat} {listed : Array Bool} {a : Act} {w w2 : World} (hi : ops[i]? = some oi) (hd : oi.dst = d)
    (hw : Region.wanted oi (yielded ops a.tmps) = true) (hv : (execOp a.eval oi).run P w = .ok .skip w2) (hS : S w2)
    (h : wpAnyG P md ops Q S s fuel (listed.setIfInBounds i true) (a.put d undef) w2) : wpOp P ops Q i (Nx P md ops Q S s fuel listed i) a w := by
  subst hd
  unfold wpOp
  simp only [hi, hw, if_true]
  refine .inl ?_
  unfold Oper.wp
  rw [hv]
  simp only [Oper.upon]
  exact ⟨fun _ => hS, h⟩
end
end HeldTo
end Go.Proofs.Ythdhlkcdbogcaaa
