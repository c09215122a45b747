/-
  append to a slice of the call's own, with what block it then lies in; three such slices side by side.
-/
import Derived.Test.YthhkngpbaflfiaaRowsV
import Derived.Test.YthhkngpbaflfiaaMix
import Derived.Lib.AppendZeros
namespace Go.Proofs.Ythhkngpbaflfiaa
open Go.RowKit
set_option linter.unusedVariables false
set_option linter.unusedSimpArgs false
namespace Base

theorem grown_al {w w1 : World} {o : Obj} {ob : Option Nat} (h : (w.alloc o).grownBy w1 ob) : w.grownBy w1 ob := by
  have ha : Below w.heap.size w (w.alloc o) := (Below.refl _ _).alloc (Nat.le_refl _) _
  exact ⟨h.os.trans ha.os, h.tape.trans ha.tape, h.output.trans ha.output, Nat.le_trans ha.size h.size, fun k hk hne => (h.block k (Nat.lt_of_lt_of_le hk ha.size) hne).trans (ha.block k hk)⟩

/-- append of one value: what it leaves. -/
theorem wpL_pushB {P : Program} {w : World} {ops : Array Oper} {rest : List Oper} {dst : Option Tmp} {ty : TypeId} {pos : String} {af : Array Edge} {a : Act} {Q : Exit → Act → World → Prop}
    {s x : Operand} {t e : TypeId} {z : Value} {bytes : Nat} (B : Nat) (w0 : World) (u : Value) (v : Value) (n : Nat) (vs : List Value)
    (hinfo : (P.info? e).map (fun i => (i.zero, i.size, i.bytes)) = some (some z, 1, bytes)) (ht : P.underlying t = some (.slice e)) (hzs : z.cells.size = 1)
    (hw : w = w0.alloc (.cells #[u] e)) (hs : a.eval s = v) (hx : a.eval x = .slice (some ⟨w0.heap.size, 0, none⟩) 1 1) (hu : u.oneCell' = true)
    (hown : w0.ownsRow B e 1 v n vs) (hB : B ≤ w0.heap.size) (hn : (n + 1) * bytes ≤ 140737488355328) (hn' : n + 1 ≤ 9223372036854775807)
    (hK : ∀ a' c w1, w1.ownsRow B e 1 (.slice a' (n + 1) c) (n + 1) (vs ++ [u]) → w0.grownBy w1 v.ownBlock → ((Value.slice a' (n + 1) c).ownBlock = v.ownBlock ∨ (Value.slice a' (n + 1) c).ownBlock = some (w0.heap.size + 1)) → wpList P ops Q rest (a.put dst (.slice a' (n + 1) c)) w1) :
    wpList P ops Q (⟨dst, .call { callee := .builtin .append, args := #[s, x], argTypes := #[t, t] }, ty, pos, af, none⟩ :: rest) a w := by
  obtain ⟨i, hi, hz0, hz1, hz2⟩ := info_parts hinfo
  subst hw
  obtain ⟨v', w1, hr, hown', hgrow, _, hob⟩ := run_append_own_at (P := P) (w0.alloc (.cells #[u] e)) B t ty e i z 1 bytes ht hi hz0 hz1 hz2 hzs (by decide) v n vs (hown.alloc _) ⟨w0.heap.size, 0, none⟩ 1 1 [u] rfl
    (cell_one_new _ _ _) (by intro q hq; simp at hq; subst hq; exact hu) (by unfold maxLen; omega) hn (by simp; omega)
  obtain ⟨a', c, rfl, _⟩ := own_sl hown'
  refine Lib.wpList_append_run _ rfl _ _ _ _ rfl _ _ hs hx _ _ hr ?_
  refine hK a' c w1 hown' (grown_al hgrow) ?_
  rcases hob with h | h
  · exact .inl h
  · exact .inr (by rw [h]; simp)

/-- Two values lie apart. -/
def Apart2 (v1 v2 : Value) : Prop := ∀ k, v1.ownBlock = some k → v2.ownBlock ≠ some k

theorem Apart2.symm {v1 v2 : Value} (h : Apart2 v1 v2) : Apart2 v2 v1 := fun k h2 h1 => h k h1 h2

theorem kept2 {w w1 : World} {B : Nat} {e : TypeId} {size : Nat} {v v2 : Value} {n : Nat} {vs : List Value} (h : w.ownsRow B e size v n vs) (hg : w.grownBy w1 v2.ownBlock) (ha : Apart2 v v2) : w1.ownsRow B e size v n vs := by
  refine h.kept hg ?_
  cases hb : v.ownBlock with
  | none => exact .inl rfl
  | some k => exact .inr (fun e' => ha k hb e'.symm)

theorem apart_push {w : World} {B : Nat} {e : TypeId} {size : Nat} {v v2 x : Value} {n : Nat} {vs : List Value} (h : w.ownsRow B e size v n vs) (ha : Apart2 v v2) (hx : x.ownBlock = v2.ownBlock ∨ x.ownBlock = some (w.heap.size + 1)) : Apart2 v x := by
  intro k hk hxk
  rcases hx with e' | e'
  · exact ha k hk (by rw [← e']; exact hxk)
  · rw [e'] at hxk
    have := (h.lt k hk).2
    simp only [Option.some.injEq] at hxk
    omega

/-- Three slices of the call's own, side by side. -/
structure Three (w : World) (B : Nat) (e : TypeId) (v1 v2 v3 : Value) (n1 n2 n3 : Nat) (u1 u2 u3 : List Value) : Prop where
  o1 : w.ownsRow B e 1 v1 n1 u1
  o2 : w.ownsRow B e 1 v2 n2 u2
  o3 : w.ownsRow B e 1 v3 n3 u3
  a12 : Apart2 v1 v2
  a13 : Apart2 v1 v3
  a23 : Apart2 v2 v3

theorem Three.nil (w : World) (B : Nat) (e : TypeId) : Three w B e (.slice none 0 0) (.slice none 0 0) (.slice none 0 0) 0 0 0 [] [] [] :=
  ⟨World.ownsRow_nil _ _ _ _, World.ownsRow_nil _ _ _ _, World.ownsRow_nil _ _ _ _, fun k h => by simp [Value.ownBlock] at h, fun k h => by simp [Value.ownBlock] at h, fun k h => by simp [Value.ownBlock] at h⟩

variable {w w1 : World} {B : Nat} {e : TypeId} {v1 v2 v3 : Value} {n1 n2 n3 : Nat} {u1 u2 u3 : List Value}

theorem Three.next (h : Three w B e v1 v2 v3 n1 n2 n3 u1 u2 u3) (hb : Below w.heap.size w w1) : Three w1 B e v1 v2 v3 n1 n2 n3 u1 u2 u3 := ⟨own_next h.o1 hb, own_next h.o2 hb, own_next h.o3 hb, h.a12, h.a13, h.a23⟩

theorem Three.push1 (h : Three w B e v1 v2 v3 n1 n2 n3 u1 u2 u3) {x : Value} {m : Nat} {us : List Value} (ho : w1.ownsRow B e 1 x m us) (hg : w.grownBy w1 v1.ownBlock) (hx : x.ownBlock = v1.ownBlock ∨ x.ownBlock = some (w.heap.size + 1)) : Three w1 B e x v2 v3 m n2 n3 us u2 u3 :=
  ⟨ho, kept2 h.o2 hg h.a12.symm, kept2 h.o3 hg h.a13.symm, (apart_push h.o2 h.a12.symm hx).symm, (apart_push h.o3 h.a13.symm hx).symm, h.a23⟩

theorem Three.push2 (h : Three w B e v1 v2 v3 n1 n2 n3 u1 u2 u3) {x : Value} {m : Nat} {us : List Value} (ho : w1.ownsRow B e 1 x m us) (hg : w.grownBy w1 v2.ownBlock) (hx : x.ownBlock = v2.ownBlock ∨ x.ownBlock = some (w.heap.size + 1)) : Three w1 B e v1 x v3 n1 m n3 u1 us u3 :=
  ⟨kept2 h.o1 hg h.a12, ho, kept2 h.o3 hg h.a23.symm, apart_push h.o1 h.a12 hx, h.a13, (apart_push h.o3 h.a23.symm hx).symm⟩

theorem Three.push3 (h : Three w B e v1 v2 v3 n1 n2 n3 u1 u2 u3) {x : Value} {m : Nat} {us : List Value} (ho : w1.ownsRow B e 1 x m us) (hg : w.grownBy w1 v3.ownBlock) (hx : x.ownBlock = v3.ownBlock ∨ x.ownBlock = some (w.heap.size + 1)) : Three w1 B e v1 v2 x n1 n2 m u1 u2 us :=
  ⟨kept2 h.o1 hg h.a13, kept2 h.o2 hg h.a23, ho, h.a12, apart_push h.o1 h.a13 hx, apart_push h.o2 h.a23 hx⟩

theorem below_grown {W : World} {B' : Nat} {v : Value} {n : Nat} {us : List Value} (h : w.ownsRow B e 1 v n us) (hg : w.grownBy w1 v.ownBlock) (hb : Below B' W w) (hB : B' ≤ B) (hs : B' ≤ w.heap.size) : Below B' W w1 :=
  hb.grown hg hs (fun k hk => Nat.le_trans hB (h.lt k hk).1)

end Base
end Go.Proofs.Ythhkngpbaflfiaa
