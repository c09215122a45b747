/-
  append as a step of a region that draws its order.
-/
import Derived.Test.YtllbncfcnjmbmaaDoorLaws
import Derived.Deep.RegionHeld3
import Derived.Deep.RegionLaw
import Derived.Deep.AppendLies
import Derived.Laws.AppendOwnNone
namespace Go.Proofs.YtllbncfcnjmbmaaDoor.Base
open Go.RowKit
set_option linter.unusedVariables false

theorem step_app {P : Program} {w : World} {ops : Array Oper} {o : Oper} {a : Act} {K : Act → World → Prop} {Q : Exit → Act → World → Prop} {E : Prop} (hgd : o.guard = none) {s x : Operand} {t : TypeId}
    (ho : o.op = .call { callee := .builtin .append, args := #[s, x], argTypes := #[t, t] })
    {e : TypeId} {z : Value} {bytes : Nat} (B : Nat) (v : Value) (n : Nat) (vs : List Value) (ao : Option Addr) (m c : Nat) (us : List Value)
    (hinfo : (P.info? e).map (fun i => (i.zero, i.size, i.bytes)) = some (some z, 1, bytes)) (ht : P.underlying t = some (.slice e)) (hzs : z.cells.size = 1)
    (hs : a.eval s = v) (hx : a.eval x = .slice ao m c) (hu : ∀ u ∈ us, u.oneCell' = true)
    (hown : w.ownsRow B e 1 v n vs) (hsl : Sl w ao m c us) (hB : B ≤ w.heap.size) (hn : (n + m) * bytes ≤ 140737488355328) (hn' : n + m ≤ 9223372036854775807) {W : World} (hb : Below B W w)
    (hK : ∀ a' c' w1, w1.ownsRow B e 1 (.slice a' (n + m) c') (n + m) (vs ++ us) → Below B W w1 → w.heap.size ≤ w1.heap.size → K (a.put o.dst (.slice a' (n + m) c')) w1) :
    if Region.wanted o (yielded ops a.tmps) = true then Oper.wp P o a w K Q else E := by
  have hw : Region.wanted o (yielded ops a.tmps) = true := by simp [Region.wanted, hgd]
  rw [if_pos hw]
  obtain ⟨i, hi, hz0, hz1, hz2⟩ := info_parts hinfo
  cases ao with
  | none =>
    obtain ⟨rfl, rfl⟩ := hsl.bare rfl
    have hus : us = [] := List.eq_nil_of_length_eq_zero hsl.len
    subst hus
    obtain ⟨a', c', rfl, _⟩ := own_sl hown
    have hrun := run_append_owned_none (P := P) (w := w) B t o.type e i 1 ht hi _ n vs hown
    unfold Oper.wp
    simp [execOp, ho, resolve, invoke, builtin, hs, hx, hrun, Result.andThen]
    exact hK a' c' w (by simpa using hown) hb (Nat.le_refl _)
  | some ad =>
    have hl : us.length = m * 1 := by rw [hsl.len]; omega
    have hnews : ∀ (j : Nat) (u : Value), us[j]? = some u → w.cell? (ad.add j) = some u := by
      intro j u hj
      obtain ⟨b, o, ha, _, hc⟩ := hsl.cell j u hj
      simp only [Option.some.injEq] at ha
      subst ha
      rw [Addr.add_lit]
      exact hc
    obtain ⟨v', w1, hr, hown', hgrow, _, _⟩ := run_append_own_at (P := P) w B t o.type e i z 1 bytes ht hi hz0 hz1 hz2 hzs (by decide) v n vs hown ad m c us hl hnews hu (by unfold maxLen; omega) hn hB
    obtain ⟨a', c', rfl, _⟩ := own_sl hown'
    unfold Oper.wp execOp
    simp only [ho, resolve, invoke, builtin, Sem.run_bind, Sem.run_pure, Result.andThen_ok, List.map_toArray, List.map_cons, List.map_nil, hs, hx, hr]
    exact hK a' c' w1 hown' (below_own hown hgrow hb hB) hgrow.size

theorem step_push {P : Program} {w : World} {ops : Array Oper} {o : Oper} {a : Act} {K : Act → World → Prop} {Q : Exit → Act → World → Prop} {E : Prop} (hgd : o.guard = none) {s x : Operand} {t : TypeId}
    (ho : o.op = .call { callee := .builtin .append, args := #[s, x], argTypes := #[t, t] })
    {e : TypeId} {z : Value} {bytes : Nat} (B : Nat) (w0 : World) (u : Value) (v : Value) (n : Nat) (vs : List Value)
    (hinfo : (P.info? e).map (fun i => (i.zero, i.size, i.bytes)) = some (some z, 1, bytes)) (ht : P.underlying t = some (.slice e)) (hzs : z.cells.size = 1)
    (hw : w = w0.alloc (.cells #[u] e)) (hs : a.eval s = v) (hx : a.eval x = .slice (some ⟨w0.heap.size, 0, none⟩) 1 1) (hu : u.oneCell' = true)
    (hown : w0.ownsRow B e 1 v n vs) (hB : B ≤ w0.heap.size) (hn : (n + 1) * bytes ≤ 140737488355328) (hn' : n + 1 ≤ 9223372036854775807) {W : World} (hb : Below B W w0)
    (hK : ∀ a' c w1, w1.ownsRow B e 1 (.slice a' (n + 1) c) (n + 1) (vs ++ [u]) → Below B W w1 → w0.heap.size + 1 ≤ w1.heap.size → K (a.put o.dst (.slice a' (n + 1) c)) w1) :
    if Region.wanted o (yielded ops a.tmps) = true then Oper.wp P o a w K Q else E := by
  subst hw
  refine step_app hgd ho B v n vs (some ⟨w0.heap.size, 0, none⟩) 1 1 [u] hinfo ht hzs hs hx (by intro q hq; simp at hq; subst hq; exact hu) (hown.alloc _) (sl_new w0 #[u] e 1 rfl (by decide)) (by simp; omega) hn hn' (hb.alloc (by omega) _) ?_
  intro a' c' w1 h1 h2 h3
  exact hK a' c' w1 h1 h2 (by simpa using h3)

theorem step_pushD {P : Program} {w : World} {ops : Array Oper} {o : Oper} {a : Act} {K : Act → World → Prop} {Q : Exit → Act → World → Prop} {E : Prop} (hgd : o.guard = none) {s x : Operand} {t : TypeId}
    (ho : o.op = .call { callee := .builtin .append, args := #[s, x], argTypes := #[t, t] })
    {e : TypeId} {z : Value} {bytes : Nat} (B : Nat) (w0 : World) (u : Value) (v : Value) (n : Nat) (vs : List Value)
    (hinfo : (P.info? e).map (fun i => (i.zero, i.size, i.bytes)) = some (some z, 1, bytes)) (ht : P.underlying t = some (.slice e)) (hzs : z.cells.size = 1)
    (hw : w = (w0.alloc (.cells #[u] e)).drew) (hs : a.eval s = v) (hx : a.eval x = .slice (some ⟨w0.heap.size, 0, none⟩) 1 1) (hu : u.oneCell' = true)
    (hown : w0.ownsRow B e 1 v n vs) (hB : B ≤ w0.heap.size) (hn : (n + 1) * bytes ≤ 140737488355328) (hn' : n + 1 ≤ 9223372036854775807) {W : World} (hb : Below B W w0)
    (hK : ∀ a' c w1, w1.ownsRow B e 1 (.slice a' (n + 1) c) (n + 1) (vs ++ [u]) → Below B W w1 → w0.heap.size + 1 ≤ w1.heap.size → K (a.put o.dst (.slice a' (n + 1) c)) w1) :
    if Region.wanted o (yielded ops a.tmps) = true then Oper.wp P o a w K Q else E := by
  subst hw
  refine step_app hgd ho B v n vs (some ⟨w0.heap.size, 0, none⟩) 1 1 [u] hinfo ht hzs hs hx (by intro q hq; simp at hq; subst hq; exact hu) (hown.alloc _).drew ((sl_new w0 #[u] e 1 rfl (by decide)).next (Below.refl _ _).drew) (by show B ≤ (w0.alloc _).heap.size; simp; omega) hn hn' (hb.alloc (by omega) _).drew ?_
  intro a' c' w1 h1 h2 h3
  exact hK a' c' w1 h1 h2 (by have : (w0.alloc (.cells #[u] e)).heap.size ≤ w1.heap.size := h3; simpa using this)

theorem step_lit {P : Program} {w : World} {ops : Array Oper} {o : Oper} {a : Act} {K : Act → World → Prop} {Q : Exit → Act → World → Prop} {E : Prop} (hgd : o.guard = none) {s x : Operand} {t : TypeId}
    (ho : o.op = .call { callee := .builtin .append, args := #[s, x], argTypes := #[t, t] })
    {e : TypeId} {z : Value} {bytes : Nat} (B : Nat) (w0 : World) (cs : Array Value) (m : Nat) (v : Value) (n : Nat) (vs : List Value)
    (hinfo : (P.info? e).map (fun i => (i.zero, i.size, i.bytes)) = some (some z, 1, bytes)) (ht : P.underlying t = some (.slice e)) (hzs : z.cells.size = 1) (hcs : cs.size = m) (hm : m ≤ 9223372036854775807)
    (hw : w = w0.alloc (.cells cs e)) (hs : a.eval s = v) (hx : a.eval x = .slice (some ⟨w0.heap.size, 0, none⟩) m m) (hu : ∀ u ∈ cs.toList, u.oneCell' = true)
    (hown : w0.ownsRow B e 1 v n vs) (hB : B ≤ w0.heap.size) (hn : (n + m) * bytes ≤ 140737488355328) (hn' : n + m ≤ 9223372036854775807) {W : World} (hb : Below B W w0)
    (hK : ∀ a' c w1, w1.ownsRow B e 1 (.slice a' (n + m) c) (n + m) (vs ++ cs.toList) → Below B W w1 → w0.heap.size + 1 ≤ w1.heap.size → K (a.put o.dst (.slice a' (n + m) c)) w1) :
    if Region.wanted o (yielded ops a.tmps) = true then Oper.wp P o a w K Q else E := by
  subst hw
  refine step_app hgd ho B v n vs (some ⟨w0.heap.size, 0, none⟩) m m cs.toList hinfo ht hzs hs hx hu (hown.alloc _) (sl_new w0 cs e m hcs hm) (by simp; omega) hn hn' (hb.alloc (by omega) _) ?_
  intro a' c' w1 h1 h2 h3
  exact hK a' c' w1 h1 h2 (by simpa using h3)

end Go.Proofs.YtllbncfcnjmbmaaDoor.Base
