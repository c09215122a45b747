/-
  HeldTo, more steps: what makes memory (buildSlice), and append to one's own.
-/
import Derived.Test.YtgbpoeidpldmkaaHeldTo
import Derived.Test.YtgbpoeidpldmkaaLaws
import Derived.ArgAppend
namespace Go.Proofs.Ytgbpoeidpldmkaa
open Go.RowKit Base
set_option linter.unusedVariables false
namespace HeldTo
section
variable {P : Program} {ops : Array Oper} {Q : Exit → Act → World → Prop} {md : Region.Mode} {S : World → Prop} {s : Nat}

theorem one {i : Nat} {oi : Oper} {fuel : Nat} {listed : Array Bool} {a : Act} {w : World} (hi : ops[i]? = some oi) (hr : Region.ready md ops listed = [i])
    (hw : Region.wanted oi (yielded ops a.tmps) = true)
    (h : oi.wp P a w (fun a' w' => ((listed.setIfInBounds i true).getD s true = false → S w') ∧ wpAnyG P md ops Q S s fuel (listed.setIfInBounds i true) a' w') Q) : wpAnyG P md ops Q S s (fuel + 1) listed a w := by
  refine ⟨fun h0 => absurd (hr ▸ h0) (by simp), ?_⟩
  rw [hr]
  intro j hj
  rw [List.mem_singleton] at hj
  subst hj
  unfold wpOp
  simp only [hi, hw, if_true]
  exact .inl h

/-- The one that may come up makes memory. -/
theorem make {i : Nat} {oi : Oper} {d : Option Tmp} {v : Value} {fuel : Nat} {listed : Array Bool} {a : Act} {w w2 : World} (hi : ops[i]? = some oi) (hd : oi.dst = d) (hr : Region.ready md ops listed = [i])
    (hw : Region.wanted oi (yielded ops a.tmps) = true) (hv : (execOp a.eval oi).run P w = .ok (.value v) w2) (hS : S w2)
    (h : wpAnyG P md ops Q S s fuel (listed.setIfInBounds i true) (a.put d v) w2) : wpAnyG P md ops Q S s (fuel + 1) listed a w := by
  subst hd
  refine one hi hr hw ?_
  unfold Oper.wp
  rw [hv]
  simp only [Oper.upon]
  exact ⟨fun _ => hS, h⟩

/-- append to one's own (elements of one cell): what is appended lies there. -/
theorem app {i : Nat} {oi : Oper} {d : Option Tmp} {fuel : Nat} {listed : Array Bool} {a : Act} {w : World} (hi : ops[i]? = some oi) (hd : oi.dst = d) (hr : Region.ready md ops listed = [i])
    (hw : Region.wanted oi (yielded ops a.tmps) = true) (s' x : Operand) (t : TypeId) (ho : oi.op = .call { callee := .builtin .append, args := #[s', x], argTypes := #[t, t] })
    {e : TypeId} {z : Value} {bytes : Nat} (B : Nat) (v : Value) (n : Nat) (vs : List Value) (ad : Addr) (m c : Nat) (us : List Value)
    (hinfo : (P.info? e).map (fun i => (i.zero, i.size, i.bytes)) = some (some z, 1, bytes)) (ht : P.underlying t = some (.slice e)) (hzs : z.cells.size = 1)
    (hs : a.eval s' = v) (hx : a.eval x = .slice (some ad) m c) (hu : ∀ u ∈ us, u.oneCell' = true)
    (hown : w.ownsRow B e 1 v n vs) (hsl : Sl w (some ad) m c us) (hB : B ≤ w.heap.size) (hn : (n + m) * bytes ≤ 140737488355328) (hn' : n + m ≤ 9223372036854775807)
    (h : ∀ a' c' w1, w1.ownsRow B e 1 (.slice a' (n + m) c') (n + m) (vs ++ us) → w.grownBy w1 v.ownBlock → S w1 ∧ wpAnyG P md ops Q S s fuel (listed.setIfInBounds i true) (a.put d (.slice a' (n + m) c')) w1) :
    wpAnyG P md ops Q S s (fuel + 1) listed a w := by
  obtain ⟨ii, hii, hz0, hz1, hz2⟩ := info_parts hinfo
  subst hd
  refine one hi hr hw ?_
  have hl : us.length = m * 1 := by rw [hsl.len]; omega
  refine wp_append_own w s' x t ho B e ii z 1 bytes ht hii hz0 hz1 hz2 hzs (by decide) v n vs hs hown ad m c us hx hl ?_ hu (by unfold maxLen; omega) hn hB ?_
  · intro j u hj
    obtain ⟨b, o, ha, _, hc⟩ := hsl.cell j u hj
    simp only [Option.some.injEq] at ha
    subst ha
    rw [Addr.add_lit]
    exact hc
  · intro v' w1 hown' hgrow _
    obtain ⟨a', c', rfl, _⟩ := own_sl hown'
    exact ⟨fun _ => (h a' c' w1 hown' hgrow).1, (h a' c' w1 hown' hgrow).2⟩
/-- append of one struct to a slice that is full: it grows. -/
theorem grows {i : Nat} {oi : Oper} {d : Option Tmp} {fuel : Nat} {listed : Array Bool} {a : Act} {w : World} (hi : ops[i]? = some oi) (hd : oi.dst = d) (hr : Region.ready md ops listed = [i])
    (hw : Region.wanted oi (yielded ops a.tmps) = true) (s' x : Operand) (t : TypeId) (ho : oi.op = .call { callee := .builtin .append, args := #[s', x], argTypes := #[t, t] })
    {e : TypeId} {z : Value} {size bytes : Nat} (ao : Option Addr) (n cap : Nat) (olds : List Value) (ad : Addr) (m c : Nat) (news : List Value)
    (hinfo : (P.info? e).map (fun i => (i.zero, i.size, i.bytes)) = some (some z, size, bytes)) (ht : P.underlying t = some (.slice e)) (hzs : z.cells.size = size) (hsz : 0 < size)
    (hs : a.eval s' = .slice ao n cap) (hx : a.eval x = .slice (some ad) m c) (hnone : ao = none → n = 0 ∧ cap = 0) (hlo : olds.length = n * size) (holds : ∀ b, ao = some b → ∀ j u, olds[j]? = some u → w.cell? (b.add j) = some u)
    (hl : news.length = m * size) (hc : ∀ j u, news[j]? = some u → w.cell? (ad.add j) = some u) (h1c : ∀ u ∈ news, u.oneCell' = true)
    (hfull : cap < n + m) (b1 : n + m ≤ 9223372036854775807) (b2 : (n + m) * bytes ≤ 140737488355328)
    (h : ∀ v' w1, w1.ownsRow w.heap.size e size v' (n + m) (olds ++ news) → w.grownBy w1 none → S w1 ∧ wpAnyG P md ops Q S s fuel (listed.setIfInBounds i true) (a.put d v') w1) :
    wpAnyG P md ops Q S s (fuel + 1) listed a w := by
  obtain ⟨ii, hii, hz0, hz1, hz2⟩ := info_parts hinfo
  subst hd
  refine one hi hr hw ?_
  cases ao with
  | some b =>
    obtain ⟨v', w', hrun, r1, r2⟩ := run_append_arg_grows (P := P) w t oi.type e ii z size bytes ht hii hz0 hz1 hz2 hzs hsz b n cap olds hlo (holds b rfl) ad m c news hl hc hfull (by unfold maxLen; omega) b2
    unfold Oper.wp
    simp [execOp, ho, resolve, invoke, builtin, hs, hx, hrun, Result.andThen]
    exact ⟨fun _ => (h v' w' r1 r2).1, (h v' w' r1 r2).2⟩
  | none =>
    obtain ⟨rfl, rfl⟩ := hnone rfl
    obtain rfl : olds = [] := List.eq_nil_of_length_eq_zero (by simpa using hlo)
    obtain ⟨v', w', hrun, r1, r2, _⟩ := run_append_own (P := P) w w.heap.size t oi.type e ii z size bytes ht hii hz0 hz1 hz2 hzs hsz (.slice none 0 0) 0 [] (World.ownsRow_nil w _ e size) ad m c news hl hc h1c (by unfold maxLen; omega) b2 (Nat.le_refl _)
    unfold Oper.wp
    simp [execOp, ho, resolve, invoke, builtin, hs, hx, hrun, Result.andThen]
    exact ⟨fun _ => (h v' w' r1 r2).1, (h v' w' r1 r2).2⟩
end
end HeldTo
end Go.Proofs.Ytgbpoeidpldmkaa
