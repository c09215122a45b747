/-
  Slices of levels that one appends to; levels whose integers are written.
-/
import Derived.Test.YteamijldmhcicaaKeeps
import Derived.Test.YteamijldmhcicaaMix
namespace Go.Proofs.Yteamijldmhcicaa
open Go.RowKit Base Set1
set_option linter.unusedVariables false
set_option linter.unusedSimpArgs false
namespace Own3N

/-- What a level is, and that it stays so. -/
structure Stays (Q : World → Value → List (List Int) → Prop) (e2 : TypeId) (B : Nat) : Prop where
  next : ∀ {w w' x xss}, Q w x xss → Below w.heap.size w w' → Q w' x xss
  kept : ∀ {w w1 : World} {v x : Value} {n : Nat} {vals : List Value} {xss}, Q w x xss → w.ownsRow B e2 1 v n vals → w.grownBy w1 v.ownBlock → Q w1 x xss
  low : ∀ {w : World} {x xss} {a : Addr} {u : Value}, Q w x xss → a.block < B → Q (w.setCell a u) x xss
  one : ∀ {w x xss}, Q w x xss → x.oneCell' = true

structure Full (Q : World → Value → List (List Int) → Prop) (w : World) (B : Nat) (e2 : TypeId) (v : Value) (n : Nat) (vals : List Value) (F : List (List (List Int))) : Prop where
  outer : w.ownsRow B e2 1 v n vals
  len : F.length = n
  lev : ∀ (i : Nat) (x : Value) (xss : List (List Int)), vals[i]? = some x → F[i]? = some xss → Q w x xss

variable {Q : World → Value → List (List Int) → Prop} {e2 : TypeId} {B : Nat}

theorem Full.nil (w : World) (B : Nat) (e2 : TypeId) : Full Q w B e2 (.slice none 0 0) 0 [] [] := ⟨World.ownsRow_nil _ _ _ _, rfl, fun i x xss h => by simp at h⟩

theorem Full.next (S : Stays Q e2 B) {w w' : World} {v : Value} {n : Nat} {vals : List Value} {F : List (List (List Int))} (h : Full Q w B e2 v n vals F) (hb : Below w.heap.size w w') : Full Q w' B e2 v n vals F :=
  ⟨own_next h.outer hb, h.len, fun i x xss hx hxs => S.next (h.lev i x xss hx hxs) hb⟩

theorem Full.low (S : Stays Q e2 B) {w : World} {v : Value} {n : Nat} {vals : List Value} {F : List (List (List Int))} (h : Full Q w B e2 v n vals F) {a : Addr} (ha : a.block < B) (u : Value) : Full Q (w.setCell a u) B e2 v n vals F :=
  ⟨ownsRow_setCell_below h.outer ha u, h.len, fun i x xss hx hxs => S.low (h.lev i x xss hx hxs) ha⟩

theorem Full.push (S : Stays Q e2 B) {w w1 : World} {v v' x : Value} {n : Nat} {vals : List Value} {F : List (List (List Int))} (h : Full Q w B e2 v n vals F) {xss : List (List Int)} (hx : Q w x xss) (hown : w1.ownsRow B e2 1 v' (n + 1) (vals ++ [x])) (hg : w.grownBy w1 v.ownBlock) : Full Q w1 B e2 v' (n + 1) (vals ++ [x]) (F ++ [xss]) := by
  have hl : vals.length = n := by have := h.outer.1; omega
  refine ⟨hown, by simp [h.len], fun i y ys hi hys => ?_⟩
  by_cases hin : i < n
  · rw [List.getElem?_append_left (by omega)] at hi
    rw [List.getElem?_append_left (by rw [h.len]; exact hin)] at hys
    exact S.kept (h.lev i y ys hi hys) h.outer hg
  · rw [List.getElem?_append_right (by omega)] at hi
    rw [List.getElem?_append_right (by rw [h.len]; omega)] at hys
    have e : i - vals.length = 0 := by
      have := (List.getElem?_eq_some_iff.1 hi).1
      simpa using this
    rw [e] at hi
    rw [h.len, ← hl, e] at hys
    simp only [List.getElem?_cons_zero, Option.some.injEq] at hi hys
    subst hi; subst hys
    exact S.kept hx h.outer hg

/-- append of one level. -/
theorem wpL_pushQ {P : Program} {w : World} {ops : Array Oper} {rest : List Oper} {dst : Option Tmp} {ty : TypeId} {pos : String} {af : Array Edge} {a : Act} {Q' : Exit → Act → World → Prop}
    {s x : Operand} {t : TypeId} {bytes : Nat} (S : Stays Q e2 B) (w0 : World) (u : Value) (xss : List (List Int)) (v : Value) (n : Nat) (vals : List Value) (F : List (List (List Int)))
    (hinfo : (P.info? e2).map (fun i => (i.zero, i.size, i.bytes)) = some (some (.slice none 0 0), 1, bytes)) (ht : P.underlying t = some (.slice e2))
    (hw : w = w0.alloc (.cells #[u] e2)) (hs : a.eval s = v) (hx : a.eval x = .slice (some ⟨w0.heap.size, 0, none⟩) 1 1)
    (hf : Full Q w0 B e2 v n vals F) (hu : Q w0 u xss) (hB : B ≤ w0.heap.size) (hn : (n + 1) * bytes ≤ 140737488355328) (hn' : n + 1 ≤ 9223372036854775807) {W : World} (hb : Below B W w0)
    (hK : ∀ a' c w1, Full Q w1 B e2 (.slice a' (n + 1) c) (n + 1) (vals ++ [u]) (F ++ [xss]) → Below B W w1 → w0.heap.size + 1 ≤ w1.heap.size → wpList P ops Q' rest (a.put dst (.slice a' (n + 1) c)) w1) :
    wpList P ops Q' (⟨dst, .call { callee := .builtin .append, args := #[s, x], argTypes := #[t, t] }, ty, pos, af, none⟩ :: rest) a w := by
  obtain ⟨i, hi, hz0, hz1, hz2⟩ := info_parts hinfo
  subst hw
  refine wpList_append_own _ rfl s x t rfl B e2 i (.slice none 0 0) 1 bytes ht hi hz0 hz1 hz2 rfl (by decide) v n vals hs (hf.outer.alloc _) ⟨w0.heap.size, 0, none⟩ 1 1 [u] hx rfl (cell_one_new _ _ _) (by intro q hq; simp at hq; subst hq; exact S.one hu)
    (by unfold maxLen; omega) hn (by simp; omega) ?_
  intro v' w1 hown' hgrow _
  obtain ⟨a', c, rfl, _⟩ := own_sl hown'
  have hal : Below w0.heap.size w0 (w0.alloc (.cells #[u] e2)) := (Below.refl _ _).alloc (Nat.le_refl _) _
  refine hK a' c w1 ((hf.next S hal).push S (S.next hu hal) hown' hgrow) (below_own (hf.outer.alloc _) hgrow (hb.alloc (by omega) _) (by simp; omega)) ?_
  have := hgrow.size
  simpa using this

/-! ### Levels all of the call's own. -/
def OwnLev (B : Nat) (e1 e0 : TypeId) (w : World) (x : Value) (xss : List (List Int)) : Prop := ∃ a c us, x = .slice a xss.length c ∧ Own2 w B e1 e0 (.slice a xss.length c) xss.length us xss

theorem own_stays {e1 e0 : TypeId} (h12 : e1 ≠ e2) (h02 : e0 ≠ e2) : Stays (OwnLev B e1 e0) e2 B :=
  ⟨fun ⟨a, c, us, e, h⟩ hb => ⟨a, c, us, e, h.next hb⟩,
   fun ⟨a, c, us, e, h⟩ ho hg => ⟨a, c, us, e, h.outer.kept hg (own_apart h.outer ho h12), h.len, fun i y ys hy hys => by
     obtain ⟨a', c', rfl, hr⟩ := h.row i y ys hy hys
     exact ⟨a', c', rfl, hr.kept hg (own_apart hr ho h02)⟩⟩,
   fun ⟨a, c, us, e, h⟩ hl => ⟨a, c, us, e, h.set hl _⟩,
   fun ⟨a, c, us, e, _⟩ => by rw [e]; rfl⟩

theorem full_sl3 {w : World} {e1 e0 : TypeId} {a : Option Addr} {n c : Nat} {vals : List Value} {F : List (List (List Int))} (h : Full (OwnLev B e1 e0) w B e2 (.slice a n c) n vals F) : Sl3 w a n c vals F := by
  obtain ⟨a', c', hv, hs⟩ := own_sl h.outer
  simp only [Value.slice.injEq] at hv
  obtain ⟨rfl, _, rfl⟩ := hv
  exact ⟨hs, h.len, fun k v xss hv hx => by
    obtain ⟨a1, c1, us, rfl, ho⟩ := h.lev k v xss hv hx
    exact ⟨a1, c1, us, rfl, ho.sl2'⟩⟩

/-! ### Integers of levels are written. -/
theorem own_other {w : World} {e e' : TypeId} {size : Nat} {v : Value} {n : Nat} {vs : List Value} (h : w.ownsRow B e size v n vs) {g : Nat} {cur : Array Value} {fz : Nat × Nat} (hg : w.heap[g]? = some (.cells cur e' fz)) (he : e' ≠ e) (i : Nat) (u : Value) : (w.setCell ⟨g, i, none⟩ u).ownsRow B e size v n vs := by
  refine ⟨h.1, ?_⟩
  rcases h.2 with hn | ⟨g', cap, cur', rfl, hg', hh, r⟩
  · exact .inl hn
  · refine .inr ⟨g', cap, cur', rfl, hg', ?_, r⟩
    have hne : g ≠ g' := by
      rintro rfl
      rw [hg] at hh
      simp only [Option.some.injEq, Obj.cells.injEq] at hh
      exact he hh.2.1
    simp only [World.setCell, Array.getElem?_modify]
    rw [if_neg hne]
    exact hh

theorem own_some {w : World} {e : TypeId} {v : Value} {n : Nat} {vs : List Value} (h : w.ownsRow B e 1 v n vs) (g i : Nat) (u : Value) : ∃ vs', (w.setCell ⟨g, i, none⟩ u).ownsRow B e 1 v n vs' := by
  rcases h.2 with hn | ⟨g', cap, cur', rfl, hg', hh, hle, hcap, hsz, htk⟩
  · exact ⟨vs, h.1, .inl hn⟩
  · by_cases hgg : g = g'
    · subst hgg
      refine ⟨(cur'.setIfInBounds i u).toList.take (n * 1), ?_, .inr ⟨g, cap, cur'.setIfInBounds i u, rfl, hg', ?_, hle, hcap, ?_, rfl⟩⟩
      · rw [List.length_take, Array.length_toList, Array.size_setIfInBounds, hsz]
        omega
      · simp only [World.setCell, Array.getElem?_modify]
        rw [if_pos trivial, hh]
        rfl
      · rw [Array.size_setIfInBounds]; exact hsz
    · refine ⟨vs, h.1, .inr ⟨g', cap, cur', rfl, hg', ?_, hle, hcap, hsz, htk⟩⟩
      simp only [World.setCell, Array.getElem?_modify]
      rw [if_neg hgg]
      exact hh

/-- Rows whose integers may be written. -/
def InRow (B K : Nat) (e0 : TypeId) (w : World) (y : Value) (xs : List Int) : Prop := ∃ a c vs, y = .slice a xs.length c ∧ w.ownsRow B e0 1 (.slice a xs.length c) xs.length vs ∧ ∀ k, (Value.slice a xs.length c).ownBlock = some k → k < K

def InLev (B K : Nat) (e1 e0 : TypeId) (w : World) (x : Value) (xss : List (List Int)) : Prop :=
  ∃ a c us, x = .slice a xss.length c ∧ w.ownsRow B e1 1 (.slice a xss.length c) xss.length us ∧ ∀ (k : Nat) (y : Value) (xs : List Int), us[k]? = some y → xss[k]? = some xs → InRow B K e0 w y xs

structure Ins (w : World) (B K : Nat) (e2 e1 e0 : TypeId) (v : Value) (n : Nat) (vals : List Value) (F : List (List (List Int))) : Prop where
  outer : w.ownsRow B e2 1 v n vals
  len : F.length = n
  lev : ∀ (i : Nat) (x : Value) (xss : List (List Int)), vals[i]? = some x → F[i]? = some xss → InLev B K e1 e0 w x xss

theorem ins_of {w : World} {e1 e0 : TypeId} {v : Value} {n : Nat} {vals : List Value} {F : List (List (List Int))} (h : Full (OwnLev B e1 e0) w B e2 v n vals F) {K : Nat} (hK : w.heap.size ≤ K) : Ins w B K e2 e1 e0 v n vals F :=
  ⟨h.outer, h.len, fun i x xss hx hxs => by
    obtain ⟨a, c, us, rfl, ho⟩ := h.lev i x xss hx hxs
    refine ⟨a, c, us, rfl, ho.outer, fun k y xs hy hys => ?_⟩
    obtain ⟨a', c', rfl, hr⟩ := ho.row k y xs hy hys
    exact ⟨a', c', _, rfl, hr, fun k hk => Nat.lt_of_lt_of_le (hr.lt k hk).2 hK⟩⟩

theorem Ins.next {w w' : World} {K : Nat} {e1 e0 : TypeId} {v : Value} {n : Nat} {vals : List Value} {F : List (List (List Int))} (h : Ins w B K e2 e1 e0 v n vals F) (hb : Below w.heap.size w w') : Ins w' B K e2 e1 e0 v n vals F :=
  ⟨own_next h.outer hb, h.len, fun i x xss hx hxs => by
    obtain ⟨a, c, us, rfl, ho, hr⟩ := h.lev i x xss hx hxs
    refine ⟨a, c, us, rfl, own_next ho hb, fun k y xs hy hys => ?_⟩
    obtain ⟨a', c', vs, rfl, hr, hk⟩ := hr k y xs hy hys
    exact ⟨a', c', vs, rfl, own_next hr hb, hk⟩⟩

theorem Ins.write {w : World} {K : Nat} {e1 e0 : TypeId} {v : Value} {n : Nat} {vals : List Value} {F : List (List (List Int))} (h : Ins w B K e2 e1 e0 v n vals F) (h01 : e0 ≠ e1) (h02 : e0 ≠ e2) {g : Nat} {cur : Array Value} {fz : Nat × Nat} (hg : w.heap[g]? = some (.cells cur e0 fz)) (j : Nat) (u : Value) : Ins (w.setCell ⟨g, j, none⟩ u) B K e2 e1 e0 v n vals F :=
  ⟨own_other h.outer hg h02 j u, h.len, fun i x xss hx hxs => by
    obtain ⟨a, c, us, rfl, ho, hr⟩ := h.lev i x xss hx hxs
    refine ⟨a, c, us, rfl, own_other ho hg h01 j u, fun k y xs hy hys => ?_⟩
    obtain ⟨a', c', vs, rfl, hr, hk⟩ := hr k y xs hy hys
    obtain ⟨vs', hr'⟩ := own_some hr g j u
    exact ⟨a', c', vs', rfl, hr', hk⟩⟩

/-- An own row's element: its place, what is there, and that it may be written. -/
theorem own_at {w : World} {e : TypeId} {a : Option Addr} {n c : Nat} {vs : List Value} (h : w.ownsRow B e 1 (.slice a n c) n vs) {i : Nat} (hi : i < n) :
    ∃ g x cur, a = some ⟨g, 0, none⟩ ∧ B ≤ g ∧ g < w.heap.size ∧ vs[i]? = some x ∧ w.cell? ⟨g, i, none⟩ = some x ∧ w.frozen? ⟨g, i, none⟩ = false ∧ w.heap[g]? = some (.cells cur e (0, 0)) ∧ n ≤ c ∧ c ≤ 9223372036854775807 := by
  obtain ⟨g, rfl, hB, hlt, hf⟩ := own_place h (by omega)
  obtain ⟨a', c', hv, hs⟩ := own_sl h
  simp only [Value.slice.injEq] at hv
  obtain ⟨rfl, _, rfl⟩ := hv
  obtain ⟨b, o, x, ha, hb, hx, hc⟩ := hs.at hi
  simp only [Option.some.injEq, Addr.mk.injEq] at ha
  obtain ⟨rfl, rfl, _⟩ := ha
  rcases h.2 with ⟨hv, h0⟩ | ⟨g', cap, cur, hv, _, hh, hle, hcap, _⟩
  · omega
  · simp only [Value.slice.injEq, Option.some.injEq, Addr.mk.injEq] at hv
    obtain ⟨⟨rfl, _, _⟩, _, rfl⟩ := hv
    exact ⟨g, x, cur, rfl, hB, hlt, hx, by rw [Nat.zero_add] at hc; exact hc, hf i, hh, hle, by unfold maxLen at hcap; omega⟩

end Own3N
end Go.Proofs.Yteamijldmhcicaa
