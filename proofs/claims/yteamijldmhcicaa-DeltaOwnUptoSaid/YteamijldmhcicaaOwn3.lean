/-
  A slice of the call's own whose elements are slices of slices of the call's own, no two of them in one place.
-/
import Derived.Test.YteamijldmhcicaaSet
namespace Go.Proofs.Yteamijldmhcicaa
open Go.RowKit Base Set1
set_option linter.unusedVariables false
set_option linter.unusedSimpArgs false
namespace Own3N

theorem ownblock_lt {w : World} {B : Nat} {e : TypeId} {size : Nat} {v : Value} {n : Nat} {vs : List Value} (h : w.ownsRow B e size v n vs) {k : Nat} (hk : v.ownBlock = some k) : B ≤ k ∧ k < w.heap.size := h.lt k hk

/-- What is owned by two rows stays where another block is written. -/
theorem own2_kept {w w1 : World} {B : Nat} {e1 e0 : TypeId} {v x : Value} {n : Nat} {vals : List Value} {xss : List (List Int)} (h : Own2 w B e1 e0 v n vals xss) (he : e0 ≠ e1) {m : Nat} {vs : List Value} (hx : w.ownsRow B e1 1 x m vs)
    (hg : w.grownBy w1 x.ownBlock) (ha : v.ownBlock = none ∨ v.ownBlock ≠ x.ownBlock) : Own2 w1 B e1 e0 v n vals xss :=
  ⟨h.outer.kept hg ha, h.len, fun i y ys hy hys => by
    obtain ⟨a, c, rfl, ho⟩ := h.row i y ys hy hys
    exact ⟨a, c, rfl, ho.kept hg (own_apart ho hx he)⟩⟩

structure Own3 (w : World) (B G n : Nat) (e1 e0 : TypeId) (vals : List Value) (F : List (List (List Int))) : Prop where
  sl : Sl w (some ⟨G, 0, none⟩) n n vals
  fz : ∀ i, w.frozen? ⟨G, i, none⟩ = false
  gB : G < B
  bs : B ≤ w.heap.size
  len : F.length = n
  lev : ∀ (i : Nat) (x : Value) (xss : List (List Int)), vals[i]? = some x → F[i]? = some xss → ∃ a c vs, x = .slice a xss.length c ∧ Own2 w B e1 e0 x xss.length vs xss
  apart : ∀ (i j : Nat) (x y : Value), i ≠ j → vals[i]? = some x → vals[j]? = some y → x.ownBlock = none ∨ x.ownBlock ≠ y.ownBlock

theorem Own3.next {w w' : World} {B G n : Nat} {e1 e0 : TypeId} {vals : List Value} {F : List (List (List Int))} (h : Own3 w B G n e1 e0 vals F) (hb : Below w.heap.size w w') : Own3 w' B G n e1 e0 vals F :=
  ⟨h.sl.next hb, fun i => (hb.frozen (p := ⟨G, i, none⟩) (Nat.lt_of_lt_of_le h.gB h.bs)).trans (h.fz i), h.gB, Nat.le_trans h.bs hb.size, h.len, fun i x xss hx hxs => by
    obtain ⟨a, c, vs, rfl, ho⟩ := h.lev i x xss hx hxs
    exact ⟨a, c, vs, rfl, ho.next hb⟩, h.apart⟩

/-- A level is put: only its own block was written, or it is new. -/
theorem Own3.put {w w1 : World} {B G n : Nat} {e1 e0 : TypeId} {vals : List Value} {F : List (List (List Int))} (h : Own3 w B G n e1 e0 vals F) (he : e0 ≠ e1) {i : Nat} (hi : i < n) {x : Value} (hx : vals[i]? = some x)
    (hg : w.grownBy w1 x.ownBlock) {a' : Option Addr} {c' : Nat} {vs' : List Value} {xss' : List (List Int)} (hown : Own2 w1 B e1 e0 (.slice a' xss'.length c') xss'.length vs' xss')
    (hob : (Value.slice a' xss'.length c').ownBlock = x.ownBlock ∨ (Value.slice a' xss'.length c').ownBlock = none ∨ ∃ k, (Value.slice a' xss'.length c').ownBlock = some k ∧ w.heap.size ≤ k) :
    Own3 (w1.setCell ⟨G, i, none⟩ (.slice a' xss'.length c')) B G n e1 e0 (vals.set i (.slice a' xss'.length c')) (F.set i xss') := by
  have hiF : i < F.length := by rw [h.len]; exact hi
  have hvl : vals.length = n := h.sl.len
  obtain ⟨xa, xc, xvs, hxe, hxo⟩ := h.lev i x _ hx (List.getElem?_eq_getElem hiF)
  have hGn : ∀ k, x.ownBlock = some k → k ≠ G := fun k hk => by have := (ownblock_lt hxo.outer hk).1; have := h.gB; omega
  have hblk : w1.heap[G]? = w.heap[G]? := hg.block G (Nat.lt_of_lt_of_le h.gB h.bs) (fun e => hGn G e.symm rfl)
  have hsl1 : Sl w1 (some ⟨G, 0, none⟩) n n vals := ⟨h.sl.len, h.sl.cap, h.sl.big, h.sl.bare, fun k v hv => by
    obtain ⟨b, o, ha, hb, hc⟩ := h.sl.cell k v hv
    simp only [Option.some.injEq, Addr.mk.injEq] at ha
    obtain ⟨rfl, rfl, _⟩ := ha
    exact ⟨G, 0, rfl, Nat.lt_of_lt_of_le hb hg.size, (World.cell?_of_block (w := w) (a := ⟨G, 0 + k, none⟩) hblk).trans hc⟩⟩
  refine ⟨sl_set hsl1 hi _, fun k => ?_, h.gB, ?_, by rw [List.length_set]; exact h.len, fun k y yss hy hys => ?_, fun k j y z hkj hy hz => ?_⟩
  · rw [World.frozen?_setCell]
    exact (World.frozen?_of_block (w := w) (a := ⟨G, k, none⟩) hblk).trans (h.fz k)
  · have : (w1.setCell ⟨G, i, none⟩ (.slice a' xss'.length c')).heap.size = w1.heap.size := by simp [World.setCell]
    rw [this]
    exact Nat.le_trans h.bs hg.size
  · by_cases hk : k = i
    · subst hk
      rw [List.getElem?_set_self (by omega)] at hy
      rw [List.getElem?_set_self hiF] at hys
      simp only [Option.some.injEq] at hy hys
      subst hy; subst hys
      exact ⟨a', c', vs', rfl, hown.set (a := ⟨G, k, none⟩) h.gB _⟩
    · rw [List.getElem?_set_ne (fun e => hk e.symm)] at hy hys
      obtain ⟨a, c, vs, rfl, ho⟩ := h.lev k y yss hy hys
      exact ⟨a, c, vs, rfl, (own2_kept ho he hxo.outer hg (h.apart k i _ _ hk hy hx)).set (a := ⟨G, i, none⟩) h.gB _⟩
  · have hlt : ∀ (p : Nat) (u : Value), vals[p]? = some u → ∀ b, u.ownBlock = some b → b < w.heap.size := fun p u hu b hb => by
      obtain ⟨hp, _⟩ := List.getElem?_eq_some_iff.1 hu
      obtain ⟨_, _, _, rfl, ho⟩ := h.lev p u _ hu (List.getElem?_eq_getElem (by rw [h.len]; omega))
      exact (ownblock_lt ho.outer hb).2
    by_cases hk : k = i
    · subst hk
      rw [List.getElem?_set_self (by omega)] at hy
      rw [List.getElem?_set_ne hkj] at hz
      simp only [Option.some.injEq] at hy
      subst hy
      rcases hob with e | e | ⟨b, e, hb⟩
      · rw [e]; exact h.apart k j _ _ hkj hx hz
      · exact .inl e
      · right
        rw [e]
        intro hz'
        have := hlt j z hz b hz'.symm
        omega
    · rw [List.getElem?_set_ne (fun e => hk e.symm)] at hy
      by_cases hj : j = i
      · subst hj
        rw [List.getElem?_set_self (by omega)] at hz
        simp only [Option.some.injEq] at hz
        subst hz
        rcases hob with e | e | ⟨b, e, hb⟩
        · rw [e]; exact h.apart k j _ _ hkj hy hx
        · rw [e]
          cases hyo : y.ownBlock with
          | none => exact .inl rfl
          | some q => exact .inr (by simp)
        · right
          rw [e]
          intro hy'
          have := hlt k y hy b hy'
          omega
      · rw [List.getElem?_set_ne (fun e => hj e.symm)] at hz
        exact h.apart k j y z hkj hy hz

/-- A slice of slices of slices, readable. -/
structure Sl3 (w : World) (a : Option Addr) (n c : Nat) (vs : List Value) (F : List (List (List Int))) : Prop where
  sl : Sl w a n c vs
  len : F.length = n
  row : ∀ (k : Nat) (v : Value) (xss : List (List Int)), vs[k]? = some v → F[k]? = some xss → ∃ a' c' vs', v = .slice a' xss.length c' ∧ Sl2 w a' xss.length c' vs' xss

theorem Sl3.next {w w' : World} {a : Option Addr} {n c : Nat} {vs : List Value} {F : List (List (List Int))} (h : Sl3 w a n c vs F) (hb : Below w.heap.size w w') : Sl3 w' a n c vs F :=
  ⟨h.sl.next hb, h.len, fun k v xss hv hx => by
    obtain ⟨a', c', vs', rfl, hs⟩ := h.row k v xss hv hx
    exact ⟨a', c', vs', rfl, hs.next hb⟩⟩

theorem Sl3.at {w : World} {a : Option Addr} {n c : Nat} {vs : List Value} {F : List (List (List Int))} (h : Sl3 w a n c vs F) {k : Nat} (hk : k < n) :
    ∃ b o a' c' vs', ∃ hx : k < F.length, a = some ⟨b, o, none⟩ ∧ b < w.heap.size ∧ w.cell? ⟨b, o + k, none⟩ = some (.slice a' F[k].length c') ∧ Sl2 w a' F[k].length c' vs' F[k] ∧ vs[k]? = some (.slice a' F[k].length c') := by
  obtain ⟨b, o, v, ha, hb, hv, hc⟩ := h.sl.at hk
  have hx : k < F.length := by have := h.len; omega
  obtain ⟨a', c', vs', rfl, hs⟩ := h.row k v _ hv (List.getElem?_eq_getElem hx)
  exact ⟨b, o, a', c', vs', hx, ha, hb, hc, hs, hv⟩

theorem Own3.sl3 {w : World} {B G n : Nat} {e1 e0 : TypeId} {vals : List Value} {F : List (List (List Int))} (h : Own3 w B G n e1 e0 vals F) : Sl3 w (some ⟨G, 0, none⟩) n n vals F :=
  ⟨h.sl, h.len, fun k v xss hv hx => by
    obtain ⟨a, c, vs, rfl, ho⟩ := h.lev k v xss hv hx
    exact ⟨a, c, vs, rfl, ho.sl2'⟩⟩

end Own3N
end Go.Proofs.Yteamijldmhcicaa
