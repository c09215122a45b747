/-
  What lies from a block on stays, whatever is written below it.
-/
import Derived.Test.YteamijldmhcicaaOwn3b
namespace Go.Proofs.Yteamijldmhcicaa
open Go.RowKit Base Set1
set_option linter.unusedVariables false
set_option linter.unusedSimpArgs false
namespace Own3N

/-- w2 is as w from block N on. -/
structure Keeps (N : Nat) (w w2 : World) : Prop where
  size : w.heap.size ≤ w2.heap.size
  block : ∀ k, N ≤ k → k < w.heap.size → w2.heap[k]? = w.heap[k]?

theorem Keeps.refl (N : Nat) (w : World) : Keeps N w w := ⟨Nat.le_refl _, fun _ _ _ => rfl⟩

theorem Keeps.of {N : Nat} {w w2 : World} (h : Below w.heap.size w w2) : Keeps N w w2 := ⟨h.size, fun k _ hk => h.block k hk⟩

theorem Keeps.trans {N : Nat} {w w1 w2 : World} (h : Keeps N w w1) (h2 : Keeps N w1 w2) : Keeps N w w2 :=
  ⟨Nat.le_trans h.size h2.size, fun k hn hk => (h2.block k hn (Nat.lt_of_lt_of_le hk h.size)).trans (h.block k hn hk)⟩

theorem Keeps.mono {N M : Nat} {w w2 : World} (h : Keeps M w w2) (hM : M ≤ N) : Keeps N w w2 := ⟨h.size, fun k hn hk => h.block k (Nat.le_trans hM hn) hk⟩

theorem Keeps.set {N : Nat} {w : World} {b : Nat} (hb : b < N) (j : Nat) (u : Value) : Keeps N w (w.setCell ⟨b, j, none⟩ u) := by
  refine ⟨by simp [World.setCell], fun k hn hk => ?_⟩
  simp only [World.setCell, Array.getElem?_modify]
  rw [if_neg (by omega)]

theorem own_keeps {w w2 : World} {N B : Nat} {e : TypeId} {size : Nat} {v : Value} {n : Nat} {vs : List Value} (h : w.ownsRow B e size v n vs) (hk : Keeps N w w2) (hN : N ≤ B) : w2.ownsRow B e size v n vs := by
  refine ⟨h.1, ?_⟩
  rcases h.2 with hn | ⟨g, cap, cur, rfl, hg, hh, r⟩
  · exact .inl hn
  · exact .inr ⟨g, cap, cur, rfl, hg, by rw [hk.block g (by omega) (Array.getElem?_eq_some_iff.1 hh).1]; exact hh, r⟩

theorem sl_keeps {w w2 : World} {N : Nat} {a : Option Addr} {n c : Nat} {vs : List Value} (h : Sl w a n c vs) (hk : Keeps N w w2) (ha : ∀ b o, a = some ⟨b, o, none⟩ → vs ≠ [] → N ≤ b) : Sl w2 a n c vs :=
  ⟨h.len, h.cap, h.big, h.bare, fun k x hx => by
    obtain ⟨b, o, e, hb, hc⟩ := h.cell k x hx
    exact ⟨b, o, e, Nat.lt_of_lt_of_le hb hk.size, (World.cell?_of_block (w := w) (a := ⟨b, o + k, none⟩) (hk.block b (ha b o e (by rintro rfl; simp at hx)) hb)).trans hc⟩⟩

theorem own2_keeps {w w2 : World} {N B : Nat} {e1 e0 : TypeId} {v : Value} {n : Nat} {vals : List Value} {xss : List (List Int)} (h : Own2 w B e1 e0 v n vals xss) (hk : Keeps N w w2) (hN : N ≤ B) : Own2 w2 B e1 e0 v n vals xss :=
  ⟨own_keeps h.outer hk hN, h.len, fun i x xs hx hxs => by
    obtain ⟨a, c, rfl, ho⟩ := h.row i x xs hx hxs
    exact ⟨a, c, rfl, own_keeps ho hk hN⟩⟩

theorem Own3.keeps {w w2 : World} {N B G n : Nat} {e1 e0 : TypeId} {vals : List Value} {F : List (List (List Int))} (h : Own3 w B G n e1 e0 vals F) (hk : Keeps N w w2) (hB : N ≤ B) (hG : N ≤ G) : Own3 w2 B G n e1 e0 vals F :=
  ⟨sl_keeps h.sl hk (fun b o e _ => by simp only [Option.some.injEq, Addr.mk.injEq] at e; omega), fun i => (World.frozen?_of_block (w := w) (a := ⟨G, i, none⟩) (hk.block G hG (Nat.lt_of_lt_of_le h.gB h.bs))).trans (h.fz i), h.gB, Nat.le_trans h.bs hk.size, h.len, fun i x xss hx hxs => by
    obtain ⟨a, c, vs, rfl, ho⟩ := h.lev i x xss hx hxs
    exact ⟨a, c, vs, rfl, own2_keeps ho hk hB⟩, h.apart⟩

/-- A level that grew is put in place: all is readable, in whatever world that is so from N on. -/
theorem Own3.put_high {w w1 W4 : World} {N B G n : Nat} {e1 e0 : TypeId} {vals : List Value} {F : List (List (List Int))} (h : Own3 w B G n e1 e0 vals F) (he : e0 ≠ e1) {i : Nat} (hi : i < n) {v : Value} (hx : vals[i]? = some v) {r : List (List Int)}
    {vs7 : List Value} (ho7 : Own2 w B e1 e0 v r.length vs7 r) (hg : w.grownBy w1 v.ownBlock) {a' : Option Addr} {c' : Nat} {ua : Option Addr} {uc : Nat} {xs : List Int} (hown : w1.ownsRow B e1 1 (.slice a' (r.length + 1) c') (r.length + 1) (vs7 ++ [.slice ua xs.length uc]))
    (hxs : Sl W4 ua xs.length uc (ints xs)) (h4 : Below W4.heap.size W4 w) (hG : W4.heap.size ≤ G) (hNB : N ≤ B) (hNG : N ≤ G) (hbx : ∀ b' o, ua = some ⟨b', o, none⟩ → xs ≠ [] → N ≤ b') :
    (∀ w2, Keeps N (w1.setCell ⟨G, i, none⟩ (.slice a' (r.length + 1) c')) w2 → Sl3 w2 (some ⟨G, 0, none⟩) n n (vals.set i (.slice a' (r.length + 1) c')) (F.set i (r ++ [xs]))) ∧ Below W4.heap.size W4 (w1.setCell ⟨G, i, none⟩ (.slice a' (r.length + 1) c')) := by
  have hGn : ∀ k, v.ownBlock = some k → k ≠ G := fun k hk => by have := (ownblock_lt ho7.outer hk).1; have := h.gB; omega
  have hblk : w1.heap[G]? = w.heap[G]? := hg.block G (Nat.lt_of_lt_of_le h.gB h.bs) (fun e => hGn G e.symm rfl)
  have hsl1 : Sl w1 (some ⟨G, 0, none⟩) n n vals := ⟨h.sl.len, h.sl.cap, h.sl.big, h.sl.bare, fun k v hv => by
    obtain ⟨b, o, ha, hb, hc⟩ := h.sl.cell k v hv
    simp only [Option.some.injEq, Addr.mk.injEq] at ha
    obtain ⟨rfl, rfl, _⟩ := ha
    exact ⟨G, 0, rfl, Nat.lt_of_lt_of_le hb hg.size, (World.cell?_of_block (w := w) (a := ⟨G, 0 + k, none⟩) hblk).trans hc⟩⟩
  have hbW : Below W4.heap.size W4 (w1.setCell ⟨G, i, none⟩ (.slice a' (r.length + 1) c')) := by
    have h41 : Below W4.heap.size W4 w1 := h4.grown hg (by have := h4.size; exact this) (fun k hk => by have := (ownblock_lt ho7.outer hk).1; have := h.gB; omega)
    exact h41.setCell (by exact hG) _
  refine ⟨fun w2 hk2 => ⟨sl_keeps (sl_set hsl1 hi _) hk2 (fun b' o e _ => by simp only [Option.some.injEq, Addr.mk.injEq] at e; omega), by rw [List.length_set]; exact h.len, fun k y yss hy hys => ?_⟩, hbW⟩
  have hvl : vals.length = n := h.sl.len
  have hiF : i < F.length := by rw [h.len]; exact hi
  by_cases hk : k = i
  · subst hk
    rw [List.getElem?_set_self (by omega)] at hy
    rw [List.getElem?_set_self hiF] at hys
    simp only [Option.some.injEq] at hy hys
    subst hy; subst hys
    have hos := own_keeps (ownsRow_setCell_below hown (a := ⟨G, k, none⟩) h.gB (.slice a' (r.length + 1) c')) hk2 hNB
    obtain ⟨a2, c2, hv2, hs2⟩ := own_sl hos
    simp only [Value.slice.injEq] at hv2
    obtain ⟨rfl, _, rfl⟩ := hv2
    refine ⟨a', c', vs7 ++ [.slice ua xs.length uc], by simp, ?_⟩
    have hl : (r ++ [xs]).length = r.length + 1 := by simp
    rw [hl]
    refine ⟨hs2, hl, fun j y ys hjy hjs => ?_⟩
    have h7l : vs7.length = r.length := ho7.vlen
    by_cases hj : j < r.length
    · rw [List.getElem?_append_left (by omega)] at hjy
      rw [List.getElem?_append_left hj] at hjs
      obtain ⟨ay, cy, rfl, hoy⟩ := ho7.row j y ys hjy hjs
      exact ⟨ay, cy, rfl, Base.own_ints (own_keeps (ownsRow_setCell_below (hoy.kept hg (own_apart hoy ho7.outer he)) (a := ⟨G, k, none⟩) h.gB _) hk2 hNB)⟩
    · rw [List.getElem?_append_right (by omega)] at hjs
      rw [List.getElem?_append_right (by omega)] at hjy
      have e : j - r.length = 0 := by
        have := (List.getElem?_eq_some_iff.1 hjs).1
        simpa using this
      rw [h7l, e] at hjy
      rw [e] at hjs
      simp only [List.getElem?_cons_zero, Option.some.injEq] at hjy hjs
      subst hjy; subst hjs
      exact ⟨ua, uc, rfl, sl_keeps (hxs.next hbW) hk2 (fun b' o e hne => hbx b' o e (by rintro rfl; exact hne rfl))⟩
  · rw [List.getElem?_set_ne (fun e => hk e.symm)] at hy hys
    obtain ⟨a, c, vs, rfl, ho⟩ := h.lev k y yss hy hys
    exact ⟨a, c, vs, rfl, (own2_keeps ((own2_kept ho he ho7.outer hg (h.apart k i _ _ hk hy hx)).set (a := ⟨G, i, none⟩) h.gB _) hk2 hNB).sl2'⟩

end Own3N
end Go.Proofs.Yteamijldmhcicaa
