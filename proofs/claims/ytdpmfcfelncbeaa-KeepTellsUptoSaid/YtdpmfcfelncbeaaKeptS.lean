/-
  A slice of Kept as it lies in memory; slices.ContainsFunc of it.
-/
import Derived.Test.YtdpmfcfelncbeaaTrip
import Derived.Test.YtdpmfcfelncbeaaKeepP
import Derived.Test.YtdpmfcfelncbeaaAbsP
import Derived.Shelf.Abstract
namespace Go.Proofs.Ytdpmfcfelncbeaa
open Go.RowKit Base
set_option linter.unusedVariables false
set_option linter.unusedSimpArgs false
namespace Keep

/-- A row of two cells is this Kept. -/
def KeptIn (w : World) (v : List Value) (k : Kp) : Prop := ∃ a1 c1 vals a2 c2, v = [.slice a1 k.1.length c1, .slice a2 k.2.length c2] ∧ Sl2 w a1 k.1.length c1 vals k.1 ∧ Sl w a2 k.2.length c2 (ints k.2)

theorem KeptIn.next {w w' : World} {v : List Value} {k : Kp} (h : KeptIn w v k) (hb : Below w.heap.size w w') : KeptIn w' v k := by
  obtain ⟨a1, c1, vals, a2, c2, rfl, h1, h2⟩ := h
  exact ⟨a1, c1, vals, a2, c2, rfl, h1.next hb, h2.next hb⟩

/-- A slice of Kept that can be read. -/
structure SlK (w : World) (a : Option Addr) (n c : Nat) (vs : List (List Value)) (l : List Kp) : Prop where
  sl : SlT w 2 a n c vs
  len : l.length = n
  row : ∀ (i : Nat) (v : List Value) (k : Kp), vs[i]? = some v → l[i]? = some k → KeptIn w v k

theorem SlK.next {w w' : World} {a : Option Addr} {n c : Nat} {vs : List (List Value)} {l : List Kp} (h : SlK w a n c vs l) (hb : Below w.heap.size w w') : SlK w' a n c vs l :=
  ⟨h.sl.next hb, h.len, fun i v k hv hk => (h.row i v k hv hk).next hb⟩

theorem SlK.nil (w : World) : SlK w none 0 0 [] [] := ⟨⟨rfl, Nat.le_refl _, by omega, fun _ => ⟨rfl, rfl⟩, fun i r h => by simp at h⟩, rfl, fun i v k h => by simp at h⟩

/-- An element: its two cells, and what it is. -/
theorem SlK.at {w : World} {a : Option Addr} {n c : Nat} {vs : List (List Value)} {l : List Kp} (h : SlK w a n c vs l) {i : Nat} (hi : i < n) :
    ∃ b o a1 c1 vals a2 c2, ∃ hx : i < l.length, a = some ⟨b, o, none⟩ ∧ b < w.heap.size ∧ w.cell? ⟨b, o + i * 2, none⟩ = some (.slice a1 l[i].1.length c1) ∧ w.cell? ⟨b, o + i * 2 + 1, none⟩ = some (.slice a2 l[i].2.length c2) ∧ Sl2 w a1 l[i].1.length c1 vals l[i].1 ∧ Sl w a2 l[i].2.length c2 (ints l[i].2) ∧ vs[i]? = some [.slice a1 l[i].1.length c1, .slice a2 l[i].2.length c2] := by
  have hl : i < l.length := by rw [h.len]; exact hi
  have hv : i < vs.length := by rw [h.sl.len]; exact hi
  obtain ⟨a1, c1, vals, a2, c2, e, h1, h2⟩ := h.row i _ _ (List.getElem?_eq_getElem hv) (List.getElem?_eq_getElem hl)
  obtain ⟨_, b, o, ha, hs, hc⟩ := h.sl.cell i _ (List.getElem?_eq_getElem hv)
  rw [e] at hc
  exact ⟨b, o, a1, c1, vals, a2, c2, hl, ha, hs, hc 0 _ rfl, hc 1 _ rfl, h1, h2, by rw [List.getElem?_eq_getElem hv, e]⟩

/-- A function value gives ps of the elements, and turns nothing that is there. -/
def Gives (w : World) (g : FuncId) (fs lb : Array Value) (l : List Kp) (ps : List Bool) : Prop :=
  ∀ W, Below w.heap.size w W → ∀ (i : Nat) (k : Kp) (a1 : Option Addr) (c1 : Nat) (vals : List Value) (a2 : Option Addr) (c2 : Nat) (b : Bool), l[i]? = some k → ps[i]? = some b → Sl2 W a1 k.1.length c1 vals k.1 → Sl W a2 k.2.length c2 (ints k.2) →
    Calls Try.prog g (fs.push (.agg #[.slice a1 k.1.length c1, .slice a2 k.2.length c2]) ++ lb) W fun e w' => e = .returned (.bool b) ∧ Below W.heap.size W w'

def Enters (g : FuncId) : Prop := ∀ args w, (callFunc g args).run Try.prog w = .ok (.enter g args) w

theorem idx_hit (ps : List Bool) (k : Nat) (h : ps[k]? = some true) : idx id (ps.drop k) k = k := by
  obtain ⟨hk, e⟩ := List.getElem?_eq_some_iff.1 h
  rw [List.drop_eq_getElem_cons hk]; unfold idx; rw [e]; rfl
theorem idx_miss (ps : List Bool) (k : Nat) (h : ps[k]? = some false) : idx id (ps.drop k) k = idx id (ps.drop (k + 1)) (k + 1) := by
  obtain ⟨hk, e⟩ := List.getElem?_eq_some_iff.1 h
  rw [List.drop_eq_getElem_cons hk]
  show (if id ps[k] = true then _ else _) = _
  rw [e]; rfl

set_option maxHeartbeats 1000000 in
theorem indexFunc (w : World) (a : Option Addr) (n c : Nat) (vs : List (List Value)) (l : List Kp) (g : FuncId) (fs lb : Array Value) (ps : List Bool)
    (hs : SlK w a n c vs l) (hps : ps.length = n) (eg : Enters g) (hg : Gives w g fs lb l ps) :
    Calls Try.prog 47 #[.slice a n c, .func (.func g) fs lb] w fun e w' => e = .returned (.int .i64 (idx id ps 0)) ∧ Below w.heap.size w w' := by
  have hcap := hs.sl.cap
  have hbig := hs.sl.big
  have HPS := Lib.hid hps
  have HG := Lib.hid hg
  have HS := Lib.hid hs
  clear hg hps hs
  unfold Enters at eg
  go_enter Try.func47, Try.ntmps47
  go_wp2
  go_loopw [5, 8] (fun _ i wr => ∃ k : Nat, k ≤ n ∧ i = .int .i64 k ∧ Below w.heap.size w wr ∧ Hid (idx id ps 0 = idx id (ps.drop k) k)) (fun _ i _ => n - (intOf i).toNat)
  case atStart => exact ⟨0, Nat.zero_le _, rfl, Below.refl _ _, rfl⟩
  case round =>
    obtain ⟨k, hk, rfl, hb, hI⟩ := hrel
    by_cases hlt : k < n
    · obtain ⟨b, o, a1, c1, vals, a2, c2, hx, rfl, hbs, d0, d1, hq1, hq2, _⟩ := (HS.out.next hb).at hlt
      have HV := Lib.hid (List.getElem?_eq_getElem hx)
      have HQ1 := Lib.hid hq1
      have HQ2 := Lib.hid hq2
      clear hq1 hq2
      generalize l[k] = t at *
      obtain ⟨q, hq⟩ : ∃ q, ps[k]? = some q := ⟨_, List.getElem?_eq_getElem (by have := HPS.out; omega)⟩
      have HQ := Lib.hid hq
      have HC := Lib.hid (HG.out wr hb k t a1 c1 vals a2 c2 q HV.out HQ.out HQ1.out HQ2.out)
      clear hq
      cases q
      all_goals
        go_wp2_with fail
        with_reducible refine HC.out.mono ?_
        rintro e w1 ⟨rfl, hb1⟩
        go_wp2_with fail
      · go_roundw
        case rel => exact ⟨k + 1, by omega, by go_num, hb.trans (hb1.mono hb.size), hI.out.trans (idx_miss ps k HQ.out)⟩
        case measure => simp [intOf]; omega
      · go_ret
        exact ⟨ret_int (by rw [hI.out, idx_hit ps k HQ.out]), hb.trans (hb1.mono hb.size)⟩
    · go_wp2
      go_ret
      exact ⟨ret_int (by rw [hI.out, List.drop_of_length_le (by rw [HPS.out]; omega)]; rfl), hb⟩

set_option maxHeartbeats 400000 in
theorem containsFunc (w : World) (a : Option Addr) (n c : Nat) (vs : List (List Value)) (l : List Kp) (g : FuncId) (fs lb : Array Value) (ps : List Bool)
    (hs : SlK w a n c vs l) (hps : ps.length = n) (eg : Enters g) (hg : Gives w g fs lb l ps) :
    Calls Try.prog 41 #[.slice a n c, .func (.func g) fs lb] w fun e w' => e = .returned (.bool (ps.any id)) ∧ Below w.heap.size w w' := by
  have H := Lib.hid (indexFunc w a n c vs l g fs lb ps hs hps eg hg)
  clear hg hs eg hps
  go_enter Try.func41, Try.ntmps41
  go_wp2_with fail
  refine H.out.mono ?_
  rintro e w1 ⟨rfl, hb1⟩
  generalize hq : idx id ps 0 = q
  have HQ := Lib.hid hq
  clear hq
  go_wp2_with fail
  go_ret
  exact ⟨ret_bool (by rw [← idx_nn id ps 0, HQ.out]), hb1⟩
end Keep
end Go.Proofs.Ytdpmfcfelncbeaa
