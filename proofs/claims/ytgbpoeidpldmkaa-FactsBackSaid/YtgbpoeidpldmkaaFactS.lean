/-
  A slice of facts as it lies in memory; slices.ContainsFunc of it; a table.
-/
import Derived.Test.YtgbpoeidpldmkaaTrip
import Derived.Test.YtgbpoeidpldmkaaFactP
import Derived.Test.YtgbpoeidpldmkaaBoxN
import Derived.Test.YtgbpoeidpldmkaaRowsK
import Derived.Shelf.Abstract
namespace Go.Proofs.Ytgbpoeidpldmkaa
open Go.RowKit Base
set_option linter.unusedVariables false
set_option linter.unusedSimpArgs false
namespace Fact

/-- The five cells of a fact. -/
def fcells (f : Fc) (a1 : Option Addr) (c1 : Nat) (a2 : Option Addr) (c2 : Nat) : List Value := [.int .i64 f.id, .int .i64 f.kind, .int .i64 f.depth, .slice a1 f.lits.length c1, .slice a2 f.tags.length c2]
/-- .. as a value. -/
def fagg (f : Fc) (a1 : Option Addr) (c1 : Nat) (a2 : Option Addr) (c2 : Nat) : Value := .agg #[.int .i64 f.id, .int .i64 f.kind, .int .i64 f.depth, .slice a1 f.lits.length c1, .slice a2 f.tags.length c2]

/-- A row of five cells is this fact. -/
def FcIn (w : World) (v : List Value) (f : Fc) : Prop := ∃ a1 c1 a2 c2, v = fcells f a1 c1 a2 c2 ∧ Sl w a1 f.lits.length c1 (ints f.lits) ∧ Sl w a2 f.tags.length c2 (ints f.tags)

theorem FcIn.next {w w' : World} {v : List Value} {f : Fc} (h : FcIn w v f) (hb : Below w.heap.size w w') : FcIn w' v f := by
  obtain ⟨a1, c1, a2, c2, rfl, h1, h2⟩ := h
  exact ⟨a1, c1, a2, c2, rfl, h1.next hb, h2.next hb⟩

/-- A slice of facts that can be read. -/
structure SlF (w : World) (a : Option Addr) (n c : Nat) (vs : List (List Value)) (l : List Fc) : Prop where
  sl : SlT w 5 a n c vs
  len : l.length = n
  row : ∀ (i : Nat) (v : List Value) (f : Fc), vs[i]? = some v → l[i]? = some f → FcIn w v f

theorem SlF.next {w w' : World} {a : Option Addr} {n c : Nat} {vs : List (List Value)} {l : List Fc} (h : SlF w a n c vs l) (hb : Below w.heap.size w w') : SlF w' a n c vs l :=
  ⟨h.sl.next hb, h.len, fun i v k hv hk => (h.row i v k hv hk).next hb⟩

theorem SlF.nil (w : World) : SlF w none 0 0 [] [] := ⟨⟨rfl, Nat.le_refl _, by omega, fun _ => ⟨rfl, rfl⟩, fun i r h => by simp at h⟩, rfl, fun i v k h => by simp at h⟩

theorem SlF.take {w : World} {a : Option Addr} {n c : Nat} {vs : List (List Value)} {l : List Fc} (h : SlF w a n c vs l) {k : Nat} (hk : k ≤ n) : SlF w a k c (vs.take k) (l.take k) := by
  refine ⟨⟨?_, Nat.le_trans hk h.sl.cap, h.sl.big, fun e => ?_, fun i r hr => ?_⟩, ?_, fun i v f hv hf => ?_⟩
  · rw [List.length_take, h.sl.len]; omega
  · have := h.sl.bare e; omega
  · rw [List.getElem?_take] at hr
    split at hr
    · exact h.sl.cell i r hr
    · cases hr
  · rw [List.length_take, h.len]; omega
  · rw [List.getElem?_take] at hv hf
    split at hv
    · rename_i hi
      rw [if_pos hi] at hf
      exact h.row i v f hv hf
    · cases hv

/-- An element: its cells, and what it is. -/
theorem SlF.at {w : World} {a : Option Addr} {n c : Nat} {vs : List (List Value)} {l : List Fc} (h : SlF w a n c vs l) {i : Nat} (hi : i < n) :
    ∃ b o a1 c1 a2 c2, ∃ hx : i < l.length, a = some ⟨b, o, none⟩ ∧ b < w.heap.size ∧
      (w.cell? ⟨b, o + i * 5, none⟩ = some (.int .i64 l[i].id) ∧ w.cell? ⟨b, o + i * 5 + 1, none⟩ = some (.int .i64 l[i].kind) ∧ w.cell? ⟨b, o + i * 5 + 2, none⟩ = some (.int .i64 l[i].depth) ∧ w.cell? ⟨b, o + i * 5 + 3, none⟩ = some (.slice a1 l[i].lits.length c1) ∧ w.cell? ⟨b, o + i * 5 + 4, none⟩ = some (.slice a2 l[i].tags.length c2)) ∧
      Sl w a1 l[i].lits.length c1 (ints l[i].lits) ∧ Sl w a2 l[i].tags.length c2 (ints l[i].tags) ∧ vs[i]? = some (fcells l[i] a1 c1 a2 c2) := by
  have hl : i < l.length := by rw [h.len]; exact hi
  have hv : i < vs.length := by rw [h.sl.len]; exact hi
  obtain ⟨a1, c1, a2, c2, e, h1, h2⟩ := h.row i _ _ (List.getElem?_eq_getElem hv) (List.getElem?_eq_getElem hl)
  obtain ⟨_, b, o, ha, hs, hc⟩ := h.sl.cell i _ (List.getElem?_eq_getElem hv)
  rw [e] at hc
  exact ⟨b, o, a1, c1, a2, c2, hl, ha, hs, ⟨hc 0 _ rfl, hc 1 _ rfl, hc 2 _ rfl, hc 3 _ rfl, hc 4 _ rfl⟩, h1, h2, by rw [List.getElem?_eq_getElem hv, e]⟩

/-- A function value gives ps of the elements, and turns nothing that is there. -/
def Gives (w : World) (g : FuncId) (fs lb : Array Value) (l : List Fc) (ps : List Bool) : Prop :=
  ∀ W, Below w.heap.size w W → ∀ (i : Nat) (f : Fc) (a1 : Option Addr) (c1 : Nat) (a2 : Option Addr) (c2 : Nat) (b : Bool), l[i]? = some f → ps[i]? = some b → Sl W a1 f.lits.length c1 (ints f.lits) → Sl W a2 f.tags.length c2 (ints f.tags) →
    Calls Try.prog g (fs.push (fagg f a1 c1 a2 c2) ++ lb) W fun e w' => e = .returned (.bool b) ∧ Below W.heap.size W w'

def Enters (g : FuncId) : Prop := ∀ args w, (callFunc g args).run Try.prog w = .ok (.enter g args) w

theorem idx_hit (ps : List Bool) (k : Nat) (h : ps[k]? = some true) : idx id (ps.drop k) k = k := by
  obtain ⟨hk, e⟩ := List.getElem?_eq_some_iff.1 h
  rw [List.drop_eq_getElem_cons hk]; unfold idx; rw [e]; rfl
theorem idx_miss (ps : List Bool) (k : Nat) (h : ps[k]? = some false) : idx id (ps.drop k) k = idx id (ps.drop (k + 1)) (k + 1) := by
  obtain ⟨hk, e⟩ := List.getElem?_eq_some_iff.1 h
  rw [List.drop_eq_getElem_cons hk]
  show (if id ps[k] = true then _ else _) = _
  rw [e]; rfl

set_option maxHeartbeats 1000000 in
theorem indexFunc (w : World) (a : Option Addr) (n c : Nat) (vs : List (List Value)) (l : List Fc) (g : FuncId) (fs lb : Array Value) (ps : List Bool)
    (hs : SlF w a n c vs l) (hps : ps.length = n) (eg : Enters g) (hg : Gives w g fs lb l ps) :
    Calls Try.prog 23 #[.slice a n c, .func (.func g) fs lb] w fun e w' => e = .returned (.int .i64 (idx id ps 0)) ∧ Below w.heap.size w w' := by
  have hcap := hs.sl.cap
  have hbig := hs.sl.big
  have HPS := Lib.hid hps
  have HG := Lib.hid hg
  have HS := Lib.hid hs
  clear hg hps hs
  unfold Enters at eg
  go_enter Try.func23, Try.ntmps23
  go_wp2
  go_loopw [5, 8] (fun _ i wr => ∃ k : Nat, k ≤ n ∧ i = .int .i64 k ∧ Below w.heap.size w wr ∧ Hid (idx id ps 0 = idx id (ps.drop k) k)) (fun _ i _ => n - (intOf i).toNat)
  case atStart => exact ⟨0, Nat.zero_le _, rfl, Below.refl _ _, rfl⟩
  case round =>
    obtain ⟨k, hk, rfl, hb, hI⟩ := hrel
    by_cases hlt : k < n
    · obtain ⟨b, o, a1, c1, a2, c2, hx, rfl, hbs, ⟨d0, d1, d2, d3, d4⟩, hq1, hq2, _⟩ := (HS.out.next hb).at hlt
      have HV := Lib.hid (List.getElem?_eq_getElem hx)
      have HQ1 := Lib.hid hq1
      have HQ2 := Lib.hid hq2
      clear hq1 hq2
      generalize l[k] = t at *
      obtain ⟨q, hq⟩ : ∃ q, ps[k]? = some q := ⟨_, List.getElem?_eq_getElem (by have := HPS.out; omega)⟩
      have HQ := Lib.hid hq
      have HC := HG.out wr hb k t a1 c1 a2 c2 q HV.out HQ.out HQ1.out HQ2.out
      unfold fagg at HC
      have HC := Lib.hid HC
      clear hq
      cases q
      all_goals
        go_wp2_with fail
        with_reducible refine HC.out.mono ?_
        rintro e w1 ⟨rfl, hb1⟩
        go_wp2_with fail
      · go_roundw
        case rel => exact ⟨k + 1, by omega, by go_num, hb.trans (hb1.mono hb.size), hI.out.trans (idx_miss ps k HQ.out)⟩
        case measure => simp [intOf]; omega
      · go_ret
        exact ⟨ret_int (by rw [hI.out, idx_hit ps k HQ.out]), hb.trans (hb1.mono hb.size)⟩
    · go_wp2
      go_ret
      exact ⟨ret_int (by rw [hI.out, List.drop_of_length_le (by rw [HPS.out]; omega)]; rfl), hb⟩

set_option maxHeartbeats 400000 in
theorem containsFunc (w : World) (a : Option Addr) (n c : Nat) (vs : List (List Value)) (l : List Fc) (g : FuncId) (fs lb : Array Value) (ps : List Bool)
    (hs : SlF w a n c vs l) (hps : ps.length = n) (eg : Enters g) (hg : Gives w g fs lb l ps) :
    Calls Try.prog 16 #[.slice a n c, .func (.func g) fs lb] w fun e w' => e = .returned (.bool (ps.any id)) ∧ Below w.heap.size w w' := by
  have H := Lib.hid (indexFunc w a n c vs l g fs lb ps hs hps eg hg)
  clear hg hs eg hps
  go_enter Try.func16, Try.ntmps16
  go_wp2_with fail
  refine H.out.mono ?_
  rintro e w1 ⟨rfl, hb1⟩
  generalize hq : idx id ps 0 = q
  have HQ := Lib.hid hq
  clear hq
  go_wp2_with fail
  go_ret
  exact ⟨ret_bool (by rw [← idx_nn id ps 0, HQ.out]), hb1⟩

/-! ### In memory of one's own. -/
def FcOwn (w : World) (B : Nat) (v : List Value) (f : Fc) : Prop := ∃ a1 c1 a2 c2, v = fcells f a1 c1 a2 c2 ∧ w.ownsRow B 3 1 (.slice a1 f.lits.length c1) f.lits.length (ints f.lits) ∧ w.ownsRow B 3 1 (.slice a2 f.tags.length c2) f.tags.length (ints f.tags)

structure FOwn (w : World) (B : Nat) (a : Option Addr) (n c : Nat) (vs : List (List Value)) (l : List Fc) : Prop where
  outer : w.ownsRow B 31 5 (.slice a n c) n vs.flatten
  five : ∀ r ∈ vs, r.length = 5
  vlen : vs.length = n
  len : l.length = n
  row : ∀ (i : Nat) (v : List Value) (f : Fc), vs[i]? = some v → l[i]? = some f → FcOwn w B v f

theorem own_slI {w : World} {B : Nat} {e : TypeId} {a : Option Addr} {n c : Nat} {vs : List Value} (h : w.ownsRow B e 1 (.slice a n c) n vs) : Sl w a n c vs := by
  obtain ⟨a', c', hv, hs⟩ := own_sl h
  simp only [Value.slice.injEq, true_and] at hv
  obtain ⟨rfl, rfl⟩ := hv
  exact hs

theorem FcOwn.inn {w : World} {B : Nat} {v : List Value} {f : Fc} (h : FcOwn w B v f) : FcIn w v f := by
  obtain ⟨a1, c1, a2, c2, rfl, h1, h2⟩ := h
  exact ⟨a1, c1, a2, c2, rfl, own_slI h1, own_slI h2⟩
theorem FcOwn.next {w w' : World} {B : Nat} {v : List Value} {f : Fc} (h : FcOwn w B v f) (hb : Below w.heap.size w w') : FcOwn w' B v f := by
  obtain ⟨a1, c1, a2, c2, rfl, h1, h2⟩ := h
  exact ⟨a1, c1, a2, c2, rfl, own_next h1 hb, own_next h2 hb⟩
theorem FcOwn.mono {w : World} {B B' : Nat} {v : List Value} {f : Fc} (h : FcOwn w B v f) (hB : B' ≤ B) : FcOwn w B' v f := by
  obtain ⟨a1, c1, a2, c2, rfl, h1, h2⟩ := h
  exact ⟨a1, c1, a2, c2, rfl, own_mono h1 hB, own_mono h2 hB⟩
theorem FcOwn.kept {w w1 : World} {B B2 : Nat} {v : List Value} {f : Fc} (h : FcOwn w B v f) {u : Value} {n : Nat} {xs : List Value} (ho : w.ownsRow B2 31 5 u n xs) (hg : w.grownBy w1 u.ownBlock) : FcOwn w1 B v f := by
  obtain ⟨a1, c1, a2, c2, rfl, h1, h2⟩ := h
  exact ⟨a1, c1, a2, c2, rfl, h1.kept hg (own_apart h1 ho (by decide)), h2.kept hg (own_apart h2 ho (by decide))⟩
/-- A cell of a box below is written. -/
theorem FcOwn.set {w : World} {B : Nat} {v : List Value} {f : Fc} (h : FcOwn w B v f) {p : Addr} (hp : p.block < B) (u : Value) : FcOwn (w.setCell p u) B v f := by
  obtain ⟨a1, c1, a2, c2, rfl, h1, h2⟩ := h
  exact ⟨a1, c1, a2, c2, rfl, ownsRow_setCell_below h1 hp u, ownsRow_setCell_below h2 hp u⟩

theorem FOwn.slF {w : World} {B : Nat} {a : Option Addr} {n c : Nat} {vs : List (List Value)} {l : List Fc} (h : FOwn w B a n c vs l) : SlF w a n c vs l := by
  obtain ⟨a', c', hv, hs⟩ := own_slT (by decide) h.five h.vlen h.outer
  simp only [Value.slice.injEq, true_and] at hv
  obtain ⟨rfl, rfl⟩ := hv
  exact ⟨hs, h.len, fun i v k hv hk => (h.row i v k hv hk).inn⟩
theorem FOwn.nil (w : World) (B : Nat) : FOwn w B none 0 0 [] [] := ⟨World.ownsRow_nil _ _ _ _, by simp, rfl, rfl, fun i v k h => by simp at h⟩
theorem FOwn.next {w w' : World} {B : Nat} {a : Option Addr} {n c : Nat} {vs : List (List Value)} {l : List Fc} (h : FOwn w B a n c vs l) (hb : Below w.heap.size w w') : FOwn w' B a n c vs l :=
  ⟨own_next h.outer hb, h.five, h.vlen, h.len, fun i v k hv hk => (h.row i v k hv hk).next hb⟩
theorem FOwn.mono {w : World} {B B' : Nat} {a : Option Addr} {n c : Nat} {vs : List (List Value)} {l : List Fc} (h : FOwn w B a n c vs l) (hB : B' ≤ B) : FOwn w B' a n c vs l :=
  ⟨own_mono h.outer hB, h.five, h.vlen, h.len, fun i v k hv hk => (h.row i v k hv hk).mono hB⟩
theorem FOwn.set {w : World} {B : Nat} {a : Option Addr} {n c : Nat} {vs : List (List Value)} {l : List Fc} (h : FOwn w B a n c vs l) {p : Addr} (hp : p.block < B) (u : Value) : FOwn (w.setCell p u) B a n c vs l :=
  ⟨ownsRow_setCell_below h.outer hp u, h.five, h.vlen, h.len, fun i v k hv hk => (h.row i v k hv hk).set hp u⟩

theorem FOwn.push {w w1 : World} {B : Nat} {a : Option Addr} {n c : Nat} {vs : List (List Value)} {l : List Fc} (h : FOwn w B a n c vs l) {v : List Value} {f : Fc} (hv : FcOwn w B v f) {a' : Option Addr} {c' : Nat} (hown : w1.ownsRow B 31 5 (.slice a' (n + 1) c') (n + 1) (vs ++ [v]).flatten) (hg : w.grownBy w1 (.slice a n c : Value).ownBlock) : FOwn w1 B a' (n + 1) c' (vs ++ [v]) (l ++ [f]) := by
  have h2 : v.length = 5 := by obtain ⟨_, _, _, _, rfl, _⟩ := hv; rfl
  refine ⟨hown, fun r hr => ?_, by rw [List.length_append, h.vlen]; rfl, by rw [List.length_append, h.len]; rfl, fun i u y hu hy => ?_⟩
  · rcases List.mem_append.1 hr with hr | hr
    · exact h.five r hr
    · rw [List.mem_singleton] at hr; rw [hr]; exact h2
  · by_cases hin : i < n
    · rw [List.getElem?_append_left (by rw [h.vlen]; exact hin)] at hu
      rw [List.getElem?_append_left (by rw [h.len]; exact hin)] at hy
      exact (h.row i u y hu hy).kept h.outer hg
    · rw [List.getElem?_append_right (by rw [h.vlen]; omega)] at hu
      rw [List.getElem?_append_right (by rw [h.len]; omega)] at hy
      have e : i - vs.length = 0 := by
        have := (List.getElem?_eq_some_iff.1 hu).1
        simpa using this
      rw [e] at hu
      rw [h.len, ← h.vlen, e] at hy
      simp only [List.getElem?_cons_zero, Option.some.injEq] at hu hy
      subst hu; subst hy
      exact hv.kept h.outer hg

/-- A table as a value. -/
def tagg (t : Tb) (a : Option Addr) (c : Nat) : Value := .agg #[.int .i64 t.next, .int .i64 t.depth, .slice a t.facts.length c]

/-- Facts that can be made anew. -/
def Fit (l : List Fc) : Prop := ∀ f ∈ l, f.lits.length * 8 ≤ 140737488355328 ∧ f.tags.length * 8 ≤ 140737488355328
end Fact
end Go.Proofs.Ytgbpoeidpldmkaa
