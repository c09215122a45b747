/-
  Several texts in one (written by merge2.py): XCoiSet XOffB XCoiAdd XCloneR XConcatI XCoiCnt XCloneLA XRowsK XDelN XSlfL XDelL XSlfA XDelA XCoiRed XSortedN XPlainInts XCoiNeed XCoiAlive XCoiNeedNo XEqR XSameR XTellsNo XHeldTo XHeldBr
-/
import Derived.Test.YtninglnchengeaaGreatCoiTellsM1
import Derived.Maps.OwnSet
import Derived.Test.YtninglnchengeaaGreatLaws
import Derived.Lib.AppendZerosOnto
import Derived.Lib.AppendZeros
import Derived.Test.YtninglnchengeaaGreatWfC
import Derived.Deep.DeepCutAuto
import Derived.Lib.SliceRun
import Derived.Test.YtninglnchengeaaGreatSlfI
import Derived.Test.YtninglnchengeaaGreatCirc
import Derived.Shelf.Abstract
import Derived.Shelf.SlIterI.Nil
import Derived.Shelf.SortM.Plain
import Derived.Shelf.SortM.SortNone
import Derived.Ground.GgzProg
import Derived.Ground.SlgmProg
import Derived.Deep.QuietTactic
import Derived.BigQuiet
import Derived.Test.YtninglnchengeaaGreatCBox
import Derived.Test.YtninglnchengeaaGreatLex
import Derived.OrdersHeld
import Derived.Tactics
import Derived.Test.YtninglnchengeaaGreatBase
/-
  coi.needs in memory: a map[int]bool of the call's own: looked up, stored into, counted.
-/
namespace Go.Proofs.YtninglnchengeaaGreat
open Go.RowKit Base Go.Maps
set_option linter.unusedVariables false
set_option linter.unusedSimpArgs false
namespace Coi
open Circuit SetI

def ins (X : List Int) (y : Int) : List Int := if inX X y = true then X else X ++ [y]
theorem ins_nodup {X : List Int} (h : X.Nodup) (y : Int) : (ins X y).Nodup := by
  unfold ins
  split
  · exact h
  · rename_i hy
    rw [List.nodup_append]
    exact ⟨h, by simp, fun a ha b hb e => by rw [List.mem_singleton] at hb; subst hb; exact hy (inX_iff.2 (e ▸ ha))⟩
theorem ins_mem {X : List Int} {y v : Int} : v ∈ ins X y ↔ v ∈ X ∨ v = y := by
  unfold ins
  split
  · rename_i hy
    constructor
    · exact Or.inl
    · rintro (h | rfl)
      · exact h
      · exact inX_iff.1 hy
  · simp

theorem keys_old {D : DataW Unit} {X : List Int} (h : KeysAre D X) (hn : X.Nodup) {y : Int} (hy : y ∈ X) (d : DataW Unit) : KeysAre (D.put (.int .i64 y) d) X := by
  obtain ⟨es, rfl, hk, hp⟩ := h
  have hkk : ∀ p ∈ es, ∃ x, p.1 = .int .i64 x := hk
  have hf : ∀ (l : List (Lit × DataW Unit)), (∀ p ∈ l, ∃ x, p.1 = .int .i64 x) → ((l.filter fun p => !p.1.sameKey (.int .i64 y)).map fun p => Go.intOf p.1) = (l.map fun p => Go.intOf p.1).filter (fun x => decide (x ≠ y)) := by
    intro l hl
    induction l with
    | nil => rfl
    | cons p r ih =>
      obtain ⟨x, hx⟩ := hl p List.mem_cons_self
      have ihr := ih fun q hq => hl q (List.mem_cons_of_mem _ hq)
      have hi : Go.intOf p.1 = x := by rw [hx]; rfl
      rw [List.filter_cons, List.map_cons, List.filter_cons, hi, hx]
      by_cases e : x = y
      · subst e
        have h1 : (!(Lit.int .i64 x).sameKey (.int .i64 x)) = false := by simp [Lit.sameKey]
        rw [h1, if_neg (by simp), if_neg (by simp)]
        exact ihr
      · have h1 : (!(Lit.int .i64 x).sameKey (.int .i64 y)) = true := by simp [Lit.sameKey, e]
        rw [h1, if_pos rfl, if_pos (by simpa using e), List.map_cons, hi, ihr]
  unfold DataW.put
  refine ⟨_, rfl, fun p hpm => ?_, ?_⟩
  · have := (insert_perm _ _).subset hpm
    rw [List.mem_cons] at this
    rcases this with rfl | hm
    · exact ⟨y, rfl⟩
    · exact hk p (List.mem_filter.1 hm).1
  · have h1 : (Go.intKeys (.map (DataW.insert (.int .i64 y, d) (es.filter fun p => !p.1.sameKey (.int .i64 y))))).Perm (y :: Go.intKeys (.map (es.filter fun p => !p.1.sameKey (.int .i64 y)))) := by
      unfold Go.intKeys
      exact (insert_perm (.int .i64 y, d) _).map _
    refine h1.trans ?_
    have hf' : Go.intKeys (.map (es.filter fun p => !p.1.sameKey (.int .i64 y))) = (Go.intKeys (.map es)).filter fun x => decide (x ≠ y) := hf es hk
    rw [hf']
    have h2 : ((Go.intKeys (.map es)).filter fun x => decide (x ≠ y)).Perm (X.filter fun x => decide (x ≠ y)) := hp.filter _
    refine (List.Perm.cons y h2).trans ?_
    have h3 : X.filter (fun x => decide (x ≠ y)) = X.erase y := by
      rw [hn.erase_eq_filter]
      congr 1
      funext x
      by_cases e : x = y <;> simp [e]
    rw [h3]
    exact (List.perm_cons_erase hy).symm

theorem set_ins {D : DataW Unit} {X : List Int} (hm : IsMap D) (hat : ∀ x, SetI.I64 x → D.atKey (.int .i64 x) (.lit (.bool false)) = .lit (.bool (inX X x))) (hk : KeysAre D X) (hn : X.Nodup) (y : Int) :
    IsMap (D.put (.int .i64 y) (.lit (.bool true))) ∧ (∀ x, SetI.I64 x → (D.put (.int .i64 y) (.lit (.bool true))).atKey (.int .i64 x) (.lit (.bool false)) = .lit (.bool (inX (ins X y) x))) ∧ KeysAre (D.put (.int .i64 y) (.lit (.bool true))) (ins X y) := by
  obtain ⟨h1, h2⟩ := set_put hm hat y
  unfold ins
  by_cases hy : inX X y = true
  · rw [if_pos hy]
    refine ⟨h1, fun x hx => ?_, keys_old hk hn (inX_iff.1 hy) _⟩
    rw [h2 x hx]
    congr 2
    rw [Bool.eq_iff_iff, inX_iff, inX_iff, List.mem_append, List.mem_singleton]
    constructor
    · rintro (h | rfl)
      · exact h
      · exact inX_iff.1 hy
    · exact Or.inl
  · rw [if_neg hy]
    exact ⟨h1, h2, keys_put hk (fun h => hy (inX_iff.2 h)) _⟩

theorem look (w : World) {b n : Nat} {X : List Int} (h : SetK w b n X) {x : Int} (hx : SetI.I64 x) :
    (Instr.lookup 54 (.map (some b)) (.int .i64 x) false).run Tryz.prog w = .ok (.bool (inX X x)) w := by
  obtain ⟨D, ho, _, hat, _⟩ := h
  obtain ⟨v, ps, hrun, hv⟩ := ho.lookup law Tryz.underlying54 (zeroE w) (plainElem_bool Tryz.underlying4 false) (keyOf_int_mk Tryz.underlying3 (wf_lit hx))
  obtain ⟨y, rfl, hz⟩ := bool_inv Tryz.underlying4 hv
  simp only [Prod.mk.injEq] at hz
  have := hz.1.symm.trans (hat x hx)
  simp only [DataW.lit.injEq, Lit.bool.injEq] at this
  rw [hrun, this]
theorem store {w : World} {b n : Nat} {X : List Int} (h : SetK w b n X) (hnd : X.Nodup) {x : Int} (hx : SetI.I64 x) (hn : n < 9223372036854775807) :
    ∃ w', (Instr.mapUpdate 54 (.map (some b)) (.int .i64 x) (.bool true)).run Tryz.prog w = .ok () w' ∧ SetK w' b (n + 1) (ins X x) ∧ w.grownBy w' (some b) := by
  obtain ⟨D, ho, hm, hat, hk⟩ := h
  obtain ⟨w', hrun, ho', hg⟩ := ho.update law Tryz.underlying54 (by unfold maxLen; omega) (keyOf_int_mk Tryz.underlying3 (wf_lit hx)) (plainElem_bool Tryz.underlying4 true)
  obtain ⟨h1, h2, h3⟩ := set_ins hm hat hk hnd x
  exact ⟨w', hrun, ⟨_, ho', h1, h2, h3⟩, hg⟩
theorem len (w : World) {b n : Nat} {X : List Int} (h : SetK w b n X) (ty : TypeId) : (Builtin.len_ #[54] ty #[.map (some b)]).run Tryz.prog w = .ok (.int .i64 X.length) w := by
  obtain ⟨D, ho, _, _, hk⟩ := h
  rw [ho.len Tryz.underlying54 ty, keys_size hk]
/-- Its size is the bound. -/
theorem tight {w : World} {b n : Nat} {X : List Int} (h : SetK w b n X) : SetK w b X.length X := by
  obtain ⟨D, ⟨es, cl, hh, hf, hsz, hD⟩, hm, hat, hk⟩ := h
  have hs := keys_size hk
  refine ⟨D, ⟨es, cl, hh, hf, ?_, hD⟩, hm, hat, hk⟩
  rw [← hs, hD]
  unfold Maps.size
  simp [length_sorted]
theorem made (w : World) : SetK (w.alloc (.map #[] 0)) w.heap.size 0 [] :=
  ⟨.map [], World.ownsMap_made _ _ _ _, ⟨_, rfl⟩, fun x _ => by simp [DataW.atKey, inX], keys_nil⟩
theorem SetK_kept {w w' : World} {b n : Nat} {X : List Int} (h : SetK w b n X) {row : Option Nat} (hg : w.grownBy w' row) (hne : some b ≠ row) : SetK w' b n X := by
  obtain ⟨D, ho, r⟩ := h
  exact ⟨D, ho.kept hg hne, r⟩
end Coi
end Go.Proofs.YtninglnchengeaaGreat

/-
  What stays when one block is written.
-/
namespace Go.Proofs.YtninglnchengeaaGreat
open Go.RowKit Base Go.Maps
set_option linter.unusedVariables false
set_option linter.unusedSimpArgs false
namespace StrashP
open Circuit

/-- w2 is as w, but for one block. -/
structure OffB (b : Nat) (w w2 : World) : Prop where
  os : w2.os = w.os
  tape : w2.tape = w.tape
  output : w2.output = w.output
  size : w.heap.size ≤ w2.heap.size
  block : ∀ k, k < w.heap.size → k ≠ b → w2.heap[k]? = w.heap[k]?

theorem OffB.refl (b : Nat) (w : World) : OffB b w w := ⟨rfl, rfl, rfl, Nat.le_refl _, fun _ _ _ => rfl⟩
theorem OffB.trans {b : Nat} {w1 w2 w3 : World} (h : OffB b w1 w2) (h2 : OffB b w2 w3) : OffB b w1 w3 :=
  ⟨h2.os.trans h.os, h2.tape.trans h.tape, h2.output.trans h.output, Nat.le_trans h.size h2.size, fun k hk hne => (h2.block k (Nat.lt_of_lt_of_le hk h.size) hne).trans (h.block k hk hne)⟩
theorem OffB.below {b : Nat} {w w2 w3 : World} (h : OffB b w w2) (hb : Below w2.heap.size w2 w3) : OffB b w w3 :=
  ⟨hb.os.trans h.os, hb.tape.trans h.tape, hb.output.trans h.output, Nat.le_trans h.size hb.size, fun k hk hne => (hb.block k (Nat.lt_of_lt_of_le hk h.size)).trans (h.block k hk hne)⟩
theorem OffB.set {b : Nat} {w w2 : World} (h : OffB b w w2) (j : Nat) (u : Value) : OffB b w (w2.setCell ⟨b, j, none⟩ u) :=
  ⟨h.os, h.tape, h.output, by simpa [World.setCell] using h.size, fun k hk hne => (Below.heap_setCell w2 ⟨b, j, none⟩ u k hne).trans (h.block k hk hne)⟩
theorem OffB.grown {b : Nat} {w w2 w3 : World} (h : OffB b w w2) {row : Option Nat} (hg : w2.grownBy w3 row) (hr : ∀ k, row = some k → w.heap.size ≤ k) : OffB b w w3 :=
  ⟨hg.os.trans h.os, hg.tape.trans h.tape, hg.output.trans h.output, Nat.le_trans h.size hg.size, fun k hk hne => (hg.block k (Nat.lt_of_lt_of_le hk h.size) (fun e => by have := hr k e.symm; omega)).trans (h.block k hk hne)⟩
theorem OffB.put {b : Nat} {w w2 w3 : World} (h : OffB b w w2) (hg : w2.grownBy w3 (some b)) : OffB b w w3 :=
  ⟨hg.os.trans h.os, hg.tape.trans h.tape, hg.output.trans h.output, Nat.le_trans h.size hg.size, fun k hk hne => (hg.block k (Nat.lt_of_lt_of_le hk h.size) (by simpa using hne)).trans (h.block k hk hne)⟩
theorem OffB.own {b : Nat} {w w2 : World} (h : OffB b w w2) {B : Nat} {e : TypeId} {size : Nat} {v : Value} {n : Nat} {vs : List Value} (ho : w.ownsRow B e size v n vs) (hne : v.ownBlock ≠ some b) : w2.ownsRow B e size v n vs := by
  refine ⟨ho.1, ?_⟩
  rcases ho.2 with hn | ⟨g, cap, cur, hv, hb, hh, r⟩
  · exact .inl hn
  · refine .inr ⟨g, cap, cur, hv, hb, ?_, r⟩
    rw [h.block g (Array.getElem?_eq_some_iff.1 hh).1 (by rintro rfl; exact hne (by rw [hv]; rfl))]
    exact hh
theorem OffB.base {b : Nat} {w w2 : World} (h : OffB b w w2) {B : Nat} {w0 : World} (h0 : Below B w0 w) (hB : B ≤ w.heap.size) (hb : B ≤ b) : Below B w0 w2 :=
  ⟨h.os.trans h0.os, h.tape.trans h0.tape, h.output.trans h0.output, Nat.le_trans h0.size h.size, fun k hk => (h.block k (by omega) (by omega)).trans (h0.block k hk)⟩
theorem OffB.box {b : Nat} {w w2 : World} (h : OffB b w w2) {N : Nat} {cs : List Value} (hx : BoxN N cs w) (hne : N ≠ b) : BoxN N cs w2 := by
  have hblk := h.block N hx.lt hne
  refine ⟨Nat.lt_of_lt_of_le hx.lt h.size, fun j u hu => ?_, fun j => ?_⟩
  · exact (World.cell?_of_block (w := w) (a := ⟨N, j, none⟩) hblk).trans (hx.at' j u hu)
  · exact (World.frozen?_of_block (w := w) (a := ⟨N, j, none⟩) hblk).trans (hx.fz j)
theorem OffB.seti {b : Nat} {w w2 : World} (h : OffB b w w2) {m n : Nat} {X : List Int} (hx : SetI.SetIs w m n X) (hne : m ≠ b) : SetI.SetIs w2 m n X := by
  obtain ⟨D, ⟨es, cl, hh, r⟩, hm, hat⟩ := hx
  exact ⟨D, ⟨es, cl, (h.block m (Array.getElem?_eq_some_iff.1 hh).1 hne).trans hh, r⟩, hm, hat⟩
theorem own_not {w : World} {B : Nat} {e : TypeId} {size : Nat} {v : Value} {n : Nat} {vs : List Value} (h : w.ownsRow B e size v n vs) {N : Nat} (hN : w.heap.size ≤ N) : v.ownBlock ≠ some N := by
  intro e
  have := (h.lt N e).2
  omega
theorem own_not' {w : World} {B : Nat} {e : TypeId} {size : Nat} {v : Value} {n : Nat} {vs : List Value} (h : w.ownsRow B e size v n vs) {N : Nat} (hN : N < B) : v.ownBlock ≠ some N := by
  intro e
  have := (h.lt N e).1
  omega

end StrashP
end Go.Proofs.YtninglnchengeaaGreat

/-
  coi.needs.has, add.
-/
namespace Go.Proofs.YtninglnchengeaaGreat
open Go.RowKit Base Go.Maps
set_option linter.unusedVariables false
set_option linter.unusedSimpArgs false
namespace Coi
open Circuit SetI StrashP

theorem var_i64 {l : Int} (h0 : -9223372036854775808 ≤ l) (h1 : l ≤ 9223372036854775807) : SetI.I64 (var l) := by unfold SetI.I64 var; omega

set_option maxHeartbeats 1000000 in
theorem has_any (w : World) {b n : Nat} {X : List Int} (h : SetK w b n X) (l : Int) (h0 : -9223372036854775808 ≤ l) (h1 : l ≤ 9223372036854775807) :
    Calls Tryz.prog 24 #[.map (some b), .int .i64 l] w fun e w' => e = .returned (.bool (inX X (var l))) ∧ w = w' := by
  have hl := look w h (var_i64 h0 h1)
  have VA := Lib.hid (var_any l h0 h1 w)
  generalize var l = v at *
  generalize inX X v = q at *
  clear h
  go_enter Tryz.func24, Tryz.ntmps24
  go_wp2_with fail
  with_reducible refine VA.out.mono ?_
  rintro e w2 ⟨rfl, rfl⟩
  go_wp2_with fail
  go_ret
  exact ⟨rfl, rfl⟩

def insAll (X T : List Int) : List Int := T.foldl ins X
theorem insAll_snoc (X T : List Int) (y : Int) : insAll X (T ++ [y]) = ins (insAll X T) y := by unfold insAll; rw [List.foldl_append]; rfl
theorem insAll_nodup (X T : List Int) (h : X.Nodup) : (insAll X T).Nodup := by
  induction T generalizing X with
  | nil => exact h
  | cons y r ih => exact ih _ (ins_nodup h y)
theorem insAll_mem (X T : List Int) (v : Int) : v ∈ insAll X T ↔ v ∈ X ∨ v ∈ T := by
  induction T generalizing X with
  | nil => simp [insAll]
  | cons y r ih =>
    show v ∈ insAll (ins X y) r ↔ _
    rw [ih, ins_mem, List.mem_cons]
    constructor
    · rintro ((h | h) | h)
      · exact Or.inl h
      · exact Or.inr (Or.inl h)
      · exact Or.inr (Or.inr h)
    · rintro (h | h | h)
      · exact Or.inl (Or.inl h)
      · exact Or.inl (Or.inr h)
      · exact Or.inr h
theorem ins_len (X : List Int) (y : Int) : X.length ≤ (ins X y).length ∧ (ins X y).length ≤ X.length + 1 := by
  unfold ins
  split
  · omega
  · simp
theorem insAll_len (X T : List Int) : X.length ≤ (insAll X T).length ∧ (insAll X T).length ≤ X.length + T.length := by
  induction T generalizing X with
  | nil => simp [insAll]
  | cons y r ih =>
    have h1 := ins_len X y
    have h2 := ih (ins X y)
    have e : insAll X (y :: r) = insAll (ins X y) r := rfl
    rw [e, List.length_cons]
    omega
/-- If it has not grown, nothing was new. -/
theorem insAll_same (X T : List Int) (h : (insAll X T).length ≤ X.length) : ∀ v ∈ T, v ∈ X := by
  induction T generalizing X with
  | nil => intro v hv; cases hv
  | cons y r ih =>
    have h1 := ins_len X y
    have h2 := insAll_len (ins X y) r
    have e : insAll X (y :: r) = insAll (ins X y) r := rfl
    rw [e] at h
    have hy : y ∈ X := by
      have : (ins X y).length = X.length := by omega
      unfold ins at this
      split at this
      · rename_i hq; exact inX_iff.1 hq
      · simp at this
    have hi : ins X y = X := by unfold ins; rw [if_pos (inX_iff.2 hy)]
    rw [hi] at h
    intro v hv
    rcases List.mem_cons.1 hv with rfl | hv
    · exact hy
    · exact ih X h v hv

theorem insAll_id (X T : List Int) (h : ∀ v ∈ T, v ∈ X) : insAll X T = X := by
  induction T with
  | nil => rfl
  | cons y r ih =>
    show insAll (ins X y) r = X
    have hi : ins X y = X := by unfold ins; rw [if_pos (inX_iff.2 (h y List.mem_cons_self))]
    rw [hi]
    exact ih fun v hv => h v (List.mem_cons_of_mem _ hv)

/-- What add leaves. -/
def AddOut (w : World) (b : Nat) (x : Circ) (l X : List Int) (e : Ending) (w' : World) : Prop :=
  ∃ X2, e = .returned (.bool (decide (X.length < X2.length))) ∧ SetK w' b X2.length X2 ∧ Adds x l X X2 ∧ (X2.length ≤ X.length → X2 = X ∧ ∀ v, v ≠ 0 → Rch x.ands l v → v ∈ X) ∧ OffB b w w'

set_option maxRecDepth 8000 in
set_option maxHeartbeats 4000000 in
theorem add_any (w : World) (x : Circ) (p : At) (hin : InCirc w x p) (hwa : WfT x.ands) {b : Nat} {X : List Int} (hset : SetK w b X.length X) (hnd : X.Nodup) (a : Option Addr) (c : Nat) (l : List Int) (hsl : Sl w a l.length c (ints l)) (hl : ∀ y ∈ l, Circuit.I64 y)
    (hsz : (2 * l.length + 2 * x.ands.length + 2) * 8 ≤ 140737488355328) (hX : X.length ≤ 1099511627776000) :
    Calls Tryz.prog 49 #[.map (some b), .agg (cells x p), .slice a l.length c] w (AddOut w b x l X) := by
  obtain ⟨W1, hW1⟩ : ∃ W1, w.alloc (.cells (cells x p) 27) = W1 := ⟨_, rfl⟩
  obtain ⟨hb1, hc1⟩ := cbox_new w x p W1 hW1
  have hset1 := hset.next hb1
  have hlen1 := fun ty => len W1 hset1 ty
  have HCO := Lib.hid (cone_any W1 x p (hin.next hb1) hwa a c l (hsl.next hb1) hl hsz)
  have HB1 := Lib.hid hb1
  have HSET := Lib.hid hset1
  have HND := Lib.hid hnd
  have HXL := Lib.hid hX
  have HSZ := Lib.hid hsz
  have k0 := hc1.k0
  have k1 := hc1.k1
  have k2 := hc1.k2
  have k3 := hc1.k3
  have k4 := hc1.k4
  have k5 := hc1.k5
  have k6 := hc1.k6
  have k7 := hc1.k7
  have HBL : Hid (b < w.heap.size) := by
    obtain ⟨D, ho, _⟩ := hset
    exact ho.lt
  have HWL : Hid (∀ v, Rch x.ands l v → SetI.I64 v) := fun v hv => by
    cases hv with
    | lit ht => exact var_i64 (hl _ ht).1 (hl _ ht).2
    | left _ _ hg => exact var_i64 (hwa _ (gate_mem hg)).2.1.1 (hwa _ (gate_mem hg)).2.1.2
    | right _ _ hg => exact var_i64 (hwa _ (gate_mem hg)).2.2.1 (hwa _ (gate_mem hg)).2.2.2
  obtain ⟨a1, c1, a2, c2, a3, c3, a4, c4, a5, c5, a6, c6, a7, c7⟩ := p
  simp only [cells] at *
  have HHCO := HCO
  clear hin hwa hset hset1 hnd hsl hl hsz hX hb1 hc1 HCO
  go_enter Tryz.func49, Tryz.ntmps49
  go_wp2_with fail
  with_reducible refine HHCO.out.mono ?_
  rintro e w3 ⟨a', c', T, rfl, hownT, hpT, hmT, hb3⟩
  have HT64 : Hid (∀ v ∈ T, SetI.I64 v) := fun v hv => HWL.out v ((hmT v).1 hv).2
  have HMT := Lib.hid hmT
  have HOWN := Lib.hid hownT
  have hoff3 : OffB b w w3 := ((OffB.refl b w).below HB1.out).below hb3
  have HOFF3 := Lib.hid hoff3
  have hset3 := HSET.out.next hb3
  have hTl := hownT
  have HTF : Hid (T.length ≤ 17592186044416) := by
    show _ ≤ _
    have hnd : T.Nodup := hpT.imp fun {a b} h => by omega
    have h1 := nodup_len hnd (C := cands x.ands l) (fun v hv => rch_cand ((hmT v).1 hv).2)
    unfold cands at h1
    simp only [List.length_append, List.length_map] at h1
    have := HSZ.out
    omega
  have HNE : Hid ((Value.slice a' T.length c').ownBlock ≠ some b) := own_not' hownT (Nat.lt_of_lt_of_le HBL.out HB1.out.size)
  have HSET3 := Lib.hid hset3
  have hsl3 := own_sl' hownT
  have hcap := hsl3.cap
  have hbig := hsl3.big
  obtain ⟨m, hm⟩ : ∃ m, T.length = m := ⟨_, rfl⟩
  obtain ⟨xl, hxl⟩ : ∃ m, X.length = m := ⟨_, rfl⟩
  have HM := Lib.hid hm
  have HXLM := Lib.hid hxl
  rw [hm] at hcap
  rw [hm, hxl]
  clear hm hxl hpT hmT hb3 hoff3 hset3 hTl hlen1 hownT hsl3 k0 k1 k2 k3 k4 k5 k6 k7 hW1
  go_wp2_with fail
  go_loopw [16] (fun i wr => ∃ k : Nat, k ≤ m ∧ i = .int .i64 k ∧ Hid (SetK wr b (xl + k) (insAll X (T.take k))) ∧ Hid (OffB b w3 wr)) (fun i _ => m - (intOf i).toNat)
  case atStart => exact ⟨0, Nat.zero_le _, rfl, by show SetK _ _ _ _; rw [← HXLM.out]; exact HSET3.out, OffB.refl _ _⟩
  case round =>
    obtain ⟨k, hk, rfl, hS, hO⟩ := hrel
    by_cases hlt : k < m
    · have hs := own_sl' (hO.out.own HOWN.out HNE.out)
      have hlt2 : k < T.length := by have := HM.out; omega
      obtain ⟨b1, o1, hx, rfl, hbs, hc⟩ := hs.int hlt2
      have h64 := HT64.out T[k] (List.getElem_mem hx)
      have HIN := Lib.hid (insAll_snoc X (T.take k) T[k])
      have HTK := Lib.hid (List.take_succ_eq_append_getElem hx)
      generalize T[k] = v at *
      obtain ⟨w5, hrun, hs5, hg5⟩ := store hS.out (insAll_nodup _ _ HND.out) h64 (by have := HXL.out; have := HXLM.out; have := HTF.out; omega)
      have HS5 : Hid (SetK w5 b (xl + (k + 1)) (insAll X (T.take (k + 1)))) := by
        show SetK _ _ _ _
        rw [HTK.out, HIN.out]
        exact hs5
      have HO5 := Lib.hid (hO.out.put hg5)
      clear hs hs5 hg5 h64 hS hO hlt2
      go_wp2_with fail
      go_roundw
      case rel => exact ⟨k + 1, by omega, by go_num, HS5, HO5⟩
      case measure => simp [intOf]; omega
    · have hkm : k = m := by omega
      subst hkm
      have htk : T.take k = T := List.take_of_length_le (Nat.le_of_eq HM.out)
      have hS' := hS.out
      rw [htk] at hS'
      have hln := fun ty => len wr hS' ty
      have HSF := Lib.hid hS'
      have HLN := insAll_len X T
      generalize hX2 : insAll X T = X2 at *
      have HX2 := Lib.hid hX2
      have HOF := Lib.hid (HOFF3.out.trans hO.out)
      clear htk hS' hS hO hX2 HLN
      go_wp2_with fail
      go_ret
      refine ⟨X2, ?_, tight HSF.out, ⟨by rw [← HX2.out]; exact insAll_nodup _ _ HND.out, fun v => by rw [← HX2.out, insAll_mem, HMT.out]⟩, fun hle => ?_, HOF.out⟩
      · rw [HXLM.out]
        simp
      · have h1 := insAll_same X T (by rw [HX2.out]; exact hle)
        exact ⟨by rw [← HX2.out]; exact insAll_id X T h1, fun v h0 hv => h1 v ((HMT.out v).2 ⟨h0, hv⟩)⟩
end Coi
end Go.Proofs.YtninglnchengeaaGreat

/-
  slices.Clone at one instance (elements of one cell): a slice of its own with the same elements; of nil nil.
-/
namespace Go.Proofs.YtninglnchengeaaGreat
open Go.RowKit Base
set_option linter.unusedVariables false
namespace CloneR

theorem info : (Tryz.prog.info? 22).map (fun i => (i.zero, i.size, i.bytes)) = some (some (.slice none 0 0), 1, 24) := by kernel_rfl

set_option maxHeartbeats 1000000 in
theorem clone (w : World) (a : Option Addr) (n c : Nat) (vs : List Value) (hsl : Sl w a n c vs) (h1 : ∀ u ∈ vs, u.oneCell' = true) (hn : n * 24 ≤ 140737488355328) :
    Calls Tryz.prog 51 #[.slice a n c] w fun e w' => ∃ a' c', e = .returned (.slice a' n c') ∧ w'.ownsRow w.heap.size 22 1 (.slice a' n c') n vs ∧ Below w.heap.size w w' := by
  have heq := fun (W : World) (x : Option Addr) => Lib.run_eql_slice_nil (P := Tryz.prog) W 28 22 x n c 0 0 Tryz.underlying28
  cases a with
  | none =>
    obtain ⟨rfl, rfl⟩ := hsl.bare rfl
    have hv : vs = [] := List.eq_nil_of_length_eq_zero hsl.len
    subst hv
    go_enter Tryz.func51, Tryz.ntmps51
    go_wp2_with fail
    go_ret
    exact ⟨none, 0, rfl, World.ownsRow_nil _ _ _ _, Below.refl _ _⟩
  | some ad =>
    have hal : Below w.heap.size w (w.alloc (.cells #[] 22)) := (Below.refl _ _).alloc (Nat.le_refl _) _
    have hsl' := hsl.next hal
    have hown : (w.alloc (.cells #[] 22)).ownsRow w.heap.size 22 1 (.slice (some ⟨w.heap.size, 0, none⟩) 0 0) 0 [] := World.ownsRow_lit w #[] 0 (Nat.le_refl _) (by unfold maxLen; omega) rfl
    have H1 := Lib.hid h1
    clear h1 hsl
    go_enter Tryz.func51, Tryz.ntmps51
    go_wp2_with ((with_reducible refine wpL_app (B := w.heap.size) (W := w) _ 0 [] _ n c vs info Tryz.underlying28 ?_ ?_ ?_ H1.out hown hsl' ?_ ?_ ?_ hal ?_); rfl; rfl; rfl; exact hal.size; omega; omega; (rw [Nat.zero_add, List.nil_append]; intro a2 c2 w2 hown2 hb2 _))
    go_ret
    exact ⟨a2, c2, rfl, hown2, hb2⟩
end CloneR
end Go.Proofs.YtninglnchengeaaGreat

/-
  slices.Concat at one instance (elements of one cell), and slices.Grow of nil.
-/
namespace Go.Proofs.YtninglnchengeaaGreat
open Go.RowKit Base
set_option linter.unusedVariables false
namespace ConcatI

theorem info : (Tryz.prog.info? 3).map (fun i => (i.zero, i.size, i.bytes)) = some (some (.int .i64 0), 1, 8) := by kernel_rfl

set_option maxRecDepth 10000 in
set_option maxHeartbeats 1000000 in
/-- Grow of nil: nothing is owned yet; the capacity is the run's. -/
theorem grow (w : World) (n : Nat) (hn : n * 8 ≤ 140737488355328) (hn' : n ≤ 4611686018427387904) :
    Calls Tryz.prog 82 #[.slice none 0 0, .int .i64 n] w fun e w' => ∃ a' c', e = .returned (.slice a' 0 c') ∧ w'.ownsRow w.heap.size 3 1 (.slice a' 0 c') 0 [] ∧ Below w.heap.size w w' := by
  by_cases h0 : n = 0
  · subst h0
    go_enter Tryz.func82, Tryz.ntmps82
    go_wp2_with fail
    go_ret
    exact ⟨none, 0, rfl, World.ownsRow_nil _ _ _ _, Below.refl _ _⟩
  · obtain ⟨i, hi, hz0, hz1, hz2⟩ := info_parts info
    have hrun : ∀ ty, (Builtin.append_ #[22, 3] ty #[.slice none 0 0, .int .i64 n]).run Tryz.prog w =
        .ok (.slice (some ⟨w.heap.size, 0, none⟩) n (grownCap w n 0 3)) (w.drew.alloc (.cells (Builtin.zeroCells #[.int .i64 0] n ++ Builtin.zeroCells #[.int .i64 0] (grownCap w n 0 3 - n)) 3)) := fun ty => by
      have h := Lib.run_append_grow_zeros (P := Tryz.prog) w 22 3 ty 3 i (.int .i64 0) .i64 .i64 Tryz.underlying22 Tryz.underlying3 hi hz0 none 0 0 [] (run_firstCells_none w.drew i.size 0 0 0) n (by omega) (by omega) (by omega) (by omega) (by rw [hz2]; omega)
        (growslice_fits (by omega) (by rw [hz2, Nat.zero_add]; exact hn))
      rw [Nat.zero_add] at h
      have e : (.int .i64 0 : Value).cells = #[.int .i64 0] := rfl
      rw [e] at h
      simpa using h
    have hge : n ≤ grownCap w n 0 3 := grownCap_ge w n 0 _
    have hle : grownCap w n 0 3 ≤ 9223372036854775807 := grownCap_big w n _ (by omega)
    generalize grownCap w n 0 3 = G at *
    have hsz : (Builtin.zeroCells #[.int .i64 0] n ++ Builtin.zeroCells #[.int .i64 0] (G - n)).size = G * 1 := by
      rw [Array.size_append, size_zeroCells, size_zeroCells]; simp; omega
    have hown : (w.drew.alloc (.cells (Builtin.zeroCells #[.int .i64 0] n ++ Builtin.zeroCells #[.int .i64 0] (G - n)) 3)).ownsRow w.heap.size 3 1 (.slice (some ⟨w.heap.size, 0, none⟩) 0 G) 0 [] :=
      World.ownsRow_made w.drew _ G (Nat.le_refl _) (by unfold maxLen; omega) hsz
    have hb : Below w.heap.size w (w.drew.alloc (.cells (Builtin.zeroCells #[.int .i64 0] n ++ Builtin.zeroCells #[.int .i64 0] (G - n)) 3)) := (Below.refl _ _).drew.alloc (Nat.le_refl _) _
    generalize w.drew.alloc (.cells (Builtin.zeroCells #[.int .i64 0] n ++ Builtin.zeroCells #[.int .i64 0] (G - n)) 3) = w1 at *
    have HR := Lib.hid hrun
    have hcap : (0 : Nat) ≤ G := Nat.zero_le _
    clear hrun
    go_enter Tryz.func82, Tryz.ntmps82
    go_wp2_with (at_builtin; refine Lib.wpList_append_run _ rfl _ _ _ _ rfl _ _ rfl rfl _ _ (HR.out _) ?_)
    go_ret
    exact ⟨_, G, rfl, hown, hb⟩

/-- A list of slices, each with its elements. -/
def Parts (w : World) (vs : List Value) (us : List (List Value)) : Prop :=
  vs.length = us.length ∧ ∀ (k : Nat) (v : Value) (u : List Value), vs[k]? = some v → us[k]? = some u → ∃ a c, v = .slice a u.length c ∧ Sl w a u.length c u

theorem Parts.next {w w' : World} {vs : List Value} {us : List (List Value)} (h : Parts w vs us) (hb : Below w.heap.size w w') : Parts w' vs us :=
  ⟨h.1, fun k v u hv hu => by
    obtain ⟨a, c, rfl, hs⟩ := h.2 k v u hv hu
    exact ⟨a, c, rfl, hs.next hb⟩⟩

def tot (us : List (List Value)) : Nat := us.flatten.length

theorem tot_take (us : List (List Value)) (k : Nat) (hk : k < us.length) : tot (us.take (k + 1)) = tot (us.take k) + us[k].length := by
  unfold tot
  rw [List.take_succ_eq_append_getElem hk, List.flatten_append]
  simp

theorem tot_le (us : List (List Value)) (k : Nat) : tot (us.take k) ≤ tot us := by
  unfold tot
  conv => rhs; rw [← List.take_append_drop k us]
  rw [List.flatten_append, List.length_append]; omega

theorem flat_take (us : List (List Value)) (k : Nat) (hk : k < us.length) : (us.take (k + 1)).flatten = (us.take k).flatten ++ us[k] := by
  rw [List.take_succ_eq_append_getElem hk, List.flatten_append]
  simp

set_option maxHeartbeats 2000000 in
theorem concat (w : World) (a : Option Addr) (n c : Nat) (vs : List Value) (us : List (List Value)) (hsl : Sl w a n c vs) (hp : Parts w vs us) (h1 : ∀ u ∈ us, ∀ v ∈ u, v.oneCell' = true) (hn : tot us * 8 ≤ 140737488355328) (hn' : tot us ≤ 4611686018427387904) :
    Calls Tryz.prog 50 #[.slice a n c] w fun e w' => ∃ a' c', e = .returned (.slice a' (tot us) c') ∧ w'.ownsRow w.heap.size 3 1 (.slice a' (tot us) c') (tot us) us.flatten ∧ Below w.heap.size w w' := by
  have hlen : us.length = n := by rw [← hp.1, hsl.len]
  have HLEN := Lib.hid hlen
  have hcap := hsl.cap
  have hbig := hsl.big
  have HP := Lib.hid hp
  have H1 := Lib.hid h1
  have HN := Lib.hid hn
  have HN' := Lib.hid hn'
  clear hp h1 hn hn' hlen
  go_enter Tryz.func50, Tryz.ntmps50
  go_wp2_with fail
  go_loop [3, 11] (fun z i => ∃ k : Nat, k ≤ n ∧ i = .int .i64 k ∧ z = .int .i64 (tot (us.take k))) (fun _ i => n - (intOf i).toNat)
  case atStart => exact ⟨0, Nat.zero_le _, rfl, rfl⟩
  case round =>
    obtain ⟨k, hk, rfl, rfl⟩ := hrel
    by_cases hlt : k < n
    · obtain ⟨b, o, v, rfl, hbs, hv, hc⟩ := hsl.at hlt
      have hku : k < us.length := by rw [HLEN.out]; exact hlt
      obtain ⟨a', c', rfl, hs⟩ := HP.out.2 k v us[k] hv (List.getElem?_eq_getElem hku)
      have HT := Lib.hid (tot_take us k hku)
      have t1 : tot (us.take k) + us[k].length ≤ 4611686018427387904 := by
        have h1 := HT.out; have h2 := tot_le us (k + 1); have h3 := HN'.out; omega
      have HV := Lib.hid hv
      clear hv hs
      generalize us[k].length = m at *
      generalize tot (us.take k) = t at *
      go_wp2_with fail
      go_round
      case rel => exact ⟨k + 1, by omega, by go_num, by rw [HT.out]; go_num⟩
      case measure => simp [intOf]; omega
    · have e : us.take k = us := List.take_of_length_le (by rw [HLEN.out]; omega)
      rw [e]
      clear e
      have HG := Lib.hid (grow w (tot us) HN.out HN'.out)
      generalize hT : tot us = T at *
      have HTT := Lib.hid hT
      clear hT
      go_wp2_with fail
      refine HG.out.mono ?_
      rintro e w1 ⟨a1, c1, rfl, hown1, hb1⟩
      have hsl1 := hsl.next hb1
      have HP1 := Lib.hid (HP.out.next hb1)
      go_wp2_with fail
      go_loopw [6, 27] (fun s i wr => ∃ (k : Nat) (t : Nat), k ≤ n ∧ i = .int .i64 k ∧ Hid (t = tot (us.take k)) ∧ (∃ a' c', s = .slice a' t c' ∧ wr.ownsRow w.heap.size 3 1 (.slice a' t c') t (us.take k).flatten) ∧ Below w.heap.size w wr) (fun _ i _ => n - (intOf i).toNat)
      case atStart => exact ⟨0, 0, Nat.zero_le _, rfl, rfl, ⟨a1, c1, rfl, hown1⟩, hb1⟩
      case round =>
        obtain ⟨k, t, hk, rfl, ht, ⟨a2, c2, rfl, hown2⟩, hbr⟩ := hrel
        by_cases hlt : k < n
        · obtain ⟨b, o, v, rfl, hbs, hv, hc⟩ := hsl.at hlt
          have hku : k < us.length := by rw [HLEN.out]; exact hlt
          obtain ⟨a', c', rfl, hs⟩ := HP.out.2 k v us[k] hv (List.getElem?_eq_getElem hku)
          have hsr := hs.next hbr
          have hcr : wr.cell? ⟨b, o + k, none⟩ = some (.slice a' us[k].length c') := (hbr.cell (p := ⟨b, o + k, none⟩) hbs).trans hc
          have HT := Lib.hid (tot_take us k hku)
          have HF := Lib.hid (flat_take us k hku)
          have t1 : t + us[k].length ≤ T := by
            have h1 := HT.out; have h2 := tot_le us (k + 1); have h3 := HTT.out; have h4 := ht.out; omega
          have t2 : (t + us[k].length) * 8 ≤ 140737488355328 := by have := HN.out; omega
          have t3 : T ≤ 4611686018427387904 := HN'.out
          have HU := Lib.hid (H1.out _ (List.getElem_mem hku))
          have hbase := hbr.size
          clear hv hc hs
          generalize us[k] = u at *
          generalize hm : u.length = m at *
          have HM := Lib.hid hm
          clear hm
          go_wp2_with ((with_reducible refine wpL_app (B := w.heap.size) (W := w) _ t (us.take k).flatten _ m c' u info Tryz.underlying22 ?_ ?_ ?_ HU.out hown2 hsr ?_ ?_ ?_ hbr ?_); rfl; rfl; rfl; exact hbase; omega; omega; (intro a3 c3 w3 hown3 hb3 _))
          go_roundw
          case rel => exact ⟨k + 1, t + m, by omega, by go_num, by show _ = _; rw [HT.out, ht.out], ⟨a3, c3, by go_num, by rw [HF.out]; exact hown3⟩, hb3⟩
          case measure => simp [intOf]; omega
        · have e : us.take k = us := List.take_of_length_le (by rw [HLEN.out]; omega)
          have hT2 : t = T := by have h1 := ht.out; rw [e] at h1; rw [h1, HTT.out]
          rw [e] at hown2
          subst hT2
          go_wp2_with fail
          go_ret
          rw [HTT.out]
          exact ⟨a2, c2, rfl, hown2, hbr⟩
end ConcatI
end Go.Proofs.YtninglnchengeaaGreat

/-
  coi.counted: what counts, as a map of its own.
-/
namespace Go.Proofs.YtninglnchengeaaGreat
open Go.RowKit Base Go.Maps
set_option linter.unusedVariables false
set_option linter.unusedSimpArgs false
namespace Coi
open Circuit StrashP

theorem offb_cbox {b N : Nat} {w w2 : World} {x : Circ} {p : At} (h : OffB b w w2) (hc : CBox N x p w) (hne : N ≠ b) : CBox N x p w2 := by
  have hb := h.block N hc.lt hne
  have e : ∀ j, w2.cell? ⟨N, j, none⟩ = w.cell? ⟨N, j, none⟩ := fun j => World.cell?_of_block (w := w) (a := ⟨N, j, none⟩) hb
  exact ⟨Nat.lt_of_lt_of_le hc.lt h.size, (e 0).trans hc.k0, (e 1).trans hc.k1, (e 2).trans hc.k2, (e 3).trans hc.k3, (e 4).trans hc.k4, (e 5).trans hc.k5, (e 6).trans hc.k6, (e 7).trans hc.k7⟩

/-- A row of slices, each a list of integers. -/
def RowsP (w : World) (vs : List Value) (xss : List (List Int)) : Prop := vs.length = xss.length ∧ ∀ (k : Nat) (v : Value) (xs : List Int), vs[k]? = some v → xss[k]? = some xs → ∃ a c, v = .slice a xs.length c ∧ Sl w a xs.length c (ints xs)
theorem RowsP.next {w w' : World} {vs : List Value} {xss : List (List Int)} (h : RowsP w vs xss) (hb : Below w.heap.size w w') : RowsP w' vs xss :=
  ⟨h.1, fun k v xs hv hx => by
    obtain ⟨a, c, e, hs⟩ := h.2 k v xs hv hx
    exact ⟨a, c, e, hs.next hb⟩⟩
theorem RowsP.of {w : World} {a : Option Addr} {n c : Nat} {vs : List Value} {xss : List (List Int)} (h : Sl2 w a n c vs xss) : RowsP w vs xss :=
  ⟨by rw [h.sl.len, h.len], fun k v xs hv hx => by
    obtain ⟨a, c, e, hs⟩ := h.row k v xs hv hx
    exact ⟨a, c, e, hs⟩⟩
theorem RowsP.app {w : World} {vs us : List Value} {xss yss : List (List Int)} (h : RowsP w vs xss) (h2 : RowsP w us yss) : RowsP w (vs ++ us) (xss ++ yss) := by
  refine ⟨by rw [List.length_append, List.length_append, h.1, h2.1], fun k v xs hv hx => ?_⟩
  by_cases hk : k < vs.length
  · rw [List.getElem?_append_left hk] at hv
    rw [List.getElem?_append_left (by rw [← h.1]; exact hk)] at hx
    exact h.2 k v xs hv hx
  · rw [List.getElem?_append_right (by omega)] at hv
    rw [List.getElem?_append_right (by rw [← h.1]; omega), ← h.1] at hx
    exact h2.2 _ v xs hv hx
theorem RowsP.two {w : World} {a1 a2 : Option Addr} {c1 c2 : Nat} {l1 l2 : List Int} (h1 : Sl w a1 l1.length c1 (ints l1)) (h2 : Sl w a2 l2.length c2 (ints l2)) : RowsP w [.slice a1 l1.length c1, .slice a2 l2.length c2] [l1, l2] := by
  refine ⟨rfl, fun k v xs hv hx => ?_⟩
  match k, hv, hx with
  | 0, hv, hx => simp at hv hx; subst hv; subst hx; exact ⟨_, _, rfl, h1⟩
  | 1, hv, hx => simp at hv hx; subst hv; subst hx; exact ⟨_, _, rfl, h2⟩
  | k + 2, hv, hx => simp at hv
theorem ints_flat (xss : List (List Int)) : (xss.map ints).flatten = ints xss.flatten := by
  induction xss with
  | nil => rfl
  | cons x r ih => rw [List.map_cons, List.flatten_cons, ih, List.flatten_cons]; unfold ints; rw [List.map_append]
theorem concat_any (w : World) (a : Option Addr) (n c : Nat) (vs : List Value) (xss : List (List Int)) (hsl : Sl w a n c vs) (hp : RowsP w vs xss) (hn : xss.flatten.length * 8 ≤ 140737488355328) :
    Calls Tryz.prog 50 #[.slice a n c] w fun e w' => ∃ a' c', e = .returned (.slice a' xss.flatten.length c') ∧ Sl w' a' xss.flatten.length c' (ints xss.flatten) ∧ Below w.heap.size w w' := by
  have ht : ConcatI.tot (xss.map ints) = xss.flatten.length := by unfold ConcatI.tot; rw [ints_flat, ints_len]
  have h := ConcatI.concat w a n c vs (xss.map ints) hsl ⟨by rw [List.length_map]; exact hp.1, fun k v u hv hu => by
    rw [List.getElem?_map, Option.map_eq_some_iff] at hu
    obtain ⟨xs, hx, rfl⟩ := hu
    obtain ⟨a', c', e, hs⟩ := hp.2 k v xs hv hx
    rw [ints_len]
    exact ⟨a', c', e, hs⟩⟩ (fun u hu v hv => by
      obtain ⟨xs, _, rfl⟩ := List.mem_map.1 hu
      exact Base.ints_one xs v hv) (by rw [ht]; exact hn) (by rw [ht]; omega)
  rw [ht, ints_flat] at h
  refine h.mono ?_
  rintro e w' ⟨a', c', he, ho, hb⟩
  exact ⟨a', c', he, own_sl' ho, hb⟩
theorem info_rows : (Tryz.prog.info? 22).map (fun i => (i.zero, i.size, i.bytes)) = some (some (.slice none 0 0), 1, 24) := by kernel_rfl

theorem row_one {w : World} {a : Option Addr} {n c : Nat} {vs : List Value} {xss : List (List Int)} (h : Sl2 w a n c vs xss) : ∀ u ∈ vs, u.oneCell' = true := by
  intro u hu
  obtain ⟨i, hi, rfl⟩ := List.mem_iff_getElem.1 hu
  have hl : i < xss.length := by have := h.len; have := h.sl.len; omega
  obtain ⟨a', c', e, _⟩ := h.row i _ _ (List.getElem?_eq_getElem hi) (List.getElem?_eq_getElem hl)
  rw [e]; rfl
theorem flat_l (A : List (List Int)) (v : List Int) (b : Int) : (A ++ [v, [b]]).flatten = A.flatten ++ v ++ [b] := by simp
theorem c8of {N : Nat} {x : Circ} {p : At} {w' : World} (h : CBox N x p w') : w'.cell? ⟨N, 0, none⟩ = some (.int .i64 x.max) ∧ w'.cell? ⟨N, 1, none⟩ = some (.slice p.a1 x.ins.length p.c1) ∧ w'.cell? ⟨N, 2, none⟩ = some (.slice p.a2 x.lats.length p.c2) ∧ w'.cell? ⟨N, 3, none⟩ = some (.slice p.a3 x.outs.length p.c3) ∧ w'.cell? ⟨N, 4, none⟩ = some (.slice p.a4 x.bads.length p.c4) ∧ w'.cell? ⟨N, 5, none⟩ = some (.slice p.a5 x.invs.length p.c5) ∧ w'.cell? ⟨N, 6, none⟩ = some (.slice p.a6 x.ands.length p.c6) ∧ w'.cell? ⟨N, 7, none⟩ = some (.slice p.a7 x.names.length p.c7) := ⟨h.k0, h.k1, h.k2, h.k3, h.k4, h.k5, h.k6, h.k7⟩
theorem sl_block {w : World} {g n : Nat} {cs : Array Value} {e : TypeId} (h : w.heap[g]? = some (.cells cs e (0, 0))) (hn : cs.size = n) (hm : n ≤ 9223372036854775807) : Sl w (some ⟨g, 0, none⟩) n n cs.toList :=
  ⟨by simpa using hn, Nat.le_refl _, hm, fun e => (by cases e), fun k x hx => ⟨g, 0, rfl, (Array.getElem?_eq_some_iff.1 h).1, by
    rw [cell_of_row _ g (0 + k) _ e _ h, Nat.zero_add]
    simpa using hx⟩⟩

/-- append of two rows to a row of rows: all that it is then. -/
theorem app_all (ty : TypeId) (V : World) (B : Nat) (hB : B ≤ V.heap.size) (aK : Option Addr) (cK n : Nat) (vals : List Value) (A : List (List Int)) (hown : V.ownsRow B 22 1 (.slice aK n cK) n vals) (a5 : Option Addr) (c5 : Nat) (invs : List Int)
    (hold : ∀ U, Below B V U → RowsP U vals A ∧ Sl U a5 invs.length c5 (ints invs)) (g1 : Nat) (bl : Int) (hg1 : V.heap[g1]? = some (.cells #[.int .i64 bl] 3)) (hn1 : (Value.slice aK n cK).ownBlock ≠ some g1) (g2 : Nat)
    (hg2 : V.heap[g2]? = some (.cells #[.slice a5 invs.length c5, .slice (some ⟨g1, 0, none⟩) 1 1] 22)) (hn2 : (Value.slice aK n cK).ownBlock ≠ some g2) (hn : (n + 2) * 24 ≤ 140737488355328) :
    ∃ a' c' w1, (Builtin.append_ #[28, 28] ty #[.slice aK n cK, .slice (some ⟨g2, 0, none⟩) 2 2]).run Tryz.prog V = .ok (.slice a' (n + 2) c') w1 ∧ Sl w1 a' (n + 2) c' (vals ++ [.slice a5 invs.length c5, .slice (some ⟨g1, 0, none⟩) 1 1]) ∧
      RowsP w1 (vals ++ [.slice a5 invs.length c5, .slice (some ⟨g1, 0, none⟩) 1 1]) (A ++ [invs, [bl]]) ∧ Below B V w1 := by
  have hsl : Sl V (some ⟨g2, 0, none⟩) 2 2 [.slice a5 invs.length c5, .slice (some ⟨g1, 0, none⟩) 1 1] := sl_block hg2 rfl (by decide)
  obtain ⟨a', c', w1, hr, ho, hg⟩ := App2.runV (P := Tryz.prog) ty (k := 1) (by decide) info_rows Tryz.underlying28 rfl V B hB (.slice aK n cK) n (vals.map fun v => [v]) (by rw [App2.flat1]; exact hown) (some ⟨g2, 0, none⟩) 2 2 ([.slice a5 invs.length c5, .slice (some ⟨g1, 0, none⟩) 1 1].map fun v => [v]) (App2.sl_t1 hsl) (by intro r hr; obtain ⟨v, _, rfl⟩ := List.mem_map.1 hr; rfl)
    (by rw [App2.flat1]; intro u hu; simp only [List.mem_cons, List.not_mem_nil, or_false] at hu; rcases hu with rfl | rfl <;> rfl) hn (by omega)
  rw [← List.map_append, App2.flat1] at ho
  have hb : Below B V w1 := (Below.refl B V).grown hg hB fun q hq => (hown.lt q hq).1
  have hone : Sl w1 (some ⟨g1, 0, none⟩) [bl].length 1 (ints [bl]) := sl_block (cs := #[.int .i64 bl]) (e := 3) ((hg.block g1 (Array.getElem?_eq_some_iff.1 hg1).1 (fun e => hn1 e.symm)).trans hg1) rfl (by simp)
  exact ⟨a', c', w1, hr, own_sl' ho, (hold w1 hb).1.app (RowsP.two (hold w1 hb).2 hone), hb⟩

theorem concat_l (w : World) (a : Option Addr) (n c : Nat) (vs : List Value) (A : List (List Int)) (invs : List Int) (bl : Int) (l : List Int) (hl : A.flatten ++ invs ++ [bl] = l) (hsl : Sl w a n c vs) (hp : RowsP w vs (A ++ [invs, [bl]])) (hn : l.length * 8 ≤ 140737488355328) :
    Calls Tryz.prog 50 #[.slice a n c] w fun e w' => ∃ v, e = .returned v ∧ ∃ a' c', v = .slice a' l.length c' ∧ Sl w' a' l.length c' (ints l) ∧ Below w.heap.size w w' := by
  have h := concat_any w a n c vs _ hsl hp (by rw [flat_l, hl]; exact hn)
  rw [flat_l, hl] at h
  exact h.mono fun e w' ⟨a', c', he, hs, hb⟩ => ⟨_, he, a', c', rfl, hs, hb⟩

theorem start_any (w : World) (x : Circ) (p : At) (hin : InCirc w x p) (hwa : WfT x.ands) {b : Nat} (hset : SetK w b 0 []) (a : Option Addr) (c : Nat) (l : List Int) (hsl : Sl w a l.length c (ints l)) (hl : ∀ y ∈ l, Circuit.I64 y)
    (hsz : (2 * l.length + 2 * x.ands.length + 2) * 8 ≤ 140737488355328) :
    Calls Tryz.prog 49 #[.map (some b), .agg (cells x p), .slice a l.length c] w fun e w' => ∃ v, e = .returned v ∧ ∃ X : List Int, SetK w' b X.length X ∧ CInv x l X ∧ OffB b w w' :=
  (add_any w x p hin hwa (X := []) hset List.nodup_nil a c l hsl hl hsz (by simp)).mono fun e w' ⟨X2, he, h1, h2, _, h3⟩ => ⟨_, he, X2, h1, cinv_start h2, h3⟩

/-- What counted leaves. -/
def CntOut (w : World) (x : Circ) (l : List Int) (e : Ending) (w' : World) : Prop :=
  ∃ b X, e = .returned (.map (some b)) ∧ w.heap.size ≤ b ∧ SetK w' b X.length X ∧ X.Nodup ∧ (∀ v, v ∈ X ↔ v ≠ 0 ∧ NR x l v) ∧ Below w.heap.size w w'

set_option maxRecDepth 8000 in
set_option maxHeartbeats 8000000 in
theorem counted_any (w : World) (x : Circ) (p : At) (hin : InCirc w x p) (hw : WfC x) (aA : Option Addr) (n cA : Nat) (vals : List Value) (A : List (List Int)) (hA : Sl2 w aA n cA vals A) (hA64 : ∀ y ∈ A.flatten, Circuit.I64 y) (k : Nat) (hk : k < x.bads.length)
    (hz1 : n ≤ 4000000) (hz2 : A.flatten.length ≤ 4000000) (hz3 : x.ands.length ≤ 4000000) (hz4 : x.invs.length ≤ 4000000) (hz5 : x.lats.length ≤ 4000000) :
    Calls Tryz.prog 20 #[.agg (cells x p), .slice aA n cA, .int .i64 k] w (CntOut w x (A.flatten ++ x.invs ++ [x.bads[k]]) ) := by
  obtain ⟨W1, hW1⟩ : ∃ W1, w.alloc (.cells (cells x p) 27) = W1 := ⟨_, rfl⟩
  obtain ⟨hb1, hc1⟩ := cbox_new w x p W1 hW1
  obtain ⟨W2, hW2⟩ : ∃ W2, W1.alloc (.map #[] 0) = W2 := ⟨_, rfl⟩
  have hb2 : Below W1.heap.size W1 W2 := by rw [← hW2]; exact (Below.refl _ _).alloc (Nat.le_refl _) _
  have hset : SetK W2 W1.heap.size 0 [] := by rw [← hW2]; exact made W1
  have hc2 := hc1.next hb2 (Nat.le_refl _)
  have hb12 : Below w.heap.size w W2 := hb1.trans (hb2.mono hb1.size)
  have hlt1 : w.heap.size < W1.heap.size := hc1.lt
  have HB12 := Lib.hid hb12
  have HC2 := Lib.hid hc2
  have HLT1 := Lib.hid hlt1
  have HSET := Lib.hid hset
  have HIN := Lib.hid (fun (U : World) (hU : Below w.heap.size w U) => hin.next hU)
  have HA := Lib.hid (fun (U : World) (hU : Below w.heap.size w U) => hA.next hU)
  have HOFB := Lib.hid (fun (U : World) (hU : OffB W1.heap.size W2 U) => hU.base hb12 (by have := hb12.size; omega) (Nat.le_of_lt hlt1))
  have HW := Lib.hid hw
  have HZ := Lib.hid (And.intro hz1 (And.intro hz2 (And.intro hz3 (And.intro hz4 hz5))))
  have HA64 := Lib.hid hA64
  have hbsl := hin.bads
  obtain ⟨gb, ob, hxb, hab, hgb, hcb⟩ := hbsl.int hk
  have hcapb := hbsl.cap
  have hbigb := hbsl.big
  have hLI : ∀ y ∈ A.flatten ++ x.invs ++ [x.bads[k]], Circuit.I64 y := by
    intro y hy
    rw [List.mem_append, List.mem_append, List.mem_singleton] at hy
    rcases hy with (hy | hy) | rfl
    · exact hA64 y hy
    · exact hw.invs y hy
    · exact hw.bads _ (List.getElem_mem _)
  generalize hbl : x.bads[k] = bl at *
  have HLI := Lib.hid hLI
  obtain ⟨l, hl⟩ : ∃ l, A.flatten ++ x.invs ++ [bl] = l := ⟨_, rfl⟩
  rw [hl]
  have HL := Lib.hid hl
  rw [hl] at HLI
  have HAD0 := fun (U : World) (hU : Below W2.heap.size W2 U) (aL : Option Addr) (cL : Nat) (hsL : Sl U aL l.length cL (ints l)) => start_any U x p ((hin.next hb12).next hU) hw.ands (hset.next hU) aL cL l hsL HLI.out (by have := HZ.out; have := congrArg List.length hl; simp only [List.length_append, List.length_singleton] at this; omega)
  have HAD1 := fun (U : World) (hU : Below w.heap.size w U) (X : List Int) (hX : SetK U W1.heap.size X.length X) (hnd : X.Nodup) (hXl : X.length ≤ 1099511627776000) (aL : Option Addr) (cL : Nat) (u : Int) (hu : Circuit.I64 u) (hsL : Sl U aL 1 cL (ints [u])) => add_any U x p (hin.next hU) hw.ands hX hnd aL cL [u] hsL (fun y hy => by rw [List.mem_singleton.1 hy]; exact hu) (by have := HZ.out; simp only [List.length_singleton]; omega) hXl
  have HCEL := Lib.hid (fun (U : World) (hU : Below w.heap.size w U) => (hU.cell (p := ⟨gb, ob + k, none⟩) hgb).trans hcb)
  obtain ⟨a1, c1, a2, c2, a3, c3, a4, c4, a5, c5, a6, c6, a7, c7⟩ := p
  simp only [cells] at *
  subst hab
  have HADD := Lib.hid HAD0
  simp only [List.length_singleton] at HAD1
  have HADX := Lib.hid HAD1
  clear HAD0 HAD1
  have hmm := @run_makeMap Tryz.prog
  have q0 := hc1.k0
  clear hin hw hA hA64 hz1 hz2 hz3 hz4 hz5 hb1 hb2 hset hc2 hb12 hbsl hxb hcb hLI hl hc1 q0 hbl
  go_enter Tryz.func20, Tryz.ntmps20
  go_upto_region 2 with fail
  clear hW1 hW2 hmm
  go_cut [] from 12 to 28 (fun wx => ∃ X : List Int, Hid (SetK wx W1.heap.size X.length X) ∧ Hid (CInv x l X) ∧ Hid (OffB W1.heap.size W2 wx))
  case first =>
    as_aux_lemma =>
      have hn := HZ.out
      have hB0 : Below W2.heap.size W2 W2.drew := (Below.refl _ _).drew
      have hSK : ∀ V : World, OffB W1.heap.size W2 V → (V.cell? ⟨w.heap.size, 0, none⟩ = some (.int .i64 x.max) ∧ V.cell? ⟨w.heap.size, 1, none⟩ = some (.slice a1 x.ins.length c1) ∧ V.cell? ⟨w.heap.size, 2, none⟩ = some (.slice a2 x.lats.length c2) ∧ V.cell? ⟨w.heap.size, 3, none⟩ = some (.slice a3 x.outs.length c3) ∧ V.cell? ⟨w.heap.size, 4, none⟩ = some (.slice (some ⟨gb, ob, none⟩) x.bads.length c4) ∧ V.cell? ⟨w.heap.size, 5, none⟩ = some (.slice a5 x.invs.length c5) ∧ V.cell? ⟨w.heap.size, 6, none⟩ = some (.slice a6 x.ands.length c6) ∧ V.cell? ⟨w.heap.size, 7, none⟩ = some (.slice a7 x.names.length c7)) ∧ V.cell? ⟨gb, ob + k, none⟩ = some (.int .i64 bl) := fun V hV => ⟨c8of (offb_cbox hV HC2.out (by have := HLT1.out; omega)), HCEL.out V (HOFB.out V hV)⟩
      have hBS : ∀ V : World, Below W2.heap.size W2 V → OffB W1.heap.size W2 V := fun V hV => (OffB.refl _ _).below hV
      have hS0 := hSK _ (hBS _ hB0)
      have hkl : (k : Int) < (x.bads.length : Int) := by omega
      refine HeldAll.region (fun U : World => (U.cell? ⟨w.heap.size, 0, none⟩ = some (.int .i64 x.max) ∧ U.cell? ⟨w.heap.size, 1, none⟩ = some (.slice a1 x.ins.length c1) ∧ U.cell? ⟨w.heap.size, 2, none⟩ = some (.slice a2 x.lats.length c2) ∧ U.cell? ⟨w.heap.size, 3, none⟩ = some (.slice a3 x.outs.length c3) ∧ U.cell? ⟨w.heap.size, 4, none⟩ = some (.slice (some ⟨gb, ob, none⟩) x.bads.length c4) ∧ U.cell? ⟨w.heap.size, 5, none⟩ = some (.slice a5 x.invs.length c5) ∧ U.cell? ⟨w.heap.size, 6, none⟩ = some (.slice a6 x.ands.length c6) ∧ U.cell? ⟨w.heap.size, 7, none⟩ = some (.slice a7 x.names.length c7)) ∧ U.cell? ⟨gb, ob + k, none⟩ = some (.int .i64 bl)) (by kernel_rfl) ?_
      (refine HeldAll.take (i := 0) (oi := _) (d := some 12) (v := ?_) rfl rfl (by kernel_rfl) (by kernel_rfl) (by kernel_rfl) (fun _ _ _ h => h) (Or.inl ⟨by rfl, ?_⟩) hS0 ?_; rotate_left; (focus (intro w hSw; clear hSw; go_simp; (try with_reducible rfl); done)); (try simp only [Act.put, List.setIfInBounds_toArray, List.set_cons_zero, List.set_cons_succ]))
      (refine HeldAll.take (i := 1) (oi := _) (d := some 13) (v := ?_) rfl rfl (by kernel_rfl) (by kernel_rfl) (by kernel_rfl) (fun _ _ _ h => h) (Or.inl ⟨by rfl, ?_⟩) hS0 ?_; rotate_left; (focus (intro w hSw; (try dsimp only at hSw); go_simp; (try with_reducible rfl); done)); (try simp only [Act.put, List.setIfInBounds_toArray, List.set_cons_zero, List.set_cons_succ]))
      (refine HeldAll.take (i := 2) (oi := _) (d := some 14) (v := ?_) rfl rfl (by kernel_rfl) (by kernel_rfl) (by kernel_rfl) (fun _ _ _ h => h) (Or.inl ⟨by rfl, ?_⟩) hS0 ?_; rotate_left; (focus (intro w hSw; clear hSw; go_simp; (try with_reducible rfl); done)); (try simp only [Act.put, List.setIfInBounds_toArray, List.set_cons_zero, List.set_cons_succ]))
      (refine HeldAll.take (i := 4) (oi := _) (d := some 16) (v := ?_) rfl rfl (by kernel_rfl) (by kernel_rfl) (by kernel_rfl) (fun _ _ _ h => h) (Or.inl ⟨by rfl, ?_⟩) hS0 ?_; rotate_left; (focus (intro w hSw; clear hSw; go_simp; (try with_reducible rfl); done)); (try simp only [Act.put, List.setIfInBounds_toArray, List.set_cons_zero, List.set_cons_succ]))
      (refine HeldAll.take (i := 5) (oi := _) (d := some 17) (v := ?_) rfl rfl (by kernel_rfl) (by kernel_rfl) (by kernel_rfl) (fun _ _ _ h => h) (Or.inl ⟨by rfl, ?_⟩) hS0 ?_; rotate_left; (focus (intro w hSw; (try dsimp only at hSw); go_simp; (try with_reducible rfl); done)); (try simp only [Act.put, List.setIfInBounds_toArray, List.set_cons_zero, List.set_cons_succ]))
      (refine HeldAll.take (i := 6) (oi := _) (d := some 18) (v := ?_) rfl rfl (by kernel_rfl) (by kernel_rfl) (by kernel_rfl) (fun _ _ _ h => h) (Or.inl ⟨by rfl, ?_⟩) hS0 ?_; rotate_left; (focus (intro w hSw; clear hSw; go_simp; (try with_reducible rfl); done)); (try simp only [Act.put, List.setIfInBounds_toArray, List.set_cons_zero, List.set_cons_succ]))
      (refine HeldAll.take (i := 7) (oi := _) (d := some 19) (v := ?_) rfl rfl (by kernel_rfl) (by kernel_rfl) (by kernel_rfl) (fun _ _ _ h => h) (Or.inl ⟨by rfl, ?_⟩) hS0 ?_; rotate_left; (focus (intro w hSw; (try dsimp only at hSw); go_simp; (try with_reducible rfl); done)); (try simp only [Act.put, List.setIfInBounds_toArray, List.set_cons_zero, List.set_cons_succ]))
      (refine HeldAll.take (i := 8) (oi := _) (d := some 20) (v := ?_) rfl rfl (by kernel_rfl) (by kernel_rfl) (by kernel_rfl) (fun _ _ _ h => h) (Or.inl ⟨by rfl, ?_⟩) hS0 ?_; rotate_left; (focus (intro w hSw; clear hSw; go_simp; (try with_reducible rfl); done)); (try simp only [Act.put, List.setIfInBounds_toArray, List.set_cons_zero, List.set_cons_succ]))
      (refine HeldAll.take (i := 9) (oi := _) (d := some 21) (v := ?_) rfl rfl (by kernel_rfl) (by kernel_rfl) (by kernel_rfl) (fun _ _ _ h => h) (Or.inl ⟨by rfl, ?_⟩) hS0 ?_; rotate_left; (focus (intro w hSw; clear hSw; go_simp; (try with_reducible rfl); done)); (try simp only [Act.put, List.setIfInBounds_toArray, List.set_cons_zero, List.set_cons_succ]))
      (refine HeldAll.take (i := 10) (oi := _) (d := some 22) (v := ?_) rfl rfl (by kernel_rfl) (by kernel_rfl) (by kernel_rfl) (fun _ _ _ h => h) (Or.inl ⟨by rfl, ?_⟩) hS0 ?_; rotate_left; (focus (intro w hSw; (try dsimp only at hSw); go_simp; (try with_reducible rfl); done)); (try simp only [Act.put, List.setIfInBounds_toArray, List.set_cons_zero, List.set_cons_succ]))
      refine HeldAll.two (i := 3) (j := 11) (by kernel_rfl) ?_ ?_
      · skip
        refine HeldAll.opCall (i := 3) (oi := _) (d := some 15) (R := fun v w' => ∃ a' c', v = .slice a' n c' ∧ w'.ownsRow (W2.drew).heap.size 22 1 (.slice a' n c') n vals ∧ Below (W2.drew).heap.size (W2.drew) w') rfl rfl (by rfl) (by go_simp; done) ((CloneR.clone (W2.drew) aA n cA vals (HA.out _ (HOFB.out _ (hBS _ hB0))).sl (row_one (HA.out _ (HOFB.out _ (hBS _ hB0)))) (by omega)).mono fun e w' h => by obtain ⟨a', c', he, ho, hb⟩ := h; exact ⟨_, he, a', c', rfl, ho, hb⟩) ?_
        rintro v u1 ⟨aK, cK, rfl, hoK, hbK⟩
        have hC : Below W2.heap.size W2 u1 := hB0.trans (hbK.mono hB0.size)
        refine ⟨hSK _ (hBS _ hC), ?_⟩
        (try simp only [Act.put, List.setIfInBounds_toArray, List.set_cons_zero, List.set_cons_succ])
        have hA1 : Below W2.heap.size W2 (u1.alloc (.cells #[.int .i64 bl] 3)) := hC.alloc hC.size _
        refine HeldAll.one (i := 11) (by kernel_rfl) ?_
        refine HeldAll.opVal (i := 11) (oi := _) (d := some 23) (v := .slice (some ⟨(u1).heap.size, 0, none⟩) 1 1) (w2 := (u1).alloc (.cells #[.int .i64 bl] 3)) rfl rfl (by rfl) (by go_simp; done) (hSK _ (hBS _ hA1)) ?_
        (try simp only [Act.put, List.setIfInBounds_toArray, List.set_cons_zero, List.set_cons_succ])
        refine HeldAll.one (i := 12) (by kernel_rfl) ?_
        refine HeldAll.opVal (i := 12) (oi := _) (d := some 24) (v := .slice (some ⟨(u1.alloc (.cells #[.int .i64 bl] 3)).heap.size, 0, none⟩) 2 2) (w2 := (u1.alloc (.cells #[.int .i64 bl] 3)).alloc (.cells #[.slice a5 x.invs.length c5, .slice (some ⟨u1.heap.size, 0, none⟩) 1 1] 22)) rfl rfl (by rfl) (by go_simp; done) (hSK _ (hBS _ (hA1.alloc hA1.size _))) ?_
        (try simp only [Act.put, List.setIfInBounds_toArray, List.set_cons_zero, List.set_cons_succ])
        obtain ⟨V, hV⟩ : ∃ V, (u1.alloc (.cells #[.int .i64 bl] 3)).alloc (.cells #[.slice a5 x.invs.length c5, .slice (some ⟨u1.heap.size, 0, none⟩) 1 1] 22) = V := ⟨_, rfl⟩
        obtain ⟨g1, hgg1⟩ : ∃ g, u1.heap.size = g := ⟨_, rfl⟩
        obtain ⟨g2, hgg2⟩ : ∃ g, (u1.alloc (.cells #[.int .i64 bl] 3)).heap.size = g := ⟨_, rfl⟩
        have hVV : Below W2.heap.size W2 V := by rw [← hV]; exact (hA1.alloc hA1.size _)
        have hoV : V.ownsRow W2.heap.size 22 1 (.slice aK n cK) n vals := by rw [← hV]; exact (((own_mono hoK hB0.size).alloc _).alloc _)
        have hg1 : V.heap[g1]? = some (.cells #[.int .i64 bl] 3) := by rw [← hV, ← hgg1]; exact ((((Below.refl (u1.alloc (.cells #[.int .i64 bl] 3)).heap.size (u1.alloc (.cells #[.int .i64 bl] 3))).alloc (Nat.le_refl _) (.cells #[.slice a5 x.invs.length c5, .slice (some ⟨u1.heap.size, 0, none⟩) 1 1] 22))).block u1.heap.size (by simp)).trans (heap_alloc_new u1 _)
        have hg2 : V.heap[g2]? = some (.cells #[.slice a5 x.invs.length c5, .slice (some ⟨g1, 0, none⟩) 1 1] 22) := by rw [← hV, ← hgg2, ← hgg1]; exact heap_alloc_new (u1.alloc (.cells #[.int .i64 bl] 3)) _
        have hn1 : (Value.slice aK n cK).ownBlock ≠ some g1 := by rw [← hgg1]; exact own_not hoK (Nat.le_refl _)
        have hn2 : (Value.slice aK n cK).ownBlock ≠ some g2 := by rw [← hgg2]; exact own_not hoK (by simp)
        rw [hV, hgg2, hgg1]
        obtain ⟨a9, c9, u9, r9, hs9, hp9, hb9⟩ := app_all 28 V W2.heap.size hVV.size aK cK n vals A hoV a5 c5 x.invs (fun U' hU' => ⟨RowsP.of (HA.out _ (HOFB.out _ (hBS _ (hVV.trans hU')))), (HIN.out _ (HOFB.out _ (hBS _ (hVV.trans hU')))).invs⟩) g1 bl hg1 hn1 g2 hg2 hn2 (by omega)
        have h9 : Below W2.heap.size W2 u9 := hVV.trans hb9
        refine HeldAll.one (i := 13) (by kernel_rfl) ?_
        refine HeldAll.opVal (i := 13) (oi := _) (d := some 25) (v := .slice a9 (n + 2) c9) (w2 := u9) rfl rfl (by rfl) (App2.exec_append rfl rfl rfl r9) (hSK _ (hBS _ h9)) ?_
        (try simp only [Act.put, List.setIfInBounds_toArray, List.set_cons_zero, List.set_cons_succ])
        refine HeldAll.one (i := 14) (by kernel_rfl) ?_
        refine HeldAll.opCall (i := 14) (oi := _) (d := some 26) (R := fun v w' => ∃ a' c', v = .slice a' l.length c' ∧ Sl w' a' l.length c' (ints l) ∧ Below u9.heap.size u9 w') rfl rfl (by rfl) (by go_simp; done) (concat_l u9 a9 (n + 2) c9 _ A x.invs bl l HL.out hs9 hp9 (by rw [← HL.out]; simp only [List.length_append, List.length_singleton]; omega)) ?_
        rintro v u10 ⟨aL, cL, rfl, hsL, hbL⟩
        have h10 : Below W2.heap.size W2 u10 := h9.trans (hbL.mono h9.size)
        refine ⟨hSK _ (hBS _ h10), ?_⟩
        (try simp only [Act.put, List.setIfInBounds_toArray, List.set_cons_zero, List.set_cons_succ])
        refine HeldAll.one (i := 15) (by kernel_rfl) ?_
        refine HeldAll.opCall (i := 15) (oi := _) (d := some 27) (R := fun v w' => ∃ X : List Int, SetK w' W1.heap.size X.length X ∧ CInv x l X ∧ OffB W1.heap.size u10 w') rfl rfl (by rfl) (by go_simp; done) (HADD.out u10 h10 aL cL hsL) ?_
        rintro v u11 ⟨X, hX1, hX2, hX3⟩
        have o11 : OffB W1.heap.size W2 u11 := (hBS _ h10).trans hX3
        refine ⟨hSK _ o11, ?_⟩
        (try simp only [Act.put, List.setIfInBounds_toArray, List.set_cons_zero, List.set_cons_succ])
        refine HeldAll.done (by kernel_rfl) ?_ _
        (try go_wp2_with fail)
        go_meet
        exact ⟨X, hX1, hX2, o11⟩
      · skip
        have hE1 : Below W2.heap.size W2 (W2.drew.alloc (.cells #[.int .i64 bl] 3)) := hB0.alloc hB0.size _
        refine HeldAll.opVal (i := 11) (oi := _) (d := some 23) (v := .slice (some ⟨(W2.drew).heap.size, 0, none⟩) 1 1) (w2 := (W2.drew).alloc (.cells #[.int .i64 bl] 3)) rfl rfl (by rfl) (by go_simp; done) (hSK _ (hBS _ hE1)) ?_
        (try simp only [Act.put, List.setIfInBounds_toArray, List.set_cons_zero, List.set_cons_succ])
        refine HeldAll.two (i := 3) (j := 12) (by kernel_rfl) ?_ ?_
        · skip
          refine HeldAll.opCall (i := 3) (oi := _) (d := some 15) (R := fun v w' => ∃ a' c', v = .slice a' n c' ∧ w'.ownsRow (W2.drew.alloc (.cells #[.int .i64 bl] 3)).heap.size 22 1 (.slice a' n c') n vals ∧ Below (W2.drew.alloc (.cells #[.int .i64 bl] 3)).heap.size (W2.drew.alloc (.cells #[.int .i64 bl] 3)) w') rfl rfl (by rfl) (by go_simp; done) ((CloneR.clone (W2.drew.alloc (.cells #[.int .i64 bl] 3)) aA n cA vals (HA.out _ (HOFB.out _ (hBS _ hE1))).sl (row_one (HA.out _ (HOFB.out _ (hBS _ hE1)))) (by omega)).mono fun e w' h => by obtain ⟨a', c', he, ho, hb⟩ := h; exact ⟨_, he, a', c', rfl, ho, hb⟩) ?_
          rintro v u1 ⟨aK, cK, rfl, hoK, hbK⟩
          have hC : Below W2.heap.size W2 u1 := hE1.trans (hbK.mono hE1.size)
          refine ⟨hSK _ (hBS _ hC), ?_⟩
          (try simp only [Act.put, List.setIfInBounds_toArray, List.set_cons_zero, List.set_cons_succ])
          refine HeldAll.one (i := 12) (by kernel_rfl) ?_
          refine HeldAll.opVal (i := 12) (oi := _) (d := some 24) (v := .slice (some ⟨(u1).heap.size, 0, none⟩) 2 2) (w2 := (u1).alloc (.cells #[.slice a5 x.invs.length c5, .slice (some ⟨W2.drew.heap.size, 0, none⟩) 1 1] 22)) rfl rfl (by rfl) (by go_simp; done) (hSK _ (hBS _ (hC.alloc hC.size _))) ?_
          (try simp only [Act.put, List.setIfInBounds_toArray, List.set_cons_zero, List.set_cons_succ])
          obtain ⟨V, hV⟩ : ∃ V, u1.alloc (.cells #[.slice a5 x.invs.length c5, .slice (some ⟨W2.drew.heap.size, 0, none⟩) 1 1] 22) = V := ⟨_, rfl⟩
          obtain ⟨g1, hgg1⟩ : ∃ g, W2.drew.heap.size = g := ⟨_, rfl⟩
          obtain ⟨g2, hgg2⟩ : ∃ g, u1.heap.size = g := ⟨_, rfl⟩
          have hVV : Below W2.heap.size W2 V := by rw [← hV]; exact (hC.alloc hC.size _)
          have hoV : V.ownsRow W2.heap.size 22 1 (.slice aK n cK) n vals := by rw [← hV]; exact ((own_mono hoK hE1.size).alloc _)
          have hg1 : V.heap[g1]? = some (.cells #[.int .i64 bl] 3) := by rw [← hV, ← hgg1]; exact ((((Below.refl (u1).heap.size (u1)).alloc (Nat.le_refl _) (.cells #[.slice a5 x.invs.length c5, .slice (some ⟨W2.drew.heap.size, 0, none⟩) 1 1] 22))).block W2.drew.heap.size (Nat.lt_of_lt_of_le (by simp) hbK.size)).trans ((hbK.block W2.drew.heap.size (by simp)).trans (heap_alloc_new W2.drew _))
          have hg2 : V.heap[g2]? = some (.cells #[.slice a5 x.invs.length c5, .slice (some ⟨g1, 0, none⟩) 1 1] 22) := by rw [← hV, ← hgg2, ← hgg1]; exact heap_alloc_new u1 _
          have hn1 : (Value.slice aK n cK).ownBlock ≠ some g1 := by rw [← hgg1]; exact own_not' hoK (by simp)
          have hn2 : (Value.slice aK n cK).ownBlock ≠ some g2 := by rw [← hgg2]; exact own_not hoK (Nat.le_refl _)
          rw [hV, hgg2, hgg1]
          obtain ⟨a9, c9, u9, r9, hs9, hp9, hb9⟩ := app_all 28 V W2.heap.size hVV.size aK cK n vals A hoV a5 c5 x.invs (fun U' hU' => ⟨RowsP.of (HA.out _ (HOFB.out _ (hBS _ (hVV.trans hU')))), (HIN.out _ (HOFB.out _ (hBS _ (hVV.trans hU')))).invs⟩) g1 bl hg1 hn1 g2 hg2 hn2 (by omega)
          have h9 : Below W2.heap.size W2 u9 := hVV.trans hb9
          refine HeldAll.one (i := 13) (by kernel_rfl) ?_
          refine HeldAll.opVal (i := 13) (oi := _) (d := some 25) (v := .slice a9 (n + 2) c9) (w2 := u9) rfl rfl (by rfl) (App2.exec_append rfl rfl rfl r9) (hSK _ (hBS _ h9)) ?_
          (try simp only [Act.put, List.setIfInBounds_toArray, List.set_cons_zero, List.set_cons_succ])
          refine HeldAll.one (i := 14) (by kernel_rfl) ?_
          refine HeldAll.opCall (i := 14) (oi := _) (d := some 26) (R := fun v w' => ∃ a' c', v = .slice a' l.length c' ∧ Sl w' a' l.length c' (ints l) ∧ Below u9.heap.size u9 w') rfl rfl (by rfl) (by go_simp; done) (concat_l u9 a9 (n + 2) c9 _ A x.invs bl l HL.out hs9 hp9 (by rw [← HL.out]; simp only [List.length_append, List.length_singleton]; omega)) ?_
          rintro v u10 ⟨aL, cL, rfl, hsL, hbL⟩
          have h10 : Below W2.heap.size W2 u10 := h9.trans (hbL.mono h9.size)
          refine ⟨hSK _ (hBS _ h10), ?_⟩
          (try simp only [Act.put, List.setIfInBounds_toArray, List.set_cons_zero, List.set_cons_succ])
          refine HeldAll.one (i := 15) (by kernel_rfl) ?_
          refine HeldAll.opCall (i := 15) (oi := _) (d := some 27) (R := fun v w' => ∃ X : List Int, SetK w' W1.heap.size X.length X ∧ CInv x l X ∧ OffB W1.heap.size u10 w') rfl rfl (by rfl) (by go_simp; done) (HADD.out u10 h10 aL cL hsL) ?_
          rintro v u11 ⟨X, hX1, hX2, hX3⟩
          have o11 : OffB W1.heap.size W2 u11 := (hBS _ h10).trans hX3
          refine ⟨hSK _ o11, ?_⟩
          (try simp only [Act.put, List.setIfInBounds_toArray, List.set_cons_zero, List.set_cons_succ])
          refine HeldAll.done (by kernel_rfl) ?_ _
          (try go_wp2_with fail)
          go_meet
          exact ⟨X, hX1, hX2, o11⟩
        · skip
          refine HeldAll.opVal (i := 12) (oi := _) (d := some 24) (v := .slice (some ⟨(W2.drew.alloc (.cells #[.int .i64 bl] 3)).heap.size, 0, none⟩) 2 2) (w2 := (W2.drew.alloc (.cells #[.int .i64 bl] 3)).alloc (.cells #[.slice a5 x.invs.length c5, .slice (some ⟨W2.drew.heap.size, 0, none⟩) 1 1] 22)) rfl rfl (by rfl) (by go_simp; done) (hSK _ (hBS _ (hE1.alloc hE1.size _))) ?_
          (try simp only [Act.put, List.setIfInBounds_toArray, List.set_cons_zero, List.set_cons_succ])
          have hE2 : Below W2.heap.size W2 ((W2.drew.alloc (.cells #[.int .i64 bl] 3)).alloc (.cells #[.slice a5 x.invs.length c5, .slice (some ⟨W2.drew.heap.size, 0, none⟩) 1 1] 22)) := hE1.alloc hE1.size _
          refine HeldAll.one (i := 3) (by kernel_rfl) ?_
          refine HeldAll.opCall (i := 3) (oi := _) (d := some 15) (R := fun v w' => ∃ a' c', v = .slice a' n c' ∧ w'.ownsRow ((W2.drew.alloc (.cells #[.int .i64 bl] 3)).alloc (.cells #[.slice a5 x.invs.length c5, .slice (some ⟨W2.drew.heap.size, 0, none⟩) 1 1] 22)).heap.size 22 1 (.slice a' n c') n vals ∧ Below ((W2.drew.alloc (.cells #[.int .i64 bl] 3)).alloc (.cells #[.slice a5 x.invs.length c5, .slice (some ⟨W2.drew.heap.size, 0, none⟩) 1 1] 22)).heap.size ((W2.drew.alloc (.cells #[.int .i64 bl] 3)).alloc (.cells #[.slice a5 x.invs.length c5, .slice (some ⟨W2.drew.heap.size, 0, none⟩) 1 1] 22)) w') rfl rfl (by rfl) (by go_simp; done) ((CloneR.clone ((W2.drew.alloc (.cells #[.int .i64 bl] 3)).alloc (.cells #[.slice a5 x.invs.length c5, .slice (some ⟨W2.drew.heap.size, 0, none⟩) 1 1] 22)) aA n cA vals (HA.out _ (HOFB.out _ (hBS _ hE2))).sl (row_one (HA.out _ (HOFB.out _ (hBS _ hE2)))) (by omega)).mono fun e w' h => by obtain ⟨a', c', he, ho, hb⟩ := h; exact ⟨_, he, a', c', rfl, ho, hb⟩) ?_
          rintro v u1 ⟨aK, cK, rfl, hoK, hbK⟩
          have hC : Below W2.heap.size W2 u1 := hE2.trans (hbK.mono hE2.size)
          refine ⟨hSK _ (hBS _ hC), ?_⟩
          (try simp only [Act.put, List.setIfInBounds_toArray, List.set_cons_zero, List.set_cons_succ])
          obtain ⟨V, hV⟩ : ∃ V, u1 = V := ⟨_, rfl⟩
          obtain ⟨g1, hgg1⟩ : ∃ g, W2.drew.heap.size = g := ⟨_, rfl⟩
          obtain ⟨g2, hgg2⟩ : ∃ g, (W2.drew.alloc (.cells #[.int .i64 bl] 3)).heap.size = g := ⟨_, rfl⟩
          have hVV : Below W2.heap.size W2 V := by rw [← hV]; exact hC
          have hoV : V.ownsRow W2.heap.size 22 1 (.slice aK n cK) n vals := by rw [← hV]; exact (own_mono hoK hE2.size)
          have hg1 : V.heap[g1]? = some (.cells #[.int .i64 bl] 3) := by rw [← hV, ← hgg1]; exact (hbK.block W2.drew.heap.size (by simp; omega)).trans ((((Below.refl (W2.drew.alloc (.cells #[.int .i64 bl] 3)).heap.size (W2.drew.alloc (.cells #[.int .i64 bl] 3))).alloc (Nat.le_refl _) (.cells #[.slice a5 x.invs.length c5, .slice (some ⟨W2.drew.heap.size, 0, none⟩) 1 1] 22)).block W2.drew.heap.size (by simp)).trans (heap_alloc_new W2.drew _))
          have hg2 : V.heap[g2]? = some (.cells #[.slice a5 x.invs.length c5, .slice (some ⟨g1, 0, none⟩) 1 1] 22) := by rw [← hV, ← hgg2, ← hgg1]; exact (hbK.block (W2.drew.alloc (.cells #[.int .i64 bl] 3)).heap.size (by simp)).trans (heap_alloc_new (W2.drew.alloc (.cells #[.int .i64 bl] 3)) _)
          have hn1 : (Value.slice aK n cK).ownBlock ≠ some g1 := by rw [← hgg1]; exact own_not' hoK (by simp; omega)
          have hn2 : (Value.slice aK n cK).ownBlock ≠ some g2 := by rw [← hgg2]; exact own_not' hoK (by simp)
          rw [hV, hgg2, hgg1]
          obtain ⟨a9, c9, u9, r9, hs9, hp9, hb9⟩ := app_all 28 V W2.heap.size hVV.size aK cK n vals A hoV a5 c5 x.invs (fun U' hU' => ⟨RowsP.of (HA.out _ (HOFB.out _ (hBS _ (hVV.trans hU')))), (HIN.out _ (HOFB.out _ (hBS _ (hVV.trans hU')))).invs⟩) g1 bl hg1 hn1 g2 hg2 hn2 (by omega)
          have h9 : Below W2.heap.size W2 u9 := hVV.trans hb9
          refine HeldAll.one (i := 13) (by kernel_rfl) ?_
          refine HeldAll.opVal (i := 13) (oi := _) (d := some 25) (v := .slice a9 (n + 2) c9) (w2 := u9) rfl rfl (by rfl) (App2.exec_append rfl rfl rfl r9) (hSK _ (hBS _ h9)) ?_
          (try simp only [Act.put, List.setIfInBounds_toArray, List.set_cons_zero, List.set_cons_succ])
          refine HeldAll.one (i := 14) (by kernel_rfl) ?_
          refine HeldAll.opCall (i := 14) (oi := _) (d := some 26) (R := fun v w' => ∃ a' c', v = .slice a' l.length c' ∧ Sl w' a' l.length c' (ints l) ∧ Below u9.heap.size u9 w') rfl rfl (by rfl) (by go_simp; done) (concat_l u9 a9 (n + 2) c9 _ A x.invs bl l HL.out hs9 hp9 (by rw [← HL.out]; simp only [List.length_append, List.length_singleton]; omega)) ?_
          rintro v u10 ⟨aL, cL, rfl, hsL, hbL⟩
          have h10 : Below W2.heap.size W2 u10 := h9.trans (hbL.mono h9.size)
          refine ⟨hSK _ (hBS _ h10), ?_⟩
          (try simp only [Act.put, List.setIfInBounds_toArray, List.set_cons_zero, List.set_cons_succ])
          refine HeldAll.one (i := 15) (by kernel_rfl) ?_
          refine HeldAll.opCall (i := 15) (oi := _) (d := some 27) (R := fun v w' => ∃ X : List Int, SetK w' W1.heap.size X.length X ∧ CInv x l X ∧ OffB W1.heap.size u10 w') rfl rfl (by rfl) (by go_simp; done) (HADD.out u10 h10 aL cL hsL) ?_
          rintro v u11 ⟨X, hX1, hX2, hX3⟩
          have o11 : OffB W1.heap.size W2 u11 := (hBS _ h10).trans hX3
          refine ⟨hSK _ o11, ?_⟩
          (try simp only [Act.put, List.setIfInBounds_toArray, List.set_cons_zero, List.set_cons_succ])
          refine HeldAll.done (by kernel_rfl) ?_ _
          (try go_wp2_with fail)
          go_meet
          exact ⟨X, hX1, hX2, o11⟩
  case rest =>
    obtain ⟨X0, hX1, hX2, hX3⟩ := hcut
    generalize wc = w3 at *
    obtain ⟨nb, hnb⟩ : ∃ nb, l.length + 2 * x.ands.length + x.lats.length = nb := ⟨_, rfl⟩
    have HNB := Lib.hid hnb
    obtain ⟨m, hm⟩ : ∃ m, x.lats.length = m := ⟨_, rfl⟩
    have HM := Lib.hid hm
    have HNBL : Hid (nb ≤ 100000000) := by
      show _ ≤ _
      have := HZ.out; have := congrArg List.length HL.out
      simp only [List.length_append, List.length_singleton] at this
      omega
    have hm5 : m ≤ 4000000 := by have := HZ.out; omega
    have hgk : Hid (2 * (nb - X0.length) + 1 = 2 * (nb - X0.length) + (if true = true then 1 else 0)) := by show _ = _; simp
    clear hnb hm
    go_wp2_with fail
    go_loopg [8] (2 * (nb - X0.length) + 1) (fun gk s8 wr => ∃ (X : List Int) (f : Bool), s8 = .bool f ∧ Hid (SetK wr W1.heap.size X.length X) ∧ Hid (CInv x l X) ∧ Hid (f = false → ∀ t ∈ x.lats, Shut x X t) ∧ Hid (gk = 2 * (nb - X.length) + (if f = true then 1 else 0)) ∧ Hid (OffB W1.heap.size W2 wr))
    case atStart => exact ⟨X0, true, rfl, hX1, hX2, fun h => absurd h (by decide), hgk, hX3⟩
    case round =>
      obtain ⟨X1, f, rfl, hS, hI, hsh, hgk1, hO⟩ := hrel
      clear hX1 hX2 hX3 hgk
      cases f
      · have hS' := hS.out
        have HE := Lib.hid (cinv_end hI.out (hsh.out rfl))
        have HBE := Lib.hid (HOFB.out wr hO.out)
        have HND := Lib.hid hI.out.nodup
        clear hsh hgk1 hI hS'
        go_wp2_with fail
        go_ret
        exact ⟨W1.heap.size, X1, rfl, Nat.le_of_lt HLT1.out, hS.out, HND.out, HE.out, HBE.out⟩
      · have m2 := (offb_cbox hO.out HC2.out (by have := HLT1.out; omega)).k2
        simp only [HM.out] at m2
        have HS1 := hS
        have HO1 := hO
        clear hS hO hsh
        generalize wr = wo at *
        go_wp2_with fail
        go_loopw [8, 32] (fun s8 i wr => ∃ (q : Nat) (X : List Int) (f : Bool), q ≤ m ∧ s8 = .bool f ∧ i = .int .i64 q ∧ Hid (SetK wr W1.heap.size X.length X) ∧ Hid (CInv x l X) ∧ Hid (OffB W1.heap.size W2 wr) ∧ Hid (f = false → X = X1 ∧ ∀ t ∈ x.lats.take q, Shut x X1 t) ∧ Hid (f = true → X1.length < X.length)) (fun _ i _ => m - (intOf i).toNat)
        case atStart => exact ⟨0, X1, false, Nat.zero_le _, rfl, rfl, HS1, hI, HO1, fun _ => ⟨rfl, fun t ht => by simp at ht⟩, fun h => absurd h (by decide)⟩
        case round =>
          obtain ⟨q, X, f, hq, rfl, rfl, hS, hI2, hO, hf0, hf1⟩ := hrel
          by_cases hlt : q < m
          · have hix := (HIN.out wr (HOFB.out wr hO.out)).lats
            have hlt2 : q < x.lats.length := by have := HM.out; omega
            obtain ⟨b, o, hx, hbo, hbs, e0, e1, e2⟩ := hix.tri hlt2
            simp only at hbo
            subst hbo
            have hcap := hix.cap
            have hbig := hix.big
            simp only [HM.out] at hcap
            have h64 := HW.out.lats x.lats[q] (List.getElem_mem _)
            have HTK := Lib.hid (List.take_succ_eq_append_getElem hx)
            have HMEM : Hid (x.lats[q] ∈ x.lats) := List.getElem_mem _
            generalize x.lats[q] = t at *
            obtain ⟨t0, t1, t2⟩ := t
            simp only at e0 e1 e2 h64
            obtain ⟨W5, hW5⟩ : ∃ U, wr.alloc (.cells #[.int .i64 t0, .int .i64 t1, .int .i64 t2] 41) = U := ⟨_, rfl⟩
            have hb5 : Below wr.heap.size wr W5 := by rw [← hW5]; exact (Below.refl _ _).alloc (Nat.le_refl _) _
            have hx5 : BoxN wr.heap.size [.int .i64 t0, .int .i64 t1, .int .i64 t2] W5 := by rw [← hW5]; exact BoxN.new wr _ _
            have hS5 := hS.out.next hb5
            have hO5 := hO.out.below hb5
            have HHAS := Lib.hid (has_any W5 hS5 t0 h64.1.1 h64.1.2)
            have y0 := hx5.at' 0 _ rfl
            have y1 := hx5.at' 1 _ rfl
            have hcw := c8of (offb_cbox hO5 HC2.out (by have := HLT1.out; omega))
            obtain ⟨n0, n1, n2, n3, n4, n5, n6, n7⟩ := hcw
            have HS5 := Lib.hid hS5
            have HO5 := Lib.hid hO5
            have HU1 := Lib.hid h64.2.1
            clear hix hlt2 hx hb5 hx5 hS5 hO5 h64 hO hS
            cases hin : SetI.inX X (var t0)
            · rw [hin] at HHAS
              have HSH : Hid (f = false → X = X1 ∧ ∀ t ∈ x.lats.take (q + 1), Shut x X1 t) := fun hf => by
                obtain ⟨h1, h2⟩ := hf0.out hf
                refine ⟨h1, fun t ht => ?_⟩
                rw [HTK.out, List.mem_append, List.mem_singleton] at ht
                rcases ht with ht | rfl
                · exact h2 t ht
                · intro hm
                  rw [← h1] at hm
                  rw [SetI.inX_iff.2 hm] at hin
                  cases hin
              clear hin hf0
              go_wp2_with fail
              with_reducible refine HHAS.out.mono ?_
              rintro e w6 ⟨rfl, rfl⟩
              clear hW5 n0 n1 n2 n3 n4 n5 n6 n7
              go_wp2_with fail
              go_roundw
              case rel => exact ⟨q + 1, X, f, by omega, rfl, by go_num, HS5.out, hI2.out, HO5.out, HSH.out, hf1.out⟩
              case measure => simp [intOf]; omega
            · rw [hin] at HHAS
              have HIN1 := Lib.hid (SetI.inX_iff.1 hin)
              have hXB := cinv_few hI2.out
              have HXB : Hid (X.length ≤ nb) := by show _ ≤ _; rw [← HNB.out]; exact hXB
              obtain ⟨W6, hW6⟩ : ∃ U, W5.alloc (.cells #[.int .i64 t1] 3) = U := ⟨_, rfl⟩
              have hb6 : Below W5.heap.size W5 W6 := by rw [← hW6]; exact (Below.refl _ _).alloc (Nat.le_refl _) _
              have hs6 : Sl W6 (some ⟨W5.heap.size, 0, none⟩) 1 1 (ints [t1]) := by rw [← hW6]; exact sl_new W5 #[.int .i64 t1] 3 1 rfl (by decide)
              have hO6 := HO5.out.below hb6
              have HAD := Lib.hid (HADX.out W6 (HOFB.out W6 hO6) X (HS5.out.next hb6) hI2.out.nodup (by have := HXB.out; have := HNBL.out; omega) (some ⟨W5.heap.size, 0, none⟩) 1 t1 HU1.out hs6)
              have HO6 := Lib.hid hO6
              clear hin hXB hb6 hs6 hO6
              go_wp2_with fail
              with_reducible refine HHAS.out.mono ?_
              rintro e w6 ⟨rfl, rfl⟩
              go_wp2_with fail
              with_reducible refine HAD.out.mono ?_
              rintro e w7 ⟨X2, rfl, hS7, hA7, hsm, hO7⟩
              have HS7 := Lib.hid hS7
              have HI7 := Lib.hid (cinv_next hI2.out HMEM.out HIN1.out hA7)
              have HO7 := Lib.hid (HO6.out.trans hO7)
              by_cases hg : X.length < X2.length
              · have hd : decide (X.length < X2.length) = true := decide_eq_true hg
                rw [hd]
                have HF1 : Hid (X1.length < X2.length) := by
                  show _ < _
                  cases f
                  · rw [← (hf0.out rfl).1]; exact hg
                  · have := hf1.out rfl; omega
                clear hd hg hsm hA7 hS7 hO7 hW5 hW6 n0 n1 n2 n3 n4 n5 n6 n7 hf0 hf1
                go_wp2_with fail
                go_roundw
                case rel => exact ⟨q + 1, X2, true, by omega, rfl, by go_num, HS7.out, HI7.out, HO7.out, fun h => absurd h (by decide), fun _ => HF1.out⟩
                case measure => simp [intOf]; omega
              · have hd : decide (X.length < X2.length) = false := decide_eq_false hg
                rw [hd]
                obtain ⟨h1, h2⟩ := hsm (by omega)
                have HX2 : Hid (X2 = X) := h1
                have HSH : Hid (f = false → X2 = X1 ∧ ∀ t ∈ x.lats.take (q + 1), Shut x X1 t) := fun hf => by
                  obtain ⟨g1, g2⟩ := hf0.out hf
                  refine ⟨h1.trans g1, fun t ht => ?_⟩
                  rw [HTK.out, List.mem_append, List.mem_singleton] at ht
                  rcases ht with ht | rfl
                  · exact g2 t ht
                  · intro _ v hv0 hv
                    rw [← g1]
                    exact h2 v hv0 hv
                have HF1 : Hid (f = true → X1.length < X2.length) := fun hf => by rw [h1]; exact hf1.out hf
                clear hd hg hsm hA7 hS7 hO7 hW5 hW6 n0 n1 n2 n3 n4 n5 n6 n7 hf0 hf1 h1 h2
                go_wp2_with fail
                go_roundw
                case rel => exact ⟨q + 1, X2, f, by omega, rfl, by go_num, HS7.out, HI7.out, HO7.out, HSH.out, HF1.out⟩
                case measure => simp [intOf]; omega
          · have hqm : q = m := by omega
            have hXB := cinv_few hI2.out
            have HXB : Hid (X.length ≤ nb) := by show _ ≤ _; rw [← HNB.out]; exact hXB
            have HSH : Hid (f = false → ∀ t ∈ x.lats, Shut x X t) := fun hf => by
              obtain ⟨g1, g2⟩ := hf0.out hf
              rw [g1]
              intro t ht
              refine g2 t ?_
              rw [List.take_of_length_le (by rw [HM.out]; omega)]
              exact ht
            have HLE : Hid (f = false → X.length = X1.length) := fun hf => by rw [(hf0.out hf).1]
            clear hqm hXB hf0
            go_wp2_with fail
            go_roundg (2 * (nb - X.length) + (if f = true then 1 else 0))
            case measure =>
              have h0 := hgk1.out
              have h1 := HXB.out
              cases f
              · have := HLE.out rfl; simp at h0 ⊢; omega
              · have := hf1.out rfl; simp at h0 ⊢; omega
            case rel => exact ⟨X, f, rfl, hS.out, hI2.out, HSH.out, rfl, hO.out⟩
end Coi
end Go.Proofs.YtninglnchengeaaGreat

/-
  slices.Clone of slices of structs of three cells.
-/
namespace Go.Proofs.YtninglnchengeaaGreat
open Go.RowKit Base
set_option linter.unusedVariables false
set_option linter.unusedSimpArgs false
namespace CloneT
theorem info_latch : (Tryz.prog.info? 41).map (fun i => (i.zero, i.size, i.bytes)) = some (some (.agg #[.int .i64 0, .int .i64 0, .int .i64 0]), 3, 24) := by kernel_rfl
theorem info_and : (Tryz.prog.info? 43).map (fun i => (i.zero, i.size, i.bytes)) = some (some (.agg #[.int .i64 0, .int .i64 0, .int .i64 0]), 3, 24) := by kernel_rfl


set_option maxHeartbeats 1000000 in
theorem latches (w : World) (a : Option Addr) (n c : Nat) (vs : List (List Value)) (hsl : SlT w 3 a n c vs) (h1 : ∀ u ∈ vs.flatten, u.oneCell' = true) (hr : ∀ r ∈ vs, r.length = 3) (hn : n * 24 ≤ 140737488355328) :
    Calls Tryz.prog 26 #[.slice a n c] w fun e w' => ∃ a' c', e = .returned (.slice a' n c') ∧ w'.ownsRow w.heap.size 41 3 (.slice a' n c') n vs.flatten ∧ Below w.heap.size w w' := by
  have heq := fun (W : World) (x : Option Addr) => Lib.run_eql_slice_nil (P := Tryz.prog) W 23 41 x n c 0 0 Tryz.underlying23
  cases a with
  | none =>
    obtain ⟨rfl, rfl⟩ := hsl.bare rfl
    have hv : vs = [] := List.eq_nil_of_length_eq_zero hsl.len
    subst hv
    go_enter Tryz.func26, Tryz.ntmps26
    go_wp2_with fail
    go_ret
    exact ⟨none, 0, rfl, World.ownsRow_nil _ _ _ _, Below.refl _ _⟩
  | some ad =>
    have hal : Below w.heap.size w (w.alloc (.cells #[] 41)) := (Below.refl _ _).alloc (Nat.le_refl _) _
    have hsl' := hsl.next hal
    have hown : (w.alloc (.cells #[] 41)).ownsRow w.heap.size 41 3 (.slice (some ⟨w.heap.size, 0, none⟩) 0 0) 0 ([] : List (List Value)).flatten := World.ownsRow_lit w #[] 0 (Nat.le_refl _) (by unfold maxLen; omega) rfl
    have H1 := Lib.hid h1
    have HR := Lib.hid hr
    clear h1 hsl hr
    go_enter Tryz.func26, Tryz.ntmps26
    go_wp2_with ((with_reducible refine wpL_appK (k := 3) (by decide) (B := w.heap.size) (W := w) _ 0 [] _ n c vs info_latch Tryz.underlying23 ?_ ?_ ?_ H1.out HR.out hown hsl' ?_ ?_ ?_ hal ?_); rfl; rfl; rfl; exact hal.size; omega; omega; (rw [Nat.zero_add, List.nil_append]; intro a2 c2 w2 hown2 hb2 _))
    go_ret
    exact ⟨a2, c2, rfl, hown2, hb2⟩


set_option maxHeartbeats 1000000 in
theorem ands (w : World) (a : Option Addr) (n c : Nat) (vs : List (List Value)) (hsl : SlT w 3 a n c vs) (h1 : ∀ u ∈ vs.flatten, u.oneCell' = true) (hr : ∀ r ∈ vs, r.length = 3) (hn : n * 24 ≤ 140737488355328) :
    Calls Tryz.prog 29 #[.slice a n c] w fun e w' => ∃ a' c', e = .returned (.slice a' n c') ∧ w'.ownsRow w.heap.size 43 3 (.slice a' n c') n vs.flatten ∧ Below w.heap.size w w' := by
  have heq := fun (W : World) (x : Option Addr) => Lib.run_eql_slice_nil (P := Tryz.prog) W 24 43 x n c 0 0 Tryz.underlying24
  cases a with
  | none =>
    obtain ⟨rfl, rfl⟩ := hsl.bare rfl
    have hv : vs = [] := List.eq_nil_of_length_eq_zero hsl.len
    subst hv
    go_enter Tryz.func29, Tryz.ntmps29
    go_wp2_with fail
    go_ret
    exact ⟨none, 0, rfl, World.ownsRow_nil _ _ _ _, Below.refl _ _⟩
  | some ad =>
    have hal : Below w.heap.size w (w.alloc (.cells #[] 43)) := (Below.refl _ _).alloc (Nat.le_refl _) _
    have hsl' := hsl.next hal
    have hown : (w.alloc (.cells #[] 43)).ownsRow w.heap.size 43 3 (.slice (some ⟨w.heap.size, 0, none⟩) 0 0) 0 ([] : List (List Value)).flatten := World.ownsRow_lit w #[] 0 (Nat.le_refl _) (by unfold maxLen; omega) rfl
    have H1 := Lib.hid h1
    have HR := Lib.hid hr
    clear h1 hsl hr
    go_enter Tryz.func29, Tryz.ntmps29
    go_wp2_with ((with_reducible refine wpL_appK (k := 3) (by decide) (B := w.heap.size) (W := w) _ 0 [] _ n c vs info_and Tryz.underlying24 ?_ ?_ ?_ H1.out HR.out hown hsl' ?_ ?_ ?_ hal ?_); rfl; rfl; rfl; exact hal.size; omega; omega; (rw [Nat.zero_add, List.nil_append]; intro a2 c2 w2 hown2 hb2 _))
    go_ret
    exact ⟨a2, c2, rfl, hown2, hb2⟩


end CloneT
end Go.Proofs.YtninglnchengeaaGreat

/-
  Rows of k cells in a block of one's own: read, written, cleared. No program's function.
-/
namespace Go.Proofs.YtninglnchengeaaGreat
open Go.RowKit Base
set_option linter.unusedVariables false
set_option linter.unusedSimpArgs false
namespace RowsK

theorem grown_below {w w1 w2 : World} {ob : Option Nat} (h : w.grownBy w1 ob) (hb : Below w1.heap.size w1 w2) : w.grownBy w2 ob :=
  ⟨hb.os.trans h.os, hb.tape.trans h.tape, hb.output.trans h.output, Nat.le_trans h.size hb.size, fun k hk hne => (hb.block k (Nat.lt_of_lt_of_le hk h.size)).trans (h.block k hk hne)⟩

theorem grown_of_below {w w1 : World} {ob : Option Nat} (hb : Below w.heap.size w w1) : w.grownBy w1 ob :=
  ⟨hb.os, hb.tape, hb.output, hb.size, fun k hk _ => hb.block k hk⟩

theorem grown_set {w w1 : World} {G : Nat} (h : w.grownBy w1 (some G)) (i : Nat) (u : Value) : w.grownBy (w1.setCell ⟨G, i, none⟩ u) (some G) := by
  refine ⟨h.os, h.tape, h.output, by simpa [World.setCell] using h.size, fun k hk hne => ?_⟩
  have hk' : G ≠ k := fun e => hne (by rw [e])
  rw [← h.block k hk hne]
  simp [World.setCell, Array.getElem?_modify, hk']

theorem grown_sets {w : World} {G : Nat} : ∀ (vs : List Value) (w1 : World) (o : Nat), w.grownBy w1 (some G) → w.grownBy (w1.setCells G o vs) (some G) := by
  intro vs
  induction vs with
  | nil => intro w1 o h; exact h
  | cons v r ih => intro w1 o h; exact ih _ _ (grown_set h o v)

def chunk (k : Nat) : Nat → List Value → List (List Value)
  | 0, _ => []
  | c + 1, l => l.take k :: chunk k c (l.drop k)

theorem chunk_len (k c : Nat) (l : List Value) : (chunk k c l).length = c := by
  induction c generalizing l with
  | zero => rfl
  | succ c ih => simp [chunk, ih]

theorem chunk_row {k c : Nat} {l : List Value} (h : l.length = c * k) : ∀ r ∈ chunk k c l, r.length = k := by
  induction c generalizing l with
  | zero => intro r hr; cases hr
  | succ c ih =>
    rw [Nat.succ_mul] at h
    intro r hr
    rcases List.mem_cons.1 hr with rfl | hr
    · rw [List.length_take]; omega
    · exact ih (by rw [List.length_drop]; omega) r hr

theorem chunk_flat {k c : Nat} {l : List Value} (h : l.length = c * k) : (chunk k c l).flatten = l := by
  induction c generalizing l with
  | zero => rw [Nat.zero_mul] at h; rw [List.eq_nil_of_length_eq_zero h]; rfl
  | succ c ih =>
    rw [Nat.succ_mul] at h
    show l.take k ++ (chunk k c (l.drop k)).flatten = l
    rw [ih (by rw [List.length_drop]; omega), List.take_append_drop]

theorem chunk_take {k c n : Nat} {l : List Value} {vs : List (List Value)} (h : l.length = c * k) (hn : n ≤ c) (hr : ∀ r ∈ vs, r.length = k) (hv : vs.length = n) (ht : l.take (n * k) = vs.flatten) : (chunk k c l).take n = vs := by
  induction vs generalizing n c l with
  | nil => subst hv; rfl
  | cons x r ih =>
    cases n with
    | zero => simp at hv
    | succ n =>
      cases c with
      | zero => omega
      | succ c =>
        have hx := hr x List.mem_cons_self
        rw [Nat.succ_mul] at h ht
        rw [List.flatten_cons] at ht
        have h1 : l.take k = x := by
          have h2 := congrArg (List.take k) ht
          rw [List.take_take, Nat.min_eq_left (Nat.le_add_left _ _)] at h2
          rw [h2, List.take_append_of_le_length (Nat.le_of_eq hx.symm), List.take_of_length_le (Nat.le_of_eq hx)]
        have h3 : (l.drop k).take (n * k) = r.flatten := by
          have h2 := congrArg (List.drop k) ht
          rw [List.drop_take, Nat.add_sub_cancel] at h2
          rw [h2, List.drop_append_of_le_length (Nat.le_of_eq hx.symm), List.drop_of_length_le (Nat.le_of_eq hx), List.nil_append]
        show l.take k :: (chunk k c (l.drop k)).take n = x :: r
        rw [h1, ih (by rw [List.length_drop]; omega) (by omega) (fun y hy => hr y (List.mem_cons_of_mem _ hy)) (by simpa using hv) h3]

theorem flat_take {k : Nat} {vs : List (List Value)} (h : ∀ r ∈ vs, r.length = k) (i : Nat) (hi : i ≤ vs.length) : (vs.take i).flatten = vs.flatten.take (i * k) := by
  induction vs generalizing i with
  | nil => simp
  | cons x r ih =>
    have hx := h x List.mem_cons_self
    cases i with
    | zero => simp
    | succ i =>
      rw [List.take_succ_cons, List.flatten_cons, List.flatten_cons, ih (fun y hy => h y (List.mem_cons_of_mem _ hy)) i (by simpa using hi), List.take_append, hx, Nat.succ_mul, Nat.add_sub_cancel, List.take_of_length_le (l := x) (by omega)]

/-- Cells written, one behind another. -/
def write : List Value → Nat → List Value → List Value
  | l, _, [] => l
  | l, o, v :: r => write (l.set o v) (o + 1) r

theorem write_len (u : List Value) : ∀ (l : List Value) (o : Nat), (write l o u).length = l.length := by
  induction u with
  | nil => intro l o; rfl
  | cons v r ih => intro l o; show (write (l.set o v) (o + 1) r).length = _; rw [ih]; simp

theorem write_take (u : List Value) : ∀ (l : List Value) (o p : Nat), p ≤ o → (write l o u).take p = l.take p := by
  induction u with
  | nil => intro l o p h; rfl
  | cons v r ih =>
    intro l o p h
    show (write (l.set o v) (o + 1) r).take p = _
    rw [ih _ _ _ (by omega), List.take_set_of_le h]

theorem write_pre (u : List Value) : ∀ (pre x rest : List Value), x.length = u.length → write (pre ++ x ++ rest) pre.length u = pre ++ u ++ rest := by
  induction u with
  | nil =>
    intro pre x rest h
    rw [List.eq_nil_of_length_eq_zero h]
    rfl
  | cons v r ih =>
    intro pre x rest h
    cases x with
    | nil => simp at h
    | cons y x =>
      show write ((pre ++ (y :: x) ++ rest).set pre.length v) (pre.length + 1) r = _
      have e : (pre ++ (y :: x) ++ rest).set pre.length v = (pre ++ [v]) ++ x ++ rest := by
        rw [List.append_assoc, List.set_append_right _ _ (Nat.le_refl _), Nat.sub_self]
        simp
      have h2 := ih (pre ++ [v]) x rest (by simpa using h)
      rw [List.length_append] at h2
      rw [e]
      refine h2.trans ?_
      simp

theorem write_row {k : Nat} {u : List Value} (hu : u.length = k) : ∀ (arr : List (List Value)) (i : Nat), (∀ r ∈ arr, r.length = k) → i < arr.length → write arr.flatten (i * k) u = (arr.set i u).flatten := by
  intro arr i hr hi
  have h1 : arr.flatten = (arr.take i).flatten ++ arr[i] ++ (arr.drop (i + 1)).flatten := by
    conv => lhs; rw [← List.take_append_drop i arr, List.drop_eq_getElem_cons hi, List.flatten_append, List.flatten_cons, ← List.append_assoc]
  have h2 : (arr.take i).flatten.length = i * k := by
    rw [flat_len (k := k) (fun r h => hr r (List.mem_of_mem_take h)), List.length_take, Nat.min_eq_left (Nat.le_of_lt hi)]
  have h3 := write_pre u (arr.take i).flatten arr[i] (arr.drop (i + 1)).flatten (by rw [hr _ (List.getElem_mem hi), hu])
  rw [h2, ← h1] at h3
  rw [h3, List.set_eq_take_append_cons_drop, if_pos hi, List.flatten_append, List.flatten_cons, List.append_assoc]

/-- A block that is a row of rows. -/
def RowsAt (w : World) (G : Nat) (e : TypeId) (k c : Nat) (arr : List (List Value)) : Prop :=
  ∃ cur : Array Value, w.heap[G]? = some (.cells cur e (0, 0)) ∧ cur.toList = arr.flatten ∧ arr.length = c ∧ ∀ r ∈ arr, r.length = k

theorem RowsAt.len {w : World} {G : Nat} {e : TypeId} {k c : Nat} {arr : List (List Value)} (h : RowsAt w G e k c arr) : arr.length = c := by
  obtain ⟨_, _, _, h, _⟩ := h; exact h
theorem RowsAt.row {w : World} {G : Nat} {e : TypeId} {k c : Nat} {arr : List (List Value)} (h : RowsAt w G e k c arr) : ∀ r ∈ arr, r.length = k := by
  obtain ⟨_, _, _, _, h⟩ := h; exact h
theorem RowsAt.lt {w : World} {G : Nat} {e : TypeId} {k c : Nat} {arr : List (List Value)} (h : RowsAt w G e k c arr) : G < w.heap.size := by
  obtain ⟨cur, hh, _⟩ := h
  exact (Array.getElem?_eq_some_iff.1 hh).1
theorem RowsAt.cell {w : World} {G : Nat} {e : TypeId} {k c : Nat} {arr : List (List Value)} (h : RowsAt w G e k c arr) {i : Nat} {r : List Value} (hr : arr[i]? = some r) {j : Nat} {x : Value} (hx : r[j]? = some x) : w.cell? ⟨G, i * k + j, none⟩ = some x := by
  obtain ⟨cur, hh, hf, hl, hk⟩ := h
  have hj : j < k := by
    have h1 := (List.getElem?_eq_some_iff.1 hx).1
    rw [hk r (List.mem_of_getElem? hr)] at h1
    exact h1
  rw [cell_of_row _ G (i * k + j) cur e _ hh, ← Array.getElem?_toList, hf, flat_at hk i j hj, hr]
  exact hx
theorem RowsAt.isSome {w : World} {G : Nat} {e : TypeId} {k c : Nat} {arr : List (List Value)} (h : RowsAt w G e k c arr) {t : Nat} (ht : t < c * k) : (w.cell? ⟨G, t, none⟩).isSome = true := by
  obtain ⟨cur, hh, hf, hl, hk⟩ := h
  rw [cell_of_row _ G t cur e _ hh, ← Array.getElem?_toList, hf, List.getElem?_eq_getElem (by rw [flat_len hk, hl]; exact ht)]
  rfl
theorem RowsAt.frozen {w : World} {G : Nat} {e : TypeId} {k c : Nat} {arr : List (List Value)} (h : RowsAt w G e k c arr) (i : Nat) : w.frozen? ⟨G, i, none⟩ = false := by
  obtain ⟨cur, hh, _⟩ := h
  simp [World.frozen?, hh]
theorem RowsAt.next {w w' : World} {G : Nat} {e : TypeId} {k c : Nat} {arr : List (List Value)} (h : RowsAt w G e k c arr) (hb : Below w.heap.size w w') : RowsAt w' G e k c arr := by
  have hl := h.lt
  obtain ⟨cur, hh, h2⟩ := h
  exact ⟨cur, by rw [hb.block G hl]; exact hh, h2⟩

theorem sets_block {G : Nat} {e : TypeId} : ∀ (u : List Value) (w : World) (o : Nat) (cur : Array Value), w.heap[G]? = some (.cells cur e (0, 0)) → ∃ cur', (w.setCells G o u).heap[G]? = some (.cells cur' e (0, 0)) ∧ cur'.toList = write cur.toList o u := by
  intro u
  induction u with
  | nil => intro w o cur h; exact ⟨cur, h, rfl⟩
  | cons v r ih =>
    intro w o cur h
    have h1 : (w.setCell ⟨G, o, none⟩ v).heap[G]? = .some (.cells (cur.setIfInBounds o v) e (0, 0)) := by
      simp [World.setCell, Array.getElem?_modify, h]
    obtain ⟨cur', h2, h3⟩ := ih (w.setCell ⟨G, o, none⟩ v) (o + 1) _ h1
    refine ⟨cur', h2, ?_⟩
    rw [h3]
    simp [write]

theorem RowsAt.set {w : World} {G : Nat} {e : TypeId} {k c : Nat} {arr : List (List Value)} (h : RowsAt w G e k c arr) {i : Nat} (hi : i < c) {u : List Value} (hu : u.length = k) : RowsAt (w.setCells G (i * k) u) G e k c (arr.set i u) := by
  obtain ⟨cur, hh, hf, hl, hk⟩ := h
  obtain ⟨cur', h1, h2⟩ := sets_block u w (i * k) cur hh
  refine ⟨cur', h1, ?_, by simpa using hl, fun r hr => ?_⟩
  · rw [h2, hf, write_row hu arr i hk (by omega)]
  · rcases List.mem_or_eq_of_mem_set hr with hr | rfl
    · exact hk r hr
    · exact hu

theorem RowsAt.wipe {w : World} {G : Nat} {e : TypeId} {k c : Nat} {arr : List (List Value)} (h : RowsAt w G e k c arr) {i : Nat} (hi : i ≤ c) (u : List Value) : ∃ arr', RowsAt (w.setCells G (i * k) u) G e k c arr' ∧ arr'.take i = arr.take i := by
  obtain ⟨cur, hh, hf, hl, hk⟩ := h
  obtain ⟨cur', h1, h2⟩ := sets_block u w (i * k) cur hh
  have hlen : cur'.toList.length = c * k := by rw [h2, write_len, hf, flat_len hk, hl]
  refine ⟨chunk k c cur'.toList, ⟨cur', h1, (chunk_flat hlen).symm, chunk_len _ _ _, chunk_row hlen⟩, ?_⟩
  refine chunk_take hlen hi (fun r hr => hk r (List.mem_of_mem_take hr)) (by rw [List.length_take, hl]; omega) ?_
  rw [h2, write_take _ _ _ _ (Nat.le_refl _), hf, flat_take hk i (by omega)]

/-- What is owned, as rows. -/
theorem of_own {w : World} {B : Nat} {e : TypeId} {k : Nat} {a : Option Addr} {n c : Nat} {vs : List (List Value)} (h : w.ownsRow B e k (.slice a n c) n vs.flatten) (hr : ∀ r ∈ vs, r.length = k) (hv : vs.length = n) :
    (a = none ∧ n = 0 ∧ c = 0) ∨ ∃ G arr, a = some ⟨G, 0, none⟩ ∧ B ≤ G ∧ n ≤ c ∧ c ≤ maxLen ∧ RowsAt w G e k c arr ∧ arr.take n = vs := by
  rcases h.2 with ⟨hv', hnil⟩ | ⟨g, cap, cur, hv', hgB, hh, q1, q2, q3, q4⟩
  · simp only [Value.slice.injEq] at hv'
    exact .inl hv'
  · simp only [Value.slice.injEq, true_and] at hv'
    obtain ⟨rfl, rfl⟩ := hv'
    have hlen : cur.toList.length = c * k := by rw [Array.length_toList, q3]
    exact .inr ⟨g, chunk k c cur.toList, rfl, hgB, q1, q2, ⟨cur, hh, (chunk_flat hlen).symm, chunk_len _ _ _, chunk_row hlen⟩, chunk_take hlen q1 hr hv q4⟩

theorem RowsAt.own {w : World} {G : Nat} {e : TypeId} {k c : Nat} {arr : List (List Value)} (h : RowsAt w G e k c arr) {B i : Nat} (hB : B ≤ G) (hi : i ≤ c) (hc : c ≤ maxLen) : w.ownsRow B e k (.slice (some ⟨G, 0, none⟩) i c) i (arr.take i).flatten := by
  obtain ⟨cur, hh, hf, hl, hk⟩ := h
  have h1 := flat_take hk i (by omega)
  refine ⟨?_, .inr ⟨G, c, cur, rfl, hB, hh, hi, hc, ?_, ?_⟩⟩
  · rw [flat_len (k := k) (fun r hr => hk r (List.mem_of_mem_take hr)), List.length_take, hl, Nat.min_eq_left hi]
  · rw [← Array.length_toList, hf, flat_len hk, hl]
  · rw [hf, h1]

/-- 'clear' of a slice of structs. -/
theorem run_clear {P : Program} (w : World) (t e ty : TypeId) (z : Value) (ht : P.underlying t = some (.slice e)) (hv : ∀ w, (zeroValue e).run P w = .ok z w) (k : Nat) (hz : z.cells.size = k) (h1 : ∀ v ∈ z.cells.toList, v.oneCell' = true) (hk : 0 < k) (b o n c : Nat) (hn : 0 < n)
    (hc : ∀ j, j < n * k → (w.cell? ⟨b, o + j, none⟩).isSome = true) (hf : ∀ j, j < n * k → w.frozen? ⟨b, o + j, none⟩ = false) :
    (Builtin.clear_ #[t] ty #[.slice (some ⟨b, o, none⟩) n c]).run P w = .ok (.tuple #[]) (w.setCells b o (Builtin.zeroCells z.cells n).toList) := by
  have hlen : (Builtin.zeroCells z.cells n).toList.length = n * k := by simp [Builtin.zeroCells, hz]
  have hst := run_storeCells_cells (P := P) b o (Builtin.zeroCells z.cells n).toList 0 w (by rw [hlen]; simpa using hc) (by rw [hlen]; simpa using hf) (by
    intro v hv'
    simp only [Builtin.zeroCells, Array.toList_map, List.mem_map] at hv'
    obtain ⟨i, _, rfl⟩ := hv'
    have hi : i % z.cells.size < z.cells.size := Nat.mod_lt _ (by omega)
    rw [getElem!_pos z.cells (i % z.cells.size) hi]
    exact h1 _ (Array.getElem_mem_toList hi))
  simp only [Nat.add_zero] at hst
  obtain ⟨m, rfl⟩ : ∃ m, n = m + 1 := ⟨n - 1, by omega⟩
  simp [Builtin.clear_, run_underlying ht, hv, hst]

/-! ### What is kept. -/
/-- What is kept of the first j. -/
def kp {α : Type} (p : α → Bool) (ps : List (List Value × α)) (j : Nat) : List (List Value × α) := (ps.take j).filter fun q => !p q.2

theorem kp_more {α : Type} {p : α → Bool} {ps : List (List Value × α)} {j : Nat} (hj : j < ps.length) : kp p ps (j + 1) = kp p ps j ++ (if p ps[j].2 = true then [] else [ps[j]]) := by
  unfold kp
  rw [List.take_succ_eq_append_getElem hj, List.filter_append]
  cases h : p ps[j].2 <;> simp [h]

theorem kp_len {α : Type} (p : α → Bool) (ps : List (List Value × α)) (j : Nat) : (kp p ps j).length ≤ j := by
  have := List.length_filter_le (fun q : List Value × α => !p q.2) (ps.take j)
  rw [List.length_take] at this
  unfold kp
  omega

theorem kp_snd {α : Type} {p : α → Bool} {vals : List (List Value)} {xs : List α} (h : vals.length = xs.length) : (kp p (vals.zip xs) xs.length).map Prod.snd = xs.filter fun x => !p x := by
  unfold kp
  rw [List.take_of_length_le (by rw [List.length_zip]; omega)]
  induction vals generalizing xs with
  | nil => cases xs with
    | nil => rfl
    | cons y r => simp at h
  | cons x r ih =>
    cases xs with
    | nil => simp at h
    | cons y q =>
      have := ih (xs := q) (by simpa using h)
      cases hp : p y <;> simp [List.filter_cons, hp, this]

theorem kp_first {α : Type} {p : α → Bool} {vals : List (List Value)} {xs : List α} {k0 : Nat} (h : vals.length = xs.length) (hk0 : k0 < xs.length) (ht : p xs[k0] = true) (hall : ∀ b ∈ (xs.map p).take k0, b = false) : kp p (vals.zip xs) (k0 + 1) = (vals.zip xs).take k0 := by
  have hkz : k0 < (vals.zip xs).length := by rw [List.length_zip]; omega
  rw [kp_more hkz]
  have hp0 : p (vals.zip xs)[k0].2 = true := by
    rw [List.getElem_zip]
    simpa using ht
  rw [if_pos hp0, List.append_nil]
  unfold kp
  rw [List.filter_eq_self]
  intro q hq
  obtain ⟨i, hi, rfl⟩ := List.getElem_of_mem hq
  rw [List.length_take] at hi
  rw [List.getElem_take, List.getElem_zip]
  have hm : p (xs[i]'(by omega)) ∈ (xs.map p).take k0 := by
    refine List.mem_iff_getElem.2 ⟨i, by rw [List.length_take, List.length_map]; omega, ?_⟩
    rw [List.getElem_take, List.getElem_map]
  rw [hall _ hm]
  rfl

theorem idx_cases (ps : List Bool) : ∀ k, (idx id ps k = -1 ∧ ∀ b ∈ ps, b = false) ∨ ∃ i, ∃ h : i < ps.length, idx id ps k = ((k + i : Nat) : Int) ∧ ps[i] = true ∧ ∀ b ∈ ps.take i, b = false := by
  induction ps with
  | nil => intro k; exact .inl ⟨rfl, by simp⟩
  | cons b r ih =>
    intro k
    cases hb : b
    · rcases ih (k + 1) with ⟨h1, h2⟩ | ⟨i, hi, h1, h2, h3⟩
      · exact .inl ⟨by unfold idx; simpa using h1, by intro c hc; rcases List.mem_cons.1 hc with rfl | hc; rfl; exact h2 c hc⟩
      · refine .inr ⟨i + 1, by simpa using hi, ?_, by simpa using h2, ?_⟩
        · unfold idx
          simp only [id_eq, Bool.false_eq_true, if_false]
          rw [h1]; congr 1; omega
        · intro c hc
          rw [List.take_succ_cons] at hc
          rcases List.mem_cons.1 hc with rfl | hc
          · rfl
          · exact h3 c hc
    · exact .inr ⟨0, by simp, by unfold idx; simp, rfl, by simp⟩

theorem kp_all {α : Type} {p : α → Bool} {xs : List α} (hall : ∀ b ∈ xs.map p, b = false) : xs.filter (fun x => !p x) = xs := by
  rw [List.filter_eq_self]
  intro x hx
  rw [hall (p x) (List.mem_map.2 ⟨x, hx, rfl⟩)]
  rfl

/-- A row that was kept is one of those that were there. -/
theorem kp_mem {α : Type} {p : α → Bool} {vals : List (List Value)} {xs : List α} {j k : Nat} {v : List Value} {x : α} (hv : ((kp p (vals.zip xs) j).map Prod.fst)[k]? = some v) (hx : ((kp p (vals.zip xs) j).map Prod.snd)[k]? = some x) : ∃ i : Nat, vals[i]? = some v ∧ xs[i]? = some x := by
  rw [List.getElem?_map, Option.map_eq_some_iff] at hv hx
  obtain ⟨q, hq, rfl⟩ := hv
  obtain ⟨q', hq', rfl⟩ := hx
  rw [hq] at hq'
  simp only [Option.some.injEq] at hq'
  subst hq'
  have hm : q ∈ vals.zip xs := List.mem_of_mem_take (List.mem_filter.1 (List.mem_of_getElem? hq)).1
  obtain ⟨i, hi, hqe⟩ := List.getElem_of_mem hm
  rw [List.getElem_zip] at hqe
  rw [List.length_zip] at hi
  refine ⟨i, ?_, ?_⟩
  · rw [List.getElem?_eq_getElem (by omega), ← hqe]
  · rw [List.getElem?_eq_getElem (by omega), ← hqe]
end RowsK
end Go.Proofs.YtninglnchengeaaGreat

/-
  slices.DeleteFunc of []int, on a slice of the call's own; the predicate is told of its elements alone.
-/
namespace Go.Proofs.YtninglnchengeaaGreat
open Go.RowKit Base RowsK
set_option linter.unusedVariables false
set_option linter.unusedSimpArgs false
namespace DelN

def tris (l : List Int) : List (List Value) := l.map fun x => [.int .i64 x]
theorem tris_row (l : List Int) : ∀ r ∈ tris l, r.length = 1 := by
  intro r hr
  obtain ⟨x, _, rfl⟩ := List.mem_map.1 hr
  rfl
theorem tris_flat (l : List Int) : (tris l).flatten = ints l := by
  induction l with
  | nil => rfl
  | cons x r ih => show _ :: (tris r).flatten = _; rw [ih]; rfl

def fl (p : Int → Bool) (l : List Int) : List Int := l.filter fun x => !p x
theorem fl_more {p : Int → Bool} {l : List Int} {j : Nat} (hj : j < l.length) : fl p (l.take (j + 1)) = fl p (l.take j) ++ (if p l[j] = true then [] else [l[j]]) := by
  unfold fl
  rw [List.take_succ_eq_append_getElem hj, List.filter_append]
  cases h : p l[j] <;> simp [h]
theorem fl_all {p : Int → Bool} {l : List Int} (hall : ∀ b ∈ l.map p, b = false) : fl p l = l := kp_all hall

set_option maxRecDepth 4000 in
set_option maxHeartbeats 8000000 in
theorem del_own (w : World) (B : Nat) (a : Option Addr) (n c : Nat) (l : List Int) (hn : l.length = n) (hown : w.ownsRow B 3 1 (.slice a n c) n (tris l).flatten) (hB : B ≤ w.heap.size)
    (g : FuncId) (lb : Array Value) (p : Int → Bool) (eg : SlfI.Enters g)
    (hg : ∀ W, w.grownBy W (Value.slice a n c).ownBlock → ∀ t ∈ l, Calls Tryz.prog g (#[.int .i64 t] ++ lb) W fun e w' => e = .returned (.bool (p t)) ∧ Below W.heap.size W w') :
    Calls Tryz.prog 22 #[.slice a n c, .func (.func g) #[] lb] w fun e w' => ∃ n', e = .returned (.slice a n' c) ∧ n' = (fl p l).length ∧ w'.ownsRow B 3 1 (.slice a n' c) n' (tris (fl p l)).flatten ∧ w.grownBy w' (Value.slice a n c).ownBlock := by
  have hsl : Sl w a n c (ints l) := Circuit.own_sl' (by rw [← tris_flat]; exact hown)
  have IF := SlfI.indexFunc w a n c (ints l) g #[] lb (l.map p) hsl (by rw [List.length_map]; exact hn) eg (by
    intro W hW k v b hv hb
    obtain ⟨hk, rfl⟩ := Base.ints_at hv
    rw [List.getElem?_map, List.getElem?_eq_getElem hk] at hb
    simp only [Option.map_some, Option.some.injEq] at hb
    subst hb
    exact hg W (grown_of_below hW) _ (List.getElem_mem hk))
  have hcap := hsl.cap
  have hbig := hsl.big
  have HOW := Lib.hid hown
  have HG := Lib.hid hg
  have HL := Lib.hid hn
  have hmf : ∀ args W, (callFunc g args).run Tryz.prog W = .ok (.enter g args) W := eg
  rcases idx_cases (l.map p) 0 with ⟨h1, hall⟩ | ⟨k0, hk0, h1, ht, hall⟩
  · rw [h1] at IF
    have HF := Lib.hid IF
    have HE : Hid (fl p l = l) := fl_all hall
    clear hown hg hsl hn IF h1 hall
    go_enter Tryz.func22, Tryz.ntmps22
    go_wp2_with fail
    refine HF.out.mono ?_
    rintro e w1 ⟨rfl, hb1⟩
    have HB := Lib.hid hb1
    clear hb1
    go_wp2_with fail
    go_ret
    exact ⟨n, rfl, by rw [HE.out, HL.out], by rw [HE.out]; exact own_next HOW.out HB.out, grown_of_below HB.out⟩
  · rw [h1, Nat.zero_add] at IF
    have HF := Lib.hid IF
    have hk0n : k0 < n := by rw [List.length_map] at hk0; omega
    rcases of_own hown (tris_row l) (by unfold tris; rw [List.length_map]; exact hn) with ⟨_, hv, _⟩ | ⟨G, arr0, rfl, hGB, q1, q2, hR, htk0⟩
    · omega
    · have HR := Lib.hid hR
      have HQ := Lib.hid (And.intro hGB (And.intro q1 q2))
      have hcv : ∀ k, k < n → arr0[k]? = (tris l)[k]? := by
        intro k hk
        have := congrArg (fun l : List (List Value) => l[k]?) htk0
        rwa [List.getElem?_take_of_lt hk] at this
      have HCV := Lib.hid hcv
      have HK0 : Hid (fl p (l.take (k0 + 1)) = l.take k0) := by
        show _ = _
        rw [List.length_map] at hk0
        rw [fl_more hk0]
        have hp0 : p l[k0] = true := by simpa using ht
        rw [if_pos hp0, List.append_nil]
        exact fl_all (by rw [List.map_take]; exact hall)
      have hob : (Value.slice (some ⟨G, 0, none⟩) n c).ownBlock = some G := rfl
      rw [hob] at HG
      clear hown hg hsl IF h1 hall ht hR hGB q1 q2 hcv hob
      go_enter Tryz.func22, Tryz.ntmps22
      clear hn
      have HT0 := Lib.hid htk0
      clear htk0
      go_wp2_with fail
      refine HF.out.mono ?_
      rintro e w1 ⟨rfl, hb1⟩
      have HB := Lib.hid hb1
      clear hb1
      have hkm : ((k0 : Int) == -1) = false := beq_eq_false_iff_ne.2 (by omega)
      go_wp2_with fail
      go_loopw [5, 6] (fun s5 s6 wr => ∃ (i j : Nat) (arr : List (List Value)), s5 = .int .i64 i ∧ s6 = .int .i64 j ∧ j ≤ n ∧ i < j ∧ Hid ((fl p (l.take j)).length = i) ∧ Hid (RowsAt wr G 3 1 c arr) ∧ Hid (arr.take i = tris (fl p (l.take j))) ∧
        Hid (∀ k, j ≤ k → k < n → arr[k]? = (tris l)[k]?) ∧ Hid (w.grownBy wr (some G))) (fun _ s6 _ => n - (intOf s6).toNat)
      case atStart =>
        refine ⟨k0, k0 + 1, arr0, rfl, by go_num, by omega, by omega, ?_, HR.out.next HB.out, ?_, fun k h1 h2 => HCV.out k h2, grown_of_below HB.out⟩
        · show _ = _
          rw [HK0.out, List.length_take, HL.out]; omega
        · show _ = _
          rw [HK0.out]
          have := congrArg (fun l : List (List Value) => l.take k0) HT0.out
          rw [List.take_take, Nat.min_eq_left (Nat.le_of_lt hk0n)] at this
          rw [this]
          unfold tris
          rw [List.map_take]
      case round =>
        obtain ⟨i, j, arr, rfl, rfl, hjn, hij, hlen, hrow, htk, hrest, hgr⟩ := hrel
        by_cases hlt : j < n
        · have hjl : j < l.length := by rw [HL.out]; exact hlt
          have hvt : (tris l)[j]? = some [.int .i64 l[j]] := by unfold tris; rw [List.getElem?_map, List.getElem?_eq_getElem hjl]; rfl
          have hvj := (hrest.out j (Nat.le_refl _) hlt).trans hvt
          have d0 := hrow.out.cell hvj (j := 0) rfl
          rw [Nat.add_zero, Nat.mul_one] at d0
          have HKM := Lib.hid (fl_more (p := p) hjl)
          have HMEM : Hid (l[j] ∈ l) := List.getElem_mem _
          generalize l[j] = t at *
          have CALL := Lib.hid (HG.out wr hgr.out t HMEM.out)
          have hal := hrow.out.len
          have HAL := Lib.hid hal
          have HR5 := hrow
          have HG5 := hgr
          clear hvt hvj hal hjl
          have hjlt : (j : Int) < (n : Int) := by omega
          cases hp : p t
          · rw [hp] at CALL HKM
            clear hp
            go_wp2_with fail
            refine CALL.out.mono ?_
            rintro e w2 ⟨rfl, hb2⟩
            have hr2 := HR5.out.next hb2
            have hic : i < c := by omega
            obtain ⟨y0, hy0⟩ := Option.isSome_iff_exists.1 (hr2.isSome (t := i) (by omega))
            have f0 := hr2.frozen i
            have hst := hr2.set hic (u := [.int .i64 t]) rfl
            rw [Nat.mul_one] at hst
            have HR2 := Lib.hid hst
            have HG2 := Lib.hid (grown_sets [.int .i64 t] w2 i (grown_below HG5.out hb2))
            clear hb2 hr2 d0 hst
            go_wp2_with fail
            go_roundw
            case rel =>
              refine ⟨i + 1, j + 1, arr.set i [.int .i64 t], by go_num, by go_num, by omega, by omega, ?_, HR2.out, ?_, ?_, HG2.out⟩
              · show _ = _
                rw [HKM.out]; simp [hlen.out]
              · show _ = _
                rw [HKM.out]
                simp only [Bool.false_eq_true, if_false]
                rw [List.take_succ_eq_append_getElem (by rw [List.length_set, HAL.out]; exact hic), List.getElem_set_self, List.take_set_of_le (Nat.le_refl _), htk.out]
                unfold tris
                rw [List.map_append]
                rfl
              · intro k h1 h2
                rw [List.getElem?_set_ne (by omega)]
                exact hrest.out k (by omega) h2
            case measure => simp [intOf]; omega
          · rw [hp] at CALL HKM
            clear hp
            go_wp2_with fail
            refine CALL.out.mono ?_
            rintro e w2 ⟨rfl, hb2⟩
            have HR2 := Lib.hid (HR5.out.next hb2)
            have HG2 := Lib.hid (grown_below HG5.out hb2)
            clear hb2 d0
            go_wp2_with fail
            go_roundw
            case rel =>
              refine ⟨i, j + 1, arr, rfl, by go_num, by omega, by omega, ?_, HR2.out, ?_, fun k h1 h2 => hrest.out k (by omega) h2, HG2.out⟩
              · show _ = _
                rw [HKM.out]; simp [hlen.out]
              · show _ = _
                rw [HKM.out]; simp [htk.out]
            case measure => simp [intOf]; omega
        · obtain rfl : j = n := by omega
          have hal := hrow.out.len
          have hjc := HQ.out.2.1
          have hci : ¬ c = i := by omega
          have hin : i ≤ j := by omega
          have hcl : ∀ ty, (Builtin.clear_ #[22] ty #[.slice (some ⟨G, i, none⟩) (j - i) (c - i)]).run Tryz.prog wr = .ok (.tuple #[]) (wr.setCells G i (Builtin.zeroCells (Value.int .i64 0).cells (j - i)).toList) :=
            fun ty => RowsK.run_clear wr _ _ ty _ Tryz.underlying22 Tryz.zeroValue3 1 rfl (by intro v hv; simp [Value.cells] at hv; subst hv; rfl) (by decide) G i _ _ (by omega) (fun t ht => hrow.out.isSome (by omega)) (fun t ht => hrow.out.frozen _)
          obtain ⟨arr', hR', hT'⟩ := hrow.out.wipe (i := i) (by omega) (Builtin.zeroCells (Value.int .i64 0).cells (j - i)).toList
          rw [Nat.mul_one] at hR'
          have HRR := Lib.hid hR'
          have HTT := Lib.hid (hT'.trans htk.out)
          have HGG := Lib.hid (grown_sets (Builtin.zeroCells (Value.int .i64 0).cells (j - i)).toList wr i hgr.out)
          have HLI := hlen
          clear hR' hT' hrow htk hrest hgr hlen hal
          have hji : ¬ (j : Int) < (j : Int) := by omega
          go_wp2_with fail
          go_ret
          have hfin : l.take j = l := List.take_of_length_le (Nat.le_of_eq HL.out)
          have h1 := HLI.out
          have h2 := HTT.out
          rw [hfin] at h1 h2
          exact ⟨i, rfl, h1.symm, by rw [← h2]; exact HRR.out.own HQ.out.1 (by omega) HQ.out.2.2, HGG.out⟩

end DelN
end Go.Proofs.YtninglnchengeaaGreat

/-
  slices.IndexFunc at one instance (elements of three integers), whatever predicate is handed over: ps says of each element what the predicate gives.
-/
namespace Go.Proofs.YtninglnchengeaaGreat
open Go.RowKit Base
set_option linter.unusedVariables false
namespace SlfL

/-- A function value gives ps of the elements, and turns nothing that is there. -/
def Gives (w : World) (g : FuncId) (fs lb : Array Value) (vs : List Tri) (ps : List Bool) : Prop :=
  ∀ W, Below w.heap.size w W → ∀ (k : Nat) (v : Tri) (b : Bool), vs[k]? = some v → ps[k]? = some b → Calls Tryz.prog g (fs.push (.agg #[.int .i64 v.1, .int .i64 v.2.1, .int .i64 v.2.2]) ++ lb) W fun e w' => e = .returned (.bool b) ∧ Below W.heap.size W w'

def Enters (g : FuncId) : Prop := ∀ args w, (callFunc g args).run Tryz.prog w = .ok (.enter g args) w

theorem idx_hit (ps : List Bool) (k : Nat) (h : ps[k]? = some true) : idx id (ps.drop k) k = k := by
  obtain ⟨hk, e⟩ := List.getElem?_eq_some_iff.1 h
  rw [List.drop_eq_getElem_cons hk]; unfold idx; rw [e]; rfl
theorem idx_miss (ps : List Bool) (k : Nat) (h : ps[k]? = some false) : idx id (ps.drop k) k = idx id (ps.drop (k + 1)) (k + 1) := by
  obtain ⟨hk, e⟩ := List.getElem?_eq_some_iff.1 h
  rw [List.drop_eq_getElem_cons hk]
  show (if id ps[k] = true then _ else _) = _
  rw [e]; rfl

set_option maxHeartbeats 1000000 in
theorem indexFunc (w : World) (a : Option Addr) (n c : Nat) (vs : List Tri) (g : FuncId) (fs lb : Array Value) (ps : List Bool)
    (hs : SlT w 3 a n c (tris vs)) (hps : ps.length = n) (eg : Enters g) (hg : Gives w g fs lb vs ps) :
    Calls Tryz.prog 54 #[.slice a n c, .func (.func g) fs lb] w fun e w' => e = .returned (.int .i64 (idx id ps 0)) ∧ Below w.heap.size w w' := by
  have hcap := hs.cap
  have hbig := hs.big
  have HPS := Lib.hid hps
  have HG := Lib.hid hg
  clear hg hps
  unfold Enters at eg
  go_enter Tryz.func54, Tryz.ntmps54
  go_wp2
  go_loopw [5, 8] (fun _ i wr => ∃ k : Nat, k ≤ n ∧ i = .int .i64 k ∧ Below w.heap.size w wr ∧ Hid (idx id ps 0 = idx id (ps.drop k) k)) (fun _ i _ => n - (intOf i).toNat)
  case atStart => exact ⟨0, Nat.zero_le _, rfl, Below.refl _ _, rfl⟩
  case round =>
    obtain ⟨k, hk, rfl, hb, hI⟩ := hrel
    by_cases hlt : k < n
    · obtain ⟨b, o, hx, rfl, hbs, hc0, hc1, hc2⟩ := hs.tri hlt
      have d0 := (hb.cell (p := ⟨b, o + k * 3, none⟩) hbs).trans hc0
      have d1 := (hb.cell (p := ⟨b, o + k * 3 + 1, none⟩) hbs).trans hc1
      have d2 := (hb.cell (p := ⟨b, o + k * 3 + 2, none⟩) hbs).trans hc2
      have HV := Lib.hid (List.getElem?_eq_getElem hx)
      clear hc0 hc1 hc2
      generalize vs[k] = t at *
      obtain ⟨t0, t1, t2⟩ := t
      simp only at d0 d1 d2
      obtain ⟨q, hq⟩ : ∃ q, ps[k]? = some q := ⟨_, List.getElem?_eq_getElem (by have := HPS.out; omega)⟩
      have HQ := Lib.hid hq
      clear hq
      cases q
      all_goals
        go_wp2_with fail
        refine (HG.out wr hb k (t0, t1, t2) _ HV.out HQ.out).mono ?_
        rintro e w1 ⟨rfl, hb1⟩
        go_wp2_with fail
      · go_roundw
        case rel => exact ⟨k + 1, by omega, by go_num, hb.trans (hb1.mono hb.size), hI.out.trans (idx_miss ps k HQ.out)⟩
        case measure => simp [intOf]; omega
      · go_ret
        exact ⟨ret_int (by rw [hI.out, idx_hit ps k HQ.out]), hb.trans (hb1.mono hb.size)⟩
    · go_wp2
      go_ret
      exact ⟨ret_int (by rw [hI.out, List.drop_of_length_le (by rw [HPS.out]; omega)]; rfl), hb⟩

end SlfL
end Go.Proofs.YtninglnchengeaaGreat

/-
  slices.DeleteFunc of []api.Latch, on a slice of the call's own.
-/
namespace Go.Proofs.YtninglnchengeaaGreat
open Go.RowKit Base RowsK
set_option linter.unusedVariables false
set_option linter.unusedSimpArgs false
namespace DelL

def fl (p : Tri → Bool) (l : List Tri) : List Tri := l.filter fun x => !p x
theorem fl_more {p : Tri → Bool} {l : List Tri} {j : Nat} (hj : j < l.length) : fl p (l.take (j + 1)) = fl p (l.take j) ++ (if p l[j] = true then [] else [l[j]]) := by
  unfold fl
  rw [List.take_succ_eq_append_getElem hj, List.filter_append]
  cases h : p l[j] <;> simp [h]
theorem fl_all {p : Tri → Bool} {l : List Tri} (hall : ∀ b ∈ l.map p, b = false) : fl p l = l := kp_all hall

set_option maxRecDepth 4000 in
set_option maxHeartbeats 8000000 in
theorem del_own (w : World) (B : Nat) (a : Option Addr) (n c : Nat) (l : List Tri) (hn : l.length = n) (hown : w.ownsRow B 41 3 (.slice a n c) n (tris l).flatten) (hB : B ≤ w.heap.size)
    (g : FuncId) (lb : Array Value) (p : Tri → Bool) (eg : SlfL.Enters g)
    (hg : ∀ W, w.grownBy W (Value.slice a n c).ownBlock → ∀ t ∈ l, Calls Tryz.prog g (#[.agg #[.int .i64 t.1, .int .i64 t.2.1, .int .i64 t.2.2]] ++ lb) W fun e w' => e = .returned (.bool (p t)) ∧ Below W.heap.size W w') :
    Calls Tryz.prog 25 #[.slice a n c, .func (.func g) #[] lb] w fun e w' => ∃ n', e = .returned (.slice a n' c) ∧ n' = (fl p l).length ∧ w'.ownsRow B 41 3 (.slice a n' c) n' (tris (fl p l)).flatten ∧ w.grownBy w' (Value.slice a n c).ownBlock := by
  have hsl := Circuit.own_slT' (tris_row l) (by unfold tris; rw [List.length_map]; exact hn) hown
  have IF := SlfL.indexFunc w a n c l g #[] lb (l.map p) hsl (by rw [List.length_map]; exact hn) eg (by
    intro W hW k v b hv hb
    rw [List.getElem?_map, hv] at hb
    simp only [Option.map_some, Option.some.injEq] at hb
    subst hb
    exact hg W (grown_of_below hW) v (List.mem_of_getElem? hv))
  have hcap := hsl.cap
  have hbig := hsl.big
  have HOW := Lib.hid hown
  have HG := Lib.hid hg
  have HL := Lib.hid hn
  have hmf : ∀ args W, (callFunc g args).run Tryz.prog W = .ok (.enter g args) W := eg
  rcases idx_cases (l.map p) 0 with ⟨h1, hall⟩ | ⟨k0, hk0, h1, ht, hall⟩
  · rw [h1] at IF
    have HF := Lib.hid IF
    have HE : Hid (fl p l = l) := fl_all hall
    clear hown hg hsl hn IF h1 hall
    go_enter Tryz.func25, Tryz.ntmps25
    go_wp2_with fail
    refine HF.out.mono ?_
    rintro e w1 ⟨rfl, hb1⟩
    have HB := Lib.hid hb1
    clear hb1
    go_wp2_with fail
    go_ret
    exact ⟨n, rfl, by rw [HE.out, HL.out], by rw [HE.out]; exact own_next HOW.out HB.out, grown_of_below HB.out⟩
  · rw [h1, Nat.zero_add] at IF
    have HF := Lib.hid IF
    have hk0n : k0 < n := by rw [List.length_map] at hk0; omega
    rcases of_own hown (tris_row l) (by unfold tris; rw [List.length_map]; exact hn) with ⟨_, hv, _⟩ | ⟨G, arr0, rfl, hGB, q1, q2, hR, htk0⟩
    · omega
    · have HR := Lib.hid hR
      have HQ := Lib.hid (And.intro hGB (And.intro q1 q2))
      have hcv : ∀ k, k < n → arr0[k]? = (tris l)[k]? := by
        intro k hk
        have := congrArg (fun l : List (List Value) => l[k]?) htk0
        rwa [List.getElem?_take_of_lt hk] at this
      have HCV := Lib.hid hcv
      have HK0 : Hid (fl p (l.take (k0 + 1)) = l.take k0) := by
        show _ = _
        rw [List.length_map] at hk0
        rw [fl_more hk0]
        have hp0 : p l[k0] = true := by simpa using ht
        rw [if_pos hp0, List.append_nil]
        exact fl_all (by rw [List.map_take]; exact hall)
      have hob : (Value.slice (some ⟨G, 0, none⟩) n c).ownBlock = some G := rfl
      rw [hob] at HG
      clear hown hg hsl IF h1 hall ht hR hGB q1 q2 hcv hob
      go_enter Tryz.func25, Tryz.ntmps25
      clear hn
      have HT0 := Lib.hid htk0
      clear htk0
      go_wp2_with fail
      refine HF.out.mono ?_
      rintro e w1 ⟨rfl, hb1⟩
      have HB := Lib.hid hb1
      clear hb1
      have hkm : ((k0 : Int) == -1) = false := beq_eq_false_iff_ne.2 (by omega)
      go_wp2_with fail
      go_loopw [5, 6] (fun s5 s6 wr => ∃ (i j : Nat) (arr : List (List Value)), s5 = .int .i64 i ∧ s6 = .int .i64 j ∧ j ≤ n ∧ i < j ∧ Hid ((fl p (l.take j)).length = i) ∧ Hid (RowsAt wr G 41 3 c arr) ∧ Hid (arr.take i = tris (fl p (l.take j))) ∧
        Hid (∀ k, j ≤ k → k < n → arr[k]? = (tris l)[k]?) ∧ Hid (w.grownBy wr (some G))) (fun _ s6 _ => n - (intOf s6).toNat)
      case atStart =>
        refine ⟨k0, k0 + 1, arr0, rfl, by go_num, by omega, by omega, ?_, HR.out.next HB.out, ?_, fun k h1 h2 => HCV.out k h2, grown_of_below HB.out⟩
        · show _ = _
          rw [HK0.out, List.length_take, HL.out]; omega
        · show _ = _
          rw [HK0.out]
          have := congrArg (fun l : List (List Value) => l.take k0) HT0.out
          rw [List.take_take, Nat.min_eq_left (Nat.le_of_lt hk0n)] at this
          rw [this]
          unfold tris
          rw [List.map_take]
      case round =>
        obtain ⟨i, j, arr, rfl, rfl, hjn, hij, hlen, hrow, htk, hrest, hgr⟩ := hrel
        by_cases hlt : j < n
        · have hjl : j < l.length := by rw [HL.out]; exact hlt
          have hvt : (tris l)[j]? = some [.int .i64 l[j].1, .int .i64 l[j].2.1, .int .i64 l[j].2.2] := by unfold tris; rw [List.getElem?_map, List.getElem?_eq_getElem hjl]; rfl
          have hvj := (hrest.out j (Nat.le_refl _) hlt).trans hvt
          have d0 := hrow.out.cell hvj (j := 0) rfl
          have d1 := hrow.out.cell hvj (j := 1) rfl
          have d2 := hrow.out.cell hvj (j := 2) rfl
          rw [Nat.add_zero] at d0
          have HKM := Lib.hid (fl_more (p := p) hjl)
          have HMEM : Hid (l[j] ∈ l) := List.getElem_mem _
          generalize l[j] = t at *
          obtain ⟨t0, t1, t2⟩ := t
          simp only at d0 d1 d2
          obtain ⟨W5, hW5⟩ : ∃ U, wr.alloc (.cells #[.int .i64 t0, .int .i64 t1, .int .i64 t2] 41) = U := ⟨_, rfl⟩
          have hb5 : Below wr.heap.size wr W5 := by rw [← hW5]; exact (Below.refl _ _).alloc (Nat.le_refl _) _
          have x5 := Circuit.BoxN.new wr #[.int .i64 t0, .int .i64 t1, .int .i64 t2] 41
          rw [hW5] at x5
          have q0 := x5.at' 0 _ rfl
          have q1 := x5.at' 1 _ rfl
          have q2 := x5.at' 2 _ rfl
          have hg5 := grown_below hgr.out hb5
          have CALL := Lib.hid (HG.out W5 hg5 (t0, t1, t2) HMEM.out)
          have hal := hrow.out.len
          have HAL := Lib.hid hal
          have HX5 := Lib.hid x5
          have HR5 := Lib.hid (hrow.out.next hb5)
          have HG5 := Lib.hid hg5
          clear hvt hvj hal x5 hb5 hg5 hjl
          have hjlt : (j : Int) < (n : Int) := by omega
          cases hp : p (t0, t1, t2)
          · rw [hp] at CALL HKM
            clear hp
            go_wp2_with fail
            refine CALL.out.mono ?_
            rintro e w2 ⟨rfl, hb2⟩
            have hr2 := HR5.out.next hb2
            have x2 := HX5.out.next hb2 HX5.out.lt
            have m0 := x2.at' 0 _ rfl
            have m1 := x2.at' 1 _ rfl
            have m2 := x2.at' 2 _ rfl
            have hic : i < c := by omega
            have hi2 : i * 3 + 2 < c * 3 := by omega
            obtain ⟨y0, hy0⟩ := Option.isSome_iff_exists.1 (hr2.isSome (t := i * 3) (by omega))
            obtain ⟨y1, hy1⟩ := Option.isSome_iff_exists.1 (hr2.isSome (t := i * 3 + 1) (by omega))
            obtain ⟨y2, hy2⟩ := Option.isSome_iff_exists.1 (hr2.isSome (t := i * 3 + 2) (by omega))
            have f0 := hr2.frozen (i * 3)
            have f1 := hr2.frozen (i * 3 + 1)
            have f2 := hr2.frozen (i * 3 + 2)
            have HR2 := Lib.hid (hr2.set hic (u := [.int .i64 t0, .int .i64 t1, .int .i64 t2]) rfl)
            have HG2 := Lib.hid (grown_sets [.int .i64 t0, .int .i64 t1, .int .i64 t2] w2 (i * 3) (grown_below HG5.out hb2))
            clear hb2 hr2 x2 d0 d1 d2 q0 q1 q2 hi2 hW5
            go_wp2_with fail
            go_roundw
            case rel =>
              refine ⟨i + 1, j + 1, arr.set i [.int .i64 t0, .int .i64 t1, .int .i64 t2], by go_num, by go_num, by omega, by omega, ?_, HR2.out, ?_, ?_, HG2.out⟩
              · show _ = _
                rw [HKM.out]; simp [hlen.out]
              · show _ = _
                rw [HKM.out]
                simp only [Bool.false_eq_true, if_false]
                rw [List.take_succ_eq_append_getElem (by rw [List.length_set, HAL.out]; exact hic), List.getElem_set_self, List.take_set_of_le (Nat.le_refl _), htk.out]
                unfold tris
                rw [List.map_append]
                rfl
              · intro k h1 h2
                rw [List.getElem?_set_ne (by omega)]
                exact hrest.out k (by omega) h2
            case measure => simp [intOf]; omega
          · rw [hp] at CALL HKM
            clear hp
            go_wp2_with fail
            refine CALL.out.mono ?_
            rintro e w2 ⟨rfl, hb2⟩
            have HR2 := Lib.hid (HR5.out.next hb2)
            have HG2 := Lib.hid (grown_below HG5.out hb2)
            clear hb2 d0 d1 d2 q0 q1 q2 hW5
            go_wp2_with fail
            go_roundw
            case rel =>
              refine ⟨i, j + 1, arr, rfl, by go_num, by omega, by omega, ?_, HR2.out, ?_, fun k h1 h2 => hrest.out k (by omega) h2, HG2.out⟩
              · show _ = _
                rw [HKM.out]; simp [hlen.out]
              · show _ = _
                rw [HKM.out]; simp [htk.out]
            case measure => simp [intOf]; omega
        · obtain rfl : j = n := by omega
          have hal := hrow.out.len
          have hjc := HQ.out.2.1
          have hci : ¬ c = i := by omega
          have hin : i ≤ j := by omega
          have hcl : ∀ ty, (Builtin.clear_ #[23] ty #[.slice (some ⟨G, i * 3, none⟩) (j - i) (c - i)]).run Tryz.prog wr = .ok (.tuple #[]) (wr.setCells G (i * 3) (Builtin.zeroCells (Value.agg #[.int .i64 0, .int .i64 0, .int .i64 0]).cells (j - i)).toList) :=
            fun ty => RowsK.run_clear wr _ _ ty _ Tryz.underlying23 Tryz.zeroValue41 3 rfl (by intro v hv; simp [Value.cells] at hv; subst hv; rfl) (by decide) G (i * 3) _ _ (by omega) (fun t ht => hrow.out.isSome (by omega)) (fun t ht => hrow.out.frozen _)
          obtain ⟨arr', hR', hT'⟩ := hrow.out.wipe (i := i) (by omega) (Builtin.zeroCells (Value.agg #[.int .i64 0, .int .i64 0, .int .i64 0]).cells (j - i)).toList
          have HRR := Lib.hid hR'
          have HTT := Lib.hid (hT'.trans htk.out)
          have HGG := Lib.hid (grown_sets (Builtin.zeroCells (Value.agg #[.int .i64 0, .int .i64 0, .int .i64 0]).cells (j - i)).toList wr (i * 3) hgr.out)
          have HLI := hlen
          clear hR' hT' hrow htk hrest hgr hlen hal
          have hji : ¬ (j : Int) < (j : Int) := by omega
          go_wp2_with fail
          go_ret
          have hfin : l.take j = l := List.take_of_length_le (Nat.le_of_eq HL.out)
          have h1 := HLI.out
          have h2 := HTT.out
          rw [hfin] at h1 h2
          exact ⟨i, rfl, h1.symm, by rw [← h2]; exact HRR.out.own HQ.out.1 (by omega) HQ.out.2.2, HGG.out⟩

end DelL
end Go.Proofs.YtninglnchengeaaGreat

/-
  slices.IndexFunc at one instance (elements of three integers), whatever predicate is handed over: ps says of each element what the predicate gives.
-/
namespace Go.Proofs.YtninglnchengeaaGreat
open Go.RowKit Base
set_option linter.unusedVariables false
namespace SlfA

/-- A function value gives ps of the elements, and turns nothing that is there. -/
def Gives (w : World) (g : FuncId) (fs lb : Array Value) (vs : List Tri) (ps : List Bool) : Prop :=
  ∀ W, Below w.heap.size w W → ∀ (k : Nat) (v : Tri) (b : Bool), vs[k]? = some v → ps[k]? = some b → Calls Tryz.prog g (fs.push (.agg #[.int .i64 v.1, .int .i64 v.2.1, .int .i64 v.2.2]) ++ lb) W fun e w' => e = .returned (.bool b) ∧ Below W.heap.size W w'

def Enters (g : FuncId) : Prop := ∀ args w, (callFunc g args).run Tryz.prog w = .ok (.enter g args) w

theorem idx_hit (ps : List Bool) (k : Nat) (h : ps[k]? = some true) : idx id (ps.drop k) k = k := by
  obtain ⟨hk, e⟩ := List.getElem?_eq_some_iff.1 h
  rw [List.drop_eq_getElem_cons hk]; unfold idx; rw [e]; rfl
theorem idx_miss (ps : List Bool) (k : Nat) (h : ps[k]? = some false) : idx id (ps.drop k) k = idx id (ps.drop (k + 1)) (k + 1) := by
  obtain ⟨hk, e⟩ := List.getElem?_eq_some_iff.1 h
  rw [List.drop_eq_getElem_cons hk]
  show (if id ps[k] = true then _ else _) = _
  rw [e]; rfl

set_option maxHeartbeats 1000000 in
theorem indexFunc (w : World) (a : Option Addr) (n c : Nat) (vs : List Tri) (g : FuncId) (fs lb : Array Value) (ps : List Bool)
    (hs : SlT w 3 a n c (tris vs)) (hps : ps.length = n) (eg : Enters g) (hg : Gives w g fs lb vs ps) :
    Calls Tryz.prog 55 #[.slice a n c, .func (.func g) fs lb] w fun e w' => e = .returned (.int .i64 (idx id ps 0)) ∧ Below w.heap.size w w' := by
  have hcap := hs.cap
  have hbig := hs.big
  have HPS := Lib.hid hps
  have HG := Lib.hid hg
  clear hg hps
  unfold Enters at eg
  go_enter Tryz.func55, Tryz.ntmps55
  go_wp2
  go_loopw [5, 8] (fun _ i wr => ∃ k : Nat, k ≤ n ∧ i = .int .i64 k ∧ Below w.heap.size w wr ∧ Hid (idx id ps 0 = idx id (ps.drop k) k)) (fun _ i _ => n - (intOf i).toNat)
  case atStart => exact ⟨0, Nat.zero_le _, rfl, Below.refl _ _, rfl⟩
  case round =>
    obtain ⟨k, hk, rfl, hb, hI⟩ := hrel
    by_cases hlt : k < n
    · obtain ⟨b, o, hx, rfl, hbs, hc0, hc1, hc2⟩ := hs.tri hlt
      have d0 := (hb.cell (p := ⟨b, o + k * 3, none⟩) hbs).trans hc0
      have d1 := (hb.cell (p := ⟨b, o + k * 3 + 1, none⟩) hbs).trans hc1
      have d2 := (hb.cell (p := ⟨b, o + k * 3 + 2, none⟩) hbs).trans hc2
      have HV := Lib.hid (List.getElem?_eq_getElem hx)
      clear hc0 hc1 hc2
      generalize vs[k] = t at *
      obtain ⟨t0, t1, t2⟩ := t
      simp only at d0 d1 d2
      obtain ⟨q, hq⟩ : ∃ q, ps[k]? = some q := ⟨_, List.getElem?_eq_getElem (by have := HPS.out; omega)⟩
      have HQ := Lib.hid hq
      clear hq
      cases q
      all_goals
        go_wp2_with fail
        refine (HG.out wr hb k (t0, t1, t2) _ HV.out HQ.out).mono ?_
        rintro e w1 ⟨rfl, hb1⟩
        go_wp2_with fail
      · go_roundw
        case rel => exact ⟨k + 1, by omega, by go_num, hb.trans (hb1.mono hb.size), hI.out.trans (idx_miss ps k HQ.out)⟩
        case measure => simp [intOf]; omega
      · go_ret
        exact ⟨ret_int (by rw [hI.out, idx_hit ps k HQ.out]), hb.trans (hb1.mono hb.size)⟩
    · go_wp2
      go_ret
      exact ⟨ret_int (by rw [hI.out, List.drop_of_length_le (by rw [HPS.out]; omega)]; rfl), hb⟩

end SlfA
end Go.Proofs.YtninglnchengeaaGreat

/-
  slices.DeleteFunc of []api.And, on a slice of the call's own.
-/
namespace Go.Proofs.YtninglnchengeaaGreat
open Go.RowKit Base RowsK
set_option linter.unusedVariables false
set_option linter.unusedSimpArgs false
namespace DelA

def fl (p : Tri → Bool) (l : List Tri) : List Tri := l.filter fun x => !p x
theorem fl_more {p : Tri → Bool} {l : List Tri} {j : Nat} (hj : j < l.length) : fl p (l.take (j + 1)) = fl p (l.take j) ++ (if p l[j] = true then [] else [l[j]]) := by
  unfold fl
  rw [List.take_succ_eq_append_getElem hj, List.filter_append]
  cases h : p l[j] <;> simp [h]
theorem fl_all {p : Tri → Bool} {l : List Tri} (hall : ∀ b ∈ l.map p, b = false) : fl p l = l := kp_all hall

set_option maxRecDepth 4000 in
set_option maxHeartbeats 8000000 in
theorem del_own (w : World) (B : Nat) (a : Option Addr) (n c : Nat) (l : List Tri) (hn : l.length = n) (hown : w.ownsRow B 43 3 (.slice a n c) n (tris l).flatten) (hB : B ≤ w.heap.size)
    (g : FuncId) (lb : Array Value) (p : Tri → Bool) (eg : SlfA.Enters g)
    (hg : ∀ W, w.grownBy W (Value.slice a n c).ownBlock → ∀ t ∈ l, Calls Tryz.prog g (#[.agg #[.int .i64 t.1, .int .i64 t.2.1, .int .i64 t.2.2]] ++ lb) W fun e w' => e = .returned (.bool (p t)) ∧ Below W.heap.size W w') :
    Calls Tryz.prog 28 #[.slice a n c, .func (.func g) #[] lb] w fun e w' => ∃ n', e = .returned (.slice a n' c) ∧ n' = (fl p l).length ∧ w'.ownsRow B 43 3 (.slice a n' c) n' (tris (fl p l)).flatten ∧ w.grownBy w' (Value.slice a n c).ownBlock := by
  have hsl := Circuit.own_slT' (tris_row l) (by unfold tris; rw [List.length_map]; exact hn) hown
  have IF := SlfA.indexFunc w a n c l g #[] lb (l.map p) hsl (by rw [List.length_map]; exact hn) eg (by
    intro W hW k v b hv hb
    rw [List.getElem?_map, hv] at hb
    simp only [Option.map_some, Option.some.injEq] at hb
    subst hb
    exact hg W (grown_of_below hW) v (List.mem_of_getElem? hv))
  have hcap := hsl.cap
  have hbig := hsl.big
  have HOW := Lib.hid hown
  have HG := Lib.hid hg
  have HL := Lib.hid hn
  have hmf : ∀ args W, (callFunc g args).run Tryz.prog W = .ok (.enter g args) W := eg
  rcases idx_cases (l.map p) 0 with ⟨h1, hall⟩ | ⟨k0, hk0, h1, ht, hall⟩
  · rw [h1] at IF
    have HF := Lib.hid IF
    have HE : Hid (fl p l = l) := fl_all hall
    clear hown hg hsl hn IF h1 hall
    go_enter Tryz.func28, Tryz.ntmps28
    go_wp2_with fail
    refine HF.out.mono ?_
    rintro e w1 ⟨rfl, hb1⟩
    have HB := Lib.hid hb1
    clear hb1
    go_wp2_with fail
    go_ret
    exact ⟨n, rfl, by rw [HE.out, HL.out], by rw [HE.out]; exact own_next HOW.out HB.out, grown_of_below HB.out⟩
  · rw [h1, Nat.zero_add] at IF
    have HF := Lib.hid IF
    have hk0n : k0 < n := by rw [List.length_map] at hk0; omega
    rcases of_own hown (tris_row l) (by unfold tris; rw [List.length_map]; exact hn) with ⟨_, hv, _⟩ | ⟨G, arr0, rfl, hGB, q1, q2, hR, htk0⟩
    · omega
    · have HR := Lib.hid hR
      have HQ := Lib.hid (And.intro hGB (And.intro q1 q2))
      have hcv : ∀ k, k < n → arr0[k]? = (tris l)[k]? := by
        intro k hk
        have := congrArg (fun l : List (List Value) => l[k]?) htk0
        rwa [List.getElem?_take_of_lt hk] at this
      have HCV := Lib.hid hcv
      have HK0 : Hid (fl p (l.take (k0 + 1)) = l.take k0) := by
        show _ = _
        rw [List.length_map] at hk0
        rw [fl_more hk0]
        have hp0 : p l[k0] = true := by simpa using ht
        rw [if_pos hp0, List.append_nil]
        exact fl_all (by rw [List.map_take]; exact hall)
      have hob : (Value.slice (some ⟨G, 0, none⟩) n c).ownBlock = some G := rfl
      rw [hob] at HG
      clear hown hg hsl IF h1 hall ht hR hGB q1 q2 hcv hob
      go_enter Tryz.func28, Tryz.ntmps28
      clear hn
      have HT0 := Lib.hid htk0
      clear htk0
      go_wp2_with fail
      refine HF.out.mono ?_
      rintro e w1 ⟨rfl, hb1⟩
      have HB := Lib.hid hb1
      clear hb1
      have hkm : ((k0 : Int) == -1) = false := beq_eq_false_iff_ne.2 (by omega)
      go_wp2_with fail
      go_loopw [5, 6] (fun s5 s6 wr => ∃ (i j : Nat) (arr : List (List Value)), s5 = .int .i64 i ∧ s6 = .int .i64 j ∧ j ≤ n ∧ i < j ∧ Hid ((fl p (l.take j)).length = i) ∧ Hid (RowsAt wr G 43 3 c arr) ∧ Hid (arr.take i = tris (fl p (l.take j))) ∧
        Hid (∀ k, j ≤ k → k < n → arr[k]? = (tris l)[k]?) ∧ Hid (w.grownBy wr (some G))) (fun _ s6 _ => n - (intOf s6).toNat)
      case atStart =>
        refine ⟨k0, k0 + 1, arr0, rfl, by go_num, by omega, by omega, ?_, HR.out.next HB.out, ?_, fun k h1 h2 => HCV.out k h2, grown_of_below HB.out⟩
        · show _ = _
          rw [HK0.out, List.length_take, HL.out]; omega
        · show _ = _
          rw [HK0.out]
          have := congrArg (fun l : List (List Value) => l.take k0) HT0.out
          rw [List.take_take, Nat.min_eq_left (Nat.le_of_lt hk0n)] at this
          rw [this]
          unfold tris
          rw [List.map_take]
      case round =>
        obtain ⟨i, j, arr, rfl, rfl, hjn, hij, hlen, hrow, htk, hrest, hgr⟩ := hrel
        by_cases hlt : j < n
        · have hjl : j < l.length := by rw [HL.out]; exact hlt
          have hvt : (tris l)[j]? = some [.int .i64 l[j].1, .int .i64 l[j].2.1, .int .i64 l[j].2.2] := by unfold tris; rw [List.getElem?_map, List.getElem?_eq_getElem hjl]; rfl
          have hvj := (hrest.out j (Nat.le_refl _) hlt).trans hvt
          have d0 := hrow.out.cell hvj (j := 0) rfl
          have d1 := hrow.out.cell hvj (j := 1) rfl
          have d2 := hrow.out.cell hvj (j := 2) rfl
          rw [Nat.add_zero] at d0
          have HKM := Lib.hid (fl_more (p := p) hjl)
          have HMEM : Hid (l[j] ∈ l) := List.getElem_mem _
          generalize l[j] = t at *
          obtain ⟨t0, t1, t2⟩ := t
          simp only at d0 d1 d2
          obtain ⟨W5, hW5⟩ : ∃ U, wr.alloc (.cells #[.int .i64 t0, .int .i64 t1, .int .i64 t2] 43) = U := ⟨_, rfl⟩
          have hb5 : Below wr.heap.size wr W5 := by rw [← hW5]; exact (Below.refl _ _).alloc (Nat.le_refl _) _
          have x5 := Circuit.BoxN.new wr #[.int .i64 t0, .int .i64 t1, .int .i64 t2] 43
          rw [hW5] at x5
          have q0 := x5.at' 0 _ rfl
          have q1 := x5.at' 1 _ rfl
          have q2 := x5.at' 2 _ rfl
          have hg5 := grown_below hgr.out hb5
          have CALL := Lib.hid (HG.out W5 hg5 (t0, t1, t2) HMEM.out)
          have hal := hrow.out.len
          have HAL := Lib.hid hal
          have HX5 := Lib.hid x5
          have HR5 := Lib.hid (hrow.out.next hb5)
          have HG5 := Lib.hid hg5
          clear hvt hvj hal x5 hb5 hg5 hjl
          have hjlt : (j : Int) < (n : Int) := by omega
          cases hp : p (t0, t1, t2)
          · rw [hp] at CALL HKM
            clear hp
            go_wp2_with fail
            refine CALL.out.mono ?_
            rintro e w2 ⟨rfl, hb2⟩
            have hr2 := HR5.out.next hb2
            have x2 := HX5.out.next hb2 HX5.out.lt
            have m0 := x2.at' 0 _ rfl
            have m1 := x2.at' 1 _ rfl
            have m2 := x2.at' 2 _ rfl
            have hic : i < c := by omega
            have hi2 : i * 3 + 2 < c * 3 := by omega
            obtain ⟨y0, hy0⟩ := Option.isSome_iff_exists.1 (hr2.isSome (t := i * 3) (by omega))
            obtain ⟨y1, hy1⟩ := Option.isSome_iff_exists.1 (hr2.isSome (t := i * 3 + 1) (by omega))
            obtain ⟨y2, hy2⟩ := Option.isSome_iff_exists.1 (hr2.isSome (t := i * 3 + 2) (by omega))
            have f0 := hr2.frozen (i * 3)
            have f1 := hr2.frozen (i * 3 + 1)
            have f2 := hr2.frozen (i * 3 + 2)
            have HR2 := Lib.hid (hr2.set hic (u := [.int .i64 t0, .int .i64 t1, .int .i64 t2]) rfl)
            have HG2 := Lib.hid (grown_sets [.int .i64 t0, .int .i64 t1, .int .i64 t2] w2 (i * 3) (grown_below HG5.out hb2))
            clear hb2 hr2 x2 d0 d1 d2 q0 q1 q2 hi2 hW5
            go_wp2_with fail
            go_roundw
            case rel =>
              refine ⟨i + 1, j + 1, arr.set i [.int .i64 t0, .int .i64 t1, .int .i64 t2], by go_num, by go_num, by omega, by omega, ?_, HR2.out, ?_, ?_, HG2.out⟩
              · show _ = _
                rw [HKM.out]; simp [hlen.out]
              · show _ = _
                rw [HKM.out]
                simp only [Bool.false_eq_true, if_false]
                rw [List.take_succ_eq_append_getElem (by rw [List.length_set, HAL.out]; exact hic), List.getElem_set_self, List.take_set_of_le (Nat.le_refl _), htk.out]
                unfold tris
                rw [List.map_append]
                rfl
              · intro k h1 h2
                rw [List.getElem?_set_ne (by omega)]
                exact hrest.out k (by omega) h2
            case measure => simp [intOf]; omega
          · rw [hp] at CALL HKM
            clear hp
            go_wp2_with fail
            refine CALL.out.mono ?_
            rintro e w2 ⟨rfl, hb2⟩
            have HR2 := Lib.hid (HR5.out.next hb2)
            have HG2 := Lib.hid (grown_below HG5.out hb2)
            clear hb2 d0 d1 d2 q0 q1 q2 hW5
            go_wp2_with fail
            go_roundw
            case rel =>
              refine ⟨i, j + 1, arr, rfl, by go_num, by omega, by omega, ?_, HR2.out, ?_, fun k h1 h2 => hrest.out k (by omega) h2, HG2.out⟩
              · show _ = _
                rw [HKM.out]; simp [hlen.out]
              · show _ = _
                rw [HKM.out]; simp [htk.out]
            case measure => simp [intOf]; omega
        · obtain rfl : j = n := by omega
          have hal := hrow.out.len
          have hjc := HQ.out.2.1
          have hci : ¬ c = i := by omega
          have hin : i ≤ j := by omega
          have hcl : ∀ ty, (Builtin.clear_ #[24] ty #[.slice (some ⟨G, i * 3, none⟩) (j - i) (c - i)]).run Tryz.prog wr = .ok (.tuple #[]) (wr.setCells G (i * 3) (Builtin.zeroCells (Value.agg #[.int .i64 0, .int .i64 0, .int .i64 0]).cells (j - i)).toList) :=
            fun ty => RowsK.run_clear wr _ _ ty _ Tryz.underlying24 Tryz.zeroValue43 3 rfl (by intro v hv; simp [Value.cells] at hv; subst hv; rfl) (by decide) G (i * 3) _ _ (by omega) (fun t ht => hrow.out.isSome (by omega)) (fun t ht => hrow.out.frozen _)
          obtain ⟨arr', hR', hT'⟩ := hrow.out.wipe (i := i) (by omega) (Builtin.zeroCells (Value.agg #[.int .i64 0, .int .i64 0, .int .i64 0]).cells (j - i)).toList
          have HRR := Lib.hid hR'
          have HTT := Lib.hid (hT'.trans htk.out)
          have HGG := Lib.hid (grown_sets (Builtin.zeroCells (Value.agg #[.int .i64 0, .int .i64 0, .int .i64 0]).cells (j - i)).toList wr (i * 3) hgr.out)
          have HLI := hlen
          clear hR' hT' hrow htk hrest hgr hlen hal
          have hji : ¬ (j : Int) < (j : Int) := by omega
          go_wp2_with fail
          go_ret
          have hfin : l.take j = l := List.take_of_length_le (Nat.le_of_eq HL.out)
          have h1 := HLI.out
          have h2 := HTT.out
          rw [hfin] at h1 h2
          exact ⟨i, rfl, h1.symm, by rw [← h2]; exact HRR.out.own HQ.out.1 (by omega) HQ.out.2.2, HGG.out⟩

end DelA
end Go.Proofs.YtninglnchengeaaGreat

/-
  coi.Reduce.
-/
namespace Go.Proofs.YtninglnchengeaaGreat
open Go.RowKit Base Go.Maps
set_option linter.unusedVariables false
set_option linter.unusedSimpArgs false
namespace Coi
open Circuit StrashP

theorem eg_r1 : SlfI.Enters 23 := enters_of Tryz.func23 (by kernel_rfl) rfl
theorem eg_r2 : SlfL.Enters 27 := enters_of Tryz.func27 (by kernel_rfl) rfl
theorem eg_r3 : SlfA.Enters 30 := enters_of Tryz.func30 (by kernel_rfl) rfl

theorem red1_any (w : World) (N b n : Nat) (X : List Int) (hc : w.cell? ⟨N, 0, none⟩ = some (.map (some b))) (hs : SetK w b n X) (l : Int) (h0 : -9223372036854775808 ≤ l) (h1 : l ≤ 9223372036854775807) :
    Calls Tryz.prog 23 #[.int .i64 l, .pointer (some ⟨N, 0, none⟩)] w fun e w' => e = .returned (.bool (!SetI.inX X (var l))) ∧ w = w' := by
  have HH := Lib.hid (has_any w hs l h0 h1)
  generalize SetI.inX X (var l) = q at *
  clear hs h0 h1
  cases q
  all_goals
    go_enter Tryz.func23, Tryz.ntmps23
    go_wp2_with fail
    with_reducible refine HH.out.mono ?_
    rintro e w2 ⟨rfl, rfl⟩
    go_wp2_with fail
    go_ret
    exact ⟨rfl, rfl⟩
theorem red2_any (w : World) (N b n : Nat) (X : List Int) (hlt : N < w.heap.size) (hc : w.cell? ⟨N, 0, none⟩ = some (.map (some b))) (hs : SetK w b n X) (t : Tri) (h0 : -9223372036854775808 ≤ t.1) (h1 : t.1 ≤ 9223372036854775807) :
    Calls Tryz.prog 27 #[.agg #[.int .i64 t.1, .int .i64 t.2.1, .int .i64 t.2.2], .pointer (some ⟨N, 0, none⟩)] w fun e w' => e = .returned (.bool (!SetI.inX X (var t.1))) ∧ Below w.heap.size w w' := by
  obtain ⟨t0, t1, t2⟩ := t
  simp only at *
  obtain ⟨W1, hW1⟩ : ∃ U, w.alloc (.cells #[.int .i64 t0, .int .i64 t1, .int .i64 t2] 41) = U := ⟨_, rfl⟩
  have hb1 : Below w.heap.size w W1 := by rw [← hW1]; exact (Below.refl _ _).alloc (Nat.le_refl _) _
  have x1 : BoxN w.heap.size [.int .i64 t0, .int .i64 t1, .int .i64 t2] W1 := by rw [← hW1]; exact BoxN.new w _ _
  have y0 := x1.at' 0 _ rfl
  have hc1 := (hb1.cell (p := ⟨N, 0, none⟩) hlt).trans hc
  have HH := Lib.hid (has_any W1 (hs.next hb1) t0 h0 h1)
  have HB := Lib.hid hb1
  generalize SetI.inX X (var t0) = q at *
  clear hs h0 h1 hb1 x1 hc
  cases q
  all_goals
    go_enter Tryz.func27, Tryz.ntmps27
    go_wp2_with fail
    with_reducible refine HH.out.mono ?_
    rintro e w2 ⟨rfl, rfl⟩
    go_wp2_with fail
    go_ret
    exact ⟨rfl, HB.out⟩
theorem red3_any (w : World) (N b n : Nat) (X : List Int) (hlt : N < w.heap.size) (hc : w.cell? ⟨N, 0, none⟩ = some (.map (some b))) (hs : SetK w b n X) (t : Tri) (h0 : -9223372036854775808 ≤ t.1) (h1 : t.1 ≤ 9223372036854775807) :
    Calls Tryz.prog 30 #[.agg #[.int .i64 t.1, .int .i64 t.2.1, .int .i64 t.2.2], .pointer (some ⟨N, 0, none⟩)] w fun e w' => e = .returned (.bool (!SetI.inX X (var t.1))) ∧ Below w.heap.size w w' := by
  obtain ⟨t0, t1, t2⟩ := t
  simp only at *
  obtain ⟨W1, hW1⟩ : ∃ U, w.alloc (.cells #[.int .i64 t0, .int .i64 t1, .int .i64 t2] 43) = U := ⟨_, rfl⟩
  have hb1 : Below w.heap.size w W1 := by rw [← hW1]; exact (Below.refl _ _).alloc (Nat.le_refl _) _
  have x1 : BoxN w.heap.size [.int .i64 t0, .int .i64 t1, .int .i64 t2] W1 := by rw [← hW1]; exact BoxN.new w _ _
  have y0 := x1.at' 0 _ rfl
  have hc1 := (hb1.cell (p := ⟨N, 0, none⟩) hlt).trans hc
  have HH := Lib.hid (has_any W1 (hs.next hb1) t0 h0 h1)
  have HB := Lib.hid hb1
  generalize SetI.inX X (var t0) = q at *
  clear hs h0 h1 hb1 x1 hc
  cases q
  all_goals
    go_enter Tryz.func30, Tryz.ntmps30
    go_wp2_with fail
    with_reducible refine HH.out.mono ?_
    rintro e w2 ⟨rfl, rfl⟩
    go_wp2_with fail
    go_ret
    exact ⟨rfl, HB.out⟩

theorem box_set8 {N : Nat} {w : World} {c0 c1 c2 c3 c4 c5 c6 c7 : Value} (h : BoxN N [c0, c1, c2, c3, c4, c5, c6, c7] w) (v0 v1 v2 v3 v4 v5 v6 v7 : Value) : BoxN N [v0, v1, v2, v3, v4, v5, v6, v7] ((((((((w.setCell ⟨N, 0, none⟩ v0).setCell ⟨N, 1, none⟩ v1).setCell ⟨N, 2, none⟩ v2).setCell ⟨N, 3, none⟩ v3).setCell ⟨N, 4, none⟩ v4).setCell ⟨N, 5, none⟩ v5).setCell ⟨N, 6, none⟩ v6).setCell ⟨N, 7, none⟩ v7) := ((((((((h.set 0 v0).set 1 v1).set 2 v2).set 3 v3).set 4 v4).set 5 v5).set 6 v6).set 7 v7)
theorem own_set8 {w : World} {B : Nat} {e : TypeId} {size : Nat} {v : Value} {n : Nat} {us : List Value} (h : w.ownsRow B e size v n us) {N : Nat} (hne : v.ownBlock ≠ some N) (v0 v1 v2 v3 v4 v5 v6 v7 : Value) : ((((((((w.setCell ⟨N, 0, none⟩ v0).setCell ⟨N, 1, none⟩ v1).setCell ⟨N, 2, none⟩ v2).setCell ⟨N, 3, none⟩ v3).setCell ⟨N, 4, none⟩ v4).setCell ⟨N, 5, none⟩ v5).setCell ⟨N, 6, none⟩ v6).setCell ⟨N, 7, none⟩ v7).ownsRow B e size v n us := (ownsRow_setCell_other (ownsRow_setCell_other (ownsRow_setCell_other (ownsRow_setCell_other (ownsRow_setCell_other (ownsRow_setCell_other (ownsRow_setCell_other (ownsRow_setCell_other h (a := ⟨N, 0, none⟩) (fun e => hne (by first | exact e | exact e.symm)) v0) (a := ⟨N, 1, none⟩) (fun e => hne (by first | exact e | exact e.symm)) v1) (a := ⟨N, 2, none⟩) (fun e => hne (by first | exact e | exact e.symm)) v2) (a := ⟨N, 3, none⟩) (fun e => hne (by first | exact e | exact e.symm)) v3) (a := ⟨N, 4, none⟩) (fun e => hne (by first | exact e | exact e.symm)) v4) (a := ⟨N, 5, none⟩) (fun e => hne (by first | exact e | exact e.symm)) v5) (a := ⟨N, 6, none⟩) (fun e => hne (by first | exact e | exact e.symm)) v6) (a := ⟨N, 7, none⟩) (fun e => hne (by first | exact e | exact e.symm)) v7)
theorem below_set8 {w w0 : World} {B N : Nat} (h : Below B w0 w) (hN : B ≤ N) (v0 v1 v2 v3 v4 v5 v6 v7 : Value) : Below B w0 ((((((((w.setCell ⟨N, 0, none⟩ v0).setCell ⟨N, 1, none⟩ v1).setCell ⟨N, 2, none⟩ v2).setCell ⟨N, 3, none⟩ v3).setCell ⟨N, 4, none⟩ v4).setCell ⟨N, 5, none⟩ v5).setCell ⟨N, 6, none⟩ v6).setCell ⟨N, 7, none⟩ v7) := ((((((((h.setCell (p := ⟨N, 0, none⟩) hN v0).setCell (p := ⟨N, 1, none⟩) hN v1).setCell (p := ⟨N, 2, none⟩) hN v2).setCell (p := ⟨N, 3, none⟩) hN v3).setCell (p := ⟨N, 4, none⟩) hN v4).setCell (p := ⟨N, 5, none⟩) hN v5).setCell (p := ⟨N, 6, none⟩) hN v6).setCell (p := ⟨N, 7, none⟩) hN v7)

theorem slT_none (w : World) (k : Nat) : SlT w k none 0 0 [] := ⟨rfl, Nat.le_refl _, by omega, fun _ => ⟨rfl, rfl⟩, fun i r h => by simp at h⟩
theorem fl_cnt {α : Type} {x : Circ} {l X : List Int} (h : ∀ v, v ∈ X ↔ v ≠ 0 ∧ NR x l v) (f : α → Int) (L : List α) : (L.filter fun a => !(!SetI.inX X (var (f a)))) = L.filter fun a => cnt x l (f a) := by
  congr 1
  funext a
  rw [Bool.not_not, Bool.eq_iff_iff, SetI.inX_iff, cnt_iff, h]

set_option maxRecDepth 8000 in
set_option maxHeartbeats 4000000 in
theorem reduce_no (w : World) (x : Circ) (p : At) (hin : InCirc w x p) (hw : WfC x) (aA : Option Addr) (n cA : Nat) (vals : List Value) (A : List (List Int)) (hA : Sl2 w aA n cA vals A) (hA64 : ∀ y ∈ A.flatten, Circuit.I64 y) (bad : Int) (hb0 : -9223372036854775808 ≤ bad) (hb1' : bad ≤ 9223372036854775807) (hno : askE x A bad ≠ 0) :
    Calls Tryz.prog 7 #[.agg (cells x p), .slice aA n cA, .int .i64 bad] w fun e w' => e = .returned (.tuple #[.agg #[.int .i64 0, .slice none 0 0, .slice none 0 0, .slice none 0 0, .slice none 0 0, .slice none 0 0, .slice none 0 0, .slice none 0 0], .int .i64 (askE x A bad)]) ∧ Below w.heap.size w w' := by
  obtain ⟨W1, hW1⟩ : ∃ W1, w.alloc (.cells (cells x p) 27) = W1 := ⟨_, rfl⟩
  obtain ⟨hb1, hc1⟩ := cbox_new w x p W1 hW1
  obtain ⟨W2, hW2⟩ : ∃ W2, W1.alloc (.cells #[.int .i64 0, .slice none 0 0, .slice none 0 0, .slice none 0 0, .slice none 0 0, .slice none 0 0, .slice none 0 0, .slice none 0 0] 27) = W2 := ⟨_, rfl⟩
  have hb2 : Below W1.heap.size W1 W2 := by rw [← hW2]; exact (Below.refl _ _).alloc (Nat.le_refl _) _
  have hx2 : BoxN W1.heap.size [.int .i64 0, .slice none 0 0, .slice none 0 0, .slice none 0 0, .slice none 0 0, .slice none 0 0, .slice none 0 0, .slice none 0 0] W2 := by rw [← hW2]; exact BoxN.new W1 _ _
  have hb12 : Below w.heap.size w W2 := hb1.trans (hb2.mono hb1.size)
  have hlt1 : w.heap.size < W1.heap.size := hc1.lt
  have HB12 := Lib.hid hb12
  have HX2 := Lib.hid hx2
  have HAS := Lib.hid (asked_any W2 x p (hin.next hb12) hw aA n cA vals A (hA.next hb12) hA64 bad hb0 hb1')
  have hcw := hc1.next hb2 (Nat.le_refl _)
  have k0 := hcw.k0
  have k1 := hcw.k1
  have k2 := hcw.k2
  have k3 := hcw.k3
  have k4 := hcw.k4
  have k5 := hcw.k5
  have k6 := hcw.k6
  have k7 := hcw.k7
  obtain ⟨a1, c1, a2, c2, a3, c3, a4, c4, a5, c5, a6, c6, a7, c7⟩ := p
  simp only [cells] at *
  generalize askE x A bad = er at *
  have HNE : Hid ((er != 0) = true) := by show _ = _; simpa using hno
  have hne := HNE.out
  clear hin hw hA hA64 hb1 hb2 hb12 hx2 hc1 hcw hno hb0 hb1'
  go_enter Tryz.func7, Tryz.ntmps7
  go_wp2_with fail
  clear hW1 hW2
  with_reducible refine HAS.out.mono ?_
  rintro e w3 ⟨rfl, hb3⟩
  have HB3 := Lib.hid hb3
  have hx3 := HX2.out.next hb3 HX2.out.lt
  have z := hx3.fz
  have y0 := hx3.at' 0 _ rfl
  have y1 := hx3.at' 1 _ rfl
  have y2 := hx3.at' 2 _ rfl
  have y3 := hx3.at' 3 _ rfl
  have y4 := hx3.at' 4 _ rfl
  have y5 := hx3.at' 5 _ rfl
  have y6 := hx3.at' 6 _ rfl
  have y7 := hx3.at' 7 _ rfl
  clear hb3 k0 k1 k2 k3 k4 k5 k6 k7 hx3
  go_wp2_with fail
  refine bodyPost_ret (v := .tuple #[.agg #[.int .i64 0, .slice none 0 0, .slice none 0 0, .slice none 0 0, .slice none 0 0, .slice none 0 0, .slice none 0 0, .slice none 0 0], .int .i64 er]) (by simp [results, Tryz.results7, go_sem, y0, y1, y2, y3, y4, y5, y6, y7]) rfl ?_
  refine ⟨rfl, ?_⟩
  have ob : OffB W1.heap.size w3 _ := ((((((((OffB.refl W1.heap.size w3).set 0 (.int .i64 0)).set 1 (.slice none 0 0)).set 2 (.slice none 0 0)).set 3 (.slice none 0 0)).set 4 (.slice none 0 0)).set 5 (.slice none 0 0)).set 6 (.slice none 0 0)).set 7 (.slice none 0 0)
  exact ob.base (HB12.out.trans (HB3.out.mono HB12.out.size)) (Nat.le_trans HB12.out.size HB3.out.size) (Nat.le_of_lt hlt1)

set_option maxRecDepth 8000 in
set_option maxHeartbeats 8000000 in
theorem reduce_ok (w : World) (x : Circ) (p : At) (hin : InCirc w x p) (hw : WfC x) (aA : Option Addr) (n cA : Nat) (vals : List Value) (A : List (List Int)) (hA : Sl2 w aA n cA vals A) (hA64 : ∀ y ∈ A.flatten, Circuit.I64 y) (k : Nat) (hk : k < x.bads.length) (hok : askE x A k = 0)
    (hz1 : n ≤ 4000000) (hz2 : A.flatten.length ≤ 4000000) (hz3 : x.ands.length ≤ 4000000) :
    Calls Tryz.prog 7 #[.agg (cells x p), .slice aA n cA, .int .i64 k] w fun e w' => ∃ p', e = .returned (.tuple #[.agg (cells (reduced x (A.flatten ++ x.invs ++ [x.bads[k]]) x.bads[k]) p'), .int .i64 0]) ∧ InCirc w' (reduced x (A.flatten ++ x.invs ++ [x.bads[k]]) x.bads[k]) p' ∧ Below w.heap.size w w' := by
  obtain ⟨W1, hW1⟩ : ∃ W1, w.alloc (.cells (cells x p) 27) = W1 := ⟨_, rfl⟩
  obtain ⟨hb1, hc1⟩ := cbox_new w x p W1 hW1
  obtain ⟨W2, hW2⟩ : ∃ W2, W1.alloc (.cells #[.int .i64 0, .slice none 0 0, .slice none 0 0, .slice none 0 0, .slice none 0 0, .slice none 0 0, .slice none 0 0, .slice none 0 0] 27) = W2 := ⟨_, rfl⟩
  have hb2 : Below W1.heap.size W1 W2 := by rw [← hW2]; exact (Below.refl _ _).alloc (Nat.le_refl _) _
  have hx2 : BoxN W1.heap.size [.int .i64 0, .slice none 0 0, .slice none 0 0, .slice none 0 0, .slice none 0 0, .slice none 0 0, .slice none 0 0, .slice none 0 0] W2 := by rw [← hW2]; exact BoxN.new W1 _ _
  have hb12 : Below w.heap.size w W2 := hb1.trans (hb2.mono hb1.size)
  have hlt1 : w.heap.size < W1.heap.size := hc1.lt
  have HB12 := Lib.hid hb12
  have HX2 := Lib.hid hx2
  have hck := (askE_zero hok).1
  have has := asked_any W2 x p (hin.next hb12) hw aA n cA vals A (hA.next hb12) hA64 k (by omega) (by have := hck.1.2.2.2.2.2.1; omega)
  rw [hok] at has
  have HAS := Lib.hid has
  have hsz : x.invs.length ≤ 64 ∧ x.lats.length ≤ 64 ∧ x.ins.length ≤ 64 ∧ x.bads.length ≤ 64 := ⟨hck.1.2.2.2.2.2.2, hck.1.2.2.2.1, hck.1.2.2.1, hck.1.2.2.2.2.2.1⟩
  have HSZ := Lib.hid hsz
  have HZ3 := Lib.hid hz3
  have HCN := Lib.hid (fun (U : World) (hU : Below w.heap.size w U) => counted_any U x p (hin.next hU) hw aA n cA vals A (hA.next hU) hA64 k hk hz1 hz2 hz3 (by omega) (by omega))
  have HIN := Lib.hid (fun (U : World) (hU : Below w.heap.size w U) => hin.next hU)
  have HC2 := Lib.hid (hc1.next hb2 (Nat.le_refl _))
  have HW := Lib.hid hw
  have HKL := Lib.hid hk
  generalize hbl : x.bads[k] = bl at *
  have HBL : Hid (∃ h : k < x.bads.length, x.bads[k] = bl) := ⟨hk, hbl⟩
  obtain ⟨l, hl⟩ : ∃ l, A.flatten ++ x.invs ++ [bl] = l := ⟨_, rfl⟩
  simp only [hl] at HCN ⊢
  obtain ⟨a1, c1, a2, c2, a3, c3, a4, c4, a5, c5, a6, c6, a7, c7⟩ := p
  simp only [cells] at *
  have HLT1 := Lib.hid hlt1
  have hcw := HC2.out
  have k0 := hcw.k0
  have k1 := hcw.k1
  have k2 := hcw.k2
  have k3 := hcw.k3
  have k4 := hcw.k4
  have k5 := hcw.k5
  have k6 := hcw.k6
  have k7 := hcw.k7
  clear hin hw hA hA64 hb1 hb2 hb12 hx2 hc1 hcw hok hck has hsz hz1 hz2 hz3 hbl hl
  go_enter Tryz.func7, Tryz.ntmps7
  go_wp2_with fail
  clear hW1 hW2
  with_reducible refine HAS.out.mono ?_
  rintro e w3 ⟨rfl, hb3⟩
  have hb23 := HB12.out.trans (hb3.mono HB12.out.size)
  have HB3 := Lib.hid hb3
  have HCN3 := Lib.hid (HCN.out w3 hb23)
  have hcw := HC2.out.next hb3 (Nat.le_refl _)
  clear k0 k1 k2 k3 k4 k5 k6 k7
  have k0 := hcw.k0
  have k1 := hcw.k1
  have k2 := hcw.k2
  have k3 := hcw.k3
  have k4 := hcw.k4
  have k5 := hcw.k5
  have k6 := hcw.k6
  have k7 := hcw.k7
  clear hb3 hb23 hcw
  go_wp2_with fail
  with_reducible refine HCN3.out.mono ?_
  rintro e w4 ⟨mb, X, rfl, hmb, hset, hnd, hX, hb4⟩
  obtain ⟨W5, hW5⟩ : ∃ U, w4.alloc (.cells #[.map (some mb)] 54) = U := ⟨_, rfl⟩
  have hb5 : Below w4.heap.size w4 W5 := by rw [← hW5]; exact (Below.refl _ _).alloc (Nat.le_refl _) _
  have hx5 : BoxN w4.heap.size [.map (some mb)] W5 := by rw [← hW5]; exact BoxN.new w4 _ _
  have hb35 : Below w3.heap.size w3 W5 := hb4.trans (hb5.mono hb4.size)
  have hb25 : Below W2.heap.size W2 W5 := HB3.out.trans (hb35.mono HB3.out.size)
  have HB5 := Lib.hid hb25
  have HX5 := Lib.hid hx5
  have HSET := Lib.hid (hset.next hb5)
  have HX := Lib.hid hX
  have HMB : Hid (mb < w4.heap.size) := by obtain ⟨D, ho, _⟩ := hset; exact ho.lt
  clear hmb hset hnd hX hb4 hb5 hx5 hb35 hb25 k0 k1 k2 k3 k4 k5 k6 k7
  go_upto_region 5 with fail
  have hbs := (HIN.out W2 HB12.out).bads
  obtain ⟨gb, ob, hxb, hab, hgb, hcb⟩ := (HIN.out w (Below.refl _ _)).bads.int HKL.out
  have hcapb := hbs.cap
  have hbigb := hbs.big
  obtain ⟨hkk, hkb⟩ := HBL.out
  simp only at hab
  rw [hkb] at hcb
  subst hab
  have HBE := Lib.hid (fun (U : World) (hU : Below w.heap.size w U) => (hU.cell (p := ⟨gb, ob + k, none⟩) hgb).trans hcb)
  have HCL := Lib.hid (fun (U : World) (hU : Below W5.heap.size W5 U) => CloneI.clone U a5 x.invs.length c5 (ints x.invs) (HIN.out U (HB12.out.trans ((HB5.out.trans (hU.mono HB5.out.size)).mono HB12.out.size))).invs (Base.ints_one _) (by have := HSZ.out; omega))
  clear hbs hxb hgb hcb hkk hkb
  go_cut [10] from 23 to 35 (fun u10 wx => ∃ (N10 gB : Nat) (aC : Option Addr) (cC : Nat), u10 = .pointer (some ⟨N10, 0, none⟩) ∧ Hid (W5.heap.size ≤ N10) ∧ Hid (BoxN N10 [.int .i64 x.max, .slice none 0 0, .slice none 0 0, .slice none 0 0, .slice (some ⟨gB, 0, none⟩) 1 1, .slice aC x.invs.length cC, .slice none 0 0, .slice none 0 0] wx) ∧ Hid (wx.ownsRow W5.heap.size 3 1 (.slice (some ⟨gB, 0, none⟩) 1 1) 1 (ints [bl])) ∧ Hid ((Value.slice (some ⟨gB, 0, none⟩) 1 1).ownBlock ≠ some N10) ∧ Hid (wx.ownsRow W5.heap.size 3 1 (.slice aC x.invs.length cC) x.invs.length (ints x.invs)) ∧ Hid ((Value.slice aC x.invs.length cC).ownBlock ≠ some N10) ∧ Hid (Below W5.heap.size W5 wx))
  case first =>
    skip
    have hSK : ∀ V : World, Below W5.heap.size W5 V → V.cell? ⟨w.heap.size, 0, none⟩ = some (.int .i64 x.max) ∧ V.cell? ⟨w.heap.size, 1, none⟩ = some (.slice a1 x.ins.length c1) ∧ V.cell? ⟨w.heap.size, 2, none⟩ = some (.slice a2 x.lats.length c2) ∧ V.cell? ⟨w.heap.size, 3, none⟩ = some (.slice a3 x.outs.length c3) ∧ V.cell? ⟨w.heap.size, 4, none⟩ = some (.slice (some ⟨gb, ob, none⟩) x.bads.length c4) ∧ V.cell? ⟨w.heap.size, 5, none⟩ = some (.slice a5 x.invs.length c5) ∧ V.cell? ⟨w.heap.size, 6, none⟩ = some (.slice a6 x.ands.length c6) ∧ V.cell? ⟨w.heap.size, 7, none⟩ = some (.slice a7 x.names.length c7) ∧ V.cell? ⟨gb, ob + k, none⟩ = some (.int .i64 bl) := fun V hV => by
      have c := c8of (HC2.out.next (HB5.out.trans (hV.mono HB5.out.size)) (Nat.le_refl _))
      exact ⟨c.1, c.2.1, c.2.2.1, c.2.2.2.1, c.2.2.2.2.1, c.2.2.2.2.2.1, c.2.2.2.2.2.2.1, c.2.2.2.2.2.2.2, HBE.out V (HB12.out.trans ((HB5.out.trans (hV.mono HB5.out.size)).mono HB12.out.size))⟩
    have b00 : Below W5.heap.size W5 W5.drew := (Below.refl _ _).drew
    have hkl : (k : Int) < (x.bads.length : Int) := by have := HKL.out; omega
    refine HeldAll.region (fun U : World => U.cell? ⟨w.heap.size, 0, none⟩ = some (.int .i64 x.max) ∧ U.cell? ⟨w.heap.size, 1, none⟩ = some (.slice a1 x.ins.length c1) ∧ U.cell? ⟨w.heap.size, 2, none⟩ = some (.slice a2 x.lats.length c2) ∧ U.cell? ⟨w.heap.size, 3, none⟩ = some (.slice a3 x.outs.length c3) ∧ U.cell? ⟨w.heap.size, 4, none⟩ = some (.slice (some ⟨gb, ob, none⟩) x.bads.length c4) ∧ U.cell? ⟨w.heap.size, 5, none⟩ = some (.slice a5 x.invs.length c5) ∧ U.cell? ⟨w.heap.size, 6, none⟩ = some (.slice a6 x.ands.length c6) ∧ U.cell? ⟨w.heap.size, 7, none⟩ = some (.slice a7 x.names.length c7) ∧ U.cell? ⟨gb, ob + k, none⟩ = some (.int .i64 bl)) (by kernel_rfl) ?_
    obtain ⟨u0, hu0⟩ : ∃ U, W5.drew = U := ⟨_, rfl⟩
    rw [hu0]
    have b0 : Below W5.heap.size W5 u0 := by rw [← hu0]; exact b00
    have hS0 := hSK _ b0
    (refine HeldAll.take (i := 0) (oi := _) (d := some 23) (v := ?_) rfl rfl (by kernel_rfl) (by kernel_rfl) (by kernel_rfl) (fun _ _ _ h => h) (Or.inl ⟨by rfl, ?_⟩) hS0 ?_; rotate_left; (focus (intro w hSw; clear hSw; go_simp; (try with_reducible rfl); done)); (try simp only [Act.put, List.setIfInBounds_toArray, List.set_cons_zero, List.set_cons_succ]))
    (refine HeldAll.take (i := 1) (oi := _) (d := some 24) (v := ?_) rfl rfl (by kernel_rfl) (by kernel_rfl) (by kernel_rfl) (fun _ _ _ h => h) (Or.inl ⟨by rfl, ?_⟩) hS0 ?_; rotate_left; (focus (intro w hSw; (try dsimp only at hSw); go_simp; (try with_reducible rfl); done)); (try simp only [Act.put, List.setIfInBounds_toArray, List.set_cons_zero, List.set_cons_succ]))
    (refine HeldAll.take (i := 2) (oi := _) (d := some 25) (v := ?_) rfl rfl (by kernel_rfl) (by kernel_rfl) (by kernel_rfl) (fun _ _ _ h => h) (Or.inl ⟨by rfl, ?_⟩) hS0 ?_; rotate_left; (focus (intro w hSw; clear hSw; go_simp; (try with_reducible rfl); done)); (try simp only [Act.put, List.setIfInBounds_toArray, List.set_cons_zero, List.set_cons_succ]))
    (refine HeldAll.take (i := 3) (oi := _) (d := some 26) (v := ?_) rfl rfl (by kernel_rfl) (by kernel_rfl) (by kernel_rfl) (fun _ _ _ h => h) (Or.inl ⟨by rfl, ?_⟩) hS0 ?_; rotate_left; (focus (intro w hSw; (try dsimp only at hSw); go_simp; (try with_reducible rfl); done)); (try simp only [Act.put, List.setIfInBounds_toArray, List.set_cons_zero, List.set_cons_succ]))
    (refine HeldAll.take (i := 4) (oi := _) (d := some 27) (v := ?_) rfl rfl (by kernel_rfl) (by kernel_rfl) (by kernel_rfl) (fun _ _ _ h => h) (Or.inl ⟨by rfl, ?_⟩) hS0 ?_; rotate_left; (focus (intro w hSw; clear hSw; go_simp; (try with_reducible rfl); done)); (try simp only [Act.put, List.setIfInBounds_toArray, List.set_cons_zero, List.set_cons_succ]))
    (refine HeldAll.take (i := 5) (oi := _) (d := some 28) (v := ?_) rfl rfl (by kernel_rfl) (by kernel_rfl) (by kernel_rfl) (fun _ _ _ h => h) (Or.inl ⟨by rfl, ?_⟩) hS0 ?_; rotate_left; (focus (intro w hSw; clear hSw; go_simp; (try with_reducible rfl); done)); (try simp only [Act.put, List.setIfInBounds_toArray, List.set_cons_zero, List.set_cons_succ]))
    (refine HeldAll.take (i := 6) (oi := _) (d := some 29) (v := ?_) rfl rfl (by kernel_rfl) (by kernel_rfl) (by kernel_rfl) (fun _ _ _ h => h) (Or.inl ⟨by rfl, ?_⟩) hS0 ?_; rotate_left; (focus (intro w hSw; (try dsimp only at hSw); go_simp; (try with_reducible rfl); done)); (try simp only [Act.put, List.setIfInBounds_toArray, List.set_cons_zero, List.set_cons_succ]))
    (refine HeldAll.take (i := 8) (oi := _) (d := some 31) (v := ?_) rfl rfl (by kernel_rfl) (by kernel_rfl) (by kernel_rfl) (fun _ _ _ h => h) (Or.inl ⟨by rfl, ?_⟩) hS0 ?_; rotate_left; (focus (intro w hSw; clear hSw; go_simp; (try with_reducible rfl); done)); (try simp only [Act.put, List.setIfInBounds_toArray, List.set_cons_zero, List.set_cons_succ]))
    (refine HeldAll.take (i := 9) (oi := _) (d := some 32) (v := ?_) rfl rfl (by kernel_rfl) (by kernel_rfl) (by kernel_rfl) (fun _ _ _ h => h) (Or.inl ⟨by rfl, ?_⟩) hS0 ?_; rotate_left; (focus (intro w hSw; (try dsimp only at hSw); go_simp; (try with_reducible rfl); done)); (try simp only [Act.put, List.setIfInBounds_toArray, List.set_cons_zero, List.set_cons_succ]))
    refine HeldAll.three (i := 7) (j := 10) (k := 12) (by kernel_rfl) ?_ ?_ ?_
    · skip
      obtain ⟨u1, hu1⟩ : ∃ V, u0.alloc (.cells #[.int .i64 bl] 3) = V := ⟨_, rfl⟩
      have su1 : Below u0.heap.size u0 u1 := by rw [← hu1]; exact (Below.refl _ _).alloc (Nat.le_refl _) _
      have bu1 : Below W5.heap.size W5 u1 := b0.trans (su1.mono b0.size)
      have oB : u1.ownsRow u0.heap.size 3 1 (.slice (some ⟨u0.heap.size, 0, none⟩) 1 1) 1 (ints [bl]) := by rw [← hu1]; exact World.ownsRow_lit u0 #[.int .i64 bl] 1 (Nat.le_refl _) (by unfold maxLen; omega) rfl
      refine HeldAll.opVal (i := 7) (oi := _) (d := some 30) (v := .slice (some ⟨u0.heap.size, 0, none⟩) 1 1) (w2 := u1) rfl rfl (by rfl) (by rw [← hu1]; go_simp; done) (hSK _ bu1) ?_
      (try simp only [Act.put, List.setIfInBounds_toArray, List.set_cons_zero, List.set_cons_succ])
      refine HeldAll.two (i := 10) (j := 12) (by kernel_rfl) ?_ ?_
      · skip
        have oB0 := oB
        refine HeldAll.opCall (i := 10) (oi := _) (d := some 33) (R := fun v w' => ∃ a' c', v = .slice a' x.invs.length c' ∧ w'.ownsRow u1.heap.size 3 1 (.slice a' x.invs.length c') x.invs.length (ints x.invs) ∧ Below u1.heap.size u1 w') rfl rfl (by rfl) (by go_simp; done) ((HCL.out u1 bu1).mono fun e w' h => by obtain ⟨a', c', he, ho, hb⟩ := h; exact ⟨_, he, a', c', rfl, ho, hb⟩) ?_
        rintro v u2 ⟨aC, cC, rfl, oC, su2⟩
        have bu2 : Below W5.heap.size W5 u2 := bu1.trans (su2.mono bu1.size)
        have oB := own_next oB su2
        refine ⟨hSK _ bu2, ?_⟩
        (try simp only [Act.put, List.setIfInBounds_toArray, List.set_cons_zero, List.set_cons_succ])
        refine HeldAll.two (i := 11) (j := 12) (by kernel_rfl) ?_ ?_
        · skip
          refine HeldAll.opVal (i := 11) (oi := _) (d := some 34) (v := .agg #[.int .i64 x.max, .slice none 0 0, .slice none 0 0, .slice none 0 0, .slice (some ⟨u0.heap.size, 0, none⟩) 1 1, .slice aC x.invs.length cC, .slice none 0 0, .slice none 0 0]) (w2 := u2) rfl rfl (by rfl) (by go_simp; done) (hSK _ bu2) ?_
          (try simp only [Act.put, List.setIfInBounds_toArray, List.set_cons_zero, List.set_cons_succ])
          refine HeldAll.one (i := 12) (by kernel_rfl) ?_
          skip
          have oB0 := oB
          have oC0 := oC
          obtain ⟨u3, hu3⟩ : ∃ V, u2.alloc (.cells #[.int .i64 0, .slice none 0 0, .slice none 0 0, .slice none 0 0, .slice none 0 0, .slice none 0 0, .slice none 0 0, .slice none 0 0] 27) = V := ⟨_, rfl⟩
          have su3 : Below u2.heap.size u2 u3 := by rw [← hu3]; exact (Below.refl _ _).alloc (Nat.le_refl _) _
          have bu3 : Below W5.heap.size W5 u3 := bu2.trans (su3.mono bu2.size)
          have oB := own_next oB su3
          have oC := own_next oC su3
          have bx : BoxN u2.heap.size [.int .i64 0, .slice none 0 0, .slice none 0 0, .slice none 0 0, .slice none 0 0, .slice none 0 0, .slice none 0 0, .slice none 0 0] u3 := by rw [← hu3]; exact BoxN.new u2 _ _
          have geA : W5.heap.size ≤ u2.heap.size := bu2.size
          have nB := own_not oB0 (Nat.le_refl u2.heap.size)
          have nC := own_not oC0 (Nat.le_refl u2.heap.size)
          have ltAu3 : u2.heap.size < u3.heap.size := bx.lt
          refine HeldAll.opVal (i := 12) (oi := _) (d := some 10) (v := .pointer (some ⟨u2.heap.size, 0, none⟩)) (w2 := u3) rfl rfl (by rfl) (by rw [← hu3]; go_simp; done) (hSK _ bu3) ?_
          (try simp only [Act.put, List.setIfInBounds_toArray, List.set_cons_zero, List.set_cons_succ])
          have y0 := bx.at' 0 _ rfl
          have z0 := bx.fz 0
          have y1 := bx.at' 1 _ rfl
          have z1 := bx.fz 1
          have y2 := bx.at' 2 _ rfl
          have z2 := bx.fz 2
          have y3 := bx.at' 3 _ rfl
          have z3 := bx.fz 3
          have y4 := bx.at' 4 _ rfl
          have z4 := bx.fz 4
          have y5 := bx.at' 5 _ rfl
          have z5 := bx.fz 5
          have y6 := bx.at' 6 _ rfl
          have z6 := bx.fz 6
          have y7 := bx.at' 7 _ rfl
          have z7 := bx.fz 7
          refine HeldAll.one (i := 13) (by kernel_rfl) ?_
          refine HeldAll.opStore (i := 13) (oi := _) (d := none) (w2 := ((((((((u3.setCell ⟨u2.heap.size, 0, none⟩ (.int .i64 x.max)).setCell ⟨u2.heap.size, 1, none⟩ (.slice none 0 0)).setCell ⟨u2.heap.size, 2, none⟩ (.slice none 0 0)).setCell ⟨u2.heap.size, 3, none⟩ (.slice none 0 0)).setCell ⟨u2.heap.size, 4, none⟩ (.slice (some ⟨u0.heap.size, 0, none⟩) 1 1)).setCell ⟨u2.heap.size, 5, none⟩ (.slice aC x.invs.length cC)).setCell ⟨u2.heap.size, 6, none⟩ (.slice none 0 0)).setCell ⟨u2.heap.size, 7, none⟩ (.slice none 0 0))) rfl rfl (by rfl) (by go_simp; done) (hSK _ (below_set8 bu3 geA (.int .i64 x.max) (.slice none 0 0) (.slice none 0 0) (.slice none 0 0) (.slice (some ⟨u0.heap.size, 0, none⟩) 1 1) (.slice aC x.invs.length cC) (.slice none 0 0) (.slice none 0 0))) ?_
          (try simp only [Act.put, List.setIfInBounds_toArray, List.set_cons_zero, List.set_cons_succ])
          refine HeldAll.done (by kernel_rfl) ?_ _
          (try go_wp2_with fail)
          go_meet
          have hf1 := Lib.hid (box_set8 bx (.int .i64 x.max) (.slice none 0 0) (.slice none 0 0) (.slice none 0 0) (.slice (some ⟨u0.heap.size, 0, none⟩) 1 1) (.slice aC x.invs.length cC) (.slice none 0 0) (.slice none 0 0))
          have hf2 := Lib.hid (own_set8 (own_mono oB (b0).size) nB (.int .i64 x.max) (.slice none 0 0) (.slice none 0 0) (.slice none 0 0) (.slice (some ⟨u0.heap.size, 0, none⟩) 1 1) (.slice aC x.invs.length cC) (.slice none 0 0) (.slice none 0 0))
          have hf3 := Lib.hid (own_set8 (own_mono oC (bu1).size) nC (.int .i64 x.max) (.slice none 0 0) (.slice none 0 0) (.slice none 0 0) (.slice (some ⟨u0.heap.size, 0, none⟩) 1 1) (.slice aC x.invs.length cC) (.slice none 0 0) (.slice none 0 0))
          have hf4 := Lib.hid (below_set8 bu3 geA (.int .i64 x.max) (.slice none 0 0) (.slice none 0 0) (.slice none 0 0) (.slice (some ⟨u0.heap.size, 0, none⟩) 1 1) (.slice aC x.invs.length cC) (.slice none 0 0) (.slice none 0 0))
          exact ⟨u2.heap.size, u0.heap.size, aC, cC, rfl, geA, hf1, hf2, nB, hf3, nC, hf4⟩
        · skip
          have oB0 := oB
          have oC0 := oC
          obtain ⟨u4, hu4⟩ : ∃ V, u2.alloc (.cells #[.int .i64 0, .slice none 0 0, .slice none 0 0, .slice none 0 0, .slice none 0 0, .slice none 0 0, .slice none 0 0, .slice none 0 0] 27) = V := ⟨_, rfl⟩
          have su4 : Below u2.heap.size u2 u4 := by rw [← hu4]; exact (Below.refl _ _).alloc (Nat.le_refl _) _
          have bu4 : Below W5.heap.size W5 u4 := bu2.trans (su4.mono bu2.size)
          have oB := own_next oB su4
          have oC := own_next oC su4
          have bx : BoxN u2.heap.size [.int .i64 0, .slice none 0 0, .slice none 0 0, .slice none 0 0, .slice none 0 0, .slice none 0 0, .slice none 0 0, .slice none 0 0] u4 := by rw [← hu4]; exact BoxN.new u2 _ _
          have geA : W5.heap.size ≤ u2.heap.size := bu2.size
          have nB := own_not oB0 (Nat.le_refl u2.heap.size)
          have nC := own_not oC0 (Nat.le_refl u2.heap.size)
          have ltAu4 : u2.heap.size < u4.heap.size := bx.lt
          refine HeldAll.opVal (i := 12) (oi := _) (d := some 10) (v := .pointer (some ⟨u2.heap.size, 0, none⟩)) (w2 := u4) rfl rfl (by rfl) (by rw [← hu4]; go_simp; done) (hSK _ bu4) ?_
          (try simp only [Act.put, List.setIfInBounds_toArray, List.set_cons_zero, List.set_cons_succ])
          refine HeldAll.one (i := 11) (by kernel_rfl) ?_
          skip
          refine HeldAll.opVal (i := 11) (oi := _) (d := some 34) (v := .agg #[.int .i64 x.max, .slice none 0 0, .slice none 0 0, .slice none 0 0, .slice (some ⟨u0.heap.size, 0, none⟩) 1 1, .slice aC x.invs.length cC, .slice none 0 0, .slice none 0 0]) (w2 := u4) rfl rfl (by rfl) (by go_simp; done) (hSK _ bu4) ?_
          (try simp only [Act.put, List.setIfInBounds_toArray, List.set_cons_zero, List.set_cons_succ])
          have y0 := bx.at' 0 _ rfl
          have z0 := bx.fz 0
          have y1 := bx.at' 1 _ rfl
          have z1 := bx.fz 1
          have y2 := bx.at' 2 _ rfl
          have z2 := bx.fz 2
          have y3 := bx.at' 3 _ rfl
          have z3 := bx.fz 3
          have y4 := bx.at' 4 _ rfl
          have z4 := bx.fz 4
          have y5 := bx.at' 5 _ rfl
          have z5 := bx.fz 5
          have y6 := bx.at' 6 _ rfl
          have z6 := bx.fz 6
          have y7 := bx.at' 7 _ rfl
          have z7 := bx.fz 7
          refine HeldAll.one (i := 13) (by kernel_rfl) ?_
          refine HeldAll.opStore (i := 13) (oi := _) (d := none) (w2 := ((((((((u4.setCell ⟨u2.heap.size, 0, none⟩ (.int .i64 x.max)).setCell ⟨u2.heap.size, 1, none⟩ (.slice none 0 0)).setCell ⟨u2.heap.size, 2, none⟩ (.slice none 0 0)).setCell ⟨u2.heap.size, 3, none⟩ (.slice none 0 0)).setCell ⟨u2.heap.size, 4, none⟩ (.slice (some ⟨u0.heap.size, 0, none⟩) 1 1)).setCell ⟨u2.heap.size, 5, none⟩ (.slice aC x.invs.length cC)).setCell ⟨u2.heap.size, 6, none⟩ (.slice none 0 0)).setCell ⟨u2.heap.size, 7, none⟩ (.slice none 0 0))) rfl rfl (by rfl) (by go_simp; done) (hSK _ (below_set8 bu4 geA (.int .i64 x.max) (.slice none 0 0) (.slice none 0 0) (.slice none 0 0) (.slice (some ⟨u0.heap.size, 0, none⟩) 1 1) (.slice aC x.invs.length cC) (.slice none 0 0) (.slice none 0 0))) ?_
          (try simp only [Act.put, List.setIfInBounds_toArray, List.set_cons_zero, List.set_cons_succ])
          refine HeldAll.done (by kernel_rfl) ?_ _
          (try go_wp2_with fail)
          go_meet
          have hf1 := Lib.hid (box_set8 bx (.int .i64 x.max) (.slice none 0 0) (.slice none 0 0) (.slice none 0 0) (.slice (some ⟨u0.heap.size, 0, none⟩) 1 1) (.slice aC x.invs.length cC) (.slice none 0 0) (.slice none 0 0))
          have hf2 := Lib.hid (own_set8 (own_mono oB (b0).size) nB (.int .i64 x.max) (.slice none 0 0) (.slice none 0 0) (.slice none 0 0) (.slice (some ⟨u0.heap.size, 0, none⟩) 1 1) (.slice aC x.invs.length cC) (.slice none 0 0) (.slice none 0 0))
          have hf3 := Lib.hid (own_set8 (own_mono oC (bu1).size) nC (.int .i64 x.max) (.slice none 0 0) (.slice none 0 0) (.slice none 0 0) (.slice (some ⟨u0.heap.size, 0, none⟩) 1 1) (.slice aC x.invs.length cC) (.slice none 0 0) (.slice none 0 0))
          have hf4 := Lib.hid (below_set8 bu4 geA (.int .i64 x.max) (.slice none 0 0) (.slice none 0 0) (.slice none 0 0) (.slice (some ⟨u0.heap.size, 0, none⟩) 1 1) (.slice aC x.invs.length cC) (.slice none 0 0) (.slice none 0 0))
          exact ⟨u2.heap.size, u0.heap.size, aC, cC, rfl, geA, hf1, hf2, nB, hf3, nC, hf4⟩
      · skip
        have oB0 := oB
        obtain ⟨u5, hu5⟩ : ∃ V, u1.alloc (.cells #[.int .i64 0, .slice none 0 0, .slice none 0 0, .slice none 0 0, .slice none 0 0, .slice none 0 0, .slice none 0 0, .slice none 0 0] 27) = V := ⟨_, rfl⟩
        have su5 : Below u1.heap.size u1 u5 := by rw [← hu5]; exact (Below.refl _ _).alloc (Nat.le_refl _) _
        have bu5 : Below W5.heap.size W5 u5 := bu1.trans (su5.mono bu1.size)
        have oB := own_next oB su5
        have bx : BoxN u1.heap.size [.int .i64 0, .slice none 0 0, .slice none 0 0, .slice none 0 0, .slice none 0 0, .slice none 0 0, .slice none 0 0, .slice none 0 0] u5 := by rw [← hu5]; exact BoxN.new u1 _ _
        have geA : W5.heap.size ≤ u1.heap.size := bu1.size
        have nB := own_not oB0 (Nat.le_refl u1.heap.size)
        have ltAu5 : u1.heap.size < u5.heap.size := bx.lt
        refine HeldAll.opVal (i := 12) (oi := _) (d := some 10) (v := .pointer (some ⟨u1.heap.size, 0, none⟩)) (w2 := u5) rfl rfl (by rfl) (by rw [← hu5]; go_simp; done) (hSK _ bu5) ?_
        (try simp only [Act.put, List.setIfInBounds_toArray, List.set_cons_zero, List.set_cons_succ])
        refine HeldAll.one (i := 10) (by kernel_rfl) ?_
        skip
        have oB0 := oB
        refine HeldAll.opCall (i := 10) (oi := _) (d := some 33) (R := fun v w' => ∃ a' c', v = .slice a' x.invs.length c' ∧ w'.ownsRow u5.heap.size 3 1 (.slice a' x.invs.length c') x.invs.length (ints x.invs) ∧ Below u5.heap.size u5 w') rfl rfl (by rfl) (by go_simp; done) ((HCL.out u5 bu5).mono fun e w' h => by obtain ⟨a', c', he, ho, hb⟩ := h; exact ⟨_, he, a', c', rfl, ho, hb⟩) ?_
        rintro v u6 ⟨aC, cC, rfl, oC, su6⟩
        have bu6 : Below W5.heap.size W5 u6 := bu5.trans (su6.mono bu5.size)
        have oB := own_next oB su6
        have bx := bx.next su6 bx.lt
        have nC := own_not' oC (N := u1.heap.size) ltAu5
        have ltAu6 : u1.heap.size < u6.heap.size := bx.lt
        refine ⟨hSK _ bu6, ?_⟩
        (try simp only [Act.put, List.setIfInBounds_toArray, List.set_cons_zero, List.set_cons_succ])
        refine HeldAll.one (i := 11) (by kernel_rfl) ?_
        skip
        refine HeldAll.opVal (i := 11) (oi := _) (d := some 34) (v := .agg #[.int .i64 x.max, .slice none 0 0, .slice none 0 0, .slice none 0 0, .slice (some ⟨u0.heap.size, 0, none⟩) 1 1, .slice aC x.invs.length cC, .slice none 0 0, .slice none 0 0]) (w2 := u6) rfl rfl (by rfl) (by go_simp; done) (hSK _ bu6) ?_
        (try simp only [Act.put, List.setIfInBounds_toArray, List.set_cons_zero, List.set_cons_succ])
        have y0 := bx.at' 0 _ rfl
        have z0 := bx.fz 0
        have y1 := bx.at' 1 _ rfl
        have z1 := bx.fz 1
        have y2 := bx.at' 2 _ rfl
        have z2 := bx.fz 2
        have y3 := bx.at' 3 _ rfl
        have z3 := bx.fz 3
        have y4 := bx.at' 4 _ rfl
        have z4 := bx.fz 4
        have y5 := bx.at' 5 _ rfl
        have z5 := bx.fz 5
        have y6 := bx.at' 6 _ rfl
        have z6 := bx.fz 6
        have y7 := bx.at' 7 _ rfl
        have z7 := bx.fz 7
        refine HeldAll.one (i := 13) (by kernel_rfl) ?_
        refine HeldAll.opStore (i := 13) (oi := _) (d := none) (w2 := ((((((((u6.setCell ⟨u1.heap.size, 0, none⟩ (.int .i64 x.max)).setCell ⟨u1.heap.size, 1, none⟩ (.slice none 0 0)).setCell ⟨u1.heap.size, 2, none⟩ (.slice none 0 0)).setCell ⟨u1.heap.size, 3, none⟩ (.slice none 0 0)).setCell ⟨u1.heap.size, 4, none⟩ (.slice (some ⟨u0.heap.size, 0, none⟩) 1 1)).setCell ⟨u1.heap.size, 5, none⟩ (.slice aC x.invs.length cC)).setCell ⟨u1.heap.size, 6, none⟩ (.slice none 0 0)).setCell ⟨u1.heap.size, 7, none⟩ (.slice none 0 0))) rfl rfl (by rfl) (by go_simp; done) (hSK _ (below_set8 bu6 geA (.int .i64 x.max) (.slice none 0 0) (.slice none 0 0) (.slice none 0 0) (.slice (some ⟨u0.heap.size, 0, none⟩) 1 1) (.slice aC x.invs.length cC) (.slice none 0 0) (.slice none 0 0))) ?_
        (try simp only [Act.put, List.setIfInBounds_toArray, List.set_cons_zero, List.set_cons_succ])
        refine HeldAll.done (by kernel_rfl) ?_ _
        (try go_wp2_with fail)
        go_meet
        have hf1 := Lib.hid (box_set8 bx (.int .i64 x.max) (.slice none 0 0) (.slice none 0 0) (.slice none 0 0) (.slice (some ⟨u0.heap.size, 0, none⟩) 1 1) (.slice aC x.invs.length cC) (.slice none 0 0) (.slice none 0 0))
        have hf2 := Lib.hid (own_set8 (own_mono oB (b0).size) nB (.int .i64 x.max) (.slice none 0 0) (.slice none 0 0) (.slice none 0 0) (.slice (some ⟨u0.heap.size, 0, none⟩) 1 1) (.slice aC x.invs.length cC) (.slice none 0 0) (.slice none 0 0))
        have hf3 := Lib.hid (own_set8 (own_mono oC (bu5).size) nC (.int .i64 x.max) (.slice none 0 0) (.slice none 0 0) (.slice none 0 0) (.slice (some ⟨u0.heap.size, 0, none⟩) 1 1) (.slice aC x.invs.length cC) (.slice none 0 0) (.slice none 0 0))
        have hf4 := Lib.hid (below_set8 bu6 geA (.int .i64 x.max) (.slice none 0 0) (.slice none 0 0) (.slice none 0 0) (.slice (some ⟨u0.heap.size, 0, none⟩) 1 1) (.slice aC x.invs.length cC) (.slice none 0 0) (.slice none 0 0))
        exact ⟨u1.heap.size, u0.heap.size, aC, cC, rfl, geA, hf1, hf2, nB, hf3, nC, hf4⟩
    · skip
      refine HeldAll.opCall (i := 10) (oi := _) (d := some 33) (R := fun v w' => ∃ a' c', v = .slice a' x.invs.length c' ∧ w'.ownsRow u0.heap.size 3 1 (.slice a' x.invs.length c') x.invs.length (ints x.invs) ∧ Below u0.heap.size u0 w') rfl rfl (by rfl) (by go_simp; done) ((HCL.out u0 b0).mono fun e w' h => by obtain ⟨a', c', he, ho, hb⟩ := h; exact ⟨_, he, a', c', rfl, ho, hb⟩) ?_
      rintro v u7 ⟨aC, cC, rfl, oC, su7⟩
      have bu7 : Below W5.heap.size W5 u7 := b0.trans (su7.mono b0.size)
      refine ⟨hSK _ bu7, ?_⟩
      (try simp only [Act.put, List.setIfInBounds_toArray, List.set_cons_zero, List.set_cons_succ])
      refine HeldAll.two (i := 7) (j := 12) (by kernel_rfl) ?_ ?_
      · skip
        have oC0 := oC
        obtain ⟨u8, hu8⟩ : ∃ V, u7.alloc (.cells #[.int .i64 bl] 3) = V := ⟨_, rfl⟩
        have su8 : Below u7.heap.size u7 u8 := by rw [← hu8]; exact (Below.refl _ _).alloc (Nat.le_refl _) _
        have bu8 : Below W5.heap.size W5 u8 := bu7.trans (su8.mono bu7.size)
        have oC := own_next oC su8
        have oB : u8.ownsRow u7.heap.size 3 1 (.slice (some ⟨u7.heap.size, 0, none⟩) 1 1) 1 (ints [bl]) := by rw [← hu8]; exact World.ownsRow_lit u7 #[.int .i64 bl] 1 (Nat.le_refl _) (by unfold maxLen; omega) rfl
        refine HeldAll.opVal (i := 7) (oi := _) (d := some 30) (v := .slice (some ⟨u7.heap.size, 0, none⟩) 1 1) (w2 := u8) rfl rfl (by rfl) (by rw [← hu8]; go_simp; done) (hSK _ bu8) ?_
        (try simp only [Act.put, List.setIfInBounds_toArray, List.set_cons_zero, List.set_cons_succ])
        refine HeldAll.two (i := 11) (j := 12) (by kernel_rfl) ?_ ?_
        · skip
          refine HeldAll.opVal (i := 11) (oi := _) (d := some 34) (v := .agg #[.int .i64 x.max, .slice none 0 0, .slice none 0 0, .slice none 0 0, .slice (some ⟨u7.heap.size, 0, none⟩) 1 1, .slice aC x.invs.length cC, .slice none 0 0, .slice none 0 0]) (w2 := u8) rfl rfl (by rfl) (by go_simp; done) (hSK _ bu8) ?_
          (try simp only [Act.put, List.setIfInBounds_toArray, List.set_cons_zero, List.set_cons_succ])
          refine HeldAll.one (i := 12) (by kernel_rfl) ?_
          skip
          have oC0 := oC
          have oB0 := oB
          obtain ⟨u9, hu9⟩ : ∃ V, u8.alloc (.cells #[.int .i64 0, .slice none 0 0, .slice none 0 0, .slice none 0 0, .slice none 0 0, .slice none 0 0, .slice none 0 0, .slice none 0 0] 27) = V := ⟨_, rfl⟩
          have su9 : Below u8.heap.size u8 u9 := by rw [← hu9]; exact (Below.refl _ _).alloc (Nat.le_refl _) _
          have bu9 : Below W5.heap.size W5 u9 := bu8.trans (su9.mono bu8.size)
          have oC := own_next oC su9
          have oB := own_next oB su9
          have bx : BoxN u8.heap.size [.int .i64 0, .slice none 0 0, .slice none 0 0, .slice none 0 0, .slice none 0 0, .slice none 0 0, .slice none 0 0, .slice none 0 0] u9 := by rw [← hu9]; exact BoxN.new u8 _ _
          have geA : W5.heap.size ≤ u8.heap.size := bu8.size
          have nB := own_not oB0 (Nat.le_refl u8.heap.size)
          have nC := own_not oC0 (Nat.le_refl u8.heap.size)
          have ltAu9 : u8.heap.size < u9.heap.size := bx.lt
          refine HeldAll.opVal (i := 12) (oi := _) (d := some 10) (v := .pointer (some ⟨u8.heap.size, 0, none⟩)) (w2 := u9) rfl rfl (by rfl) (by rw [← hu9]; go_simp; done) (hSK _ bu9) ?_
          (try simp only [Act.put, List.setIfInBounds_toArray, List.set_cons_zero, List.set_cons_succ])
          have y0 := bx.at' 0 _ rfl
          have z0 := bx.fz 0
          have y1 := bx.at' 1 _ rfl
          have z1 := bx.fz 1
          have y2 := bx.at' 2 _ rfl
          have z2 := bx.fz 2
          have y3 := bx.at' 3 _ rfl
          have z3 := bx.fz 3
          have y4 := bx.at' 4 _ rfl
          have z4 := bx.fz 4
          have y5 := bx.at' 5 _ rfl
          have z5 := bx.fz 5
          have y6 := bx.at' 6 _ rfl
          have z6 := bx.fz 6
          have y7 := bx.at' 7 _ rfl
          have z7 := bx.fz 7
          refine HeldAll.one (i := 13) (by kernel_rfl) ?_
          refine HeldAll.opStore (i := 13) (oi := _) (d := none) (w2 := ((((((((u9.setCell ⟨u8.heap.size, 0, none⟩ (.int .i64 x.max)).setCell ⟨u8.heap.size, 1, none⟩ (.slice none 0 0)).setCell ⟨u8.heap.size, 2, none⟩ (.slice none 0 0)).setCell ⟨u8.heap.size, 3, none⟩ (.slice none 0 0)).setCell ⟨u8.heap.size, 4, none⟩ (.slice (some ⟨u7.heap.size, 0, none⟩) 1 1)).setCell ⟨u8.heap.size, 5, none⟩ (.slice aC x.invs.length cC)).setCell ⟨u8.heap.size, 6, none⟩ (.slice none 0 0)).setCell ⟨u8.heap.size, 7, none⟩ (.slice none 0 0))) rfl rfl (by rfl) (by go_simp; done) (hSK _ (below_set8 bu9 geA (.int .i64 x.max) (.slice none 0 0) (.slice none 0 0) (.slice none 0 0) (.slice (some ⟨u7.heap.size, 0, none⟩) 1 1) (.slice aC x.invs.length cC) (.slice none 0 0) (.slice none 0 0))) ?_
          (try simp only [Act.put, List.setIfInBounds_toArray, List.set_cons_zero, List.set_cons_succ])
          refine HeldAll.done (by kernel_rfl) ?_ _
          (try go_wp2_with fail)
          go_meet
          have hf1 := Lib.hid (box_set8 bx (.int .i64 x.max) (.slice none 0 0) (.slice none 0 0) (.slice none 0 0) (.slice (some ⟨u7.heap.size, 0, none⟩) 1 1) (.slice aC x.invs.length cC) (.slice none 0 0) (.slice none 0 0))
          have hf2 := Lib.hid (own_set8 (own_mono oB (bu7).size) nB (.int .i64 x.max) (.slice none 0 0) (.slice none 0 0) (.slice none 0 0) (.slice (some ⟨u7.heap.size, 0, none⟩) 1 1) (.slice aC x.invs.length cC) (.slice none 0 0) (.slice none 0 0))
          have hf3 := Lib.hid (own_set8 (own_mono oC (b0).size) nC (.int .i64 x.max) (.slice none 0 0) (.slice none 0 0) (.slice none 0 0) (.slice (some ⟨u7.heap.size, 0, none⟩) 1 1) (.slice aC x.invs.length cC) (.slice none 0 0) (.slice none 0 0))
          have hf4 := Lib.hid (below_set8 bu9 geA (.int .i64 x.max) (.slice none 0 0) (.slice none 0 0) (.slice none 0 0) (.slice (some ⟨u7.heap.size, 0, none⟩) 1 1) (.slice aC x.invs.length cC) (.slice none 0 0) (.slice none 0 0))
          exact ⟨u8.heap.size, u7.heap.size, aC, cC, rfl, geA, hf1, hf2, nB, hf3, nC, hf4⟩
        · skip
          have oC0 := oC
          have oB0 := oB
          obtain ⟨u10, hu10⟩ : ∃ V, u8.alloc (.cells #[.int .i64 0, .slice none 0 0, .slice none 0 0, .slice none 0 0, .slice none 0 0, .slice none 0 0, .slice none 0 0, .slice none 0 0] 27) = V := ⟨_, rfl⟩
          have su10 : Below u8.heap.size u8 u10 := by rw [← hu10]; exact (Below.refl _ _).alloc (Nat.le_refl _) _
          have bu10 : Below W5.heap.size W5 u10 := bu8.trans (su10.mono bu8.size)
          have oC := own_next oC su10
          have oB := own_next oB su10
          have bx : BoxN u8.heap.size [.int .i64 0, .slice none 0 0, .slice none 0 0, .slice none 0 0, .slice none 0 0, .slice none 0 0, .slice none 0 0, .slice none 0 0] u10 := by rw [← hu10]; exact BoxN.new u8 _ _
          have geA : W5.heap.size ≤ u8.heap.size := bu8.size
          have nB := own_not oB0 (Nat.le_refl u8.heap.size)
          have nC := own_not oC0 (Nat.le_refl u8.heap.size)
          have ltAu10 : u8.heap.size < u10.heap.size := bx.lt
          refine HeldAll.opVal (i := 12) (oi := _) (d := some 10) (v := .pointer (some ⟨u8.heap.size, 0, none⟩)) (w2 := u10) rfl rfl (by rfl) (by rw [← hu10]; go_simp; done) (hSK _ bu10) ?_
          (try simp only [Act.put, List.setIfInBounds_toArray, List.set_cons_zero, List.set_cons_succ])
          refine HeldAll.one (i := 11) (by kernel_rfl) ?_
          skip
          refine HeldAll.opVal (i := 11) (oi := _) (d := some 34) (v := .agg #[.int .i64 x.max, .slice none 0 0, .slice none 0 0, .slice none 0 0, .slice (some ⟨u7.heap.size, 0, none⟩) 1 1, .slice aC x.invs.length cC, .slice none 0 0, .slice none 0 0]) (w2 := u10) rfl rfl (by rfl) (by go_simp; done) (hSK _ bu10) ?_
          (try simp only [Act.put, List.setIfInBounds_toArray, List.set_cons_zero, List.set_cons_succ])
          have y0 := bx.at' 0 _ rfl
          have z0 := bx.fz 0
          have y1 := bx.at' 1 _ rfl
          have z1 := bx.fz 1
          have y2 := bx.at' 2 _ rfl
          have z2 := bx.fz 2
          have y3 := bx.at' 3 _ rfl
          have z3 := bx.fz 3
          have y4 := bx.at' 4 _ rfl
          have z4 := bx.fz 4
          have y5 := bx.at' 5 _ rfl
          have z5 := bx.fz 5
          have y6 := bx.at' 6 _ rfl
          have z6 := bx.fz 6
          have y7 := bx.at' 7 _ rfl
          have z7 := bx.fz 7
          refine HeldAll.one (i := 13) (by kernel_rfl) ?_
          refine HeldAll.opStore (i := 13) (oi := _) (d := none) (w2 := ((((((((u10.setCell ⟨u8.heap.size, 0, none⟩ (.int .i64 x.max)).setCell ⟨u8.heap.size, 1, none⟩ (.slice none 0 0)).setCell ⟨u8.heap.size, 2, none⟩ (.slice none 0 0)).setCell ⟨u8.heap.size, 3, none⟩ (.slice none 0 0)).setCell ⟨u8.heap.size, 4, none⟩ (.slice (some ⟨u7.heap.size, 0, none⟩) 1 1)).setCell ⟨u8.heap.size, 5, none⟩ (.slice aC x.invs.length cC)).setCell ⟨u8.heap.size, 6, none⟩ (.slice none 0 0)).setCell ⟨u8.heap.size, 7, none⟩ (.slice none 0 0))) rfl rfl (by rfl) (by go_simp; done) (hSK _ (below_set8 bu10 geA (.int .i64 x.max) (.slice none 0 0) (.slice none 0 0) (.slice none 0 0) (.slice (some ⟨u7.heap.size, 0, none⟩) 1 1) (.slice aC x.invs.length cC) (.slice none 0 0) (.slice none 0 0))) ?_
          (try simp only [Act.put, List.setIfInBounds_toArray, List.set_cons_zero, List.set_cons_succ])
          refine HeldAll.done (by kernel_rfl) ?_ _
          (try go_wp2_with fail)
          go_meet
          have hf1 := Lib.hid (box_set8 bx (.int .i64 x.max) (.slice none 0 0) (.slice none 0 0) (.slice none 0 0) (.slice (some ⟨u7.heap.size, 0, none⟩) 1 1) (.slice aC x.invs.length cC) (.slice none 0 0) (.slice none 0 0))
          have hf2 := Lib.hid (own_set8 (own_mono oB (bu7).size) nB (.int .i64 x.max) (.slice none 0 0) (.slice none 0 0) (.slice none 0 0) (.slice (some ⟨u7.heap.size, 0, none⟩) 1 1) (.slice aC x.invs.length cC) (.slice none 0 0) (.slice none 0 0))
          have hf3 := Lib.hid (own_set8 (own_mono oC (b0).size) nC (.int .i64 x.max) (.slice none 0 0) (.slice none 0 0) (.slice none 0 0) (.slice (some ⟨u7.heap.size, 0, none⟩) 1 1) (.slice aC x.invs.length cC) (.slice none 0 0) (.slice none 0 0))
          have hf4 := Lib.hid (below_set8 bu10 geA (.int .i64 x.max) (.slice none 0 0) (.slice none 0 0) (.slice none 0 0) (.slice (some ⟨u7.heap.size, 0, none⟩) 1 1) (.slice aC x.invs.length cC) (.slice none 0 0) (.slice none 0 0))
          exact ⟨u8.heap.size, u7.heap.size, aC, cC, rfl, geA, hf1, hf2, nB, hf3, nC, hf4⟩
      · skip
        have oC0 := oC
        obtain ⟨u11, hu11⟩ : ∃ V, u7.alloc (.cells #[.int .i64 0, .slice none 0 0, .slice none 0 0, .slice none 0 0, .slice none 0 0, .slice none 0 0, .slice none 0 0, .slice none 0 0] 27) = V := ⟨_, rfl⟩
        have su11 : Below u7.heap.size u7 u11 := by rw [← hu11]; exact (Below.refl _ _).alloc (Nat.le_refl _) _
        have bu11 : Below W5.heap.size W5 u11 := bu7.trans (su11.mono bu7.size)
        have oC := own_next oC su11
        have bx : BoxN u7.heap.size [.int .i64 0, .slice none 0 0, .slice none 0 0, .slice none 0 0, .slice none 0 0, .slice none 0 0, .slice none 0 0, .slice none 0 0] u11 := by rw [← hu11]; exact BoxN.new u7 _ _
        have geA : W5.heap.size ≤ u7.heap.size := bu7.size
        have nC := own_not oC0 (Nat.le_refl u7.heap.size)
        have ltAu11 : u7.heap.size < u11.heap.size := bx.lt
        refine HeldAll.opVal (i := 12) (oi := _) (d := some 10) (v := .pointer (some ⟨u7.heap.size, 0, none⟩)) (w2 := u11) rfl rfl (by rfl) (by rw [← hu11]; go_simp; done) (hSK _ bu11) ?_
        (try simp only [Act.put, List.setIfInBounds_toArray, List.set_cons_zero, List.set_cons_succ])
        refine HeldAll.one (i := 7) (by kernel_rfl) ?_
        skip
        have oC0 := oC
        obtain ⟨u12, hu12⟩ : ∃ V, u11.alloc (.cells #[.int .i64 bl] 3) = V := ⟨_, rfl⟩
        have su12 : Below u11.heap.size u11 u12 := by rw [← hu12]; exact (Below.refl _ _).alloc (Nat.le_refl _) _
        have bu12 : Below W5.heap.size W5 u12 := bu11.trans (su12.mono bu11.size)
        have oC := own_next oC su12
        have bx := bx.next su12 bx.lt
        have oB : u12.ownsRow u11.heap.size 3 1 (.slice (some ⟨u11.heap.size, 0, none⟩) 1 1) 1 (ints [bl]) := by rw [← hu12]; exact World.ownsRow_lit u11 #[.int .i64 bl] 1 (Nat.le_refl _) (by unfold maxLen; omega) rfl
        have nB := own_not' oB (N := u7.heap.size) ltAu11
        have ltAu12 : u7.heap.size < u12.heap.size := bx.lt
        refine HeldAll.opVal (i := 7) (oi := _) (d := some 30) (v := .slice (some ⟨u11.heap.size, 0, none⟩) 1 1) (w2 := u12) rfl rfl (by rfl) (by rw [← hu12]; go_simp; done) (hSK _ bu12) ?_
        (try simp only [Act.put, List.setIfInBounds_toArray, List.set_cons_zero, List.set_cons_succ])
        refine HeldAll.one (i := 11) (by kernel_rfl) ?_
        skip
        refine HeldAll.opVal (i := 11) (oi := _) (d := some 34) (v := .agg #[.int .i64 x.max, .slice none 0 0, .slice none 0 0, .slice none 0 0, .slice (some ⟨u11.heap.size, 0, none⟩) 1 1, .slice aC x.invs.length cC, .slice none 0 0, .slice none 0 0]) (w2 := u12) rfl rfl (by rfl) (by go_simp; done) (hSK _ bu12) ?_
        (try simp only [Act.put, List.setIfInBounds_toArray, List.set_cons_zero, List.set_cons_succ])
        have y0 := bx.at' 0 _ rfl
        have z0 := bx.fz 0
        have y1 := bx.at' 1 _ rfl
        have z1 := bx.fz 1
        have y2 := bx.at' 2 _ rfl
        have z2 := bx.fz 2
        have y3 := bx.at' 3 _ rfl
        have z3 := bx.fz 3
        have y4 := bx.at' 4 _ rfl
        have z4 := bx.fz 4
        have y5 := bx.at' 5 _ rfl
        have z5 := bx.fz 5
        have y6 := bx.at' 6 _ rfl
        have z6 := bx.fz 6
        have y7 := bx.at' 7 _ rfl
        have z7 := bx.fz 7
        refine HeldAll.one (i := 13) (by kernel_rfl) ?_
        refine HeldAll.opStore (i := 13) (oi := _) (d := none) (w2 := ((((((((u12.setCell ⟨u7.heap.size, 0, none⟩ (.int .i64 x.max)).setCell ⟨u7.heap.size, 1, none⟩ (.slice none 0 0)).setCell ⟨u7.heap.size, 2, none⟩ (.slice none 0 0)).setCell ⟨u7.heap.size, 3, none⟩ (.slice none 0 0)).setCell ⟨u7.heap.size, 4, none⟩ (.slice (some ⟨u11.heap.size, 0, none⟩) 1 1)).setCell ⟨u7.heap.size, 5, none⟩ (.slice aC x.invs.length cC)).setCell ⟨u7.heap.size, 6, none⟩ (.slice none 0 0)).setCell ⟨u7.heap.size, 7, none⟩ (.slice none 0 0))) rfl rfl (by rfl) (by go_simp; done) (hSK _ (below_set8 bu12 geA (.int .i64 x.max) (.slice none 0 0) (.slice none 0 0) (.slice none 0 0) (.slice (some ⟨u11.heap.size, 0, none⟩) 1 1) (.slice aC x.invs.length cC) (.slice none 0 0) (.slice none 0 0))) ?_
        (try simp only [Act.put, List.setIfInBounds_toArray, List.set_cons_zero, List.set_cons_succ])
        refine HeldAll.done (by kernel_rfl) ?_ _
        (try go_wp2_with fail)
        go_meet
        have hf1 := Lib.hid (box_set8 bx (.int .i64 x.max) (.slice none 0 0) (.slice none 0 0) (.slice none 0 0) (.slice (some ⟨u11.heap.size, 0, none⟩) 1 1) (.slice aC x.invs.length cC) (.slice none 0 0) (.slice none 0 0))
        have hf2 := Lib.hid (own_set8 (own_mono oB (bu11).size) nB (.int .i64 x.max) (.slice none 0 0) (.slice none 0 0) (.slice none 0 0) (.slice (some ⟨u11.heap.size, 0, none⟩) 1 1) (.slice aC x.invs.length cC) (.slice none 0 0) (.slice none 0 0))
        have hf3 := Lib.hid (own_set8 (own_mono oC (b0).size) nC (.int .i64 x.max) (.slice none 0 0) (.slice none 0 0) (.slice none 0 0) (.slice (some ⟨u11.heap.size, 0, none⟩) 1 1) (.slice aC x.invs.length cC) (.slice none 0 0) (.slice none 0 0))
        have hf4 := Lib.hid (below_set8 bu12 geA (.int .i64 x.max) (.slice none 0 0) (.slice none 0 0) (.slice none 0 0) (.slice (some ⟨u11.heap.size, 0, none⟩) 1 1) (.slice aC x.invs.length cC) (.slice none 0 0) (.slice none 0 0))
        exact ⟨u7.heap.size, u11.heap.size, aC, cC, rfl, geA, hf1, hf2, nB, hf3, nC, hf4⟩
    · skip
      obtain ⟨u13, hu13⟩ : ∃ V, u0.alloc (.cells #[.int .i64 0, .slice none 0 0, .slice none 0 0, .slice none 0 0, .slice none 0 0, .slice none 0 0, .slice none 0 0, .slice none 0 0] 27) = V := ⟨_, rfl⟩
      have su13 : Below u0.heap.size u0 u13 := by rw [← hu13]; exact (Below.refl _ _).alloc (Nat.le_refl _) _
      have bu13 : Below W5.heap.size W5 u13 := b0.trans (su13.mono b0.size)
      have bx : BoxN u0.heap.size [.int .i64 0, .slice none 0 0, .slice none 0 0, .slice none 0 0, .slice none 0 0, .slice none 0 0, .slice none 0 0, .slice none 0 0] u13 := by rw [← hu13]; exact BoxN.new u0 _ _
      have geA : W5.heap.size ≤ u0.heap.size := b0.size
      have ltAu13 : u0.heap.size < u13.heap.size := bx.lt
      refine HeldAll.opVal (i := 12) (oi := _) (d := some 10) (v := .pointer (some ⟨u0.heap.size, 0, none⟩)) (w2 := u13) rfl rfl (by rfl) (by rw [← hu13]; go_simp; done) (hSK _ bu13) ?_
      (try simp only [Act.put, List.setIfInBounds_toArray, List.set_cons_zero, List.set_cons_succ])
      refine HeldAll.two (i := 7) (j := 10) (by kernel_rfl) ?_ ?_
      · skip
        obtain ⟨u14, hu14⟩ : ∃ V, u13.alloc (.cells #[.int .i64 bl] 3) = V := ⟨_, rfl⟩
        have su14 : Below u13.heap.size u13 u14 := by rw [← hu14]; exact (Below.refl _ _).alloc (Nat.le_refl _) _
        have bu14 : Below W5.heap.size W5 u14 := bu13.trans (su14.mono bu13.size)
        have bx := bx.next su14 bx.lt
        have oB : u14.ownsRow u13.heap.size 3 1 (.slice (some ⟨u13.heap.size, 0, none⟩) 1 1) 1 (ints [bl]) := by rw [← hu14]; exact World.ownsRow_lit u13 #[.int .i64 bl] 1 (Nat.le_refl _) (by unfold maxLen; omega) rfl
        have nB := own_not' oB (N := u0.heap.size) ltAu13
        have ltAu14 : u0.heap.size < u14.heap.size := bx.lt
        refine HeldAll.opVal (i := 7) (oi := _) (d := some 30) (v := .slice (some ⟨u13.heap.size, 0, none⟩) 1 1) (w2 := u14) rfl rfl (by rfl) (by rw [← hu14]; go_simp; done) (hSK _ bu14) ?_
        (try simp only [Act.put, List.setIfInBounds_toArray, List.set_cons_zero, List.set_cons_succ])
        refine HeldAll.one (i := 10) (by kernel_rfl) ?_
        skip
        have oB0 := oB
        refine HeldAll.opCall (i := 10) (oi := _) (d := some 33) (R := fun v w' => ∃ a' c', v = .slice a' x.invs.length c' ∧ w'.ownsRow u14.heap.size 3 1 (.slice a' x.invs.length c') x.invs.length (ints x.invs) ∧ Below u14.heap.size u14 w') rfl rfl (by rfl) (by go_simp; done) ((HCL.out u14 bu14).mono fun e w' h => by obtain ⟨a', c', he, ho, hb⟩ := h; exact ⟨_, he, a', c', rfl, ho, hb⟩) ?_
        rintro v u15 ⟨aC, cC, rfl, oC, su15⟩
        have bu15 : Below W5.heap.size W5 u15 := bu14.trans (su15.mono bu14.size)
        have bx := bx.next su15 bx.lt
        have oB := own_next oB su15
        have nC := own_not' oC (N := u0.heap.size) ltAu14
        have ltAu15 : u0.heap.size < u15.heap.size := bx.lt
        refine ⟨hSK _ bu15, ?_⟩
        (try simp only [Act.put, List.setIfInBounds_toArray, List.set_cons_zero, List.set_cons_succ])
        refine HeldAll.one (i := 11) (by kernel_rfl) ?_
        skip
        refine HeldAll.opVal (i := 11) (oi := _) (d := some 34) (v := .agg #[.int .i64 x.max, .slice none 0 0, .slice none 0 0, .slice none 0 0, .slice (some ⟨u13.heap.size, 0, none⟩) 1 1, .slice aC x.invs.length cC, .slice none 0 0, .slice none 0 0]) (w2 := u15) rfl rfl (by rfl) (by go_simp; done) (hSK _ bu15) ?_
        (try simp only [Act.put, List.setIfInBounds_toArray, List.set_cons_zero, List.set_cons_succ])
        have y0 := bx.at' 0 _ rfl
        have z0 := bx.fz 0
        have y1 := bx.at' 1 _ rfl
        have z1 := bx.fz 1
        have y2 := bx.at' 2 _ rfl
        have z2 := bx.fz 2
        have y3 := bx.at' 3 _ rfl
        have z3 := bx.fz 3
        have y4 := bx.at' 4 _ rfl
        have z4 := bx.fz 4
        have y5 := bx.at' 5 _ rfl
        have z5 := bx.fz 5
        have y6 := bx.at' 6 _ rfl
        have z6 := bx.fz 6
        have y7 := bx.at' 7 _ rfl
        have z7 := bx.fz 7
        refine HeldAll.one (i := 13) (by kernel_rfl) ?_
        refine HeldAll.opStore (i := 13) (oi := _) (d := none) (w2 := ((((((((u15.setCell ⟨u0.heap.size, 0, none⟩ (.int .i64 x.max)).setCell ⟨u0.heap.size, 1, none⟩ (.slice none 0 0)).setCell ⟨u0.heap.size, 2, none⟩ (.slice none 0 0)).setCell ⟨u0.heap.size, 3, none⟩ (.slice none 0 0)).setCell ⟨u0.heap.size, 4, none⟩ (.slice (some ⟨u13.heap.size, 0, none⟩) 1 1)).setCell ⟨u0.heap.size, 5, none⟩ (.slice aC x.invs.length cC)).setCell ⟨u0.heap.size, 6, none⟩ (.slice none 0 0)).setCell ⟨u0.heap.size, 7, none⟩ (.slice none 0 0))) rfl rfl (by rfl) (by go_simp; done) (hSK _ (below_set8 bu15 geA (.int .i64 x.max) (.slice none 0 0) (.slice none 0 0) (.slice none 0 0) (.slice (some ⟨u13.heap.size, 0, none⟩) 1 1) (.slice aC x.invs.length cC) (.slice none 0 0) (.slice none 0 0))) ?_
        (try simp only [Act.put, List.setIfInBounds_toArray, List.set_cons_zero, List.set_cons_succ])
        refine HeldAll.done (by kernel_rfl) ?_ _
        (try go_wp2_with fail)
        go_meet
        have hf1 := Lib.hid (box_set8 bx (.int .i64 x.max) (.slice none 0 0) (.slice none 0 0) (.slice none 0 0) (.slice (some ⟨u13.heap.size, 0, none⟩) 1 1) (.slice aC x.invs.length cC) (.slice none 0 0) (.slice none 0 0))
        have hf2 := Lib.hid (own_set8 (own_mono oB (bu13).size) nB (.int .i64 x.max) (.slice none 0 0) (.slice none 0 0) (.slice none 0 0) (.slice (some ⟨u13.heap.size, 0, none⟩) 1 1) (.slice aC x.invs.length cC) (.slice none 0 0) (.slice none 0 0))
        have hf3 := Lib.hid (own_set8 (own_mono oC (bu14).size) nC (.int .i64 x.max) (.slice none 0 0) (.slice none 0 0) (.slice none 0 0) (.slice (some ⟨u13.heap.size, 0, none⟩) 1 1) (.slice aC x.invs.length cC) (.slice none 0 0) (.slice none 0 0))
        have hf4 := Lib.hid (below_set8 bu15 geA (.int .i64 x.max) (.slice none 0 0) (.slice none 0 0) (.slice none 0 0) (.slice (some ⟨u13.heap.size, 0, none⟩) 1 1) (.slice aC x.invs.length cC) (.slice none 0 0) (.slice none 0 0))
        exact ⟨u0.heap.size, u13.heap.size, aC, cC, rfl, geA, hf1, hf2, nB, hf3, nC, hf4⟩
      · skip
        refine HeldAll.opCall (i := 10) (oi := _) (d := some 33) (R := fun v w' => ∃ a' c', v = .slice a' x.invs.length c' ∧ w'.ownsRow u13.heap.size 3 1 (.slice a' x.invs.length c') x.invs.length (ints x.invs) ∧ Below u13.heap.size u13 w') rfl rfl (by rfl) (by go_simp; done) ((HCL.out u13 bu13).mono fun e w' h => by obtain ⟨a', c', he, ho, hb⟩ := h; exact ⟨_, he, a', c', rfl, ho, hb⟩) ?_
        rintro v u16 ⟨aC, cC, rfl, oC, su16⟩
        have bu16 : Below W5.heap.size W5 u16 := bu13.trans (su16.mono bu13.size)
        have bx := bx.next su16 bx.lt
        have nC := own_not' oC (N := u0.heap.size) ltAu13
        have ltAu16 : u0.heap.size < u16.heap.size := bx.lt
        refine ⟨hSK _ bu16, ?_⟩
        (try simp only [Act.put, List.setIfInBounds_toArray, List.set_cons_zero, List.set_cons_succ])
        refine HeldAll.one (i := 7) (by kernel_rfl) ?_
        skip
        have oC0 := oC
        obtain ⟨u17, hu17⟩ : ∃ V, u16.alloc (.cells #[.int .i64 bl] 3) = V := ⟨_, rfl⟩
        have su17 : Below u16.heap.size u16 u17 := by rw [← hu17]; exact (Below.refl _ _).alloc (Nat.le_refl _) _
        have bu17 : Below W5.heap.size W5 u17 := bu16.trans (su17.mono bu16.size)
        have bx := bx.next su17 bx.lt
        have oC := own_next oC su17
        have oB : u17.ownsRow u16.heap.size 3 1 (.slice (some ⟨u16.heap.size, 0, none⟩) 1 1) 1 (ints [bl]) := by rw [← hu17]; exact World.ownsRow_lit u16 #[.int .i64 bl] 1 (Nat.le_refl _) (by unfold maxLen; omega) rfl
        have nB := own_not' oB (N := u0.heap.size) ltAu16
        have ltAu17 : u0.heap.size < u17.heap.size := bx.lt
        refine HeldAll.opVal (i := 7) (oi := _) (d := some 30) (v := .slice (some ⟨u16.heap.size, 0, none⟩) 1 1) (w2 := u17) rfl rfl (by rfl) (by rw [← hu17]; go_simp; done) (hSK _ bu17) ?_
        (try simp only [Act.put, List.setIfInBounds_toArray, List.set_cons_zero, List.set_cons_succ])
        refine HeldAll.one (i := 11) (by kernel_rfl) ?_
        skip
        refine HeldAll.opVal (i := 11) (oi := _) (d := some 34) (v := .agg #[.int .i64 x.max, .slice none 0 0, .slice none 0 0, .slice none 0 0, .slice (some ⟨u16.heap.size, 0, none⟩) 1 1, .slice aC x.invs.length cC, .slice none 0 0, .slice none 0 0]) (w2 := u17) rfl rfl (by rfl) (by go_simp; done) (hSK _ bu17) ?_
        (try simp only [Act.put, List.setIfInBounds_toArray, List.set_cons_zero, List.set_cons_succ])
        have y0 := bx.at' 0 _ rfl
        have z0 := bx.fz 0
        have y1 := bx.at' 1 _ rfl
        have z1 := bx.fz 1
        have y2 := bx.at' 2 _ rfl
        have z2 := bx.fz 2
        have y3 := bx.at' 3 _ rfl
        have z3 := bx.fz 3
        have y4 := bx.at' 4 _ rfl
        have z4 := bx.fz 4
        have y5 := bx.at' 5 _ rfl
        have z5 := bx.fz 5
        have y6 := bx.at' 6 _ rfl
        have z6 := bx.fz 6
        have y7 := bx.at' 7 _ rfl
        have z7 := bx.fz 7
        refine HeldAll.one (i := 13) (by kernel_rfl) ?_
        refine HeldAll.opStore (i := 13) (oi := _) (d := none) (w2 := ((((((((u17.setCell ⟨u0.heap.size, 0, none⟩ (.int .i64 x.max)).setCell ⟨u0.heap.size, 1, none⟩ (.slice none 0 0)).setCell ⟨u0.heap.size, 2, none⟩ (.slice none 0 0)).setCell ⟨u0.heap.size, 3, none⟩ (.slice none 0 0)).setCell ⟨u0.heap.size, 4, none⟩ (.slice (some ⟨u16.heap.size, 0, none⟩) 1 1)).setCell ⟨u0.heap.size, 5, none⟩ (.slice aC x.invs.length cC)).setCell ⟨u0.heap.size, 6, none⟩ (.slice none 0 0)).setCell ⟨u0.heap.size, 7, none⟩ (.slice none 0 0))) rfl rfl (by rfl) (by go_simp; done) (hSK _ (below_set8 bu17 geA (.int .i64 x.max) (.slice none 0 0) (.slice none 0 0) (.slice none 0 0) (.slice (some ⟨u16.heap.size, 0, none⟩) 1 1) (.slice aC x.invs.length cC) (.slice none 0 0) (.slice none 0 0))) ?_
        (try simp only [Act.put, List.setIfInBounds_toArray, List.set_cons_zero, List.set_cons_succ])
        refine HeldAll.done (by kernel_rfl) ?_ _
        (try go_wp2_with fail)
        go_meet
        have hf1 := Lib.hid (box_set8 bx (.int .i64 x.max) (.slice none 0 0) (.slice none 0 0) (.slice none 0 0) (.slice (some ⟨u16.heap.size, 0, none⟩) 1 1) (.slice aC x.invs.length cC) (.slice none 0 0) (.slice none 0 0))
        have hf2 := Lib.hid (own_set8 (own_mono oB (bu16).size) nB (.int .i64 x.max) (.slice none 0 0) (.slice none 0 0) (.slice none 0 0) (.slice (some ⟨u16.heap.size, 0, none⟩) 1 1) (.slice aC x.invs.length cC) (.slice none 0 0) (.slice none 0 0))
        have hf3 := Lib.hid (own_set8 (own_mono oC (bu13).size) nC (.int .i64 x.max) (.slice none 0 0) (.slice none 0 0) (.slice none 0 0) (.slice (some ⟨u16.heap.size, 0, none⟩) 1 1) (.slice aC x.invs.length cC) (.slice none 0 0) (.slice none 0 0))
        have hf4 := Lib.hid (below_set8 bu17 geA (.int .i64 x.max) (.slice none 0 0) (.slice none 0 0) (.slice none 0 0) (.slice (some ⟨u16.heap.size, 0, none⟩) 1 1) (.slice aC x.invs.length cC) (.slice none 0 0) (.slice none 0 0))
        exact ⟨u0.heap.size, u16.heap.size, aC, cC, rfl, geA, hf1, hf2, nB, hf3, nC, hf4⟩
  case rest =>
    obtain ⟨N10, gB, aC, cC, rfl, HGE, HX10, HOB, HNB, HOC, HNC, HB10⟩ := hcut
    generalize wc = w10 at *
    have HFI : Hid (DelN.fl (fun m => !SetI.inX X (var m)) x.ins = (reduced x l bl).ins) := fl_cnt HX.out (fun m => m) x.ins
    have HFL : Hid (DelL.fl (fun t => !SetI.inX X (var t.1)) x.lats = (reduced x l bl).lats) := fl_cnt HX.out (fun t : Tri => t.1) x.lats
    have HFA : Hid (DelA.fl (fun t => !SetI.inX X (var t.1)) x.ands = (reduced x l bl).ands) := fl_cnt HX.out (fun t : Tri => t.1) x.ands
    have HXw10 := HX10
    have HBw10 := HB10
    have HOBw10 := HOB
    have HOCw10 := HOC
    have HNB := HNB
    have HNC := HNC
    clear HX10 HB10 HOB HOC
    have m1 := (HC2.out.next (HB5.out.trans (HBw10.out.mono HB5.out.size)) (Nat.le_refl _)).k1
    have HCLOI := Lib.hid (CloneI.clone w10 a1 x.ins.length c1 (ints x.ins) (HIN.out w10 (HB12.out.trans ((HB5.out.trans (HBw10.out.mono HB5.out.size)).mono HB12.out.size))).ins (Base.ints_one _) (by have := HSZ.out; omega))
    go_wp2_with fail
    clear m1
    with_reducible refine HCLOI.out.mono ?_
    rintro e w11 ⟨aI, cI, rfl, ho, hb⟩
    have hWb : Below W5.heap.size W5 w11 := HBw10.out.trans (hb.mono HBw10.out.size)
    have HDELI := Lib.hid (DelN.del_own w11 w10.heap.size aI x.ins.length cI x.ins rfl (by rw [DelN.tris_flat]; exact ho) hb.size 23 #[.pointer (some ⟨w4.heap.size, 0, none⟩)] (fun m => !SetI.inX X (var m)) eg_r1 (fun W hgW t ht => by
      have hBW : Below W5.heap.size W5 W := hWb.grown hgW hWb.size (fun q hq => Nat.le_trans HBw10.out.size (ho.lt q hq).1)
      exact (red1_any W w4.heap.size mb X.length X ((HX5.out.next hBW HX5.out.lt).at' 0 _ rfl) (HSET.out.next hBW) t (HW.out.ins t ht).1 (HW.out.ins t ht).2).mono fun e w' h => ⟨h.1, h.2 ▸ Below.refl _ _⟩))
    rw [HFI.out] at HDELI
    have HO0 := Lib.hid ho
    have HBC := Lib.hid hb
    clear ho hb hWb
    go_wp2_with fail
    with_reducible refine HDELI.out.mono ?_
    rintro e w12 ⟨nI, rfl, hnI, hoD, hgD⟩
    subst hnI
    have bad : Below w10.heap.size w10 w12 := HBC.out.grown hgD HBC.out.size (fun q hq => (HO0.out.lt q hq).1)
    have hx := HXw10.out.next bad HXw10.out.lt
    have y1 := hx.at' 1 _ rfl
    have z1 := hx.fz 1
    obtain ⟨w13, hw13⟩ : ∃ U, w12.setCell ⟨N10, 1, none⟩ (.slice aI (reduced x l bl).ins.length cI) = U := ⟨_, rfl⟩
    have HXw13 := Lib.hid (hx.set 1 (.slice aI (reduced x l bl).ins.length cI))
    rw [hw13] at HXw13
    have HBw13 := Lib.hid ((HBw10.out.trans (bad.mono HBw10.out.size)).setCell (p := ⟨N10, 1, none⟩) HGE.out (.slice aI (reduced x l bl).ins.length cI))
    rw [hw13] at HBw13
    have HOBw13 := Lib.hid (ownsRow_setCell_other (own_next HOBw10.out bad) (a := ⟨N10, 1, none⟩) (fun e => HNB.out (by first | exact e | exact e.symm)) (.slice aI (reduced x l bl).ins.length cI))
    rw [hw13] at HOBw13
    have HOCw13 := Lib.hid (ownsRow_setCell_other (own_next HOCw10.out bad) (a := ⟨N10, 1, none⟩) (fun e => HNC.out (by first | exact e | exact e.symm)) (.slice aI (reduced x l bl).ins.length cI))
    rw [hw13] at HOCw13
    have HNI : Hid ((Value.slice aI (reduced x l bl).ins.length cI).ownBlock ≠ some N10) := own_not' hoD (Nat.lt_of_lt_of_le HXw10.out.lt (Nat.le_refl _))
    have HOIw13 := Lib.hid (ownsRow_setCell_other hoD (a := ⟨N10, 1, none⟩) (fun e => HNI.out (by first | exact e | exact e.symm)) (.slice aI (reduced x l bl).ins.length cI))
    rw [hw13] at HOIw13
    clear hoD hgD bad hx HO0 HBC
    have m2 := (HC2.out.next (HB5.out.trans (HBw13.out.mono HB5.out.size)) (Nat.le_refl _)).k2
    have HCLOL := Lib.hid (CloneT.latches w13 a2 x.lats.length c2 (tris x.lats) (HIN.out w13 (HB12.out.trans ((HB5.out.trans (HBw13.out.mono HB5.out.size)).mono HB12.out.size))).lats (tris_one _) (tris_row _) (by have := HSZ.out; omega))
    go_wp2_with fail
    clear m2
    with_reducible refine HCLOL.out.mono ?_
    rintro e w14 ⟨aL, cL, rfl, ho, hb⟩
    have hWb : Below W5.heap.size W5 w14 := HBw13.out.trans (hb.mono HBw13.out.size)
    have HDELL := Lib.hid (DelL.del_own w14 w13.heap.size aL x.lats.length cL x.lats rfl ho hb.size 27 #[.pointer (some ⟨w4.heap.size, 0, none⟩)] (fun t => !SetI.inX X (var t.1)) eg_r2 (fun W hgW t ht => by
      have hBW : Below W5.heap.size W5 W := hWb.grown hgW hWb.size (fun q hq => Nat.le_trans HBw13.out.size (ho.lt q hq).1)
      exact red2_any W w4.heap.size mb X.length X (HX5.out.next hBW HX5.out.lt).lt ((HX5.out.next hBW HX5.out.lt).at' 0 _ rfl) (HSET.out.next hBW) t (HW.out.lats t ht).1.1 (HW.out.lats t ht).1.2))
    rw [HFL.out] at HDELL
    have HO0 := Lib.hid ho
    have HBC := Lib.hid hb
    clear ho hb hWb
    go_wp2_with fail
    with_reducible refine HDELL.out.mono ?_
    rintro e w15 ⟨nL, rfl, hnL, hoD, hgD⟩
    subst hnL
    have bad : Below w13.heap.size w13 w15 := HBC.out.grown hgD HBC.out.size (fun q hq => (HO0.out.lt q hq).1)
    have hx := HXw13.out.next bad HXw13.out.lt
    have y2 := hx.at' 2 _ rfl
    have z2 := hx.fz 2
    obtain ⟨w16, hw16⟩ : ∃ U, w15.setCell ⟨N10, 2, none⟩ (.slice aL (reduced x l bl).lats.length cL) = U := ⟨_, rfl⟩
    have HXw16 := Lib.hid (hx.set 2 (.slice aL (reduced x l bl).lats.length cL))
    rw [hw16] at HXw16
    have HBw16 := Lib.hid ((HBw13.out.trans (bad.mono HBw13.out.size)).setCell (p := ⟨N10, 2, none⟩) HGE.out (.slice aL (reduced x l bl).lats.length cL))
    rw [hw16] at HBw16
    have HOBw16 := Lib.hid (ownsRow_setCell_other (own_next HOBw13.out bad) (a := ⟨N10, 2, none⟩) (fun e => HNB.out (by first | exact e | exact e.symm)) (.slice aL (reduced x l bl).lats.length cL))
    rw [hw16] at HOBw16
    have HOCw16 := Lib.hid (ownsRow_setCell_other (own_next HOCw13.out bad) (a := ⟨N10, 2, none⟩) (fun e => HNC.out (by first | exact e | exact e.symm)) (.slice aL (reduced x l bl).lats.length cL))
    rw [hw16] at HOCw16
    have HOIw16 := Lib.hid (ownsRow_setCell_other (own_next HOIw13.out bad) (a := ⟨N10, 2, none⟩) (fun e => HNI.out (by first | exact e | exact e.symm)) (.slice aL (reduced x l bl).lats.length cL))
    rw [hw16] at HOIw16
    have HNL : Hid ((Value.slice aL (reduced x l bl).lats.length cL).ownBlock ≠ some N10) := own_not' hoD (Nat.lt_of_lt_of_le HXw13.out.lt (Nat.le_refl _))
    have HOLw16 := Lib.hid (ownsRow_setCell_other hoD (a := ⟨N10, 2, none⟩) (fun e => HNL.out (by first | exact e | exact e.symm)) (.slice aL (reduced x l bl).lats.length cL))
    rw [hw16] at HOLw16
    clear hoD hgD bad hx HO0 HBC
    have m6 := (HC2.out.next (HB5.out.trans (HBw16.out.mono HB5.out.size)) (Nat.le_refl _)).k6
    have HCLOA := Lib.hid (CloneT.ands w16 a6 x.ands.length c6 (tris x.ands) (HIN.out w16 (HB12.out.trans ((HB5.out.trans (HBw16.out.mono HB5.out.size)).mono HB12.out.size))).ands (tris_one _) (tris_row _) (by have := HZ3.out; omega))
    go_wp2_with fail
    clear m6
    with_reducible refine HCLOA.out.mono ?_
    rintro e w17 ⟨aA, cA, rfl, ho, hb⟩
    have hWb : Below W5.heap.size W5 w17 := HBw16.out.trans (hb.mono HBw16.out.size)
    have HDELA := Lib.hid (DelA.del_own w17 w16.heap.size aA x.ands.length cA x.ands rfl ho hb.size 30 #[.pointer (some ⟨w4.heap.size, 0, none⟩)] (fun t => !SetI.inX X (var t.1)) eg_r3 (fun W hgW t ht => by
      have hBW : Below W5.heap.size W5 W := hWb.grown hgW hWb.size (fun q hq => Nat.le_trans HBw16.out.size (ho.lt q hq).1)
      exact red3_any W w4.heap.size mb X.length X (HX5.out.next hBW HX5.out.lt).lt ((HX5.out.next hBW HX5.out.lt).at' 0 _ rfl) (HSET.out.next hBW) t (HW.out.ands t ht).1.1 (HW.out.ands t ht).1.2))
    rw [HFA.out] at HDELA
    have HO0 := Lib.hid ho
    have HBC := Lib.hid hb
    clear ho hb hWb
    go_wp2_with fail
    with_reducible refine HDELA.out.mono ?_
    rintro e w18 ⟨nA, rfl, hnA, hoD, hgD⟩
    subst hnA
    have bad : Below w16.heap.size w16 w18 := HBC.out.grown hgD HBC.out.size (fun q hq => (HO0.out.lt q hq).1)
    have hx := HXw16.out.next bad HXw16.out.lt
    have y6 := hx.at' 6 _ rfl
    have z6 := hx.fz 6
    obtain ⟨w19, hw19⟩ : ∃ U, w18.setCell ⟨N10, 6, none⟩ (.slice aA (reduced x l bl).ands.length cA) = U := ⟨_, rfl⟩
    have HXw19 := Lib.hid (hx.set 6 (.slice aA (reduced x l bl).ands.length cA))
    rw [hw19] at HXw19
    have HBw19 := Lib.hid ((HBw16.out.trans (bad.mono HBw16.out.size)).setCell (p := ⟨N10, 6, none⟩) HGE.out (.slice aA (reduced x l bl).ands.length cA))
    rw [hw19] at HBw19
    have HOBw19 := Lib.hid (ownsRow_setCell_other (own_next HOBw16.out bad) (a := ⟨N10, 6, none⟩) (fun e => HNB.out (by first | exact e | exact e.symm)) (.slice aA (reduced x l bl).ands.length cA))
    rw [hw19] at HOBw19
    have HOCw19 := Lib.hid (ownsRow_setCell_other (own_next HOCw16.out bad) (a := ⟨N10, 6, none⟩) (fun e => HNC.out (by first | exact e | exact e.symm)) (.slice aA (reduced x l bl).ands.length cA))
    rw [hw19] at HOCw19
    have HOIw19 := Lib.hid (ownsRow_setCell_other (own_next HOIw16.out bad) (a := ⟨N10, 6, none⟩) (fun e => HNI.out (by first | exact e | exact e.symm)) (.slice aA (reduced x l bl).ands.length cA))
    rw [hw19] at HOIw19
    have HOLw19 := Lib.hid (ownsRow_setCell_other (own_next HOLw16.out bad) (a := ⟨N10, 6, none⟩) (fun e => HNL.out (by first | exact e | exact e.symm)) (.slice aA (reduced x l bl).ands.length cA))
    rw [hw19] at HOLw19
    have HNA : Hid ((Value.slice aA (reduced x l bl).ands.length cA).ownBlock ≠ some N10) := own_not' hoD (Nat.lt_of_lt_of_le HXw16.out.lt (Nat.le_refl _))
    have HOAw19 := Lib.hid (ownsRow_setCell_other hoD (a := ⟨N10, 6, none⟩) (fun e => HNA.out (by first | exact e | exact e.symm)) (.slice aA (reduced x l bl).ands.length cA))
    rw [hw19] at HOAw19
    clear hoD hgD bad hx HO0 HBC
    have hx : BoxN N10 [.int .i64 x.max, .slice aI (reduced x l bl).ins.length cI, .slice aL (reduced x l bl).lats.length cL, .slice none 0 0, .slice (some ⟨gB, 0, none⟩) 1 1, .slice aC x.invs.length cC, .slice aA (reduced x l bl).ands.length cA, .slice none 0 0] w19 := HXw19.out
    have m0 := hx.at' 0 _ rfl
    have m1 := hx.at' 1 _ rfl
    have m2 := hx.at' 2 _ rfl
    have m3 := hx.at' 3 _ rfl
    have m4 := hx.at' 4 _ rfl
    have m5 := hx.at' 5 _ rfl
    have m6 := hx.at' 6 _ rfl
    have m7 := hx.at' 7 _ rfl
    have hWR : Below W2.heap.size W2 w19 := HB5.out.trans (HBw19.out.mono HB5.out.size)
    have hr := HX2.out.next hWR HX2.out.lt
    clear y1 z1 y2 z2
    have r0 := hr.at' 0 _ rfl
    have r1 := hr.at' 1 _ rfl
    have r2 := hr.at' 2 _ rfl
    have r3 := hr.at' 3 _ rfl
    have r4 := hr.at' 4 _ rfl
    have r5 := hr.at' 5 _ rfl
    have r6 := hr.at' 6 _ rfl
    have r7 := hr.at' 7 _ rfl
    have rz0 := hr.fz 0
    have rz1 := hr.fz 1
    have rz2 := hr.fz 2
    have rz3 := hr.fz 3
    have rz4 := hr.fz 4
    have rz5 := hr.fz 5
    have rz6 := hr.fz 6
    have rz7 := hr.fz 7
    have HWR := Lib.hid hWR
    clear hx hr hWR
    go_wp2_with fail
    refine bodyPost_ret (v := .tuple #[.agg #[.int .i64 x.max, .slice aI (reduced x l bl).ins.length cI, .slice aL (reduced x l bl).lats.length cL, .slice none 0 0, .slice (some ⟨gB, 0, none⟩) 1 1, .slice aC x.invs.length cC, .slice aA (reduced x l bl).ands.length cA, .slice none 0 0], .int .i64 0]) (by simp [results, Tryz.results7, go_sem, r0, r1, r2, r3, r4, r5, r6, r7]) rfl ?_
    have hW15 : W1.heap.size < W5.heap.size := Nat.lt_of_lt_of_le HX2.out.lt HB5.out.size
    have gI := own_mono HOIw19.out HBw10.out.size
    rw [DelN.tris_flat] at gI
    have gL := own_mono HOLw19.out HBw13.out.size
    have gA := own_mono HOAw19.out HBw16.out.size
    have fI := own_set8 gI (own_not' gI hW15) (.int .i64 x.max) (.slice aI (reduced x l bl).ins.length cI) (.slice aL (reduced x l bl).lats.length cL) (.slice none 0 0) (.slice (some ⟨gB, 0, none⟩) 1 1) (.slice aC x.invs.length cC) (.slice aA (reduced x l bl).ands.length cA) (.slice none 0 0)
    have fL := own_set8 gL (own_not' gL hW15) (.int .i64 x.max) (.slice aI (reduced x l bl).ins.length cI) (.slice aL (reduced x l bl).lats.length cL) (.slice none 0 0) (.slice (some ⟨gB, 0, none⟩) 1 1) (.slice aC x.invs.length cC) (.slice aA (reduced x l bl).ands.length cA) (.slice none 0 0)
    have fA := own_set8 gA (own_not' gA hW15) (.int .i64 x.max) (.slice aI (reduced x l bl).ins.length cI) (.slice aL (reduced x l bl).lats.length cL) (.slice none 0 0) (.slice (some ⟨gB, 0, none⟩) 1 1) (.slice aC x.invs.length cC) (.slice aA (reduced x l bl).ands.length cA) (.slice none 0 0)
    have fB := own_set8 HOBw19.out (own_not' HOBw19.out hW15) (.int .i64 x.max) (.slice aI (reduced x l bl).ins.length cI) (.slice aL (reduced x l bl).lats.length cL) (.slice none 0 0) (.slice (some ⟨gB, 0, none⟩) 1 1) (.slice aC x.invs.length cC) (.slice aA (reduced x l bl).ands.length cA) (.slice none 0 0)
    have fC := own_set8 HOCw19.out (own_not' HOCw19.out hW15) (.int .i64 x.max) (.slice aI (reduced x l bl).ins.length cI) (.slice aL (reduced x l bl).lats.length cL) (.slice none 0 0) (.slice (some ⟨gB, 0, none⟩) 1 1) (.slice aC x.invs.length cC) (.slice aA (reduced x l bl).ands.length cA) (.slice none 0 0)
    have hfin := below_set8 (N := W1.heap.size) (HB12.out.trans (HWR.out.mono HB12.out.size)) (Nat.le_of_lt HLT1.out) (.int .i64 x.max) (.slice aI (reduced x l bl).ins.length cI) (.slice aL (reduced x l bl).lats.length cL) (.slice none 0 0) (.slice (some ⟨gB, 0, none⟩) 1 1) (.slice aC x.invs.length cC) (.slice aA (reduced x l bl).ands.length cA) (.slice none 0 0)
    exact ⟨⟨aI, cI, aL, cL, none, 0, some ⟨gB, 0, none⟩, 1, aC, cC, aA, cA, none, 0⟩, rfl, ⟨own_sl' fI, own_slT' (tris_row _) (tris_len _) fL, Sl.nil _, own_sl' fB, own_sl' fC, own_slT' (tris_row _) (tris_len _) fA, slT_none _ 3⟩, hfin⟩
end Coi
end Go.Proofs.YtninglnchengeaaGreat

/-
  slices.Sorted(maps.Keys(m)) at map[int]bool: the keys, sorted.
-/
namespace Go.Proofs.YtninglnchengeaaGreat
open Go.RowKit Base
set_option linter.unusedVariables false
namespace SortedN
open SortedK
open Go.Maps Go.Sort Go.Shelf

def keysN_ren : Go.Shelf.Ren := ⟨fun | 7 => 19 | 10 => 48 | n => n, fun | 23 => 54 | 26 => 3 | 3 => 4 | 28 => 51 | 0 => 0 | 27 => 50 | 33 => 58 | 4 => 4 | n => n, fun | n => n⟩
theorem keysN : Go.Proofs.SlLaysZI.n7 Tryz.prog keysN_ren := {
  mixed := by kernel_rfl
  f7 := ⟨Tryz.f19.name, by decide, Tryz.func19.trans (congrArg some (by kernel_rfl))⟩
  f10 := ⟨Tryz.f48.name, by decide, Tryz.func48.trans (congrArg some (by kernel_rfl))⟩
  t0 := Tryz.underlying0
  a0 := Tryz.isAgg0
  z0 := Tryz.sizeOf0
  v0 := Tryz.zeroValue0
  t4 := Tryz.underlying4
  a4 := Tryz.isAgg4
  z4 := Tryz.sizeOf4
  v4 := Tryz.zeroValue4
  t23 := Tryz.underlying54
  a23 := Tryz.isAgg54
  z23 := Tryz.sizeOf54
  v23 := Tryz.zeroValue54
  t26 := Tryz.underlying3
  a26 := Tryz.isAgg3
  z26 := Tryz.sizeOf3
  v26 := Tryz.zeroValue3
  t27 := Tryz.underlying50
  a27 := Tryz.isAgg50
  z27 := Tryz.sizeOf50
  v27 := Tryz.zeroValue50
  t28 := Tryz.underlying51
  a28 := Tryz.isAgg51
  z28 := Tryz.sizeOf51
  v28 := Tryz.zeroValue51
  t33 := Tryz.underlying58
  a33 := Tryz.isAgg58
  z33 := Tryz.sizeOf58
  v33 := Tryz.zeroValue58 }

theorem keys_any (mb : Option Nat) (w : World) : Calls Tryz.prog 19 #[.map mb] w fun e w' => e = .returned (.func (.func 48) #[] #[.pointer (some ⟨w.heap.size, 0, none⟩)]) ∧ w' = w.alloc (.cells #[.map mb] 54) :=
  (callsIn_wide (n := 5)).1 (AnyZI.keys_in keysN Fence.wide 5 trivial rfl mb w)

set_option maxHeartbeats 1000000 in
theorem sorted_any {H : Type} (b nn : Nat) (D0 : DataW H) (R : Value → Option (DataW H × List MemPlace)) (w : World) (hown : w.ownsMap Tryz.prog 3 R b nn D0) (hmax : Maps.size D0 ≤ maxLen) (hbytes : Maps.size D0 * 8 ≤ 140737488355328) :
    Calls Tryz.prog 18 #[.func (.func 48) #[] #[.pointer (some ⟨w.heap.size, 0, none⟩)]] (w.alloc (.cells #[.map (some b)] 54)) fun e w' => ∃ (v : Value) (ss : List Int), e = .returned v ∧ ss.Perm (intKeys D0) ∧
      w'.ownsRow w.heap.size 3 1 v ss.length ((ss.mergeSort (fun x y => decide (x ≤ y))).map encZ) ∧ (v = .slice none 0 0 ↔ ss = []) ∧ Below w.heap.size w w' := by
  refine (callsIn_wide (n := 5)).1 ?_
  have hbl := hown.lt
  have hseq : SeqGives Fence.wide 2 Tryz.prog 48 #[.pointer (some ⟨w.heap.size, 0, none⟩)] encZ (fun ss => ss.Perm (intKeys D0)) (Maps.size D0) (w.alloc (.cells #[.map (some b)] 54)) :=
    AnyZI.keys_gives (ρ := keysN_ren) { keysN with } Fence.wide _ trivial rfl (by omega) w.heap.size b nn D0 _ (by simp) (by simp) (by
      obtain ⟨es, clock, hb, Ft, hs, hD⟩ := hown
      exact ⟨es, clock, (Below.heap_alloc _ _ b hbl).trans hb, Ft, hs, hD⟩)
  have cS := AnyZI.sorted_in sortedA Fence.wide 5 trivial trivial trivial trivial rfl (by omega) (sortsA _) (enters_of Tryz.func47 (by kernel_rfl) rfl) 48 #[.pointer (some ⟨w.heap.size, 0, none⟩)] trivial (enters_of Tryz.func48 (by kernel_rfl) rfl) _ _ hmax hbytes _ hseq
  refine cS.mono ?_
  rintro e w' ⟨v, ss, he, hS, hrow, hnil, hb⟩
  exact ⟨v, ss, he, hS, ownsRow_base_a hrow (by simp), hnil, ((Below.refl _ w).alloc (Nat.le_refl _) _).trans (hb.mono (by simp))⟩

end SortedN
end Go.Proofs.YtninglnchengeaaGreat

/-
  interlockplain.Ints: are two lists of integers one?
-/
namespace Go.Proofs.YtninglnchengeaaGreat
open Go.RowKit Base
set_option linter.unusedVariables false
namespace Plain

theorem take_all {xs ys : List Int} (h : xs.length = ys.length) : xs.take xs.length = ys.take xs.length → xs = ys := by
  intro e
  rw [List.take_length, h, List.take_length] at e
  exact e

theorem take_more {xs ys : List Int} {k : Nat} (hx : k < xs.length) (hy : k < ys.length) (h : xs.take k = ys.take k) (e : xs[k] = ys[k]) : xs.take (k + 1) = ys.take (k + 1) := by
  rw [List.take_succ_eq_append_getElem hx, List.take_succ_eq_append_getElem hy, h, e]

set_option maxHeartbeats 1000000 in
theorem ints_any (w : World) (a1 a2 : Option Addr) (n1 n2 c1 c2 : Nat) (xs ys : List Int) (h1 : Sl w a1 n1 c1 (ints xs)) (h2 : Sl w a2 n2 c2 (ints ys)) :
    Calls Tryz.prog 13 #[.slice a1 n1 c1, .slice a2 n2 c2] w fun e w' => e = .returned (.bool (decide (xs = ys))) ∧ Below w.heap.size w w' := by
  have l1 : xs.length = n1 := by have := h1.len; rw [ints_len] at this; exact this
  have l2 : ys.length = n2 := by have := h2.len; rw [ints_len] at this; exact this
  have hb1 := h1.cap
  have hb2 := h1.big
  by_cases hn : n1 = n2
  · subst hn
    subst l1
    have L2 := Lib.hid l2
    have l2' : ys.length ≤ xs.length := by omega
    have l2'' : xs.length ≤ ys.length := by omega
    clear l2
    go_enter Tryz.func13, Tryz.ntmps13
    go_wp2
    go_loopw [5] (fun i wr => ∃ k : Nat, k ≤ xs.length ∧ i = .int .i64 k ∧ Hid (xs.take k = ys.take k) ∧ Below w.heap.size w wr) (fun i _ => xs.length - (intOf i).toNat)
    case atStart => exact ⟨0, Nat.zero_le _, rfl, rfl, Below.refl _ _⟩
    case round =>
      obtain ⟨k, hk, rfl, hI, hbr⟩ := hrel
      by_cases hlt : k < xs.length
      · obtain ⟨b, o, hx, rfl, hbs, hc⟩ := h1.int hlt
        obtain ⟨b', o', hy, rfl, hbs', hc'⟩ := h2.int hlt
        have hcr : wr.cell? ⟨b, o + k, none⟩ = some (.int .i64 xs[k]) := (hbr.cell (p := ⟨b, o + k, none⟩) hbs).trans hc
        have hcr' : wr.cell? ⟨b', o' + k, none⟩ = some (.int .i64 ys[k]) := (hbr.cell (p := ⟨b', o' + k, none⟩) hbs').trans hc'
        clear hc hc'
        generalize hp : xs[k] = p at *
        generalize hq : ys[k] = q at *
        have HP := Lib.hid hp
        have HQ := Lib.hid hq
        clear hp hq
        by_cases hpq : p = q
        · have hv : (p != q) = false := by simp [hpq]
          have E := Lib.hid hpq
          clear hpq
          go_wp2_with fail
          go_quiet (fail)
          go_wp2
          go_roundw
          case rel => exact ⟨k + 1, by omega, by go_num, take_more hx hy hI.out (by rw [HP.out, HQ.out, E.out]), below_drewN hbr _⟩
          case measure => simp [intOf]; omega
        · have hv : (p != q) = true := by simp [hpq]
          have E := Lib.hid hpq
          clear hpq
          go_wp2_with fail
          go_quiet (fail)
          go_wp2
          go_ret
          refine ⟨ret_bool ?_, below_drewN hbr _⟩
          symm
          apply decide_eq_false
          intro h
          apply E.out
          rw [← HP.out, ← HQ.out]
          subst h
          rfl
      · go_wp2
        go_ret
        refine ⟨ret_bool ?_, hbr⟩
        symm
        apply decide_eq_true
        have hk' : k = xs.length := by omega
        subst hk'
        exact take_all L2.out.symm hI.out
  · have hne : ((n1 : Int) != (n2 : Int)) = true := by simp; omega
    have hne' : ((n1 : Int) == (n2 : Int)) = false := by simp; omega
    have hd : decide (xs = ys) = false := decide_eq_false (fun h => hn (by rw [← l1, ← l2, h]))
    have HD := Lib.hid hd
    clear hd
    go_enter Tryz.func13, Tryz.ntmps13
    go_wp2
    go_ret
    exact ⟨ret_bool HD.out.symm, Below.refl _ _⟩
end Plain
end Go.Proofs.YtninglnchengeaaGreat

/-
  coi.Needed; interlocklaw35's alive.
-/
namespace Go.Proofs.YtninglnchengeaaGreat
open Go.RowKit Base Go.Maps
set_option linter.unusedVariables false
set_option linter.unusedSimpArgs false
namespace Coi
open Circuit StrashP

set_option maxRecDepth 8000 in
set_option maxHeartbeats 4000000 in
theorem needed_ok (w : World) (x : Circ) (p : At) (hin : InCirc w x p) (hw : WfC x) (aA : Option Addr) (n cA : Nat) (vals : List Value) (A : List (List Int)) (hA : Sl2 w aA n cA vals A) (hA64 : ∀ y ∈ A.flatten, Circuit.I64 y) (k : Nat) (hk : k < x.bads.length) (hok : askE x A k = 0)
    (hz1 : n ≤ 4000000) (hz2 : A.flatten.length ≤ 4000000) (hz3 : x.ands.length ≤ 4000000) :
    Calls Tryz.prog 6 #[.agg (cells x p), .slice aA n cA, .int .i64 k] w fun e w' => ∃ a' c' T, e = .returned (.tuple #[.slice a' T.length c', .int .i64 0]) ∧ Sl w' a' T.length c' (ints T) ∧ T.Pairwise (· < ·) ∧ (∀ v, v ∈ T ↔ v ≠ 0 ∧ NR x (A.flatten ++ x.invs ++ [x.bads[k]]) v) ∧ Below w.heap.size w w' := by
  obtain ⟨W1, hW1⟩ : ∃ W1, w.alloc (.cells (cells x p) 27) = W1 := ⟨_, rfl⟩
  obtain ⟨hb1, hc1⟩ := cbox_new w x p W1 hW1
  have HB1 := Lib.hid hb1
  have hck := (askE_zero hok).1
  have has := asked_any W1 x p (hin.next hb1) hw aA n cA vals A (hA.next hb1) hA64 k (by omega) (by have := hck.1.2.2.2.2.2.1; omega)
  rw [hok] at has
  have HAS := Lib.hid has
  have HBX := Lib.hid (And.intro hz2 (And.intro hz3 (And.intro hck.1.2.2.2.2.2.2 hck.1.2.2.2.1)))
  have HCN := Lib.hid (fun (U : World) (hU : Below w.heap.size w U) => counted_any U x p (hin.next hU) hw aA n cA vals A (hA.next hU) hA64 k hk hz1 hz2 hz3 (by have := hck.1.2.2.2.2.2.2; omega) (by have := hck.1.2.2.2.1; omega))
  have HCB := Lib.hid (fun (U : World) (hU : Below W1.heap.size W1 U) => hc1.next hU (Nat.le_refl _))
  have k0 := hc1.k0
  have k1 := hc1.k1
  have k2 := hc1.k2
  have k3 := hc1.k3
  have k4 := hc1.k4
  have k5 := hc1.k5
  have k6 := hc1.k6
  have k7 := hc1.k7
  generalize x.bads[k] = bl at *
  obtain ⟨l, hl⟩ : ∃ l, A.flatten ++ x.invs ++ [bl] = l := ⟨_, rfl⟩
  simp only [hl] at HCN ⊢
  have HLL : Hid (l.length = A.flatten.length + x.invs.length + 1) := by show _ = _; rw [← hl]; simp only [List.length_append, List.length_singleton]
  obtain ⟨a1, c1, a2, c2, a3, c3, a4, c4, a5, c5, a6, c6, a7, c7⟩ := p
  simp only [cells] at *
  clear hin hw hA hA64 hb1 hc1 hok hck has hz1 hz2 hz3 hl
  go_enter Tryz.func6, Tryz.ntmps6
  go_wp2_with fail
  with_reducible refine HAS.out.mono ?_
  rintro e w2 ⟨rfl, hb2⟩
  have hb12 := HB1.out.trans (hb2.mono HB1.out.size)
  have HB12 := Lib.hid hb12
  have HCN2 := Lib.hid (HCN.out w2 hb12)
  have hcw := HCB.out w2 hb2
  clear k0 k1 k2 k3 k4 k5 k6 k7 hW1
  have k0 := hcw.k0
  have k1 := hcw.k1
  have k2 := hcw.k2
  have k3 := hcw.k3
  have k4 := hcw.k4
  have k5 := hcw.k5
  have k6 := hcw.k6
  have k7 := hcw.k7
  clear hb2 hb12 hcw
  go_wp2_with fail
  with_reducible refine HCN2.out.mono ?_
  rintro e w3 ⟨mb, X, rfl, hmb, hset, hnd, hX, hb3⟩
  have hfew : X.length ≤ 100000000 := by
    have h := nodup_len hnd (C := uni x l) (fun v hv => nr_uni ((hX v).1 hv).2)
    unfold uni at h
    simp only [List.length_append, List.length_map] at h
    have h1 := HBX.out
    have h2 := HLL.out
    omega
  obtain ⟨D, hown, hD1, hD2, hD3⟩ := hset
  have hds := SetI.keys_size hD3
  have HKS := Lib.hid (fun (U : World) => SortedN.keys_any (some mb) U)
  have HSS := Lib.hid (SortedN.sorted_any mb X.length D (plainElem Tryz.prog 4) w3 hown (by rw [hds]; unfold maxLen; omega) (by rw [hds]; omega))
  have hpm : (intKeys D).Perm X := by obtain ⟨es, rfl, _, h⟩ := hD3; exact h
  have HPM := Lib.hid hpm
  have HND := Lib.hid hnd
  have HX := Lib.hid hX
  have HB3 := Lib.hid (HB12.out.trans (hb3.mono HB12.out.size))
  clear hfew hds hown hD1 hD2 hD3 hmb hnd hX hb3 hpm k0 k1 k2 k3 k4 k5 k6 k7
  go_wp2_with fail
  with_reducible refine (HKS.out _).mono ?_
  rintro e w5 ⟨rfl, rfl⟩
  go_wp2_with fail
  with_reducible refine HSS.out.mono ?_
  rintro e w6 ⟨v, ss, rfl, hperm, hrow, hnil, hb⟩
  obtain ⟨a9, c9, rfl, hs9⟩ := own_sl hrow
  have HS9 := Lib.hid hs9
  have HBB := Lib.hid hb
  clear hrow hb hnil hs9
  go_wp2_with fail
  obtain ⟨hs1, hs2, hs3⟩ := sorted_strict (hperm.trans HPM.out) HND.out
  refine bodyPost_ret (v := .tuple #[.slice a9 ss.length c9, .int .i64 0]) (by simp [results, Tryz.results6, go_sem]) rfl ?_
  refine ⟨a9, c9, ss.mergeSort (fun x y => decide (x ≤ y)), by rw [hs3], ?_, hs1, fun v => (hs2 v).trans (HX.out v), HB3.out.trans (HBB.out.mono HB3.out.size)⟩
  rw [hs3]
  exact HS9.out
end Coi
end Go.Proofs.YtninglnchengeaaGreat

/-
  interlocklaw35's alive.
-/
namespace Go.Proofs.YtninglnchengeaaGreat
open Go.RowKit Base Go.Maps
set_option linter.unusedVariables false
set_option linter.unusedSimpArgs false
namespace Coi
open Circuit StrashP

def x1 : Circ := ⟨1, [2], [], [], [2], [], [], []⟩
theorem x1_ok : CheckOk x1 := by
  refine ⟨by unfold Few x1; simp, ⟨?_, ?_, ?_⟩, ?_, ?_, ?_, ?_, ?_, ?_⟩
  · refine StrashP.ownOk_iff.2 ⟨fun m hm => ?_, ?_⟩
    · have : m = 2 := by unfold ownL x1 at hm; simpa using hm
      subst this
      exact ⟨by decide, by decide, by decide⟩
    · show ([2].map var).Nodup
      simp
  · intro t ht; exact absurd ht (by unfold x1; simp)
  · intro j hj
    have : (0 : Nat) > j + 1 := hj
    omega
  · intro t ht; exact absurd ht (by unfold x1; simp)
  · intro t ht; exact absurd ht (by unfold x1; simp)
  · intro t ht; exact absurd ht (by unfold x1; simp)
  · intro t ht
    have : t = 2 := by unfold x1 at ht; simpa using ht
    subst this
    exact ⟨by decide, Or.inr (by show var 2 ∈ [var 2]; simp)⟩
  · intro t ht; exact absurd ht (by unfold x1; simp)
  · intro j hj; exact absurd hj (by unfold x1; simp)
theorem x1_ask : askE x1 [] ((0 : Nat) : Int) = 0 := askE_ok x1_ok (by show ¬ (_ ∨ ((([2] : List Int).length : Nat) : Int) ≤ _); simp) rfl
theorem x1_nr (v : Int) : (v ≠ 0 ∧ NR x1 [2] v) ↔ v = 1 := by
  constructor
  · rintro ⟨h0, h⟩
    cases h with
    | lit ht => rw [List.mem_singleton.1 ht]; decide
    | left _ _ hg => exact absurd (gate_mem hg) (by show _ ∉ ([] : List Tri); simp)
    | right _ _ hg => exact absurd (gate_mem hg) (by show _ ∉ ([] : List Tri); simp)
    | next _ _ ht => exact absurd ht (by show _ ∉ ([] : List Tri); simp)
  · rintro rfl
    refine ⟨by decide, ?_⟩
    have h := NR.lit (x := x1) (l := [2]) (t := 2) (by simp)
    exact h
theorem only_one {T : List Int} (hp : T.Pairwise (· < ·)) (hm : ∀ v, v ∈ T ↔ v = 1) : T = [1] := by
  cases T with
  | nil => exact absurd ((hm 1).2 rfl) (by simp)
  | cons y r =>
    have hy := (hm y).1 List.mem_cons_self
    subst hy
    rw [List.pairwise_cons] at hp
    cases r with
    | nil => rfl
    | cons z q =>
      have hz := (hm z).1 (by simp)
      have := hp.1 z List.mem_cons_self
      omega

set_option maxRecDepth 8000 in
set_option maxHeartbeats 4000000 in
theorem alive_any (w : World) : Calls Tryz.prog 5 #[] w fun e w' => e = .returned (.bool true) ∧ Below w.heap.size w w' := by
  obtain ⟨W1, hW1⟩ : ∃ U, w.alloc (.cells #[.int .i64 2] 3) = U := ⟨_, rfl⟩
  obtain ⟨W2, hW2⟩ : ∃ U, W1.alloc (.cells #[.int .i64 2] 3) = U := ⟨_, rfl⟩
  have hb1 : Below w.heap.size w W1 := by rw [← hW1]; exact (Below.refl _ _).alloc (Nat.le_refl _) _
  have hb2 : Below W1.heap.size W1 W2 := by rw [← hW2]; exact (Below.refl _ _).alloc (Nat.le_refl _) _
  have hs1 : Sl W1 (some ⟨w.heap.size, 0, none⟩) 1 1 (ints [2]) := by rw [← hW1]; exact sl_new w #[.int .i64 2] 3 1 rfl (by decide)
  have hs2 : Sl W2 (some ⟨W1.heap.size, 0, none⟩) 1 1 (ints [2]) := by rw [← hW2]; exact sl_new W1 #[.int .i64 2] 3 1 rfl (by decide)
  have hT : ∀ k, SlT W2 k none 0 0 [] := fun k => ⟨rfl, Nat.le_refl _, by omega, fun _ => ⟨rfl, rfl⟩, fun i r h => by simp at h⟩
  have hin : InCirc W2 x1 ⟨some ⟨w.heap.size, 0, none⟩, 1, none, 0, none, 0, some ⟨W1.heap.size, 0, none⟩, 1, none, 0, none, 0, none, 0⟩ := ⟨hs1.next hb2, hT 3, Sl.nil _, hs2, Sl.nil _, hT 3, hT 3⟩
  have hw : WfC x1 := ⟨by show Circuit.I64 1; unfold Circuit.I64; omega, fun l hl => by have : l = 2 := (by unfold x1 at hl; simpa using hl); subst this; unfold Circuit.I64; omega, fun t ht => absurd ht (by unfold x1; simp), fun t ht => absurd ht (by unfold x1; simp), fun l hl => by have : l = 2 := (by unfold x1 at hl; simpa using hl); subst this; unfold Circuit.I64; omega, fun t ht => absurd ht (by unfold x1; simp), fun t ht => absurd ht (by unfold x1; simp), fun t ht => absurd ht (by unfold x1; simp)⟩
  have HN0 := needed_ok W2 x1 _ hin hw none 0 0 [] [] (Sl2.nil _) (fun y hy => by simp at hy) 0 (by show 0 < ([2] : List Int).length; simp) x1_ask (by omega) (by simp) (by show ([] : List Tri).length ≤ _; simp)
  simp only [cells] at HN0
  have HN := Lib.hid HN0
  have HB := Lib.hid (hb1.trans (hb2.mono hb1.size))
  clear hb1 hb2 hs1 hs2 hT hin hw HN0
  go_enter Tryz.func5, Tryz.ntmps5
  go_wp2_with fail
  clear hW1 hW2
  refine HN.out.mono ?_
  rintro e w3 ⟨a9, c9, T, rfl, hs9, hp, hm, hb3⟩
  have hT1 : T = [1] := only_one hp (fun v => by rw [hm v]; exact x1_nr v)
  subst hT1
  obtain ⟨W4, hW4⟩ : ∃ U, w3.alloc (.cells #[.int .i64 1] 3) = U := ⟨_, rfl⟩
  have hb4 : Below w3.heap.size w3 W4 := by rw [← hW4]; exact (Below.refl _ _).alloc (Nat.le_refl _) _
  have hs4 : Sl W4 (some ⟨w3.heap.size, 0, none⟩) 1 1 (ints [1]) := by rw [← hW4]; exact sl_new w3 #[.int .i64 1] 3 1 rfl (by decide)
  have HI0 := Plain.ints_any W4 a9 (some ⟨w3.heap.size, 0, none⟩) 1 1 c9 1 [1] [1] (hs9.next hb4) hs4
  rw [decide_eq_true rfl] at HI0
  have HI := Lib.hid HI0
  have HB4 := Lib.hid (HB.out.trans ((hb3.trans (hb4.mono hb3.size)).mono HB.out.size))
  simp only [List.length_singleton]
  clear hs9 hp hm hb3 hb4 hs4 HI0
  go_wp2_with fail
  with_reducible refine HI.out.mono ?_
  rintro e w5 ⟨rfl, hb5⟩
  go_wp2_with fail
  go_ret
  exact ⟨rfl, HB4.out.trans (hb5.mono HB4.out.size)⟩
end Coi
end Go.Proofs.YtninglnchengeaaGreat

/-
  coi.Needed, refused.
-/
namespace Go.Proofs.YtninglnchengeaaGreat
open Go.RowKit Base Go.Maps
set_option linter.unusedVariables false
set_option linter.unusedSimpArgs false
namespace Coi
open Circuit StrashP

set_option maxRecDepth 8000 in
set_option maxHeartbeats 4000000 in
theorem needed_no (w : World) (x : Circ) (p : At) (hin : InCirc w x p) (hw : WfC x) (aA : Option Addr) (n cA : Nat) (vals : List Value) (A : List (List Int)) (hA : Sl2 w aA n cA vals A) (hA64 : ∀ y ∈ A.flatten, Circuit.I64 y) (bad : Int) (hb0 : -9223372036854775808 ≤ bad) (hb1' : bad ≤ 9223372036854775807) (hno : askE x A bad ≠ 0) :
    Calls Tryz.prog 6 #[.agg (cells x p), .slice aA n cA, .int .i64 bad] w fun e w' => e = .returned (.tuple #[.slice none 0 0, .int .i64 (askE x A bad)]) ∧ Below w.heap.size w w' := by
  obtain ⟨W1, hW1⟩ : ∃ W1, w.alloc (.cells (cells x p) 27) = W1 := ⟨_, rfl⟩
  obtain ⟨hb1, hc1⟩ := cbox_new w x p W1 hW1
  have HB1 := Lib.hid hb1
  have HAS := Lib.hid (asked_any W1 x p (hin.next hb1) hw aA n cA vals A (hA.next hb1) hA64 bad hb0 hb1')
  have k0 := hc1.k0
  have k1 := hc1.k1
  have k2 := hc1.k2
  have k3 := hc1.k3
  have k4 := hc1.k4
  have k5 := hc1.k5
  have k6 := hc1.k6
  have k7 := hc1.k7
  obtain ⟨a1, c1, a2, c2, a3, c3, a4, c4, a5, c5, a6, c6, a7, c7⟩ := p
  simp only [cells] at *
  generalize askE x A bad = er at *
  have HNE : Hid ((er != 0) = true) := by show _ = _; simpa using hno
  have hne := HNE.out
  clear hin hw hA hA64 hb1 hc1 hno hb0 hb1'
  go_enter Tryz.func6, Tryz.ntmps6
  go_wp2_with fail
  clear hW1
  with_reducible refine HAS.out.mono ?_
  rintro e w3 ⟨rfl, hb3⟩
  have HB3 := Lib.hid (HB1.out.trans (hb3.mono HB1.out.size))
  clear hb3 k0 k1 k2 k3 k4 k5 k6 k7
  go_wp2_with fail
  refine bodyPost_ret (v := .tuple #[.slice none 0 0, .int .i64 er]) (by simp [results, Tryz.results6, go_sem]) rfl ?_
  exact ⟨rfl, HB3.out⟩
end Coi
end Go.Proofs.YtninglnchengeaaGreat

/-
  slices.Equal of slices of structs, and the reference's of []int: one and the same list.
-/

namespace Go.Proofs.YtninglnchengeaaGreat
open Go.RowKit Base
set_option linter.unusedVariables false
set_option linter.unusedSimpArgs false
namespace EqT

theorem drew_moreR {w wr : World} (h : ∃ m, wr = w.drewN m) (k : Nat) : ∃ m, wr.drewN k = w.drewN m := by
  obtain ⟨m, rfl⟩ := h
  exact ⟨m + k, World.drewN_drewN _ _ _⟩


set_option maxHeartbeats 4000000 in
theorem same (w : World) (a1 a2 : Option Addr) (c1 c2 : Nat) (l : List (Int)) (h1 : Sl w  a1 l.length c1 (ints l)) (h2 : Sl w  a2 l.length c2 (ints l)) :
    Calls Tryz.prog 32 #[.slice a1 l.length c1, .slice a2 l.length c2] w fun e w' => e = .returned (.bool true) ∧ ∃ m, w' = w.drewN m := by
  have hb1 := h1.cap
  have hb2 := h1.big
  have hb3 := h2.cap
  have hb4 := h2.big
  go_enter Tryz.func32, Tryz.ntmps32
  go_wp2
  go_loopw [5] (fun i wr => ∃ k : Nat, k ≤ l.length ∧ i = .int .i64 k ∧ Hid (∃ m, wr = w.drewN m)) (fun i _ => l.length - (intOf i).toNat)
  case atStart => exact ⟨0, Nat.zero_le _, rfl, 0, rfl⟩
  case round =>
    obtain ⟨k, hk, rfl, hdr⟩ := hrel
    have hbr : Below w.heap.size w wr := by obtain ⟨q, rfl⟩ := hdr.out; exact below_drewN (Below.refl _ _) q
    by_cases hlt : k < l.length
    · obtain ⟨b, o, hx, rfl, hbs, d0⟩ := Sl.int h1 hlt
      obtain ⟨b', o', hy, rfl, hbs', e0⟩ := Sl.int h2 hlt
      have r0 := (hbr.cell (p := ⟨b, o + k, none⟩) hbs).trans d0
      have s0 := (hbr.cell (p := ⟨b', o' + k, none⟩) hbs').trans e0
      clear d0 e0
      generalize l[k] = t at *
      clear hx hy

      go_wp2_with fail
      go_quiet (fail)
      go_wp2
      go_roundw
      case rel => exact ⟨k + 1, by omega, by go_num, drew_moreR hdr.out _⟩
      case measure => simp [intOf]; omega
    · go_wp2
      go_ret
      exact ⟨rfl, hdr.out⟩

end EqT
end Go.Proofs.YtninglnchengeaaGreat

/-
  The reference's Same: of one and the same circuit.
-/
namespace Go.Proofs.YtninglnchengeaaGreat
open Go.RowKit Base
set_option linter.unusedVariables false
set_option linter.unusedSimpArgs false
namespace Circuit


set_option maxRecDepth 8000 in
set_option maxHeartbeats 16000000 in
theorem refSame_any (w : World) (x : Circ) (p q : At) (hin : InCirc w x p) (hiq : InCirc w x q) :
    Calls Tryz.prog 10 #[.agg (cells x p), .agg (cells x q)] w fun e w' => e = .returned (.bool true) ∧ Below w.heap.size w w' := by
  obtain ⟨a1, c1, a2, c2, a3, c3, a4, c4, a5, c5, a6, c6, a7, c7⟩ := p
  obtain ⟨b1, d1, b2, d2, b3, d3, b4, d4, b5, d5, b6, d6, b7, d7⟩ := q
  obtain ⟨mx, ins, lats, outs, bads, invs, ands, names⟩ := x
  obtain ⟨i1, i2, i3, i4, i5, i6, i7⟩ := hin
  obtain ⟨j1, j2, j3, j4, j5, j6, j7⟩ := hiq
  simp only [cells] at *
  obtain ⟨W1, hW1⟩ : ∃ W1, w.alloc (.cells #[.int .i64 mx, .slice a1 ins.length c1, .slice a2 lats.length c2, .slice a3 outs.length c3, .slice a4 bads.length c4, .slice a5 invs.length c5, .slice a6 ands.length c6, .slice a7 names.length c7] 27) = W1 := ⟨_, rfl⟩
  obtain ⟨W2, hW2⟩ : ∃ W2, W1.alloc (.cells #[.int .i64 mx, .slice b1 ins.length d1, .slice b2 lats.length d2, .slice b3 outs.length d3, .slice b4 bads.length d4, .slice b5 invs.length d5, .slice b6 ands.length d6, .slice b7 names.length d7] 27) = W2 := ⟨_, rfl⟩
  have h1 : Below w.heap.size w W1 := by rw [← hW1]; exact (Below.refl _ _).alloc (Nat.le_refl _) _
  have h2 : Below W1.heap.size W1 W2 := by rw [← hW2]; exact (Below.refl _ _).alloc (Nat.le_refl _) _
  have X1 : BoxN w.heap.size [.int .i64 mx, .slice a1 ins.length c1, .slice a2 lats.length c2, .slice a3 outs.length c3, .slice a4 bads.length c4, .slice a5 invs.length c5, .slice a6 ands.length c6, .slice a7 names.length c7] W2 := by
    have h := BoxN.new w #[.int .i64 mx, .slice a1 ins.length c1, .slice a2 lats.length c2, .slice a3 outs.length c3, .slice a4 bads.length c4, .slice a5 invs.length c5, .slice a6 ands.length c6, .slice a7 names.length c7] 27
    rw [hW1] at h
    exact h.next h2 h.lt
  have X2 : BoxN W1.heap.size [.int .i64 mx, .slice b1 ins.length d1, .slice b2 lats.length d2, .slice b3 outs.length d3, .slice b4 bads.length d4, .slice b5 invs.length d5, .slice b6 ands.length d6, .slice b7 names.length d7] W2 := by
    have h := BoxN.new W1 #[.int .i64 mx, .slice b1 ins.length d1, .slice b2 lats.length d2, .slice b3 outs.length d3, .slice b4 bads.length d4, .slice b5 invs.length d5, .slice b6 ands.length d6, .slice b7 names.length d7] 27
    rw [hW2] at h
    exact h
  have HB2 := Lib.hid (h1.trans (h2.mono h1.size))
  have HX1 := Lib.hid X1
  have HX2 := Lib.hid X2
  have HQ1 := Lib.hid (fun (U : World) (hU : Below W2.heap.size W2 U) => EqT.same U a1 b1 c1 d1 ins (i1.next (HB2.out.trans (hU.mono HB2.out.size))) (j1.next (HB2.out.trans (hU.mono HB2.out.size))))
  have HQ3 := Lib.hid (fun (U : World) (hU : Below W2.heap.size W2 U) => EqT.same U a3 b3 c3 d3 outs (i3.next (HB2.out.trans (hU.mono HB2.out.size))) (j3.next (HB2.out.trans (hU.mono HB2.out.size))))
  have HQ4 := Lib.hid (fun (U : World) (hU : Below W2.heap.size W2 U) => EqT.same U a4 b4 c4 d4 bads (i4.next (HB2.out.trans (hU.mono HB2.out.size))) (j4.next (HB2.out.trans (hU.mono HB2.out.size))))
  have HQ5 := Lib.hid (fun (U : World) (hU : Below W2.heap.size W2 U) => EqT.same U a5 b5 c5 d5 invs (i5.next (HB2.out.trans (hU.mono HB2.out.size))) (j5.next (HB2.out.trans (hU.mono HB2.out.size))))
  have S2 := Lib.hid (fun (U : World) (hU : Below w.heap.size w U) => i2.next hU)
  have R2 := Lib.hid (fun (U : World) (hU : Below w.heap.size w U) => j2.next hU)
  have l2 := i2.cap
  have g2 := i2.big
  have lq2 := j2.cap
  have gq2 := j2.big
  have S6 := Lib.hid (fun (U : World) (hU : Below w.heap.size w U) => i6.next hU)
  have R6 := Lib.hid (fun (U : World) (hU : Below w.heap.size w U) => j6.next hU)
  have l6 := i6.cap
  have g6 := i6.big
  have lq6 := j6.cap
  have gq6 := j6.big
  have S7 := Lib.hid (fun (U : World) (hU : Below w.heap.size w U) => i7.next hU)
  have R7 := Lib.hid (fun (U : World) (hU : Below w.heap.size w U) => j7.next hU)
  have l7 := i7.cap
  have g7 := i7.big
  have lq7 := j7.cap
  have gq7 := j7.big
  clear h1 h2 X1 X2 i1 i2 i3 i4 i5 i6 i7 j1 j2 j3 j4 j5 j6 j7
  go_enter Tryz.func10, Tryz.ntmps10
  go_upto_region 1 with fail
  clear hW1 hW2
  have HD0 : Hid (Below W2.heap.size W2 W2) := Below.refl _ _

  have HC1 := Lib.hid (HQ1.out W2 HD0.out)
  have m0 := (HX1.out.next HD0.out HX1.out.lt).at' 0 _ rfl
  have n0 := (HX2.out.next HD0.out HX2.out.lt).at' 0 _ rfl
  have m1 := (HX1.out.next HD0.out HX1.out.lt).at' 1 _ rfl
  have n1 := (HX2.out.next HD0.out HX2.out.lt).at' 1 _ rfl
  go_wp2_with fail
  with_reducible refine HC1.out.mono ?_
  rintro e w1 ⟨rfl, hd⟩
  have HD1 : Hid (Below W2.heap.size W2 w1) := by obtain ⟨m, rfl⟩ := hd; exact below_drewN HD0.out m
  clear m1 n1 hd m0 n0
  have HC2 := Lib.hid (HQ3.out w1 HD1.out)
  have m1 := (HX1.out.next HD1.out HX1.out.lt).at' 3 _ rfl
  have n1 := (HX2.out.next HD1.out HX2.out.lt).at' 3 _ rfl
  go_wp2_with fail
  with_reducible refine HC2.out.mono ?_
  rintro e w2 ⟨rfl, hd⟩
  have HD2 : Hid (Below W2.heap.size W2 w2) := by obtain ⟨m, rfl⟩ := hd; exact below_drewN HD1.out m
  clear m1 n1 hd
  have HC3 := Lib.hid (HQ4.out w2 HD2.out)
  have m1 := (HX1.out.next HD2.out HX1.out.lt).at' 4 _ rfl
  have n1 := (HX2.out.next HD2.out HX2.out.lt).at' 4 _ rfl
  go_wp2_with fail
  with_reducible refine HC3.out.mono ?_
  rintro e w3 ⟨rfl, hd⟩
  have HD3 : Hid (Below W2.heap.size W2 w3) := by obtain ⟨m, rfl⟩ := hd; exact below_drewN HD2.out m
  clear m1 n1 hd
  have HC4 := Lib.hid (HQ5.out w3 HD3.out)
  have m1 := (HX1.out.next HD3.out HX1.out.lt).at' 5 _ rfl
  have n1 := (HX2.out.next HD3.out HX2.out.lt).at' 5 _ rfl
  go_wp2_with fail
  with_reducible refine HC4.out.mono ?_
  rintro e w4 ⟨rfl, hd⟩
  have HD4 : Hid (Below W2.heap.size W2 w4) := by obtain ⟨m, rfl⟩ := hd; exact below_drewN HD3.out m
  clear m1 n1 hd
  have m2 := (HX1.out.next HD4.out HX1.out.lt).at' 2 _ rfl
  have n2 := (HX2.out.next HD4.out HX2.out.lt).at' 2 _ rfl
  have m6 := (HX1.out.next HD4.out HX1.out.lt).at' 6 _ rfl
  have n6 := (HX2.out.next HD4.out HX2.out.lt).at' 6 _ rfl
  have m7 := (HX1.out.next HD4.out HX1.out.lt).at' 7 _ rfl
  have n7 := (HX2.out.next HD4.out HX2.out.lt).at' 7 _ rfl
  go_wp2_with fail
  clear m2 n2 m6 n6 m7 n7
  go_loopw [5] (fun s wr => ∃ k : Nat, k ≤ lats.length ∧ s = .int .i64 k ∧ Hid (Below W2.heap.size W2 wr)) (fun s _ => lats.length - (intOf s).toNat)
  case atStart => exact ⟨0, Nat.zero_le _, rfl, HD4⟩
  case round =>
    obtain ⟨k, hk, rfl, hb⟩ := hrel
    have mj := (HX1.out.next hb.out HX1.out.lt).at' 2 _ rfl
    have nj := (HX2.out.next hb.out HX2.out.lt).at' 2 _ rfl
    by_cases hlt : k < lats.length
    · obtain ⟨b, o, hx, hae, hbs, e0, e1, e2⟩ := SlT.tri (S2.out wr (HB2.out.trans (hb.out.mono HB2.out.size))) hlt
      obtain ⟨b', o', hy, hae', hbs', f0, f1, f2⟩ := SlT.tri (R2.out wr (HB2.out.trans (hb.out.mono HB2.out.size))) hlt
      subst hae hae'
      generalize lats[k] = t at *
      obtain ⟨t0, t1, t2⟩ := t
      simp only at e0 e1 e2 f0 f1 f2
      clear hx hy hbs hbs'
      go_wp2_with fail
      go_quiet (fail)
      go_wp2_with fail
      go_roundw
      case rel => exact ⟨k + 1, by omega, by go_num, below_drewN hb.out _⟩
      case measure => simp [intOf]; omega
    · have HL1 := hb
      generalize wr = v1 at *
      clear hb
      go_wp2_with fail
      clear hk hlt mj nj
      go_loopw [6] (fun s wr => ∃ k : Nat, k ≤ ands.length ∧ s = .int .i64 k ∧ Hid (Below W2.heap.size W2 wr)) (fun s _ => ands.length - (intOf s).toNat)
      case atStart => exact ⟨0, Nat.zero_le _, rfl, HL1⟩
      case round =>
        obtain ⟨k, hk, rfl, hb⟩ := hrel
        have mj := (HX1.out.next hb.out HX1.out.lt).at' 6 _ rfl
        have nj := (HX2.out.next hb.out HX2.out.lt).at' 6 _ rfl
        by_cases hlt : k < ands.length
        · obtain ⟨b, o, hx, hae, hbs, e0, e1, e2⟩ := SlT.tri (S6.out wr (HB2.out.trans (hb.out.mono HB2.out.size))) hlt
          obtain ⟨b', o', hy, hae', hbs', f0, f1, f2⟩ := SlT.tri (R6.out wr (HB2.out.trans (hb.out.mono HB2.out.size))) hlt
          subst hae hae'
          generalize ands[k] = t at *
          obtain ⟨t0, t1, t2⟩ := t
          simp only at e0 e1 e2 f0 f1 f2
          clear hx hy hbs hbs'
          go_wp2_with fail
          go_quiet (fail)
          go_wp2_with fail
          go_roundw
          case rel => exact ⟨k + 1, by omega, by go_num, below_drewN hb.out _⟩
          case measure => simp [intOf]; omega
        · have HL2 := hb
          generalize wr = v2 at *
          clear hb
          go_wp2_with fail
          clear hk hlt mj nj
          go_loopw [7] (fun s wr => ∃ k : Nat, k ≤ names.length ∧ s = .int .i64 k ∧ Hid (Below W2.heap.size W2 wr)) (fun s _ => names.length - (intOf s).toNat)
          case atStart => exact ⟨0, Nat.zero_le _, rfl, HL2⟩
          case round =>
            obtain ⟨k, hk, rfl, hb⟩ := hrel
            have mj := (HX1.out.next hb.out HX1.out.lt).at' 7 _ rfl
            have nj := (HX2.out.next hb.out HX2.out.lt).at' 7 _ rfl
            by_cases hlt : k < names.length
            · obtain ⟨b, o, hx, hae, hbs, e0, e1, e2⟩ := Circuit.SlT.name (S7.out wr (HB2.out.trans (hb.out.mono HB2.out.size))) hlt
              obtain ⟨b', o', hy, hae', hbs', f0, f1, f2⟩ := Circuit.SlT.name (R7.out wr (HB2.out.trans (hb.out.mono HB2.out.size))) hlt
              subst hae hae'
              generalize names[k] = t at *
              obtain ⟨t0, t1, t2⟩ := t
              simp only at e0 e1 e2 f0 f1 f2
              clear hx hy hbs hbs'
              go_wp2_with fail
              go_quiet (fail)
              go_wp2_with fail
              go_roundw
              case rel => exact ⟨k + 1, by omega, by go_num, below_drewN hb.out _⟩
              case measure => simp [intOf]; omega
            · have HL3 := hb
              generalize wr = v3 at *
              clear hb
              go_wp2_with fail
              go_ret
              exact ⟨rfl, HB2.out.trans (HL3.out.mono HB2.out.size)⟩
end Circuit
end Go.Proofs.YtninglnchengeaaGreat
/-
  interlocklaw35.CoiTells: what both walks share, and the walk of what may not be asked.
-/
namespace Go.Proofs.YtninglnchengeaaGreat.coiTells
open Go.RowKit Base Circuit Coi StrashP LitsC
set_option linter.unusedVariables false
set_option linter.unusedSimpArgs false

def noC : Circ := ⟨0, [], [], [], [], [], [], []⟩
def noA : At := ⟨none, 0, none, 0, none, 0, none, 0, none, 0, none, 0, none, 0⟩
theorem noC_cells : cells noC noA = #[.int .i64 0, .slice none 0 0, .slice none 0 0, .slice none 0 0, .slice none 0 0, .slice none 0 0, .slice none 0 0, .slice none 0 0] := rfl
theorem noC_in (w : World) : InCirc w noC noA := ⟨Sl.nil w, Coi.slT_none w 3, Sl.nil w, Sl.nil w, Sl.nil w, Coi.slT_none w 3, Coi.slT_none w 3⟩

theorem num_any (w : World) (n : Int) : Calls Tryz.prog 8 #[.int .i64 n] w fun e w' => e = .returned (.int .i64 n) ∧ w = w' := by
  go_enter Tryz.func8, Tryz.ntmps8
  go_wp2
  go_ret
  exact ⟨rfl, rfl⟩

abbrev C8 (N : Nat) (x : Circ) (p : At) (w' : World) : Prop := w'.cell? ⟨N, 0, none⟩ = some (.int .i64 x.max) ∧ w'.cell? ⟨N, 1, none⟩ = some (.slice p.a1 x.ins.length p.c1) ∧ w'.cell? ⟨N, 2, none⟩ = some (.slice p.a2 x.lats.length p.c2) ∧ w'.cell? ⟨N, 3, none⟩ = some (.slice p.a3 x.outs.length p.c3) ∧ w'.cell? ⟨N, 4, none⟩ = some (.slice p.a4 x.bads.length p.c4) ∧ w'.cell? ⟨N, 5, none⟩ = some (.slice p.a5 x.invs.length p.c5) ∧ w'.cell? ⟨N, 6, none⟩ = some (.slice p.a6 x.ands.length p.c6) ∧ w'.cell? ⟨N, 7, none⟩ = some (.slice p.a7 x.names.length p.c7)
theorem c8 {N : Nat} {x : Circ} {p : At} {w' : World} (h : CBox N x p w') : C8 N x p w' := ⟨h.k0, h.k1, h.k2, h.k3, h.k4, h.k5, h.k6, h.k7⟩
structure TH (N1 N3 : Nat) (x y : Circ) (p q : At) (W U : World) : Prop where
  below : Below W.heap.size W U
  b1 : CBox N1 x p U
  b3 : CBox N3 y q U
theorem TH.more {N1 N3 : Nat} {x y : Circ} {p q : At} {W U U' : World} (h : TH N1 N3 x y p q W U) (hb : Below U.heap.size U U') : TH N1 N3 x y p q W U' :=
  ⟨h.below.trans (hb.mono h.below.size), h.b1.next hb (Nat.le_refl _), h.b3.next hb (Nat.le_refl _)⟩
abbrev TAll (N1 N3 : Nat) (x y : Circ) (p q : At) (W U : World) : Prop := TH N1 N3 x y p q W U ∧ C8 N1 x p U
theorem th_all {N1 N3 : Nat} {x y : Circ} {p q : At} {W U : World} (h : TH N1 N3 x y p q W U) : TAll N1 N3 x y p q W U := ⟨h, c8 h.b1⟩
theorem call_keep {P : Program} {f : FuncId} {args : Array Value} {v : Value} {S : World → Prop} (hc : ∀ U, S U → Calls P f args U fun e U' => e = .returned v ∧ Below U.heap.size U U') (hs : ∀ U U', S U → Below U.heap.size U U' → S U') :
    ∀ U, S U → Calls P f args U fun e U' => e = .returned v ∧ S U' := fun U hU => (hc U hU).mono fun e U' h => ⟨h.1, hs U U' hU h.2⟩

set_option maxRecDepth 8000 in
set_option maxHeartbeats 4000000 in
theorem walk_no (w : World) (x : Circ) (p : At) (hin : InCirc w x p) (hw : WfC x) (aA : Option Addr) (n cA : Nat) (vals : List Value) (A : List (List Int)) (hA : Sl2 w aA n cA vals A) (hA64 : ∀ y ∈ A.flatten, Circuit.I64 y) (bad : Int) (hb0 : -9223372036854775808 ≤ bad) (hb1' : bad ≤ 9223372036854775807) (hno : askE x A bad ≠ 0) (hza : x.ands.length * 24 ≤ 140737488355328) :
    Calls Tryz.prog 3 #[.agg (cells x p), .slice aA n cA, .int .i64 bad] w fun e w' => e = .returned (.bool true) ∧ Below w.heap.size w w' := by
  obtain ⟨W1, hW1⟩ : ∃ W1, w.alloc (.cells (cells x p) 27) = W1 := ⟨_, rfl⟩
  obtain ⟨hb1, hc1⟩ := cbox_new w x p W1 hW1
  have HB1 := Lib.hid hb1
  have HAL := Lib.hid (alive_any W1)
  have HCB := Lib.hid (fun (U : World) (hU : Below W1.heap.size W1 U) => hc1.next hU (Nat.le_refl _))
  have HND := fun (U : World) (hU : Below W1.heap.size W1 U) => needed_no U x p ((hin.next hb1).next hU) hw aA n cA vals A ((hA.next hb1).next hU) hA64 bad hb0 hb1' hno
  have HRD := fun (U : World) (hU : Below W1.heap.size W1 U) => reduce_no U x p ((hin.next hb1).next hU) hw aA n cA vals A ((hA.next hb1).next hU) hA64 bad hb0 hb1' hno
  have HAK := fun (U : World) (hU : Below W1.heap.size W1 U) => lawAsked_any U x p ((hin.next hb1).next hU) hw aA n cA vals A ((hA.next hb1).next hU) hA64 bad hb0 hb1' hza
  have HSM := Lib.hid (fun U => refSame_any U noC noA noA (noC_in U) (noC_in U))
  rw [noC_cells] at HSM
  obtain ⟨a1, c1, a2, c2, a3, c3, a4, c4, a5, c5, a6, c6, a7, c7⟩ := p
  simp only [cells] at *
  generalize askE x A bad = er at *
  have hne : (er != 0) = true := by simpa using hno
  have hee : (er != er) = false := by simp
  have HR := Lib.hid HRD
  have HN := Lib.hid HND
  have HK := Lib.hid HAK
  clear hin hw hA hA64 hb1 hc1 hb0 hb1' hno HRD HND HAK hza
  go_enter Tryz.func3, Tryz.ntmps3
  go_wp2_with fail
  clear hW1
  with_reducible refine HAL.out.mono ?_
  rintro e w2 ⟨rfl, hb2⟩
  have HB2 := Lib.hid hb2
  have HN2 := Lib.hid (HN.out w2 hb2)
  have hcw := HCB.out w2 hb2
  have k0 := hcw.k0
  have k1 := hcw.k1
  have k2 := hcw.k2
  have k3 := hcw.k3
  have k4 := hcw.k4
  have k5 := hcw.k5
  have k6 := hcw.k6
  have k7 := hcw.k7
  clear hb2 hcw
  go_wp2_with fail
  with_reducible refine HN2.out.mono ?_
  rintro e w3 ⟨rfl, hb3⟩
  have hb13 := HB2.out.trans (hb3.mono HB2.out.size)
  have HB3 := Lib.hid hb13
  have HR3 := Lib.hid (HR.out w3 hb13)
  clear k0 k1 k2 k3 k4 k5 k6 k7
  have hcw := HCB.out w3 hb13
  have k0 := hcw.k0
  have k1 := hcw.k1
  have k2 := hcw.k2
  have k3 := hcw.k3
  have k4 := hcw.k4
  have k5 := hcw.k5
  have k6 := hcw.k6
  have k7 := hcw.k7
  clear hb3 hb13 hcw
  go_wp2_with fail
  with_reducible refine HR3.out.mono ?_
  rintro e w4 ⟨rfl, hb4⟩
  obtain ⟨W5, hW5⟩ : ∃ U, w4.alloc (.cells (cells noC noA) 27) = U := ⟨_, rfl⟩
  obtain ⟨hb5, hc5⟩ := cbox_new w4 noC noA W5 hW5
  rw [noC_cells] at hW5
  have hb15 : Below W1.heap.size W1 W5 := HB3.out.trans ((hb4.trans (hb5.mono hb4.size)).mono HB3.out.size)
  have HB5 := Lib.hid hb15
  have hf0 : TH w.heap.size w4.heap.size x noC ⟨a1, c1, a2, c2, a3, c3, a4, c4, a5, c5, a6, c6, a7, c7⟩ noA W5 W5.drew := ⟨(Below.refl _ _).drew, (HCB.out W5 hb15).next (Below.refl _ _).drew (Nat.le_refl _), hc5.next (Below.refl _ _).drew (Nat.le_refl _)⟩
  have HF := th_all hf0
  have C8' := call_keep (S := fun U => TAll w.heap.size w4.heap.size x noC ⟨a1, c1, a2, c2, a3, c3, a4, c4, a5, c5, a6, c6, a7, c7⟩ noA W5 U) (fun U hU => (num_any U er).mono fun e U' h => ⟨h.1, h.2 ▸ Below.refl _ _⟩) (fun U U' h hb => th_all (h.1.more hb))
  have C8 := Lib.hid C8'
  have C9' := call_keep (S := fun U => TAll w.heap.size w4.heap.size x noC ⟨a1, c1, a2, c2, a3, c3, a4, c4, a5, c5, a6, c6, a7, c7⟩ noA W5 U) (fun U hU => HK.out U (HB5.out.trans (hU.1.below.mono HB5.out.size))) (fun U U' h hb => th_all (h.1.more hb))
  have C9 := Lib.hid C9'
  have HW5 := Lib.hid hW5
  clear C8' C9' hb4 hb5 hb15 hf0 k0 k1 k2 k3 k4 k5 k6 k7 hc5 hW5
  go_upto_region 5 with fail
  rw [HW5.out]
  refine Lex.region (fun w' => TAll w.heap.size w4.heap.size x noC ⟨a1, c1, a2, c2, a3, c3, a4, c4, a5, c5, a6, c6, a7, c7⟩ noA W5 w') (by kernel_rfl) (by kernel_rfl) HF ?_
  (refine Lex.step_val (v := ?_) ?_ (fun w' hSw => ?_) ?_; rotate_left; (focus rfl); (focus (clear hSw; go_simp; (try with_reducible rfl); done)); (try simp only [Act.put, List.setIfInBounds_toArray, List.set_cons_zero, List.set_cons_succ]))
  (refine Lex.step_call (v := ?_) (f := ?_) (args := ?_) ?_ (fun w' hSw => ?_) ?_ ?_; rotate_left 3; (focus rfl); (focus (clear hSw; go_simp; (refine And.intro ?_ ?_ <;> with_reducible rfl); done)); (focus (first | with_reducible exact C8.out | with_reducible exact C9.out)); (try simp only [Act.put, List.setIfInBounds_toArray, List.set_cons_zero, List.set_cons_succ]))
  (refine Lex.step_val (v := ?_) ?_ (fun w' hSw => ?_) ?_; rotate_left; (focus rfl); (focus ((try dsimp only at hSw); go_simp; (try with_reducible rfl); done)); (try simp only [Act.put, List.setIfInBounds_toArray, List.set_cons_zero, List.set_cons_succ]))
  (refine Lex.step_val (v := ?_) ?_ (fun w' hSw => ?_) ?_; rotate_left; (focus rfl); (focus (clear hSw; go_simp; (try with_reducible rfl); done)); (try simp only [Act.put, List.setIfInBounds_toArray, List.set_cons_zero, List.set_cons_succ]))
  (refine Lex.step_val (v := ?_) ?_ (fun w' hSw => ?_) ?_; rotate_left; (focus rfl); (focus (clear hSw; go_simp; (try with_reducible rfl); done)); (try simp only [Act.put, List.setIfInBounds_toArray, List.set_cons_zero, List.set_cons_succ]))
  (refine Lex.step_call (v := ?_) (f := ?_) (args := ?_) ?_ (fun w' hSw => ?_) ?_ ?_; rotate_left 3; (focus rfl); (focus (clear hSw; go_simp; (refine And.intro ?_ ?_ <;> with_reducible rfl); done)); (focus (first | with_reducible exact C8.out | with_reducible exact C9.out)); (try simp only [Act.put, List.setIfInBounds_toArray, List.set_cons_zero, List.set_cons_succ]))
  (refine Lex.step_val (v := ?_) ?_ (fun w' hSw => ?_) ?_; rotate_left; (focus rfl); (focus (clear hSw; go_simp; (try with_reducible rfl); done)); (try simp only [Act.put, List.setIfInBounds_toArray, List.set_cons_zero, List.set_cons_succ]))
  (refine Lex.step_val (v := ?_) ?_ (fun w' hSw => ?_) ?_; rotate_left; (focus rfl); (focus (clear hSw; go_simp; (try with_reducible rfl); done)); (try simp only [Act.put, List.setIfInBounds_toArray, List.set_cons_zero, List.set_cons_succ]))
  (refine Lex.step_val (v := ?_) ?_ (fun w' hSw => ?_) ?_; rotate_left; (focus (go_simp; done)); (focus (clear hSw; go_simp; (try with_reducible rfl); done)); (try simp only [Act.put, List.setIfInBounds_toArray, List.set_cons_zero, List.set_cons_succ]))
  (refine Lex.step_val (v := ?_) ?_ (fun w' hSw => ?_) ?_; rotate_left; (focus (go_simp; done)); (focus (clear hSw; go_simp; (try with_reducible rfl); done)); (try simp only [Act.put, List.setIfInBounds_toArray, List.set_cons_zero, List.set_cons_succ]))
  (refine Lex.step_val (v := ?_) ?_ (fun w' hSw => ?_) ?_; rotate_left; (focus (go_simp; done)); (focus (clear hSw; go_simp; (try with_reducible rfl); done)); (try simp only [Act.put, List.setIfInBounds_toArray, List.set_cons_zero, List.set_cons_succ]))
  (refine Lex.step_val (v := ?_) ?_ (fun w' hSw => ?_) ?_; rotate_left; (focus rfl); (focus (clear hSw; go_simp; (try with_reducible rfl); done)); (try simp only [Act.put, List.setIfInBounds_toArray, List.set_cons_zero, List.set_cons_succ]))
  refine Lex.step_nil ?_
  intro wz hz
  have HZ := Lib.hid hz.1.below
  have n0 := hz.1.b3.k0
  have n1 := hz.1.b3.k1
  have n2 := hz.1.b3.k2
  have n3 := hz.1.b3.k3
  have n4 := hz.1.b3.k4
  have n5 := hz.1.b3.k5
  have n6 := hz.1.b3.k6
  have n7 := hz.1.b3.k7
  simp only [noC, noA, List.length_nil] at n0 n1 n2 n3 n4 n5 n6 n7
  clear hz HF
  go_wp2_with fail
  with_reducible refine (HSM.out _).mono ?_
  rintro e w6 ⟨rfl, hb6⟩
  go_wp2_with fail
  go_ret
  exact ⟨rfl, HB1.out.trans ((HB5.out.trans ((HZ.out.trans (hb6.mono HZ.out.size)).mono HB5.out.size)).mono HB1.out.size)⟩
end Go.Proofs.YtninglnchengeaaGreat.coiTells

/-
  A region that draws its order, with loads, calls that make memory, and stores behind them all: a condition S on the world is asked only up to the first store (operation number s); a load under S, and what yields in every world, may be taken first. No program's function.
-/
namespace Go.Proofs.YtninglnchengeaaGreat
open Go.RowKit
set_option linter.unusedVariables false
namespace HeldTo

section
variable {P : Program} {ops : Array Oper} {Q : Exit → Act → World → Prop} {md : Region.Mode} {S : World → Prop} {s : Nat}

def wpAnyG (P : Program) (md : Region.Mode) (ops : Array Oper) (Q : Exit → Act → World → Prop) (S : World → Prop) (s : Nat) : Nat → Array Bool → Act → World → Prop
  | 0, listed, a, w => Region.ready md ops listed = [] ∧ Q .normal a w
  | fuel + 1, listed, a, w =>
    (Region.ready md ops listed = [] → Q .normal a w) ∧
    ∀ i ∈ Region.ready md ops listed, wpOp P ops Q i (fun a' w' => ((listed.setIfInBounds i true).getD s true = false → S w') ∧ wpAnyG P md ops Q S s fuel (listed.setIfInBounds i true) a' w') a w

theorem wpAny_of_G : ∀ (fuel : Nat) (listed : Array Bool) (a : Act) (w : World), wpAnyG P md ops Q S s fuel listed a w → wpAny P md ops Q fuel listed a w
  | 0, _, _, _, h => h
  | fuel + 1, _, _, _, h => ⟨h.1, fun i hi => wpOp_mono (fun a' w' h' => wpAny_of_G fuel _ a' w' h'.2) (h.2 i hi)⟩

theorem wpAnyG_first {i : Nat} {oi : Oper} {v : Value} (hi : ops[i]? = some oi) (hsel : ∀ (j : Nat) (o : Oper) cs b, ops[j]? = some o → o.op ≠ .select cs b)
    (hQ : ∀ c a w, Q (.panic c) (a.put oi.dst v) w → Q (.panic c) a w) (his : i ≠ s) (hw8 : ∀ os, ops[s]? = some os → ∃ e ∈ os.after, Region.binds md e = true ∧ e.on = i) :
    ∀ (fuel : Nat) (listed : Array Bool) (a : Act) (w : World),
      (∀ j oj, ops[j]? = some oj → j ≠ i → listed.getD j true = false → (∀ e ∈ oj.after, Region.binds md e = true → e.on ≠ i) → oi.apart ops oj = true) →
      i ∈ Region.ready md ops listed → listed.getD s true = false → YieldsIf P ops S oi v a → S w →
      wpAnyG P md ops Q S s fuel (listed.setIfInBounds i true) (a.put oi.dst v) w → wpAnyG P md ops Q S s (fuel + 1) listed a w := by
  intro fuel
  induction fuel with
  | zero =>
    intro listed a w _ hr hs hy hS H
    refine ⟨fun h => (by rw [h] at hr; cases hr), fun j hj => ?_⟩
    by_cases hji : j = i
    · subst hji; exact hy.wpOp hi hS ⟨fun _ => hS, H⟩
    · have := ready_mono hj hji
      rw [H.1] at this
      cases this
  | succ fuel ih =>
    intro listed a w hfree hr hs hy hS H
    refine ⟨fun h => (by rw [h] at hr; cases hr), fun j hj => ?_⟩
    by_cases hji : j = i
    · subst hji; exact hy.wpOp hi hS ⟨fun _ => hS, H⟩
    · have h1 := H.2 j (ready_mono hj hji)
      obtain ⟨hjun, oj, hoj, hall⟩ := mem_ready.1 hj
      have hnot : ∀ e ∈ oj.after, Region.binds md e = true → e.on ≠ i := fun e he hb heq => by
        have h1 := hall e he hb
        have h0 := (mem_ready.1 hr).1
        rw [heq] at h1
        rcases Nat.lt_or_ge i listed.size with h' | h'
        · simp [h'] at h0 h1; rw [h0] at h1; cases h1
        · simp [Array.getElem?_eq_none h'] at h1
      have hjs : j ≠ s := fun h => by
        subst h
        obtain ⟨e, he, hb, heq⟩ := hw8 oj hoj
        exact hnot e he hb heq
      have h2 := wpOp_putIf hoj (hfree j oj hoj hji hjun hnot) (fun cs b => hsel i oi cs b hi) (fun cs b => hsel j oj cs b hoj) hQ hy h1
      have hfree' : ∀ k ok, ops[k]? = some ok → k ≠ i → (listed.setIfInBounds j true).getD k true = false →
          (∀ e ∈ ok.after, Region.binds md e = true → e.on ≠ i) → oi.apart ops ok = true := fun k ok hk hki hun hno => by
        refine hfree k ok hk hki ?_ hno
        by_cases hjk : j = k
        · subst hjk; exact hjun
        · rw [getD_set_ne true hjk] at hun; exact hun
      have hs2 : (listed.setIfInBounds j true).getD s true = false := by rw [getD_set_ne true hjs]; exact hs
      have hs3 : ((listed.setIfInBounds i true).setIfInBounds j true).getD s true = false := by rw [getD_set_ne true hjs, getD_set_ne true his]; exact hs
      refine wpOp_mono (fun a' w' h3 => ⟨fun _ => h3.2.1 hs3, ih (listed.setIfInBounds j true) a' w' hfree' (ready_mono hr (Ne.symm hji)) hs2 h3.1 (h3.2.1 hs3) ?_⟩) h2
      rw [Array.setIfInBounds_comm _ _ hji]
      exact h3.2.2

/-- What yields in every world may be taken first at any time. -/
theorem wpAnyG_plain {i : Nat} {oi : Oper} {v : Value} (hi : ops[i]? = some oi) (hsel : ∀ (j : Nat) (o : Oper) cs b, ops[j]? = some o → o.op ≠ .select cs b)
    (hQ : ∀ c a w, Q (.panic c) (a.put oi.dst v) w → Q (.panic c) a w) (his : i ≠ s) :
    ∀ (fuel : Nat) (listed : Array Bool) (a : Act) (w : World),
      (∀ j oj, ops[j]? = some oj → j ≠ i → listed.getD j true = false → (∀ e ∈ oj.after, Region.binds md e = true → e.on ≠ i) → oi.apart ops oj = true) →
      i ∈ Region.ready md ops listed → YieldsIf P ops (fun _ => True) oi v a → (listed.getD s true = false → S w) →
      wpAnyG P md ops Q S s fuel (listed.setIfInBounds i true) (a.put oi.dst v) w → wpAnyG P md ops Q S s (fuel + 1) listed a w := by
  intro fuel
  induction fuel with
  | zero =>
    intro listed a w _ hr hy hS H
    refine ⟨fun h => (by rw [h] at hr; cases hr), fun j hj => ?_⟩
    by_cases hji : j = i
    · subst hji; exact hy.wpOp hi trivial ⟨fun h => hS (by rwa [getD_set_ne true his] at h), H⟩
    · have := ready_mono hj hji
      rw [H.1] at this
      cases this
  | succ fuel ih =>
    intro listed a w hfree hr hy hS H
    refine ⟨fun h => (by rw [h] at hr; cases hr), fun j hj => ?_⟩
    by_cases hji : j = i
    · subst hji; exact hy.wpOp hi trivial ⟨fun h => hS (by rwa [getD_set_ne true his] at h), H⟩
    · have h1 := H.2 j (ready_mono hj hji)
      obtain ⟨hjun, oj, hoj, hall⟩ := mem_ready.1 hj
      have hnot : ∀ e ∈ oj.after, Region.binds md e = true → e.on ≠ i := fun e he hb heq => by
        have h1 := hall e he hb
        have h0 := (mem_ready.1 hr).1
        rw [heq] at h1
        rcases Nat.lt_or_ge i listed.size with h' | h'
        · simp [h'] at h0 h1; rw [h0] at h1; cases h1
        · simp [Array.getElem?_eq_none h'] at h1
      have h2 := wpOp_putIf hoj (hfree j oj hoj hji hjun hnot) (fun cs b => hsel i oi cs b hi) (fun cs b => hsel j oj cs b hoj) hQ hy h1
      have hfree' : ∀ k ok, ops[k]? = some ok → k ≠ i → (listed.setIfInBounds j true).getD k true = false →
          (∀ e ∈ ok.after, Region.binds md e = true → e.on ≠ i) → oi.apart ops ok = true := fun k ok hk hki hun hno => by
        refine hfree k ok hk hki ?_ hno
        by_cases hjk : j = k
        · subst hjk; exact hjun
        · rw [getD_set_ne true hjk] at hun; exact hun
      have key : ∀ w', (((listed.setIfInBounds i true).setIfInBounds j true).getD s true = false → S w') → ((listed.setIfInBounds j true).getD s true = false → S w') := fun w' h hh => by
        apply h
        rw [Array.setIfInBounds_comm _ _ (Ne.symm hji), getD_set_ne true his]
        exact hh
      refine wpOp_mono (fun a' w' h3 => ⟨key w' h3.2.1, ih (listed.setIfInBounds j true) a' w' hfree' (ready_mono hr (Ne.symm hji)) h3.1 (key w' h3.2.1) ?_⟩) h2
      rw [Array.setIfInBounds_comm _ _ hji]
      exact h3.2.2

def waits (md : Region.Mode) (ops : Array Oper) (s i : Nat) : Bool := match ops[s]? with | none => true | some os => os.after.any (fun e => Region.binds md e && e.on == i)

/-- A load, or whatever yields under S, is taken first. -/
theorem take {i : Nat} {oi : Oper} {v : Value} {d : Option Tmp} {fuel : Nat} {listed : Array Bool} {a : Act} {w : World} (hi : ops[i]? = some oi) (hd : oi.dst = d)
    (hs : Region.noSelect ops = true) (hf : Region.free md ops listed i = true) (hr : (Region.ready md ops listed).contains i = true) (his : (i != s) = true) (hw8 : waits md ops s i = true) (hun : listed.getD s true = false)
    (hQ : ∀ c a w, Q (.panic c) (a.put oi.dst v) w → Q (.panic c) a w) (hy : YieldsIf P ops S oi v a) (hS : S w)
    (h : wpAnyG P md ops Q S s fuel (listed.setIfInBounds i true) (a.put d v) w) : wpAnyG P md ops Q S s (fuel + 1) listed a w := by
  subst hd
  exact wpAnyG_first hi (Region.noSelect_spec hs) hQ (by simpa using his) (fun os ho => by
    unfold waits at hw8
    rw [ho] at hw8
    simp only [Array.any_eq_true, Bool.and_eq_true, beq_iff_eq] at hw8
    obtain ⟨k, hk, h1, h2⟩ := hw8
    exact ⟨_, Array.getElem_mem hk, h1, h2⟩) fuel listed a w (Region.free_spec hi hf) (by simpa using hr) hun hy hS h

/-- What yields in every world is taken first. -/
theorem plain {i : Nat} {oi : Oper} {v : Value} {d : Option Tmp} {fuel : Nat} {listed : Array Bool} {a : Act} {w : World} (hi : ops[i]? = some oi) (hd : oi.dst = d)
    (hs : Region.noSelect ops = true) (hf : Region.free md ops listed i = true) (hr : (Region.ready md ops listed).contains i = true) (his : (i != s) = true)
    (hQ : ∀ c a w, Q (.panic c) (a.put oi.dst v) w → Q (.panic c) a w) (hy : YieldsIf P ops (fun _ => True) oi v a) (hS : listed.getD s true = false → S w)
    (h : wpAnyG P md ops Q S s fuel (listed.setIfInBounds i true) (a.put d v) w) : wpAnyG P md ops Q S s (fuel + 1) listed a w := by
  subst hd
  exact wpAnyG_plain hi (Region.noSelect_spec hs) hQ (by simpa using his) fuel listed a w (Region.free_spec hi hf) (by simpa using hr) hy hS h

/-- The one that may come up: a call. -/
theorem call {i : Nat} {oi : Oper} {d : Option Tmp} {fuel : Nat} {listed : Array Bool} {a : Act} {w : World} {f : FuncId} {args : Array Value} {R : Value → World → Prop} (hi : ops[i]? = some oi) (hd : oi.dst = d) (hr : Region.ready md ops listed = [i])
    (hw : Region.wanted oi (yielded ops a.tmps) = true) (hv : (execOp a.eval oi).run P w = .ok (.enter f args) w) (hc : Calls P f args w (fun e w'' => ∃ v, e = .returned v ∧ R v w''))
    (h : ∀ v w', R v w' → S w' ∧ wpAnyG P md ops Q S s fuel (listed.setIfInBounds i true) (a.put d v) w') : wpAnyG P md ops Q S s (fuel + 1) listed a w := by
  subst hd
  refine ⟨fun h0 => absurd (hr ▸ h0) (by simp), ?_⟩
  rw [hr]
  intro j hj
  rw [List.mem_singleton] at hj
  subst hj
  unfold wpOp
  simp only [hi, hw, if_true]
  refine .inl ?_
  unfold Oper.wp
  rw [hv]
  simp only [Oper.upon]
  refine hc.mono fun e w'' ⟨v, he, hR⟩ => ?_
  subst he
  exact ⟨fun _ => (h v w'' hR).1, (h v w'' hR).2⟩

/-- The one that may come up: a store, behind the loads. -/
theorem store {i : Nat} {oi : Oper} {d : Option Tmp} {fuel : Nat} {listed : Array Bool} {a : Act} {w w2 : World} (hi : ops[i]? = some oi) (hd : oi.dst = d) (hr : Region.ready md ops listed = [i]) (hl : (listed.setIfInBounds i true).getD s true = true)
    (hw : Region.wanted oi (yielded ops a.tmps) = true) (hv : (execOp a.eval oi).run P w = .ok .skip w2)
    (h : wpAnyG P md ops Q S s fuel (listed.setIfInBounds i true) (a.put d undef) w2) : wpAnyG P md ops Q S s (fuel + 1) listed a w := by
  subst hd
  refine ⟨fun h0 => absurd (hr ▸ h0) (by simp), ?_⟩
  rw [hr]
  intro j hj
  rw [List.mem_singleton] at hj
  subst hj
  unfold wpOp
  simp only [hi, hw, if_true]
  refine .inl ?_
  unfold Oper.wp
  rw [hv]
  simp only [Oper.upon]
  exact ⟨fun hh => (by rw [hl] at hh; cases hh), h⟩

/-- All have come up. -/
theorem done {listed : Array Bool} {a : Act} {w : World} (hr : Region.ready md ops listed = []) (h : Q .normal a w) :
    ∀ fuel, wpAnyG P md ops Q S s fuel listed a w
  | 0 => ⟨hr, h⟩
  | _ + 1 => ⟨fun _ => h, by rw [hr]; simp⟩

/-- The beginning. -/
theorem region {id : Nat} {l : List Oper} {a : Act} {w : World} (S : World → Prop) (s : Nat) (hm : P.follows .mixedOrders = true)
    (h : wpAnyG P .any l.toArray Q S s l.toArray.size (Array.replicate l.toArray.size false) a w.drew) : (Code.region id l.toArray true).wp P Q a w :=
  wp_region_any hm (wpAny_of_G _ _ _ _ h)
end
end HeldTo
end Go.Proofs.YtninglnchengeaaGreat

/-
  HeldTo, where two operations may come up: a call or a store. No program's function.
-/
namespace Go.Proofs.YtninglnchengeaaGreat
open Go.RowKit
set_option linter.unusedVariables false
namespace HeldTo

section
variable {P : Program} {ops : Array Oper} {Q : Exit → Act → World → Prop} {md : Region.Mode} {S : World → Prop} {s : Nat}

def Nx (P : Program) (md : Region.Mode) (ops : Array Oper) (Q : Exit → Act → World → Prop) (S : World → Prop) (s fuel : Nat) (listed : Array Bool) (i : Nat) (a : Act) (w : World) : Prop :=
  ((listed.setIfInBounds i true).getD s true = false → S w) ∧ wpAnyG P md ops Q S s fuel (listed.setIfInBounds i true) a w

/-- Either of two may come up. -/
theorem two {i j : Nat} {fuel : Nat} {listed : Array Bool} {a : Act} {w : World} (hr : Region.ready md ops listed = [i, j])
    (h1 : wpOp P ops Q i (Nx P md ops Q S s fuel listed i) a w) (h2 : wpOp P ops Q j (Nx P md ops Q S s fuel listed j) a w) : wpAnyG P md ops Q S s (fuel + 1) listed a w := by
  refine ⟨fun h0 => absurd (hr ▸ h0) (by simp), ?_⟩
  rw [hr]
  intro k hk
  simp only [List.mem_cons, List.not_mem_nil, or_false] at hk
  rcases hk with rfl | rfl
  · exact h1
  · exact h2
/-- One alone may come up. -/
theorem one {i : Nat} {fuel : Nat} {listed : Array Bool} {a : Act} {w : World} (hr : Region.ready md ops listed = [i])
    (h1 : wpOp P ops Q i (Nx P md ops Q S s fuel listed i) a w) : wpAnyG P md ops Q S s (fuel + 1) listed a w := by
  refine ⟨fun h0 => absurd (hr ▸ h0) (by simp), ?_⟩
  rw [hr]
  intro k hk
  simp only [List.mem_cons, List.not_mem_nil, or_false] at hk
  subst hk
  exact h1

/-- A call. -/
theorem opCall {i : Nat} {oi : Oper} {d : Option Tmp} {fuel : Nat} {listed : Array Bool} {a : Act} {w : World} {f : FuncId} {args : Array Value} {R : Value → World → Prop} (hi : ops[i]? = some oi) (hd : oi.dst = d)
    (hw : Region.wanted oi (yielded ops a.tmps) = true) (hv : (execOp a.eval oi).run P w = .ok (.enter f args) w) (hc : Calls P f args w (fun e w'' => ∃ v, e = .returned v ∧ R v w''))
    (h : ∀ v w', R v w' → S w' ∧ wpAnyG P md ops Q S s fuel (listed.setIfInBounds i true) (a.put d v) w') : wpOp P ops Q i (Nx P md ops Q S s fuel listed i) a w := by
  subst hd
  unfold wpOp
  simp only [hi, hw, if_true]
  refine .inl ?_
  unfold Oper.wp
  rw [hv]
  simp only [Oper.upon]
  refine hc.mono fun e w'' ⟨v, he, hR⟩ => ?_
  subst he
  exact ⟨fun _ => (h v w'' hR).1, (h v w'' hR).2⟩

/-- A value. -/
theorem opVal {i : Nat} {oi : Oper} {d : Option Tmp} {v : Value} {fuel : Nat} {listed : Array Bool} {a : Act} {w w2 : World} (hi : ops[i]? = some oi) (hd : oi.dst = d)
    (hw : Region.wanted oi (yielded ops a.tmps) = true) (hv : (execOp a.eval oi).run P w = .ok (.value v) w2) (hS : S w2)
    (h : wpAnyG P md ops Q S s fuel (listed.setIfInBounds i true) (a.put d v) w2) : wpOp P ops Q i (Nx P md ops Q S s fuel listed i) a w := by
  subst hd
  unfold wpOp
  simp only [hi, hw, if_true]
  refine .inl ?_
  unfold Oper.wp
  rw [hv]
  simp only [Oper.upon]
  exact ⟨fun _ => hS, h⟩

/-- A store. -/
theorem opStore {i : Nat} {oi : Oper} {d : Option Tmp} {fuel : Nat} {listed : Array Bool} {a : Act} {w w2 : World} (hi : ops[i]? = some oi) (hd : oi.dst = d)
    (hw : Region.wanted oi (yielded ops a.tmps) = true) (hv : (execOp a.eval oi).run P w = .ok .skip w2) (hS : S w2)
    (h : wpAnyG P md ops Q S s fuel (listed.setIfInBounds i true) (a.put d undef) w2) : wpOp P ops Q i (Nx P md ops Q S s fuel listed i) a w := by
  subst hd
  unfold wpOp
  simp only [hi, hw, if_true]
  refine .inl ?_
  unfold Oper.wp
  rw [hv]
  simp only [Oper.upon]
  exact ⟨fun _ => hS, h⟩
end
end HeldTo
end Go.Proofs.YtninglnchengeaaGreat
