/-
  Several texts in one (written by merge2.py): XOrderC XGetI XConeP XStrashP XStrashQ XCoiP XBadP XBadQ XRefVar XRefBits XInitial XHeldAll
-/
import Derived.Test.YtjmmhbmbafjneaaGreatDoorLaws
import Derived.Test.YtjmmhbmbafjneaaGreatDoorBase
import Derived.Test.YtjmmhbmbafjneaaGreatDoorGateP
import Derived.Test.YtjmmhbmbafjneaaGreatDoorDefine
import Derived.Test.YtjmmhbmbafjneaaGreatDoorCBox
import Derived.Test.YtjmmhbmbafjneaaGreatDoorCheckC
import Derived.Test.YtjmmhbmbafjneaaGreatDoorWfC
import Derived.OrdersHeld
import Derived.Tactics
/-
  cmp.Compare and cmp.Or at integers.
-/
namespace Go.Proofs.YtjmmhbmbafjneaaGreatDoor
open Go.RowKit Base
set_option linter.unusedVariables false
set_option linter.unusedSimpArgs false
namespace Order

def cmpI (x y : Int) : Int := if x < y then -1 else if y < x then 1 else 0

theorem cmp_lt (x y : Int) : cmpI x y < 0 ↔ x < y := by unfold cmpI; split <;> (try split) <;> omega
theorem cmp_zero (x y : Int) : cmpI x y = 0 ↔ x = y := by unfold cmpI; split <;> (try split) <;> omega

set_option maxHeartbeats 400000 in
theorem isNaN_any (x : Int) (w : World) :
    Calls Tryz.prog 85 #[.int .i64 x] w fun e w' => e = .returned (.bool false) ∧ w = w' := by
  go_enter Tryz.func85, Tryz.ntmps85
  go_wp2
  go_ret
  exact ⟨ret_bool (by simp), rfl⟩

set_option maxHeartbeats 400000 in
theorem compare_any (x y : Int) (w : World) :
    Calls Tryz.prog 60 #[.int .i64 x, .int .i64 y] w fun e w' => e = .returned (.int .i64 (cmpI x y)) ∧ w = w' := by
  have N1 := Lib.hid (isNaN_any x w)
  have N2 := Lib.hid (isNaN_any y w)
  have HC : Hid (cmpI x y = if x < y then -1 else if y < x then 1 else 0) := rfl
  by_cases h1 : x < y
  · have e : cmpI x y = -1 := by rw [HC.out, if_pos h1]
    have E := Lib.hid e
    clear e
    go_enter Tryz.func60, Tryz.ntmps60
    go_wp2_with fail
    refine N1.out.mono ?_; rintro e w1 ⟨rfl, rfl⟩
    go_wp2_with fail
    refine N2.out.mono ?_; rintro e w1 ⟨rfl, rfl⟩
    go_wp2_with fail
    go_ret
    exact ⟨ret_int E.out.symm, rfl⟩
  · by_cases h2 : y < x
    · have e : cmpI x y = 1 := by rw [HC.out, if_neg h1, if_pos h2]
      have E := Lib.hid e
      clear e
      go_enter Tryz.func60, Tryz.ntmps60
      go_wp2_with fail
      refine N1.out.mono ?_; rintro e w1 ⟨rfl, rfl⟩
      go_wp2_with fail
      refine N2.out.mono ?_; rintro e w1 ⟨rfl, rfl⟩
      go_wp2_with fail
      go_ret
      exact ⟨ret_int E.out.symm, rfl⟩
    · have e : cmpI x y = 0 := by rw [HC.out, if_neg h1, if_neg h2]
      have E := Lib.hid e
      clear e
      go_enter Tryz.func60, Tryz.ntmps60
      go_wp2_with fail
      refine N1.out.mono ?_; rintro e w1 ⟨rfl, rfl⟩
      go_wp2_with fail
      refine N2.out.mono ?_; rintro e w1 ⟨rfl, rfl⟩
      go_wp2_with fail
      go_ret
      exact ⟨ret_int E.out.symm, rfl⟩

set_option maxHeartbeats 1000000 in
theorem or_any (w : World) (a : Option Addr) (c : Nat) (p q : Int) (hsl : Sl w a 2 c (ints [p, q])) :
    Calls Tryz.prog 59 #[.slice a 2 c] w fun e w' => e = .returned (.int .i64 (if p ≠ 0 then p else q)) ∧ w = w' := by
  have hcap := hsl.cap
  have hbig := hsl.big
  obtain ⟨b, o, hx, rfl, hbs, hc0⟩ := hsl.int (k := 0) (by omega)
  obtain ⟨b', o', hx', e, hbs', hc1⟩ := hsl.int (k := 1) (by omega)
  simp only [Option.some.injEq, Addr.mk.injEq] at e
  obtain ⟨rfl, rfl, _⟩ := e
  simp only [List.getElem_cons_zero, List.getElem_cons_succ, Nat.add_zero] at hc0 hc1
  clear hsl
  by_cases hp : p = 0
  · subst hp
    by_cases hq : q = 0
    · subst hq
      go_enter Tryz.func59, Tryz.ntmps59
      go_wp2
      go_loop [8] (fun i => ∃ k : Nat, k ≤ 2 ∧ i = .int .i64 k) (fun i => 2 - (intOf i).toNat)
      case atStart => exact ⟨0, by omega, rfl⟩
      case round =>
        obtain ⟨k, hk, rfl⟩ := hrel
        have hk3 : k = 0 ∨ k = 1 ∨ k = 2 := by omega
        rcases hk3 with rfl | rfl | rfl
        · go_wp2
          go_round
          case rel => exact ⟨1, by omega, by go_num⟩
          case measure => simp [intOf]
        · go_wp2
          go_round
          case rel => exact ⟨2, by omega, by go_num⟩
          case measure => simp [intOf]
        · go_wp2
          go_ret
          exact ⟨ret_int (by simp), rfl⟩
    · have v0 : (q == 0) = false := by simp [hq]
      have HQ := Lib.hid hq
      clear hq
      go_enter Tryz.func59, Tryz.ntmps59
      go_wp2
      go_loop [8] (fun i => ∃ k : Nat, k ≤ 1 ∧ i = .int .i64 k) (fun i => 2 - (intOf i).toNat)
      case atStart => exact ⟨0, by omega, rfl⟩
      case round =>
        obtain ⟨k, hk, rfl⟩ := hrel
        have hk3 : k = 0 ∨ k = 1 := by omega
        rcases hk3 with rfl | rfl
        · go_wp2
          go_round
          case rel => exact ⟨1, by omega, by go_num⟩
          case measure => simp [intOf]
        · go_wp2
          go_ret
          exact ⟨ret_int (by simp), rfl⟩
  · have v0 : (p == 0) = false := by simp [hp]
    have HP := Lib.hid hp
    clear hp
    go_enter Tryz.func59, Tryz.ntmps59
    go_wp2
    go_loop [8] (fun i => i = .int .i64 0) (fun i => 2 - (intOf i).toNat)
    case atStart => rfl
    case round =>
      subst hrel
      go_wp2
      go_ret
      exact ⟨ret_int (by first | rfl | rw [if_pos HP.out]), rfl⟩

end Order
end Go.Proofs.YtjmmhbmbafjneaaGreatDoor

/-
  Plain: what is said of a key, the latest first.
-/
namespace Go.Proofs.YtjmmhbmbafjneaaGreatDoor
namespace GetI

/-- The latest that is said of a key. -/
def getI {α : Type} [DecidableEq α] (D : List (α × Int)) (k : α) : Option Int := (D.find? fun p => decide (p.1 = k)).map (·.2)
theorem getI_nil {α : Type} [DecidableEq α] (k : α) : getI ([] : List (α × Int)) k = none := rfl
theorem getI_same {α : Type} [DecidableEq α] (D : List (α × Int)) (k : α) (v : Int) : getI ((k, v) :: D) k = some v := by simp [getI]
theorem getI_other {α : Type} [DecidableEq α] (D : List (α × Int)) {k k' : α} (v : Int) (h : k ≠ k') : getI ((k, v) :: D) k' = getI D k' := by simp [getI, h]
theorem getI_mem {α : Type} [DecidableEq α] {D : List (α × Int)} {k : α} {v : Int} (h : getI D k = some v) : (k, v) ∈ D := by
  unfold getI at h
  rw [Option.map_eq_some_iff] at h
  obtain ⟨p, hp, rfl⟩ := h
  have h1 := List.mem_of_find?_eq_some hp
  have h2 := List.find?_some hp
  simp only [decide_eq_true_eq] at h2
  rw [← h2]; exact h1
end GetI
end Go.Proofs.YtjmmhbmbafjneaaGreatDoor

/-
  Plain: what literals hang on. No program's function.
-/
namespace Go.Proofs.YtjmmhbmbafjneaaGreatDoor
open Go.RowKit Base
set_option linter.unusedVariables false
set_option linter.unusedSimpArgs false
namespace Circuit

/-- A variable that literals hang on (0 among them). -/
inductive Rch (ands : List Tri) (l : List Int) : Int → Prop
  | lit {t : Int} : t ∈ l → Rch ands l (var t)
  | left {v : Int} {g : Tri} : Rch ands l v → v ≠ 0 → gate ands v = some g → Rch ands l (var g.2.1)
  | right {v : Int} {g : Tri} : Rch ands l v → v ≠ 0 → gate ands v = some g → Rch ands l (var g.2.2)

/-- What is waited for: of variable 0, met, or in the list. -/
def Waits (T M : List Int) (o : Int) : Prop := var o = 0 ∨ var o ∈ M ∨ ∃ t ∈ T, var t = var o

structure ConeInv (ands : List Tri) (l T M : List Int) : Prop where
  nodup : M.Nodup
  met : ∀ v ∈ M, v ≠ 0 ∧ Rch ands l v
  todo : ∀ t ∈ T, Rch ands l (var t)
  lits : ∀ a ∈ l, Waits T M a
  gates : ∀ v ∈ M, ∀ g, gate ands v = some g → Waits T M g.2.1 ∧ Waits T M g.2.2
  few : T.length ≤ l.length + M.length

theorem cone_start (ands : List Tri) (l : List Int) : ConeInv ands l l [] :=
  ⟨List.nodup_nil, fun v h => by simp at h, fun t ht => .lit ht, fun a ha => Or.inr (Or.inr ⟨a, ha, rfl⟩), fun v h => by simp at h, by simp⟩

theorem waits_skip {T M : List Int} {t o : Int} (h : Waits (T ++ [t]) M o) (ht : var t = 0 ∨ var t ∈ M) : Waits T M o := by
  rcases h with h | h | ⟨u, hu, he⟩
  · exact Or.inl h
  · exact Or.inr (Or.inl h)
  · rw [List.mem_append, List.mem_singleton] at hu
    rcases hu with hu | rfl
    · exact Or.inr (Or.inr ⟨u, hu, he⟩)
    · rcases ht with h0 | hm
      · exact Or.inl (by rw [← he]; exact h0)
      · exact Or.inr (Or.inl (by rw [← he]; exact hm))

theorem cone_skip {ands : List Tri} {l T M : List Int} {t : Int} (h : ConeInv ands l (T ++ [t]) M) (ht : var t = 0 ∨ var t ∈ M) : ConeInv ands l T M :=
  ⟨h.nodup, h.met, fun u hu => h.todo u (List.mem_append_left _ hu), fun a ha => waits_skip (h.lits a ha) ht, fun v hv g hg => ⟨waits_skip (h.gates v hv g hg).1 ht, waits_skip (h.gates v hv g hg).2 ht⟩, by have := h.few; rw [List.length_append] at this; omega⟩

theorem waits_meet {T M : List Int} {t o : Int} (h : Waits (T ++ [t]) M o) (E : List Int) : Waits (T ++ E) (M ++ [var t]) o := by
  rcases h with h | h | ⟨u, hu, he⟩
  · exact Or.inl h
  · exact Or.inr (Or.inl (List.mem_append_left _ h))
  · rw [List.mem_append, List.mem_singleton] at hu
    rcases hu with hu | rfl
    · exact Or.inr (Or.inr ⟨u, List.mem_append_left _ hu, he⟩)
    · exact Or.inr (Or.inl (by rw [← he]; simp))

theorem cone_meet_none {ands : List Tri} {l T M : List Int} {t : Int} (h : ConeInv ands l (T ++ [t]) M) (h0 : var t ≠ 0) (hm : var t ∉ M) (hg : gate ands (var t) = none) : ConeInv ands l T (M ++ [var t]) := by
  have ht := h.todo t (by simp)
  have wm : ∀ o, Waits (T ++ [t]) M o → Waits T (M ++ [var t]) o := fun o ho => by
    have := waits_meet ho []
    rwa [List.append_nil] at this
  refine ⟨?_, fun v hv => ?_, fun u hu => h.todo u (List.mem_append_left _ hu), fun a ha => wm a (h.lits a ha), fun v hv g hgv => ?_, ?_⟩
  · rw [List.nodup_append]
    exact ⟨h.nodup, by simp, fun a ha b hb e => by rw [List.mem_singleton] at hb; subst hb; exact hm (e ▸ ha)⟩
  · rw [List.mem_append, List.mem_singleton] at hv
    rcases hv with hv | rfl
    · exact h.met v hv
    · exact ⟨h0, ht⟩
  · rw [List.mem_append, List.mem_singleton] at hv
    rcases hv with hv | rfl
    · exact ⟨wm _ (h.gates v hv g hgv).1, wm _ (h.gates v hv g hgv).2⟩
    · rw [hg] at hgv; cases hgv
  · have := h.few
    rw [List.length_append] at *
    simp only [List.length_singleton, List.length_cons, List.length_nil] at *
    omega

theorem cone_meet_some {ands : List Tri} {l T M : List Int} {t : Int} {g : Tri} (h : ConeInv ands l (T ++ [t]) M) (h0 : var t ≠ 0) (hm : var t ∉ M) (hg : gate ands (var t) = some g) : ConeInv ands l (T ++ [g.2.1, g.2.2]) (M ++ [var t]) := by
  have ht := h.todo t (by simp)
  refine ⟨?_, fun v hv => ?_, fun u hu => ?_, fun a ha => waits_meet (h.lits a ha) _, fun v hv g' hgv => ?_, ?_⟩
  · rw [List.nodup_append]
    exact ⟨h.nodup, by simp, fun a ha b hb e => by rw [List.mem_singleton] at hb; subst hb; exact hm (e ▸ ha)⟩
  · rw [List.mem_append, List.mem_singleton] at hv
    rcases hv with hv | rfl
    · exact h.met v hv
    · exact ⟨h0, ht⟩
  · rw [List.mem_append] at hu
    rcases hu with hu | hu
    · exact h.todo u (List.mem_append_left _ hu)
    · simp only [List.mem_cons, List.not_mem_nil, or_false] at hu
      rcases hu with rfl | rfl
      · exact .left ht h0 hg
      · exact .right ht h0 hg
  · rw [List.mem_append, List.mem_singleton] at hv
    rcases hv with hv | rfl
    · exact ⟨waits_meet (h.gates v hv g' hgv).1 _, waits_meet (h.gates v hv g' hgv).2 _⟩
    · rw [hg] at hgv
      simp only [Option.some.injEq] at hgv
      subst hgv
      exact ⟨Or.inr (Or.inr ⟨g.2.1, by simp, rfl⟩), Or.inr (Or.inr ⟨g.2.2, by simp, rfl⟩)⟩
  · have := h.few
    simp only [List.length_append, List.length_cons, List.length_nil] at *
    omega

/-- At the end what is met is what literals hang on. -/
theorem cone_end {ands : List Tri} {l M : List Int} (h : ConeInv ands l [] M) (v : Int) : v ∈ M ↔ v ≠ 0 ∧ Rch ands l v := by
  have hw : ∀ o, Waits [] M o → var o ≠ 0 → var o ∈ M := fun o ho h0 => by
    rcases ho with hz | hm | ⟨u, hu, _⟩
    · exact absurd hz h0
    · exact hm
    · simp at hu
  constructor
  · exact h.met v
  · rintro ⟨h0, hr⟩
    induction hr with
    | lit ht => exact hw _ (h.lits _ ht) h0
    | left hr' hv hg ih => exact hw _ (h.gates _ (ih hv) _ hg).1 h0
    | right hr' hv hg ih => exact hw _ (h.gates _ (ih hv) _ hg).2 h0

theorem nodup_len {M C : List Int} (hn : M.Nodup) (hs : ∀ v ∈ M, v ∈ C) : M.length ≤ C.length := by
  induction M generalizing C with
  | nil => simp
  | cons x r ih =>
    rw [List.nodup_cons] at hn
    have hx := hs x List.mem_cons_self
    have := ih hn.2 (C := C.erase x) (fun v hv => (List.mem_erase_of_ne (fun e => hn.1 (by rw [← e]; exact hv))).2 (hs v (List.mem_cons_of_mem _ hv)))
    rw [List.length_erase_of_mem hx] at this
    have hc : 0 < C.length := List.length_pos_of_mem hx
    rw [List.length_cons]
    omega

/-- All that may be met. -/
def cands (ands : List Tri) (l : List Int) : List Int := l.map var ++ ands.map (fun t => var t.2.1) ++ ands.map (fun t => var t.2.2)

theorem gate_mem {ands : List Tri} {v : Int} {g : Tri} (h : gate ands v = some g) : g ∈ ands := List.mem_of_find?_eq_some h

theorem rch_cand {ands : List Tri} {l : List Int} {v : Int} (h : Rch ands l v) : v ∈ cands ands l := by
  unfold cands
  rw [List.mem_append, List.mem_append]
  cases h with
  | lit ht => exact Or.inl (Or.inl (List.mem_map.2 ⟨_, ht, rfl⟩))
  | left hr hv hg => exact Or.inl (Or.inr (List.mem_map.2 ⟨_, gate_mem hg, rfl⟩))
  | right hr hv hg => exact Or.inr (List.mem_map.2 ⟨_, gate_mem hg, rfl⟩)

theorem cone_few {ands : List Tri} {l T M : List Int} (h : ConeInv ands l T M) : M.length ≤ l.length + 2 * ands.length := by
  have := nodup_len h.nodup (fun v hv => rch_cand (h.met v hv).2)
  unfold cands at this
  simp only [List.length_append, List.length_map] at this
  omega

/-- What hangs on it hangs on no more. -/
theorem rch_again {ands : List Tri} {l vs : List Int} (h : ∀ v, v ∈ vs ↔ v ≠ 0 ∧ Rch ands l v) (hv : ∀ v ∈ vs, 0 ≤ v) (v : Int) : (v ≠ 0 ∧ Rch ands (vs.map (2 * ·)) v) ↔ v ∈ vs := by
  have hvar : ∀ u ∈ vs, var (2 * u) = u := fun u hu => by have := hv u hu; unfold var; omega
  constructor
  · rintro ⟨h0, hr⟩
    induction hr with
    | lit ht =>
      obtain ⟨u, hu, rfl⟩ := List.mem_map.1 ht
      rw [hvar u hu]
      exact hu
    | left hr' hv' hg ih => exact (h _).2 ⟨h0, .left ((h _).1 (ih hv')).2 hv' hg⟩
    | right hr' hv' hg ih => exact (h _).2 ⟨h0, .right ((h _).1 (ih hv')).2 hv' hg⟩
  · intro hm
    refine ⟨((h v).1 hm).1, ?_⟩
    rw [← hvar v hm]
    exact .lit (List.mem_map.2 ⟨v, hm, rfl⟩)

end Circuit
end Go.Proofs.YtjmmhbmbafjneaaGreatDoor

/-
  Plain: a circuit, hashed: what stands for what, what is kept; that it does what it did. No program's function.
-/
namespace Go.Proofs.YtjmmhbmbafjneaaGreatDoor
open Go.RowKit Base
set_option linter.unusedVariables false
set_option linter.unusedSimpArgs false
namespace StrashP
open Circuit GetI

/-- A literal's opposite. -/
def notL (l : Int) : Int := if l < 0 then 1 else if l % 2 = 1 then l - 1 else l + 1
def posL (l : Int) : Int := max l 0
/-- What an and is that needs no gate. -/
def plainL (a b : Int) : Option Int :=
  if posL a = 0 ∨ posL b = 0 ∨ posL a = notL (posL b) then some 0
  else if posL a = 1 ∨ posL a = posL b then some (posL b)
  else if posL b = 1 then some (posL a) else none

structure St where
  S : List (Int × Int)
  M : List ((Int × Int) × Int)
  K : List Tri

/-- What stands for a literal. -/
def litS (S : List (Int × Int)) (l : Int) : Int :=
  match getI S (var l) with
  | some t => if neg l then notL t else t
  | none => l
def pairS (a b : Int) : Int × Int := (min a b, max a b)

def gateS (st : St) (t : Tri) : St :=
  match plainL (litS st.S t.2.1) (litS st.S t.2.2) with
  | some l => { st with S := (var t.1, l) :: st.S }
  | none => match getI st.M (pairS (litS st.S t.2.1) (litS st.S t.2.2)) with
    | some l => { st with S := (var t.1, l) :: st.S }
    | none => { st with M := (pairS (litS st.S t.2.1) (litS st.S t.2.2), t.1) :: st.M, K := st.K ++ [(t.1, litS st.S t.2.1, litS st.S t.2.2)] }
def foldG (ands : List Tri) : St := ands.foldl gateS ⟨[], [], []⟩
theorem foldG_snoc (A : List Tri) (t : Tri) : foldG (A ++ [t]) = gateS (foldG A) t := by unfold foldG; rw [List.foldl_append]; rfl

/-! ### Literals. -/
theorem var_not {s : Int} (h : 0 ≤ s) : var (notL s) = var s := by unfold var notL; split <;> (try split) <;> omega
theorem not_nn {s : Int} (h : 0 ≤ s) : 0 ≤ notL s := by unfold notL; split <;> (try split) <;> omega
theorem neg_not {s : Int} (h : 0 ≤ s) : neg (notL s) = !neg s := by
  unfold neg notL
  rw [if_neg (by omega)]
  by_cases h1 : s % 2 = 1
  · rw [if_pos h1, if_neg (by omega), if_neg (by omega)]
    have e1 : (s % 2 == 1) = true := by simp [h1]
    have e2 : ((s - 1) % 2 == 1) = false := by simp; omega
    rw [e1, e2]; rfl
  · rw [if_neg h1, if_neg (by omega), if_neg (by omega)]
    have e1 : (s % 2 == 1) = false := by simp; omega
    have e2 : ((s + 1) % 2 == 1) = true := by simp; omega
    rw [e1, e2]; rfl

/-- A literal's value. -/
def bitV (V : Int → Bool) (l : Int) : Bool := V (var l) != neg l
theorem bit_not (V : Int → Bool) {s : Int} (h : 0 ≤ s) : bitV V (notL s) = !bitV V s := by
  unfold bitV
  rw [var_not h, neg_not h]
  cases V (var s) <;> cases neg s <;> rfl
theorem bit_zero {V : Int → Bool} (h : V 0 = false) : bitV V 0 = false := by
  unfold bitV
  have e1 : var 0 = 0 := by decide
  have e2 : neg 0 = false := by decide
  rw [e1, e2, h]; rfl
theorem bit_one {V : Int → Bool} (h : V 0 = false) : bitV V 1 = true := by
  unfold bitV
  have e1 : var 1 = 0 := by decide
  have e2 : neg 1 = true := by decide
  rw [e1, e2, h]; rfl

theorem posL_eq {a : Int} (h : 0 ≤ a) : posL a = a := by unfold posL; omega
theorem plain_of {a b : Int} (ha : 0 ≤ a) (hb : 0 ≤ b) : plainL a b = if a = 0 ∨ b = 0 ∨ a = notL b then some 0 else if a = 1 ∨ a = b then some b else if b = 1 then some a else none := by
  unfold plainL; rw [posL_eq ha, posL_eq hb]
theorem plain_sem {V : Int → Bool} (h0 : V 0 = false) {a b r : Int} (ha : 0 ≤ a) (hb : 0 ≤ b) (h : plainL a b = some r) : bitV V r = (bitV V a && bitV V b) := by
  rw [plain_of ha hb] at h
  by_cases h1 : a = 0 ∨ b = 0 ∨ a = notL b
  · rw [if_pos h1] at h
    simp only [Option.some.injEq] at h
    subst h
    rw [bit_zero h0]
    rcases h1 with rfl | rfl | rfl
    · rw [bit_zero h0]; rfl
    · rw [bit_zero h0, Bool.and_false]
    · rw [bit_not V hb]; cases bitV V b <;> rfl
  · rw [if_neg h1] at h
    by_cases h2 : a = 1 ∨ a = b
    · rw [if_pos h2] at h
      simp only [Option.some.injEq] at h
      subst h
      rcases h2 with rfl | rfl
      · rw [bit_one h0, Bool.true_and]
      · rw [Bool.and_self]
    · rw [if_neg h2] at h
      by_cases h3 : b = 1
      · rw [if_pos h3] at h
        simp only [Option.some.injEq] at h
        subst h; subst h3
        rw [bit_one h0, Bool.and_true]
      · rw [if_neg h3] at h; cases h
theorem plain_res {a b r : Int} (ha : 0 ≤ a) (hb : 0 ≤ b) (h : plainL a b = some r) : r = 0 ∨ r = a ∨ r = b := by
  rw [plain_of ha hb] at h
  split at h
  · simp only [Option.some.injEq] at h; exact Or.inl h.symm
  · split at h
    · simp only [Option.some.injEq] at h; exact Or.inr (Or.inr h.symm)
    · split at h
      · simp only [Option.some.injEq] at h; exact Or.inr (Or.inl h.symm)
      · cases h
theorem notL_of {a : Int} (ha : 0 ≤ a) : notL a = if a % 2 = 1 then a - 1 else a + 1 := by unfold notL; rw [if_neg (by omega)]
theorem not_eq_iff {a b : Int} (ha : 0 ≤ a) (hb : 0 ≤ b) : a = notL b ↔ b = notL a := by
  rw [notL_of ha, notL_of hb]
  split <;> split <;> omega
theorem plain_comm {a b : Int} (ha : 0 ≤ a) (hb : 0 ≤ b) : plainL a b = plainL b a := by
  rw [plain_of ha hb, plain_of hb ha]
  by_cases h1 : a = 0 ∨ b = 0 ∨ a = notL b
  · have h2 : b = 0 ∨ a = 0 ∨ b = notL a := by
      rcases h1 with h | h | h
      · exact Or.inr (Or.inl h)
      · exact Or.inl h
      · exact Or.inr (Or.inr ((not_eq_iff ha hb).1 h))
    simp only [if_pos h1, if_pos h2]
  · have h2 : ¬ (b = 0 ∨ a = 0 ∨ b = notL a) := by
      rintro (h | h | h)
      · exact h1 (Or.inr (Or.inl h))
      · exact h1 (Or.inl h)
      · exact h1 (Or.inr (Or.inr ((not_eq_iff ha hb).2 h)))
    simp only [if_neg h1, if_neg h2]
    by_cases e : a = b
    · subst e; rfl
    · have e' : ¬ b = a := fun h => e h.symm
      by_cases e1 : a = 1
      · by_cases e2 : b = 1
        · exact absurd (e1.trans e2.symm) e
        · simp only [e1, e2, true_or, if_true]
          have : ¬ b = 1 := e2
          subst e1
          simp [e']
      · by_cases e2 : b = 1
        · subst e2
          simp [e1, e]
        · simp [e1, e2, e, e']
theorem pair_comm (a b : Int) : pairS a b = pairS b a := by unfold pairS; rw [Int.min_comm, Int.max_comm]

/-! ### The fold's invariant. -/
/-- The values are those of the gates. -/
def Sat (V : Int → Bool) (A : List Tri) : Prop := ∀ t ∈ A, V (var t.1) = (bitV V t.2.1 && bitV V t.2.2)
theorem Sat.left {V : Int → Bool} {A B : List Tri} (h : Sat V (A ++ B)) : Sat V A := fun t ht => h t (List.mem_append_left _ ht)

/-- A gate of rising literals. -/
def Fine (t : Tri) : Prop := 2 ≤ t.1 ∧ t.1 % 2 = 0 ∧ 0 ≤ t.2.1 ∧ t.2.1 < t.1 ∧ 0 ≤ t.2.2 ∧ t.2.2 < t.1
structure Ord (A : List Tri) : Prop where
  rise : A.Pairwise fun a b => a.1 < b.1
  fine : ∀ t ∈ A, Fine t

structure Inv (B : Int → Prop) (A : List Tri) (st : St) : Prop where
  dom : ∀ u s, getI st.S u = some s → (∃ t ∈ A, var t.1 = u) ∧ 0 ≤ s ∧ var s < u ∧ getI st.S (var s) = none ∧ (B (var s) ∨ ∃ k ∈ st.K, var k.1 = var s)
  kept : ∀ k ∈ st.K, Fine k ∧ getI st.S (var k.1) = none ∧ (getI st.S (var k.2.1) = none ∧ (B (var k.2.1) ∨ ∃ k' ∈ st.K, var k'.1 = var k.2.1)) ∧ (getI st.S (var k.2.2) = none ∧ (B (var k.2.2) ∨ ∃ k' ∈ st.K, var k'.1 = var k.2.2)) ∧
    plainL k.2.1 k.2.2 = none ∧ getI st.M (pairS k.2.1 k.2.2) = some k.1
  met : ∀ p l, getI st.M p = some l → ∃ k ∈ st.K, k.1 = l ∧ p = pairS k.2.1 k.2.2
  sub : (st.K.map (·.1)).Sublist (A.map (·.1))
  all : ∀ t ∈ A, (∃ s, getI st.S (var t.1) = some s) ∨ ∃ k ∈ st.K, k.1 = t.1
  at' : ∀ t ∈ A, (∀ r, plainL (litS st.S t.2.1) (litS st.S t.2.2) = some r → litS st.S t.1 = r) ∧
    (plainL (litS st.S t.2.1) (litS st.S t.2.2) = none → getI st.M (pairS (litS st.S t.2.1) (litS st.S t.2.2)) = some (litS st.S t.1))
  sem : ∀ V : Int → Bool, V 0 = false → Sat V A → (∀ u s, getI st.S u = some s → bitV V s = V u) ∧ Sat V st.K

theorem inv_nil (B : Int → Prop) : Inv B [] ⟨[], [], []⟩ :=
  ⟨fun u s h => (by cases h), fun k h => (by cases h), fun p l h => (by cases h), List.Sublist.refl _, fun t h => (by cases h), fun t h => (by cases h), fun V _ _ => ⟨fun u s h => (by cases h), fun k h => (by cases h)⟩⟩

theorem fine_neg {t : Tri} (h : Fine t) : neg t.1 = false := by
  unfold neg
  rw [if_neg (by have := h.1; omega)]
  have := h.2.1
  simp; omega

/-- What stands for a literal: it stands for itself. -/
theorem lit_facts {B : Int → Prop} {A : List Tri} {st : St} (h : Inv B A st) {l : Int} (hl : 0 ≤ l) (hb : B (var l) ∨ ∃ t ∈ A, var t.1 = var l) (hA : ∀ t ∈ A, Fine t) :
    0 ≤ litS st.S l ∧ var (litS st.S l) ≤ var l ∧ getI st.S (var (litS st.S l)) = none ∧ (B (var (litS st.S l)) ∨ ∃ k ∈ st.K, var k.1 = var (litS st.S l)) := by
  unfold litS
  cases hg : getI st.S (var l) with
  | none =>
    simp only
    refine ⟨hl, Int.le_refl _, hg, ?_⟩
    rcases hb with hb | ⟨t, ht, he⟩
    · exact Or.inl hb
    · rcases h.all t ht with ⟨s, hs⟩ | ⟨k, hk, hk1⟩
      · rw [he, hg] at hs; cases hs
      · exact Or.inr ⟨k, hk, by rw [hk1, he]⟩
  | some s =>
    simp only
    obtain ⟨_, h0, hv, hn, hbk⟩ := h.dom _ _ hg
    split
    · exact ⟨not_nn h0, by rw [var_not h0]; omega, by rw [var_not h0]; exact hn, by rw [var_not h0]; exact hbk⟩
    · exact ⟨h0, by omega, hn, hbk⟩

theorem lit_sem {B : Int → Prop} {A : List Tri} {st : St} (h : Inv B A st) {V : Int → Bool} (h0 : V 0 = false) (hs : Sat V A) (l : Int) : bitV V (litS st.S l) = bitV V l := by
  unfold litS
  cases hg : getI st.S (var l) with
  | none => rfl
  | some s =>
    simp only
    have h1 := (h.sem V h0 hs).1 _ _ hg
    have h2 := (h.dom _ _ hg).2.1
    cases hn : neg l
    · simp only [Bool.false_eq_true, if_false]
      rw [h1]; unfold bitV; rw [hn]; simp
    · simp only [if_true]
      rw [bit_not V h2, h1]; unfold bitV; rw [hn]; simp

theorem var_lt {t : Tri} (h : Fine t) {l : Int} (h0 : 0 ≤ l) (hl : l < t.1) : var l < var t.1 := by
  unfold var; have := h.1; have := h.2.1; omega
theorem lt_of_var {t : Tri} (h : Fine t) {l : Int} (h0 : 0 ≤ l) (hl : var l < var t.1) : l < t.1 := by
  unfold var at hl; have := h.1; have := h.2.1; omega

/-- A literal is as before, where one more variable is said of. -/
theorem lit_more (S : List (Int × Int)) (u s : Int) {l : Int} (h : var l ≠ u) : litS ((u, s) :: S) l = litS S l := by
  unfold litS
  rw [getI_other S s (fun e => h e.symm)]

theorem inv_stands {B : Int → Prop} {A : List Tri} {st : St} (h : Inv B A st) {t : Tri} (ht : Fine t) (hlt : ∀ t' ∈ A, t'.1 < t.1) (hA : ∀ t' ∈ A, Fine t') (hB : ¬ B (var t.1))
    (hl : B (var t.2.1) ∨ ∃ t' ∈ A, var t'.1 = var t.2.1) (hr : B (var t.2.2) ∨ ∃ t' ∈ A, var t'.1 = var t.2.2) (s : Int) (hs0 : 0 ≤ s) (hsv : var s < var t.1) (hsn : getI st.S (var s) = none) (hsb : B (var s) ∨ ∃ k ∈ st.K, var k.1 = var s)
    (hat : (∀ r, plainL (litS st.S t.2.1) (litS st.S t.2.2) = some r → s = r) ∧ (plainL (litS st.S t.2.1) (litS st.S t.2.2) = none → getI st.M (pairS (litS st.S t.2.1) (litS st.S t.2.2)) = some s))
    (hsem : ∀ V : Int → Bool, V 0 = false → Sat V A → bitV V s = (bitV V (litS st.S t.2.1) && bitV V (litS st.S t.2.2))) : Inv B (A ++ [t]) { st with S := (var t.1, s) :: st.S } := by
  have hvA : ∀ t' ∈ A, var t'.1 < var t.1 := fun t' h' => var_lt ht (by have := (hA t' h').1; omega) (hlt t' h')
  have hvl : var t.2.1 < var t.1 := var_lt ht ht.2.2.1 ht.2.2.2.1
  have hvr : var t.2.2 < var t.1 := var_lt ht ht.2.2.2.2.1 ht.2.2.2.2.2
  have hkA : ∀ k ∈ st.K, ∃ t' ∈ A, t'.1 = k.1 := fun k hk => by
    have := h.sub.subset (List.mem_map.2 ⟨k, hk, rfl⟩)
    obtain ⟨t', h1, h2⟩ := List.mem_map.1 this
    exact ⟨t', h1, h2⟩
  have hkv : ∀ k ∈ st.K, var k.1 < var t.1 := fun k hk => by
    obtain ⟨t', h1, h2⟩ := hkA k hk
    rw [← h2]; exact hvA t' h1
  have keep : ∀ u, u < var t.1 → getI ((var t.1, s) :: st.S) u = getI st.S u := fun u hu => getI_other _ _ (by omega)
  refine ⟨?_, ?_, h.met, ?_, ?_, ?_, ?_⟩
  · intro u s' hg
    by_cases hu : var t.1 = u
    · subst hu
      simp only at hg
      rw [getI_same] at hg
      simp only [Option.some.injEq] at hg
      subst hg
      exact ⟨⟨t, by simp, rfl⟩, hs0, hsv, by simp only; rw [keep _ hsv]; exact hsn, hsb⟩
    · simp only at hg
      rw [getI_other _ _ hu] at hg
      obtain ⟨⟨t', h1, h2⟩, h3, h4, h5, h6⟩ := h.dom u s' hg
      have := hvA t' h1
      exact ⟨⟨t', List.mem_append_left _ h1, h2⟩, h3, h4, by simp only; rw [keep _ (by omega)]; exact h5, h6⟩
  · intro k hk
    obtain ⟨h1, h2, ⟨h3, h4⟩, ⟨h5, h6⟩, h7, h8⟩ := h.kept k hk
    have hv := hkv k hk
    have hv1 := var_lt h1 h1.2.2.1 h1.2.2.2.1
    have hv2 := var_lt h1 h1.2.2.2.2.1 h1.2.2.2.2.2
    exact ⟨h1, by simp only; rw [keep _ hv]; exact h2, ⟨by simp only; rw [keep _ (by omega)]; exact h3, h4⟩, ⟨by simp only; rw [keep _ (by omega)]; exact h5, h6⟩, h7, h8⟩
  · rw [List.map_append]
    exact h.sub.trans (List.sublist_append_left _ _)
  · intro t' ht'
    rcases List.mem_append.1 ht' with h1 | h1
    · rcases h.all t' h1 with ⟨s', hs'⟩ | hk
      · exact Or.inl ⟨s', by simp only; rw [keep _ (hvA t' h1)]; exact hs'⟩
      · exact Or.inr hk
    · rw [List.mem_singleton] at h1
      subst h1
      exact Or.inl ⟨s, getI_same _ _ _⟩
  · intro t' ht'
    simp only
    rcases List.mem_append.1 ht' with h1 | h1
    · have hf := hA t' h1
      have hv := hvA t' h1
      have hv1 := var_lt hf hf.2.2.1 hf.2.2.2.1
      have hv2 := var_lt hf hf.2.2.2.2.1 hf.2.2.2.2.2
      rw [lit_more st.S _ _ (by omega), lit_more st.S _ _ (by omega), lit_more st.S _ _ (by omega)]
      exact h.at' t' h1
    · rw [List.mem_singleton] at h1
      subst h1
      rw [lit_more st.S _ _ (by omega), lit_more st.S _ _ (by omega)]
      have e : litS ((var t'.1, s) :: st.S) t'.1 = s := by
        unfold litS
        rw [getI_same]
        simp only [fine_neg ht, Bool.false_eq_true, if_false]
      rw [e]
      exact hat
  · intro V h0 hsat
    have hsA := hsat.left
    obtain ⟨g1, g2⟩ := h.sem V h0 hsA
    refine ⟨?_, g2⟩
    intro u s' hg
    by_cases hu : var t.1 = u
    · subst hu
      simp only at hg
      rw [getI_same] at hg
      simp only [Option.some.injEq] at hg
      subst hg
      rw [hsem V h0 hsA, lit_sem h h0 hsA, lit_sem h h0 hsA]
      exact (hsat t (by simp)).symm
    · simp only at hg
      rw [getI_other _ _ hu] at hg
      exact g1 u s' hg

theorem inv_kept {B : Int → Prop} {A : List Tri} {st : St} (h : Inv B A st) {t : Tri} (ht : Fine t) (hlt : ∀ t' ∈ A, t'.1 < t.1) (hA : ∀ t' ∈ A, Fine t') (hB : ¬ B (var t.1))
    (hl : B (var t.2.1) ∨ ∃ t' ∈ A, var t'.1 = var t.2.1) (hr : B (var t.2.2) ∨ ∃ t' ∈ A, var t'.1 = var t.2.2)
    (hp : plainL (litS st.S t.2.1) (litS st.S t.2.2) = none) (hm : getI st.M (pairS (litS st.S t.2.1) (litS st.S t.2.2)) = none) :
    Inv B (A ++ [t]) { st with M := (pairS (litS st.S t.2.1) (litS st.S t.2.2), t.1) :: st.M, K := st.K ++ [(t.1, litS st.S t.2.1, litS st.S t.2.2)] } := by
  have hvA : ∀ t' ∈ A, var t'.1 < var t.1 := fun t' h' => var_lt ht (by have := (hA t' h').1; omega) (hlt t' h')
  have hvl : var t.2.1 < var t.1 := var_lt ht ht.2.2.1 ht.2.2.2.1
  have hvr : var t.2.2 < var t.1 := var_lt ht ht.2.2.2.2.1 ht.2.2.2.2.2
  obtain ⟨a0, a1, a2, a3⟩ := lit_facts h ht.2.2.1 hl hA
  obtain ⟨b0, b1, b2, b3⟩ := lit_facts h ht.2.2.2.2.1 hr hA
  have hself : getI st.S (var t.1) = none := by
    cases hg : getI st.S (var t.1) with
    | none => rfl
    | some s =>
      obtain ⟨⟨t', h1, h2⟩, _⟩ := h.dom _ _ hg
      have := hvA t' h1
      omega
  have hkA : ∀ k ∈ st.K, ∃ t' ∈ A, t'.1 = k.1 := fun k hk => by
    have := h.sub.subset (List.mem_map.2 ⟨k, hk, rfl⟩)
    obtain ⟨t', h1, h2⟩ := List.mem_map.1 this
    exact ⟨t', h1, h2⟩
  have hmore : ∀ v, (B v ∨ ∃ k ∈ st.K, var k.1 = v) → (B v ∨ ∃ k ∈ st.K ++ [(t.1, litS st.S t.2.1, litS st.S t.2.2)], var k.1 = v) := by
    rintro v (hb | ⟨k, hk, he⟩)
    · exact Or.inl hb
    · exact Or.inr ⟨k, List.mem_append_left _ hk, he⟩
  have hkeep : ∀ p l, getI st.M p = some l → getI ((pairS (litS st.S t.2.1) (litS st.S t.2.2), t.1) :: st.M) p = some l := by
    intro p l hg
    rw [getI_other _ _ (by rintro rfl; rw [hm] at hg; cases hg)]
    exact hg
  refine ⟨?_, ?_, ?_, ?_, ?_, ?_, ?_⟩
  · intro u s' hg
    obtain ⟨⟨t', h1, h2⟩, h3, h4, h5, h6⟩ := h.dom u s' hg
    exact ⟨⟨t', List.mem_append_left _ h1, h2⟩, h3, h4, h5, hmore _ h6⟩
  · intro k hk
    rcases List.mem_append.1 hk with h1 | h1
    · obtain ⟨g1, g2, ⟨g3, g4⟩, ⟨g5, g6⟩, g7, g8⟩ := h.kept k h1
      exact ⟨g1, g2, ⟨g3, hmore _ g4⟩, ⟨g5, hmore _ g6⟩, g7, hkeep _ _ g8⟩
    · rw [List.mem_singleton] at h1
      subst h1
      have q1 : litS st.S t.2.1 < t.1 := lt_of_var ht a0 (by omega)
      have q2 : litS st.S t.2.2 < t.1 := lt_of_var ht b0 (by omega)
      exact ⟨⟨ht.1, ht.2.1, a0, q1, b0, q2⟩, hself, ⟨a2, hmore _ a3⟩, ⟨b2, hmore _ b3⟩, hp, getI_same _ _ _⟩
  · intro p l hg
    simp only at hg
    by_cases he : pairS (litS st.S t.2.1) (litS st.S t.2.2) = p
    · subst he
      rw [getI_same] at hg
      simp only [Option.some.injEq] at hg
      exact ⟨(t.1, litS st.S t.2.1, litS st.S t.2.2), by simp, hg, rfl⟩
    · rw [getI_other _ _ he] at hg
      obtain ⟨k, hk, g1, g2⟩ := h.met p l hg
      exact ⟨k, List.mem_append_left _ hk, g1, g2⟩
  · rw [List.map_append, List.map_append]
    exact h.sub.append (List.Sublist.refl _)
  · intro t' ht'
    rcases List.mem_append.1 ht' with h1 | h1
    · rcases h.all t' h1 with hs | ⟨k, hk, he⟩
      · exact Or.inl hs
      · exact Or.inr ⟨k, List.mem_append_left _ hk, he⟩
    · rw [List.mem_singleton] at h1
      subst h1
      exact Or.inr ⟨_, List.mem_append_right _ (List.mem_singleton.2 rfl), rfl⟩
  · intro t' ht'
    simp only
    rcases List.mem_append.1 ht' with h1 | h1
    · exact ⟨(h.at' t' h1).1, fun hn => hkeep _ _ ((h.at' t' h1).2 hn)⟩
    · rw [List.mem_singleton] at h1
      subst h1
      refine ⟨fun r hr' => (by rw [hp] at hr'; cases hr'), fun _ => ?_⟩
      rw [getI_same]
      unfold litS
      rw [hself]
  · intro V h0 hsat
    have hsA := hsat.left
    obtain ⟨g1, g2⟩ := h.sem V h0 hsA
    refine ⟨g1, fun k hk => ?_⟩
    rcases List.mem_append.1 hk with h1 | h1
    · exact g2 k h1
    · rw [List.mem_singleton] at h1
      subst h1
      show V (var t.1) = (bitV V (litS st.S t.2.1) && bitV V (litS st.S t.2.2))
      rw [lit_sem h h0 hsA, lit_sem h h0 hsA]
      exact hsat t (by simp)

theorem inv_gate {B : Int → Prop} {A : List Tri} {st : St} (hB0 : B 0) (h : Inv B A st) {t : Tri} (ht : Fine t) (hlt : ∀ t' ∈ A, t'.1 < t.1) (hA : ∀ t' ∈ A, Fine t') (hB : ¬ B (var t.1))
    (hl : B (var t.2.1) ∨ ∃ t' ∈ A, var t'.1 = var t.2.1) (hr : B (var t.2.2) ∨ ∃ t' ∈ A, var t'.1 = var t.2.2) : Inv B (A ++ [t]) (gateS st t) := by
  have hvl : var t.2.1 < var t.1 := var_lt ht ht.2.2.1 ht.2.2.2.1
  have hvr : var t.2.2 < var t.1 := var_lt ht ht.2.2.2.2.1 ht.2.2.2.2.2
  obtain ⟨a0, a1, a2, a3⟩ := lit_facts h ht.2.2.1 hl hA
  obtain ⟨b0, b1, b2, b3⟩ := lit_facts h ht.2.2.2.2.1 hr hA
  unfold gateS
  cases hp : plainL (litS st.S t.2.1) (litS st.S t.2.2) with
  | some r =>
    simp only
    have hz : getI st.S (0 : Int) = none := by
      cases hg : getI st.S (0 : Int) with
      | none => rfl
      | some s =>
        obtain ⟨⟨t', h1, h2⟩, _⟩ := h.dom _ _ hg
        have := (hA t' h1).1
        unfold var at h2
        omega
    have hv0 : var (0 : Int) = 0 := by decide
    have hpos : 0 < var t.1 := by have := ht.1; unfold var; omega
    have hres : 0 ≤ r ∧ var r < var t.1 ∧ getI st.S (var r) = none ∧ (B (var r) ∨ ∃ k ∈ st.K, var k.1 = var r) := by
      rcases plain_res a0 b0 hp with rfl | rfl | rfl
      · rw [hv0]; exact ⟨Int.le_refl _, hpos, hz, Or.inl hB0⟩
      · exact ⟨a0, by omega, a2, a3⟩
      · exact ⟨b0, by omega, b2, b3⟩
    exact inv_stands h ht hlt hA hB hl hr r hres.1 hres.2.1 hres.2.2.1 hres.2.2.2 ⟨fun r' hr' => by rw [hp] at hr'; simpa using hr', fun hn => (by rw [hp] at hn; cases hn)⟩
      (fun V h0 _ => plain_sem h0 a0 b0 hp)
  | none =>
    simp only
    cases hm : getI st.M (pairS (litS st.S t.2.1) (litS st.S t.2.2)) with
    | some l =>
      simp only
      obtain ⟨k, hk, rfl, hpk⟩ := h.met _ _ hm
      obtain ⟨g1, g2, ⟨g3, g4⟩, ⟨g5, g6⟩, g7, g8⟩ := h.kept k hk
      have hkA : ∃ t' ∈ A, t'.1 = k.1 := by
        have := h.sub.subset (List.mem_map.2 ⟨k, hk, rfl⟩)
        obtain ⟨t', h1, h2⟩ := List.mem_map.1 this
        exact ⟨t', h1, h2⟩
      obtain ⟨t', h1, h2⟩ := hkA
      refine inv_stands h ht hlt hA hB hl hr k.1 (by have := g1.1; omega) (by rw [← h2]; exact var_lt ht (by have := (hA t' h1).1; omega) (hlt t' h1)) g2 (Or.inr ⟨k, hk, rfl⟩)
        ⟨fun r' hr' => (by rw [hp] at hr'; cases hr'), fun _ => hm⟩ ?_
      intro V h0 hsA
      have hsk := (h.sem V h0 hsA).2 k hk
      have e1 : bitV V k.1 = V (var k.1) := by unfold bitV; rw [fine_neg g1]; simp
      rw [e1, hsk]
      unfold pairS at hpk
      simp only [Prod.mk.injEq] at hpk
      have hor : (litS st.S t.2.1 = k.2.1 ∧ litS st.S t.2.2 = k.2.2) ∨ (litS st.S t.2.1 = k.2.2 ∧ litS st.S t.2.2 = k.2.1) := by omega
      rcases hor with ⟨e1, e2⟩ | ⟨e1, e2⟩
      · rw [e1, e2]
      · rw [e1, e2, Bool.and_comm]
    | none => exact inv_kept h ht hlt hA hB hl hr hp hm

/-- All operands are something: a base's variable or a gate's ahead. -/
def Known (B : Int → Prop) (A : List Tri) : Prop := ∀ t ∈ A, (B (var t.2.1) ∨ ∃ t' ∈ A, var t'.1 = var t.2.1) ∧ (B (var t.2.2) ∨ ∃ t' ∈ A, var t'.1 = var t.2.2)

theorem inv_fold {B : Int → Prop} (hB0 : B 0) : ∀ (n : Nat) (A : List Tri), A.length = n → Ord A → (∀ t ∈ A, ¬ B (var t.1)) → Known B A → Inv B A (foldG A)
  | 0, A, hn, _, _, _ => by
    have : A = [] := List.eq_nil_of_length_eq_zero hn
    subst this
    exact inv_nil B
  | n + 1, A, hn, ho, hb, hk => by
    obtain ⟨A', t, rfl⟩ : ∃ A' t, A = A' ++ [t] := by
      rcases List.eq_nil_or_concat A with rfl | ⟨A', t, h⟩
      · simp at hn
      · exact ⟨A', t, by rw [h, List.concat_eq_append]⟩
    have hrise := List.pairwise_append.1 ho.rise
    have hlt : ∀ t' ∈ A', t'.1 < t.1 := fun t' ht' => hrise.2.2 t' ht' t (by simp)
    have hft := ho.fine t (by simp)
    have hA : ∀ t' ∈ A', Fine t' := fun t' ht' => ho.fine t' (List.mem_append_left _ ht')
    have hback : ∀ {l : Int}, 0 ≤ l → (u : Tri) → u ∈ A' ++ [t] → Fine u → l < u.1 → (B (var l) ∨ ∃ t' ∈ A' ++ [t], var t'.1 = var l) → (B (var l) ∨ ∃ t' ∈ A', var t'.1 = var l) := by
      intro l h0 u hu hfu hlu h
      rcases h with h | ⟨t', ht', he⟩
      · exact Or.inl h
      · rcases List.mem_append.1 ht' with h1 | h1
        · exact Or.inr ⟨t', h1, he⟩
        · rw [List.mem_singleton] at h1
          subst h1
          have h2 := var_lt hfu h0 hlu
          have h3 : var u.1 ≤ var t'.1 := by
            rcases List.mem_append.1 hu with h4 | h4
            · have := var_lt hft (by have := (hA u h4).1; omega) (hlt u h4); omega
            · rw [List.mem_singleton] at h4; rw [h4]; exact Int.le_refl _
          omega
    have hk' : Known B A' := fun t' ht' => by
      have hf := hA t' ht'
      obtain ⟨h1, h2⟩ := hk t' (List.mem_append_left _ ht')
      exact ⟨hback hf.2.2.1 t' (List.mem_append_left _ ht') hf hf.2.2.2.1 h1, hback hf.2.2.2.2.1 t' (List.mem_append_left _ ht') hf hf.2.2.2.2.2 h2⟩
    have ih := inv_fold hB0 n A' (by simp at hn; omega) ⟨hrise.1, hA⟩ (fun t' ht' => hb t' (List.mem_append_left _ ht')) hk'
    obtain ⟨h1, h2⟩ := hk t (by simp)
    rw [foldG_snoc]
    exact inv_gate hB0 ih hft hlt hA (hb t (by simp)) (hback hft.2.2.1 t (by simp) hft hft.2.2.2.1 h1) (hback hft.2.2.2.2.1 t (by simp) hft hft.2.2.2.2.2 h2)
end StrashP
end Go.Proofs.YtjmmhbmbafjneaaGreatDoor

/-
  Plain: a circuit that may be, hashed, may be; its gates are not plain and differ; hashed again it stays; it tells what it told.
-/
namespace Go.Proofs.YtjmmhbmbafjneaaGreatDoor
open Go.RowKit Base
set_option linter.unusedVariables false
set_option linter.unusedSimpArgs false
namespace StrashP
open Circuit GetI

theorem ownOk_iff {most : Int} {own : List Int} : OwnOk most own ↔ (∀ m ∈ own, 2 ≤ m ∧ neg m = false ∧ var m ≤ most) ∧ (own.map var).Nodup := by
  constructor
  · intro h
    refine ⟨fun m hm => ?_, ?_⟩
    · obtain ⟨j, hj, rfl⟩ := List.mem_iff_getElem.1 hm
      obtain ⟨h1, h2, h3, _⟩ := h j hj
      exact ⟨h1, h2, h3⟩
    · rw [List.Nodup, List.pairwise_iff_getElem]
      intro i j hi hj hij e
      rw [List.length_map] at hi hj
      simp only [List.getElem_map] at e
      refine (h j hj).2.2.2 (List.mem_map.2 ⟨own[i], ?_, e⟩)
      rw [List.mem_take_iff_getElem]
      exact ⟨i, by omega, rfl⟩
  · rintro ⟨h1, h2⟩ j hj
    obtain ⟨g1, g2, g3⟩ := h1 own[j] (List.getElem_mem hj)
    refine ⟨g1, g2, g3, fun hm => ?_⟩
    obtain ⟨a, ha, he⟩ := List.mem_map.1 hm
    rw [List.mem_take_iff_getElem] at ha
    obtain ⟨i, hi, rfl⟩ := ha
    rw [List.Nodup, List.pairwise_iff_getElem] at h2
    exact h2 i j (by simp; omega) (by simp; omega) (by omega) (by simp only [List.getElem_map]; exact he)

theorem pairwise_adj {l : List Tri} (h : ∀ j (hj : j + 1 < l.length), (l[j]'(by omega)).1 < l[j + 1].1) : l.Pairwise fun a b => a.1 < b.1 := by
  rw [List.pairwise_iff_getElem]
  intro i j hi hj hij
  obtain ⟨d, rfl⟩ : ∃ d, j = i + 1 + d := ⟨j - i - 1, by omega⟩
  induction d with
  | zero => exact h i hj
  | succ d ih =>
    have h1 := ih (by omega) (by omega)
    have h2 := h (i + 1 + d) (by omega)
    have e : i + 1 + d + 1 = i + 1 + (d + 1) := by omega
    simp only [e] at h2
    omega

/-- A base's variable: 0, an input's, a latch's. -/
def baseV (x : Circ) (v : Int) : Prop := v = 0 ∨ v ∈ x.ins.map var ∨ v ∈ (x.lats.map (·.1)).map var

theorem neg_even {m : Int} (h : 2 ≤ m) (hn : neg m = false) : m % 2 = 0 := by
  unfold neg at hn
  rw [if_neg (by omega)] at hn
  simp at hn; omega

theorem ord_of {x : Circ} (h : CheckOk x) : Ord x.ands := by
  obtain ⟨hf, ⟨hd, hr, hs⟩, hl, ha, _⟩ := h
  refine ⟨pairwise_adj hs, fun t ht => ?_⟩
  obtain ⟨g1, g2, g3⟩ := (ownOk_iff.1 hd).1 t.1 (by unfold ownL; exact List.mem_append_right _ (List.mem_map.2 ⟨t, ht, rfl⟩))
  obtain ⟨k1, k2, k3, k4⟩ := ha t ht
  exact ⟨g1, neg_even g1 g2, k1.1, k3, k2.1, k4⟩

theorem known_base {x : Circ} {l : Int} (h : knownV (vsOf x) l) : 0 ≤ l ∧ (baseV x (var l) ∨ ∃ t ∈ x.ands, var t.1 = var l) := by
  obtain ⟨h0, h | h⟩ := h
  · exact ⟨h0, Or.inl (Or.inl (by unfold var; omega))⟩
  · refine ⟨h0, ?_⟩
    unfold vsOf ownL at h
    rw [List.map_append, List.map_append, List.mem_append, List.mem_append] at h
    rcases h with (h | h) | h
    · exact Or.inl (Or.inr (Or.inl h))
    · exact Or.inl (Or.inr (Or.inr h))
    · right
      obtain ⟨m, hm, he⟩ := List.mem_map.1 h
      obtain ⟨t, ht, rfl⟩ := List.mem_map.1 hm
      exact ⟨t, ht, he⟩

theorem base_not {x : Circ} (h : CheckOk x) : ∀ t ∈ x.ands, ¬ baseV x (var t.1) := by
  intro t ht hb
  have hfine := (ord_of h).fine t ht
  have hn := (ownOk_iff.1 h.2.1.1).2
  unfold ownL at hn
  rw [List.map_append, List.nodup_append] at hn
  have hmem : var t.1 ∈ (x.ands.map (·.1)).map var := List.mem_map.2 ⟨t.1, List.mem_map.2 ⟨t, ht, rfl⟩, rfl⟩
  rcases hb with hb | hb | hb
  · have := hfine.1; unfold var at hb; omega
  · exact hn.2.2 _ (by rw [List.map_append]; exact List.mem_append_left _ hb) _ hmem rfl
  · exact hn.2.2 _ (by rw [List.map_append]; exact List.mem_append_right _ hb) _ hmem rfl

theorem inv_of {x : Circ} (h : CheckOk x) : Inv (baseV x) x.ands (foldG x.ands) := by
  refine inv_fold (Or.inl rfl) _ _ rfl (ord_of h) (base_not h) fun t ht => ?_
  obtain ⟨k1, k2, _, _⟩ := h.2.2.2.1 t ht
  exact ⟨(known_base k1).2, (known_base k2).2⟩

def stOf (x : Circ) : St := foldG x.ands
/-- A circuit, all its gates replaced. -/
def mid (x : Circ) : Circ := { x with lats := x.lats.map fun t => (t.1, litS (stOf x).S t.2.1, t.2.2), outs := x.outs.map (litS (stOf x).S), bads := x.bads.map (litS (stOf x).S), invs := x.invs.map (litS (stOf x).S), ands := (stOf x).K }
def told (x : Circ) : List Int := x.lats.map (·.2.1) ++ x.outs ++ x.bads ++ x.invs
noncomputable def wants (x : Circ) (t : Tri) : Bool := tt (Rch (mid x).ands (told (mid x)) (var t.1))
/-- A circuit, hashed. -/
noncomputable def hashed (x : Circ) : Circ := { mid x with ands := (stOf x).K.filter (wants x) }

theorem told_lit {x : Circ} {l : Int} (hl : l ∈ told (mid x)) : ∃ m ∈ told x, l = litS (stOf x).S m := by
  unfold told at hl ⊢
  simp only [List.mem_append] at hl ⊢
  rcases hl with ((hl | hl) | hl) | hl
  · obtain ⟨t, ht, rfl⟩ := List.mem_map.1 hl
    obtain ⟨t', ht', rfl⟩ := List.mem_map.1 ht
    exact ⟨t'.2.1, Or.inl (Or.inl (Or.inl (List.mem_map.2 ⟨t', ht', rfl⟩))), rfl⟩
  · obtain ⟨m, hm, rfl⟩ := List.mem_map.1 hl
    exact ⟨m, Or.inl (Or.inl (Or.inr hm)), rfl⟩
  · obtain ⟨m, hm, rfl⟩ := List.mem_map.1 hl
    exact ⟨m, Or.inl (Or.inr hm), rfl⟩
  · obtain ⟨m, hm, rfl⟩ := List.mem_map.1 hl
    exact ⟨m, Or.inr hm, rfl⟩
theorem lit_told {x : Circ} {m : Int} (hm : m ∈ told x) : litS (stOf x).S m ∈ told (mid x) := by
  unfold told at hm ⊢
  simp only [List.mem_append] at hm ⊢
  rcases hm with ((hm | hm) | hm) | hm
  · obtain ⟨t, ht, rfl⟩ := List.mem_map.1 hm
    exact Or.inl (Or.inl (Or.inl (List.mem_map.2 ⟨_, List.mem_map.2 ⟨t, ht, rfl⟩, rfl⟩)))
  · exact Or.inl (Or.inl (Or.inr (List.mem_map.2 ⟨m, hm, rfl⟩)))
  · exact Or.inl (Or.inr (List.mem_map.2 ⟨m, hm, rfl⟩))
  · exact Or.inr (List.mem_map.2 ⟨m, hm, rfl⟩)
theorem told_known {x : Circ} (h : CheckOk x) {m : Int} (hm : m ∈ told x) : knownV (vsOf x) m := by
  obtain ⟨_, _, hl, _, ho, hb, hv, _⟩ := h
  unfold told at hm
  simp only [List.mem_append] at hm
  rcases hm with ((hm | hm) | hm) | hm
  · obtain ⟨t, ht, rfl⟩ := List.mem_map.1 hm
    exact hl t ht
  · exact ho m hm
  · exact hb m hm
  · exact hv m hm
theorem told_facts {x : Circ} (h : CheckOk x) {l : Int} (hl : l ∈ told (mid x)) :
    0 ≤ l ∧ getI (stOf x).S (var l) = none ∧ (baseV x (var l) ∨ ∃ k ∈ (stOf x).K, var k.1 = var l) := by
  obtain ⟨m, hm, rfl⟩ := told_lit hl
  obtain ⟨h0, hb⟩ := known_base (told_known h hm)
  have := lit_facts (inv_of h) h0 hb (ord_of h).fine
  exact ⟨this.1, this.2.2⟩

theorem gate_of {A : List Tri} {v : Int} {g : Tri} (h : gate A v = some g) : g ∈ A ∧ 0 ≤ g.1 ∧ var g.1 = v := by
  refine ⟨gate_mem h, ?_⟩
  have := List.find?_some h
  simp only [Bool.and_eq_true, decide_eq_true_eq] at this
  exact this
theorem kOrd {x : Circ} (h : CheckOk x) : Ord (stOf x).K := by
  have hi := inv_of h
  refine ⟨?_, fun k hk => (hi.kept k hk).1⟩
  have h1 : (x.ands.map (·.1)).Pairwise (· < ·) := by rw [List.pairwise_map]; exact (ord_of h).rise
  have h2 := List.Pairwise.sublist hi.sub h1
  rw [List.pairwise_map] at h2
  exact h2
theorem ord_same {A : List Tri} (h : Ord A) {a b : Tri} (ha : a ∈ A) (hb : b ∈ A) (e : var a.1 = var b.1) : a = b := by
  obtain ⟨i, hi, rfl⟩ := List.mem_iff_getElem.1 ha
  obtain ⟨j, hj, rfl⟩ := List.mem_iff_getElem.1 hb
  have hr := List.pairwise_iff_getElem.1 h.rise
  have f1 := h.fine _ ha
  have f2 := h.fine _ hb
  have e' : A[i].1 = A[j].1 := by
    have := f1.1; have := f1.2.1; have := f2.1; have := f2.2.1
    unfold var at e; omega
  rcases Nat.lt_trichotomy i j with hij | hij | hij
  · have := hr i j hi hj hij; omega
  · subst hij; rfl
  · have := hr j i hj hi hij; omega
theorem gate_ord {A : List Tri} (h : Ord A) {g : Tri} (hg : g ∈ A) : gate A (var g.1) = some g := by
  cases hq : gate A (var g.1) with
  | none =>
    unfold gate at hq
    rw [List.find?_eq_none] at hq
    have := hq g hg
    have := (h.fine g hg).1
    simp at *
    omega
  | some g' =>
    obtain ⟨h1, _, h3⟩ := gate_of hq
    rw [ord_same h h1 hg h3]
theorem Ord.filter {A : List Tri} (h : Ord A) (p : Tri → Bool) : Ord (A.filter p) := ⟨h.rise.filter p, fun t ht => h.fine t (List.mem_filter.1 ht).1⟩

theorem rch_known {x : Circ} (h : CheckOk x) {v : Int} (hv : Rch (stOf x).K (told (mid x)) v) : getI (stOf x).S v = none ∧ (baseV x v ∨ ∃ k ∈ (stOf x).K, var k.1 = v) := by
  have hi := inv_of h
  cases hv with
  | lit ht => exact (told_facts h ht).2
  | left hr h0 hg =>
    obtain ⟨h1, _, _⟩ := gate_of hg
    exact (hi.kept _ h1).2.2.1
  | right hr h0 hg =>
    obtain ⟨h1, _, _⟩ := gate_of hg
    exact (hi.kept _ h1).2.2.2.1

theorem fands {x : Circ} {t : Tri} : t ∈ (hashed x).ands ↔ t ∈ (stOf x).K ∧ Rch (stOf x).K (told (mid x)) (var t.1) := by
  show t ∈ (stOf x).K.filter (wants x) ↔ _
  rw [List.mem_filter]
  unfold wants
  rw [tt_iff]
  exact Iff.rfl
theorem fOrd {x : Circ} (h : CheckOk x) : Ord (hashed x).ands := (kOrd h).filter _

/-- What hangs on it hangs on it without the rest. -/
theorem rch_less {x : Circ} (h : CheckOk x) {v : Int} (hv : Rch (stOf x).K (told (mid x)) v) : Rch (hashed x).ands (told (mid x)) v := by
  have key : ∀ {v : Int} {g : Tri}, Rch (stOf x).K (told (mid x)) v → gate (stOf x).K v = some g → gate (hashed x).ands v = some g := by
    intro v g hr hg
    obtain ⟨h1, _, h3⟩ := gate_of hg
    rw [← h3]
    exact gate_ord (fOrd h) (fands.2 ⟨h1, by rw [h3]; exact hr⟩)
  induction hv with
  | lit ht => exact .lit ht
  | left hr h0 hg ih => exact .left ih h0 (key hr hg)
  | right hr h0 hg ih => exact .right ih h0 (key hr hg)

theorem known_h {x : Circ} (h : CheckOk x) {l : Int} (h0 : 0 ≤ l) (hr : Rch (stOf x).K (told (mid x)) (var l)) : knownV (vsOf (hashed x)) l := by
  refine ⟨h0, ?_⟩
  rcases (rch_known h hr).2 with hb | ⟨k, hk, he⟩
  · rcases hb with hb | hb | hb
    · left; unfold var at hb; omega
    · right
      unfold vsOf ownL
      rw [List.map_append, List.map_append, List.mem_append, List.mem_append]
      exact Or.inl (Or.inl hb)
    · right
      unfold vsOf ownL
      rw [List.map_append, List.map_append, List.mem_append, List.mem_append]
      refine Or.inl (Or.inr ?_)
      have e : (hashed x).lats.map (·.1) = x.lats.map (·.1) := by
        show (x.lats.map fun t => (t.1, litS (stOf x).S t.2.1, t.2.2)).map (·.1) = _
        rw [List.map_map]; rfl
      rw [e]; exact hb
  · right
    unfold vsOf ownL
    rw [List.map_append, List.map_append, List.mem_append, List.mem_append]
    right
    refine List.mem_map.2 ⟨k.1, List.mem_map.2 ⟨k, fands.2 ⟨hk, by rw [he]; exact hr⟩, rfl⟩, he⟩

theorem countOf_mono {x y : Circ} (h1 : x.ins.length ≤ y.ins.length) (h2 : x.lats.length ≤ y.lats.length) (h3 : x.outs.length ≤ y.outs.length) (h4 : x.bads.length ≤ y.bads.length) (h5 : x.invs.length ≤ y.invs.length) (k : ByteArray) : countOf x k ≤ countOf y k := by
  unfold countOf
  split
  · exact h1
  · split
    · exact h2
    · split
      · exact h3
      · split
        · exact h4
        · exact h5
theorem names_mono {x y : Circ} (hn : x.names = y.names) (h : ∀ k, countOf x k ≤ countOf y k) (hx : NamesTo x x.names.length) : NamesTo y y.names.length := by
  obtain ⟨m, ins, lats, outs, bads, invs, ands, names⟩ := x
  obtain ⟨m', ins', lats', outs', bads', invs', ands', names'⟩ := y
  simp only at hn
  subst hn
  intro j hj hjk
  obtain ⟨⟨c, g1, g2, g3, g4, g5⟩, g6⟩ := hx j hj hjk
  exact ⟨⟨c, g1, g2, g3, Int.lt_of_lt_of_le g4 (Int.ofNat_le.2 (h (names[j]).1)), g5⟩, g6⟩

theorem hashed_ok {x : Circ} (h : CheckOk x) : CheckOk (hashed x) := by
  have hi := inv_of h
  have hlm : (hashed x).lats.map (·.1) = x.lats.map (·.1) := by
    show (x.lats.map fun t => (t.1, litS (stOf x).S t.2.1, t.2.2)).map (·.1) = _
    rw [List.map_map]; rfl
  have hl1 : (hashed x).lats.length = x.lats.length := by show (x.lats.map _).length = _; rw [List.length_map]
  have hl2 : (hashed x).outs.length = x.outs.length := by show (x.outs.map _).length = _; rw [List.length_map]
  have hl3 : (hashed x).bads.length = x.bads.length := by show (x.bads.map _).length = _; rw [List.length_map]
  have hl4 : (hashed x).invs.length = x.invs.length := by show (x.invs.map _).length = _; rw [List.length_map]
  have htold : ∀ m ∈ told x, knownV (vsOf (hashed x)) (litS (stOf x).S m) := fun m hm => by
    have h1 := lit_told hm
    exact known_h h (told_facts h h1).1 (.lit h1)
  obtain ⟨hf, ⟨hd, hr, hs⟩, hl, ha, ho, hb, hv, hn⟩ := h
  have h : CheckOk x := ⟨hf, ⟨hd, hr, hs⟩, hl, ha, ho, hb, hv, hn⟩
  obtain ⟨f0, f1, f2, f3, f4, f5, f6⟩ := hf
  refine ⟨⟨f0, f1, f2, by rw [hl1]; exact f3, by rw [hl2]; exact f4, by rw [hl3]; exact f5, by rw [hl4]; exact f6⟩, ⟨?_, ?_, ?_⟩, ?_, ?_, ?_, ?_, ?_, ?_⟩
  · have hsub : (ownL (hashed x)).Sublist (ownL x) := by
      unfold ownL
      rw [hlm]
      refine List.Sublist.append (List.Sublist.refl _) ?_
      show (((stOf x).K.filter (wants x)).map (·.1)).Sublist _
      exact ((List.filter_sublist).map _).trans hi.sub
    obtain ⟨g1, g2⟩ := ownOk_iff.1 hd
    exact ownOk_iff.2 ⟨fun m hm => g1 m (hsub.subset hm), List.Nodup.sublist (hsub.map var) g2⟩
  · intro t ht
    obtain ⟨t', ht', rfl⟩ := List.mem_map.1 ht
    exact hr t' ht'
  · intro j hj
    exact List.pairwise_iff_getElem.1 (fOrd h).rise j (j + 1) (by omega) hj (by omega)
  · intro t ht
    obtain ⟨t', ht', rfl⟩ := List.mem_map.1 ht
    exact htold t'.2.1 (by unfold told; simp only [List.mem_append]; exact Or.inl (Or.inl (Or.inl (List.mem_map.2 ⟨t', ht', rfl⟩))))
  · intro t ht
    obtain ⟨h1, h2⟩ := fands.1 ht
    obtain ⟨g1, g2, g3, g4, g5, g6⟩ := hi.kept t h1
    have hg := gate_ord (kOrd h) h1
    have h0 : var t.1 ≠ 0 := by have := g1.1; unfold var; omega
    exact ⟨known_h h g1.2.2.1 (.left h2 h0 hg), known_h h g1.2.2.2.2.1 (.right h2 h0 hg), g1.2.2.2.1, g1.2.2.2.2.2⟩
  · intro l hl'
    obtain ⟨m, hm, rfl⟩ := List.mem_map.1 hl'
    exact htold m (by unfold told; simp only [List.mem_append]; exact Or.inl (Or.inl (Or.inr hm)))
  · intro l hl'
    obtain ⟨m, hm, rfl⟩ := List.mem_map.1 hl'
    exact htold m (by unfold told; simp only [List.mem_append]; exact Or.inl (Or.inr hm))
  · intro l hl'
    obtain ⟨m, hm, rfl⟩ := List.mem_map.1 hl'
    exact htold m (by unfold told; simp only [List.mem_append]; exact Or.inr hm)
  · exact names_mono (x := x) (y := hashed x) rfl (fun k => countOf_mono (x := x) (y := hashed x) (Nat.le_refl _) (by rw [hl1]; exact Nat.le_refl _) (by rw [hl2]; exact Nat.le_refl _) (by rw [hl3]; exact Nat.le_refl _) (by rw [hl4]; exact Nat.le_refl _) k) hn

/-! ### Less, and again. -/
theorem f_plain {x : Circ} (h : CheckOk x) : ∀ t ∈ (hashed x).ands, plainL t.2.1 t.2.2 = none := fun t ht => ((inv_of h).kept t (fands.1 ht).1).2.2.2.2.1
theorem k_pairs {x : Circ} (h : CheckOk x) {a b : Tri} (ha : a ∈ (stOf x).K) (hb : b ∈ (stOf x).K) (e : pairS a.2.1 a.2.2 = pairS b.2.1 b.2.2) : a = b := by
  have h1 := ((inv_of h).kept a ha).2.2.2.2.2
  have h2 := ((inv_of h).kept b hb).2.2.2.2.2
  rw [e] at h1
  have e1 : some b.1 = some a.1 := h2.symm.trans h1
  simp only [Option.some.injEq] at e1
  exact ord_same (kOrd h) ha hb (by rw [e1])
theorem f_pairs {x : Circ} (h : CheckOk x) : (hashed x).ands.Pairwise fun a b => pairS a.2.1 a.2.2 ≠ pairS b.2.1 b.2.2 := by
  have hr := (fOrd h).rise
  refine hr.imp_of_mem fun {a b} ha hb hlt e => ?_
  have := k_pairs h (fands.1 ha).1 (fands.1 hb).1 e
  rw [this] at hlt
  omega
theorem f_few {x : Circ} (h : CheckOk x) : (hashed x).ands.length ≤ x.ands.length := by
  have h1 := (inv_of h).sub.length_le
  rw [List.length_map, List.length_map] at h1
  exact Nat.le_trans (List.length_filter_le _ _) h1

theorem fold_plain : ∀ (n : Nat) (A : List Tri), A.length = n → (∀ t ∈ A, plainL t.2.1 t.2.2 = none) → (A.Pairwise fun a b => pairS a.2.1 a.2.2 ≠ pairS b.2.1 b.2.2) →
    (foldG A).S = [] ∧ (foldG A).K = A ∧ ∀ p l, getI (foldG A).M p = some l → ∃ t ∈ A, pairS t.2.1 t.2.2 = p
  | 0, A, hn, _, _ => by
    have : A = [] := List.eq_nil_of_length_eq_zero hn
    subst this
    exact ⟨rfl, rfl, fun p l h => by cases h⟩
  | n + 1, A, hn, hp, hq => by
    obtain ⟨A', t, rfl⟩ : ∃ A' t, A = A' ++ [t] := by
      rcases List.eq_nil_or_concat A with rfl | ⟨A', t, h⟩
      · simp at hn
      · exact ⟨A', t, by rw [h, List.concat_eq_append]⟩
    rw [List.pairwise_append] at hq
    obtain ⟨g1, g2, g3⟩ := fold_plain n A' (by simp at hn; omega) (fun t' ht' => hp t' (List.mem_append_left _ ht')) hq.1
    have hl : ∀ l, litS (foldG A').S l = l := by
      intro l
      rw [g1]
      rfl
    have hm : getI (foldG A').M (pairS t.2.1 t.2.2) = none := by
      cases hg : getI (foldG A').M (pairS t.2.1 t.2.2) with
      | none => rfl
      | some l =>
        obtain ⟨t', ht', he⟩ := g3 _ _ hg
        exact absurd he (hq.2.2 t' ht' t (by simp))
    have hst : foldG (A' ++ [t]) = { foldG A' with M := (pairS t.2.1 t.2.2, t.1) :: (foldG A').M, K := (foldG A').K ++ [t] } := by
      rw [foldG_snoc]
      unfold gateS
      rw [hl, hl, hp t (by simp)]
      simp only
      rw [hm]
    rw [hst]
    refine ⟨g1, by simp only; rw [g2], ?_⟩
    intro p l hg
    simp only at hg
    by_cases e : pairS t.2.1 t.2.2 = p
    · exact ⟨t, by simp, e⟩
    · rw [getI_other _ _ e] at hg
      obtain ⟨t', ht', he⟩ := g3 p l hg
      exact ⟨t', List.mem_append_left _ ht', he⟩

theorem hashed_again {x : Circ} (h : CheckOk x) : hashed (hashed x) = hashed x := by
  obtain ⟨g1, g2, _⟩ := fold_plain _ (hashed x).ands rfl (f_plain h) (f_pairs h)
  have hS : (stOf (hashed x)).S = [] := g1
  have hK : (stOf (hashed x)).K = (hashed x).ands := g2
  have hl : ∀ l, litS (stOf (hashed x)).S l = l := by
    intro l; rw [hS]; rfl
  have hlf : litS (stOf (hashed x)).S = id := funext hl
  have hmid : mid (hashed x) = hashed x := by
    unfold mid
    rw [hlf, hK]
    have e1 : ((hashed x).lats.map fun t => (t.1, id t.2.1, t.2.2)) = (hashed x).lats := by
      have : (fun t : Tri => (t.1, id t.2.1, t.2.2)) = id := by funext t; rfl
      rw [this, List.map_id]
    rw [e1, List.map_id, List.map_id, List.map_id]
  unfold hashed
  rw [show mid { mid x with ands := (stOf x).K.filter (wants x) } = hashed x from hmid]
  have hK' : (stOf { mid x with ands := (stOf x).K.filter (wants x) }).K = (hashed x).ands := hK
  rw [hK']
  have hall : (hashed x).ands.filter (wants (hashed x)) = (hashed x).ands := by
    rw [List.filter_eq_self]
    intro t ht
    unfold wants
    rw [hmid]
    refine tt_pos ?_
    have htold : told (hashed x) = told (mid x) := rfl
    rw [htold]
    exact rch_less h (fands.1 ht).2
  rw [show ({ mid x with ands := (stOf x).K.filter (wants x) } : Circ) = hashed x from rfl, hall]

/-! ### Values. -/
def setV (V : Int → Bool) (u : Int) (b : Bool) : Int → Bool := fun k => if k = u then b else V k
def evalA (A : List Tri) (V : Int → Bool) : Int → Bool := A.foldl (fun V t => setV V (var t.1) (bitV V t.2.1 && bitV V t.2.2)) V
theorem evalA_snoc (A : List Tri) (t : Tri) (V : Int → Bool) : evalA (A ++ [t]) V = setV (evalA A V) (var t.1) (bitV (evalA A V) t.2.1 && bitV (evalA A V) t.2.2) := by unfold evalA; rw [List.foldl_append]; rfl
theorem bit_set {V : Int → Bool} {u : Int} {b : Bool} {l : Int} (h : var l ≠ u) : bitV (setV V u b) l = bitV V l := by unfold bitV setV; rw [if_neg h]

theorem eval_sat : ∀ (n : Nat) (A : List Tri), A.length = n → Ord A → ∀ V, Sat (evalA A V) A ∧ ∀ u, (∀ t ∈ A, var t.1 ≠ u) → evalA A V u = V u
  | 0, A, hn, _, V => by
    have : A = [] := List.eq_nil_of_length_eq_zero hn
    subst this
    exact ⟨fun t h => (by cases h), fun u _ => rfl⟩
  | n + 1, A, hn, ho, V => by
    obtain ⟨A', t, rfl⟩ : ∃ A' t, A = A' ++ [t] := by
      rcases List.eq_nil_or_concat A with rfl | ⟨A', t, h⟩
      · simp at hn
      · exact ⟨A', t, by rw [h, List.concat_eq_append]⟩
    have hrise := List.pairwise_append.1 ho.rise
    have hft := ho.fine t (by simp)
    have hA : ∀ t' ∈ A', Fine t' := fun t' ht' => ho.fine t' (List.mem_append_left _ ht')
    obtain ⟨h1, h2⟩ := eval_sat n A' (by simp at hn; omega) ⟨hrise.1, hA⟩ V
    have hlt : ∀ t' ∈ A', var t'.1 < var t.1 := fun t' ht' => var_lt hft (by have := (hA t' ht').1; omega) (hrise.2.2 t' ht' t (by simp))
    have hvl : var t.2.1 < var t.1 := var_lt hft hft.2.2.1 hft.2.2.2.1
    have hvr : var t.2.2 < var t.1 := var_lt hft hft.2.2.2.2.1 hft.2.2.2.2.2
    rw [evalA_snoc]
    refine ⟨fun t' ht' => ?_, fun u hu => ?_⟩
    · rcases List.mem_append.1 ht' with h | h
      · have hf := hA t' h
        have hv := hlt t' h
        have hv1 := var_lt hf hf.2.2.1 hf.2.2.2.1
        have hv2 := var_lt hf hf.2.2.2.2.1 hf.2.2.2.2.2
        rw [bit_set (by omega), bit_set (by omega)]
        have e : setV (evalA A' V) (var t.1) (bitV (evalA A' V) t.2.1 && bitV (evalA A' V) t.2.2) (var t'.1) = evalA A' V (var t'.1) := by unfold setV; rw [if_neg (by omega)]
        rw [e]
        exact h1 t' h
      · rw [List.mem_singleton] at h
        subst h
        rw [bit_set (by omega), bit_set (by omega)]
        unfold setV
        rw [if_pos rfl]
    · unfold setV
      rw [if_neg (fun e => hu t (by simp) e.symm)]
      exact h2 u fun t' ht' => hu t' (List.mem_append_left _ ht')

theorem sem_rch {x : Circ} (h : CheckOk x) {V0 : Int → Bool} (h0 : V0 0 = false) : ∀ (n : Nat) (v : Int), v.toNat = n → 0 ≤ v → Rch (stOf x).K (told (mid x)) v → evalA (hashed x).ands V0 v = evalA x.ands V0 v := by
  intro n
  induction n using Nat.strongRecOn with
  | _ n ih =>
    intro v hn hv hr
    obtain ⟨s1, s2⟩ := eval_sat _ x.ands rfl (ord_of h) V0
    obtain ⟨t1, t2⟩ := eval_sat _ (hashed x).ands rfl (fOrd h) V0
    have hV0 : evalA x.ands V0 0 = false := by
      rw [s2 0 (fun t ht => by have := ((ord_of h).fine t ht).1; unfold var; omega)]; exact h0
    have hi := inv_of h
    obtain ⟨hnone, hb⟩ := rch_known h hr
    by_cases hk : ∃ k ∈ (stOf x).K, var k.1 = v
    · obtain ⟨k, hk, rfl⟩ := hk
      have hkf := fands.2 ⟨hk, hr⟩
      have hfk := (hi.kept k hk).1
      have hg := gate_ord (kOrd h) hk
      have hne : var k.1 ≠ 0 := by have := hfk.1; unfold var; omega
      have e1 := t1 k hkf
      have e2 := (hi.sem _ hV0 s1).2 k hk
      have hv1 := var_lt hfk hfk.2.2.1 hfk.2.2.2.1
      have hv2 := var_lt hfk hfk.2.2.2.2.1 hfk.2.2.2.2.2
      have p1 : 0 ≤ var k.2.1 := by unfold var; omega
      have p2 : 0 ≤ var k.2.2 := by unfold var; omega
      have i1 := ih (var k.2.1).toNat (by omega) _ rfl p1 (.left hr hne hg)
      have i2 := ih (var k.2.2).toNat (by omega) _ rfl p2 (.right hr hne hg)
      rw [e1, e2]
      unfold bitV
      rw [i1, i2]
    · rw [t2 v (fun t ht e => hk ⟨t, (fands.1 ht).1, e⟩), s2 v (fun t ht e => ?_)]
      rcases hi.all t ht with ⟨s, hs⟩ | ⟨k, hkk, he⟩
      · rw [e] at hs
        have : getI (stOf x).S v = some s := hs
        rw [hnone] at this; cases this
      · exact hk ⟨k, hkk, by rw [he, e]⟩

/-- What is told is the same. -/
theorem sem_told {x : Circ} (h : CheckOk x) {V0 : Int → Bool} (h0 : V0 0 = false) {m : Int} (hm : m ∈ told x) : bitV (evalA (hashed x).ands V0) (litS (stOf x).S m) = bitV (evalA x.ands V0) m := by
  obtain ⟨s1, s2⟩ := eval_sat _ x.ands rfl (ord_of h) V0
  have hV0 : evalA x.ands V0 0 = false := by
    rw [s2 0 (fun t ht => by have := ((ord_of h).fine t ht).1; unfold var; omega)]; exact h0
  have hl := lit_told hm
  have hr : Rch (stOf x).K (told (mid x)) (var (litS (stOf x).S m)) := .lit hl
  have e := sem_rch h h0 _ _ rfl (by unfold var; omega) hr
  rw [← lit_sem (inv_of h) hV0 s1 m]
  show bitV _ (litS (stOf x).S m) = bitV _ (litS (stOf x).S m)
  unfold bitV
  rw [e]

/-! ### Twice. -/
/-- A circuit with one and more, its literals the other way round, and one output more. -/
def more (x : Circ) (a : Tri) (o : Int) : Circ := { x with max := x.max + 1, ands := x.ands ++ [(2 * (x.max + 1), a.2.2, a.2.1)], outs := x.outs ++ [o] }

theorem more_ok {x : Circ} (h : CheckOk x) {a : Tri} (ha : a ∈ x.ands) (hm : x.max ≤ 1000) (ho : x.outs.length + 1 ≤ 64) {o : Int} (hoo : o = a.1 ∨ o = 2 * (x.max + 1)) : CheckOk (more x a o) := by
  have hord := ord_of h
  obtain ⟨hf, ⟨hd, hr, hs⟩, hl, hand, hout, hb, hv, hn⟩ := h
  obtain ⟨f0, f1, f2, f3, f4, f5, f6⟩ := hf
  obtain ⟨d1, d2⟩ := ownOk_iff.1 hd
  have hown : ownL (more x a o) = ownL x ++ [2 * (x.max + 1)] := by unfold ownL more; simp
  have hvs : vsOf (more x a o) = vsOf x ++ [x.max + 1] := by
    unfold vsOf
    rw [hown, List.map_append]
    have : var (2 * (x.max + 1)) = x.max + 1 := by unfold var; omega
    simp [this]
  have hk : ∀ l, knownV (vsOf x) l → knownV (vsOf (more x a o)) l := fun l hl => ⟨hl.1, hl.2.imp id fun h => by rw [hvs]; exact List.mem_append_left _ h⟩
  have hmax : ∀ t ∈ x.ands, t.1 < 2 * (x.max + 1) := fun t ht => by
    have := (d1 t.1 (by unfold ownL; exact List.mem_append_right _ (List.mem_map.2 ⟨t, ht, rfl⟩))).2.2
    unfold var at this; omega
  obtain ⟨ka1, ka2, ka3, ka4⟩ := hand a ha
  have hma := hmax a ha
  refine ⟨⟨by show 0 ≤ x.max + 1; omega, by show x.max + 1 ≤ 2048; omega, f2, f3, by show (x.outs ++ [o]).length ≤ 64; simp; omega, f5, f6⟩, ⟨?_, hr, ?_⟩, fun t ht => hk _ (hl t ht), ?_, ?_, fun l hl' => hk _ (hb l hl'), fun l hl' => hk _ (hv l hl'), ?_⟩
  · rw [hown]
    refine ownOk_iff.2 ⟨fun m hmm => ?_, ?_⟩
    · rcases List.mem_append.1 hmm with h1 | h1
      · obtain ⟨g1, g2, g3⟩ := d1 m h1
        exact ⟨g1, g2, by show var m ≤ x.max + 1; omega⟩
      · rw [List.mem_singleton] at h1
        subst h1
        refine ⟨by omega, ?_, by show var (2 * (x.max + 1)) ≤ x.max + 1; unfold var; omega⟩
        unfold neg
        rw [if_neg (by omega)]
        simp
    · rw [List.map_append, List.nodup_append]
      refine ⟨d2, by simp, fun u hu v hv' e => ?_⟩
      subst e
      simp only [List.map_cons, List.map_nil, List.mem_singleton] at hv'
      obtain ⟨m, hmm, rfl⟩ := List.mem_map.1 hu
      have := (d1 m hmm).2.2
      unfold var at *
      omega
  · intro j hj
    have hj' : j + 1 < (x.ands ++ [(2 * (x.max + 1), a.2.2, a.2.1)]).length := hj
    rw [List.length_append, List.length_singleton] at hj'
    show ((x.ands ++ [(2 * (x.max + 1), a.2.2, a.2.1)])[j]'(by simp; omega)).1 < ((x.ands ++ [(2 * (x.max + 1), a.2.2, a.2.1)])[j + 1]'(by simp; omega)).1
    by_cases he : j + 1 < x.ands.length
    · rw [List.getElem_append_left he, List.getElem_append_left (by omega)]
      exact hs j he
    · rw [List.getElem_append_left (by omega), List.getElem_append_right (by omega)]
      simp only [List.getElem_singleton]
      exact hmax _ (List.getElem_mem _)
  · intro t ht
    rcases List.mem_append.1 ht with h1 | h1
    · obtain ⟨g1, g2, g3, g4⟩ := hand t h1
      exact ⟨hk _ g1, hk _ g2, g3, g4⟩
    · rw [List.mem_singleton] at h1
      subst h1
      exact ⟨hk _ ka2, hk _ ka1, by show a.2.2 < 2 * (x.max + 1); omega, by show a.2.1 < 2 * (x.max + 1); omega⟩
  · intro l hl'
    rcases List.mem_append.1 hl' with h1 | h1
    · exact hk _ (hout l h1)
    · rw [List.mem_singleton] at h1
      subst h1
      rcases hoo with rfl | rfl
      · refine hk _ ⟨by have := (hord.fine a ha).1; omega, Or.inr ?_⟩
        unfold vsOf ownL
        rw [List.map_append, List.mem_append]
        exact Or.inr (List.mem_map.2 ⟨a.1, List.mem_map.2 ⟨a, ha, rfl⟩, rfl⟩)
      · refine ⟨by omega, Or.inr ?_⟩
        rw [hvs]
        have : var (2 * (x.max + 1)) = x.max + 1 := by unfold var; omega
        rw [this]; simp
  · exact names_mono (x := x) (y := more x a o) rfl (fun k => countOf_mono (x := x) (y := more x a o) (Nat.le_refl _) (Nat.le_refl _) (by show x.outs.length ≤ (x.outs ++ [o]).length; simp) (Nat.le_refl _) (Nat.le_refl _) k) hn

theorem twice {x : Circ} (h : CheckOk x) {a : Tri} (ha : a ∈ x.ands) (hm : x.max ≤ 1000) (ho : x.outs.length + 1 ≤ 64) : hashed (more x a a.1) = hashed (more x a (2 * (x.max + 1))) := by
  have hok := more_ok h ha hm ho (o := a.1) (Or.inl rfl)
  have hi := inv_of hok
  have hst : stOf (more x a (2 * (x.max + 1))) = stOf (more x a a.1) := rfl
  have hfine := (ord_of hok).fine
  have e1 := hi.at' a (List.mem_append_left _ ha)
  have e2 := hi.at' (2 * (x.max + 1), a.2.2, a.2.1) (List.mem_append_right _ (List.mem_singleton.2 rfl))
  have hkn := hok.2.2.2.1 a (List.mem_append_left _ ha)
  have hl := (lit_facts hi hkn.1.1 (known_base hkn.1).2 hfine).1
  have hr := (lit_facts hi hkn.2.1.1 (known_base hkn.2.1).2 hfine).1
  have hlit : litS (stOf (more x a a.1)).S a.1 = litS (stOf (more x a a.1)).S (2 * (x.max + 1)) := by
    have hc := plain_comm hl hr
    cases hp : plainL (litS (foldG (more x a a.1).ands).S a.2.1) (litS (foldG (more x a a.1).ands).S a.2.2) with
    | some r =>
      have h1 := e1.1 r hp
      have h2 := e2.1 r (by show plainL (litS (foldG (more x a a.1).ands).S a.2.2) (litS (foldG (more x a a.1).ands).S a.2.1) = some r; rw [← hc]; exact hp)
      exact h1.trans h2.symm
    | none =>
      have h1 := e1.2 hp
      have h2 := e2.2 (by show plainL (litS (foldG (more x a a.1).ands).S a.2.2) (litS (foldG (more x a a.1).ands).S a.2.1) = none; rw [← hc]; exact hp)
      have h2' : getI (foldG (more x a a.1).ands).M (pairS (litS (foldG (more x a a.1).ands).S a.2.2) (litS (foldG (more x a a.1).ands).S a.2.1)) = some (litS (foldG (more x a a.1).ands).S (2 * (x.max + 1))) := h2
      rw [pair_comm] at h2'
      have h3 := h1.symm.trans h2'
      simp only [Option.some.injEq] at h3
      exact h3
  have hmid : mid (more x a a.1) = mid (more x a (2 * (x.max + 1))) := by
    unfold mid
    rw [hst]
    have : (more x a a.1).outs.map (litS (stOf (more x a a.1)).S) = (more x a (2 * (x.max + 1))).outs.map (litS (stOf (more x a a.1)).S) := by
      show (x.outs ++ [a.1]).map _ = (x.outs ++ [2 * (x.max + 1)]).map _
      rw [List.map_append, List.map_append]
      congr 1
      simp only [List.map_cons, List.map_nil]
      rw [hlit]
    rw [this]
    rfl
  unfold hashed
  have hw : wants (more x a a.1) = wants (more x a (2 * (x.max + 1))) := by
    funext t
    unfold wants
    rw [hmid]
  rw [hw, hst, hmid]
end StrashP
end Go.Proofs.YtjmmhbmbafjneaaGreatDoor

/-
  Plain: what a Bad hangs on: what counts; the circuit of that alone may be, and stays when it is reduced again.
-/
namespace Go.Proofs.YtjmmhbmbafjneaaGreatDoor
open Go.RowKit Base
set_option linter.unusedVariables false
set_option linter.unusedSimpArgs false
namespace Coi
open Circuit

/-- What counts, of a circuit and literals. -/
inductive NR (x : Circ) (l : List Int) : Int → Prop
  | lit {t : Int} : t ∈ l → NR x l (var t)
  | left {v : Int} {g : Tri} : NR x l v → v ≠ 0 → gate x.ands v = some g → NR x l (var g.2.1)
  | right {v : Int} {g : Tri} : NR x l v → v ≠ 0 → gate x.ands v = some g → NR x l (var g.2.2)
  | next {t : Tri} : NR x l (var t.1) → var t.1 ≠ 0 → t ∈ x.lats → NR x l (var t.2.1)

theorem nr_of_rch {x : Circ} {l L : List Int} (hL : ∀ t ∈ L, NR x l (var t)) {v : Int} (h : Rch x.ands L v) : NR x l v := by
  induction h with
  | lit ht => exact hL _ ht
  | left _ h0 hg ih => exact .left ih h0 hg
  | right _ h0 hg ih => exact .right ih h0 hg

structure CInv (x : Circ) (l X : List Int) : Prop where
  nodup : X.Nodup
  sound : ∀ v ∈ X, v ≠ 0 ∧ NR x l v
  lits : ∀ t ∈ l, var t = 0 ∨ var t ∈ X
  gates : ∀ v ∈ X, ∀ g, gate x.ands v = some g → (var g.2.1 = 0 ∨ var g.2.1 ∈ X) ∧ (var g.2.2 = 0 ∨ var g.2.2 ∈ X)

/-- X2 is X and what L hangs on. -/
def Adds (x : Circ) (L X X2 : List Int) : Prop := X2.Nodup ∧ ∀ v, v ∈ X2 ↔ v ∈ X ∨ (v ≠ 0 ∧ Rch x.ands L v)

theorem adds_gates {x : Circ} {L X X2 : List Int} (h : Adds x L X X2) (hg : ∀ v ∈ X, ∀ g, gate x.ands v = some g → (var g.2.1 = 0 ∨ var g.2.1 ∈ X) ∧ (var g.2.2 = 0 ∨ var g.2.2 ∈ X)) :
    ∀ v ∈ X2, ∀ g, gate x.ands v = some g → (var g.2.1 = 0 ∨ var g.2.1 ∈ X2) ∧ (var g.2.2 = 0 ∨ var g.2.2 ∈ X2) := by
  intro v hv g hgv
  rcases (h.2 v).1 hv with h1 | ⟨h0, h1⟩
  · obtain ⟨a, b⟩ := hg v h1 g hgv
    exact ⟨a.imp id fun h2 => (h.2 _).2 (Or.inl h2), b.imp id fun h2 => (h.2 _).2 (Or.inl h2)⟩
  · constructor
    · by_cases e : var g.2.1 = 0
      · exact Or.inl e
      · exact Or.inr ((h.2 _).2 (Or.inr ⟨e, .left h1 h0 hgv⟩))
    · by_cases e : var g.2.2 = 0
      · exact Or.inl e
      · exact Or.inr ((h.2 _).2 (Or.inr ⟨e, .right h1 h0 hgv⟩))

theorem cinv_start {x : Circ} {l X2 : List Int} (h : Adds x l [] X2) : CInv x l X2 :=
  ⟨h.1, fun v hv => by
    rcases (h.2 v).1 hv with h1 | ⟨h0, h1⟩
    · simp at h1
    · exact ⟨h0, nr_of_rch (fun t ht => .lit ht) h1⟩, fun t ht => by
    by_cases e : var t = 0
    · exact Or.inl e
    · exact Or.inr ((h.2 _).2 (Or.inr ⟨e, .lit ht⟩)), adds_gates h (fun v hv => by simp at hv)⟩
theorem cinv_next {x : Circ} {l X X2 : List Int} (hi : CInv x l X) {t : Tri} (ht : t ∈ x.lats) (hm : var t.1 ∈ X) (h : Adds x [t.2.1] X X2) : CInv x l X2 :=
  ⟨h.1, fun v hv => by
    rcases (h.2 v).1 hv with h1 | ⟨h0, h1⟩
    · exact hi.sound v h1
    · refine ⟨h0, nr_of_rch (fun u hu => ?_) h1⟩
      rw [List.mem_singleton.1 hu]
      exact .next (hi.sound _ hm).2 (hi.sound _ hm).1 ht, fun u hu => (hi.lits u hu).imp id fun h2 => (h.2 _).2 (Or.inl h2), adds_gates h hi.gates⟩
/-- Nothing is new of a latch that is met. -/
def Shut (x : Circ) (X : List Int) (t : Tri) : Prop := var t.1 ∈ X → ∀ v, v ≠ 0 → Rch x.ands [t.2.1] v → v ∈ X
theorem cinv_end {x : Circ} {l X : List Int} (h : CInv x l X) (hs : ∀ t ∈ x.lats, Shut x X t) (v : Int) : v ∈ X ↔ v ≠ 0 ∧ NR x l v := by
  refine ⟨h.sound v, fun hh => ?_⟩
  obtain ⟨h0, hn⟩ := hh
  induction hn with
  | lit ht => exact (h.lits _ ht).resolve_left h0
  | left _ hv hg ih => exact ((h.gates _ (ih hv) _ hg).1).resolve_left h0
  | right _ hv hg ih => exact ((h.gates _ (ih hv) _ hg).2).resolve_left h0
  | next _ hv ht ih => exact hs _ ht (ih hv) _ h0 (.lit (List.mem_singleton.2 rfl))
def uni (x : Circ) (l : List Int) : List Int := l.map var ++ x.ands.map (fun t => var t.2.1) ++ x.ands.map (fun t => var t.2.2) ++ x.lats.map (fun t => var t.2.1)
theorem nr_uni {x : Circ} {l : List Int} {v : Int} (h : NR x l v) : v ∈ uni x l := by
  unfold uni
  simp only [List.mem_append, List.mem_map]
  cases h with
  | lit ht => exact Or.inl (Or.inl (Or.inl ⟨_, ht, rfl⟩))
  | left _ _ hg => exact Or.inl (Or.inl (Or.inr ⟨_, gate_mem hg, rfl⟩))
  | right _ _ hg => exact Or.inl (Or.inr ⟨_, gate_mem hg, rfl⟩)
  | next _ _ ht => exact Or.inr ⟨_, ht, rfl⟩
theorem cinv_few {x : Circ} {l X : List Int} (h : CInv x l X) : X.length ≤ l.length + 2 * x.ands.length + x.lats.length := by
  have := nodup_len h.nodup (C := uni x l) (fun v hv => nr_uni (h.sound v hv).2)
  unfold uni at this
  simp only [List.length_append, List.length_map] at this
  omega

/-! ### The circuit of that alone. -/
noncomputable def cnt (x : Circ) (l : List Int) (m : Int) : Bool := tt (var m ≠ 0 ∧ NR x l (var m))
noncomputable def reduced (x : Circ) (l : List Int) (b : Int) : Circ :=
  { max := x.max, ins := x.ins.filter (cnt x l), lats := x.lats.filter (fun t => cnt x l t.1), outs := [], bads := [b], invs := x.invs, ands := x.ands.filter (fun t => cnt x l t.1), names := [] }

theorem tt_iff {p : Prop} : tt p = true ↔ p := by
  constructor
  · intro h
    exact Classical.byContradiction fun hn => by rw [tt_neg hn] at h; cases h
  · exact tt_pos
theorem cnt_iff {x : Circ} {l : List Int} {m : Int} : cnt x l m = true ↔ var m ≠ 0 ∧ NR x l (var m) := tt_iff
theorem cnt_congr {x : Circ} {l : List Int} {m k : Int} (h : var m = var k) : cnt x l m = cnt x l k := by unfold cnt; rw [h]

theorem gate_red {x : Circ} {l : List Int} {b v : Int} (h0 : v ≠ 0) (hn : NR x l v) : gate (reduced x l b).ands v = gate x.ands v := by
  show gate (x.ands.filter _) v = _
  unfold gate
  rw [List.find?_filter]
  congr 1
  funext t
  by_cases e : var t.1 = v
  · have : cnt x l t.1 = true := cnt_iff.2 (by rw [e]; exact ⟨h0, hn⟩)
    simp [this]
  · simp [e]
theorem nr_red {x : Circ} {l : List Int} {b : Int} {v : Int} : NR (reduced x l b) l v ↔ NR x l v := by
  constructor
  · intro h
    induction h with
    | lit ht => exact .lit ht
    | left _ h0 hg ih => exact .left ih h0 (by rw [← gate_red h0 ih]; exact hg)
    | right _ h0 hg ih => exact .right ih h0 (by rw [← gate_red h0 ih]; exact hg)
    | next _ h0 ht ih => exact .next ih h0 (List.mem_filter.1 ht).1
  · intro h
    induction h with
    | lit ht => exact .lit ht
    | left hv h0 hg ih => exact .left ih h0 (by rw [gate_red h0 hv]; exact hg)
    | right hv h0 hg ih => exact .right ih h0 (by rw [gate_red h0 hv]; exact hg)
    | next hv h0 ht ih => exact .next ih h0 (List.mem_filter.2 ⟨ht, cnt_iff.2 ⟨h0, hv⟩⟩)
theorem cnt_red (x : Circ) (l : List Int) (b m : Int) : cnt (reduced x l b) l m = cnt x l m := by
  rw [Bool.eq_iff_iff, cnt_iff, cnt_iff, nr_red]
theorem red_again (x : Circ) (l : List Int) (b : Int) : reduced (reduced x l b) l b = reduced x l b := by
  have e1 : cnt (reduced x l b) l = cnt x l := funext (cnt_red x l b)
  have h1 : (reduced (reduced x l b) l b).ins = (reduced x l b).ins := by
    show (x.ins.filter (cnt x l)).filter (cnt (reduced x l b) l) = _
    rw [e1, List.filter_filter]
    simp only [Bool.and_self]
    rfl
  have h2 : (reduced (reduced x l b) l b).lats = (reduced x l b).lats := by
    show (x.lats.filter _).filter (fun t => cnt (reduced x l b) l t.1) = _
    rw [e1, List.filter_filter]
    simp only [Bool.and_self]
    rfl
  have h3 : (reduced (reduced x l b) l b).ands = (reduced x l b).ands := by
    show (x.ands.filter _).filter (fun t => cnt (reduced x l b) l t.1) = _
    rw [e1, List.filter_filter]
    simp only [Bool.and_self]
    rfl
  have : reduced (reduced x l b) l b = { reduced x l b with ins := (reduced (reduced x l b) l b).ins, lats := (reduced (reduced x l b) l b).lats, ands := (reduced (reduced x l b) l b).ands } := rfl
  rw [this, h1, h2, h3]

theorem own_red {x : Circ} {l : List Int} {b : Int} : (ownL (reduced x l b)) = (ownL x).filter (cnt x l) := by
  unfold ownL
  rw [List.filter_append, List.filter_append, List.filter_map, List.filter_map]
  rfl
theorem known_red {x : Circ} {l : List Int} {b m : Int} (hk : knownV (vsOf x) m) (hn : NR x l (var m)) : knownV (vsOf (reduced x l b)) m := by
  obtain ⟨h0, h1⟩ := hk
  refine ⟨h0, ?_⟩
  by_cases hv : var m = 0
  · left; unfold var at hv; omega
  · rcases h1 with h1 | h1
    · exact Or.inl h1
    · right
      unfold vsOf at h1 ⊢
      obtain ⟨u, hu, he⟩ := List.mem_map.1 h1
      refine List.mem_map.2 ⟨u, ?_, he⟩
      rw [own_red]
      exact List.mem_filter.2 ⟨hu, cnt_iff.2 (by rw [he]; exact ⟨hv, hn⟩)⟩
theorem red_ok {x : Circ} (h : CheckOk x) {l : List Int} {b : Int} (hb : b ∈ x.bads) (hbl : b ∈ l) (hi : ∀ m ∈ x.invs, m ∈ l) : CheckOk (reduced x l b) := by
  have hord := StrashP.ord_of h
  obtain ⟨⟨f0, f1, f2, f3, f4, f5, f6⟩, ⟨hd, hr, hs⟩, hl, ha, ho, hbk, hv, hn⟩ := h
  obtain ⟨d1, d2⟩ := StrashP.ownOk_iff.1 hd
  have hg : ∀ t ∈ x.ands, gate x.ands (var t.1) = some t := fun t ht => StrashP.gate_ord hord ht
  have fl : ∀ {α : Type} (p : α → Bool) (l : List α), (l.filter p).length ≤ l.length := fun p l => List.length_filter_le p l
  refine ⟨⟨f0, f1, Nat.le_trans (fl _ _) f2, Nat.le_trans (fl _ _) f3, by show ([] : List Int).length ≤ 64; simp, by show [b].length ≤ 64; simp, f6⟩, ⟨?_, ?_, ?_⟩, ?_, ?_, ?_, ?_, ?_, ?_⟩
  · rw [own_red]
    refine StrashP.ownOk_iff.2 ⟨fun m hm => d1 m (List.mem_filter.1 hm).1, ?_⟩
    exact List.Sublist.nodup (List.Sublist.map var (List.filter_sublist (l := ownL x))) d2
  · exact fun t ht => hr t (List.mem_filter.1 ht).1
  · intro j hj
    have hp : ((x.ands.filter fun t => cnt x l t.1)).Pairwise fun a b => a.1 < b.1 := List.Pairwise.sublist (List.filter_sublist (l := x.ands)) hord.rise
    exact (List.pairwise_iff_getElem.1 hp) j (j + 1) (Nat.lt_of_succ_lt hj) hj (Nat.lt_succ_self j)
  · intro t ht
    obtain ⟨h1, h2⟩ := List.mem_filter.1 ht
    exact known_red (hl t h1) (.next (cnt_iff.1 h2).2 (cnt_iff.1 h2).1 h1)
  · intro t ht
    obtain ⟨h1, h2⟩ := List.mem_filter.1 ht
    obtain ⟨g1, g2, g3, g4⟩ := ha t h1
    exact ⟨known_red g1 (.left (cnt_iff.1 h2).2 (cnt_iff.1 h2).1 (hg t h1)), known_red g2 (.right (cnt_iff.1 h2).2 (cnt_iff.1 h2).1 (hg t h1)), g3, g4⟩
  · intro m hm; cases hm
  · intro m hm
    rw [List.mem_singleton.1 hm]
    exact known_red (hbk b hb) (.lit hbl)
  · exact fun m hm => known_red (hv m hm) (.lit (hi m hm))
  · intro j hj
    exact absurd hj (by show ¬ j < ([] : List (ByteArray × Int × ByteArray)).length; simp)
end Coi
end Go.Proofs.YtjmmhbmbafjneaaGreatDoor

/-
  Plain: what a circuit does step by step, and in how many steps a Bad is reached; a reduced circuit reaches its Bad in as many.
-/
namespace Go.Proofs.YtjmmhbmbafjneaaGreatDoor
open Go.RowKit Base
set_option linter.unusedVariables false
set_option linter.unusedSimpArgs false
namespace BadP
open Circuit Coi StrashP

def setB (L : List Bool) (u : Int) (b : Bool) : List Bool := L.set u.toNat b
def valV (L : List Bool) (u : Int) : Bool := L.getD u.toNat false
def litV (L : List Bool) (l : Int) : Bool := valV L (var l) != neg l
def putAll (ps : List (Int × Bool)) (L : List Bool) : List Bool := ps.foldl (fun L p => setB L (var p.1) p.2) L
def stepA (L : List Bool) (t : Tri) : List Bool := if litV L t.2.1 && litV L t.2.2 then setB L (var t.1) true else L
def zero (x : Circ) : List Bool := List.replicate (x.max + 1).toNat false
def base (x : Circ) (s i : List Bool) : List Bool := putAll ((x.lats.zip s).map fun p => (p.1.1, p.2)) (putAll (x.ins.zip i) (zero x))
def vals (x : Circ) (s i : List Bool) : List Bool := x.ands.foldl stepA (base x s i)
def next (x : Circ) (s i : List Bool) : List Bool := x.lats.map fun t => litV (vals x s i) t.2.1
def okB (t : Tri) (b : Bool) : Bool := !((t.2.2 != t.1) && ((t.2.2 == 1) != b))
def initL (x : Circ) (s : List Bool) : Prop := s.length = x.lats.length ∧ ∀ p ∈ x.lats.zip s, okB p.1 p.2 = true
def allow (x : Circ) (A : List (List Int)) (V : List Bool) : Bool := x.invs.all (litV V) && A.all fun c => c.any (litV V)
/-- Reached in so many steps. -/
def R (x : Circ) (A : List (List Int)) : Nat → List Bool → Prop
  | 0, s => initL x s
  | n + 1, s => ∃ s0 i, R x A n s0 ∧ i.length = x.ins.length ∧ allow x A (vals x s0 i) = true ∧ s = next x s0 i
/-- A Bad at the state that is reached in so many steps. -/
def Hit (x : Circ) (A : List (List Int)) (b : Int) (n : Nat) : Prop := ∃ s i, R x A n s ∧ i.length = x.ins.length ∧ allow x A (vals x s i) = true ∧ litV (vals x s i) b = true

theorem setB_len (L : List Bool) (u : Int) (b : Bool) : (setB L u b).length = L.length := by unfold setB; simp
theorem stepA_len (L : List Bool) (t : Tri) : (stepA L t).length = L.length := by unfold stepA; split <;> simp [setB_len]
theorem putAll_len : ∀ (ps : List (Int × Bool)) (L : List Bool), (putAll ps L).length = L.length
  | [], L => rfl
  | p :: r, L => (putAll_len r _).trans (setB_len _ _ _)
theorem fold_len : ∀ (A : List Tri) (L : List Bool), (A.foldl stepA L).length = L.length
  | [], L => rfl
  | t :: r, L => (fold_len r _).trans (stepA_len _ _)
theorem base_len (x : Circ) (s i : List Bool) : (base x s i).length = (x.max + 1).toNat := by unfold base; rw [putAll_len, putAll_len]; simp [zero]
theorem vals_len (x : Circ) (s i : List Bool) : (vals x s i).length = (x.max + 1).toNat := by unfold vals; rw [fold_len, base_len]
theorem valV_set (L : List Bool) {u v : Int} (b : Bool) (h1 : 0 ≤ u) (h2 : u.toNat < L.length) (hv : 0 ≤ v) : valV (setB L u b) v = if v = u then b else valV L v := by
  unfold valV setB
  by_cases e : v = u
  · subst e
    simp [List.getD_eq_getElem?_getD, List.getElem?_set, h2]
  · rw [if_neg e, List.getD_eq_getElem?_getD, List.getD_eq_getElem?_getD, List.getElem?_set, if_neg (by omega)]
theorem var_nn (l : Int) : 0 ≤ var l := by unfold var; omega

/-- Two lists agree at all that counts. -/
def Ag (P : Int → Prop) (L L' : List Bool) : Prop := L.length = L'.length ∧ ∀ v, 0 ≤ v → P v → valV L v = valV L' v
theorem ag_set {P : Int → Prop} {L L' : List Bool} (h : Ag P L L') {u : Int} (h1 : 0 ≤ u) (h2 : u.toNat < L.length) (b : Bool) : Ag P (setB L u b) (setB L' u b) :=
  ⟨by rw [setB_len, setB_len]; exact h.1, fun v hv hp => by rw [valV_set L b h1 h2 hv, valV_set L' b h1 (h.1 ▸ h2) hv, h.2 v hv hp]⟩
theorem ag_skip {P : Int → Prop} {L L' : List Bool} (h : Ag P L L') {u : Int} (h1 : 0 ≤ u) (h2 : u.toNat < L.length) (hn : ¬ P u) (b : Bool) : Ag P (setB L u b) L' :=
  ⟨by rw [setB_len]; exact h.1, fun v hv hp => by rw [valV_set L b h1 h2 hv, if_neg (fun e : v = u => hn (e ▸ hp)), h.2 v hv hp]⟩
theorem ag_put {P : Int → Prop} (c : Int × Bool → Bool) : ∀ (ps : List (Int × Bool)) (L L' : List Bool), Ag P L L' → (∀ p ∈ ps, (var p.1).toNat < L.length) → (∀ p ∈ ps, c p = false → ¬ P (var p.1)) → Ag P (putAll ps L) (putAll (ps.filter c) L')
  | [], L, L', h, _, _ => h
  | p :: r, L, L', h, h1, h2 => by
    have hp := h1 p List.mem_cons_self
    have k1 : ∀ q ∈ r, (var q.1).toNat < (setB L (var p.1) p.2).length := fun q hq => by rw [setB_len]; exact h1 q (List.mem_cons_of_mem _ hq)
    have k2 : ∀ q ∈ r, c q = false → ¬ P (var q.1) := fun q hq => h2 q (List.mem_cons_of_mem _ hq)
    cases hc : c p with
    | true =>
      rw [List.filter_cons_of_pos hc]
      exact ag_put c r _ _ (ag_set h (var_nn _) hp _) k1 k2
    | false =>
      rw [List.filter_cons_of_neg (by rw [hc]; decide)]
      exact ag_put c r _ _ (ag_skip h (var_nn _) hp (h2 p List.mem_cons_self hc) _) k1 k2
theorem ag_lit {P : Int → Prop} {L L' : List Bool} (h : Ag P L L') {l : Int} (hl : P (var l)) : litV L l = litV L' l := by unfold litV; rw [h.2 _ (var_nn l) hl]
theorem ag_ands {P : Int → Prop} (c : Tri → Bool) : ∀ (A : List Tri) (L L' : List Bool), Ag P L L' → (∀ t ∈ A, (var t.1).toNat < L.length) → (∀ t ∈ A, c t = false → ¬ P (var t.1)) → (∀ t ∈ A, c t = true → P (var t.2.1) ∧ P (var t.2.2)) →
    Ag P (A.foldl stepA L) ((A.filter c).foldl stepA L')
  | [], L, L', h, _, _, _ => h
  | t :: r, L, L', h, h1, h2, h3 => by
    have hp := h1 t List.mem_cons_self
    have k1 : ∀ q ∈ r, (var q.1).toNat < (stepA L t).length := fun q hq => by rw [stepA_len]; exact h1 q (List.mem_cons_of_mem _ hq)
    have k2 : ∀ q ∈ r, c q = false → ¬ P (var q.1) := fun q hq => h2 q (List.mem_cons_of_mem _ hq)
    have k3 : ∀ q ∈ r, c q = true → P (var q.2.1) ∧ P (var q.2.2) := fun q hq => h3 q (List.mem_cons_of_mem _ hq)
    cases hc : c t with
    | true =>
      rw [List.filter_cons_of_pos hc]
      obtain ⟨g1, g2⟩ := h3 t List.mem_cons_self hc
      refine ag_ands c r _ _ ?_ k1 k2 k3
      unfold stepA
      rw [← ag_lit h g1, ← ag_lit h g2]
      split
      · exact ag_set h (var_nn _) hp _
      · exact h
    | false =>
      rw [List.filter_cons_of_neg (by rw [hc]; decide)]
      refine ag_ands c r _ _ ?_ k1 k2 k3
      unfold stepA
      split
      · exact ag_skip h (var_nn _) hp (h2 t List.mem_cons_self hc) _
      · exact h

/-- What is said of those that count. -/
def proj {α : Type} (c : α → Bool) (T : List α) (s : List Bool) : List Bool := ((T.zip s).filter fun p => c p.1).map (·.2)
theorem zip_proj {α : Type} (c : α → Bool) : ∀ (T : List α) (s : List Bool), T.length = s.length → (T.filter c).zip (proj c T s) = (T.zip s).filter (fun p => c p.1)
  | [], _, _ => by simp [proj]
  | t :: r, [], h => by simp at h
  | t :: r, b :: s, h => by
    have ih := zip_proj c r s (by simpa using h)
    unfold proj at ih ⊢
    cases hc : c t <;> simp [hc, ih]
theorem proj_len {α : Type} (c : α → Bool) : ∀ (T : List α) (s : List Bool), T.length = s.length → (proj c T s).length = (T.filter c).length
  | [], _, _ => by simp [proj]
  | t :: r, [], h => by simp at h
  | t :: r, b :: s, h => by
    have ih := proj_len c r s (by simpa using h)
    unfold proj at ih ⊢
    cases hc : c t <;> simp [hc] at ih ⊢ <;> exact ih
theorem proj_map {α : Type} (c : α → Bool) (f : α → Bool) : ∀ (T : List α), proj c T (T.map f) = (T.filter c).map f
  | [] => by simp [proj]
  | t :: r => by
    have ih := proj_map c f r
    unfold proj at ih ⊢
    cases hc : c t <;> simp [hc] at ih ⊢ <;> exact ih
def lift {α : Type} (c d : α → Bool) : List α → List Bool → List Bool
  | [], _ => []
  | t :: r, s => if c t then (s.headD false) :: lift c d r s.tail else d t :: lift c d r s
theorem lift_len {α : Type} (c d : α → Bool) : ∀ (T : List α) (s : List Bool), (lift c d T s).length = T.length
  | [], _ => rfl
  | t :: r, s => by
    unfold lift
    cases hc : c t <;> simp [lift_len c d r]
theorem proj_lift {α : Type} (c d : α → Bool) : ∀ (T : List α) (s : List Bool), s.length = (T.filter c).length → proj c T (lift c d T s) = s
  | [], s, h => by
    have : s = [] := List.eq_nil_of_length_eq_zero (by simpa using h)
    rw [this]; simp [proj]
  | t :: r, s, h => by
    unfold lift
    cases hc : c t with
    | true =>
      rw [List.filter_cons_of_pos hc] at h
      cases s with
      | nil => simp at h
      | cons b s =>
        have ih := proj_lift c d r s (by simpa using h)
        unfold proj at ih ⊢
        simp [hc, ih]
    | false =>
      rw [List.filter_cons_of_neg (by rw [hc]; decide)] at h
      have ih := proj_lift c d r s h
      unfold proj at ih ⊢
      simp [hc, ih]
theorem lift_zip {α : Type} (c d : α → Bool) : ∀ (T : List α) (s : List Bool), s.length = (T.filter c).length → ∀ p ∈ T.zip (lift c d T s), p ∈ (T.filter c).zip s ∨ p.2 = d p.1
  | [], s, h, p, hp => by simp at hp
  | t :: r, s, h, p, hp => by
    unfold lift at hp
    cases hc : c t with
    | true =>
      rw [List.filter_cons_of_pos hc] at h ⊢
      cases s with
      | nil => simp at h
      | cons b s =>
        simp only [hc, if_true, List.headD_cons, List.tail_cons, List.zip_cons_cons, List.mem_cons] at hp ⊢
        rcases hp with hp | hp
        · exact Or.inl (Or.inl hp)
        · rcases lift_zip c d r s (by simpa using h) p hp with h1 | h1
          · exact Or.inl (Or.inr h1)
          · exact Or.inr h1
    | false =>
      rw [List.filter_cons_of_neg (by rw [hc]; decide)] at h ⊢
      simp only [hc, Bool.false_eq_true, if_false, List.zip_cons_cons, List.mem_cons] at hp
      rcases hp with rfl | hp
      · exact Or.inr rfl
      · exact lift_zip c d r s h p hp

section
variable {x : Circ} {l : List Int} {bl : Int} {A : List (List Int)}

theorem own_at (h : CheckOk x) : ∀ m ∈ ownL x, var m ≠ 0 ∧ (var m).toNat < (x.max + 1).toNat := fun m hm => by
  obtain ⟨h1, h2, h3⟩ := (ownOk_iff.1 h.2.1.1).1 m hm
  have h0 := h.1.1
  unfold var at h3 ⊢
  omega
theorem ins_own {m : Int} (h : m ∈ x.ins) : m ∈ ownL x := by unfold ownL; exact List.mem_append_left _ (List.mem_append_left _ h)
theorem lat_own {t : Tri} (h : t ∈ x.lats) : t.1 ∈ ownL x := by unfold ownL; exact List.mem_append_left _ (List.mem_append_right _ (List.mem_map.2 ⟨t, h, rfl⟩))
theorem and_own {t : Tri} (h : t ∈ x.ands) : t.1 ∈ ownL x := by unfold ownL; exact List.mem_append_right _ (List.mem_map.2 ⟨t, h, rfl⟩)
theorem cnt_no (h : CheckOk x) {m : Int} (hm : m ∈ ownL x) (hc : cnt x l m = false) : ¬ NR x l (var m) := fun hn => by
  rw [cnt_iff.2 ⟨(own_at h m hm).1, hn⟩] at hc
  cases hc

noncomputable abbrev cL (x : Circ) (l : List Int) (t : Tri) : Bool := cnt x l t.1
/-- The values of a reduced circuit. -/
theorem vals_ag (h : CheckOk x) {s i : List Bool} (hs : s.length = x.lats.length) (hi : i.length = x.ins.length) :
    Ag (NR x l) (vals x s i) (vals (reduced x l bl) (proj (cL x l) x.lats s) (proj (cnt x l) x.ins i)) := by
  have e1 : (reduced x l bl).ins.zip (proj (cnt x l) x.ins i) = (x.ins.zip i).filter (fun p => cnt x l p.1) := zip_proj (cnt x l) x.ins i hi.symm
  have e2 : (reduced x l bl).lats.zip (proj (cL x l) x.lats s) = (x.lats.zip s).filter (fun p => cL x l p.1) := zip_proj (cL x l) x.lats s hs.symm
  have e3 : ((x.lats.zip s).filter (fun p => cL x l p.1)).map (fun p => (p.1.1, p.2)) = ((x.lats.zip s).map fun p => (p.1.1, p.2)).filter (fun p => cnt x l p.1) := by
    rw [List.filter_map]; rfl
  have hz : zero (reduced x l bl) = zero x := rfl
  unfold vals base
  rw [e1, e2, e3, hz]
  have i1 : ∀ p ∈ x.ins.zip i, p.1 ∈ ownL x := fun p hp => ins_own (List.of_mem_zip (a := p.1) (b := p.2) hp).1
  have i2 : ∀ p ∈ (x.lats.zip s).map (fun p => (p.1.1, p.2)), p.1 ∈ ownL x := fun p hp => by
    obtain ⟨q, hq, rfl⟩ := List.mem_map.1 hp
    exact lat_own (List.of_mem_zip (a := q.1) (b := q.2) hq).1
  have z : Ag (NR x l) (zero x) (zero x) := ⟨rfl, fun _ _ _ => rfl⟩
  have zl : (zero x).length = (x.max + 1).toNat := by simp [zero]
  have a1 := ag_put (fun p => cnt x l p.1) (x.ins.zip i) _ _ z (fun p hp => by rw [zl]; exact (own_at h _ (i1 p hp)).2) (fun p hp hc => cnt_no h (i1 p hp) hc)
  have a2 := ag_put (fun p => cnt x l p.1) _ _ _ a1 (fun p hp => by rw [putAll_len, zl]; exact (own_at h _ (i2 p hp)).2) (fun p hp hc => cnt_no h (i2 p hp) hc)
  refine ag_ands (fun t => cnt x l t.1) x.ands _ _ a2 (fun t ht => ?_) (fun t ht hc => cnt_no h (and_own ht) hc) (fun t ht hc => ?_)
  · rw [putAll_len, putAll_len, zl]; exact (own_at h _ (and_own ht)).2
  · obtain ⟨c0, c1⟩ := cnt_iff.1 hc
    have hg := gate_ord (ord_of h) ht
    exact ⟨.left c1 c0 hg, .right c1 c0 hg⟩

theorem allow_red (h : CheckOk x) (hA : ∀ m ∈ A.flatten, m ∈ l) (hv : ∀ m ∈ x.invs, m ∈ l) {s i : List Bool} (hs : s.length = x.lats.length) (hi : i.length = x.ins.length) :
    allow (reduced x l bl) A (vals (reduced x l bl) (proj (cL x l) x.lats s) (proj (cnt x l) x.ins i)) = allow x A (vals x s i) := by
  have ag := vals_ag (l := l) (bl := bl) h hs hi
  have hl : ∀ m ∈ l, litV (vals x s i) m = litV (vals (reduced x l bl) (proj (cL x l) x.lats s) (proj (cnt x l) x.ins i)) m := fun m hm => ag_lit ag (.lit hm)
  unfold allow
  generalize vals (reduced x l bl) (proj (cL x l) x.lats s) (proj (cnt x l) x.ins i) = V' at *
  generalize vals x s i = V at *
  have e1 : x.invs.all (litV V') = x.invs.all (litV V) := by
    rw [Bool.eq_iff_iff, List.all_eq_true, List.all_eq_true]
    exact ⟨fun g m hm => (hl m (hv m hm)).trans (g m hm), fun g m hm => (hl m (hv m hm)).symm.trans (g m hm)⟩
  have e2 : (A.all fun c => c.any (litV V')) = A.all fun c => c.any (litV V) := by
    have k : ∀ c ∈ A, c.any (litV V') = c.any (litV V) := fun c hc => by
      rw [Bool.eq_iff_iff, List.any_eq_true, List.any_eq_true]
      have hm : ∀ m ∈ c, m ∈ l := fun m hm => hA m (List.mem_flatten.2 ⟨c, hc, hm⟩)
      exact ⟨fun ⟨m, g1, g2⟩ => ⟨m, g1, (hl m (hm m g1)).trans g2⟩, fun ⟨m, g1, g2⟩ => ⟨m, g1, (hl m (hm m g1)).symm.trans g2⟩⟩
    rw [Bool.eq_iff_iff, List.all_eq_true, List.all_eq_true]
    exact ⟨fun g c hc => (k c hc).symm.trans (g c hc), fun g c hc => (k c hc).trans (g c hc)⟩
  show ((reduced x l bl).invs.all (litV V') && _) = _
  rw [e2]
  exact congrArg (· && _) e1
theorem next_red (h : CheckOk x) {s i : List Bool} (hs : s.length = x.lats.length) (hi : i.length = x.ins.length) :
    next (reduced x l bl) (proj (cL x l) x.lats s) (proj (cnt x l) x.ins i) = proj (cL x l) x.lats (next x s i) := by
  have ag := vals_ag (l := l) (bl := bl) h hs hi
  unfold next
  rw [proj_map]
  refine List.map_congr_left fun t ht => ?_
  obtain ⟨h1, h2⟩ := List.mem_filter.1 ht
  obtain ⟨c0, c1⟩ := cnt_iff.1 h2
  exact (ag_lit ag (.next c1 c0 h1)).symm
theorem next_len (x : Circ) (s i : List Bool) : (next x s i).length = x.lats.length := by simp [next]
theorem R_len : ∀ {n : Nat} {s : List Bool}, R x A n s → s.length = x.lats.length
  | 0, _, h => h.1
  | n + 1, _, ⟨_, _, _, _, _, rfl⟩ => next_len _ _ _
theorem R_proj (h : CheckOk x) (hA : ∀ m ∈ A.flatten, m ∈ l) (hv : ∀ m ∈ x.invs, m ∈ l) : ∀ {n : Nat} {s : List Bool}, R x A n s → R (reduced x l bl) A n (proj (cL x l) x.lats s)
  | 0, s, hr => ⟨proj_len _ _ _ hr.1.symm, fun p hp => by
      have e : (reduced x l bl).lats.zip (proj (cL x l) x.lats s) = (x.lats.zip s).filter (fun p => cL x l p.1) := zip_proj (cL x l) x.lats s hr.1.symm
      rw [e] at hp
      exact hr.2 p (List.mem_filter.1 hp).1⟩
  | n + 1, s, ⟨s0, i, h0, hi, ha, he⟩ => by
    have hs := R_len h0
    refine ⟨_, proj (cnt x l) x.ins i, R_proj h hA hv h0, proj_len _ _ _ hi.symm, ?_, ?_⟩
    · rw [allow_red h hA hv hs hi]; exact ha
    · rw [he, next_red h hs hi]
theorem okB_d (t : Tri) : okB t (t.2.2 == 1) = true := by unfold okB; simp
theorem R_lift (h : CheckOk x) (hA : ∀ m ∈ A.flatten, m ∈ l) (hv : ∀ m ∈ x.invs, m ∈ l) : ∀ {n : Nat} {s' : List Bool}, R (reduced x l bl) A n s' → ∃ s, R x A n s ∧ proj (cL x l) x.lats s = s'
  | 0, s', hr => by
    have hl : s'.length = (x.lats.filter (cL x l)).length := hr.1
    refine ⟨lift (cL x l) (fun t => t.2.2 == 1) x.lats s', ⟨lift_len _ _ _ _, fun p hp => ?_⟩, proj_lift _ _ _ _ hl⟩
    rcases lift_zip _ _ _ _ hl p hp with h1 | h1
    · exact hr.2 p h1
    · rw [h1]; exact okB_d _
  | n + 1, s', ⟨s0', i', h0, hi, ha, he⟩ => by
    obtain ⟨s0, hr, hp⟩ := R_lift h hA hv h0
    have hs := R_len hr
    have hl : i'.length = (x.ins.filter (cnt x l)).length := hi
    have hq := proj_lift (cnt x l) (fun _ => false) x.ins i' hl
    have hi2 := lift_len (cnt x l) (fun _ => false) x.ins i'
    refine ⟨next x s0 (lift (cnt x l) (fun _ => false) x.ins i'), ⟨s0, _, hr, hi2, ?_, rfl⟩, ?_⟩
    · rw [← allow_red (bl := bl) h hA hv hs hi2, hp, hq]; exact ha
    · rw [← next_red (bl := bl) h hs hi2, hp, hq]; exact he.symm
theorem hit_red (h : CheckOk x) (hA : ∀ m ∈ A.flatten, m ∈ l) (hv : ∀ m ∈ x.invs, m ∈ l) (hb : bl ∈ l) (n : Nat) : Hit x A bl n ↔ Hit (reduced x l bl) A bl n := by
  constructor
  · rintro ⟨s, i, hr, hi, ha, hh⟩
    have hs := R_len hr
    refine ⟨_, proj (cnt x l) x.ins i, R_proj h hA hv hr, proj_len _ _ _ hi.symm, ?_, ?_⟩
    · rw [allow_red h hA hv hs hi]; exact ha
    · rw [← ag_lit (vals_ag (l := l) (bl := bl) h hs hi) (.lit hb)]; exact hh
  · rintro ⟨s', i', hr', hi, ha, hh⟩
    obtain ⟨s, hr, hp⟩ := R_lift h hA hv hr'
    have hs := R_len hr
    have hl : i'.length = (x.ins.filter (cnt x l)).length := hi
    have hq := proj_lift (cnt x l) (fun _ => false) x.ins i' hl
    have hi2 := lift_len (cnt x l) (fun _ => false) x.ins i'
    refine ⟨s, _, hr, hi2, ?_, ?_⟩
    · rw [← allow_red (bl := bl) h hA hv hs hi2, hp, hq]; exact ha
    · rw [ag_lit (vals_ag (l := l) (bl := bl) h hs hi2) (.lit hb), hp, hq]; exact hh
end
end BadP
end Go.Proofs.YtjmmhbmbafjneaaGreatDoor

/-
  Plain: all states, numbered; what a search level by level knows; the least number of steps to a Bad.
-/
namespace Go.Proofs.YtjmmhbmbafjneaaGreatDoor
open Go.RowKit Base
set_option linter.unusedVariables false
set_option linter.unusedSimpArgs false
namespace BadP
open Circuit

def twoL (l : List Bool) : List (List Bool) := [l ++ [false], l ++ [true]]
def allL : Nat → List (List Bool)
  | 0 => [[]]
  | n + 1 => (allL n).flatMap twoL
def bitN (b : Bool) : Nat := if b then 1 else 0
def idx (l : List Bool) : Nat := l.foldl (fun n b => 2 * n + bitN b) 0
theorem idx_snoc (l : List Bool) (b : Bool) : idx (l ++ [b]) = 2 * idx l + bitN b := by unfold idx; rw [List.foldl_append]; rfl
theorem flat_len : ∀ L : List (List Bool), (L.flatMap twoL).length = 2 * L.length
  | [] => rfl
  | l :: r => by rw [List.flatMap_cons, List.length_append, flat_len r]; simp [twoL]; omega
theorem allL_len : ∀ n, (allL n).length = 2 ^ n
  | 0 => rfl
  | n + 1 => by rw [allL, flat_len, allL_len n, Nat.pow_succ]; omega
theorem flat_at : ∀ (L : List (List Bool)) (j : Nat) (b : Bool), (L.flatMap twoL)[2 * j + bitN b]? = (L[j]?).map (· ++ [b])
  | [], j, b => by simp
  | l :: r, 0, b => by cases b <;> simp [twoL, bitN]
  | l :: r, j + 1, b => by
    have e : 2 * (j + 1) + bitN b = (2 * j + bitN b) + 2 := by omega
    rw [List.flatMap_cons, e]
    show ((l ++ [false]) :: (l ++ [true]) :: r.flatMap twoL)[(2 * j + bitN b) + 2]? = _
    rw [List.getElem?_cons_succ, List.getElem?_cons_succ, flat_at r j b, List.getElem?_cons_succ]
theorem at_idx : ∀ (n : Nat) (s : List Bool), s.length = n → (allL n)[idx s]? = some s
  | 0, s, h => by rw [List.eq_nil_of_length_eq_zero h]; rfl
  | n + 1, s, h => by
    have hne : s ≠ [] := fun e => by rw [e] at h; simp at h
    have hs := List.dropLast_concat_getLast hne
    rw [← hs, idx_snoc, allL, flat_at, at_idx n _ (by rw [List.length_dropLast]; omega)]
    rfl
theorem at_len : ∀ (n j : Nat) (s : List Bool), (allL n)[j]? = some s → s.length = n
  | 0, j, s, h => by
    cases j with
    | zero => simp [allL] at h; rw [h]; rfl
    | succ j => simp [allL] at h
  | n + 1, j, s, h => by
    have e : j = 2 * (j / 2) + bitN (decide (j % 2 = 1)) := by unfold bitN; by_cases hq : j % 2 = 1 <;> simp [hq] <;> omega
    rw [allL, e, flat_at] at h
    cases hq : (allL n)[j / 2]? with
    | none => rw [hq] at h; cases h
    | some t =>
      rw [hq] at h
      simp at h
      rw [← h, List.length_append, at_len n _ t hq]; rfl
theorem idx_lt {n : Nat} {s : List Bool} (h : s.length = n) : idx s < 2 ^ n := by
  have := (List.getElem?_eq_some_iff.1 (at_idx n s h)).1
  rwa [allL_len] at this
theorem idx_at {n j : Nat} {s : List Bool} (h : (allL n)[j]? = some s) : idx s = j := by
  have hn := at_len n j s h
  induction n generalizing j s with
  | zero =>
    cases j with
    | zero => simp [allL] at h; rw [h]; rfl
    | succ j => simp [allL] at h
  | succ n ih =>
    have e : j = 2 * (j / 2) + bitN (decide (j % 2 = 1)) := by unfold bitN; by_cases hq : j % 2 = 1 <;> simp [hq] <;> omega
    rw [allL, e, flat_at] at h
    cases hq : (allL n)[j / 2]? with
    | none => rw [hq] at h; cases h
    | some t =>
      rw [hq] at h
      simp only [Option.map_some, Option.some.injEq] at h
      rw [← h, idx_snoc, ih hq (at_len n _ t hq), ← e]

section
variable {x : Circ} {A : List (List Int)}

/-- What can be reached can be reached in fewer steps than there are states. -/
theorem R_least {m : Nat} {s : List Bool} (h : R x A m s) : ∃ k, k ≤ m ∧ R x A k s ∧ ∀ k', k' < k → ¬ R x A k' s := by
  induction m using Nat.strongRecOn with
  | _ m ih =>
    by_cases hq : ∃ k', k' < m ∧ R x A k' s
    · obtain ⟨k', h1, h2⟩ := hq
      obtain ⟨k, g1, g2, g3⟩ := ih k' h1 h2
      exact ⟨k, by omega, g2, g3⟩
    · exact ⟨m, Nat.le_refl _, h, fun k' h1 h2 => hq ⟨k', h1, h2⟩⟩
theorem R_down {k : Nat} (h : ∃ t, R x A (k + 1) t ∧ ∀ k', k' < k + 1 → ¬ R x A k' t) : ∃ t, R x A k t ∧ ∀ k', k' < k → ¬ R x A k' t := by
  obtain ⟨t, ⟨t0, i, h0, hi, ha, he⟩, hm⟩ := h
  exact ⟨t0, h0, fun k' hk hr => hm (k' + 1) (by omega) ⟨t0, i, hr, hi, ha, he⟩⟩
theorem R_all {k : Nat} : ∀ d, (∃ t, R x A (k + d) t ∧ ∀ k', k' < k + d → ¬ R x A k' t) → ∃ t, R x A k t ∧ ∀ k', k' < k → ¬ R x A k' t
  | 0, h => h
  | d + 1, h => R_all d (R_down h)
theorem R_short {m : Nat} {s : List Bool} (h : R x A m s) : ∃ k, k ≤ m ∧ k < 2 ^ x.lats.length ∧ R x A k s := by
  obtain ⟨k, hk, hr, hm⟩ := R_least h
  refine ⟨k, hk, ?_, hr⟩
  have hq : ∀ j : Nat, ∃ t : List Bool, j ≤ k → R x A j t ∧ ∀ k', k' < j → ¬ R x A k' t := fun j => by
    by_cases hj : j ≤ k
    · obtain ⟨t, ht⟩ := R_all (x := x) (A := A) (k := j) (k - j) ⟨s, by have e : j + (k - j) = k := by omega
                                                                        rw [e]; exact ⟨hr, hm⟩⟩
      exact ⟨t, fun _ => ht⟩
    · exact ⟨[], fun h => absurd h hj⟩
  have hnd : ((List.range (k + 1)).map fun j => (idx (Classical.choose (hq j)) : Int)).Nodup := by
    have hinj : ∀ a ∈ List.range (k + 1), ∀ b ∈ List.range (k + 1), (idx (Classical.choose (hq a)) : Int) = (idx (Classical.choose (hq b)) : Int) → a = b := fun a ha b hb e => by
      rw [List.mem_range] at ha hb
      obtain ⟨a1, a2⟩ := Classical.choose_spec (hq a) (by omega)
      obtain ⟨b1, b2⟩ := Classical.choose_spec (hq b) (by omega)
      have e' : idx (Classical.choose (hq a)) = idx (Classical.choose (hq b)) := by omega
      have e2 : Classical.choose (hq a) = Classical.choose (hq b) := by
        have h1 := at_idx _ _ (R_len a1)
        have h2 := at_idx _ _ (R_len b1)
        rw [e'] at h1
        exact Option.some.inj (h1.symm.trans h2)
      rcases Nat.lt_trichotomy a b with h | h | h
      · exact absurd (e2 ▸ a1) (b2 a h)
      · exact h
      · exact absurd (e2 ▸ b1) (a2 b h)
    have hr : (List.range (k + 1)).Nodup := List.nodup_range
    generalize List.range (k + 1) = L at hinj hr
    clear hm hk
    induction L with
    | nil => exact List.nodup_nil
    | cons y r ih =>
      rw [List.nodup_cons] at hr
      rw [List.map_cons, List.nodup_cons]
      refine ⟨fun hmem => ?_, ih (fun a ha b hb => hinj a (List.mem_cons_of_mem _ ha) b (List.mem_cons_of_mem _ hb)) hr.2⟩
      obtain ⟨z, hz, he⟩ := List.mem_map.1 hmem
      have := hinj z (List.mem_cons_of_mem _ hz) y List.mem_cons_self he
      exact hr.1 (this ▸ hz)
  have := nodup_len hnd (C := (List.range (2 ^ x.lats.length)).map fun (j : Nat) => (j : Int)) (fun v hv => by
    obtain ⟨j, hj, rfl⟩ := List.mem_map.1 hv
    rw [List.mem_range] at hj
    obtain ⟨a1, _⟩ := Classical.choose_spec (hq j) (by omega)
    exact List.mem_map.2 ⟨_, List.mem_range.2 (idx_lt (R_len a1)), rfl⟩)
  simp at this
  omega

/-- A level is done. -/
structure Lv (x : Circ) (A : List (List Int)) (n : Nat) (out : List Int) : Prop where
  len : out.length = 2 ^ x.lats.length
  hi : ∀ (j : Nat) (v : Int), out[j]? = some v → v ≤ n
  sound : ∀ (j : Nat) (v : Int), out[j]? = some v → 0 ≤ v → ∃ s, (allL x.lats.length)[j]? = some s ∧ R x A v.toNat s
  comp : ∀ (m : Nat) (s : List Bool), m ≤ n → R x A m s → ∃ v, out[idx s]? = some v ∧ 0 ≤ v ∧ v ≤ m
/-- In the middle of a level. -/
structure Mid (x : Circ) (A : List (List Int)) (n i k : Nat) (out : List Int) : Prop where
  len : out.length = 2 ^ x.lats.length
  hi : ∀ (j : Nat) (v : Int), out[j]? = some v → v ≤ n + 1
  sound : ∀ (j : Nat) (v : Int), out[j]? = some v → 0 ≤ v → ∃ s, (allL x.lats.length)[j]? = some s ∧ R x A v.toNat s
  comp : ∀ (m : Nat) (s : List Bool), m ≤ n → R x A m s → ∃ v, out[idx s]? = some v ∧ 0 ≤ v ∧ v ≤ m
  mid : ∀ (i' k' : Nat), (i' < i ∨ (i' = i ∧ k' < k)) → ∀ s inp, (allL x.lats.length)[i']? = some s → (allL x.ins.length)[k']? = some inp → out[i']? = some (n : Int) → allow x A (vals x s inp) = true →
    ∃ v, out[idx (next x s inp)]? = some v ∧ 0 ≤ v ∧ v ≤ n + 1
theorem mid_start {n : Nat} {out : List Int} (h : Lv x A n out) : Mid x A n 0 0 out :=
  ⟨h.len, fun j v hv => by have := h.hi j v hv; omega, h.sound, h.comp, fun i' k' hik => by omega⟩
theorem mid_more {n i k : Nat} {out : List Int} (h : Mid x A n i k out) (hk : ∀ s inp, (allL x.lats.length)[i]? = some s → (allL x.ins.length)[k]? = some inp → out[i]? = some (n : Int) → allow x A (vals x s inp) = true → ∃ v, out[idx (next x s inp)]? = some v ∧ 0 ≤ v ∧ v ≤ n + 1) :
    Mid x A n i (k + 1) out :=
  ⟨h.len, h.hi, h.sound, h.comp, fun i' k' hik s inp hs hi => by
    by_cases e : i' = i ∧ k' = k
    · obtain ⟨rfl, rfl⟩ := e; exact hk s inp hs hi
    · exact h.mid i' k' (by omega) s inp hs hi⟩
theorem mid_no {n i k : Nat} {out : List Int} (h : Mid x A n i k out) {s inp : List Bool} (hs : (allL x.lats.length)[i]? = some s) (hi : (allL x.ins.length)[k]? = some inp) (ha : allow x A (vals x s inp) = false) : Mid x A n i (k + 1) out :=
  mid_more h fun s' inp' hs' hi' _ ha' => by
    rw [hs] at hs'; rw [hi] at hi'
    cases hs'; cases hi'
    rw [ha] at ha'; cases ha'
theorem mid_old {n i k : Nat} {out : List Int} (h : Mid x A n i k out) {s inp : List Bool} (hs : (allL x.lats.length)[i]? = some s) (hi : (allL x.ins.length)[k]? = some inp) {v : Int} (hv : out[idx (next x s inp)]? = some v) (h0 : 0 ≤ v) : Mid x A n i (k + 1) out :=
  mid_more h fun s' inp' hs' hi' _ ha' => by
    rw [hs] at hs'; rw [hi] at hi'
    cases hs'; cases hi'
    exact ⟨v, hv, h0, h.hi _ _ hv⟩
theorem mid_new {n i k : Nat} {out : List Int} (h : Mid x A n i k out) {s inp : List Bool} (hs : (allL x.lats.length)[i]? = some s) (hi : (allL x.ins.length)[k]? = some inp) (hn : out[i]? = some (n : Int)) (ha : allow x A (vals x s inp) = true)
    {v : Int} (hv : out[idx (next x s inp)]? = some v) (h0 : v < 0) : Mid x A n i (k + 1) (out.set (idx (next x s inp)) (n + 1)) := by
  obtain ⟨t, ht⟩ : ∃ t, next x s inp = t := ⟨_, rfl⟩
  have htl : t.length = x.lats.length := by rw [← ht]; exact next_len _ _ _
  have hlt : idx t < out.length := by rw [h.len]; exact idx_lt htl
  rw [ht] at hv ⊢
  have hin : inp.length = x.ins.length := at_len _ _ _ hi
  obtain ⟨s2, hs2, hr⟩ := h.sound i n hn (by omega)
  rw [hs] at hs2
  cases hs2
  have hr2 : R x A (n + 1) t := ⟨s, inp, by simpa using hr, hin, ha, ht.symm⟩
  have get : ∀ j, (out.set (idx t) ((n : Int) + 1))[j]? = if idx t = j then some ((n : Int) + 1) else out[j]? := fun j => by
    rw [List.getElem?_set]
    by_cases e : idx t = j
    · rw [if_pos e, if_pos e, if_pos (by omega)]
    · rw [if_neg e, if_neg e]
  have keep : ∀ (j : Nat) (u : Int), out[j]? = some u → 0 ≤ u → (out.set (idx t) ((n : Int) + 1))[j]? = some u := fun j u hu hu0 => by
    rw [get, if_neg (fun e => by rw [← e, hv] at hu; cases hu; omega), hu]
  refine ⟨by rw [List.length_set]; exact h.len, fun j u hu => ?_, fun j u hu hu0 => ?_, fun m s' hm hr' => ?_, fun i' k' hik s' inp' hs' hi' hn' ha' => ?_⟩
  · rw [get] at hu
    by_cases e : idx t = j
    · rw [if_pos e] at hu; cases hu; omega
    · rw [if_neg e] at hu; exact h.hi _ _ hu
  · rw [get] at hu
    by_cases e : idx t = j
    · rw [if_pos e] at hu
      cases hu
      refine ⟨t, by rw [← e]; exact at_idx _ _ htl, ?_⟩
      have e2 : ((n : Int) + 1).toNat = n + 1 := by omega
      rw [e2]; exact hr2
    · rw [if_neg e] at hu; exact h.sound _ _ hu hu0
  · obtain ⟨u, g1, g2, g3⟩ := h.comp m s' hm hr'
    exact ⟨u, keep _ _ g1 g2, g2, g3⟩
  · have hn2 : out[i']? = some (n : Int) := by
      rw [get] at hn'
      by_cases e : idx t = i'
      · rw [if_pos e] at hn'; injection hn' with hn'; omega
      · rw [if_neg e] at hn'; exact hn'
    by_cases e : i' = i ∧ k' = k
    · obtain ⟨rfl, rfl⟩ := e
      rw [hs] at hs'; rw [hi] at hi'
      cases hs'; cases hi'
      rw [ht]
      exact ⟨_, by rw [get, if_pos rfl], by omega, Int.le_refl _⟩
    · obtain ⟨u, g1, g2, g3⟩ := h.mid i' k' (by omega) s' inp' hs' hi' hn2 ha'
      exact ⟨u, keep _ _ g1 g2, g2, g3⟩
theorem mid_row {n i k : Nat} {out : List Int} (h : Mid x A n i k out) (hk : 2 ^ x.ins.length ≤ k ∨ out[i]? ≠ some (n : Int)) : Mid x A n (i + 1) 0 out :=
  ⟨h.len, h.hi, h.sound, h.comp, fun i' k' hik s inp hs hi hn => by
    by_cases e : i' = i
    · subst e
      rcases hk with hk | hk
      · have h1 := (List.getElem?_eq_some_iff.1 hi).1
        rw [allL_len] at h1
        exact h.mid i' k' (by omega) s inp hs hi hn
      · exact absurd hn hk
    · exact h.mid i' k' (by omega) s inp hs hi hn⟩
theorem mid_end {n i : Nat} {out : List Int} (h : Mid x A n i 0 out) (hi : 2 ^ x.lats.length ≤ i) : Lv x A (n + 1) out :=
  ⟨h.len, fun j v hv => by have := h.hi j v hv; omega, h.sound, fun m s hm hr => by
    by_cases hmn : m ≤ n
    · exact h.comp m s hmn hr
    · obtain rfl : m = n + 1 := by omega
      obtain ⟨s0, inp, h0, hin, ha, rfl⟩ := hr
      obtain ⟨v, g1, g2, g3⟩ := h.comp n s0 (Nat.le_refl _) h0
      by_cases hv : v = n
      · subst hv
        have hl := idx_lt (R_len h0)
        obtain ⟨u, k1, k2, k3⟩ := h.mid (idx s0) (idx inp) (Or.inl (by omega)) s0 inp (at_idx _ _ (R_len h0)) (at_idx _ _ hin) g1 ha
        exact ⟨u, k1, k2, by omega⟩
      · obtain ⟨s1, k1, k2⟩ := h.sound _ _ g1 g2
        rw [at_idx _ _ (R_len h0)] at k1
        cases k1
        have hr2 : R x A (v.toNat + 1) (next x s0 inp) := ⟨s0, inp, k2, hin, ha, rfl⟩
        obtain ⟨u, q1, q2, q3⟩ := h.comp (v.toNat + 1) _ (by omega) hr2
        exact ⟨u, q1, q2, by omega⟩⟩
/-- All is known. -/
structure SOut (x : Circ) (A : List (List Int)) (out : List Int) : Prop where
  len : out.length = 2 ^ x.lats.length
  sound : ∀ (j : Nat) (v : Int), out[j]? = some v → 0 ≤ v → ∃ s, (allL x.lats.length)[j]? = some s ∧ R x A v.toNat s
  comp : ∀ (m : Nat) (s : List Bool), R x A m s → ∃ v, out[idx s]? = some v ∧ 0 ≤ v ∧ v ≤ m
theorem lv_end {n : Nat} {out : List Int} (h : Lv x A n out) (hn : 2 ^ x.lats.length ≤ n) : SOut x A out :=
  ⟨h.len, h.sound, fun m s hr => by
    obtain ⟨k, h1, h2, h3⟩ := R_short hr
    obtain ⟨v, g1, g2, g3⟩ := h.comp k s (by omega) h3
    exact ⟨v, g1, g2, by omega⟩⟩
theorem lv_first {out : List Int} (hl : out.length = 2 ^ x.lats.length) (h : ∀ (j : Nat) s, (allL x.lats.length)[j]? = some s → out[j]? = some (if tt (initL x s) = true then 0 else -1)) : Lv x A 0 out := by
  have key : ∀ (j : Nat) (v : Int), out[j]? = some v → ∃ s, (allL x.lats.length)[j]? = some s ∧ v = if tt (initL x s) = true then 0 else -1 := fun j v hv => by
    have h1 := (List.getElem?_eq_some_iff.1 hv).1
    obtain ⟨s, hs⟩ : ∃ s, (allL x.lats.length)[j]? = some s := ⟨_, List.getElem?_eq_getElem (by rw [allL_len, ← hl]; exact h1)⟩
    refine ⟨s, hs, ?_⟩
    rw [h j s hs] at hv
    injection hv with hv
    exact hv.symm
  refine ⟨hl, fun j v hv => ?_, fun j v hv h0 => ?_, fun m s hm hr => ?_⟩
  · obtain ⟨s, _, rfl⟩ := key j v hv
    split <;> omega
  · obtain ⟨s, hs, rfl⟩ := key j v hv
    by_cases hq : initL x s
    · rw [tt_pos hq]; exact ⟨s, hs, hq⟩
    · rw [tt_neg hq] at h0; simp at h0
  · obtain rfl : m = 0 := by omega
    have hr' : initL x s := hr
    exact ⟨0, by rw [h _ s (at_idx _ _ hr'.1), tt_pos hr']; rfl, by omega, by omega⟩

/-- What a search for the least number of steps knows. -/
structure BI (x : Circ) (A : List (List Int)) (b : Int) (out : List Int) (i k : Nat) (best : Int) : Prop where
  what : best = -1 ∨ ∃ n : Nat, best = n ∧ Hit x A b n
  mid : ∀ (i' k' : Nat), (i' < i ∨ (i' = i ∧ k' < k)) → ∀ s inp v, (allL x.lats.length)[i']? = some s → (allL x.ins.length)[k']? = some inp → out[i']? = some v → 0 ≤ v → allow x A (vals x s inp) = true → litV (vals x s inp) b = true →
    0 ≤ best ∧ best ≤ v
def IsBad (x : Circ) (A : List (List Int)) (b : Int) (r : Int) : Prop := (r = -1 ∧ ∀ n, ¬ Hit x A b n) ∨ ∃ n : Nat, r = n ∧ Hit x A b n ∧ ∀ m, Hit x A b m → n ≤ m
theorem bi_start (b : Int) (out : List Int) : BI x A b out 0 0 (-1) := ⟨Or.inl rfl, fun i' k' hik => by omega⟩
theorem bi_stay {b : Int} {out : List Int} {i k : Nat} {best : Int} (h : BI x A b out i k best) (hk : ∀ s inp v, (allL x.lats.length)[i]? = some s → (allL x.ins.length)[k]? = some inp → out[i]? = some v → 0 ≤ v → allow x A (vals x s inp) = true → litV (vals x s inp) b = true → 0 ≤ best ∧ best ≤ v) :
    BI x A b out i (k + 1) best :=
  ⟨h.what, fun i' k' hik s inp v hs hi => by
    by_cases e : i' = i ∧ k' = k
    · obtain ⟨rfl, rfl⟩ := e; exact hk s inp v hs hi
    · exact h.mid i' k' (by omega) s inp v hs hi⟩
theorem bi_new {b : Int} {out : List Int} {i k : Nat} {best : Int} (h : BI x A b out i k best) (hS : SOut x A out) {s inp : List Bool} {v : Int} (hs : (allL x.lats.length)[i]? = some s) (hi : (allL x.ins.length)[k]? = some inp) (hv : out[i]? = some v) (h0 : 0 ≤ v)
    (ha : allow x A (vals x s inp) = true) (hb : litV (vals x s inp) b = true) (hlt : best < 0 ∨ v < best) : BI x A b out i (k + 1) v := by
  obtain ⟨s2, hs2, hr⟩ := hS.sound i v hv h0
  rw [hs] at hs2
  cases hs2
  refine ⟨Or.inr ⟨v.toNat, by omega, s, inp, hr, at_len _ _ _ hi, ha, hb⟩, fun i' k' hik s' inp' v' hs' hi' hv' h0' ha' hb' => ?_⟩
  by_cases e : i' = i ∧ k' = k
  · obtain ⟨rfl, rfl⟩ := e
    rw [hv] at hv'
    cases hv'
    omega
  · have := h.mid i' k' (by omega) s' inp' v' hs' hi' hv' h0' ha' hb'
    omega
theorem bi_row {b : Int} {out : List Int} {i k : Nat} {best : Int} (h : BI x A b out i k best) (hk : 2 ^ x.ins.length ≤ k ∨ ∀ v, out[i]? = some v → v < 0) : BI x A b out (i + 1) 0 best :=
  ⟨h.what, fun i' k' hik s inp v hs hi hv h0 => by
    by_cases e : i' = i
    · subst e
      rcases hk with hk | hk
      · have h1 := (List.getElem?_eq_some_iff.1 hi).1
        rw [allL_len] at h1
        exact h.mid i' k' (by omega) s inp v hs hi hv h0
      · have := hk v hv; omega
    · exact h.mid i' k' (by omega) s inp v hs hi hv h0⟩
theorem bi_end {b : Int} {out : List Int} {i : Nat} {best : Int} (h : BI x A b out i 0 best) (hS : SOut x A out) (hi : 2 ^ x.lats.length ≤ i) : IsBad x A b best := by
  have key : ∀ m, Hit x A b m → 0 ≤ best ∧ best ≤ m := fun m hm => by
    obtain ⟨s, inp, hr, hin, ha, hb⟩ := hm
    obtain ⟨v, g1, g2, g3⟩ := hS.comp m s hr
    have hl := idx_lt (R_len hr)
    have := h.mid (idx s) (idx inp) (Or.inl (by omega)) s inp v (at_idx _ _ (R_len hr)) (at_idx _ _ hin) g1 g2 ha hb
    omega
  rcases h.what with h1 | ⟨n, h1, h2⟩
  · exact Or.inl ⟨h1, fun n hn => by have := key n hn; omega⟩
  · exact Or.inr ⟨n, h1, h2, fun m hm => by have := key m hm; omega⟩
theorem isBad_same {x y : Circ} {A : List (List Int)} {b b' r r' : Int} (h : IsBad x A b r) (h' : IsBad y A b' r') (hh : ∀ n, Hit x A b n ↔ Hit y A b' n) : r = r' := by
  rcases h with ⟨h1, h2⟩ | ⟨n, h1, h2, h3⟩ <;> rcases h' with ⟨g1, g2⟩ | ⟨m, g1, g2, g3⟩
  · rw [h1, g1]
  · exact absurd ((hh m).2 g2) (h2 m)
  · exact absurd ((hh n).1 h2) (g2 n)
  · have := h3 m ((hh m).2 g2)
    have := g3 n ((hh n).1 h2)
    omega
end
end BadP
end Go.Proofs.YtjmmhbmbafjneaaGreatDoor

/-
  interlockref01.Var of a literal that is none below 0.
-/
namespace Go.Proofs.YtjmmhbmbafjneaaGreatDoor
open Go.RowKit Base
set_option linter.unusedVariables false
set_option linter.unusedSimpArgs false
namespace RefV
open Circuit

theorem refVar_any (a : Int) (h0 : 0 ≤ a) (h1 : a ≤ 9223372036854775807) (w : World) : Calls Tryz.prog 47 #[.int .i64 a] w fun e w' => e = .returned (.int .i64 (var a)) ∧ w' = w := by
  have hn : ¬ a < 0 := by omega
  have HV : Hid (var a = a / 2) := by show _ = _; unfold var; omega
  have HD : Hid (Int.tdiv a 2 = a / 2) := Int.tdiv_eq_ediv_of_nonneg h0
  go_enter Tryz.func47, Tryz.ntmps47
  go_wp2
  all_goals
    go_ret
    exact ⟨ret_int (by have := HV.out; have := HD.out; first | omega | (rw [HV.out, HD.out]) | (rw [HV.out])), rfl⟩
theorem refVar_all (a : Int) (h0 : -9223372036854775808 ≤ a) (h1 : a ≤ 9223372036854775807) (w : World) : Calls Tryz.prog 47 #[.int .i64 a] w fun e w' => e = .returned (.int .i64 (var a)) ∧ w' = w := by
  by_cases hn : a < 0
  · have HV : Hid (var a = 0) := by show _ = _; unfold var; omega
    go_enter Tryz.func47, Tryz.ntmps47
    go_wp2
    all_goals
      go_ret
      exact ⟨ret_int (by rw [HV.out]), rfl⟩
  · exact refVar_any a (by omega) h1 w
end RefV
end Go.Proofs.YtjmmhbmbafjneaaGreatDoor

/-
  interlockref07.Bits: is a text so many bits?
-/
namespace Go.Proofs.YtjmmhbmbafjneaaGreatDoor
open Go.RowKit Base
set_option linter.unusedVariables false
namespace RefBits

def bit (c : UInt8) : Bool := c == 48 || c == 49
def bits (s : List UInt8) (n : Int) : Bool := s.all bit && decide ((s.length : Int) = n)

theorem all_take_more {s : ByteArray} {k : Nat} (hk : k < s.size) (h : (s.data.toList.take k).all bit = true) (hb : bit s[k] = true) : (s.data.toList.take (k + 1)).all bit = true := by
  have e : s.data.toList.take (k + 1) = s.data.toList.take k ++ [s[k]] := by
    rw [List.take_succ_eq_append_getElem (by simpa using hk)]; rfl
  rw [e, List.all_append, h]
  simp [hb]

theorem all_no {s : ByteArray} {k : Nat} (hk : k < s.size) (hb : bit s[k] = false) : s.data.toList.all bit = false := by
  rw [List.all_eq_false]
  refine ⟨s[k], ?_, by simp [hb]⟩
  have : s[k] = s.data.toList[k]'(by simpa using hk) := rfl
  rw [this]
  exact List.getElem_mem _

set_option maxHeartbeats 1000000 in
theorem bits_any (w : World) (s : ByteArray) (hs : s.size ≤ 9223372036854775807) (n : Int) :
    Calls Tryz.prog 43 #[.string s, .int .i64 n] w fun e w' => e = .returned (.bool (bits s.data.toList n)) ∧ w = w' := by
  go_enter Tryz.func43, Tryz.ntmps43
  go_wp2
  go_loop [5] (fun i => ∃ k : Nat, k ≤ s.size ∧ i = .int .i64 k ∧ Hid ((s.data.toList.take k).all bit = true)) (fun i => s.size - (intOf i).toNat)
  case atStart => exact ⟨0, Nat.zero_le _, rfl, rfl⟩
  case round =>
    obtain ⟨k, hk, rfl, hI⟩ := hrel
    by_cases hlt : k < s.size
    · generalize hq : s[k] = q at *
      have HQ := Lib.hid hq
      have hix : s[k] = q := hq
      by_cases h0 : q = 48
      · have v0 : ((q.toNat : Int) != 48) = false := by rw [h0]; rfl
        have H0 := Lib.hid h0
        clear h0 hq
        go_wp2
        go_round
        case rel => exact ⟨k + 1, by omega, by go_num, all_take_more hlt hI.out (by rw [HQ.out, H0.out]; rfl)⟩
        case measure => simp [intOf]; omega
      · have v0 : ((q.toNat : Int) != 48) = true := by have := byte_ne q 48 h0; simp only [bne]; rw [show (48 : Int) = ((48 : UInt8).toNat : Int) from rfl, this]; rfl
        by_cases h1 : q = 49
        · have v1 : ((q.toNat : Int) != 49) = false := by rw [h1]; rfl
          have H0 := Lib.hid h1
          clear h0 h1 hq
          go_wp2
          go_round
          case rel => exact ⟨k + 1, by omega, by go_num, all_take_more hlt hI.out (by rw [HQ.out, H0.out]; rfl)⟩
          case measure => simp [intOf]; omega
        · have v1 : ((q.toNat : Int) != 49) = true := by have := byte_ne q 49 h1; simp only [bne]; rw [show (49 : Int) = ((49 : UInt8).toNat : Int) from rfl, this]; rfl
          have HB := Lib.hid (show bit q = false by unfold bit; simp [h0, h1])
          clear h0 h1 hq
          go_wp2
          go_ret
          exact ⟨ret_bool (by unfold bits; rw [all_no hlt (by rw [HQ.out]; exact HB.out)]; rfl), rfl⟩
    · go_wp2
      go_ret
      have e : s.data.toList.take k = s.data.toList := List.take_of_length_le (by simp; omega)
      refine ⟨ret_bool ?_, rfl⟩
      unfold bits
      rw [← e, hI.out, e]
      have : (s.data.toList.length : Int) = s.size := by simp
      rw [this]
      rfl
end RefBits
end Go.Proofs.YtjmmhbmbafjneaaGreatDoor

/-
  interlockref07.Initial: is a state a first one?
-/
namespace Go.Proofs.YtjmmhbmbafjneaaGreatDoor
open Go.RowKit Base
set_option linter.unusedVariables false
set_option linter.unusedSimpArgs false
namespace Initial
open Circuit (cbox_new)

/-- May a latch begin so? -/
def okLat (t : Tri) (b : UInt8) : Bool := !((t.2.2 != t.1) && ((t.2.2 == 1) != ((b.toNat : Int) == 49)))
def initialB (lats : List Tri) (s : ByteArray) : Bool := RefBits.bits s.data.toList lats.length && (List.zipWith okLat lats s.data.toList).all id

theorem all_to {lats : List Tri} {l : List UInt8} (h : ∀ j (h1 : j < lats.length) (h2 : j < l.length), okLat lats[j] l[j] = true) : (List.zipWith okLat lats l).all id = true := by
  rw [List.all_eq_true]
  intro b hb
  obtain ⟨j, hj, rfl⟩ := List.mem_iff_getElem.1 hb
  rw [List.length_zipWith] at hj
  rw [List.getElem_zipWith]
  exact h j (by omega) (by omega)
theorem all_not {lats : List Tri} {l : List UInt8} {j : Nat} (h1 : j < lats.length) (h2 : j < l.length) (h : okLat lats[j] l[j] = false) : (List.zipWith okLat lats l).all id = false := by
  rw [Bool.eq_false_iff]
  intro ha
  rw [List.all_eq_true] at ha
  have := ha (okLat lats[j] l[j]) (List.mem_iff_getElem.2 ⟨j, by rw [List.length_zipWith]; omega, by rw [List.getElem_zipWith]⟩)
  rw [h] at this
  cases this

set_option maxRecDepth 8000 in
set_option maxHeartbeats 4000000 in
theorem initial_any (w : World) (x : Circ) (p : At) (hin : InCirc w x p) (s : ByteArray) (hs : s.size ≤ 9223372036854775807) :
    Calls Tryz.prog 33 #[.agg (cells x p), .string s] w fun e w' => e = .returned (.bool (initialB x.lats s)) ∧ Below w.heap.size w w' := by
  obtain ⟨W1, hW1⟩ : ∃ U, w.alloc (.cells (cells x p) 27) = U := ⟨_, rfl⟩
  obtain ⟨hb1, hx1⟩ := cbox_new w x p W1 hW1
  have HB1 := Lib.hid hb1
  have HX1 := Lib.hid hx1
  have HL := Lib.hid (hin.next hb1).lats
  have hcap := hin.lats.cap
  have hbig := hin.lats.big
  have HBI := Lib.hid (RefBits.bits_any W1 s hs (x.lats.length : Int))
  have HV : Hid (initialB x.lats s = (RefBits.bits s.data.toList (x.lats.length : Int) && (List.zipWith okLat x.lats s.data.toList).all id)) := rfl
  have hlen : RefBits.bits s.data.toList (x.lats.length : Int) = true → s.size = x.lats.length := by
    intro h
    unfold RefBits.bits at h
    rw [Bool.and_eq_true, decide_eq_true_eq] at h
    have e : s.data.toList.length = s.size := by rw [Array.length_toList]; rfl
    have := h.2
    omega
  have k2 := hx1.k2
  generalize hin2 : initialB x.lats s = V at *
  generalize hbt : RefBits.bits s.data.toList (x.lats.length : Int) = B at *
  clear hin hb1 hx1 hin2 hbt hs
  unfold cells at *
  go_enter Tryz.func33, Tryz.ntmps33
  go_wp2_with fail
  with_reducible refine HBI.out.mono ?_
  rintro e w2 ⟨rfl, rfl⟩
  cases B
  · have HVF : Hid (V = false) := by show _ = _; rw [HV.out]; rfl
    go_wp2_with fail
    go_ret
    exact ⟨by rw [HVF.out]; rfl, HB1.out⟩
  · have hsz := hlen rfl
    have HVT : Hid (V = (List.zipWith okLat x.lats s.data.toList).all id) := by show _ = _; rw [HV.out]; rfl
    generalize hn : x.lats.length = n at *
    have HN := Lib.hid hn
    have HSZ := Lib.hid hsz
    clear hlen hn
    have hsn : (s.size : Int) = (n : Int) := by rw [hsz]
    go_wp2_with fail
    go_loopw [5] (fun i wr => ∃ k : Nat, k ≤ n ∧ i = .int .i64 k ∧ Hid (∀ j (h1 : j < x.lats.length) (h2 : j < s.data.toList.length), j < k → okLat x.lats[j] s.data.toList[j] = true) ∧ Hid (Below W1.heap.size W1 wr)) (fun i _ => n - (intOf i).toNat)
    case atStart => exact ⟨0, Nat.zero_le _, rfl, (by intro j h1 h2 h3; omega), Below.refl _ _⟩
    case round =>
      obtain ⟨k, hk, rfl, hI, hB⟩ := hrel
      have q2 := (HX1.out.next hB.out (Nat.le_refl _)).k2
      rw [HN.out] at q2
      by_cases hlt : k < n
      · obtain ⟨bl, ol, hx, hae, hbs, d0, d1, d2⟩ := (HL.out.next hB.out).tri hlt
        rw [hae] at q2
        have hks : k < s.size := by omega
        have hkl : k < s.data.toList.length := by rw [Array.length_toList]; exact hks
        have HAL := Lib.hid (fun (h : okLat x.lats[k] s.data.toList[k] = false) => all_not hx hkl h)
        have HMO : Hid (okLat x.lats[k] s.data.toList[k] = true → ∀ j (h1 : j < x.lats.length) (h2 : j < s.data.toList.length), j < k + 1 → okLat x.lats[j] s.data.toList[j] = true) := by
          intro h j h1 h2 h3
          by_cases he : j = k
          · subst he; exact h
          · exact hI.out j h1 h2 (by omega)
        have HOK : Hid (okLat x.lats[k] s.data.toList[k] = !((x.lats[k].2.2 != x.lats[k].1) && ((x.lats[k].2.2 == 1) != (((s[k]).toNat : Int) == 49)))) := rfl
        generalize okLat x.lats[k] s.data.toList[k] = ok at *
        generalize x.lats[k] = t at *
        generalize hb1 : (t.2.2 != t.1) = b1 at *
        generalize hb2 : (t.2.2 == 1) = b2 at *
        generalize hb3 : (((s[k]).toNat : Int) == 49) = b3 at *
        clear hae
        cases b1 <;> cases b2 <;> cases b3
        all_goals go_wp2_with fail
        all_goals first
          | (go_roundw
             case rel => exact ⟨k + 1, by omega, by go_num, HMO.out (by rw [HOK.out]; rfl), hB⟩
             case measure => simp [intOf]; omega)
          | (go_ret
             have HVV : V = false := by rw [HVT.out]; exact HAL.out (by rw [HOK.out]; rfl)
             exact ⟨by rw [HVV]; rfl, HB1.out.trans (hB.out.mono HB1.out.size)⟩)
      · have HVV : Hid (V = true) := by
          show _ = _
          rw [HVT.out]
          exact all_to fun j h1 h2 => hI.out j h1 h2 (by have := HN.out; omega)
        have hks : ¬ k < s.size := by omega
        go_wp2_with fail
        go_ret
        exact ⟨by rw [HVV.out]; rfl, HB1.out.trans (hB.out.mono HB1.out.size)⟩
end Initial
end Go.Proofs.YtjmmhbmbafjneaaGreatDoor

/-
  A region that draws its order, with loads and operations that make memory: a condition S on the world that every operation keeps; a load under S may be taken first. No program's function.
-/
namespace Go.Proofs.YtjmmhbmbafjneaaGreatDoor
open Go.RowKit
set_option linter.unusedVariables false
namespace HeldAll

section
variable {P : Program} {ops : Array Oper} {Q : Exit → Act → World → Prop} {md : Region.Mode} {S : World → Prop}

def wpAnyH (P : Program) (md : Region.Mode) (ops : Array Oper) (Q : Exit → Act → World → Prop) (S : World → Prop) : Nat → Array Bool → Act → World → Prop
  | 0, listed, a, w => Region.ready md ops listed = [] ∧ Q .normal a w
  | fuel + 1, listed, a, w =>
    (Region.ready md ops listed = [] → Q .normal a w) ∧
    ∀ i ∈ Region.ready md ops listed, wpOp P ops Q i (fun a' w' => S w' ∧ wpAnyH P md ops Q S fuel (listed.setIfInBounds i true) a' w') a w

theorem wpAny_of_H : ∀ (fuel : Nat) (listed : Array Bool) (a : Act) (w : World), wpAnyH P md ops Q S fuel listed a w → wpAny P md ops Q fuel listed a w
  | 0, _, _, _, h => h
  | fuel + 1, _, _, _, h => ⟨h.1, fun i hi => wpOp_mono (fun a' w' h' => wpAny_of_H fuel _ a' w' h'.2) (h.2 i hi)⟩

theorem first {i : Nat} {oi : Oper} {v : Value} (hi : ops[i]? = some oi) (hsel : ∀ (j : Nat) (o : Oper) cs b, ops[j]? = some o → o.op ≠ .select cs b)
    (hQ : ∀ c a w, Q (.panic c) (a.put oi.dst v) w → Q (.panic c) a w) :
    ∀ (fuel : Nat) (listed : Array Bool) (a : Act) (w : World),
      (∀ j oj, ops[j]? = some oj → j ≠ i → listed.getD j true = false → (∀ e ∈ oj.after, Region.binds md e = true → e.on ≠ i) → oi.apart ops oj = true) →
      i ∈ Region.ready md ops listed → YieldsIf P ops S oi v a → S w →
      wpAnyH P md ops Q S fuel (listed.setIfInBounds i true) (a.put oi.dst v) w → wpAnyH P md ops Q S (fuel + 1) listed a w := by
  intro fuel
  induction fuel with
  | zero =>
    intro listed a w _ hr hy hS H
    refine ⟨fun h => (by rw [h] at hr; cases hr), fun j hj => ?_⟩
    by_cases hji : j = i
    · subst hji; exact hy.wpOp hi hS ⟨hS, H⟩
    · have := ready_mono hj hji
      rw [H.1] at this
      cases this
  | succ fuel ih =>
    intro listed a w hfree hr hy hS H
    refine ⟨fun h => (by rw [h] at hr; cases hr), fun j hj => ?_⟩
    by_cases hji : j = i
    · subst hji; exact hy.wpOp hi hS ⟨hS, H⟩
    · have h1 := H.2 j (ready_mono hj hji)
      obtain ⟨hjun, oj, hoj, hall⟩ := mem_ready.1 hj
      have hnot : ∀ e ∈ oj.after, Region.binds md e = true → e.on ≠ i := fun e he hb heq => by
        have h1 := hall e he hb
        have h0 := (mem_ready.1 hr).1
        rw [heq] at h1
        rcases Nat.lt_or_ge i listed.size with h' | h'
        · simp [h'] at h0 h1; rw [h0] at h1; cases h1
        · simp [Array.getElem?_eq_none h'] at h1
      have h2 := wpOp_putIf hoj (hfree j oj hoj hji hjun hnot) (fun cs b => hsel i oi cs b hi) (fun cs b => hsel j oj cs b hoj) hQ hy h1
      have hfree' : ∀ k ok, ops[k]? = some ok → k ≠ i → (listed.setIfInBounds j true).getD k true = false →
          (∀ e ∈ ok.after, Region.binds md e = true → e.on ≠ i) → oi.apart ops ok = true := fun k ok hk hki hun hno => by
        refine hfree k ok hk hki ?_ hno
        by_cases hjk : j = k
        · subst hjk; exact hjun
        · rw [getD_set_ne true hjk] at hun; exact hun
      refine wpOp_mono (fun a' w' h3 => ⟨h3.2.1, ih (listed.setIfInBounds j true) a' w' hfree' (ready_mono hr (Ne.symm hji)) h3.1 h3.2.1 ?_⟩) h2
      rw [Array.setIfInBounds_comm _ _ hji]
      exact h3.2.2

/-- A load, or whatever yields under S, is taken first. -/
theorem take {i : Nat} {oi : Oper} {v : Value} {d : Option Tmp} {fuel : Nat} {listed : Array Bool} {a : Act} {w : World} (hi : ops[i]? = some oi) (hd : oi.dst = d)
    (hs : Region.noSelect ops = true) (hf : Region.free md ops listed i = true) (hr : (Region.ready md ops listed).contains i = true)
    (hQ : ∀ c a w, Q (.panic c) (a.put oi.dst v) w → Q (.panic c) a w) (hy : YieldsIf P ops S oi v a) (hS : S w)
    (h : wpAnyH P md ops Q S fuel (listed.setIfInBounds i true) (a.put d v) w) : wpAnyH P md ops Q S (fuel + 1) listed a w := by
  subst hd
  exact first hi (Region.noSelect_spec hs) hQ fuel listed a w (Region.free_spec hi hf) (by simpa using hr) hy hS h

def Nx (P : Program) (md : Region.Mode) (ops : Array Oper) (Q : Exit → Act → World → Prop) (S : World → Prop) (fuel : Nat) (listed : Array Bool) (i : Nat) (a : Act) (w : World) : Prop :=
  S w ∧ wpAnyH P md ops Q S fuel (listed.setIfInBounds i true) a w

theorem two {i j : Nat} {fuel : Nat} {listed : Array Bool} {a : Act} {w : World} (hr : Region.ready md ops listed = [i, j])
    (h1 : wpOp P ops Q i (Nx P md ops Q S fuel listed i) a w) (h2 : wpOp P ops Q j (Nx P md ops Q S fuel listed j) a w) : wpAnyH P md ops Q S (fuel + 1) listed a w := by
  refine ⟨fun h0 => absurd (hr ▸ h0) (by simp), ?_⟩
  rw [hr]
  intro k hk
  simp only [List.mem_cons, List.not_mem_nil, or_false] at hk
  rcases hk with rfl | rfl
  · exact h1
  · exact h2
theorem three {i j k : Nat} {fuel : Nat} {listed : Array Bool} {a : Act} {w : World} (hr : Region.ready md ops listed = [i, j, k])
    (h1 : wpOp P ops Q i (Nx P md ops Q S fuel listed i) a w) (h2 : wpOp P ops Q j (Nx P md ops Q S fuel listed j) a w) (h3 : wpOp P ops Q k (Nx P md ops Q S fuel listed k) a w) : wpAnyH P md ops Q S (fuel + 1) listed a w := by
  refine ⟨fun h0 => absurd (hr ▸ h0) (by simp), ?_⟩
  rw [hr]
  intro q hq
  simp only [List.mem_cons, List.not_mem_nil, or_false] at hq
  rcases hq with rfl | rfl | rfl
  · exact h1
  · exact h2
  · exact h3
theorem one {i : Nat} {fuel : Nat} {listed : Array Bool} {a : Act} {w : World} (hr : Region.ready md ops listed = [i])
    (h1 : wpOp P ops Q i (Nx P md ops Q S fuel listed i) a w) : wpAnyH P md ops Q S (fuel + 1) listed a w := by
  refine ⟨fun h0 => absurd (hr ▸ h0) (by simp), ?_⟩
  rw [hr]
  intro k hk
  simp only [List.mem_cons, List.not_mem_nil, or_false] at hk
  subst hk
  exact h1

theorem opCall {i : Nat} {oi : Oper} {d : Option Tmp} {fuel : Nat} {listed : Array Bool} {a : Act} {w : World} {f : FuncId} {args : Array Value} {R : Value → World → Prop} (hi : ops[i]? = some oi) (hd : oi.dst = d)
    (hw : Region.wanted oi (yielded ops a.tmps) = true) (hv : (execOp a.eval oi).run P w = .ok (.enter f args) w) (hc : Calls P f args w (fun e w'' => ∃ v, e = .returned v ∧ R v w''))
    (h : ∀ v w', R v w' → S w' ∧ wpAnyH P md ops Q S fuel (listed.setIfInBounds i true) (a.put d v) w') : wpOp P ops Q i (Nx P md ops Q S fuel listed i) a w := by
  subst hd
  unfold wpOp
  simp only [hi, hw, if_true]
  refine .inl ?_
  unfold Oper.wp
  rw [hv]
  simp only [Oper.upon]
  refine hc.mono fun e w'' ⟨v, he, hR⟩ => ?_
  subst he
  exact h v w'' hR

theorem opVal {i : Nat} {oi : Oper} {d : Option Tmp} {v : Value} {fuel : Nat} {listed : Array Bool} {a : Act} {w w2 : World} (hi : ops[i]? = some oi) (hd : oi.dst = d)
    (hw : Region.wanted oi (yielded ops a.tmps) = true) (hv : (execOp a.eval oi).run P w = .ok (.value v) w2) (hS : S w2)
    (h : wpAnyH P md ops Q S fuel (listed.setIfInBounds i true) (a.put d v) w2) : wpOp P ops Q i (Nx P md ops Q S fuel listed i) a w := by
  subst hd
  unfold wpOp
  simp only [hi, hw, if_true]
  refine .inl ?_
  unfold Oper.wp
  rw [hv]
  simp only [Oper.upon]
  exact ⟨hS, h⟩

theorem opStore {i : Nat} {oi : Oper} {d : Option Tmp} {fuel : Nat} {listed : Array Bool} {a : Act} {w w2 : World} (hi : ops[i]? = some oi) (hd : oi.dst = d)
    (hw : Region.wanted oi (yielded ops a.tmps) = true) (hv : (execOp a.eval oi).run P w = .ok .skip w2) (hS : S w2)
    (h : wpAnyH P md ops Q S fuel (listed.setIfInBounds i true) (a.put d undef) w2) : wpOp P ops Q i (Nx P md ops Q S fuel listed i) a w := by
  subst hd
  unfold wpOp
  simp only [hi, hw, if_true]
  refine .inl ?_
  unfold Oper.wp
  rw [hv]
  simp only [Oper.upon]
  exact ⟨hS, h⟩

theorem done {listed : Array Bool} {a : Act} {w : World} (hr : Region.ready md ops listed = []) (h : Q .normal a w) :
    ∀ fuel, wpAnyH P md ops Q S fuel listed a w
  | 0 => ⟨hr, h⟩
  | _ + 1 => ⟨fun _ => h, by rw [hr]; simp⟩

theorem region {id : Nat} {l : List Oper} {a : Act} {w : World} (S : World → Prop) (hm : P.follows .mixedOrders = true)
    (h : wpAnyH P .any l.toArray Q S l.toArray.size (Array.replicate l.toArray.size false) a w.drew) : (Code.region id l.toArray true).wp P Q a w :=
  wp_region_any hm (wpAny_of_H _ _ _ _ h)
end
end HeldAll
end Go.Proofs.YtjmmhbmbafjneaaGreatDoor
