/-
  formula.Units: what follows by units; its deferred closure, for a call that panics and for one that returns.
-/
import Derived.Test.YtpanpfbhdcanhaaUnits
import Derived.Defers
import Derived.Recover
namespace Go.Proofs.Ytpanpfbhdcanhaa
open Go.RowKit Base
set_option linter.unusedVariables false
namespace Units

set_option maxHeartbeats 1000000 in
theorem catch_conflict (w : World) (b1 b2 b3 : Nat) (v1 : Value) (x2 : Bool) (x3 : Int)
    (c1 : w.cell? ⟨b1, 0, none⟩ = some v1) (c2 : w.cell? ⟨b2, 0, none⟩ = some (.bool x2)) (c3 : w.cell? ⟨b3, 0, none⟩ = some (.int .i64 x3))
    (l1 : b1 < w.heap.size) (l2 : b2 < w.heap.size) (l3 : b3 < w.heap.size) (n12 : b1 ≠ b2) (n13 : b1 ≠ b3) (n23 : b2 ≠ b3)
    (f1 : w.frozen? ⟨b1, 0, none⟩ = false) (f2 : w.frozen? ⟨b2, 0, none⟩ = false) (f3 : w.frozen? ⟨b3, 0, none⟩ = false) :
    CallsD Try.prog 24 #[.pointer (some ⟨b1, 0, none⟩), .pointer (some ⟨b2, 0, none⟩), .pointer (some ⟨b3, 0, none⟩)] (.panicking chain) w fun e u' w' =>
      e = .returned (.tuple #[]) ∧ u' = .panicking [{ v := .iface 53 (.agg #[]), recovered := true }] ∧
        w' = ((((w.alloc (.cells #[] 53)).setCell ⟨b1, 0, none⟩ (.slice none 0 0)).setCell ⟨b2, 0, none⟩ (.bool false)).setCell ⟨b3, 0, none⟩ (.int .i64 0)) := by
  unfold chain
  have hta : ∀ w, (Instr.typeAssert (.iface 53 (.agg #[])) 20 53 true).run Try.prog w = .ok (.tuple #[.agg #[], .bool true]) w := fun _ => by kernel_rfl
  refine callsD_of_wpS Try.func24 rfl fun c₀ cs hu => ?_
  apply wpS_seq
  apply wpS_region
  simp [wpOpsS, go_sem, recoverD, hu, hta, Try.ntmps24, Exit.thenS]
  apply wpS_seq
  apply wpS_region
  simp [wpOpsS, go_sem, Exit.thenS]
  refine wpS_cond (t := true) (by simp [Act.eval]) ?_
  simp only [if_true]
  apply wpS_region
  have d1 : (w.alloc (.cells #[] 53)).cell? ⟨b1, 0, none⟩ = some v1 := (World.cell?_alloc_past _ _ _ l1).trans c1
  have d2 : (w.alloc (.cells #[] 53)).cell? ⟨b2, 0, none⟩ = some (.bool x2) := (World.cell?_alloc_past _ _ _ l2).trans c2
  have d3 : (w.alloc (.cells #[] 53)).cell? ⟨b3, 0, none⟩ = some (.int .i64 x3) := (World.cell?_alloc_past _ _ _ l3).trans c3
  have g1 : (w.alloc (.cells #[] 53)).frozen? ⟨b1, 0, none⟩ = false := (frozen?_alloc_cells _ _ _ _).trans f1
  have g2 : (w.alloc (.cells #[] 53)).frozen? ⟨b2, 0, none⟩ = false := (frozen?_alloc_cells _ _ _ _).trans f2
  have g3 : (w.alloc (.cells #[] 53)).frozen? ⟨b3, 0, none⟩ = false := (frozen?_alloc_cells _ _ _ _).trans f3
  generalize w.alloc (.cells #[] 53) = w2 at *
  have k2 : (w2.setCell ⟨b1, 0, none⟩ (.slice none 0 0)).cell? ⟨b2, 0, none⟩ = some (.bool x2) := (World.cell?_setCell_other _ _ _ _ (by simp)).trans d2
  have k3 : ((w2.setCell ⟨b1, 0, none⟩ (.slice none 0 0)).setCell ⟨b2, 0, none⟩ (.bool false)).cell? ⟨b3, 0, none⟩ = some (.int .i64 x3) :=
    (World.cell?_setCell_other _ _ _ _ (by simp)).trans ((World.cell?_setCell_other _ _ _ _ (by simp)).trans d3)
  simp [wpOpsS, go_sem, d1, k2, k3, g1, g2, g3, bodyPostS, results, Try.results24]

set_option maxHeartbeats 1000000 in
theorem catch_idle (w : World) (p1 p2 p3 : Addr) :
    CallsD Try.prog 24 #[.pointer (some p1), .pointer (some p2), .pointer (some p3)] .returning w fun e u' w' =>
      e = .returned (.tuple #[]) ∧ u' = .returning ∧ w' = w.alloc (.cells #[] 53) := by
  have hta : ∀ w, (Instr.typeAssert .nilIface 20 53 true).run Try.prog w = .ok (.tuple #[.agg #[], .bool false]) w := fun _ => by kernel_rfl
  refine callsD_of_wpS Try.func24 rfl fun c₀ cs hu => ?_
  apply wpS_seq
  apply wpS_region
  simp [wpOpsS, go_sem, recoverD, hu, hta, Try.ntmps24, Exit.thenS]
  apply wpS_seq
  apply wpS_region
  simp [wpOpsS, go_sem, Exit.thenS]
  refine wpS_cond (t := false) (by simp [Act.eval]) ?_
  simp only [Bool.false_eq_true, if_false]
  refine wpS_of_wp (wp_skip ?_)
  cases c₀
  simp_all [bodyPostS, results, Try.results24]

theorem info_int : (Try.prog.info? 3).map (fun i => (i.zero, i.size, i.bytes)) = some (some (.int .i64 0), 1, 8) := by kernel_rfl

/-- A literal of Units' arguments that may not be. -/
theorem badL_lit {vars : Int} (hv0 : 0 ≤ vars) (hv1 : vars ≤ 262144) {x : Int} (h : Clause.badL vars x = false) : UnitsP.lit (vars.toNat + 1) x := by
  unfold Clause.badL Clause.absI at h
  simp only [Bool.or_eq_false_iff, decide_eq_false_iff_not] at h
  unfold UnitsP.lit
  split at h <;> omega

set_option maxHeartbeats 400000 in
/-- The closure of Units: may a literal not be? -/
theorem bad1_any (vars x : Int) (h0 : -9223372036854775808 ≤ x) (h1 : x ≤ 9223372036854775807) (hv0 : 0 ≤ vars) (hv1 : vars ≤ 262144) (w : World) (b : Nat) (hb : w.cell? ⟨b, 0, none⟩ = some (.int .i64 vars)) :
    Calls Try.prog 23 #[.int .i64 x, .pointer (some ⟨b, 0, none⟩)] w fun e w' => e = .returned (.bool (Clause.badL vars x)) ∧ w = w' := by
  by_cases hm : x = -9223372036854775808
  · subst hm
    have HB : Hid (Clause.badL vars (-9223372036854775808) = true) := by
      show _ = _; unfold Clause.badL; rw [show Clause.absI (-9223372036854775808) = -9223372036854775808 from rfl, decide_eq_true (by omega)]; rfl
    go_enter Try.func23, Try.ntmps23
    go_wp2
    all_goals first | (go_ret; exact ⟨ret_bool HB.out.symm, rfl⟩) | (exfalso; have hwr : wrap64 9223372036854775808 = -9223372036854775808 := by unfold wrap64; omega
                                                                     omega)
  have hA : Clause.absI x = max x (-x) := if_neg hm
  have HA := Lib.hid hA
  clear hA hm
  by_cases hp : 0 < x
  · have HB : Hid (Clause.badL vars x = (decide (x < 1) || decide (vars < x))) := by
      show _ = _; unfold Clause.badL; rw [HA.out, show max x (-x) = x by omega]
    go_enter Try.func23, Try.ntmps23
    go_wp2
    go_ret
    exact ⟨ret_bool HB.out.symm, rfl⟩
  · have hx : -9223372036854775807 ≤ x ∨ x = -9223372036854775808 := by omega
    rcases hx with hx | hx
    · have HB : Hid (Clause.badL vars x = (decide (-x < 1) || decide (vars < -x))) := by
        show _ = _; unfold Clause.badL; rw [HA.out, show max x (-x) = -x by omega]
      by_cases hz : x = 0
      · subst hz
        have HB : Hid (Clause.badL vars 0 = true) := by show _ = _; rw [HB.out]; rfl
        go_enter Try.func23, Try.ntmps23
        go_wp2
        go_ret
        exact ⟨ret_bool HB.out.symm, rfl⟩
      · have hn : x < 0 := by omega
        clear hz hp h0 h1
        go_enter Try.func23, Try.ntmps23
        go_wp2
        go_ret
        exact ⟨ret_bool HB.out.symm, rfl⟩
    · subst hx
      have := HA.out
      unfold Clause.absI at this
      simp at this
      omega

/-- The world behind Units' first row: the formula's box, the three results. -/
def W4 (w : World) (vars : Int) (a : Option Addr) (n c : Nat) : World :=
  (((w.alloc (.cells #[.int .i64 vars, .slice a n c] 24)).alloc (.cells #[.slice none 0 0] 25)).alloc (.cells #[.bool false] 4)).alloc (.cells #[.int .i64 0] 27)

/-- What is known of Units' own four blocks, in a world. -/
structure Four (N : Nat) (vars : Int) (a : Option Addr) (n c : Nat) (W : World) : Prop where
  f0 : W.cell? ⟨N, 0, none⟩ = some (.int .i64 vars)
  f1 : W.cell? ⟨N, 1, none⟩ = some (.slice a n c)
  r1 : W.cell? ⟨N + 1, 0, none⟩ = some (.slice none 0 0)
  r2 : W.cell? ⟨N + 1 + 1, 0, none⟩ = some (.bool false)
  r3 : W.cell? ⟨N + 1 + 1 + 1, 0, none⟩ = some (.int .i64 0)
  z1 : W.frozen? ⟨N + 1, 0, none⟩ = false
  z2 : W.frozen? ⟨N + 1 + 1, 0, none⟩ = false
  z3 : W.frozen? ⟨N + 1 + 1 + 1, 0, none⟩ = false
  size : N + 4 ≤ W.heap.size

theorem four (w : World) (vars : Int) (a : Option Addr) (n c : Nat) : Four w.heap.size vars a n c (W4 w vars a n c) ∧ Below w.heap.size w (W4 w vars a n c) ∧ (W4 w vars a n c).heap.size = w.heap.size + 4 := by
  unfold W4
  refine ⟨⟨?_, ?_, ?_, ?_, ?_, ?_, ?_, ?_, ?_⟩, ?_, ?_⟩
  · simp [go_sem]
  · simp [go_sem]
  · simp [go_sem]
  · simp [go_sem]
  · simp [go_sem]
  · simp [go_sem]
  · simp [go_sem]
  · simp [go_sem]
  · simp
  · exact ((((Below.refl _ _).alloc (Nat.le_refl _) _).alloc (by simp) _).alloc (by simp; omega) _).alloc (by simp; omega) _
  · simp

theorem Four.next {N : Nat} {vars : Int} {a : Option Addr} {n c : Nat} {W W' : World} (h : Four N vars a n c W) (hb : Below (N + 4) W W') : Four N vars a n c W' :=
  ⟨(hb.cell (p := ⟨N, 0, none⟩) (by show N < N + 4; omega)).trans h.f0, (hb.cell (p := ⟨N, 1, none⟩) (by show N < N + 4; omega)).trans h.f1,
   (hb.cell (p := ⟨N + 1, 0, none⟩) (by show N + 1 < N + 4; omega)).trans h.r1, (hb.cell (p := ⟨N + 1 + 1, 0, none⟩) (by show N + 1 + 1 < N + 4; omega)).trans h.r2,
   (hb.cell (p := ⟨N + 1 + 1 + 1, 0, none⟩) (by show N + 1 + 1 + 1 < N + 4; omega)).trans h.r3,
   (hb.frozen (p := ⟨N + 1, 0, none⟩) (by show N + 1 < N + 4; omega)).trans h.z1, (hb.frozen (p := ⟨N + 1 + 1, 0, none⟩) (by show N + 1 + 1 < N + 4; omega)).trans h.z2,
   (hb.frozen (p := ⟨N + 1 + 1 + 1, 0, none⟩) (by show N + 1 + 1 + 1 < N + 4; omega)).trans h.z3, Nat.le_trans h.size hb.size⟩

set_option maxHeartbeats 400000 in
theorem res3 (tmps : Array Value) (w : World) (b1 b2 b3 : Nat) (a : Option Addr) (n c : Nat) (ok : Bool) (er : Int) (h4 : tmps.getD 4 undef = .pointer (some ⟨b1, 0, none⟩)) (h5 : tmps.getD 5 undef = .pointer (some ⟨b2, 0, none⟩)) (h6 : tmps.getD 6 undef = .pointer (some ⟨b3, 0, none⟩))
    (c1 : w.cell? ⟨b1, 0, none⟩ = some (.slice a n c)) (c2 : w.cell? ⟨b2, 0, none⟩ = some (.bool ok)) (c3 : w.cell? ⟨b3, 0, none⟩ = some (.int .i64 er)) :
    (results Try.f8 tmps).run Try.prog w = .ok (.tuple #[.slice a n c, .bool ok, .int .i64 er]) w := by
  simp at h4 h5 h6
  simp [results, Try.results8, go_sem, h4, h5, h6, c1, c2, c3]

/-- What Units hands back. -/
def Out (w : World) (out : List Int) (ok : Bool) (er : Int) (e : Ending) (w' : World) : Prop :=
  ∃ a c, e = .returned (.tuple #[.slice a out.length c, .bool ok, .int .i64 er]) ∧ Sl w' a out.length c (ints out) ∧ Below w.heap.size w w'

/-- What Units comes to. -/
def start (vars : Int) : List Int := List.replicate (vars.toNat + 1) 0
def run (vars : Int) (cls : List (List Int)) (l : List Int) : Option (List Int) :=
  (UnitsP.assume l (start vars)).bind fun σ => UnitsP.close cls (UnitsP.zeros σ + 1) σ

def outOf : Option (List Int) → List Int | none => [] | some σ => UnitsP.told σ 0
def spec (vars : Int) (cls : List (List Int)) (l : List Int) : List Int × Bool × Int :=
  if Formula.check vars cls = 0 then
    if l.any (Clause.badL vars) then ([], false, 4)
    else (outOf (run vars cls l), (run vars cls l).isSome, 0)
  else ([], false, 9)

/-- The end where nothing was deferred. -/
theorem leave_plain {w w1 : World} {tmps : Array Value} {b1 b2 b3 : Nat} {a : Option Addr} {c : Nat} {out : List Int} {ok : Bool} {er : Int} {R : Ending → World → Prop}
    (h4 : tmps.getD 4 undef = .pointer (some ⟨b1, 0, none⟩)) (h5 : tmps.getD 5 undef = .pointer (some ⟨b2, 0, none⟩)) (h6 : tmps.getD 6 undef = .pointer (some ⟨b3, 0, none⟩))
    (c1 : w1.cell? ⟨b1, 0, none⟩ = some (.slice a out.length c)) (c2 : w1.cell? ⟨b2, 0, none⟩ = some (.bool ok)) (c3 : w1.cell? ⟨b3, 0, none⟩ = some (.int .i64 er))
    (hsl : Sl w1 a out.length c (ints out)) (hb : Below w.heap.size w w1) (hR : ∀ e, Out w out ok er e w1 → R e w1) :
    bodyPostD Try.prog Try.f8 R Exit.ret { tmps := tmps, defers := [] } w1 :=
  ⟨_, res3 tmps w1 b1 b2 b3 a out.length c ok er h4 h5 h6 c1 c2 c3, hR _ ⟨a, c, rfl, hsl, hb⟩⟩

/-- The end where a conflict comes through the door. -/
theorem leave_caught {w w1 : World} {tmps : Array Value} {N : Nat} {vars : Int} {a : Option Addr} {n c : Nat} {R : Ending → World → Prop}
    (h4 : tmps.getD 4 undef = .pointer (some ⟨N + 1, 0, none⟩)) (h5 : tmps.getD 5 undef = .pointer (some ⟨N + 1 + 1, 0, none⟩)) (h6 : tmps.getD 6 undef = .pointer (some ⟨N + 1 + 1 + 1, 0, none⟩))
    (hf : Four N vars a n c w1) (hN : N = w.heap.size) (hb : Below w.heap.size w w1) (hR : ∀ e w', Out w [] false 0 e w' → R e w') :
    bodyPostD Try.prog Try.f8 R (Exit.panic [{ v := .iface 53 (.agg #[]), recovered := false }]) { tmps := tmps, defers := [{ target := Target.fn (Fn.func 24) #[.pointer (some ⟨N + 1, 0, none⟩), .pointer (some ⟨N + 1 + 1, 0, none⟩), .pointer (some ⟨N + 1 + 1 + 1, 0, none⟩)], args := #[] }] } w1 := by
  have hsz := hf.size
  refine leaves_cons (f := 24) (args := #[.pointer (some ⟨N + 1, 0, none⟩), .pointer (some ⟨N + 1 + 1, 0, none⟩), .pointer (some ⟨N + 1 + 1 + 1, 0, none⟩)]) (by simp) (by simp [go_sem]) ?_
  refine (catch_conflict w1 (N + 1) (N + 1 + 1) (N + 1 + 1 + 1) _ _ _ hf.r1 hf.r2 hf.r3 (by omega) (by omega) (by omega) (by omega) (by omega) (by omega) hf.z1 hf.z2 hf.z3).mono ?_
  rintro e u' w'' ⟨rfl, rfl, rfl⟩
  have d1 : (w1.alloc (.cells #[] 53)).cell? ⟨N + 1, 0, none⟩ = some (.slice none 0 0) := (World.cell?_alloc_past _ _ _ (by omega)).trans hf.r1
  have d2 : (w1.alloc (.cells #[] 53)).cell? ⟨N + 1 + 1, 0, none⟩ = some (.bool false) := (World.cell?_alloc_past _ _ _ (by omega)).trans hf.r2
  have d3 : (w1.alloc (.cells #[] 53)).cell? ⟨N + 1 + 1 + 1, 0, none⟩ = some (.int .i64 0) := (World.cell?_alloc_past _ _ _ (by omega)).trans hf.r3
  have hbz : Below w.heap.size w (w1.alloc (.cells #[] 53)) := hb.alloc hb.size _
  generalize w1.alloc (.cells #[] 53) = w2 at *
  refine ⟨_, res3 tmps _ (N + 1) (N + 1 + 1) (N + 1 + 1 + 1) none 0 0 false 0 h4 h5 h6 (by simp [go_sem, d1]) (by simp [go_sem, d2]) (by simp [go_sem, d3]), ?_⟩
  exact hR _ _ ⟨none, 0, rfl, Sl.nil _, ((hbz.setCell (by show w.heap.size ≤ N + 1; omega) _).setCell (by show w.heap.size ≤ N + 1 + 1; omega) _).setCell (by show w.heap.size ≤ N + 1 + 1 + 1; omega) _⟩

/-- The end where the call returns by itself. -/
theorem leave_done {w w1 : World} {tmps : Array Value} {b1 b2 b3 : Nat} {a : Option Addr} {c : Nat} {out : List Int} {ok : Bool} {er : Int} {R : Ending → World → Prop}
    (h4 : tmps.getD 4 undef = .pointer (some ⟨b1, 0, none⟩)) (h5 : tmps.getD 5 undef = .pointer (some ⟨b2, 0, none⟩)) (h6 : tmps.getD 6 undef = .pointer (some ⟨b3, 0, none⟩))
    (c1 : w1.cell? ⟨b1, 0, none⟩ = some (.slice a out.length c)) (c2 : w1.cell? ⟨b2, 0, none⟩ = some (.bool ok)) (c3 : w1.cell? ⟨b3, 0, none⟩ = some (.int .i64 er))
    (l1 : b1 < w1.heap.size) (l2 : b2 < w1.heap.size) (l3 : b3 < w1.heap.size)
    (hsl : Sl w1 a out.length c (ints out)) (hb : Below w.heap.size w w1) (hR : ∀ e w', Out w out ok er e w' → R e w') :
    bodyPostD Try.prog Try.f8 R Exit.ret { tmps := tmps, defers := [{ target := Target.fn (Fn.func 24) #[.pointer (some ⟨b1, 0, none⟩), .pointer (some ⟨b2, 0, none⟩), .pointer (some ⟨b3, 0, none⟩)], args := #[] }] } w1 := by
  refine leaves_cons (f := 24) (args := #[.pointer (some ⟨b1, 0, none⟩), .pointer (some ⟨b2, 0, none⟩), .pointer (some ⟨b3, 0, none⟩)]) (by simp) (by simp [go_sem]) ?_
  refine (catch_idle w1 _ _ _).mono ?_
  rintro e u' w'' ⟨rfl, rfl, rfl⟩
  exact ⟨_, res3 tmps _ b1 b2 b3 a out.length c ok er h4 h5 h6 ((World.cell?_alloc_past _ _ _ l1).trans c1) ((World.cell?_alloc_past _ _ _ l2).trans c2) ((World.cell?_alloc_past _ _ _ l3).trans c3),
    hR _ _ ⟨a, c, rfl, hsl.next ((Below.refl _ _).alloc (Nat.le_refl _) _), hb.alloc hb.size _⟩⟩


theorem assume_step (l : List Int) (k : Nat) (hk : k < l.length) (σ : List Int) (hv : ¬ UnitsP.value σ l[k] < 0) : UnitsP.assume (l.drop k) σ = UnitsP.assume (l.drop (k + 1)) (UnitsP.put σ l[k]) := by
  rw [List.drop_eq_getElem_cons hk]; simp only [UnitsP.assume, if_neg hv]
theorem assume_no (l : List Int) (k : Nat) (hk : k < l.length) (σ : List Int) (hv : UnitsP.value σ l[k] < 0) : UnitsP.assume (l.drop k) σ = none := by
  rw [List.drop_eq_getElem_cons hk]; simp only [UnitsP.assume, if_pos hv]

theorem told_snoc (σ : List Int) (x : Int) (v : Nat) : UnitsP.told (σ ++ [x]) v = UnitsP.told σ v ++ (if x ≠ 0 then [x * ((v + σ.length : Nat) : Int)] else []) := by
  induction σ generalizing v with
  | nil => simp [UnitsP.told]
  | cons y r ih =>
    simp only [List.cons_append, UnitsP.told, ih, List.append_assoc, List.length_cons]
    rw [show v + 1 + r.length = v + (r.length + 1) by omega]

theorem told_take (σ : List Int) (k : Nat) (hk : k < σ.length) : UnitsP.told (σ.take (k + 1)) 0 = UnitsP.told (σ.take k) 0 ++ (if σ[k] ≠ 0 then [σ[k] * (k : Int)] else []) := by
  rw [List.take_succ_eq_append_getElem hk, told_snoc, List.length_take, Nat.min_eq_left (by omega), Nat.zero_add]

theorem told_len (σ : List Int) (v : Nat) : (UnitsP.told σ v).length ≤ σ.length := by
  induction σ generalizing v with
  | nil => simp [UnitsP.told]
  | cons y r ih =>
    have := ih (v + 1)
    simp only [UnitsP.told, List.length_append, List.length_cons]
    split <;> simp <;> omega

theorem check_lit {V : Nat} {cls : List (List Int)} (h : Formula.check V cls = 0) : ∀ c ∈ cls, ∀ x ∈ c, UnitsP.lit (V + 1) x := by
  intro c hc x hx
  unfold Formula.check at h
  split at h
  · omega
  · rename_i hb
    unfold Formula.bad at hb
    simp only [Bool.not_eq_true, Bool.or_eq_false_iff, decide_eq_false_iff_not] at hb
    have h1 := List.any_eq_false.1 hb.2 c hc
    have h2 : Clause.check V c = 0 := by simpa using h1
    unfold Clause.check at h2
    split at h2
    · omega
    · split at h2
      · omega
      · rename_i hn
        have h3 := List.any_eq_false.1 (Bool.eq_false_iff.2 hn) x hx
        exact badL_lit (vars := V) (by omega) (by omega) (by simpa using h3)

set_option maxHeartbeats 4000000 in
theorem units_any (w : World) (vars : Int) (a : Option Addr) (n c : Nat) (vs : List Value) (cls : List (List Int)) (hsl : Sl2 w a n c vs cls) (hw : Formula.Wf2 cls)
    (a1 : Option Addr) (n1 c1 : Nat) (l : List Int) (hl : Sl w a1 n1 c1 (ints l)) (hlw : Clause.Wf l) :
    Calls Try.prog 8 #[.agg #[.int .i64 vars, .slice a n c], .slice a1 n1 c1] w (Out w (spec vars cls l).1 (spec vars cls l).2.1 (spec vars cls l).2.2) := by
  obtain ⟨h4, hb4, hz4⟩ := four w vars a n c
  obtain ⟨W, hW⟩ : ∃ W, W = W4 w vars a n c := ⟨_, rfl⟩
  rw [← hW] at h4 hb4 hz4
  obtain ⟨N, hN⟩ : ∃ N, N = w.heap.size := ⟨_, rfl⟩
  have HW := Lib.hid hW
  have H4 := Lib.hid h4
  have HB4 := Lib.hid hb4
  have HZ4 := Lib.hid hz4
  have HN := Lib.hid hN
  clear hW h4 hb4 hz4 hN
  go_enter_defers Try.func8, Try.ntmps8
  go_wp2_with fail
  have e : (((w.alloc (.cells #[.int .i64 vars, .slice a n c] 24)).alloc (.cells #[.slice none 0 0] 25)).alloc (.cells #[.bool false] 4)).alloc (.cells #[.int .i64 0] 27) = W := HW.out.symm
  rw [e]
  clear e
  refine (Formula.check_any W vars a n c vs cls (hsl.next HB4.out) hw).mono ?_
  rintro e w1 ⟨rfl, hb1⟩
  have h41 := H4.out.next (hb1.mono (H4.out.size))
  rw [← HN.out] at h41 ⊢
  by_cases hc : Formula.check vars cls = 0
  · have t1 : (Formula.check vars cls != 0) = false := by rw [bne, beq_iff_eq.2 hc]; rfl
    have hv : 0 ≤ vars ∧ vars ≤ 262144 := by
      have h := hc
      unfold Formula.check at h
      split at h
      · omega
      · rename_i hb
        unfold Formula.bad at hb
        simp only [Bool.not_eq_true, Bool.or_eq_false_iff, decide_eq_false_iff_not] at hb
        omega
    have HC := Lib.hid hc
    clear hc
    generalize hq : Formula.check vars cls = q at *
    have HQ := Lib.hid hq
    clear hq
    have hbw1 : Below w.heap.size w w1 := HB4.out.trans (hb1.mono (by rw [HZ4.out]; omega))
    have HL := Lib.hid (SlfI.containsFunc w1 a1 n1 c1 (ints l) 23 #[] #[.pointer (some ⟨N, 0, none⟩)] (l.map (Clause.badL vars)) (hl.next hbw1) (by rw [List.length_map]; have := hl.len; rwa [ints_len] at this)
      (enters_of Try.func23 (by kernel_rfl) rfl)
      (Clause.gives_of fun W' hW' x hm => (bad1_any vars x (hlw x hm).1 (hlw x hm).2 hv.1 hv.2 W' N ((hW'.cell (p := ⟨N, 0, none⟩) (by have := h41.size; show N < w1.heap.size; omega)).trans h41.f0)).mono fun e w' h => ⟨h.1, h.2 ▸ Below.refl _ _⟩))
    rw [Clause.map_any] at HL
    have hmf : ∀ (fn : Fn) (first cap : Array Value) (w : World), (Instr.makeFunc fn first cap).run Try.prog w = .ok (.func fn first cap) w := fun _ _ _ _ => rfl
    have H41 := Lib.hid h41
    clear h41
    cases hlb : l.any (Clause.badL vars)
    · have HLB := Lib.hid hlb
      rw [hlb] at HL
      clear hlb
      go_wp2_with fail
      refine HL.out.mono ?_
      rintro e w2 ⟨rfl, hb2⟩
      have h42 := H41.out.next (hb2.mono H41.out.size)
      have H42 := Lib.hid h42
      have HRUN : Hid (spec vars cls l = (outOf (run vars cls l), (run vars cls l).isSome, 0)) := by show _ = _; unfold spec; rw [HQ.out, HC.out, if_pos rfl, HLB.out]; rfl
      obtain ⟨V, rfl⟩ : ∃ V : Nat, vars = V := ⟨vars.toNat, by omega⟩
      have hV : V ≤ 262144 := by omega
      have f0 := h42.f0
      have f1 := h42.f1
      have hbw2 : Below w.heap.size w w2 := hbw1.trans (hb2.mono hbw1.size)
      have HLIT : Hid (∀ c ∈ cls, ∀ x ∈ c, UnitsP.lit (V + 1) x) := fun c hc x hx => check_lit (HQ.out.trans HC.out) c hc x hx
      have HLL : Hid (∀ x ∈ l, UnitsP.lit (V + 1) x) := fun x hx => by
        have h := List.any_eq_false.1 HLB.out x hx
        exact badL_lit (vars := V) (by omega) (by omega) (by simpa using h)
      clear h42 hv
      go_wp2_with (at_make; ((with_reducible refine wpL_make (V + 1) (L := (V : Int) + 1) (C := (V : Int) + 1) info_int Try.underlying25 ?_ ?_ ?_ ?_ ?_ ?_ ?_ ?_); rfl; rfl; rfl; omega; omega; omega; omega; (intro g w3 hown3 hb3 hg hg')))
      have hus : US (w3.alloc (.cells #[.slice (some ⟨g, 0, none⟩) (V + 1) (V + 1)] 57)) w2.heap.size w3.heap.size g (start V) := by
        have hlen : (start V).length = V + 1 := by simp [start]
        refine ⟨?_, by omega, by have := hb3.size; omega, ?_⟩
        · rw [hlen]; simp [go_sem]
        · rw [hlen]
          have e : ints (start V) = List.replicate (V + 1) (.int .i64 0) := by simp [ints, start]
          rw [e]
          exact hown3.alloc _
      have hb4 : Below w2.heap.size w2 (w3.alloc (.cells #[.slice (some ⟨g, 0, none⟩) (V + 1) (V + 1)] 57)) := hb3.alloc hb3.size _
      have hz4 : w2.heap.size ≤ (w3.alloc (.cells #[.slice (some ⟨g, 0, none⟩) (V + 1) (V + 1)] 57)).heap.size := hb4.size
      have hsm : Small (start V) := fun k => by
        have : (start V).getD k 0 = 0 := by
          unfold start
          rw [List.getD_eq_getElem?_getD, List.getElem?_replicate]
          split <;> rfl
        omega
      have hln : (start V).length = V + 1 := by simp [start]
      have hl1 : l.length = n1 := by have := hl.len; rwa [ints_len] at this
      have hcap1 := hl.cap
      have hbig1 := hl.big
      generalize w3.alloc (.cells #[.slice (some ⟨g, 0, none⟩) (V + 1) (V + 1)] 57) = w4 at *
      generalize w3.heap.size = bu at *
      have HUS := Lib.hid hus
      have HSM := Lib.hid hsm
      have HLN := Lib.hid hln
      have HL1 := Lib.hid hl1
      have hgB : w2.heap.size ≤ g := hg
      clear hus hsm hln hl1 f0 f1 hown3 hb3 t1
      go_loopw [30] (fun i wr => ∃ (k : Nat) (σ : List Int), k ≤ n1 ∧ i = .int .i64 k ∧ Hid (UnitsP.assume l (start V) = UnitsP.assume (l.drop k) σ) ∧ Hid (US wr w2.heap.size bu g σ) ∧ Hid (Small σ) ∧ Hid (σ.length = V + 1) ∧ Below w2.heap.size w2 wr) (fun i _ => n1 - (intOf i).toNat)
      case atStart => exact ⟨0, start V, Nat.zero_le _, rfl, rfl, HUS.out, HSM.out, HLN.out, hb4⟩
      case round =>
        obtain ⟨k, σ, hk, rfl, hA, hU, hS, hN', hbr⟩ := hrel
        have hbwr : Below w.heap.size w wr := hbw2.trans (hbr.mono hbw2.size)
        have h4r := H42.out.next (hbr.mono (by have := H42.out.size; omega))
        have H4r := Lib.hid h4r
        clear h4r
        by_cases hlt : k < n1
        · obtain ⟨b, o, hx, rfl, hbs, hcx⟩ := hl.int hlt
          have hcr : wr.cell? ⟨b, o + k, none⟩ = some (.int .i64 l[k]) := (hbwr.cell (p := ⟨b, o + k, none⟩) hbs).trans hcx
          have hlk := HLL.out _ (List.getElem_mem hx)
          have HLK := Lib.hid (show UnitsP.lit σ.length l[k] by rw [hN'.out]; exact hlk)
          have HNO := Lib.hid (assume_no l k hx σ)
          have HST := Lib.hid (assume_step l k hx σ)
          clear hcx hlk
          generalize l[k] = x at *
          by_cases hv : UnitsP.value σ x < 0
          · have HP := Lib.hid (put_no wr w2.heap.size bu g σ hU.out hS.out (by rw [hN'.out]; omega) x HLK.out hv)
            have HE : Hid (run V cls l = none) := by show _ = _; unfold run; rw [hA.out, HNO.out hv]; rfl
            clear hv
            go_wp2_with fail
            refine HP.out.mono ?_
            rintro e w5 ⟨rfl, rfl⟩
            go_wp2_with fail
            rw [HRUN.out, HE.out]
            exact leave_caught (n := n) rfl rfl rfl H4r.out HN.out hbwr (fun e w' h => h)
          · have HP := Lib.hid (put_yes wr w2.heap.size bu g σ hU.out hS.out (by rw [hN'.out]; omega) x HLK.out (by omega))
            have HV := Lib.hid hv
            clear hv
            go_wp2_with fail
            refine HP.out.mono ?_
            rintro e w5 ⟨rfl, hput⟩
            have HPU := Lib.hid hput
            clear hput
            go_wp2_with fail
            go_roundw
            case rel => exact ⟨k + 1, UnitsP.put σ x, by omega, by go_num, hA.out.trans (HST.out HV.out), HPU.out.1, small_put hS.out x, by show _ = _; rw [UnitsP.put_length, hN'.out], HPU.out.below hbr hbr.size hgB⟩
            case measure => simp [intOf]; omega
        · have HA2 : Hid (UnitsP.assume l (start V) = some σ) := by show _ = _; rw [hA.out, List.drop_of_length_le (by rw [HL1.out]; omega)]; rfl
          have HRUN2 : Hid (run V cls l = UnitsP.close cls (UnitsP.zeros σ + 1) σ) := by show _ = _; unfold run; rw [HA2.out]; rfl
          have HCL := Lib.hid (close_any w2 wr w2.heap.size bu g σ hU.out hS.out (by rw [hN'.out]; omega) a n c vs cls (hsl.next hbw2) (Nat.le_refl _) hbr hbr.size (by rw [hN'.out]; exact HLIT.out))
          have f1 := H4r.out.f1
          clear hA
          go_wp2_with fail
          refine HCL.out.mono ?_
          intro e w5 hcl
          generalize hq2 : UnitsP.close cls (UnitsP.zeros σ + 1) σ = q2 at *
          have HQ2 := Lib.hid hq2
          clear hq2
          cases q2 with
          | none =>
            obtain ⟨rfl, hb5⟩ := hcl
            have h45 := H42.out.next (hb5.mono (by have := H42.out.size; omega))
            have hbw5 : Below w.heap.size w w5 := hbw2.trans (hb5.mono hbw2.size)
            have HE := HRUN2
            go_wp2_with fail
            rw [HRUN.out, HE.out]
            exact leave_caught (n := n) rfl rfl rfl h45 HN.out hbw5 (fun e w' h => h)
          | some τ =>
            obtain ⟨rfl, hU5, hS5, hN5, hb5, hz5⟩ := hcl
            have h45 := H42.out.next (hb5.mono (by have := H42.out.size; omega))
            have hbw5 : Below w.heap.size w w5 := hbw2.trans (hb5.mono hbw2.size)
            have HE := HRUN2
            have HS5 := Lib.hid hS5
            have hτ : τ.length = V + 1 := by rw [hN5, hN'.out]
            have hh5 := hU5.head
            rw [hτ] at hh5
            have HU5 := Lib.hid hU5
            have Hτ := Lib.hid hτ
            have H45 := Lib.hid h45
            have hNsz : N + 4 ≤ w5.heap.size := h45.size
            have hg5 : g < w5.heap.size := hU5.lt.1
            have hgN : N + 4 ≤ g := by have := H42.out.size; omega
            have hbu5 : bu < w5.heap.size := World.block_lt_of_cell? w5 _ hU5.head
            clear hU5 hS5 hN5 hτ h45 hz5 hS hU hN'
            go_wp2_with fail
            go_loopw [47] (fun i wr => ∃ k : Nat, k ≤ V + 1 ∧ i = .int .i64 k ∧ (∃ a' c', wr.cell? ⟨N + 1, 0, none⟩ = some (.slice a' (UnitsP.told (τ.take k) 0).length c') ∧
                wr.ownsRow w5.heap.size 3 1 (.slice a' (UnitsP.told (τ.take k) 0).length c') (UnitsP.told (τ.take k) 0).length (ints (UnitsP.told (τ.take k) 0)) ∧
                Below w5.heap.size (w5.setCell ⟨N + 1, 0, none⟩ (.slice a' (UnitsP.told (τ.take k) 0).length c')) wr)) (fun i _ => V + 1 - (intOf i).toNat)
            case atStart =>
              refine ⟨0, Nat.zero_le _, rfl, none, 0, H45.out.r1, World.ownsRow_nil _ _ _ _, ?_⟩
              have := below_set (Below.refl w5.heap.size w5) ⟨N + 1, 0, none⟩ (.slice none 0 0)
              refine ⟨rfl, rfl, rfl, by simp, fun j hj => ?_⟩
              have hsame := setCell_same w5 ⟨N + 1, 0, none⟩ (.slice none 0 0) H45.out.r1
              show w5.heap[j]? = (w5.setCell ⟨N + 1, 0, none⟩ (.slice none 0 0)).heap[j]?
              rw [hsame]
            case round =>
              obtain ⟨k, hk, rfl, a', c', hc1, hown, hbr5⟩ := hrel
              have hz1 : wr.frozen? ⟨N + 1, 0, none⟩ = false := (hbr5.frozen (p := ⟨N + 1, 0, none⟩) (by show N + 1 < w5.heap.size; omega)).trans (by rw [World.frozen?_setCell]; exact H45.out.z1)
              by_cases hlt : k < V + 1
              · have hkτ : k < τ.length := by rw [Hτ.out]; exact hlt
                have hck : wr.cell? ⟨g, k, none⟩ = some (.int .i64 τ[k]) := by
                  refine (hbr5.cell (p := ⟨g, k, none⟩) hg5).trans ?_
                  rw [World.cell?_setCell_other _ _ _ _ (by simp), HU5.out.cell hkτ, List.getD_eq_getElem?_getD, List.getElem?_eq_getElem hkτ]
                  rfl
                have hval : -1 ≤ τ[k] ∧ τ[k] ≤ 1 := by
                  have := HS5.out k
                  rwa [List.getD_eq_getElem?_getD, List.getElem?_eq_getElem hkτ] at this
                have HT := Lib.hid (told_take τ k hkτ)
                have hlen : (UnitsP.told (τ.take k) 0).length ≤ k := by
                  have := told_len (τ.take k) 0
                  rw [List.length_take] at this
                  omega
                generalize hL : UnitsP.told (τ.take k) 0 = L at *
                have HL := Lib.hid hL
                generalize hx : τ[k] = x at *
                have HX := Lib.hid hx
                clear hL hx
                have hbase : w5.heap.size ≤ wr.heap.size := by have := hbr5.size; simpa using this
                by_cases hx0 : x = 0
                · have HT2 : Hid (UnitsP.told (τ.take (k + 1)) 0 = L) := by show _ = _; rw [HT.out, hx0]; simp
                  have t0 : (x != 0) = false := by rw [bne, beq_iff_eq.2 hx0]; rfl
                  clear hx0
                  go_wp2_with fail
                  go_roundw
                  case rel => exact ⟨k + 1, by omega, by go_num, a', c', by rw [HT2.out]; exact ⟨hc1, hown, hbr5⟩⟩
                  case measure => simp [intOf]; omega
                · have t0 : (x != 0) = true := by rw [bne, beq_eq_false_iff_ne.2 hx0]; rfl
                  have HT2 : Hid (UnitsP.told (τ.take (k + 1)) 0 = L ++ [x * (k : Int)]) := by show _ = _; rw [HT.out, if_pos hx0]
                  obtain ⟨y, hy⟩ : ∃ y : Int, x * (k : Int) = y := ⟨_, rfl⟩
                  have hyb : -(k : Int) ≤ y ∧ y ≤ k := by
                    rcases (show x = 1 ∨ x = -1 by omega) with h | h
                    · subst h; omega
                    · subst h; omega
                  rw [hy] at HT2
                  have hmul : IntKind.i64.wrap (x * (k : Int)) = y := by rw [hy]; exact IntWalk.i64_in _ (by omega)
                  have hmul' : wrap64 (x * (k : Int)) = y := by rw [hy]; exact IntWalk.wrap64_in _ ⟨by omega, by omega⟩
                  clear hx0
                  go_wp2_with ((with_reducible refine wpL_push (B := w5.heap.size) (W := w5.setCell ⟨N + 1, 0, none⟩ (.slice a' L.length c')) wr (.int .i64 y) _ L.length (ints L) info_int Try.underlying25 ?_ ?_ ?_ ?_ ?_ hown ?_ ?_ ?_ hbr5 ?_); rfl; rfl; rfl; rfl; rfl; (exact hbase); omega; omega; (intro a2 c2 w6 hown6 hb6 hsz6; (have hc6 : w6.cell? ⟨N + 1, 0, none⟩ = some (.slice a' L.length c') := (hb6.cell (p := ⟨N + 1, 0, none⟩) (by show N + 1 < w5.heap.size; omega)).trans (World.cell?_setCell_same _ _ _ H45.out.r1)); (have hz6 : w6.frozen? ⟨N + 1, 0, none⟩ = false := (hb6.frozen (p := ⟨N + 1, 0, none⟩) (by show N + 1 < w5.heap.size; omega)).trans (by rw [World.frozen?_setCell]; exact H45.out.z1))))
                  go_roundw
                  case rel =>
                    refine ⟨k + 1, by omega, by go_num, a2, c2, ?_⟩
                    rw [HT2.out, List.length_append, List.length_singleton]
                    refine ⟨World.cell?_setCell_same _ _ _ hc6, ?_, ?_⟩
                    · have := ownsRow_setCell_below hown6 (a := ⟨N + 1, 0, none⟩) (by show N + 1 < w5.heap.size; omega) (.slice a2 (L.length + 1) c2)
                      have e : ints (L ++ [y]) = ints L ++ [.int .i64 y] := by simp [ints]
                      rw [e]
                      exact this
                    · have := below_set hb6 ⟨N + 1, 0, none⟩ (.slice a2 (L.length + 1) c2)
                      rwa [set_twice] at this
                  case measure => simp [intOf]; omega
              · have hk2 : k = V + 1 := by omega
                have hT : τ.take k = τ := List.take_of_length_le (by rw [Hτ.out]; omega)
                rw [hT] at hc1 hown hbr5
                have HO : Hid (outOf (run V cls l) = UnitsP.told τ 0) := by show _ = _; rw [HE.out]; rfl
                have HI : Hid ((run V cls l).isSome = true) := by show _ = _; rw [HE.out]; rfl
                generalize UnitsP.told τ 0 = L at *
                have e1 := hc1
                have e2 : wr.cell? ⟨N + 1 + 1, 0, none⟩ = some (.bool false) := (hbr5.cell (p := ⟨N + 1 + 1, 0, none⟩) (by show N + 1 + 1 < w5.heap.size; omega)).trans ((World.cell?_setCell_other _ _ _ _ (by simp)).trans H45.out.r2)
                have e3 : wr.cell? ⟨N + 1 + 1 + 1, 0, none⟩ = some (.int .i64 0) := (hbr5.cell (p := ⟨N + 1 + 1 + 1, 0, none⟩) (by show N + 1 + 1 + 1 < w5.heap.size; omega)).trans ((World.cell?_setCell_other _ _ _ _ (by simp)).trans H45.out.r3)
                have y2 : wr.frozen? ⟨N + 1 + 1, 0, none⟩ = false := (hbr5.frozen (p := ⟨N + 1 + 1, 0, none⟩) (by show N + 1 + 1 < w5.heap.size; omega)).trans (by rw [World.frozen?_setCell]; exact H45.out.z2)
                have y3 : wr.frozen? ⟨N + 1 + 1 + 1, 0, none⟩ = false := (hbr5.frozen (p := ⟨N + 1 + 1 + 1, 0, none⟩) (by show N + 1 + 1 + 1 < w5.heap.size; omega)).trans (by rw [World.frozen?_setCell]; exact H45.out.z3)
                have hrs : w5.heap.size ≤ wr.heap.size := by have := hbr5.size; simpa using this
                have hNw : w.heap.size = N := HN.out.symm
                have hbwr' : Below w.heap.size w wr := (hbw5.setCell (by show w.heap.size ≤ N + 1; omega) _).trans (hbr5.mono hbw5.size)
                have hfin := ownsRow_setCell_below (ownsRow_setCell_below (ownsRow_setCell_below hown (a := ⟨N + 1, 0, none⟩) (by show N + 1 < w5.heap.size; omega) (.slice a' L.length c')) (a := ⟨N + 1 + 1, 0, none⟩) (by show N + 1 + 1 < w5.heap.size; omega) (.bool true)) (a := ⟨N + 1 + 1 + 1, 0, none⟩) (by show N + 1 + 1 + 1 < w5.heap.size; omega) (.int .i64 0)
                have HFIN := Lib.hid hfin
                have HK2 := Lib.hid hk2
                clear hk2 hT hfin
                clear hNw
                go_wp2_with fail
                rw [HRUN.out, HO.out, HI.out]
                obtain ⟨a9, c9, ev9, hsl9⟩ := own_sl HFIN.out
                simp only [Value.slice.injEq] at ev9
                obtain ⟨rfl, _, rfl⟩ := ev9
                have hNw : w.heap.size = N := HN.out.symm
                exact leave_done (w := w) rfl rfl rfl (by simp [go_sem, e1]) (by simp [go_sem, e2]) (by simp [go_sem, e3]) (by simp; omega) (by simp; omega) (by simp; omega) hsl9
                  (((hbwr'.setCell (by show w.heap.size ≤ N + 1; omega) _).setCell (by show w.heap.size ≤ N + 1 + 1; omega) _).setCell (by show w.heap.size ≤ N + 1 + 1 + 1; omega) _) (fun e w' h => h)
    · have HS : Hid (spec vars cls l = ([], false, 4)) := by show _ = _; unfold spec; rw [HQ.out, HC.out, hlb]; rfl
      rw [hlb] at HL
      clear hlb
      go_wp2_with fail
      refine HL.out.mono ?_
      rintro e w2 ⟨rfl, hb2⟩
      have h42 := H41.out.next (hb2.mono H41.out.size)
      have e1 := h42.r1
      have e2 := h42.r2
      have e3 := h42.r3
      have z1 := h42.z1
      have z2 := h42.z2
      have z3 := h42.z3
      have H42 := Lib.hid h42
      clear h42
      go_wp2
      rw [HS.out]
      refine leave_plain (w := w) rfl rfl rfl (c := 0) (out := []) (by simp [go_sem, e1]) (by simp [go_sem, e2]) (by simp [go_sem, e3]) (Sl.nil _) ?_ (fun e h => h)
      have hsz := H41.out.size
      exact (((hbw1.trans (hb2.mono hbw1.size)).setCell (by show w.heap.size ≤ N + 1; rw [HN.out]; omega) _).setCell (by show w.heap.size ≤ N + 1 + 1; rw [HN.out]; omega) _).setCell (by show w.heap.size ≤ N + 1 + 1 + 1; rw [HN.out]; omega) _
  · have t1 : (Formula.check vars cls != 0) = true := by rw [bne, beq_eq_false_iff_ne.2 hc]; rfl
    have h9 : Formula.check vars cls = 9 := by
      unfold Formula.check at hc ⊢
      split
      · rfl
      · rename_i hb; exact absurd (if_neg hb) hc
    have HS : Hid (spec vars cls l = ([], false, 9)) := by show _ = _; unfold spec; rw [if_neg hc]
    have H9 := Lib.hid h9
    clear hc h9
    generalize hq : Formula.check vars cls = q at *
    have HQ := Lib.hid hq
    clear hq
    have e1 := h41.r1
    have e2 := h41.r2
    have e3 := h41.r3
    have z1 := h41.z1
    have z2 := h41.z2
    have z3 := h41.z3
    have H41 := Lib.hid h41
    clear h41
    go_wp2
    rw [HS.out]
    refine leave_plain (w := w) rfl rfl rfl (c := 0) (out := []) (by simp [go_sem, e1]) (by simp [go_sem, e2]) (by simp [go_sem, e3, H9.out]) (Sl.nil _) ?_ (fun e h => h)
    have hbw1 : Below w.heap.size w w1 := HB4.out.trans (hb1.mono (by rw [HZ4.out]; omega))
    exact ((hbw1.setCell (by show w.heap.size ≤ N + 1; rw [HN.out]; omega) _).setCell (by show w.heap.size ≤ N + 1 + 1; rw [HN.out]; omega) _).setCell (by show w.heap.size ≤ N + 1 + 1 + 1; rw [HN.out]; omega) _
end Units
end Go.Proofs.Ytpanpfbhdcanhaa
