/-
  circuit.Kind: what a variable is.
-/
import Derived.Test.YtpejpjiipcolbaaGate
import Derived.Test.YtpejpjiipcolbaaSlfI
import Derived.Test.YtpejpjiipcolbaaSlfT
import Derived.BigQuiet
import Derived.Laws.EntriesVeiled
namespace Go.Proofs.Ytpejpjiipcolbaa
open Go.RowKit Base
set_option linter.unusedVariables false
set_option linter.unusedSimpArgs false
namespace Circuit

/-- Is a literal of a variable? -/
def ofV (v l : Int) : Bool := decide (0 ≤ l) && decide (var l = v)

theorem eg1 : SlfI.Enters 33 := enters_of Try.func33 (by kernel_rfl) rfl
theorem eg2 : SlfT.Enters 37 := enters_of Try.func37 (by kernel_rfl) rfl

set_option maxHeartbeats 1000000 in
theorem of_any (w : World) (l v : Int) (hl : I64 l) (B : Nat) (hc : w.cell? ⟨B, 0, none⟩ = some (.int .i64 v)) :
    Calls Try.prog 33 #[.int .i64 l, .pointer (some ⟨B, 0, none⟩)] w fun e w' => e = .returned (.bool (ofV v l)) ∧ Below w.heap.size w w' := by
  have VA := Lib.hid (fun U => var_any l hl.1 hl.2 U)
  have HV : Hid (ofV v l = (decide (0 ≤ l) && decide (var l = v))) := rfl
  by_cases h0 : 0 ≤ l
  · rw [decide_eq_true h0, Bool.true_and] at HV
    have HD : Hid (decide (var l = v) = (var l == v)) := by show _ = _; rw [Bool.eq_iff_iff]; simp
    go_enter Try.func33, Try.ntmps33
    go_wp2_with fail
    go_quiet ((go_at_call 34; exact Calls.quiet_of_same ((VA.out _).mono fun e w' h => ⟨h.1, h.2.symm⟩)))
    go_wp2_with fail
    go_ret
    exact ⟨ret_bool (by rw [HV.out, HD.out]), below_drewN (Below.refl _ _) _⟩
  · rw [decide_eq_false h0, Bool.false_and] at HV
    have hd : decide (0 ≤ l) = false := decide_eq_false h0
    have h0' : l < 0 := by omega
    go_enter Try.func33, Try.ntmps33
    go_wp2_with fail
    go_quiet (fail)
    go_wp2_with fail
    go_ret
    exact ⟨ret_bool HV.out.symm, below_drewN (Below.refl _ _) _⟩

set_option maxHeartbeats 1000000 in
theorem ofL_any (w : World) (t : Tri) (v : Int) (hl : I64 t.1) (B N : Nat) (hB : B < w.heap.size) (hN : N < w.heap.size) (hc : w.cell? ⟨B, 0, none⟩ = some (.int .i64 v)) (hf : w.cell? ⟨N, 0, none⟩ = some (.func (.func 33) #[] #[.pointer (some ⟨B, 0, none⟩)])) :
    Calls Try.prog 37 #[.agg #[.int .i64 t.1, .int .i64 t.2.1, .int .i64 t.2.2], .pointer (some ⟨N, 0, none⟩)] w fun e w' => e = .returned (.bool (ofV v t.1)) ∧ Below w.heap.size w w' := by
  obtain ⟨t0, t1, t2⟩ := t
  simp only at *
  obtain ⟨U, hU⟩ : ∃ U, w.alloc (.cells #[.int .i64 t0, .int .i64 t1, .int .i64 t2] 47) = U := ⟨_, rfl⟩
  have hbU : Below w.heap.size w U := by rw [← hU]; exact (Below.refl _ _).alloc (Nat.le_refl _) _
  have u0 : U.cell? ⟨w.heap.size, 0, none⟩ = some (.int .i64 t0) := by rw [← hU]; simp [go_sem]
  have uf := (hbU.cell (p := ⟨N, 0, none⟩) hN).trans hf
  have OA := Lib.hid (of_any U t0 v hl B ((hbU.cell (p := ⟨B, 0, none⟩) hB).trans hc))
  have HBU := Lib.hid hbU
  have e1 := eg1
  unfold SlfI.Enters at e1
  clear hbU hc hf
  go_enter Try.func37, Try.ntmps37
  go_wp2_with fail
  refine OA.out.mono ?_
  rintro e w3 ⟨rfl, hb3⟩
  have HB3 := Lib.hid (HBU.out.trans (hb3.mono HBU.out.size))
  clear hb3
  go_wp2_with fail
  go_ret
  exact ⟨rfl, HB3.out⟩

/-- What a variable is. -/
def kindOf (x : Circ) (v : Int) : ByteArray :=
  if v = 0 then ⟨#[48]⟩ else if (x.ins.map (ofV v)).any id = true then ⟨#[105]⟩ else if (x.lats.map fun t => ofV v t.1).any id = true then ⟨#[108]⟩ else if (gate x.ands v).isSome = true then ⟨#[97]⟩ else ⟨#[]⟩

theorem gate_form {w : World} {g : Option Tri} {e : Ending} {w' : World} (h : GateOut w g e w') : ∃ t0 t1 t2, e = .returned (.tuple #[.agg #[.int .i64 t0, .int .i64 t1, .int .i64 t2], .bool g.isSome]) ∧ Below w.heap.size w w' := by
  obtain ⟨h, hb⟩ := h
  cases g with
  | none => exact ⟨0, 0, 0, h, hb⟩
  | some t => exact ⟨t.1, t.2.1, t.2.2, h, hb⟩

set_option maxRecDepth 8000 in
set_option maxHeartbeats 8000000 in
theorem kind_any (w : World) (x : Circ) (p : At) (hin : InCirc w x p) (hwi : ∀ l ∈ x.ins, I64 l) (hwl : WfT x.lats) (hwa : WfT x.ands) (v : Int) :
    Calls Try.prog 10 #[.agg (cells x p), .int .i64 v] w fun e w' => e = .returned (.string (kindOf x v)) ∧ Below w.heap.size w w' := by
  have hkind : kindOf x v = if v = 0 then ⟨#[48]⟩ else if (x.ins.map (ofV v)).any id = true then ⟨#[105]⟩ else if (x.lats.map fun t => ofV v t.1).any id = true then ⟨#[108]⟩ else if (gate x.ands v).isSome = true then ⟨#[97]⟩ else ⟨#[]⟩ := rfl
  have HKD := Lib.hid hkind
  have hGA := fun U (hU : Below w.heap.size w U) => gate_any U x p (hin.next hU) hwa v
  obtain ⟨mx, ins, lats, outs, bads, invs, ands, names⟩ := x
  obtain ⟨a1, c1, a2, c2, a3, c3, a4, c4, a5, c5, a6, c6, a7, c7⟩ := p
  have hins := hin.ins
  have hlats := hin.lats
  simp only [cells] at *
  obtain ⟨W1, hW1⟩ : ∃ W1, w.alloc (.cells #[.int .i64 mx, .slice a1 ins.length c1, .slice a2 lats.length c2, .slice a3 outs.length c3, .slice a4 bads.length c4, .slice a5 invs.length c5, .slice a6 ands.length c6, .slice a7 names.length c7] 27) = W1 := ⟨_, rfl⟩
  obtain ⟨W2, hW2⟩ : ∃ W2, W1.alloc (.cells #[.int .i64 v] 3) = W2 := ⟨_, rfl⟩
  have h1 : Below w.heap.size w W1 := by rw [← hW1]; exact (Below.refl _ _).alloc (Nat.le_refl _) _
  have h2 : Below W1.heap.size W1 W2 := by rw [← hW2]; exact (Below.refl _ _).alloc (Nat.le_refl _) _
  have z1 : W1.heap.size = w.heap.size + 1 := by rw [← hW1]; simp
  have z2 : W2.heap.size = w.heap.size + 2 := by rw [← hW2]; simp [z1]
  have k0 : W2.cell? ⟨w.heap.size, 0, none⟩ = some (.int .i64 mx) := by rw [← hW2, ← hW1]; simp [go_sem]
  have k1 : W2.cell? ⟨w.heap.size, 1, none⟩ = some (.slice a1 ins.length c1) := by rw [← hW2, ← hW1]; simp [go_sem]
  have k2 : W2.cell? ⟨w.heap.size, 2, none⟩ = some (.slice a2 lats.length c2) := by rw [← hW2, ← hW1]; simp [go_sem]
  have k3 : W2.cell? ⟨w.heap.size, 3, none⟩ = some (.slice a3 outs.length c3) := by rw [← hW2, ← hW1]; simp [go_sem]
  have k4 : W2.cell? ⟨w.heap.size, 4, none⟩ = some (.slice a4 bads.length c4) := by rw [← hW2, ← hW1]; simp [go_sem]
  have k5 : W2.cell? ⟨w.heap.size, 5, none⟩ = some (.slice a5 invs.length c5) := by rw [← hW2, ← hW1]; simp [go_sem]
  have k6 : W2.cell? ⟨w.heap.size, 6, none⟩ = some (.slice a6 ands.length c6) := by rw [← hW2, ← hW1]; simp [go_sem]
  have k7 : W2.cell? ⟨w.heap.size, 7, none⟩ = some (.slice a7 names.length c7) := by rw [← hW2, ← hW1]; simp [go_sem]
  have kv : W2.cell? ⟨w.heap.size + 1, 0, none⟩ = some (.int .i64 v) := by rw [← z1, ← hW2]; simp [go_sem]
  have hb2 : Below w.heap.size w W2 := h1.trans (h2.mono h1.size)
  have HGA := Lib.hid (hGA W2 hb2)
  have HINS := Lib.hid (hins.next hb2)
  have HLAT := Lib.hid (hlats.next hb2)
  have HB2 := Lib.hid hb2
  have HWI := Lib.hid hwi
  have HWL := Lib.hid hwl
  clear hin hins hlats hwi hwl hwa h1 h2 hb2 hGA hkind
  generalize kindOf _ v = R at *
  generalize gate ands v = g at *
  go_enter Try.func10, Try.ntmps10
  go_wp2_with fail
  refine HGA.out.mono ?_
  intro e w3 hgo
  obtain ⟨t0, t1, t2, rfl, hb3⟩ := gate_form hgo
  clear hgo hW1 hW2 HGA
  have d1 := (hb3.cell (p := ⟨w.heap.size, 1, none⟩) (by show w.heap.size < W2.heap.size; omega)).trans k1
  have d2 := (hb3.cell (p := ⟨w.heap.size, 2, none⟩) (by show w.heap.size < W2.heap.size; omega)).trans k2
  have dv := (hb3.cell (p := ⟨w.heap.size + 1, 0, none⟩) (by show w.heap.size + 1 < W2.heap.size; omega)).trans kv
  have z3 : w.heap.size + 2 ≤ w3.heap.size := by have := hb3.size; omega
  obtain ⟨U3, hU3⟩ : ∃ U3, w3.alloc (.cells #[.int .i64 t0, .int .i64 t1, .int .i64 t2] 33) = U3 := ⟨_, rfl⟩
  obtain ⟨U4, hU4⟩ : ∃ U4, U3.alloc (.cells #[.func (.func 33) #[] #[.pointer (some ⟨w.heap.size + 1, 0, none⟩)]] 53) = U4 := ⟨_, rfl⟩
  have h3 : Below w3.heap.size w3 U3 := by rw [← hU3]; exact (Below.refl _ _).alloc (Nat.le_refl _) _
  have h4 : Below U3.heap.size U3 U4 := by rw [← hU4]; exact (Below.refl _ _).alloc (Nat.le_refl _) _
  have zU3 : U3.heap.size = w3.heap.size + 1 := by rw [← hU3]; simp
  have zU4 : U4.heap.size = w3.heap.size + 2 := by rw [← hU4]; simp [zU3]
  have h34 : Below w3.heap.size w3 U4 := h3.trans (h4.mono h3.size)
  have e1 := (h34.cell (p := ⟨w.heap.size, 1, none⟩) (by show w.heap.size < w3.heap.size; omega)).trans d1
  have e2 := (h34.cell (p := ⟨w.heap.size, 2, none⟩) (by show w.heap.size < w3.heap.size; omega)).trans d2
  have ev := (h34.cell (p := ⟨w.heap.size + 1, 0, none⟩) (by show w.heap.size + 1 < w3.heap.size; omega)).trans dv
  have ef : U4.cell? ⟨U3.heap.size, 0, none⟩ = some (.func (.func 33) #[] #[.pointer (some ⟨w.heap.size + 1, 0, none⟩)]) := by rw [← hU4]; simp [go_sem]
  have hb24 : Below W2.heap.size W2 U4 := hb3.trans (h34.mono hb3.size)
  have HB4 := Lib.hid (HB2.out.trans (hb24.mono HB2.out.size))
  have HI4 := Lib.hid (HINS.out.next hb24)
  have HL4 := Lib.hid (HLAT.out.next hb24)
  have HZ : Hid (w.heap.size + 1 < U4.heap.size ∧ U3.heap.size < U4.heap.size) := by show _ ∧ _; omega
  clear hb3 h3 h4 h34 hb24 d1 d2 dv k0 k1 k2 k3 k4 k5 k6 k7 kv zU3 zU4
  by_cases hv0 : v = 0
  · have hR := HKD.out
    rw [if_pos hv0] at hR
    subst hv0
    subst hR
    clear HKD
    go_wp2_with fail
    go_ret
    exact ⟨rfl, HB4.out⟩
  · have hv0' : (v == 0) = false := by simp [hv0]
    rw [if_neg hv0] at HKD
    have C1 := SlfI.containsFunc U4 a1 _ c1 (ints ins) 33 #[] #[.pointer (some ⟨w.heap.size + 1, 0, none⟩)] (ins.map (ofV v)) HI4.out (by rw [List.length_map]) eg1 (by
      intro U hU j y q hy hq
      obtain ⟨hj, rfl⟩ := ints_at hy
      rw [List.getElem?_map, List.getElem?_eq_getElem hj] at hq
      simp only [Option.map_some, Option.some.injEq] at hq
      subst hq
      exact of_any U ins[j] v (HWI.out _ (List.getElem_mem hj)) (w.heap.size + 1) ((hU.cell (p := ⟨w.heap.size + 1, 0, none⟩) HZ.out.1).trans ev))
    have HC1 := Lib.hid C1
    clear C1
    have C2 := fun W5 (h5 : Below U4.heap.size U4 W5) => SlfT.containsFunc W5 a2 _ c2 lats 37 #[] #[.pointer (some ⟨U3.heap.size, 0, none⟩)] (lats.map fun t => ofV v t.1) (HL4.out.next h5) (by rw [List.length_map]) eg2 (by
      intro U hU j y q hy hq
      obtain ⟨hj, rfl⟩ := List.getElem?_eq_some_iff.1 hy
      rw [List.getElem?_map, List.getElem?_eq_getElem hj] at hq
      simp only [Option.map_some, Option.some.injEq] at hq
      subst hq
      have hUU : Below U4.heap.size U4 U := h5.trans (hU.mono h5.size)
      have hsz := hUU.size
      exact ofL_any U lats[j] v (HWL.out _ (List.getElem_mem hj)).1 (w.heap.size + 1) U3.heap.size (Nat.lt_of_lt_of_le HZ.out.1 hsz) (Nat.lt_of_lt_of_le HZ.out.2 hsz) ((hUU.cell (p := ⟨w.heap.size + 1, 0, none⟩) HZ.out.1).trans ev) ((hUU.cell (p := ⟨U3.heap.size, 0, none⟩) HZ.out.2).trans ef))
    have HC2 := Lib.hid C2
    clear C2 hv0
    generalize (ins.map (ofV v)).any id = b1 at *
    generalize (lats.map fun t => ofV v t.1).any id = b2 at *
    go_wp2_with fail
    refine HC1.out.mono ?_
    rintro e w5 ⟨rfl, hb5⟩
    have g2 := (hb5.cell (p := ⟨w.heap.size, 2, none⟩) (by show w.heap.size < U4.heap.size; have := HZ.out.1; omega)).trans e2
    have HB5 := Lib.hid (HB4.out.trans (hb5.mono HB4.out.size))
    have HC2' := Lib.hid (HC2.out w5 hb5)
    clear hb5 HC1 HC2
    cases b1
    · simp only [Bool.false_eq_true, if_false] at HKD
      go_wp2_with fail
      refine HC2'.out.mono ?_
      rintro e w6 ⟨rfl, hb6⟩
      have HB6 := Lib.hid (HB5.out.trans (hb6.mono HB5.out.size))
      clear hb6
      cases b2
      · simp only [Bool.false_eq_true, if_false] at HKD
        cases hg : g.isSome
        · have hR := HKD.out
          rw [hg] at hR
          simp only [Bool.false_eq_true, if_false] at hR
          subst hR
          clear HKD
          go_wp2_with fail
          go_ret
          exact ⟨rfl, HB6.out⟩
        · have hR := HKD.out
          rw [hg] at hR
          simp only [if_true] at hR
          subst hR
          clear HKD
          go_wp2_with fail
          go_ret
          exact ⟨rfl, HB6.out⟩
      · simp only [if_true] at HKD
        have hR := HKD.out
        subst hR
        clear HKD
        go_wp2_with fail
        go_ret
        exact ⟨rfl, HB6.out⟩
    · simp only [if_true] at HKD
      have hR := HKD.out
      subst hR
      clear HKD
      go_wp2_with fail
      go_ret
      exact ⟨rfl, HB5.out⟩

end Circuit
end Go.Proofs.Ytpejpjiipcolbaa
