/-
  formula.True: what it gives is what the reference's True gives.
-/
import Derived.Test.YtpanpfbhdcanhaaTrue
namespace Go.Proofs.Ytpanpfbhdcanhaa
open Go.RowKit Base
set_option linter.unusedVariables false
namespace True

theorem byteVal (b : UInt8) : (b.toNat : Int) = ((b.toNat : Nat) : Int) := rfl

set_option maxHeartbeats 400000 in
theorem notBit_any (q : UInt8) (w : World) :
    Calls Try.prog 37 #[.int .u8 (q.toNat : Nat)] w fun e w' => e = .returned (.bool (!CubeP.bit q)) ∧ w = w' := by
  by_cases h0 : q = 48
  · have v0 : ((q.toNat : Int) != 48) = false := by rw [h0]; rfl
    have HB : Hid ((!CubeP.bit q) = false) := by show _ = _; rw [h0]; rfl
    clear h0
    go_enter Try.func37, Try.ntmps37
    go_wp2
    go_ret
    exact ⟨ret_bool HB.out.symm, rfl⟩
  · have v0 : ((q.toNat : Int) != 48) = true := byte_neB q 48 h0
    by_cases h1 : q = 49
    · have v1 : ((q.toNat : Int) != 49) = false := by rw [h1]; rfl
      have HB : Hid ((!CubeP.bit q) = false) := by show _ = _; rw [h1]; rfl
      clear h0 h1
      go_enter Try.func37, Try.ntmps37
      go_wp2
      go_ret
      exact ⟨ret_bool HB.out.symm, rfl⟩
    · have v1 : ((q.toNat : Int) != 49) = true := byte_neB q 49 h1
      have HB : Hid ((!CubeP.bit q) = true) := by show _ = _; unfold CubeP.bit; simp [h0, h1]
      clear h0 h1
      go_enter Try.func37, Try.ntmps37
      go_wp2
      go_ret
      exact ⟨ret_bool HB.out.symm, rfl⟩

theorem gives_bytes {w : World} {g : FuncId} {fs lb : Array Value} {s : ByteArray} {p : UInt8 → Bool}
    (h : ∀ W, Below w.heap.size w W → ∀ q : UInt8, Calls Try.prog g (fs.push (.int .u8 (q.toNat : Nat)) ++ lb) W fun e w' => e = .returned (.bool (p q)) ∧ Below W.heap.size W w') :
    SlfB.Gives w g fs lb (bytesV s) (s.data.toList.map p) := by
  intro W hW k v b hv hb
  unfold bytesV at hv
  rw [List.getElem?_map, Option.map_eq_some_iff] at hv hb
  obtain ⟨q, hq, rfl⟩ := hv
  obtain ⟨q', hq', rfl⟩ := hb
  rw [hq] at hq'
  simp only [Option.some.injEq] at hq'
  subst hq'
  exact h W hW q

set_option maxHeartbeats 400000 in
theorem broken_any (w : World) (s : ByteArray) (hs : s.size ≤ 9223372036854775807) (a : Option Addr) (n c : Nat) (xs : List Int) (hsl : Sl w a n c (ints xs)) (hx : Clause.Wf xs) :
    Calls Try.prog 38 #[.string s, .slice a n c] w fun e w' => e = .returned (.bool (!one s xs)) ∧ Below w.heap.size w w' := by
  have H := Lib.hid (SlfI.containsFunc w a n c (ints xs) 51 #[.string s] #[] (xs.map (CubeP.is s.data.toList)) hsl (by rw [List.length_map]; have := hsl.len; rwa [ints_len] at this)
    (enters_of Try.func51 (by kernel_rfl) rfl)
    (Clause.gives_of fun W hW x hm => (is_any s hs x (hx x hm).1 (hx x hm).2 W).mono fun e w' h => ⟨h.1, h.2 ▸ Below.refl _ _⟩))
  rw [Clause.map_any] at H
  have hmf : ∀ (fn : Fn) (first cap : Array Value) (w : World), (Instr.makeFunc fn first cap).run Try.prog w = .ok (.func fn first cap) w := fun _ _ _ _ => rfl
  have HO : Hid (one s xs = xs.any (CubeP.is s.data.toList)) := rfl
  clear hsl hx hs
  generalize xs.any (CubeP.is s.data.toList) = q at *
  go_enter Try.func38, Try.ntmps38
  go_wp2_with fail
  refine H.out.mono ?_
  rintro e w1 ⟨rfl, hb⟩
  go_wp2_with fail
  go_ret
  exact ⟨ret_bool (by rw [HO.out]), hb⟩

theorem any_not_all {α : Type} (l : List α) (p : α → Bool) : ((l.map fun x => !p x).any id) = !(l.all p) := by
  induction l with
  | nil => rfl
  | cons x r ih => simp only [List.map_cons, List.any_cons, List.all_cons, ih]; cases p x <;> rfl

set_option maxHeartbeats 2000000 in
theorem true_any (w : World) (vars : Int) (a : Option Addr) (n c : Nat) (vs : List Value) (cls : List (List Int)) (hsl : Sl2 w a n c vs cls) (hw : Formula.Wf2 cls) (s : ByteArray) (hs : s.size ≤ 9223372036854775807) :
    Calls Try.prog 18 #[.agg #[.int .i64 vars, .slice a n c], .string s] w fun e w' => e = .returned (.bool (tru vars cls s)) ∧ Below w.heap.size w w' := by
  have hal : Below w.heap.size w (w.alloc (.cells #[.int .i64 vars, .slice a n c] 24)) := (Below.refl _ _).alloc (Nat.le_refl _) _
  have HSL := Lib.hid hsl
  have hc0 : (w.alloc (.cells #[.int .i64 vars, .slice a n c] 24)).cell? ⟨w.heap.size, 0, none⟩ = some (.int .i64 vars) := by simp
  have hc1 : (w.alloc (.cells #[.int .i64 vars, .slice a n c] 24)).cell? ⟨w.heap.size, 1, none⟩ = some (.slice a n c) := by simp
  have hNs : w.heap.size < (w.alloc (.cells #[.int .i64 vars, .slice a n c] 24)).heap.size := by simp
  have HC0 := Lib.hid hc0
  have HC1 := Lib.hid hc1
  have HAL := Lib.hid hal
  have HWF := Lib.hid hw
  have HNS := Lib.hid hNs
  have hmf : ∀ (fn : Fn) (first cap : Array Value) (w : World), (Instr.makeFunc fn first cap).run Try.prog w = .ok (.func fn first cap) w := fun _ _ _ _ => rfl
  clear hc0 hc1 hal hsl hw hNs
  go_enter Try.func18, Try.ntmps18
  go_wp2_with ((with_reducible refine wpL_bytes (s := s) ?_ ?_ Try.underlying9 Try.underlying72 Try.underlying5 ?_); rfl; omega; intro b c1 w1 hsb hb1 hbb)
  generalize w.alloc (.cells #[.int .i64 vars, .slice a n c] 24) = W at *
  have HB := Lib.hid (SlfB.containsFunc w1 _ s.size c1 (bytesV s) 37 #[] #[] (s.data.toList.map fun q => !CubeP.bit q) hsb (by simp)
    (enters_of Try.func37 (by kernel_rfl) rfl) (gives_bytes fun W' hW' q => (notBit_any q W').mono fun e w' h => ⟨h.1, h.2 ▸ Below.refl _ _⟩))
  rw [any_not_all] at HB
  have hbw1 : Below w.heap.size w w1 := HAL.out.trans (hb1.mono HAL.out.size)
  have HBITS : Hid (tru vars cls s = (s.data.toList.all CubeP.bit && (decide ((s.size : Int) = vars) && cls.all (one s)))) := by show _ = _; unfold tru; rw [Bool.and_assoc]
  refine HB.out.mono ?_
  rintro e w2 ⟨rfl, hb2⟩
  have hbw2 : Below w.heap.size w w2 := hbw1.trans (hb2.mono hbw1.size)
  have c0 : w2.cell? ⟨w.heap.size, 0, none⟩ = some (.int .i64 vars) := (hb2.cell (p := ⟨w.heap.size, 0, none⟩) (Nat.lt_of_lt_of_le HNS.out hb1.size)).trans ((hb1.cell (p := ⟨w.heap.size, 0, none⟩) HNS.out).trans HC0.out)
  have c1' : w2.cell? ⟨w.heap.size, 1, none⟩ = some (.slice a n c) := (hb2.cell (p := ⟨w.heap.size, 1, none⟩) (Nat.lt_of_lt_of_le HNS.out hb1.size)).trans ((hb1.cell (p := ⟨w.heap.size, 1, none⟩) HNS.out).trans HC1.out)
  have HR := Lib.hid (SlfR.containsFunc w2 a n c vs 38 #[.string s] #[] (cls.map fun l => !one s l) (HSL.out.next hbw2).sl (by rw [List.length_map]; exact HSL.out.len)
    (enters_of Try.func38 (by kernel_rfl) rfl)
    (Formula.gives_rows (HSL.out.next hbw2) HWF.out fun W' hW' a' n' c' xs hm hs' hx => broken_any W' s hs a' n' c' xs hs' hx))
  rw [any_not_all] at HR
  generalize s.data.toList.all CubeP.bit = q1 at *
  generalize cls.all (one s) = q2 at *
  cases q1
  · go_wp2_with fail
    go_ret
    exact ⟨ret_bool (by rw [HBITS.out]; rfl), hbw2⟩
  · by_cases hv : (s.size : Int) = vars
    · have t1 : ((s.size : Int) == vars) = true := beq_iff_eq.2 hv
      have HV := Lib.hid hv
      clear hv
      go_wp2_with fail
      refine HR.out.mono ?_
      rintro e w3 ⟨rfl, hb3⟩
      go_wp2_with fail
      go_ret
      exact ⟨ret_bool (by rw [HBITS.out, decide_eq_true HV.out]; cases q2 <;> rfl), hbw2.trans (hb3.mono hbw2.size)⟩
    · have t1 : ((s.size : Int) == vars) = false := beq_eq_false_iff_ne.2 hv
      have HV := Lib.hid hv
      clear hv
      go_wp2_with fail
      go_ret
      exact ⟨ret_bool (by rw [HBITS.out, decide_eq_false HV.out]; rfl), hbw2⟩
end True
end Go.Proofs.Ytpanpfbhdcanhaa
