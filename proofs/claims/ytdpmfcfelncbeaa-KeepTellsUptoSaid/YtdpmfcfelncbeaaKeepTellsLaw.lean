/-
  The law interlocklaw30.KeepTells holds of the given program: whatever comes in (within the bound of the second form), the call returns true and what came in reads as it did.
-/
import Derived.Test.YtdpmfcfelncbeaaKeepTellsAll
import Derived.Test.YtdpmfcfelncbeaaOpenK
import Derived.Test.YtdpmfcfelncbeaaFrame
namespace Go.Proofs.Ytdpmfcfelncbeaa.keepTells
open Go.ChangeShapes Go.WideShapes Go.ChangeAt Go.RowKit
open Go.ChangeMaps (open_string shut_string)
set_option linter.unusedVariables false

theorem own : ownKnob Try.prog.godebug = none := by kernel_rfl
theorem laid : laidOutB Try.prog = true := by kernel_rfl
theorem reads : (Try.f6.params.toList.all fun t => Try.prog.readableRec t && decide (t < Try.prog.types.size)) = true := by kernel_rfl



set_option maxRecDepth 100000 in
theorem contract (H : Type) (enc : TypeId × Value → H) (W : World) (base : Nat) (args : Array Value) (ds gs : List (DataW H)) (before : List MemPlace)
    (hval : ∀ (j : Nat) t v, Try.f6.params[j]? = some t → args[j]? = some v → Value.okWide Try.prog W .any base t v)
    (hW : DataW.Whole enc Try.prog Try.f6.params.toList Rows.keepTellsSpec.vars false W args.toList ds gs before) (hk : Rows.uptoSmall H (ds ++ gs) = true) :
    Calls Try.prog 6 args W fun e W' => ∃ v, e = .returned v ∧ Rows.keepTellsSpec.post enc Try.prog Try.f6 false true false false W args v W' := by
  have hW' := hW
  obtain ⟨p, q, hA0, hV, rfl, hfz, hnd⟩ := hW
  have hA : DataW.TrodAll enc Try.prog W 0 (fun _ => true) true Try.f6.params.toList args.toList ds p := hA0
  rw [Try.params6] at hA hval
  obtain ⟨v0, vs0, d0, ds0, p0, q0, hargs, rfl, rfl, h0, r0⟩ := trodAll_cons hA
  obtain ⟨v1, vs1, d1, ds1, p1, q1, rfl, rfl, rfl, h1, r1⟩ := trodAll_cons r0
  obtain ⟨v2, vs2, d2, ds2, p2, q2, rfl, rfl, rfl, h2, r2⟩ := trodAll_cons r1
  obtain ⟨v3, vs3, d3, ds3, p3, q3, rfl, rfl, rfl, h3, r3⟩ := trodAll_cons r2
  obtain ⟨rfl, rfl, rfl⟩ := trodAll_nil r3
  obtain rfl : args = #[v0, v1, v2, v3] := by cases args; simp_all
  obtain ⟨rfl, rfl⟩ := trodVars_none hV
  clear hA0
  obtain ⟨a0, c0, y0, x0, rfl, s0, w0, b0⟩ := Open.open_kept (okWide_slice Try.underlying22 (hval 0 22 v0 rfl rfl)) h0
  have z0 := Nat.le_trans b0 (Frame.bound_part (d := d0) hk (by simp))
  obtain ⟨a1, c1, x1, y1, rfl, s1, w1, b1⟩ := Open.open_rows Try.underlying23 (e := 24) (q := 3) (by kernel_rfl) (by kernel_rfl) (by kernel_rfl) (by kernel_rfl) (okWide_slice Try.underlying23 (hval 1 23 v1 rfl rfl)) h1
  have z1 := Nat.le_trans b1 (Frame.bound_part (d := d1) hk (by simp))
  obtain ⟨a2, c2, x2, rfl, s2, w2, b2⟩ := Open.open_ints Try.underlying24 (e := 3) (by kernel_rfl) (by kernel_rfl) (okWide_slice Try.underlying24 (hval 2 24 v2 rfl rfl)) h2
  have z2 := Nat.le_trans b2 (Frame.bound_part (d := d2) hk (by simp))
  obtain ⟨a3, c3, x3, rfl, s3, w3, b3⟩ := Open.open_ints Try.underlying24 (e := 3) (by kernel_rfl) (by kernel_rfl) (okWide_slice Try.underlying24 (hval 3 24 v3 rfl rfl)) h3
  have z3 := Nat.le_trans b3 (Frame.bound_part (d := d3) hk (by simp))
  refine (walk a0 c0 x0 y0 s0 w0 z0 a1 c1 x1 y1 s1 w1 z1 a2 c2 x2 s2 w2 z2 a3 c3 x3 s3 w3 z3 W rfl).mono fun e W' ⟨he, hb⟩ => ?_
  subst he
  exact Frame.post_law Try.underlying4 rfl laid reads rfl rfl hW' hb

set_option maxRecDepth 100000 in
theorem lifted (os : Os) (started : os.Started) (H : Type) (enc : TypeId × Value → H) (F : Stop.Interp) :
    ReturnsInHanded {} Try.checked os 6 .any ((Rows.OpenSpec.upto Rows.keepTellsSpec).pre6 enc Try.prog Try.f6 Rows.keepTellsUptoRow.domain false) (((Rows.OpenSpec.upto Rows.keepTellsSpec).at F).post enc Try.prog Try.f6 false true false false) := by
  refine returnsInHanded_of_cond (C := Try.checked) (s := Rows.OpenSpec.upto Rows.keepTellsSpec) (k := Rows.uptoSmall) rfl own started (by kernel_rfl) Try.func6
    (OpenSpec.witness (enc := enc) (C := Try.checked) (s := Rows.OpenSpec.upto Rows.keepTellsSpec) (k := Rows.uptoSmall) rfl false ⟨#[], #[.slice none 0 0, .slice none 0 0, .slice none 0 0, .slice none 0 0], []⟩ 8 (by kernel_rfl) (by kernel_rfl) (by kernel_rfl)
      (x := ([.nil, .nil, .nil, .nil], [], [])) (by kernel_rfl) rfl (by kernel_rfl)) ?_
  intro W base args ds gs before hval hW _ hk _
  exact contract H enc W base args ds gs before hval hW hk

theorem proved : Rows.KeepTellsUptoSaid :=
  OpenClaim.holds_of_cond 6 Try.f6 rfl rfl rfl rfl rfl rfl rfl ⟨rfl, rfl, rfl, rfl, rfl⟩ rfl rfl rfl rfl rfl (by kernel_rfl) Try.func6 (by kernel_rfl)
    (of_decide_eq_true (by kernel_rfl)) (by unfold Func.isWrapper; first | (rw [if_pos (by decide +kernel)]; kernel_rfl) | (rw [if_neg (by decide +kernel)]; exact ⟨rfl, rfl⟩))
    (fun os started H enc _ F => lifted os started H enc F)
end Go.Proofs.Ytdpmfcfelncbeaa.keepTells
