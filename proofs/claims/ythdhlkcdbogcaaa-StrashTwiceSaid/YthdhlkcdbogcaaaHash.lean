/-
  strash's hasher in memory; what stands for a literal.
-/
import Derived.Test.YthdhlkcdbogcaaaNot
import Derived.Test.YthdhlkcdbogcaaaMapG
import Derived.Test.YthdhlkcdbogcaaaOwnC
import Derived.Test.YthdhlkcdbogcaaaKnown
import Derived.DeepKeys4
import Derived.BigQuiet
namespace Go.Proofs.Ythdhlkcdbogcaaa
open Go.RowKit Base
set_option linter.unusedVariables false
set_option linter.unusedSimpArgs false
namespace StrashP
open Circuit GetI MapG

theorem laidP : laidOutB Try.prog = true := by kernel_rfl
theorem zeroI (w : World) : (zeroValue 3).run Try.prog w = .ok (.int .i64 0) w := by kernel_rfl

abbrev P2 := Int × Int
def pairV (p : P2) : Value := .agg #[.int .i64 p.1, .int .i64 p.2]
def pairK (p : P2) : Lit := .string (keyBytes [.int .i64 p.1, .int .i64 p.2])
def pairOk (p : P2) : Prop := MapG.I64 p.1 ∧ MapG.I64 p.2
theorem pair_key (p : P2) (h : pairOk p) : keyOf Try.prog 74 (pairV p) = some (pairK p) := by
  have h1 : Try.prog.keyType 74 = true := by kernel_rfl
  have h2 : Try.prog.cellsOf 74 = 2 := by kernel_rfl
  have h3 : Try.prog.cellsOf 3 = 1 := by kernel_rfl
  have hf : (pairV p).formed Try.prog 74 = true := by
    unfold pairV Value.formed
    simp only [Try.underlying74]
    rw [h2]; rfl
  obtain ⟨m, hm⟩ : ∃ m, Try.prog.types.size = m + 1 := ⟨_, (by kernel_rfl : Try.prog.types.size = (Try.prog.types.size - 1) + 1)⟩
  have hi : ∀ x, MapG.I64 x → Try.prog.keyLits (m + 1) 3 [.int .i64 x] = some [.int .i64 x] := by
    intro x hx
    unfold Program.keyLits
    simp only [Try.underlying3]
    simp [MapG.wf_lit hx]
  unfold keyOf
  simp only [Try.underlying74]
  rw [h1, hf, hm]
  simp only [Bool.and_self, if_true]
  have hk : Try.prog.keyLits (m + 1 + 1) 74 (pairV p).cells.toList = some [.int .i64 p.1, .int .i64 p.2] := by
    unfold Program.keyLits
    simp only [Try.underlying74]
    have hc : (pairV p).cells.toList = [.int .i64 p.1, .int .i64 p.2] := rfl
    rw [hc, h2, if_pos (by rfl : ([Value.int .i64 p.1, Value.int .i64 p.2] : List Value).length = 2), h3]
    have hr : List.range 2 = [0, 1] := rfl
    rw [hr]
    have e0 : ([Value.int .i64 p.1, Value.int .i64 p.2].drop (0 * 1)).take 1 = [.int .i64 p.1] := rfl
    have e1 : ([Value.int .i64 p.1, Value.int .i64 p.2].drop (1 * 1)).take 1 = [.int .i64 p.2] := rfl
    simp only [List.mapM_cons, List.mapM_nil, e0, e1, hi _ h.1, hi _ h.2, Option.pure_def, Option.bind_eq_bind, Option.bind_some, Option.map_some]
    rfl
  rw [hk]
  rfl

theorem pair_kind : MapG.Kind Try.prog 74 pairV pairK pairOk :=
  ⟨Go.Maps.Keyed.of_law (deep_law_laid laidP (m := 2) (by decide) (of_decide_eq_true (by kernel_rfl)) (by kernel_rfl) (by rw [Try.underlying74])), pair_key, fun x y _ _ h => by
    unfold pairV at h
    simp only [Value.agg.injEq, Array.mk.injEq, List.cons.injEq, Value.int.injEq, true_and, and_true] at h
    exact Prod.ext h.1 h.2⟩
theorem int_kindP : MapG.Kind Try.prog 3 (fun x : Int => .int .i64 x) (fun x => .int .i64 x) MapG.I64 := int_kind Try.underlying3

abbrev SMap (w : World) (b n : Nat) (D : List (Int × Int)) : Prop := MapI Try.prog 3 3 (fun x : Int => .int .i64 x) MapG.I64 w b n D
abbrev MMap (w : World) (b n : Nat) (D : List (P2 × Int)) : Prop := MapI Try.prog 74 3 pairK pairOk w b n D

/-- All that stands for something is such. -/
structure WfS (st : St) : Prop where
  s : ∀ u v, getI st.S u = some v → 0 ≤ v ∧ v ≤ 9223372036854775807
  m : ∀ p v, getI st.M p = some v → 0 ≤ v ∧ v ≤ 9223372036854775807

/-- A hasher: its box, its two maps, its row of gates. -/
structure HsIs (w : World) (B h n : Nat) (st : St) (bS bM : Nat) (aK : Option Addr) (cK : Nat) : Prop where
  box : BoxN h [.map (some bS), .map (some bM), .slice aK st.K.length cK] w
  bs : B ≤ bS
  sm : bS < bM
  mh : bM < h
  s : ∃ k, k ≤ n ∧ SMap w bS k st.S
  m : ∃ k, k ≤ n ∧ MMap w bM k st.M
  k : w.ownsRow (h + 1) 43 3 (.slice aK st.K.length cK) st.K.length (tris st.K).flatten
  few : st.K.length ≤ n
  wf : WfS st

theorem HsIs.next {w w' : World} {B h n : Nat} {st : St} {bS bM : Nat} {aK : Option Addr} {cK : Nat} (H : HsIs w B h n st bS bM aK cK) (hb : Below w.heap.size w w') : HsIs w' B h n st bS bM aK cK :=
  ⟨H.box.next hb H.box.lt, H.bs, H.sm, H.mh, H.s.imp fun _ h => ⟨h.1, h.2.next hb⟩, H.m.imp fun _ h => ⟨h.1, h.2.next hb⟩, own_next H.k hb, H.few, H.wf⟩

theorem lit_64 {st : St} (hw : WfS st) {l : Int} (h0 : 0 ≤ l) (h1 : l ≤ 9223372036854775807) : 0 ≤ litS st.S l ∧ litS st.S l ≤ 9223372036854775807 := by
  unfold litS
  cases hg : getI st.S (var l) with
  | none => exact ⟨h0, h1⟩
  | some s =>
    obtain ⟨g0, g1⟩ := hw.s _ _ hg
    simp only
    split
    · unfold notL; split <;> (try split) <;> omega
    · exact ⟨g0, g1⟩

set_option maxRecDepth 4000 in
set_option maxHeartbeats 4000000 in
theorem lit_any (w : World) {B h n : Nat} {st : St} {bS bM : Nat} {aK : Option Addr} {cK : Nat} (H : HsIs w B h n st bS bM aK cK) (l : Int) (h0 : 0 ≤ l) (h1 : l ≤ 9223372036854775807) :
    Calls Try.prog 18 #[.pointer (some ⟨h, 0, none⟩), .int .i64 l] w fun e w' => e = .returned (.int .i64 (litS st.S l)) ∧ ∃ q, w' = w.drewN q := by
  have hc := H.box.at' 0 _ rfl
  obtain ⟨kS, _, hS⟩ := H.s
  have VA := Lib.hid (fun U => var_any l (by omega) h1 U)
  have HL := Lib.hid (fun q => (hS.next (below_drewN (Below.refl _ _) q)).look (T := 50) int_kindP Try.underlying50 Try.underlying3 (zeroI _) (x := var l) (by unfold MapG.I64 var; omega))
  have HV : Hid (litS st.S l = match getI st.S (var l) with | some t => if neg l then notL t else t | none => l) := rfl
  have HW := Lib.hid (fun t ht => H.wf.s (var l) t ht)
  clear H hS
  generalize litS st.S l = R at *
  cases hg : getI st.S (var l) with
  | none =>
    rw [hg] at HV HL
    have hl := fun q => HL.out q
    clear hg HL HW
    go_enter Try.func18, Try.ntmps18
    go_wp2_with fail
    go_quiet ((go_at_call 22; exact Calls.quiet_of_same ((VA.out _).mono fun e w' h => ⟨h.1, h.2.symm⟩)))
    go_wp2_with fail
    go_ret
    exact ⟨ret_int HV.out.symm, _, rfl⟩
  | some s =>
    rw [hg] at HV HL
    have hs := HW.out s hg
    have NA := Lib.hid (fun U => neg_any l U)
    have NT := Lib.hid (fun U => not_any s hs.2 U)
    have hl := fun q => HL.out q
    clear hg HL HW hs
    simp only at HV
    generalize notL s = t at *
    cases hn : neg l
    · rw [hn] at HV NA
      have HV2 : Hid (R = s) := HV.out
      clear hn HV
      go_enter Try.func18, Try.ntmps18
      go_wp2_with fail
      go_quiet ((go_at_call 22; exact Calls.quiet_of_same ((VA.out _).mono fun e w' h => ⟨h.1, h.2.symm⟩)))
      go_wp2_with fail
      with_reducible refine (NA.out _).mono ?_
      rintro e w2 ⟨rfl, rfl⟩
      go_wp2_with fail
      go_ret
      exact ⟨ret_int HV2.out.symm, _, rfl⟩
    · rw [hn] at HV NA
      have HV2 : Hid (R = t) := HV.out
      clear hn HV
      go_enter Try.func18, Try.ntmps18
      go_wp2_with fail
      go_quiet ((go_at_call 22; exact Calls.quiet_of_same ((VA.out _).mono fun e w' h => ⟨h.1, h.2.symm⟩)))
      go_wp2_with fail
      with_reducible refine (NA.out _).mono ?_
      rintro e w2 ⟨rfl, rfl⟩
      go_wp2_with fail
      with_reducible refine (NT.out _).mono ?_
      rintro e w2 ⟨rfl, rfl⟩
      go_wp2_with fail
      go_ret
      exact ⟨ret_int HV2.out.symm, _, rfl⟩
end StrashP
end Go.Proofs.Ythdhlkcdbogcaaa
