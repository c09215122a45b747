/-
  digits.form, digits.Parse; strings.Split, strings.CutPrefix by the shelf.
-/
import Derived.Test.YtmiklgekcmeedaaDoorSplP
import Derived.Test.YtmiklgekcmeedaaDoorSlfB
import Derived.BigQuiet
import Derived.Laws.EntriesVeiled
import Derived.Shelf.Lay
import Derived.Shelf.Strings.Split
import Derived.Shelf.Small.Wraps
namespace Go.Proofs.YtmiklgekcmeedaaDoor
open Go.RowKit Base
set_option linter.unusedVariables false
set_option linter.unusedSimpArgs false
namespace Spl
open Dig Go.Shelf

def lays146_ren : Go.Shelf.Ren := ⟨fun | 146 => 15 | 221 => 28 | 268 => 42 | 138 => 43 | 143 => 44 | 195 => 54 | 197 => 55 | 218 => 56 | 219 => 57 | 260 => 72 | 217 => 73 | 225 => 74 | 224 => 75 | 267 => 76 | 266 => 84 | 314 => 85 | n => n, fun | 9 => 9 | 31 => 36 | 3 => 3 | 4 => 4 | 0 => 0 | 105 => 84 | 21 => 21 | 5 => 5 | 46 => 44 | 119 => 109 | 139 => 112 | 138 => 111 | 146 => 113 | 51 => 98 | n => n, fun | 1 => 0 | 3 => 1 | 4 => 2 | n => n⟩
theorem lays146 : Go.Proofs.Lays.n146 Tryd.prog lays146_ren := {
  mixed := by kernel_rfl
  f138 := Tryd.func43.trans (congrArg some (by kernel_rfl))
  f143 := Tryd.func44.trans (congrArg some (by kernel_rfl))
  f146 := Tryd.func15.trans (congrArg some (by kernel_rfl))
  f195 := Tryd.func54.trans (congrArg some (by kernel_rfl))
  f197 := Tryd.func55.trans (congrArg some (by kernel_rfl))
  f217 := Tryd.func73.trans (congrArg some (by kernel_rfl))
  f218 := Tryd.func56.trans (congrArg some (by kernel_rfl))
  f219 := Tryd.func57.trans (congrArg some (by kernel_rfl))
  f221 := Tryd.func28.trans (congrArg some (by kernel_rfl))
  f224 := Tryd.func75.trans (congrArg some (by kernel_rfl))
  f225 := Tryd.func74.trans (congrArg some (by kernel_rfl))
  f260 := Tryd.func72.trans (congrArg some (by kernel_rfl))
  f266 := Tryd.func84.trans (congrArg some (by kernel_rfl))
  f267 := Tryd.func76.trans (congrArg some (by kernel_rfl))
  f268 := Tryd.func42.trans (congrArg some (by kernel_rfl))
  f314 := Tryd.func85.trans (congrArg some (by kernel_rfl))
  t0 := Tryd.underlying0
  a0 := Tryd.isAgg0
  z0 := Tryd.sizeOf0
  v0 := Tryd.zeroValue0
  t3 := Tryd.underlying3
  a3 := Tryd.isAgg3
  z3 := Tryd.sizeOf3
  v3 := Tryd.zeroValue3
  t4 := Tryd.underlying4
  a4 := Tryd.isAgg4
  z4 := Tryd.sizeOf4
  v4 := Tryd.zeroValue4
  t5 := Tryd.underlying5
  a5 := Tryd.isAgg5
  z5 := Tryd.sizeOf5
  v5 := Tryd.zeroValue5
  t9 := Tryd.underlying9
  a9 := Tryd.isAgg9
  z9 := Tryd.sizeOf9
  v9 := Tryd.zeroValue9
  t21 := Tryd.underlying21
  a21 := Tryd.isAgg21
  z21 := Tryd.sizeOf21
  v21 := Tryd.zeroValue21
  t31 := Tryd.underlying36
  a31 := Tryd.isAgg36
  z31 := Tryd.sizeOf36
  v31 := Tryd.zeroValue36
  t46 := Tryd.underlying44
  a46 := Tryd.isAgg44
  z46 := Tryd.sizeOf44
  v46 := Tryd.zeroValue44
  t51 := Tryd.underlying98
  a51 := Tryd.isAgg98
  z51 := Tryd.sizeOf98
  v51 := Tryd.zeroValue98
  t105 := Tryd.underlying84
  a105 := Tryd.isAgg84
  z105 := Tryd.sizeOf84
  v105 := Tryd.zeroValue84
  t119 := Tryd.underlying109
  a119 := Tryd.isAgg109
  z119 := Tryd.sizeOf109
  t138 := Tryd.underlying111
  a138 := Tryd.isAgg111
  z138 := Tryd.sizeOf111
  v138 := Tryd.zeroValue111
  t139 := Tryd.underlying112
  a139 := Tryd.isAgg112
  z139 := Tryd.sizeOf112
  v139 := Tryd.zeroValue112
  t146 := Tryd.underlying113
  a146 := Tryd.isAgg113
  z146 := Tryd.sizeOf113
  v146 := Tryd.zeroValue113
  g1 := by kernel_rfl
  g3 := by kernel_rfl
  g4 := by kernel_rfl }
def lays103_ren : Go.Shelf.Ren := ⟨fun | 103 => 45 | 210 => 58 | 206 => 77 | n => n, fun | 9 => 9 | 4 => 4 | 24 => 73 | 3 => 3 | n => n, fun | n => n⟩
theorem lays103 : Go.Proofs.Lays.n103 Tryd.prog lays103_ren := {
  mixed := by kernel_rfl
  f103 := Tryd.func45.trans (congrArg some (by kernel_rfl))
  f206 := Tryd.func77.trans (congrArg some (by kernel_rfl))
  f210 := Tryd.func58.trans (congrArg some (by kernel_rfl))
  t3 := Tryd.underlying3
  a3 := Tryd.isAgg3
  z3 := Tryd.sizeOf3
  v3 := Tryd.zeroValue3
  t4 := Tryd.underlying4
  a4 := Tryd.isAgg4
  z4 := Tryd.sizeOf4
  v4 := Tryd.zeroValue4
  t9 := Tryd.underlying9
  a9 := Tryd.isAgg9
  z9 := Tryd.sizeOf9
  v9 := Tryd.zeroValue9
  t24 := Tryd.underlying73
  a24 := Tryd.isAgg73
  z24 := Tryd.sizeOf73
  v24 := Tryd.zeroValue73 }

theorem run_bytes (w : World) (s : ByteArray) (hn : s.size ≤ 9223372036854775807) :
    ∃ c W1, (convert 9 50 (.string s)).run Tryd.prog w = .ok (.slice (some ⟨w.heap.size, 0, none⟩) s.size c) W1 ∧ Sl W1 (some ⟨w.heap.size, 0, none⟩) s.size c (bytesV s) ∧ Below w.heap.size w W1 := by
  have hrun := run_bytes_of_string (P := Tryd.prog) w 9 50 5 s Tryd.underlying9 Tryd.underlying50 Tryd.underlying5
  generalize hc : grownCap w s.size 0 5 = c at hrun
  have hge : s.size ≤ c := by rw [← hc]; exact grownCap_ge w s.size 0 _
  have hle : c ≤ 9223372036854775807 := by rw [← hc]; exact grownCap_big w s.size _ hn
  refine ⟨c, _, hrun, ⟨bytesV_len s, hge, hle, (fun h => by cases h), fun k v hv => ⟨w.heap.size, 0, rfl, ?_, ?_⟩⟩, (Below.refl _ _).drew.alloc (Nat.le_refl _) _⟩
  · show w.heap.size < (w.heap.push _).size; simp
  · rw [cell_of_row _ w.heap.size (0 + k) (bytesRow s c) 5 ((bytesRow s c).size, (bytesRow s c).size + 1) (by show (w.heap.push _)[w.heap.size]? = _; simp)]
    unfold bytesRow
    unfold bytesV at hv
    rw [Nat.zero_add, Array.getElem?_append_left, ← Array.getElem?_toList, Array.toList_map]
    · exact hv
    · have := (List.getElem?_eq_some_iff.1 hv).1
      simpa using this

theorem egF : SlfB.Enters 60 := enters_of Tryd.func60 (by kernel_rfl) rfl
set_option maxHeartbeats 1000000 in
theorem off_any (w : World) (c : UInt8) :
    Calls Tryd.prog 60 #[.int .u8 c.toNat] w fun e w' => e = .returned (.bool (!isD c)) ∧ Below w.heap.size w w' := by
  have HV : Hid ((!isD c) = (decide ((c.toNat : Int) < 48) || decide ((57 : Int) < c.toNat))) := by
    show _ = _
    unfold isD
    rw [Bool.eq_iff_iff]
    simp
    omega
  go_enter Tryd.func60, Tryd.ntmps60
  go_wp2_with fail
  all_goals
    go_ret
    exact ⟨ret_bool (by first | (rw [HV.out]; done) | (rw [HV.out]; simp [*])), by exact Below.refl _ _⟩

set_option maxRecDepth 8000 in
set_option maxHeartbeats 2000000 in
theorem form_any (w : World) (t : List UInt8) (ht : t.length ≤ 9223372036854775807) :
    Calls Tryd.prog 46 #[.string (str t)] w fun e w' => e = .returned (.bool (formB t)) ∧ Below w.heap.size w w' := by
  have HV : Hid (formB t = (decide (t ≠ []) && ((t.headD 0 != 48) || t.length == 1) && t.all isD)) := rfl
  have HD : Hid ((str t).data.toList = t) := str_data t
  have hsz : (str t).size = t.length := str_size t
  have HALL : Hid ((t.map fun c => !isD c).any id = !t.all isD) := by
    show _ = _
    induction t with
    | nil => rfl
    | cons c r ih => rw [List.map_cons, List.any_cons, List.all_cons, ih (by simp at ht; omega) rfl (str_data r) (str_size r)]; cases isD c <;> rfl
  have HTL : Hid ((str t).toList = t) := by show _ = _; rw [Lib.toList_data]; exact HD.out
  cases t with
  | nil =>
    have he2 : ((str []).toList == []) = true := by rw [HTL.out]; rfl
    generalize str [] = s at *
    go_enter Tryd.func46, Tryd.ntmps46
    go_wp2_with fail
    go_ret
    exact ⟨ret_bool (by rw [HV.out]; simp), by exact Below.refl _ _⟩
  | cons b r =>
    have he2 : ((str (b :: r)).toList == []) = false := by rw [HTL.out]; rfl
    have hpos : 0 < (str (b :: r)).size := by rw [hsz]; simp
    have hb0 : (str (b :: r))[0] = b := rfl
    have CF := fun U a c (h : Sl U a (str (b :: r)).size c (bytesV (str (b :: r)))) => SlfB.containsFunc U a (str (b :: r)).size c (bytesV (str (b :: r))) 60 #[] #[] ((b :: r).map fun c => !isD c) h (by rw [hsz]; simp) egF (by
        intro V hV j y q hy hq
        unfold bytesV at hy
        rw [HD.out] at hy
        rw [List.getElem?_map, Option.map_eq_some_iff] at hy hq
        obtain ⟨b1, hb1, rfl⟩ := hy
        obtain ⟨b2, hb2, rfl⟩ := hq
        have hbb : b1 = b2 := by
          have e1 : (b :: r)[j]? = some b1 := hb1
          rw [hb2] at e1
          exact (Option.some.inj e1).symm
        subst hbb
        exact off_any V b1)
    rw [HALL.out] at CF
    have HCF := Lib.hid CF
    obtain ⟨c0, W1, hcv, hsl, hb⟩ := run_bytes w (str (b :: r)) (by rw [hsz]; exact ht)
    have HC1 := Lib.hid (HCF.out W1 _ c0 hsl)
    have HB := Lib.hid hb
    have HL1 : Hid ((((str (b :: r)).size : Int) == 1) = ((b :: r).length == 1)) := by
      show _ = _
      rw [hsz, Bool.eq_iff_iff]
      rw [beq_iff_eq, beq_iff_eq]
      omega
    generalize hbe : str (b :: r) = s at *
    generalize hq : (b :: r).all isD = q at *
    have hb0' : (s[0].toNat : Int) = (b.toNat : Int) := by rw [hb0]
    have hz0 : (0 : Int) < (s.size : Int) := by omega
    have HH : Hid ((((b.toNat : Int)) != 48) = ((b :: r).headD 0 != 48)) := by
      show ((b.toNat : Int) != 48) = (b != 48)
      rw [Bool.eq_iff_iff, bne_iff_ne, bne_iff_ne]
      constructor
      · intro h e; exact h (by rw [e]; rfl)
      · intro h e; exact h (UInt8.toNat_inj.1 (by have : b.toNat = 48 := by omega
                                                  rw [this]; rfl))
    generalize hh : ((b.toNat : Int) != 48) = h1 at *
    generalize hl : ((s.size : Int) == 1) = h2 at *
    have HSZ := Lib.hid hsz
    clear hsl hb HCF CF hbe hsz hb0
    cases h1 <;> cases h2 <;> cases q
    all_goals
      go_enter Tryd.func46, Tryd.ntmps46
      go_wp2_with fail
      first
      | (go_ret
         exact ⟨ret_bool (by rw [HV.out, ← HH.out, ← HL1.out]; simp), by exact Below.refl _ _⟩)
      | (with_reducible refine HC1.out.mono ?_
         rintro e w3 ⟨rfl, hb3⟩
         have HB3 := Lib.hid (HB.out.trans (hb3.mono HB.out.size))
         clear hb3
         go_wp2_with fail
         go_ret
         exact ⟨ret_bool (by rw [HV.out, ← HH.out, ← HL1.out]; simp), HB3.out⟩)
theorem cut_lib (t : List UInt8) : Lib.trimPrefix t [45] = (cutM t).1 ∧ Lib.hasPrefix t [45] = (cutM t).2 := by
  cases t with
  | nil => exact ⟨rfl, rfl⟩
  | cons b r =>
    by_cases hb : b = 45
    · subst hb
      exact ⟨rfl, rfl⟩
    · have hc : cutM (b :: r) = (b :: r, false) := cut_other (fun t e => hb (by injection e))
      rw [hc]
      have h1 : Lib.hasPrefix (b :: r) [45] = false := by
        unfold Lib.hasPrefix
        simp [List.isPrefixOf, Ne.symm hb]
      refine ⟨?_, h1⟩
      unfold Lib.trimPrefix
      rw [h1]; rfl
theorem num_fold : ∀ (t : List UInt8) (a : Nat), t.all isD = true → t.foldl (fun n c => n * 10 + (c.toNat - 48)) a < (a + 1) * 10 ^ t.length
  | [], a, _ => by simp
  | c :: r, a, h => by
    rw [List.all_cons, Bool.and_eq_true] at h
    have hc := h.1
    unfold isD at hc
    simp at hc
    have ih := num_fold r (a * 10 + (c.toNat - 48)) h.2
    rw [List.foldl_cons, List.length_cons, Nat.pow_succ]
    have h2 : (a * 10 + (c.toNat - 48) + 1) * 10 ^ r.length ≤ ((a + 1) * 10) * 10 ^ r.length := Nat.mul_le_mul_right _ (by omega)
    have h3 : ((a + 1) * 10) * 10 ^ r.length = (a + 1) * (10 ^ r.length * 10) := by rw [Nat.mul_assoc, Nat.mul_comm 10]
    omega
theorem num_lt (t : List UInt8) (h : t.all isD = true) : numL t < 10 ^ t.length := by
  have := num_fold t 0 h
  unfold numL
  simpa using this
theorem num_take {t : List UInt8} {k : Nat} (h : k < t.length) : numL (t.take (k + 1)) = numL (t.take k) * 10 + (t[k].toNat - 48) := by
  rw [List.take_succ_eq_append_getElem h, numL_snoc]
def ParseOut (t : List UInt8) (w : World) (e : Ending) (w' : World) : Prop :=
  ∃ n c : Int, e = .returned (.tuple #[.int .i64 n, .int .i64 c]) ∧ ((c = 0 ∧ parseD t = some n) ∨ (c ≠ 0 ∧ parseD t = none)) ∧ Below w.heap.size w w'

set_option maxRecDepth 8000 in
set_option maxHeartbeats 4000000 in
theorem parseD_any (w : World) (t : List UInt8) (ht : t.length ≤ 1000000) :
    Calls Tryd.prog 29 #[.string (str t)] w fun e w' => ParseOut t w e w' := by
  have hcp : Calls Tryd.prog 45 #[.string (str t), .string ⟨#[45]⟩] w fun e w' => e = .returned (.tuple #[.string ⟨(Lib.trimPrefix (str t).data.toList (⟨#[45]⟩ : ByteArray).data.toList).toArray⟩, .bool (Lib.hasPrefix (str t).data.toList (⟨#[45]⟩ : ByteArray).data.toList)]) ∧ w' = w := Any.strings_CutPrefix lays103 (str t) ⟨#[45]⟩ w
  have h45 : (⟨#[45]⟩ : ByteArray).data.toList = [45] := rfl
  rw [h45, str_data, (cut_lib t).1, (cut_lib t).2] at hcp
  have HP : Hid (parseD t = if formB (cutM t).1 && !((cutM t).2 && (cutM t).1 == [48]) && decide ((cutM t).1.length ≤ 14) && decide (numL (cutM t).1 ≤ 1099511627776) then some (if (cutM t).2 then -(numL (cutM t).1 : Int) else (numL (cutM t).1 : Int)) else none) := rfl
  have hul : (cutM t).1.length ≤ t.length := by
    unfold cutM
    split
    · simp
    · exact Nat.le_refl _
  generalize (cutM t).1 = u at *
  generalize (cutM t).2 = bl at *
  have HF := Lib.hid (form_any w u (by omega))
  have HFA : Hid (formB u = true → u.all isD = true) := fun h => by unfold formB at h; rw [Bool.and_eq_true] at h; exact h.2
  have HCP := Lib.hid hcp
  have h48 : ((str u).toList == [48]) = (u == [48]) := by rw [Lib.toList_data, str_data]
  have hsz : ((str u).size : Int) = (u.length : Int) := by rw [str_size]
  have HUB : Hid (∀ (k : Nat) (h : k < u.length), (bytesV (str u))[k]? = some (.int .u8 (u[k].toNat : Int))) := fun k h => by
    unfold bytesV; rw [str_data, List.getElem?_map, List.getElem?_eq_getElem h]; rfl
  have HCV := Lib.hid (fun (U : World) => run_bytes U (str u) (by rw [str_size]; omega))
  rw [str_size] at HCV
  have HUL : Hid (u.length ≤ 1000000) := by show _ ≤ _; omega
  generalize hfb : formB u = f at *
  have HFB := Lib.hid hfb
  generalize huz : (u == [48]) = z at *
  have hstr : (⟨u.toArray⟩ : ByteArray) = str u := rfl
  rw [hstr] at HCP
  generalize str u = su at *
  clear hcp h45 hul huz hfb hstr ht
  go_enter Tryd.func29, Tryd.ntmps29
  go_wp2_with fail
  with_reducible refine HCP.out.mono ?_
  rintro e w1 ⟨rfl, rfl⟩
  go_wp2_with fail
  with_reducible refine HF.out.mono ?_
  rintro e w2 ⟨rfl, hb2⟩
  have HB2 := Lib.hid hb2
  clear hb2
  cases f
  · have HN : Hid (parseD t = none) := by show _ = _; rw [HP.out]; rfl
    go_wp2_with fail
    refine bodyPost_ret (v := .tuple #[.int .i64 0, .int .i64 33]) (by simp [results, Tryd.results29, go_sem]) rfl ?_
    exact ⟨0, 33, rfl, Or.inr ⟨by decide, HN.out⟩, HB2.out⟩
  · by_cases hz : bl = true ∧ z = true
    · obtain ⟨rfl, rfl⟩ := hz
      have HN : Hid (parseD t = none) := by show _ = _; rw [HP.out]; rfl
      go_wp2_with fail
      refine bodyPost_ret (v := .tuple #[.int .i64 0, .int .i64 33]) (by simp [results, Tryd.results29, go_sem]) rfl ?_
      exact ⟨0, 33, rfl, Or.inr ⟨by decide, HN.out⟩, HB2.out⟩
    · have HP2 : Hid (parseD t = if decide (u.length ≤ 14) && decide (numL u ≤ 1099511627776) then some (if bl then -(numL u : Int) else (numL u : Int)) else none) := by
        show _ = _
        rw [HP.out]
        have : (!(bl && z)) = true := by cases bl <;> cases z <;> simp_all
        rw [this]; simp
      have HALL := Lib.hid (HFA.out (by rfl))
      by_cases h14 : (14 : Int) < (u.length : Int)
      · have hd14 : decide ((14 : Int) < (u.length : Int)) = true := decide_eq_true h14
        have HN : Hid (parseD t = none) := by show _ = _; rw [HP2.out, decide_eq_false (show ¬ u.length ≤ 14 by omega)]; rfl
        cases bl <;> cases z
        all_goals first
          | exact absurd ⟨rfl, rfl⟩ hz
          | (clear hz
             go_wp2_with fail
             refine bodyPost_ret (v := .tuple #[.int .i64 0, .int .i64 4]) (by simp [results, Tryd.results29, go_sem]) rfl ?_
             exact ⟨0, 4, rfl, Or.inr ⟨by decide, HN.out⟩, HB2.out⟩)
      · have hd14 : decide ((14 : Int) < (u.length : Int)) = false := decide_eq_false h14
        have HP3 : Hid (parseD t = if decide (numL u ≤ 1099511627776) then some (if bl then -(numL u : Int) else (numL u : Int)) else none) := by
          show _ = _; rw [HP2.out, decide_eq_true (show u.length ≤ 14 by omega), Bool.true_and]
        have HLT : Hid (∀ k, k ≤ u.length → numL (u.take k) < 100000000000000) := fun k hk => by
          have h1 := num_lt (u.take k) (by rw [List.all_eq_true]; intro c hc; exact List.all_eq_true.1 HALL.out c (List.mem_of_mem_take hc))
          have h2 : 10 ^ (u.take k).length ≤ 10 ^ 14 := Nat.pow_le_pow_right (by decide) (by rw [List.length_take]; omega)
          omega
        have HDG : Hid (∀ (k : Nat) (h : k < u.length), 48 ≤ u[k].toNat ∧ u[k].toNat ≤ 57) := fun k h => by
          have := List.all_eq_true.1 HALL.out u[k] (List.getElem_mem h)
          unfold isD at this
          simpa using this
        obtain ⟨c3, W3, hcv, hsl3, hb3⟩ := HCV.out w2
        have HS3 := Lib.hid hsl3
        have hcap3 := hsl3.cap
        have hbig3 := hsl3.big
        have HB3 := Lib.hid (HB2.out.trans (hb3.mono HB2.out.size))
        clear hsl3 hb3 h14
        cases bl <;> cases z
        all_goals first
          | exact absurd ⟨rfl, rfl⟩ hz
          | (clear hz
             go_wp2_with fail
             go_loopw [6, 32] (fun m i wr => ∃ k : Nat, k ≤ u.length ∧ i = .int .i64 k ∧ m = .int .i64 (numL (u.take k)) ∧ wr = W3) (fun _ i _ => u.length - (intOf i).toNat)
             case atStart => exact ⟨0, Nat.zero_le _, rfl, rfl, rfl⟩
             case round =>
               obtain ⟨k, hk, rfl, rfl, rfl⟩ := hrel
               by_cases hlt : k < u.length
               · obtain ⟨b0, o0, ha0, hs0, hc0⟩ := HS3.out.cell k _ (HUB.out k hlt)
                 simp only [Option.some.injEq, Addr.mk.injEq, and_true] at ha0
                 obtain ⟨rfl, rfl⟩ := ha0
                 rw [Nat.zero_add] at hc0
                 have HNT := Lib.hid (num_take hlt)
                 have hm := HLT.out k hk
                 obtain ⟨hg1, hg2⟩ := HDG.out k hlt
                 generalize u[k].toNat = d at *
                 generalize numL (u.take k) = m at *
                 have hw0 : IntKind.u8.wrap ((d : Int) - 48) = ((d - 48 : Nat) : Int) := by
                   have : ((d : Int) - 48) = ((d - 48 : Nat) : Int) := by omega
                   rw [this]
                   exact IntWalk.u8_in _ (by omega)
                 have hw1 : IntKind.i64.wrap ((m : Int) * 10) = (m : Int) * 10 := IntWalk.i64_in _ (by omega)
                 have hw2 : IntKind.i64.wrap ((m : Int) * 10 + ((d - 48 : Nat) : Int)) = (m : Int) * 10 + ((d - 48 : Nat) : Int) := IntWalk.i64_in _ (by omega)
                 go_wp2_with fail
                 go_roundw
                 case rel => exact ⟨k + 1, by omega, by go_num, by have h9 := HNT.out; rw [h9]; go_num, (by first | rfl | trivial)⟩
                 case measure => simp [intOf]; omega
               · have HTK : Hid (u.take k = u) := List.take_of_length_le (by omega)
                 have hm := HLT.out k hk
                 rw [HTK.out] at *
                 generalize numL u = m at *
                 by_cases hbg : (1099511627776 : Int) < (m : Int)
                 · have HN : Hid (parseD t = none) := by show _ = _; rw [HP3.out, decide_eq_false (show ¬ m ≤ 1099511627776 by omega)]; rfl
                   go_wp2_with fail
                   refine bodyPost_ret (v := .tuple #[.int .i64 0, .int .i64 4]) (by simp [results, Tryd.results29, go_sem]) rfl ?_
                   exact ⟨0, 4, rfl, Or.inr ⟨by decide, HN.out⟩, HB3.out⟩
                 · have HN := HP3.out
                   rw [decide_eq_true (show m ≤ 1099511627776 by omega)] at HN
                   have HNN := Lib.hid HN
                   clear HN
                   go_wp2_with fail
                   first
                   | (refine bodyPost_ret (v := .tuple #[.int .i64 (m : Int), .int .i64 0]) (by simp [results, Tryd.results29, go_sem]) rfl ?_
                      exact ⟨m, 0, rfl, Or.inl ⟨rfl, HNN.out⟩, HB3.out⟩)
                   | (refine bodyPost_ret (v := .tuple #[.int .i64 (-(m : Int)), .int .i64 0]) (by simp [results, Tryd.results29, go_sem]) rfl ?_
                      exact ⟨-(m : Int), 0, rfl, Or.inl ⟨rfl, HNN.out⟩, HB3.out⟩))
theorem split_any (w : World) (t : List UInt8) (c : UInt8) (ht : t.length ≤ 65536) (m : Int) (hm : w.cell? ⟨0, 0, none⟩ = some (.int .i64 m)) :
    Calls Tryd.prog 15 #[.string (str t), .string ⟨#[c]⟩] w fun e w' => e = .returned (.slice (some ⟨w.heap.size, 0, none⟩) (spl c t).length (spl c t).length) ∧ Sl w' (some ⟨w.heap.size, 0, none⟩) (spl c t).length (spl c t).length (((spl c t).map str).map Value.string) ∧ Below w.heap.size w w' := by
  have h : Calls Tryd.prog 15 #[.string (str t), .string ⟨#[c]⟩] w fun e w' =>
      e = .returned (.slice (some ⟨w.heap.size, 0, none⟩) (Lib.countB (str t) ⟨#[c]⟩ + 1) (Lib.countB (str t) ⟨#[c]⟩ + 1)) ∧ w' = w.alloc (.cells ((Lib.splitB ⟨#[c]⟩ 0 (Lib.countB (str t) ⟨#[c]⟩) (str t)).map Value.string).toArray 9) :=
    Any.strings_Split lays146 (by kernel_rfl) (str t) ⟨#[c]⟩ m w (by rw [str_size]; omega) hm (Nat.le_refl _)
  have hc1 : Lib.countB (str t) ⟨#[c]⟩ = Lib.count t [c] := rfl
  have e0 : (Lib.splitB ⟨#[c]⟩ 0 (Lib.countB (str t) ⟨#[c]⟩) (str t)).map (·.data.toList) = spl c t := by
    rw [Lib.splitB_data, hc1, str_data]
    exact split_eq c _ t (Nat.le_refl _)
  have e1 : Lib.splitB ⟨#[c]⟩ 0 (Lib.countB (str t) ⟨#[c]⟩) (str t) = (spl c t).map str := by
    rw [← e0, List.map_map]
    have : ∀ b : ByteArray, (str ∘ fun x : ByteArray => x.data.toList) b = b := fun b => by cases b; rfl
    exact (List.map_congr_left (fun b _ => this b)).trans (List.map_id _) |>.symm
  have e2 : Lib.countB (str t) ⟨#[c]⟩ + 1 = (spl c t).length := by
    have h1 := Lib.splitB_all ⟨#[c]⟩ (Nat.le_refl _) 0 _ (str t) rfl
    rw [e1, List.length_map] at h1
    exact h1.symm
  rw [e1, e2] at h
  refine h.mono fun e w' ⟨he, hw⟩ => ⟨he, ?_, ?_⟩
  · rw [hw]
    have hl : (spl c t).length ≤ 9223372036854775807 := by rw [← e2]; have := Lib.countB_le ⟨#[c]⟩ (Nat.le_refl _) _ (str t) (Nat.le_refl _); rw [str_size] at this; omega
    exact sl_new w (((spl c t).map str).map Value.string).toArray 9 (spl c t).length (by simp) hl
  · rw [hw]; exact (Below.refl _ _).alloc (Nat.le_refl _) _
theorem spl_len_le (c : UInt8) : ∀ t : List UInt8, (spl c t).length ≤ t.length + 1
  | [] => by simp [spl]
  | b :: s => by
    have ih := spl_len_le c s
    by_cases hb : b = c
    · subst hb; rw [spl_hit]; simp; omega
    · obtain ⟨x, r, h1, h2⟩ := spl_miss hb s
      rw [h2]
      rw [h1] at ih
      simp at ih ⊢
      omega
theorem spl_part_len (c : UInt8) : ∀ t : List UInt8, ∀ p ∈ spl c t, p.length ≤ t.length
  | [], p, hp => by simp [spl] at hp; rw [hp]; simp
  | b :: s, p, hp => by
    have ih := spl_part_len c s
    by_cases hb : b = c
    · subst hb
      rw [spl_hit] at hp
      rcases List.mem_cons.1 hp with rfl | hp
      · simp
      · have := ih p hp; simp; omega
    · obtain ⟨x, r, h1, h2⟩ := spl_miss hb s
      rw [h2] at hp
      rw [h1] at ih
      rcases List.mem_cons.1 hp with rfl | hp
      · have := ih x List.mem_cons_self; simp; omega
      · have := ih p (List.mem_cons_of_mem _ hp); simp; omega
end Spl
end Go.Proofs.YtmiklgekcmeedaaDoor
