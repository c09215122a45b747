/-
  interlocklaw28.EnumMore walked (written by enummore.py).
-/
import Derived.Test.YtjmmhbmbafjneaaGreatDoorEnumRM2
import Derived.Test.YtjmmhbmbafjneaaGreatDoorOpenCirc
namespace Go.Proofs.YtjmmhbmbafjneaaGreatDoor.enumMore
open Go.RowKit Base Circuit BadP StrashP Coi SimV EnumA EnumP EnumW GetI
set_option linter.unusedVariables false
set_option linter.unusedSimpArgs false

theorem info_rM : (Tryz.prog.info? 22).map (fun i => (i.zero, i.size, i.bytes)) = some (some (.slice none 0 0), 1, 24) := by kernel_rfl
theorem slices_oneM {w : World} {a : Option Addr} {n c : Nat} {vs : List Value} {xss : List (List Int)} (h : Sl2 w a n c vs xss) : ∀ v ∈ vs, v.oneCell' = true := by
  intro v hv
  obtain ⟨k, hk, rfl⟩ := List.mem_iff_getElem.1 hv
  have hl := h.sl.len
  have hx : k < xss.length := by have := h.len; omega
  obtain ⟨a', c', e, _⟩ := h.row k _ xss[k] (List.getElem?_eq_getElem hk) (List.getElem?_eq_getElem hx)
  rw [e]; rfl
theorem allow_more {x : Circ} {A : List (List Int)} {B : List Int} {V : List Bool} (h : allow x (A ++ [B]) V = true) : allow x A V = true := by
  unfold allow at *
  rw [List.all_append, Bool.and_eq_true, Bool.and_eq_true] at h
  rw [h.1, h.2.1]; rfl
theorem R_more {x : Circ} {A : List (List Int)} {B : List Int} : ∀ {n : Nat} {s : List Bool}, R x (A ++ [B]) n s → R x A n s
  | 0, s, h => h
  | n + 1, s, h => by
    obtain ⟨s0, i, h1, h2, h3, h4⟩ := h
    exact ⟨s0, i, R_more h1, h2, allow_more h3, h4⟩
/-- Is a state one of some, reached in as few steps? -/
def mor (T : List (List Bool)) (t : List Bool) (O : Ord) (z : Int) (k : Nat) : Bool := (T.take k).any fun s => decide (s = t) && decide (stepO O s ≤ z)
theorem mor_step (T : List (List Bool)) (t : List Bool) (O : Ord) (z : Int) {k : Nat} (h : k < T.length) : mor T t O z (k + 1) = (mor T t O z k || (decide (T[k] = t) && decide (stepO O T[k] ≤ z))) := by
  unfold mor
  rw [List.take_succ_eq_append_getElem h, List.any_append]
  simp
theorem more_yes {x : Circ} {A : List (List Int)} {B : List Int} {O1 O2 : Ord} (h1 : Known x A O1) (h2 : Known x (A ++ [B]) O2) {t : List Bool} (ht : t ∈ sortedO x.lats.length O2) :
    mor (sortedO x.lats.length O1) t O1 (stepO O2 t) (sortedO x.lats.length O1).length = true := by
  unfold sortedO at ht
  rw [List.mem_filter] at ht
  obtain ⟨n2, hn2⟩ := has_iff.1 ht.2
  obtain ⟨n1, hn1, hle⟩ := h1.all n2 t (R_more (h2.sound _ hn2))
  unfold mor
  rw [List.take_length, List.any_eq_true]
  refine ⟨t, ?_, ?_⟩
  · unfold sortedO
    rw [List.mem_filter]
    exact ⟨ht.1, has_iff.2 ⟨n1, hn1⟩⟩
  · unfold stepO
    rw [(tbl_get h1.nodup t).1 n1 hn1, (tbl_get h2.nodup t).1 n2 hn2]
    simp
    omega

set_option maxRecDepth 8000 in
set_option maxHeartbeats 16000000 in
theorem walk_no (w : World) (x : Circ) (p : At) (hin : InCirc w x p) (hw : WfC x) (aA : Option Addr) (n cA : Nat) (vs : List Value) (A : List (List Int)) (hA : Sl2 w aA n cA vs A) (hA64 : ∀ y ∈ A.flatten, -9223372036854775808 ≤ y ∧ y ≤ 9223372036854775807) (hnA : n * 24 ≤ 140737488351232)
    (aB : Option Addr) (cB : Nat) (B : List Int) (hB : Sl w aB B.length cB (ints B)) (hB64 : ∀ y ∈ B, -9223372036854775808 ≤ y ∧ y ≤ 9223372036854775807) (hsm : (decide (x.lats.length ≤ 4) && decide (x.ins.length ≤ 3) && decide (x.max ≤ 60)) = false) :
    Calls Tryz.prog 4 #[.agg (cells x p), .slice aA n cA, .slice aB B.length cB] w fun e w2 => e = .returned (.bool true) ∧ Below w.heap.size w w2 := by
  obtain ⟨W1, hW1⟩ : ∃ U, w.alloc (.cells (cells x p) 27) = U := ⟨_, rfl⟩
  obtain ⟨hb1, hx1⟩ := cbox_new w x p W1 hW1
  have HB1 := Lib.hid hb1
  have HAV := Lib.hid (EnumL.alive_any W1)
  have HCB := Lib.hid (fun (U : World) (hU : Below W1.heap.size W1 U) => hx1.next hU (Nat.le_refl _))
  have HSM := fun (U : World) (hU : Below W1.heap.size W1 U) => BadP.small_any U x p ((hin.next hb1).next hU)
  simp only [hsm] at HSM
  have HAA := Lib.hid (fun (U : World) (hU : Below W1.heap.size W1 U) => (hA.next hb1).next hU)
  have HBB := Lib.hid (fun (U : World) (hU : Below W1.heap.size W1 U) => (hB.next hb1).next hU)
  have hcA := hA.sl.cap
  have hgA := hA.sl.big
  have hcI := hin.ins.cap
  have hgI := hin.ins.big
  have hcL := hin.lats.cap
  have hgL := hin.lats.big
  obtain ⟨a1, b1, a2, b2, a3, b3, a4, b4, a5, b5, a6, b6, a7, b7⟩ := p
  simp only [cells] at *
  have HSMM := Lib.hid HSM
  clear hin hb1 hx1 hw hA hA64 hB hB64 hsm HSM
  go_enter Tryz.func4, Tryz.ntmps4
  go_wp2_with fail
  clear hW1
  with_reducible refine HAV.out.mono ?_
  rintro e w2 ⟨rfl, hb2⟩
  have HB2 := Lib.hid hb2
  clear hb2
  have hc := HCB.out w2 (HB2.out)
  have k0 := hc.k0
  have k1 := hc.k1
  have k2 := hc.k2
  have k3 := hc.k3
  have k4 := hc.k4
  have k5 := hc.k5
  have k6 := hc.k6
  have k7 := hc.k7
  try simp only at k0 k1 k2 k3 k4 k5 k6 k7
  clear hc
  have HSM2 := Lib.hid (HSMM.out w2 HB2.out)
  go_wp2_with fail
  with_reducible refine HSM2.out.mono ?_
  rintro e w3 ⟨rfl, hb3⟩
  have HB3 := Lib.hid (HB2.out.trans (hb3.mono HB2.out.size))
  clear hb3
  clear k0 k1 k2 k3 k4 k5 k6 k7
  go_wp2_with fail
  go_ret
  exact ⟨by first | rfl | simp, HB1.out.trans (HB3.out.mono HB1.out.size)⟩

set_option maxRecDepth 8000 in
set_option maxHeartbeats 16000000 in
theorem walk_bad (w : World) (x : Circ) (p : At) (hin : InCirc w x p) (hw : WfC x) (aA : Option Addr) (n cA : Nat) (vs : List Value) (A : List (List Int)) (hA : Sl2 w aA n cA vs A) (hA64 : ∀ y ∈ A.flatten, -9223372036854775808 ≤ y ∧ y ≤ 9223372036854775807) (hnA : n * 24 ≤ 140737488351232)
    (aB : Option Addr) (cB : Nat) (B : List Int) (hB : Sl w aB B.length cB (ints B)) (hB64 : ∀ y ∈ B, -9223372036854775808 ≤ y ∧ y ≤ 9223372036854775807) (hsm : (decide (x.lats.length ≤ 4) && decide (x.ins.length ≤ 3) && decide (x.max ≤ 60)) = true) (hk : ¬ CheckOk x) :
    Calls Tryz.prog 4 #[.agg (cells x p), .slice aA n cA, .slice aB B.length cB] w fun e w2 => e = .returned (.bool true) ∧ Below w.heap.size w w2 := by
  obtain ⟨W1, hW1⟩ : ∃ U, w.alloc (.cells (cells x p) 27) = U := ⟨_, rfl⟩
  obtain ⟨hb1, hx1⟩ := cbox_new w x p W1 hW1
  have HB1 := Lib.hid hb1
  have HAV := Lib.hid (EnumL.alive_any W1)
  have HCB := Lib.hid (fun (U : World) (hU : Below W1.heap.size W1 U) => hx1.next hU (Nat.le_refl _))
  have HSM := fun (U : World) (hU : Below W1.heap.size W1 U) => BadP.small_any U x p ((hin.next hb1).next hU)
  simp only [hsm] at HSM
  have HRE := fun (U : World) (hU : Below W1.heap.size W1 U) (v : Value) => reach_no U x p ((hin.next hb1).next hU) hw v (by rw [small_no hk]; decide)
  simp only [small_no hk] at HRE
  have HAA := Lib.hid (fun (U : World) (hU : Below W1.heap.size W1 U) => (hA.next hb1).next hU)
  have HBB := Lib.hid (fun (U : World) (hU : Below W1.heap.size W1 U) => (hB.next hb1).next hU)
  have hcA := hA.sl.cap
  have hgA := hA.sl.big
  have hcI := hin.ins.cap
  have hgI := hin.ins.big
  have hcL := hin.lats.cap
  have hgL := hin.lats.big
  obtain ⟨a1, b1, a2, b2, a3, b3, a4, b4, a5, b5, a6, b6, a7, b7⟩ := p
  simp only [cells] at *
  have HSMM := Lib.hid HSM
  have HREE := Lib.hid HRE
  clear hin hb1 hx1 hw hA hA64 hB hB64 hsm HSM hk HRE
  go_enter Tryz.func4, Tryz.ntmps4
  go_wp2_with fail
  clear hW1
  with_reducible refine HAV.out.mono ?_
  rintro e w2 ⟨rfl, hb2⟩
  have HB2 := Lib.hid hb2
  clear hb2
  have hc := HCB.out w2 (HB2.out)
  have k0 := hc.k0
  have k1 := hc.k1
  have k2 := hc.k2
  have k3 := hc.k3
  have k4 := hc.k4
  have k5 := hc.k5
  have k6 := hc.k6
  have k7 := hc.k7
  try simp only at k0 k1 k2 k3 k4 k5 k6 k7
  clear hc
  have HSM2 := Lib.hid (HSMM.out w2 HB2.out)
  go_wp2_with fail
  with_reducible refine HSM2.out.mono ?_
  rintro e w3 ⟨rfl, hb3⟩
  have HB3 := Lib.hid (HB2.out.trans (hb3.mono HB2.out.size))
  clear hb3
  clear k0 k1 k2 k3 k4 k5 k6 k7
  have hone := slices_oneM (HAA.out w3 HB3.out)
  have hslA := (HAA.out w3 HB3.out).sl
  obtain ⟨nB, hnB⟩ : ∃ m, B.length = m := ⟨_, rfl⟩
  have HNB := Lib.hid hnB
  rw [hnB]
  clear hnB
  go_upto_region 7 with (first | ((with_reducible refine wpL_app0 aA n cA vs info_rM Tryz.underlying28 ?_ ?_ ?_ ?_ hslA ?_ ?_ ?_); rfl; rfl; rfl; (exact hone); omega; omega; (intro aN cN w4 hown4 hb4; have hsz4 := hb4.size)) | ((with_reducible refine wpL_push (B := w3.heap.size) w4 (.slice aB nB cB) _ n vs info_rM Tryz.underlying28 ?_ ?_ ?_ ?_ ?_ hown4 ?_ ?_ ?_ hb4 ?_); rfl; rfl; rfl; rfl; rfl; (exact hsz4); omega; omega; (intro aM cM w5 hown5 hb5 hs5)))
  have HB5 := Lib.hid (HB3.out.trans (hb5.mono HB3.out.size))
  have H35 := Lib.hid hb5
  have HOM := Lib.hid (own_sl' hown5)
  clear hone hslA hown4 hb4 hsz4 hown5 hb5 hs5
  have hc := HCB.out w5 (HB5.out)
  have k0 := hc.k0
  have k1 := hc.k1
  have k2 := hc.k2
  have k3 := hc.k3
  have k4 := hc.k4
  have k5 := hc.k5
  have k6 := hc.k6
  have k7 := hc.k7
  try simp only at k0 k1 k2 k3 k4 k5 k6 k7
  clear hc
  have HR5 := Lib.hid (HREE.out w5 HB5.out)
  go_wp2_with fail
  with_reducible refine (HR5.out _).mono ?_
  rintro e w6 ⟨rfl, hb6⟩
  have HB6 := Lib.hid (HB5.out.trans (hb6.mono HB5.out.size))
  clear hb6
  clear k0 k1 k2 k3 k4 k5 k6 k7
  have hc := HCB.out w6 (HB6.out)
  have k0 := hc.k0
  have k1 := hc.k1
  have k2 := hc.k2
  have k3 := hc.k3
  have k4 := hc.k4
  have k5 := hc.k5
  have k6 := hc.k6
  have k7 := hc.k7
  try simp only at k0 k1 k2 k3 k4 k5 k6 k7
  clear hc
  have HR6 := Lib.hid (HREE.out w6 HB6.out)
  go_wp2_with fail
  with_reducible refine (HR6.out _).mono ?_
  rintro e w7 ⟨rfl, hb7⟩
  have HB7 := Lib.hid (HB6.out.trans (hb7.mono HB6.out.size))
  clear hb7
  clear k0 k1 k2 k3 k4 k5 k6 k7
  go_wp2_with fail
  go_loopw [14] (fun i wr => i = .int .i64 0 ∧ Hid (Below w7.heap.size w7 wr)) (fun i _ => 0)
  case atStart => exact ⟨rfl, Below.refl _ _⟩
  case round =>
    obtain ⟨rfl, hB⟩ := hrel
    generalize wr = ws at *
    have HBE := Lib.hid hB.out
    clear hB
    go_wp2_with fail
    go_ret
    exact ⟨by first | rfl | simp, HB1.out.trans ((HB7.out.trans (HBE.out.mono HB7.out.size)).mono HB1.out.size)⟩

set_option maxRecDepth 8000 in
set_option maxHeartbeats 16000000 in
theorem walk_ok (w : World) (x : Circ) (p : At) (hin : InCirc w x p) (hw : WfC x) (aA : Option Addr) (n cA : Nat) (vs : List Value) (A : List (List Int)) (hA : Sl2 w aA n cA vs A) (hA64 : ∀ y ∈ A.flatten, -9223372036854775808 ≤ y ∧ y ≤ 9223372036854775807) (hnA : n * 24 ≤ 140737488351232)
    (aB : Option Addr) (cB : Nat) (B : List Int) (hB : Sl w aB B.length cB (ints B)) (hB64 : ∀ y ∈ B, -9223372036854775808 ≤ y ∧ y ≤ 9223372036854775807) (hsm : (decide (x.lats.length ≤ 4) && decide (x.ins.length ≤ 3) && decide (x.max ≤ 60)) = true) (hk : CheckOk x) (hl4 : x.lats.length ≤ 4) (hi3 : x.ins.length ≤ 3) :
    Calls Tryz.prog 4 #[.agg (cells x p), .slice aA n cA, .slice aB B.length cB] w fun e w2 => e = .returned (.bool true) ∧ Below w.heap.size w w2 := by
  obtain ⟨W1, hW1⟩ : ∃ U, w.alloc (.cells (cells x p) 27) = U := ⟨_, rfl⟩
  obtain ⟨hb1, hx1⟩ := cbox_new w x p W1 hW1
  have HB1 := Lib.hid hb1
  have HAV := Lib.hid (EnumL.alive_any W1)
  have HCB := Lib.hid (fun (U : World) (hU : Below W1.heap.size W1 U) => hx1.next hU (Nat.le_refl _))
  have HSM := fun (U : World) (hU : Below W1.heap.size W1 U) => BadP.small_any U x p ((hin.next hb1).next hU)
  simp only [hsm] at HSM
  have HRE := fun (U : World) (hU : Below W1.heap.size W1 U) => reach_ok U x p ((hin.next hb1).next hU) hw hk (by omega) (by omega) aA n cA vs A ((hA.next hb1).next hU) hA64
  have HRM := fun (U : World) (hU : Below W1.heap.size W1 U) (a2 : Option Addr) (c2 : Nat) (vs2 : List Value) (h2 : Sl2 U a2 (n + 1) c2 vs2 (A ++ [B])) => reach_ok U x p ((hin.next hb1).next hU) hw hk (by omega) (by omega) a2 (n + 1) c2 vs2 (A ++ [B]) h2 (fun y hy => by
    rw [List.flatten_append, List.mem_append] at hy
    rcases hy with h | h
    · exact hA64 y h
    · exact hB64 y (by simpa using h))
  have HAA := Lib.hid (fun (U : World) (hU : Below W1.heap.size W1 U) => (hA.next hb1).next hU)
  have HBB := Lib.hid (fun (U : World) (hU : Below W1.heap.size W1 U) => (hB.next hb1).next hU)
  have hcA := hA.sl.cap
  have hgA := hA.sl.big
  have hcI := hin.ins.cap
  have hgI := hin.ins.big
  have hcL := hin.lats.cap
  have hgL := hin.lats.big
  obtain ⟨a1, b1, a2, b2, a3, b3, a4, b4, a5, b5, a6, b6, a7, b7⟩ := p
  simp only [cells] at *
  have HSMM := Lib.hid HSM
  have HREE := Lib.hid HRE
  have HRMM := Lib.hid HRM
  clear hin hb1 hx1 hw hA hA64 hB hB64 hsm HSM hk hl4 hi3 HRE HRM
  go_enter Tryz.func4, Tryz.ntmps4
  go_wp2_with fail
  clear hW1
  with_reducible refine HAV.out.mono ?_
  rintro e w2 ⟨rfl, hb2⟩
  have HB2 := Lib.hid hb2
  clear hb2
  have hc := HCB.out w2 (HB2.out)
  have k0 := hc.k0
  have k1 := hc.k1
  have k2 := hc.k2
  have k3 := hc.k3
  have k4 := hc.k4
  have k5 := hc.k5
  have k6 := hc.k6
  have k7 := hc.k7
  try simp only at k0 k1 k2 k3 k4 k5 k6 k7
  clear hc
  have HSM2 := Lib.hid (HSMM.out w2 HB2.out)
  go_wp2_with fail
  with_reducible refine HSM2.out.mono ?_
  rintro e w3 ⟨rfl, hb3⟩
  have HB3 := Lib.hid (HB2.out.trans (hb3.mono HB2.out.size))
  clear hb3
  clear k0 k1 k2 k3 k4 k5 k6 k7
  have hone := slices_oneM (HAA.out w3 HB3.out)
  have hslA := (HAA.out w3 HB3.out).sl
  obtain ⟨nB, hnB⟩ : ∃ m, B.length = m := ⟨_, rfl⟩
  have HNB := Lib.hid hnB
  rw [hnB]
  clear hnB
  go_upto_region 7 with (first | ((with_reducible refine wpL_app0 aA n cA vs info_rM Tryz.underlying28 ?_ ?_ ?_ ?_ hslA ?_ ?_ ?_); rfl; rfl; rfl; (exact hone); omega; omega; (intro aN cN w4 hown4 hb4; have hsz4 := hb4.size)) | ((with_reducible refine wpL_push (B := w3.heap.size) w4 (.slice aB nB cB) _ n vs info_rM Tryz.underlying28 ?_ ?_ ?_ ?_ ?_ hown4 ?_ ?_ ?_ hb4 ?_); rfl; rfl; rfl; rfl; rfl; (exact hsz4); omega; omega; (intro aM cM w5 hown5 hb5 hs5)))
  have HB5 := Lib.hid (HB3.out.trans (hb5.mono HB3.out.size))
  have H35 := Lib.hid hb5
  have HOM := Lib.hid (own_sl' hown5)
  clear hone hslA hown4 hb4 hsz4 hown5 hb5 hs5
  have hc := HCB.out w5 (HB5.out)
  have k0 := hc.k0
  have k1 := hc.k1
  have k2 := hc.k2
  have k3 := hc.k3
  have k4 := hc.k4
  have k5 := hc.k5
  have k6 := hc.k6
  have k7 := hc.k7
  try simp only at k0 k1 k2 k3 k4 k5 k6 k7
  clear hc
  have HR5 := Lib.hid (HREE.out w5 HB5.out)
  go_wp2_with fail
  with_reducible refine HR5.out.mono ?_
  rintro e w6 ⟨O1, n1, aS1, cS1, aD1, cD1, hkn, hTl, hn1k, rfl, hoS, hoD, hb6⟩
  have HKN1 := Lib.hid hkn
  have HTL1 := Lib.hid hTl
  have HOS1 := Lib.hid (own_sl' hoS)
  have HOD1 := Lib.hid (own_sl' hoD)
  have hcS1 := HOS1.out.cap
  have hgS1 := HOS1.out.big
  have hcD1 := HOD1.out.cap
  have hgD1 := HOD1.out.big
  have HB6 := Lib.hid (HB5.out.trans (hb6.mono HB5.out.size))
  have HM6 : Hid (Sl2 w6 aM (n + 1) cM (vs ++ [.slice aB nB cB]) (A ++ [B])) := by
    refine ⟨HOM.out.next hb6, by rw [List.length_append, (HAA.out _ HB6.out).len]; rfl, fun k v xs hv hx => ?_⟩
    have hl1 := (HAA.out _ HB6.out).sl.len
    have hl2 := (HAA.out _ HB6.out).len
    by_cases hk : k < n
    · rw [List.getElem?_append_left (by omega)] at hv hx
      exact (HAA.out _ HB6.out).row k v xs hv hx
    · rw [List.getElem?_append_right (by omega)] at hv hx
      have hk0 : k - n = 0 := by have := (List.getElem?_eq_some_iff.1 hv).1; simp at this; omega
      rw [hl1, hk0] at hv
      rw [hl2, hk0] at hx
      cases hv
      cases hx
      exact ⟨aB, cB, by rw [HNB.out], HBB.out _ HB6.out⟩
  clear hb6 hkn hTl hoS hoD
  clear k0 k1 k2 k3 k4 k5 k6 k7
  have hc := HCB.out w6 (HB6.out)
  have k0 := hc.k0
  have k1 := hc.k1
  have k2 := hc.k2
  have k3 := hc.k3
  have k4 := hc.k4
  have k5 := hc.k5
  have k6 := hc.k6
  have k7 := hc.k7
  try simp only at k0 k1 k2 k3 k4 k5 k6 k7
  clear hc
  have HR6 := Lib.hid (HRMM.out w6 HB6.out aM cM _ HM6.out)
  go_wp2_with fail
  with_reducible refine HR6.out.mono ?_
  rintro e w7 ⟨O2, n2, aS2, cS2, aD2, cD2, hkn, hTl, hn2k, rfl, hoS, hoD, hb6⟩
  have HKN2 := Lib.hid hkn
  have HTL2 := Lib.hid hTl
  have HOS2 := Lib.hid (own_sl' hoS)
  have HOD2 := Lib.hid (own_sl' hoD)
  have hcS2 := HOS2.out.cap
  have hgS2 := HOS2.out.big
  have hcD2 := HOD2.out.cap
  have hgD2 := HOD2.out.big
  have HB7 := Lib.hid (HB6.out.trans (hb6.mono HB6.out.size))
  have H67 := Lib.hid hb6
  clear hb6 hkn hTl hoS hoD
  clear k0 k1 k2 k3 k4 k5 k6 k7
  have HS1 := Lib.hid (HOS1.out.next H67.out)
  have HD1 := Lib.hid (HOD1.out.next H67.out)
  have HMY := Lib.hid (fun t ht => more_yes (B := B) HKN1.out HKN2.out (t := t) ht)
  clear HOS1 HOD1 HKN1 HKN2 HM6 HR5 HR6 HSMM HREE HRMM
  obtain ⟨T1, hT1⟩ : ∃ T, sortedO x.lats.length O1 = T := ⟨_, rfl⟩
  obtain ⟨T2, hT2⟩ : ∃ T, sortedO x.lats.length O2 = T := ⟨_, rfl⟩
  rw [hT1] at HS1 HD1 HTL1 HMY
  rw [hT2] at HOS2 HOD2 HTL2 HMY
  clear hT1 hT2
  go_wp2_with fail
  go_loopw [14] (fun j wr => ∃ i : Nat, i ≤ n2 ∧ j = .int .i64 i ∧ Hid (Below w7.heap.size w7 wr)) (fun j _ => n2 - (intOf j).toNat)
  case atStart => exact ⟨0, Nat.zero_le _, rfl, Below.refl _ _⟩
  case round =>
    obtain ⟨i, hi, rfl, hB⟩ := hrel
    generalize wr = ws at *
    by_cases hlt : i < n2
    · have hi2 : i < T2.length := by rw [HTL2.out]; exact hlt
      have HT2I := Lib.hid hi2
      have hmy := HMY.out T2[i] (List.getElem_mem hi2)
      have HE2 : Hid (T2[i]? = some T2[i]) := List.getElem?_eq_getElem hi2
      generalize T2[i] = t at *
      have HMI := Lib.hid hmy
      clear hmy hi2
      go_wp2_with fail
      go_loopw [15, 16] (fun u j wr => ∃ k : Nat, k ≤ n1 ∧ u = .bool (mor T1 t O1 (stepO O2 t) k) ∧ j = .int .i64 k ∧ Hid (Below w7.heap.size w7 wr)) (fun _ j _ => n1 - (intOf j).toNat)
      case atStart => exact ⟨0, Nat.zero_le _, rfl, rfl, hB.out⟩
      case round =>
        clear hB
        obtain ⟨k, hk, rfl, rfl, hBk⟩ := hrel
        generalize wr = wt at *
        by_cases hlk : k < n1
        · have hk1 : k < T1.length := by rw [HTL1.out]; exact hlk
          have HMS := Lib.hid (mor_step T1 t O1 (stepO O2 t) hk1)
          have hE1 : T1[k]? = some T1[k] := List.getElem?_eq_getElem hk1
          obtain ⟨b1s, o1s, hae1, _, d1⟩ := (HS1.out.next hBk.out).cell k (.string (bs T1[k])) (by unfold txt; rw [List.getElem?_map, hE1]; rfl)
          obtain ⟨b1d, o1d, hae2, _, d2⟩ := (HD1.out.next hBk.out).cell k (.int .i64 (stepO O1 T1[k])) (by unfold ints; rw [List.getElem?_map, List.getElem?_map, hE1]; rfl)
          obtain ⟨b2s, o2s, hae3, _, d3⟩ := (HOS2.out.next hBk.out).cell i (.string (bs t)) (by unfold txt; rw [List.getElem?_map, HE2.out]; rfl)
          obtain ⟨b2d, o2d, hae4, _, d4⟩ := (HOD2.out.next hBk.out).cell i (.int .i64 (stepO O2 t)) (by unfold ints; rw [List.getElem?_map, List.getElem?_map, HE2.out]; rfl)
          subst hae1
          subst hae2
          subst hae3
          subst hae4
          have hse := bs_eq T1[k] t
          generalize hq2 : mor T1 t O1 (stepO O2 t) (k + 1) = q2 at *
          have HQ2 := Lib.hid hq2
          clear hq2
          generalize mor T1 t O1 (stepO O2 t) k = q at *
          generalize stepO O1 T1[k] = v1 at *
          generalize hz : stepO O2 t = z at *
          have HZ := Lib.hid hz
          clear hz
          generalize hr : decide (T1[k] = t) = r at *
          generalize bs T1[k] = s1 at *
          generalize bs t = s2 at *
          clear hr hE1 hk1
          have hS0 : wt.drew.cell? ⟨b1s, o1s + k, none⟩ = some (.string s1) ∧ wt.drew.cell? ⟨b2s, o2s + i, none⟩ = some (.string s2) ∧ wt.drew.cell? ⟨b1d, o1d + k, none⟩ = some (.int .i64 v1) ∧ wt.drew.cell? ⟨b2d, o2d + i, none⟩ = some (.int .i64 z) ∧ Hid (Below w7.heap.size w7 wt.drew) :=
            ⟨by rw [World.cell?_drew]; exact d1, by rw [World.cell?_drew]; exact d3, by rw [World.cell?_drew]; exact d2, by rw [World.cell?_drew]; exact d4, hBk.out.drew⟩
          clear d1 d2 d3 d4 hBk
          cases q
          · cases r
            · go_upto_region 18 with fail
              refine Lex.region (fun w' => (fun w9 : World => w9.cell? ⟨b1s, o1s + k, none⟩ = some (.string s1) ∧ w9.cell? ⟨b2s, o2s + i, none⟩ = some (.string s2) ∧ w9.cell? ⟨b1d, o1d + k, none⟩ = some (.int .i64 v1) ∧ w9.cell? ⟨b2d, o2d + i, none⟩ = some (.int .i64 z) ∧ Hid (Below w7.heap.size w7 w9)) w') (by kernel_rfl) (by kernel_rfl) hS0 ?_
              (refine Lex.step_val (v := ?_) ?_ (fun w' hSw => ?_) ?_; rotate_left; (focus rfl); (focus (clear hSw; go_simp; (try with_reducible rfl); done)); (try simp only [Act.put, List.setIfInBounds_toArray, List.set_cons_zero, List.set_cons_succ]))
              (refine Lex.step_val (v := ?_) ?_ (fun w' hSw => ?_) ?_; rotate_left; (focus rfl); (focus (clear hSw; go_simp; (try with_reducible rfl); done)); (try simp only [Act.put, List.setIfInBounds_toArray, List.set_cons_zero, List.set_cons_succ]))
              (refine Lex.step_val (v := ?_) ?_ (fun w' hSw => ?_) ?_; rotate_left; (focus (go_simp; done)); (focus (clear hSw; go_simp; (try with_reducible rfl); done)); (try simp only [Act.put, List.setIfInBounds_toArray, List.set_cons_zero, List.set_cons_succ]))
              (refine Lex.step_val (v := ?_) ?_ (fun w' hSw => ?_) ?_; rotate_left; (focus (go_simp; done)); (focus (clear hSw; go_simp; (try with_reducible rfl); done)); (try simp only [Act.put, List.setIfInBounds_toArray, List.set_cons_zero, List.set_cons_succ]))
              (refine Lex.step_val (v := ?_) ?_ (fun w' hSw => ?_) ?_; rotate_left; (focus (go_simp; done)); (focus (clear hSw; go_simp; (try with_reducible rfl); done)); (try simp only [Act.put, List.setIfInBounds_toArray, List.set_cons_zero, List.set_cons_succ]))
              (refine Lex.step_val (v := ?_) ?_ (fun w' hSw => ?_) ?_; rotate_left; (focus (go_simp; done)); (focus ((try dsimp only at hSw); go_simp; (try with_reducible rfl); done)); (try simp only [Act.put, List.setIfInBounds_toArray, List.set_cons_zero, List.set_cons_succ]))
              (refine Lex.step_val (v := ?_) ?_ (fun w' hSw => ?_) ?_; rotate_left; (focus (go_simp; done)); (focus (clear hSw; go_simp; (try with_reducible rfl); done)); (try simp only [Act.put, List.setIfInBounds_toArray, List.set_cons_zero, List.set_cons_succ]))
              (refine Lex.step_val (v := ?_) ?_ (fun w' hSw => ?_) ?_; rotate_left; (focus (go_simp; done)); (focus (clear hSw; go_simp; (try with_reducible rfl); done)); (try simp only [Act.put, List.setIfInBounds_toArray, List.set_cons_zero, List.set_cons_succ]))
              (refine Lex.step_val (v := ?_) ?_ (fun w' hSw => ?_) ?_; rotate_left; (focus (go_simp; done)); (focus (clear hSw; go_simp; (try with_reducible rfl); done)); (try simp only [Act.put, List.setIfInBounds_toArray, List.set_cons_zero, List.set_cons_succ]))
              (refine Lex.step_val (v := ?_) ?_ (fun w' hSw => ?_) ?_; rotate_left; (focus (go_simp; done)); (focus ((try dsimp only at hSw); go_simp; (try with_reducible rfl); done)); (try simp only [Act.put, List.setIfInBounds_toArray, List.set_cons_zero, List.set_cons_succ]))
              (refine Lex.step_val (v := ?_) ?_ (fun w' hSw => ?_) ?_; rotate_left; (focus (go_simp; done)); (focus (clear hSw; go_simp; (try with_reducible rfl); done)); (try simp only [Act.put, List.setIfInBounds_toArray, List.set_cons_zero, List.set_cons_succ]))
              (refine Lex.step_val (v := ?_) ?_ (fun w' hSw => ?_) ?_; rotate_left; (focus (go_simp; done)); (focus (clear hSw; go_simp; (try with_reducible rfl); done)); (try simp only [Act.put, List.setIfInBounds_toArray, List.set_cons_zero, List.set_cons_succ]))
              (refine Lex.step_off ?_ ?_; (focus (first | (go_simp; done) | (simp [Region.wanted, yielded, undef]; done) | rfl)); (try simp only [Act.put, List.setIfInBounds_toArray, List.set_cons_zero, List.set_cons_succ]))
              (refine Lex.step_off ?_ ?_; (focus (first | (go_simp; done) | (simp [Region.wanted, yielded, undef]; done) | rfl)); (try simp only [Act.put, List.setIfInBounds_toArray, List.set_cons_zero, List.set_cons_succ]))
              (refine Lex.step_off ?_ ?_; (focus (first | (go_simp; done) | (simp [Region.wanted, yielded, undef]; done) | rfl)); (try simp only [Act.put, List.setIfInBounds_toArray, List.set_cons_zero, List.set_cons_succ]))
              (refine Lex.step_off ?_ ?_; (focus (first | (go_simp; done) | (simp [Region.wanted, yielded, undef]; done) | rfl)); (try simp only [Act.put, List.setIfInBounds_toArray, List.set_cons_zero, List.set_cons_succ]))
              (refine Lex.step_off ?_ ?_; (focus (first | (go_simp; done) | (simp [Region.wanted, yielded, undef]; done) | rfl)); (try simp only [Act.put, List.setIfInBounds_toArray, List.set_cons_zero, List.set_cons_succ]))
              (refine Lex.step_off ?_ ?_; (focus (first | (go_simp; done) | (simp [Region.wanted, yielded, undef]; done) | rfl)); (try simp only [Act.put, List.setIfInBounds_toArray, List.set_cons_zero, List.set_cons_succ]))
              (refine Lex.step_off ?_ ?_; (focus (first | (go_simp; done) | (simp [Region.wanted, yielded, undef]; done) | rfl)); (try simp only [Act.put, List.setIfInBounds_toArray, List.set_cons_zero, List.set_cons_succ]))
              (refine Lex.step_off ?_ ?_; (focus (first | (go_simp; done) | (simp [Region.wanted, yielded, undef]; done) | rfl)); (try simp only [Act.put, List.setIfInBounds_toArray, List.set_cons_zero, List.set_cons_succ]))
              (refine Lex.step_off ?_ ?_; (focus (first | (go_simp; done) | (simp [Region.wanted, yielded, undef]; done) | rfl)); (try simp only [Act.put, List.setIfInBounds_toArray, List.set_cons_zero, List.set_cons_succ]))
              (refine Lex.step_val (v := ?_) ?_ (fun w' hSw => ?_) ?_; rotate_left; (focus (go_simp; done)); (focus (clear hSw; go_simp; (try with_reducible rfl); done)); (try simp only [Act.put, List.setIfInBounds_toArray, List.set_cons_zero, List.set_cons_succ]))
              (refine Lex.step_val (v := ?_) ?_ (fun w' hSw => ?_) ?_; rotate_left; (focus rfl); (focus (clear hSw; go_simp; (try with_reducible rfl); done)); (try simp only [Act.put, List.setIfInBounds_toArray, List.set_cons_zero, List.set_cons_succ]))
              (refine Lex.step_val (v := ?_) ?_ (fun w' hSw => ?_) ?_; rotate_left; (focus rfl); (focus (clear hSw; go_simp; (try with_reducible rfl); done)); (try simp only [Act.put, List.setIfInBounds_toArray, List.set_cons_zero, List.set_cons_succ]))
              refine Lex.step_nil ?_
              intro wz hz
              have HBZ := hz.2.2.2.2
              clear hz hS0
              go_wp2_with fail
              go_roundw
              case rel => exact ⟨k + 1, by omega, by rw [HQ2.out, HMS.out]; first | rfl | simp, by go_num, HBZ⟩
              case measure => simp [intOf]; omega
            · go_upto_region 18 with fail
              refine Lex.region (fun w' => (fun w9 : World => w9.cell? ⟨b1s, o1s + k, none⟩ = some (.string s1) ∧ w9.cell? ⟨b2s, o2s + i, none⟩ = some (.string s2) ∧ w9.cell? ⟨b1d, o1d + k, none⟩ = some (.int .i64 v1) ∧ w9.cell? ⟨b2d, o2d + i, none⟩ = some (.int .i64 z) ∧ Hid (Below w7.heap.size w7 w9)) w') (by kernel_rfl) (by kernel_rfl) hS0 ?_
              (refine Lex.step_val (v := ?_) ?_ (fun w' hSw => ?_) ?_; rotate_left; (focus rfl); (focus (clear hSw; go_simp; (try with_reducible rfl); done)); (try simp only [Act.put, List.setIfInBounds_toArray, List.set_cons_zero, List.set_cons_succ]))
              (refine Lex.step_val (v := ?_) ?_ (fun w' hSw => ?_) ?_; rotate_left; (focus rfl); (focus (clear hSw; go_simp; (try with_reducible rfl); done)); (try simp only [Act.put, List.setIfInBounds_toArray, List.set_cons_zero, List.set_cons_succ]))
              (refine Lex.step_val (v := ?_) ?_ (fun w' hSw => ?_) ?_; rotate_left; (focus (go_simp; done)); (focus (clear hSw; go_simp; (try with_reducible rfl); done)); (try simp only [Act.put, List.setIfInBounds_toArray, List.set_cons_zero, List.set_cons_succ]))
              (refine Lex.step_val (v := ?_) ?_ (fun w' hSw => ?_) ?_; rotate_left; (focus (go_simp; done)); (focus (clear hSw; go_simp; (try with_reducible rfl); done)); (try simp only [Act.put, List.setIfInBounds_toArray, List.set_cons_zero, List.set_cons_succ]))
              (refine Lex.step_val (v := ?_) ?_ (fun w' hSw => ?_) ?_; rotate_left; (focus (go_simp; done)); (focus (clear hSw; go_simp; (try with_reducible rfl); done)); (try simp only [Act.put, List.setIfInBounds_toArray, List.set_cons_zero, List.set_cons_succ]))
              (refine Lex.step_val (v := ?_) ?_ (fun w' hSw => ?_) ?_; rotate_left; (focus (go_simp; done)); (focus ((try dsimp only at hSw); go_simp; (try with_reducible rfl); done)); (try simp only [Act.put, List.setIfInBounds_toArray, List.set_cons_zero, List.set_cons_succ]))
              (refine Lex.step_val (v := ?_) ?_ (fun w' hSw => ?_) ?_; rotate_left; (focus (go_simp; done)); (focus (clear hSw; go_simp; (try with_reducible rfl); done)); (try simp only [Act.put, List.setIfInBounds_toArray, List.set_cons_zero, List.set_cons_succ]))
              (refine Lex.step_val (v := ?_) ?_ (fun w' hSw => ?_) ?_; rotate_left; (focus (go_simp; done)); (focus (clear hSw; go_simp; (try with_reducible rfl); done)); (try simp only [Act.put, List.setIfInBounds_toArray, List.set_cons_zero, List.set_cons_succ]))
              (refine Lex.step_val (v := ?_) ?_ (fun w' hSw => ?_) ?_; rotate_left; (focus (go_simp; done)); (focus (clear hSw; go_simp; (try with_reducible rfl); done)); (try simp only [Act.put, List.setIfInBounds_toArray, List.set_cons_zero, List.set_cons_succ]))
              (refine Lex.step_val (v := ?_) ?_ (fun w' hSw => ?_) ?_; rotate_left; (focus (go_simp; done)); (focus ((try dsimp only at hSw); go_simp; (try with_reducible rfl); done)); (try simp only [Act.put, List.setIfInBounds_toArray, List.set_cons_zero, List.set_cons_succ]))
              (refine Lex.step_val (v := ?_) ?_ (fun w' hSw => ?_) ?_; rotate_left; (focus (go_simp; done)); (focus (clear hSw; go_simp; (try with_reducible rfl); done)); (try simp only [Act.put, List.setIfInBounds_toArray, List.set_cons_zero, List.set_cons_succ]))
              (refine Lex.step_val (v := ?_) ?_ (fun w' hSw => ?_) ?_; rotate_left; (focus (go_simp; done)); (focus (clear hSw; go_simp; (try with_reducible rfl); done)); (try simp only [Act.put, List.setIfInBounds_toArray, List.set_cons_zero, List.set_cons_succ]))
              (refine Lex.step_val (v := ?_) ?_ (fun w' hSw => ?_) ?_; rotate_left; (focus (go_simp; done)); (focus (clear hSw; go_simp; (try with_reducible rfl); done)); (try simp only [Act.put, List.setIfInBounds_toArray, List.set_cons_zero, List.set_cons_succ]))
              (refine Lex.step_val (v := ?_) ?_ (fun w' hSw => ?_) ?_; rotate_left; (focus (go_simp; done)); (focus (clear hSw; go_simp; (try with_reducible rfl); done)); (try simp only [Act.put, List.setIfInBounds_toArray, List.set_cons_zero, List.set_cons_succ]))
              (refine Lex.step_val (v := ?_) ?_ (fun w' hSw => ?_) ?_; rotate_left; (focus (go_simp; done)); (focus (clear hSw; go_simp; (try with_reducible rfl); done)); (try simp only [Act.put, List.setIfInBounds_toArray, List.set_cons_zero, List.set_cons_succ]))
              (refine Lex.step_val (v := ?_) ?_ (fun w' hSw => ?_) ?_; rotate_left; (focus (go_simp; done)); (focus ((try dsimp only at hSw); go_simp; (try with_reducible rfl); done)); (try simp only [Act.put, List.setIfInBounds_toArray, List.set_cons_zero, List.set_cons_succ]))
              (refine Lex.step_val (v := ?_) ?_ (fun w' hSw => ?_) ?_; rotate_left; (focus (go_simp; done)); (focus (clear hSw; go_simp; (try with_reducible rfl); done)); (try simp only [Act.put, List.setIfInBounds_toArray, List.set_cons_zero, List.set_cons_succ]))
              (refine Lex.step_val (v := ?_) ?_ (fun w' hSw => ?_) ?_; rotate_left; (focus (go_simp; done)); (focus (clear hSw; go_simp; (try with_reducible rfl); done)); (try simp only [Act.put, List.setIfInBounds_toArray, List.set_cons_zero, List.set_cons_succ]))
              (refine Lex.step_val (v := ?_) ?_ (fun w' hSw => ?_) ?_; rotate_left; (focus (go_simp; done)); (focus (clear hSw; go_simp; (try with_reducible rfl); done)); (try simp only [Act.put, List.setIfInBounds_toArray, List.set_cons_zero, List.set_cons_succ]))
              (refine Lex.step_val (v := ?_) ?_ (fun w' hSw => ?_) ?_; rotate_left; (focus (go_simp; done)); (focus ((try dsimp only at hSw); go_simp; (try with_reducible rfl); done)); (try simp only [Act.put, List.setIfInBounds_toArray, List.set_cons_zero, List.set_cons_succ]))
              (refine Lex.step_val (v := ?_) ?_ (fun w' hSw => ?_) ?_; rotate_left; (focus (go_simp; done)); (focus (clear hSw; go_simp; (try with_reducible rfl); done)); (try simp only [Act.put, List.setIfInBounds_toArray, List.set_cons_zero, List.set_cons_succ]))
              (refine Lex.step_val (v := ?_) ?_ (fun w' hSw => ?_) ?_; rotate_left; (focus (go_simp; done)); (focus (clear hSw; go_simp; (try with_reducible rfl); done)); (try simp only [Act.put, List.setIfInBounds_toArray, List.set_cons_zero, List.set_cons_succ]))
              (refine Lex.step_val (v := ?_) ?_ (fun w' hSw => ?_) ?_; rotate_left; (focus rfl); (focus (clear hSw; go_simp; (try with_reducible rfl); done)); (try simp only [Act.put, List.setIfInBounds_toArray, List.set_cons_zero, List.set_cons_succ]))
              (refine Lex.step_val (v := ?_) ?_ (fun w' hSw => ?_) ?_; rotate_left; (focus rfl); (focus (clear hSw; go_simp; (try with_reducible rfl); done)); (try simp only [Act.put, List.setIfInBounds_toArray, List.set_cons_zero, List.set_cons_succ]))
              refine Lex.step_nil ?_
              intro wz hz
              have HBZ := hz.2.2.2.2
              clear hz hS0
              go_wp2_with fail
              go_roundw
              case rel => exact ⟨k + 1, by omega, by rw [HQ2.out, HMS.out]; first | rfl | simp, by go_num, HBZ⟩
              case measure => simp [intOf]; omega
          · go_upto_region 18 with fail
            refine Lex.region (fun w' => (fun w9 : World => w9.cell? ⟨b1s, o1s + k, none⟩ = some (.string s1) ∧ w9.cell? ⟨b2s, o2s + i, none⟩ = some (.string s2) ∧ w9.cell? ⟨b1d, o1d + k, none⟩ = some (.int .i64 v1) ∧ w9.cell? ⟨b2d, o2d + i, none⟩ = some (.int .i64 z) ∧ Hid (Below w7.heap.size w7 w9)) w') (by kernel_rfl) (by kernel_rfl) hS0 ?_
            (refine Lex.step_val (v := ?_) ?_ (fun w' hSw => ?_) ?_; rotate_left; (focus rfl); (focus (clear hSw; go_simp; (try with_reducible rfl); done)); (try simp only [Act.put, List.setIfInBounds_toArray, List.set_cons_zero, List.set_cons_succ]))
            (refine Lex.step_val (v := ?_) ?_ (fun w' hSw => ?_) ?_; rotate_left; (focus rfl); (focus (clear hSw; go_simp; (try with_reducible rfl); done)); (try simp only [Act.put, List.setIfInBounds_toArray, List.set_cons_zero, List.set_cons_succ]))
            (refine Lex.step_off ?_ ?_; (focus (first | (go_simp; done) | (simp [Region.wanted, yielded, undef]; done) | rfl)); (try simp only [Act.put, List.setIfInBounds_toArray, List.set_cons_zero, List.set_cons_succ]))
            (refine Lex.step_off ?_ ?_; (focus (first | (go_simp; done) | (simp [Region.wanted, yielded, undef]; done) | rfl)); (try simp only [Act.put, List.setIfInBounds_toArray, List.set_cons_zero, List.set_cons_succ]))
            (refine Lex.step_off ?_ ?_; (focus (first | (go_simp; done) | (simp [Region.wanted, yielded, undef]; done) | rfl)); (try simp only [Act.put, List.setIfInBounds_toArray, List.set_cons_zero, List.set_cons_succ]))
            (refine Lex.step_off ?_ ?_; (focus (first | (go_simp; done) | (simp [Region.wanted, yielded, undef]; done) | rfl)); (try simp only [Act.put, List.setIfInBounds_toArray, List.set_cons_zero, List.set_cons_succ]))
            (refine Lex.step_off ?_ ?_; (focus (first | (go_simp; done) | (simp [Region.wanted, yielded, undef]; done) | rfl)); (try simp only [Act.put, List.setIfInBounds_toArray, List.set_cons_zero, List.set_cons_succ]))
            (refine Lex.step_off ?_ ?_; (focus (first | (go_simp; done) | (simp [Region.wanted, yielded, undef]; done) | rfl)); (try simp only [Act.put, List.setIfInBounds_toArray, List.set_cons_zero, List.set_cons_succ]))
            (refine Lex.step_off ?_ ?_; (focus (first | (go_simp; done) | (simp [Region.wanted, yielded, undef]; done) | rfl)); (try simp only [Act.put, List.setIfInBounds_toArray, List.set_cons_zero, List.set_cons_succ]))
            (refine Lex.step_off ?_ ?_; (focus (first | (go_simp; done) | (simp [Region.wanted, yielded, undef]; done) | rfl)); (try simp only [Act.put, List.setIfInBounds_toArray, List.set_cons_zero, List.set_cons_succ]))
            (refine Lex.step_off ?_ ?_; (focus (first | (go_simp; done) | (simp [Region.wanted, yielded, undef]; done) | rfl)); (try simp only [Act.put, List.setIfInBounds_toArray, List.set_cons_zero, List.set_cons_succ]))
            (refine Lex.step_off ?_ ?_; (focus (first | (go_simp; done) | (simp [Region.wanted, yielded, undef]; done) | rfl)); (try simp only [Act.put, List.setIfInBounds_toArray, List.set_cons_zero, List.set_cons_succ]))
            (refine Lex.step_off ?_ ?_; (focus (first | (go_simp; done) | (simp [Region.wanted, yielded, undef]; done) | rfl)); (try simp only [Act.put, List.setIfInBounds_toArray, List.set_cons_zero, List.set_cons_succ]))
            (refine Lex.step_off ?_ ?_; (focus (first | (go_simp; done) | (simp [Region.wanted, yielded, undef]; done) | rfl)); (try simp only [Act.put, List.setIfInBounds_toArray, List.set_cons_zero, List.set_cons_succ]))
            (refine Lex.step_off ?_ ?_; (focus (first | (go_simp; done) | (simp [Region.wanted, yielded, undef]; done) | rfl)); (try simp only [Act.put, List.setIfInBounds_toArray, List.set_cons_zero, List.set_cons_succ]))
            (refine Lex.step_off ?_ ?_; (focus (first | (go_simp; done) | (simp [Region.wanted, yielded, undef]; done) | rfl)); (try simp only [Act.put, List.setIfInBounds_toArray, List.set_cons_zero, List.set_cons_succ]))
            (refine Lex.step_off ?_ ?_; (focus (first | (go_simp; done) | (simp [Region.wanted, yielded, undef]; done) | rfl)); (try simp only [Act.put, List.setIfInBounds_toArray, List.set_cons_zero, List.set_cons_succ]))
            (refine Lex.step_off ?_ ?_; (focus (first | (go_simp; done) | (simp [Region.wanted, yielded, undef]; done) | rfl)); (try simp only [Act.put, List.setIfInBounds_toArray, List.set_cons_zero, List.set_cons_succ]))
            (refine Lex.step_off ?_ ?_; (focus (first | (go_simp; done) | (simp [Region.wanted, yielded, undef]; done) | rfl)); (try simp only [Act.put, List.setIfInBounds_toArray, List.set_cons_zero, List.set_cons_succ]))
            (refine Lex.step_off ?_ ?_; (focus (first | (go_simp; done) | (simp [Region.wanted, yielded, undef]; done) | rfl)); (try simp only [Act.put, List.setIfInBounds_toArray, List.set_cons_zero, List.set_cons_succ]))
            (refine Lex.step_off ?_ ?_; (focus (first | (go_simp; done) | (simp [Region.wanted, yielded, undef]; done) | rfl)); (try simp only [Act.put, List.setIfInBounds_toArray, List.set_cons_zero, List.set_cons_succ]))
            (refine Lex.step_off ?_ ?_; (focus (first | (go_simp; done) | (simp [Region.wanted, yielded, undef]; done) | rfl)); (try simp only [Act.put, List.setIfInBounds_toArray, List.set_cons_zero, List.set_cons_succ]))
            (refine Lex.step_val (v := ?_) ?_ (fun w' hSw => ?_) ?_; rotate_left; (focus rfl); (focus (clear hSw; go_simp; (try with_reducible rfl); done)); (try simp only [Act.put, List.setIfInBounds_toArray, List.set_cons_zero, List.set_cons_succ]))
            (refine Lex.step_val (v := ?_) ?_ (fun w' hSw => ?_) ?_; rotate_left; (focus rfl); (focus (clear hSw; go_simp; (try with_reducible rfl); done)); (try simp only [Act.put, List.setIfInBounds_toArray, List.set_cons_zero, List.set_cons_succ]))
            refine Lex.step_nil ?_
            intro wz hz
            have HBZ := hz.2.2.2.2
            clear hz hS0
            go_wp2_with fail
            go_roundw
            case rel => exact ⟨k + 1, by omega, by rw [HQ2.out, HMS.out]; first | rfl | simp, by go_num, HBZ⟩
            case measure => simp [intOf]; omega
        · have HQE : Hid (mor T1 t O1 (stepO O2 t) k = true) := by
            have hkn : k = T1.length := by rw [HTL1.out]; omega
            show _ = _
            rw [hkn]
            exact HMI.out
          rw [HQE.out]
          have HBE := Lib.hid hBk.out
          clear hBk
          go_wp2_with fail
          go_roundw
          case rel => exact ⟨i + 1, by omega, by go_num, HBE.out⟩
          case measure => simp [intOf]; omega
    · have HBE := Lib.hid hB.out
      clear hB
      go_wp2_with fail
      go_ret
      exact ⟨by first | rfl | simp, HB1.out.trans ((HB7.out.trans (HBE.out.mono HB7.out.size)).mono HB1.out.size)⟩


theorem walk (x : Circ) (p : At) {w : World} (hin : InCirc w x p) (hw : WfC x) (hz : Open.SizedCirc x) (aA : Option Addr) (cA : Nat) (A : List (List Int)) (vals : List Value) (hA : Sl2 w aA A.length cA vals A) (hwA : ∀ l ∈ A, Clause.Wf l) (hzA : A.length * 24 ≤ 140737488351232 ∧ ∀ y ∈ A, y.length * 8 ≤ 140737488351232)
    (aB : Option Addr) (cB : Nat) (B : List Int) (hB : Sl w aB B.length cB (ints B)) (hwB : Clause.Wf B) (hzB : B.length * 8 ≤ 140737488351232) (W : World) (hW : W = w) :
    Calls Tryz.prog 4 #[.agg (cells x p), .slice aA A.length cA, .slice aB B.length cB] W fun e W' => e = .returned (.bool true) ∧ Below W.heap.size W W' := by
  subst hW
  have h64 : ∀ y ∈ A.flatten, -9223372036854775808 ≤ y ∧ y ≤ 9223372036854775807 := fun y hy => by
    obtain ⟨l, hl, hyl⟩ := List.mem_flatten.1 hy
    exact hwA l hl y hyl
  cases hsm : (decide (x.lats.length ≤ 4) && decide (x.ins.length ≤ 3) && decide (x.max ≤ 60)) with
  | false => exact walk_no W x p hin hw aA _ cA vals A hA h64 hzA.1 aB cB B hB hwB hsm
  | true =>
    by_cases hk : CheckOk x
    · have h2 := hsm
      simp only [Bool.and_eq_true, decide_eq_true_eq] at h2
      exact walk_ok W x p hin hw aA _ cA vals A hA h64 hzA.1 aB cB B hB hwB hsm hk h2.1.1 h2.1.2
    · exact walk_bad W x p hin hw aA _ cA vals A hA h64 hzA.1 aB cB B hB hwB hsm hk
end Go.Proofs.YtjmmhbmbafjneaaGreatDoor.enumMore
