/-
  circuit.Cone: what literals hang on.
-/
import Derived.Test.YtninglnchengeaaConeP
import Derived.Test.YtninglnchengeaaGate
import Derived.Test.YtninglnchengeaaSetI
import Derived.Test.YtninglnchengeaaSortedKeys
import Derived.Test.YtninglnchengeaaCloneI
import Derived.Test.YtninglnchengeaaCBox
import Derived.WalkSmall
import Derived.Deep.DeepCutAuto
import Derived.BigQuiet
import Derived.Maps.OwnOps
import Derived.Lib.AppendZeros
namespace Go.Proofs.Ytninglnchengeaa
open Go.RowKit Base Go.Maps
set_option linter.unusedVariables false
set_option linter.unusedSimpArgs false
namespace Circuit

theorem info_intC : (Try.prog.info? 3).map (fun i => (i.zero, i.size, i.bytes)) = some (some (.int .i64 0), 1, 8) := by kernel_rfl

/-- The set of what is met, and its keys. -/
def SetK (w : World) (b n : Nat) (M : List Int) : Prop :=
  ∃ D : DataW Unit, w.ownsMap Try.prog 3 (plainElem Try.prog 4) b n D ∧ IsMap D ∧ (∀ x, SetI.I64 x → D.atKey (.int .i64 x) (.lit (.bool false)) = .lit (.bool (SetI.inX M x))) ∧ SetI.KeysAre D M

theorem SetK.set {w : World} {b n : Nat} {M : List Int} (h : SetK w b n M) : SetI.SetIs w b n M := by
  obtain ⟨D, h1, h2, h3, _⟩ := h
  exact ⟨D, h1, h2, h3⟩
theorem SetK.next {w w' : World} {b n : Nat} {M : List Int} (h : SetK w b n M) (hb : Below w.heap.size w w') : SetK w' b n M := by
  obtain ⟨D, ⟨es, cl, hh, r⟩, hm, hat, hk⟩ := h
  exact ⟨D, ⟨es, cl, (hb.block b (Array.getElem?_eq_some_iff.1 hh).1).trans hh, r⟩, hm, hat, hk⟩

theorem _root_.Go.Proofs.Ytninglnchengeaa.SetI.keys_size {D : DataW Unit} {X : List Int} (h : SetI.KeysAre D X) : Maps.size D = X.length := by
  obtain ⟨es, rfl, _, hp⟩ := h
  have := hp.length_eq
  unfold Go.intKeys at this
  rw [List.length_map] at this
  exact this

theorem sorted_strict {ss M : List Int} (hp : ss.Perm M) (hn : M.Nodup) : (ss.mergeSort (fun x y => decide (x ≤ y))).Pairwise (· < ·) ∧ (∀ v, v ∈ ss.mergeSort (fun x y => decide (x ≤ y)) ↔ v ∈ M) ∧ (ss.mergeSort (fun x y => decide (x ≤ y))).length = ss.length := by
  have hperm : (ss.mergeSort (fun x y => decide (x ≤ y))).Perm M := (List.mergeSort_perm _ _).trans hp
  have h1 : (ss.mergeSort (fun x y => decide (x ≤ y))).Pairwise (fun x y => decide (x ≤ y) = true) :=
    List.pairwise_mergeSort (fun a b c h1 h2 => by simp only [decide_eq_true_eq] at *; omega) (fun a b => by simp only [Bool.or_eq_true, decide_eq_true_eq]; omega) ss
  have h2 : (ss.mergeSort (fun x y => decide (x ≤ y))).Nodup := hperm.nodup_iff.2 hn
  refine ⟨?_, fun v => hperm.mem_iff, by simp⟩
  refine (h1.and h2).imp ?_
  intro a b h
  simp only [decide_eq_true_eq] at h
  omega

theorem SetK.keep {w w' : World} {b n : Nat} {M : List Int} (h : SetK w b n M) {B : Nat} (hb : Below B w w') (hB : b < B) : SetK w' b n M := by
  obtain ⟨D, ⟨es, cl, hh, r⟩, hm, hat, hk⟩ := h
  exact ⟨D, ⟨es, cl, (hb.block b hB).trans hh, r⟩, hm, hat, hk⟩

theorem pop_last {T : List Int} (h : 0 < T.length) : ∃ T' t, T = T' ++ [t] ∧ T'.length + 1 = T.length := by
  refine ⟨T.dropLast, T.getLast (by intro e; rw [e] at h; simp at h), (List.dropLast_concat_getLast _).symm, ?_⟩
  rw [List.length_dropLast]
  omega

set_option maxRecDepth 8000 in
set_option maxHeartbeats 16000000 in
theorem cone_any (w : World) (x : Circ) (p : At) (hin : InCirc w x p) (hwa : WfT x.ands) (a : Option Addr) (c : Nat) (l : List Int) (hsl : Sl w a l.length c (ints l)) (hl : ∀ y ∈ l, I64 y) (hsz : (2 * l.length + 2 * x.ands.length + 2) * 8 ≤ 140737488355328) :
    Calls Try.prog 47 #[.agg (cells x p), .slice a l.length c] w fun e w' => ∃ a' c' vs, e = .returned (.slice a' vs.length c') ∧ w'.ownsRow w.heap.size 3 1 (.slice a' vs.length c') vs.length (ints vs) ∧ (vs.Pairwise (· < ·)) ∧ (∀ v, v ∈ vs ↔ v ≠ 0 ∧ Rch x.ands l v) ∧ Below w.heap.size w w' := by
  obtain ⟨W1, hW1⟩ : ∃ W1, w.alloc (.cells (cells x p) 27) = W1 := ⟨_, rfl⟩
  obtain ⟨hb1, hcb⟩ := cbox_new w x p W1 hW1
  obtain ⟨W2, hW2⟩ : ∃ W2, W1.alloc (.map #[] 0) = W2 := ⟨_, rfl⟩
  have hb2 : Below W1.heap.size W1 W2 := by rw [← hW2]; exact (Below.refl _ _).alloc (Nat.le_refl _) _
  have z2 : W2.heap.size = W1.heap.size + 1 := by rw [← hW2]; simp
  have hset : SetK W2 W1.heap.size 0 [] := by rw [← hW2]; exact ⟨.map [], World.ownsMap_made _ _ _ _, ⟨_, rfl⟩, fun x _ => by simp [DataW.atKey, SetI.inX], SetI.keys_nil⟩
  have CL := CloneI.clone W2 a l.length c (ints l) (hsl.next (hb1.trans (hb2.mono hb1.size))) (fun u hu => by unfold ints at hu; obtain ⟨y, _, rfl⟩ := List.mem_map.1 hu; rfl) (by omega)
  have HCL := Lib.hid CL
  have HB1 := Lib.hid hb1
  have HB2 := Lib.hid hb2
  have HZ2 := Lib.hid z2
  have HSET := Lib.hid hset
  have KB := Lib.hid (fun (U : World) (hU : Below W1.heap.size W1 U) => hcb.next hU (Nat.le_refl _))
  have HGA := fun (U : World) (hU : Below W1.heap.size W1 U) (v : Int) => gate_any U x p ((hin.next hb1).next hU) hwa v
  have HSZ := Lib.hid hsz
  have HWA := Lib.hid hwa
  have HL := Lib.hid hl
  obtain ⟨a1, c1, a2, c2, a3, c3, a4, c4, a5, c5, a6, c6, a7, c7⟩ := p
  simp only [cells] at hW1 HGA ⊢
  have HG := Lib.hid HGA
  have hmm := @run_makeMap Try.prog
  clear hin hwa hsl hl hsz hb1 hcb hb2 z2 hset CL HGA
  go_enter Try.func47, Try.ntmps47
  go_wp2_with fail
  with_reducible refine HCL.out.mono ?_
  rintro e w3 ⟨a3', c3', rfl, hown3, hb3⟩
  have hset3 := HSET.out.next hb3
  have hb13 := HB2.out.trans (hb3.mono HB2.out.size)
  have hz3 := hb3.size
  have HST : Hid (∃ (T M : List Int) (a' : Option Addr) (c' n : Nat), (.slice a3' l.length c3' : Value) = .slice a' n c' ∧ Hid (T.length = n) ∧ Hid (w3.ownsRow W2.heap.size 3 1 (.slice a' n c') n (ints T)) ∧ Hid (ConeInv x.ands l T M) ∧ Hid (SetK w3 W1.heap.size M.length M) ∧ Hid (∀ t ∈ T, I64 t) ∧ Hid (l.length + 3 * (l.length + 2 * x.ands.length) = T.length + 3 * (l.length + 2 * x.ands.length - M.length)) ∧ Hid (Below W1.heap.size W1 w3) ∧ Hid (W2.heap.size ≤ w3.heap.size)) :=
    ⟨l, [], a3', c3', l.length, rfl, rfl, hown3, cone_start _ _, hset3, HL.out, by show _ = _; simp, hb13, hz3⟩
  clear hW1 hW2 hmm HCL hset3 hb13 hz3 hown3 hb3
  go_wp2_with fail
  go_loopg [6] (l.length + 3 * (l.length + 2 * x.ands.length)) (fun gk s6 wr => ∃ (T M : List Int) (a' : Option Addr) (c' n : Nat), s6 = .slice a' n c' ∧ Hid (T.length = n) ∧ Hid (wr.ownsRow W2.heap.size 3 1 (.slice a' n c') n (ints T)) ∧ Hid (ConeInv x.ands l T M) ∧ Hid (SetK wr W1.heap.size M.length M) ∧ Hid (∀ t ∈ T, I64 t) ∧ Hid (gk = T.length + 3 * (l.length + 2 * x.ands.length - M.length)) ∧ Hid (Below W1.heap.size W1 wr) ∧ Hid (W2.heap.size ≤ wr.heap.size))
  case atStart => exact HST.out
  case round =>
    clear HST
    obtain ⟨T, M, a', c', n, rfl, hn, hown, hI, hS, h64, hgk, hB, hZ⟩ := hrel
    by_cases hpos : 0 < n
    · obtain ⟨T', t, hT, hlen⟩ := pop_last (T := T) (by have := hn.out; omega)
      obtain ⟨m, rfl⟩ : ∃ m, n = m + 1 := ⟨n - 1, by omega⟩
      have hm : T'.length = m := by have := hn.out; omega
      have HTM := Lib.hid hm
      subst hT
      obtain ⟨g, rfl, hgl, hgs⟩ := own_addr hown.out hpos
      have HPOP : Hid (wr.ownsRow W2.heap.size 3 1 (.slice (some ⟨g, 0, none⟩) m c') m (ints T')) := by
        have h := hown.out
        have e : ints (T' ++ [t]) = ints T' ++ [.int .i64 t] := by unfold ints; rw [List.map_append]; rfl
        rw [e] at h
        exact ownsRow_pop (by rw [ints_len, hm, Nat.mul_one]) h
      obtain ⟨a4, c4', hae, hsl⟩ := own_sl hown.out
      simp only [Value.slice.injEq, true_and] at hae
      obtain ⟨rfl, rfl⟩ := hae
      have HGK : Hid (gk = m + 1 + 3 * (l.length + 2 * x.ands.length - M.length)) := by
        have h := hgk.out
        rw [List.length_append, hm] at h
        exact h
      have H64' : Hid (∀ u ∈ T', I64 u) := fun u hu => h64.out u (List.mem_append_left _ hu)
      obtain ⟨b, o, hx, hae2, hbs, d0⟩ := hsl.int (show m < m + 1 by omega)
      simp only [Option.some.injEq, Addr.mk.injEq, and_true] at hae2
      obtain ⟨rfl, rfl⟩ := hae2
      have het : (T' ++ [t])[m] = t := by simp [← hm]
      rw [het, Nat.zero_add] at d0
      have hcap := hsl.cap
      have hbig := hsl.big
      have ht64 := h64.out t (by simp)
      have HV := Lib.hid (fun U => var_any t ht64.1 ht64.2 U)
      have hv64 : SetI.I64 (var t) := by have := ht64; unfold I64 at this; unfold SetI.I64 var; omega
      have HLK := SetI.set_look hS.out.set hv64
      clear hsl hx het hm
      generalize hgv : var t = v at *
      have HGV := Lib.hid hgv
      clear hgv hpos
      by_cases hv0 : v = 0
      · have hv0' : (v == 0) = true := by rw [hv0]; rfl
        have HVZ := Lib.hid hv0
        clear hv0
        go_wp2_with fail
        with_reducible refine (HV.out _).mono ?_
        rintro e w5 ⟨rfl, rfl⟩
        go_wp2_with fail
        go_roundg (m + 3 * (l.length + 2 * x.ands.length - M.length))
        case measure => have := HGK.out; omega
        case rel => exact ⟨T', M, _, c', m, rfl, HTM.out, HPOP.out, cone_skip hI.out (Or.inl (HGV.out.trans HVZ.out)), hS.out, H64'.out, by show _ = _; rw [HTM.out], hB.out, hZ.out⟩
      · have hv0' : (v == 0) = false := by simpa using hv0
        have HV0 := Lib.hid hv0
        clear hv0
        cases hin : SetI.inX M v
        · rw [hin] at HLK
          have HNM : Hid (v ∉ M) := fun hm => by
            have := SetI.inX_iff.2 hm
            rw [hin] at this
            cases this
          have HIN := Lib.hid hin
          clear hin
          obtain ⟨D, hown6, hD1, hD2, hD3⟩ := hS.out
          have hfew := cone_few hI.out
          have HFEW := Lib.hid hfew
          have HML : Hid (M.length < maxLen) := by show _ < _; have := HSZ.out; unfold maxLen; omega
          have HWF := Lib.hid (SetI.wf_lit hv64)
          go_upto_region 8 with ((first | (go_at_call 32; with_reducible refine (HV.out _).mono ?_; rintro e w5 ⟨rfl, rfl⟩) | (at_mapUpdate; refine wpList_mapUpdate_own _ rfl _ _ _ 39 rfl 3 4 SetI.law Try.underlying39 _ W1.heap.size M.length _ rfl hown6 HML.out _ _ _ rfl rfl (keyOf_int_mk Try.underlying3 HWF.out) _ [] (plainElem_bool Try.underlying4 true) ?_; intro w6 hmap6 hgrow6)))
          have hput := SetI.set_put hD1 hD2 v
          have hS6 : SetK w6 W1.heap.size (M.length + 1) (M ++ [v]) := ⟨_, hmap6, hput.1, hput.2, SetI.keys_put hD3 HNM.out _⟩
          have hgB : g ≠ W1.heap.size := by have := HZ2.out; omega
          have hown7 := HPOP.out.kept hgrow6 (Or.inr (by simpa [Value.ownBlock] using hgB))
          have hB6 := hB.out.grown hgrow6 hB.out.size (fun q hq => by cases hq; exact Nat.le_refl _)
          have HB6 := Lib.hid hB6
          have HS6 := Lib.hid hS6
          have HO6 := Lib.hid hown7
          have HZ6 := Lib.hid (Nat.le_trans hZ.out hgrow6.size)
          have CB := KB.out w6 hB6
          have HG6 := Lib.hid (HG.out w6 hB6 v)
          have HI := Lib.hid hI.out
          clear hput hS6 hown7 hB6 hgrow6 hmap6 hown6 hD1 hD2 hD3 HLK d0 hown hS
          have m0 : w6.cell? ⟨w.heap.size, 0, none⟩ = some (.int .i64 x.max) := CB.k0
          have m1 : w6.cell? ⟨w.heap.size, 1, none⟩ = some (.slice a1 x.ins.length c1) := CB.k1
          have m2 : w6.cell? ⟨w.heap.size, 2, none⟩ = some (.slice a2 x.lats.length c2) := CB.k2
          have m3 : w6.cell? ⟨w.heap.size, 3, none⟩ = some (.slice a3 x.outs.length c3) := CB.k3
          have m4 : w6.cell? ⟨w.heap.size, 4, none⟩ = some (.slice a4 x.bads.length c4) := CB.k4
          have m5 : w6.cell? ⟨w.heap.size, 5, none⟩ = some (.slice a5 x.invs.length c5) := CB.k5
          have m6 : w6.cell? ⟨w.heap.size, 6, none⟩ = some (.slice a6 x.ands.length c6) := CB.k6
          have m7 : w6.cell? ⟨w.heap.size, 7, none⟩ = some (.slice a7 x.names.length c7) := CB.k7
          clear CB
          cases hgt : gate x.ands v
          · rw [hgt] at HG6
            have HIN := Lib.hid (cone_meet_none HI.out (by rw [HGV.out]; exact HV0.out) (by rw [HGV.out]; exact HNM.out) (by rw [HGV.out]; exact hgt))
            have HG7 : Hid (Calls Try.prog 58 #[.agg #[.int .i64 x.max, .slice a1 x.ins.length c1, .slice a2 x.lats.length c2, .slice a3 x.outs.length c3, .slice a4 x.bads.length c4, .slice a5 x.invs.length c5, .slice a6 x.ands.length c6, .slice a7 x.names.length c7], .int .i64 v] w6 fun e w' => e = .returned (.tuple #[.agg #[.int .i64 0, .int .i64 0, .int .i64 0], .bool false]) ∧ Below w6.heap.size w6 w') := HG6.out
            clear HG6 hgt
            go_wp2_with fail
            with_reducible refine HG7.out.mono ?_
            rintro e w7 ⟨rfl, hb7⟩
            obtain ⟨W8, hW8⟩ : ∃ W8, w7.alloc (.cells #[.int .i64 0, .int .i64 0, .int .i64 0] 52) = W8 := ⟨_, rfl⟩
            obtain ⟨hb8, htb⟩ := tbox_new w7 (0, 0, 0) 52 W8 hW8
            have f0 : W8.frozen? ⟨w7.heap.size, 0, none⟩ = false := by rw [← hW8]; simp [go_sem]
            have f1 : W8.frozen? ⟨w7.heap.size, 1, none⟩ = false := by rw [← hW8]; simp [go_sem]
            have f2 : W8.frozen? ⟨w7.heap.size, 2, none⟩ = false := by rw [← hW8]; simp [go_sem]
            have s0 : W8.setCell ⟨w7.heap.size, 0, none⟩ (.int .i64 0) = W8 := setCell_same _ _ _ htb.t0
            have s1 : W8.setCell ⟨w7.heap.size, 1, none⟩ (.int .i64 0) = W8 := setCell_same _ _ _ htb.t1
            have s2 : W8.setCell ⟨w7.heap.size, 2, none⟩ (.int .i64 0) = W8 := setCell_same _ _ _ htb.t2
            have hb68 := hb7.trans (hb8.mono hb7.size)
            have HB68 := Lib.hid hb68
            have q0 : W8.cell? ⟨w7.heap.size, 0, none⟩ = some (.int .i64 0) := htb.t0
            have q1 : W8.cell? ⟨w7.heap.size, 1, none⟩ = some (.int .i64 0) := htb.t1
            have q2 : W8.cell? ⟨w7.heap.size, 2, none⟩ = some (.int .i64 0) := htb.t2
            clear hb7 hb8 htb hb68 m0 m1 m2 m3 m4 m5 m6 m7
            go_wp2_with fail
            go_roundg (m + 3 * (l.length + 2 * x.ands.length - (M.length + 1)))
            case measure => have := HGK.out; have := cone_few HIN.out; simp only [List.length_append, List.length_singleton] at this; omega
            case rel => exact ⟨T', M ++ [v], _, c', m, rfl, HTM.out, own_next HO6.out HB68.out, by have h := HIN.out; rw [HGV.out] at h; exact h, by show SetK _ _ (M ++ [v]).length _; rw [List.length_append]; exact HS6.out.next HB68.out, H64'.out, by show _ = _; rw [HTM.out, List.length_append]; rfl, HB6.out.trans (HB68.out.mono HB6.out.size), Nat.le_trans HZ6.out HB68.out.size⟩
          · rename_i gy
            obtain ⟨y0, y1, y2⟩ := gy
            rw [hgt] at HG6
            have HIN := Lib.hid (cone_meet_some HI.out (by rw [HGV.out]; exact HV0.out) (by rw [HGV.out]; exact HNM.out) (by rw [HGV.out]; exact hgt))
            have HY := Lib.hid (HWA.out _ (gate_mem hgt))
            have HG7 : Hid (Calls Try.prog 58 #[.agg #[.int .i64 x.max, .slice a1 x.ins.length c1, .slice a2 x.lats.length c2, .slice a3 x.outs.length c3, .slice a4 x.bads.length c4, .slice a5 x.invs.length c5, .slice a6 x.ands.length c6, .slice a7 x.names.length c7], .int .i64 v] w6 fun e w' => e = .returned (.tuple #[.agg #[.int .i64 y0, .int .i64 y1, .int .i64 y2], .bool true]) ∧ Below w6.heap.size w6 w') := HG6.out
            clear HG6 hgt
            go_wp2_with fail
            with_reducible refine HG7.out.mono ?_
            rintro e w7 ⟨rfl, hb7⟩
            obtain ⟨W8, hW8⟩ : ∃ W8, w7.alloc (.cells #[.int .i64 y0, .int .i64 y1, .int .i64 y2] 52) = W8 := ⟨_, rfl⟩
            obtain ⟨hb8, htb⟩ := tbox_new w7 (y0, y1, y2) 52 W8 hW8
            have hb68 := hb7.trans (hb8.mono hb7.size)
            have HB68 := Lib.hid hb68
            have q0 : W8.cell? ⟨w7.heap.size, 0, none⟩ = some (.int .i64 y0) := htb.t0
            have q1 : W8.cell? ⟨w7.heap.size, 1, none⟩ = some (.int .i64 y1) := htb.t1
            have q2 : W8.cell? ⟨w7.heap.size, 2, none⟩ = some (.int .i64 y2) := htb.t2
            clear hb7 hb8 htb hb68 m0 m1 m2 m3 m4 m5 m6 m7
            go_upto_region 10 with fail
            obtain ⟨W9, hW9⟩ : ∃ W9, W8.alloc (.cells #[.int .i64 y1, .int .i64 y2] 3) = W9 := ⟨_, rfl⟩
            have hb9 : Below W8.heap.size W8 W9 := by rw [← hW9]; exact (Below.refl _ _).alloc (Nat.le_refl _) _
            have hsl9 : Sl W9 (some ⟨W8.heap.size, 0, none⟩) 2 2 [.int .i64 y1, .int .i64 y2] := by rw [← hW9]; exact sl_new W8 _ _ 2 rfl (by omega)
            have hb69 := HB68.out.trans (hb9.mono HB68.out.size)
            have HO9 := Lib.hid (own_next HO6.out hb69)
            have HZ9 := Lib.hid (Nat.le_trans HZ6.out hb69.size)
            have HB69 := Lib.hid hb69
            have HSL9 := Lib.hid hsl9
            have HAN : Hid ((m + 2) * 8 ≤ 140737488355328) := by
              show _ ≤ _
              have h1 := HI.out.few
              have h2 := cone_few HIN.out
              have h3 := HSZ.out
              have h4 := HTM.out
              rw [List.length_append, h4] at h1
              rw [List.length_append] at h2
              simp only [List.length_singleton] at h1 h2
              omega
            clear hb9 hsl9 hb69
            go_wp2_with ((with_reducible refine wpL_app W2.heap.size (.slice (some ⟨g, 0, none⟩) m c') m (ints T') (some ⟨W8.heap.size, 0, none⟩) 2 2 [.int .i64 y1, .int .i64 y2] info_intC Try.underlying22 rfl ?_ ?_ ?_ HO9.out HSL9.out HZ9.out HAN.out ?_ (Below.refl _ W9) ?_); rfl; rfl; (intro u hu; simp only [List.mem_cons, List.not_mem_nil, or_false] at hu; rcases hu with rfl | rfl <;> rfl); (have := HAN.out; omega); (intro a10 c10 w10 hown10 hb10 hz10))
            have hb610 : Below W2.heap.size w6 w10 := (HB69.out.mono (by have := HZ6.out; omega)).trans hb10
            have hB10 : Below W1.heap.size W1 w10 := HB6.out.trans (hb610.mono (by have := HZ2.out; omega))
            have hS10 : SetK w10 W1.heap.size (M.length + 1) (M ++ [v]) := HS6.out.keep hb610 (by have := HZ2.out; omega)
            have h10 : ∀ u ∈ T' ++ [y1, y2], I64 u := fun u hu => by
              rw [List.mem_append] at hu
              rcases hu with hu | hu
              · exact H64'.out u hu
              · simp only [List.mem_cons, List.not_mem_nil, or_false] at hu
                rcases hu with rfl | rfl
                · exact HY.out.2.1
                · exact HY.out.2.2
            have hI10 : ConeInv x.ands l (T' ++ [y1, y2]) (M ++ [v]) := by have h := HIN.out; rw [HGV.out] at h; exact h
            have hO10 : w10.ownsRow W2.heap.size 3 1 (.slice a10 (m + 2) c10) (m + 2) (ints (T' ++ [y1, y2])) := by
              have e : ints (T' ++ [y1, y2]) = ints T' ++ [.int .i64 y1, .int .i64 y2] := by unfold ints; rw [List.map_append]; rfl
              rw [e]
              exact hown10
            have HZ10 := Lib.hid (Nat.le_trans HZ9.out hz10)
            have HB10 := Lib.hid hB10
            have HS10 := Lib.hid hS10
            have H10 := Lib.hid h10
            have HI10 := Lib.hid hI10
            have HO10 := Lib.hid hO10
            clear hb610 hB10 hS10 h10 hI10 hO10 hown10 hb10 hz10 q0 q1 q2
            go_wp2_with fail
            go_roundg (m + 2 + 3 * (l.length + 2 * x.ands.length - (M.length + 1)))
            case measure => have := HGK.out; have := cone_few HI10.out; simp only [List.length_append, List.length_singleton] at this; omega
            case rel => exact ⟨T' ++ [y1, y2], M ++ [v], a10, c10, m + 2, rfl, by show (_ : List Int).length = _; rw [List.length_append, HTM.out]; rfl, HO10.out, HI10.out, by show SetK _ _ (M ++ [v]).length _; rw [List.length_append]; exact HS10.out, H10.out, by show _ = _; rw [List.length_append, List.length_append, HTM.out]; rfl, HB10.out, HZ10.out⟩
        · rw [hin] at HLK
          have HMEM := Lib.hid (SetI.inX_iff.1 hin)
          clear hin
          go_wp2_with fail
          with_reducible refine (HV.out _).mono ?_
          rintro e w5 ⟨rfl, rfl⟩
          go_wp2_with fail
          go_roundg (m + 3 * (l.length + 2 * x.ands.length - M.length))
          case measure => have := HGK.out; omega
          case rel => exact ⟨T', M, _, c', m, rfl, HTM.out, HPOP.out, cone_skip hI.out (Or.inr (by rw [HGV.out]; exact HMEM.out)), hS.out, H64'.out, by show _ = _; rw [HTM.out], hB.out, hZ.out⟩
    · have hn0 : n = 0 := by omega
      subst hn0
      have hT : T = [] := List.eq_nil_of_length_eq_zero hn.out
      subst hT
      obtain ⟨D, hown6, hD1, hD2, hD3⟩ := hS.out
      have hfew := cone_few hI.out
      have hds := SetI.keys_size hD3
      have HKS := Lib.hid (fun (U : World) => SortedK.keys_any (some W1.heap.size) U)
      have HSS := Lib.hid (SortedK.sorted_any W1.heap.size M.length D (plainElem Try.prog 4) wr hown6 (by rw [hds]; have := HSZ.out; unfold maxLen; omega) (by rw [hds]; have := HSZ.out; omega))
      have HD3 := Lib.hid hD3
      clear hfew hds hown6 hD1 hD2 hD3
      go_wp2_with fail
      with_reducible refine (HKS.out _).mono ?_
      rintro e w5 ⟨rfl, rfl⟩
      go_wp2_with fail
      with_reducible refine HSS.out.mono ?_
      rintro e w6 ⟨v, ss, rfl, hperm, hrow, hnil, hb⟩
      obtain ⟨a9, c9, rfl, _⟩ := own_sl hrow
      have HROW := Lib.hid hrow
      have HBB := Lib.hid hb
      clear hrow hb hnil
      go_wp2_with fail
      go_ret
      have hpm : (intKeys D).Perm M := by obtain ⟨es, rfl, _, h⟩ := HD3.out; exact h
      obtain ⟨hs1, hs2, hs3⟩ := sorted_strict (hperm.trans hpm) hI.out.nodup
      refine ⟨a9, c9, ss.mergeSort (fun x y => decide (x ≤ y)), by rw [hs3]; rfl, ?_, hs1, fun v => (hs2 v).trans (cone_end hI.out v), ?_⟩
      · rw [hs3]
        exact own_mono HROW.out (by have h1 := hB.out.size; have h2 := HB1.out.size; omega)
      · exact (HB1.out.trans (hB.out.mono HB1.out.size)).trans (HBB.out.mono (by have h1 := hB.out.size; have h2 := HB1.out.size; omega))
end Circuit
end Go.Proofs.Ytninglnchengeaa
