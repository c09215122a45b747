/-
  interlockref03.Check: may a circuit be, the page's way?
-/
import Derived.Test.YtjmmhbmbafjneaaGreatDoorRefNames
import Derived.Lib.AppendZeros
import Derived.BigQuiet
namespace Go.Proofs.YtjmmhbmbafjneaaGreatDoor
open Go.RowKit Base
set_option linter.unusedVariables false
set_option linter.unusedSimpArgs false
namespace Circuit

theorem info_int : (Tryz.prog.info? 3).map (fun i => (i.zero, i.size, i.bytes)) = some (some (.int .i64 0), 1, 8) := by kernel_rfl

theorem grown_alC {w w1 : World} {o : Obj} {ob : Option Nat} (h : (w.alloc o).grownBy w1 ob) : w.grownBy w1 ob := by
  have ha : Below w.heap.size w (w.alloc o) := (Below.refl _ _).alloc (Nat.le_refl _) _
  exact ⟨h.os.trans ha.os, h.tape.trans ha.tape, h.output.trans ha.output, Nat.le_trans ha.size h.size, fun k hk hne => (h.block k (Nat.lt_of_lt_of_le hk ha.size) hne).trans (ha.block k hk)⟩

/-- append of one value: what it leaves. -/
theorem wpL_pushC {P : Program} {w : World} {ops : Array Oper} {rest : List Oper} {dst : Option Tmp} {ty : TypeId} {pos : String} {af : Array Edge} {a : Act} {Q : Exit → Act → World → Prop}
    {s x : Operand} {t e : TypeId} {z : Value} {bytes : Nat} (B : Nat) (w0 : World) (u : Value) (v : Value) (n : Nat) (vs : List Value)
    (hinfo : (P.info? e).map (fun i => (i.zero, i.size, i.bytes)) = some (some z, 1, bytes)) (ht : P.underlying t = some (.slice e)) (hzs : z.cells.size = 1)
    (hw : w = w0.alloc (.cells #[u] e)) (hs : a.eval s = v) (hx : a.eval x = .slice (some ⟨w0.heap.size, 0, none⟩) 1 1) (hu : u.oneCell' = true)
    (hown : w0.ownsRow B e 1 v n vs) (hB : B ≤ w0.heap.size) (hn : (n + 1) * bytes ≤ 140737488355328) (hn' : n + 1 ≤ 9223372036854775807)
    (hK : ∀ a' c w1, w1.ownsRow B e 1 (.slice a' (n + 1) c) (n + 1) (vs ++ [u]) → w0.grownBy w1 v.ownBlock → wpList P ops Q rest (a.put dst (.slice a' (n + 1) c)) w1) :
    wpList P ops Q (⟨dst, .call { callee := .builtin .append, args := #[s, x], argTypes := #[t, t] }, ty, pos, af, none⟩ :: rest) a w := by
  obtain ⟨i, hi, hz0, hz1, hz2⟩ := info_parts hinfo
  subst hw
  obtain ⟨v', w1, hr, hown', hgrow, _, hob⟩ := run_append_own_at (P := P) (w0.alloc (.cells #[u] e)) B t ty e i z 1 bytes ht hi hz0 hz1 hz2 hzs (by decide) v n vs (hown.alloc _) ⟨w0.heap.size, 0, none⟩ 1 1 [u] rfl
    (cell_one_new _ _ _) (by intro q hq; simp at hq; subst hq; exact hu) (by unfold maxLen; omega) hn (by simp; omega)
  obtain ⟨a', c, rfl, _⟩ := own_sl hown'
  refine Lib.wpList_append_run _ rfl _ _ _ _ rfl _ _ hs hx _ _ hr ?_
  exact hK a' c w1 hown' (grown_alC hgrow)

theorem TBox.far2 {N : Nat} {row : Option Nat} {t : Tri} {w w' : World} (h : TBox N t w) (hg : w.grownBy w' row) (hne : some N ≠ row) : TBox N t w' := by
  have e : ∀ j, w'.cell? ⟨N, j, none⟩ = w.cell? ⟨N, j, none⟩ := fun j => cell_far hg ⟨N, j, none⟩ h.lt hne
  exact ⟨Nat.lt_of_lt_of_le h.lt hg.size, (e 0).trans h.t0, (e 1).trans h.t1, (e 2).trans h.t2⟩

theorem ints_one (l : List Int) : ∀ u ∈ ints l, u.oneCell' = true := fun u hu => by
  unfold ints at hu
  obtain ⟨y, _, rfl⟩ := List.mem_map.1 hu
  rfl

def LatR (x : Circ) (t : Tri) : Prop := (t.2.2 = 0 ∨ t.2.2 = 1 ∨ t.2.2 = t.1) ∧ KnR x t.2.1
def AndR (x : Circ) (t : Tri) : Prop := t.2.1 < t.1 ∧ t.2.2 < t.1 ∧ KnR x t.2.1 ∧ KnR x t.2.2
def ROwn (x : Circ) (i : Nat) : Prop := ∀ h : i < (ownL x).length, 2 ≤ (ownL x)[i] ∧ (ownL x)[i] % 2 ≠ 1 ∧ (ownL x)[i] ≤ 2 * x.max ∧ ¬ (ownL x)[i] ∈ (ownL x).take i

/-- A circuit may be, the page's way. -/
def RefOk (x : Circ) : Prop :=
  0 ≤ x.max ∧ x.max ≤ 2048 ∧ x.ins.length ≤ 64 ∧ x.lats.length ≤ 64 ∧ NamesR x x.names.length ∧ (∀ t ∈ x.lats, LatR x t) ∧ (∀ t ∈ x.ands, AndR x t) ∧ Rises x x.ands.length ∧ (∀ i, ROwn x i) ∧ AllR x x.outs ∧ AllR x x.bads ∧ AllR x x.invs

noncomputable def refchk (x : Circ) : Int := if tt (RefOk x) = true then 0 else 9
theorem refchk_pos {x : Circ} (h : RefOk x) : refchk x = 0 := by unfold refchk; rw [tt_pos h]; rfl
theorem refchk_neg {x : Circ} (h : ¬ RefOk x) : refchk x = 9 := by unfold refchk; rw [tt_neg h]; rfl

def ownP (x : Circ) (k : Nat) : List Int := (ownL x).take k
theorem ownP_more {x : Circ} {k : Nat} {l : Int} (h : (ownL x)[k]? = some l) : ints (ownP x k) ++ [.int .i64 l] = ints (ownP x (k + 1)) := by
  obtain ⟨hk, rfl⟩ := List.getElem?_eq_some_iff.1 h
  unfold ownP ints
  rw [List.take_succ_eq_append_getElem hk, List.map_append]
  rfl
theorem ownP_ins (x : Circ) : ownP x x.ins.length = x.ins := by
  unfold ownP ownL
  rw [List.append_assoc, List.take_left]

structure AH (N M b off : Nat) (x : Circ) (p : At) (t : Tri) (pv : Int) (wq w' : World) : Prop where
  below : Below wq.heap.size wq w'
  cb : CBox N x p w'
  tb : TBox M t w'
  pl : b < w'.heap.size
  pc : w'.cell? ⟨b, off, none⟩ = some (.int .i64 pv)
abbrev AAll (N M b off : Nat) (x : Circ) (p : At) (t : Tri) (pv : Int) (wq w' : World) : Prop :=
  AH N M b off x p t pv wq w' ∧ w'.cell? ⟨N, 0, none⟩ = some (.int .i64 x.max) ∧ w'.cell? ⟨N, 1, none⟩ = some (.slice p.a1 x.ins.length p.c1) ∧ w'.cell? ⟨N, 2, none⟩ = some (.slice p.a2 x.lats.length p.c2) ∧ w'.cell? ⟨N, 3, none⟩ = some (.slice p.a3 x.outs.length p.c3) ∧ w'.cell? ⟨N, 4, none⟩ = some (.slice p.a4 x.bads.length p.c4) ∧ w'.cell? ⟨N, 5, none⟩ = some (.slice p.a5 x.invs.length p.c5) ∧ w'.cell? ⟨N, 6, none⟩ = some (.slice p.a6 x.ands.length p.c6) ∧ w'.cell? ⟨N, 7, none⟩ = some (.slice p.a7 x.names.length p.c7) ∧ w'.cell? ⟨M, 0, none⟩ = some (.int .i64 t.1) ∧ w'.cell? ⟨M, 1, none⟩ = some (.int .i64 t.2.1) ∧ w'.cell? ⟨M, 2, none⟩ = some (.int .i64 t.2.2) ∧ w'.cell? ⟨b, off, none⟩ = some (.int .i64 pv)
theorem ah_all {N M b off : Nat} {x : Circ} {p : At} {t : Tri} {pv : Int} {wq w' : World} (h : AH N M b off x p t pv wq w') : AAll N M b off x p t pv wq w' := ⟨h, h.cb.k0, h.cb.k1, h.cb.k2, h.cb.k3, h.cb.k4, h.cb.k5, h.cb.k6, h.cb.k7, h.tb.t0, h.tb.t1, h.tb.t2, h.pc⟩
theorem ah_in {N M b off : Nat} {x : Circ} {p : At} {t : Tri} {pv : Int} {wq w' : World} (h : AAll N M b off x p t pv wq w') : AH N M b off x p t pv wq w' := h.1
theorem AH.more {N M b off : Nat} {x : Circ} {p : At} {t : Tri} {pv : Int} {wq w1 w2 : World} (h : AH N M b off x p t pv wq w1) (hb : Below w1.heap.size w1 w2) : AH N M b off x p t pv wq w2 :=
  ⟨h.below.trans (hb.mono h.below.size), h.cb.next hb (Nat.le_refl _), h.tb.next hb (Nat.le_refl _), Nat.lt_of_lt_of_le h.pl hb.size, (hb.cell (p := ⟨b, off, none⟩) h.pl).trans h.pc⟩

set_option maxRecDepth 8000 in
set_option maxHeartbeats 40000000 in
theorem refCheck_any (w : World) (x : Circ) (p : At) (hin : InCirc w x p) (hw : WfC x) (hza : x.ands.length * 24 ≤ 140737488355328) :
    Calls Tryz.prog 12 #[.agg (cells x p)] w fun e w' => e = .returned (.int .i64 (refchk x)) ∧ Below w.heap.size w w' := by
  obtain ⟨W1, hW1⟩ : ∃ W1, w.alloc (.cells (cells x p) 27) = W1 := ⟨_, rfl⟩
  obtain ⟨hb1, hcb⟩ := cbox_new w x p W1 hW1
  have HB1 := Lib.hid hb1
  have KB := Lib.hid (fun (U : World) (hU : Below W1.heap.size W1 U) => hcb.next hU (Nat.le_refl _))
  have HIN := Lib.hid (fun (U : World) (hU : Below W1.heap.size W1 U) => (hin.next hb1).next hU)
  have HNM := refNames_any W1 x p (hin.next hb1) hw
  have HKN := fun (U : World) (hU : Below W1.heap.size W1 U) (l : Int) (hl : I64 l) => refKnown_any U x p ((hin.next hb1).next hU) hw l hl
  have HAL := fun (U : World) (hU : Below W1.heap.size W1 U) (a : Option Addr) (c : Nat) (l : List Int) (hs : Sl U a l.length c (ints l)) (hl : ∀ y ∈ l, I64 y) => refAll_any U x p ((hin.next hb1).next hU) hw a c l hs hl
  have HW := Lib.hid hw
  have HZA := Lib.hid hza
  obtain ⟨a1, c1, a2, c2, a3, c3, a4, c4, a5, c5, a6, c6, a7, c7⟩ := p
  simp only [cells] at hW1 HNM HKN HAL ⊢
  have k0 : W1.cell? ⟨w.heap.size, 0, none⟩ = some (.int .i64 x.max) := hcb.k0
  have k1 : W1.cell? ⟨w.heap.size, 1, none⟩ = some (.slice a1 x.ins.length c1) := hcb.k1
  have k2 : W1.cell? ⟨w.heap.size, 2, none⟩ = some (.slice a2 x.lats.length c2) := hcb.k2
  have k3 : W1.cell? ⟨w.heap.size, 3, none⟩ = some (.slice a3 x.outs.length c3) := hcb.k3
  have k4 : W1.cell? ⟨w.heap.size, 4, none⟩ = some (.slice a4 x.bads.length c4) := hcb.k4
  have k5 : W1.cell? ⟨w.heap.size, 5, none⟩ = some (.slice a5 x.invs.length c5) := hcb.k5
  have k6 : W1.cell? ⟨w.heap.size, 6, none⟩ = some (.slice a6 x.ands.length c6) := hcb.k6
  have k7 : W1.cell? ⟨w.heap.size, 7, none⟩ = some (.slice a7 x.names.length c7) := hcb.k7
  have HN := Lib.hid HNM
  have HK := Lib.hid HKN
  have HA := Lib.hid HAL
  clear hin hw hza hb1 hcb HNM HKN HAL
  by_cases q0 : 0 ≤ x.max
  · have hd0 : decide (x.max < 0) = false := decide_eq_false (by omega)
    by_cases q1 : x.max ≤ 2048
    · have hd1 : decide ((2048 : Int) < x.max) = false := decide_eq_false (by omega)
      by_cases q2 : x.ins.length ≤ 64
      · have hd2 : decide ((64 : Int) < x.ins.length) = false := decide_eq_false (by omega)
        by_cases q3 : x.lats.length ≤ 64
        · have hd3 : decide ((64 : Int) < x.lats.length) = false := decide_eq_false (by omega)
          by_cases q4 : NamesR x x.names.length
          · rw [tt_pos q4] at HN
            have HQ : Hid (0 ≤ x.max ∧ x.max ≤ 2048 ∧ x.ins.length ≤ 64 ∧ x.lats.length ≤ 64 ∧ NamesR x x.names.length) := ⟨q0, q1, q2, q3, q4⟩
            clear q4
            go_enter Tryz.func12, Tryz.ntmps12
            go_wp2_with fail
            with_reducible refine HN.out.mono ?_
            rintro e w3 ⟨rfl, hb3⟩
            have HB3 := Lib.hid hb3
            have j1 : w3.cell? ⟨w.heap.size, 1, none⟩ = some (.slice a1 x.ins.length c1) := (KB.out w3 hb3).k1
            have HSI := Lib.hid (HIN.out w3 hb3).ins
            have HZ3 := Lib.hid hb3.size
            clear hb3 k0 k1 k2 k3 k4 k5 k6 k7 hW1 q0 q1 hd0 hd1 hd2 hd3
            go_wp2_with ((with_reducible refine wpL_app0 a1 x.ins.length c1 (ints x.ins) info_int Tryz.underlying22 ?_ ?_ ?_ ?_ HSI.out ?_ ?_ ?_); rfl; rfl; rfl; (exact ints_one _); omega; omega; (intro a9 c9 w4 hown4 hb4))
            clear j1 HSI q2 q3 HN
            have hown : w4.ownsRow w3.heap.size 3 1 (.slice a9 (x.ins.length + 0) c9) (x.ins.length + 0) (ints (ownP x (x.ins.length + 0))) := by rw [Nat.add_zero, ownP_ins]; exact hown4
            have HB34 := Lib.hid hb4
            have HQI : Hid (x.ins.length ≤ 64 ∧ x.lats.length ≤ 64) := ⟨HQ.out.2.2.1, HQ.out.2.2.2.1⟩
            clear hown4 hb4
            go_loopw [3, 4] (fun s3 s wr => ∃ k : Nat, k ≤ x.lats.length ∧ s = .int .i64 k ∧ (∃ a c, s3 = .slice a (x.ins.length + k) c ∧ wr.ownsRow w3.heap.size 3 1 (.slice a (x.ins.length + k) c) (x.ins.length + k) (ints (ownP x (x.ins.length + k)))) ∧ Hid (∀ j (h : j < x.lats.length), j < k → LatR x x.lats[j]) ∧ Hid (Below w3.heap.size w3 wr)) (fun _ s _ => x.lats.length - (intOf s).toNat)
            case atStart => exact ⟨0, Nat.zero_le _, rfl, ⟨a9, c9, rfl, hown⟩, (fun j _ h => by omega), HB34.out⟩
            case round =>
              clear hown
              obtain ⟨k, hk, rfl, ⟨a8, c8, rfl, hown⟩, hI, hB⟩ := hrel
              have hbW := HB3.out.trans (hB.out.mono HZ3.out)
              have HBW := Lib.hid hbW
              have j2 : wr.cell? ⟨w.heap.size, 2, none⟩ = some (.slice a2 x.lats.length c2) := (KB.out wr hbW).k2
              have hsl := (HIN.out wr hbW).lats
              have hcl := hsl.cap
              have hgl := hsl.big
              simp only at hcl hgl
              by_cases hlt : k < x.lats.length
              · obtain ⟨b, o, hx, hae, hbs, d0, d1, d2⟩ := hsl.tri hlt
                simp only at hae
                subst hae
                have hl64 := HW.out.lats _ (List.getElem_mem hx)
                have HOW := Lib.hid (ownP_more (own_lats x hlt))
                have HRM : Hid (LatR x x.lats[k] → ∀ j (h : j < x.lats.length), j < k + 1 → LatR x x.lats[j]) := fun h j hj hjk => by
                  by_cases he : j = k
                  · subst he; exact h
                  · exact hI.out j hj (by omega)
                have HRN : Hid (RefOk x → LatR x x.lats[k]) := fun h => h.2.2.2.2.2.1 _ (List.getElem_mem hx)
                generalize x.lats[k] = t at *
                obtain ⟨U, hU⟩ : ∃ U, wr.alloc (.cells (triC t) 71) = U := ⟨_, rfl⟩
                obtain ⟨hbU, htb⟩ := tbox_new wr t 71 U hU
                have hownU := own_next hown hbU
                have hsu : w3.heap.size ≤ U.heap.size := Nat.le_trans hB.out.size hbU.size
                have hbt : (x.ins.length + k + 1) * 8 ≤ 140737488355328 := by have := HQI.out; omega
                have hbt2 : x.ins.length + k + 1 ≤ 9223372036854775807 := by have := HQI.out; omega
                have t0 := htb.t0
                have HTB := Lib.hid htb
                have HBU := Lib.hid (hB.out.trans (hbU.mono hB.out.size))
                have hlo := hown.lt
                simp only [triC] at hU
                clear htb hbU hI hB hbW hsl
                go_upto_region 10 with ((with_reducible refine wpL_pushC (B := w3.heap.size) U (.int .i64 t.1) _ (x.ins.length + k) (ints (ownP x (x.ins.length + k))) info_int Tryz.underlying22 ?_ ?_ ?_ ?_ ?_ hownU ?_ ?_ ?_ ?_); rfl; rfl; rfl; rfl; rfl; (exact hsu); (exact hbt); (exact hbt2); (intro a7' c7' w6 hown6 hg6))
                have hT6 : TBox wr.heap.size t w6 := HTB.out.far2 hg6 (fun e => by have := hlo _ e.symm; omega)
                have hb6 : Below w3.heap.size w3 w6 := HBU.out.grown hg6 hsu (fun q hq => (hlo q hq).1)
                rw [HOW.out] at hown6
                have HB6 := Lib.hid hb6
                have HBX := HB3.out.trans (hb6.mono HZ3.out)
                have HX6 := Lib.hid HBX
                have HK6 := Lib.hid (HK.out w6 HBX t.2.1 hl64.2.1)
                have CB := KB.out w6 HBX
                have e0 := hT6.t0
                have e1 := hT6.t1
                have e2 := hT6.t2
                have m0 : w6.cell? ⟨w.heap.size, 0, none⟩ = some (.int .i64 x.max) := CB.k0
                have m1 : w6.cell? ⟨w.heap.size, 1, none⟩ = some (.slice a1 x.ins.length c1) := CB.k1
                have m2 : w6.cell? ⟨w.heap.size, 2, none⟩ = some (.slice (some ⟨b, o, none⟩) x.lats.length c2) := CB.k2
                have m3 : w6.cell? ⟨w.heap.size, 3, none⟩ = some (.slice a3 x.outs.length c3) := CB.k3
                have m4 : w6.cell? ⟨w.heap.size, 4, none⟩ = some (.slice a4 x.bads.length c4) := CB.k4
                have m5 : w6.cell? ⟨w.heap.size, 5, none⟩ = some (.slice a5 x.invs.length c5) := CB.k5
                have m6 : w6.cell? ⟨w.heap.size, 6, none⟩ = some (.slice a6 x.ands.length c6) := CB.k6
                have m7 : w6.cell? ⟨w.heap.size, 7, none⟩ = some (.slice a7 x.names.length c7) := CB.k7
                clear hT6 hb6 HBX CB hg6 hlo hsu hbt hbt2 t0 j2 d0 d1 d2 hU hownU hown hl64 hbs
                by_cases r0 : t.2.2 = 0
                · have hr0 : (t.2.2 != 0) = false := by rw [r0]; rfl
                  by_cases qk : KnR x t.2.1
                  · rw [tt_pos qk] at HK6
                    have HR := Lib.hid (HRM.out ⟨Or.inl r0, qk⟩)
                    clear qk HRM HRN
                    go_wp2_with fail
                    with_reducible refine HK6.out.mono ?_
                    rintro e w7 ⟨rfl, hb7⟩
                    have hown7 := own_next hown6 hb7
                    have HB7 := Lib.hid (HB6.out.trans (hb7.mono HB6.out.size))
                    clear hb7 m0 m1 m2 m3 m4 m5 m6 m7 e0 e1 e2 hown6
                    go_wp2_with fail
                    go_roundw
                    case rel => exact ⟨k + 1, by omega, by go_num, ⟨a7', c7', rfl, hown7⟩, HR.out, HB7.out⟩
                    case measure => simp [intOf]; omega
                  · rw [tt_neg qk] at HK6
                    have HR : Hid (refchk x = 9) := refchk_neg (fun h => qk (HRN.out h).2)
                    clear qk HRM HRN
                    go_wp2_with fail
                    with_reducible refine HK6.out.mono ?_
                    rintro e w7 ⟨rfl, hb7⟩
                    have HX7 := Lib.hid (HB1.out.trans ((HX6.out.trans (hb7.mono HX6.out.size)).mono HB1.out.size))
                    clear hb7 m0 m1 m2 m3 m4 m5 m6 m7 e0 e1 e2 hown6
                    go_wp2_with fail
                    go_ret
                    exact ⟨ret_int HR.out.symm, HX7.out⟩
                · have hr0 : (t.2.2 != 0) = true := by simpa using r0
                  by_cases r1 : t.2.2 = 1
                  · have hr1 : (t.2.2 != 1) = false := by rw [r1]; rfl
                    by_cases qk : KnR x t.2.1
                    · rw [tt_pos qk] at HK6
                      have HR := Lib.hid (HRM.out ⟨Or.inr (Or.inl r1), qk⟩)
                      clear qk HRM HRN
                      go_wp2_with fail
                      with_reducible refine HK6.out.mono ?_
                      rintro e w7 ⟨rfl, hb7⟩
                      have hown7 := own_next hown6 hb7
                      have HB7 := Lib.hid (HB6.out.trans (hb7.mono HB6.out.size))
                      clear hb7 m0 m1 m2 m3 m4 m5 m6 m7 e0 e1 e2 hown6
                      go_wp2_with fail
                      go_roundw
                      case rel => exact ⟨k + 1, by omega, by go_num, ⟨a7', c7', rfl, hown7⟩, HR.out, HB7.out⟩
                      case measure => simp [intOf]; omega
                    · rw [tt_neg qk] at HK6
                      have HR : Hid (refchk x = 9) := refchk_neg (fun h => qk (HRN.out h).2)
                      clear qk HRM HRN
                      go_wp2_with fail
                      with_reducible refine HK6.out.mono ?_
                      rintro e w7 ⟨rfl, hb7⟩
                      have HX7 := Lib.hid (HB1.out.trans ((HX6.out.trans (hb7.mono HX6.out.size)).mono HB1.out.size))
                      clear hb7 m0 m1 m2 m3 m4 m5 m6 m7 e0 e1 e2 hown6
                      go_wp2_with fail
                      go_ret
                      exact ⟨ret_int HR.out.symm, HX7.out⟩
                  · have hr1 : (t.2.2 != 1) = true := by simpa using r1
                    by_cases r2 : t.2.2 = t.1
                    · have hr2 : (t.2.2 != t.1) = false := by rw [r2]; simp
                      by_cases qk : KnR x t.2.1
                      · rw [tt_pos qk] at HK6
                        have HR := Lib.hid (HRM.out ⟨Or.inr (Or.inr r2), qk⟩)
                        clear qk HRM HRN
                        go_wp2_with fail
                        with_reducible refine HK6.out.mono ?_
                        rintro e w7 ⟨rfl, hb7⟩
                        have hown7 := own_next hown6 hb7
                        have HB7 := Lib.hid (HB6.out.trans (hb7.mono HB6.out.size))
                        clear hb7 m0 m1 m2 m3 m4 m5 m6 m7 e0 e1 e2 hown6
                        go_wp2_with fail
                        go_roundw
                        case rel => exact ⟨k + 1, by omega, by go_num, ⟨a7', c7', rfl, hown7⟩, HR.out, HB7.out⟩
                        case measure => simp [intOf]; omega
                      · rw [tt_neg qk] at HK6
                        have HR : Hid (refchk x = 9) := refchk_neg (fun h => qk (HRN.out h).2)
                        clear qk HRM HRN
                        go_wp2_with fail
                        with_reducible refine HK6.out.mono ?_
                        rintro e w7 ⟨rfl, hb7⟩
                        have HX7 := Lib.hid (HB1.out.trans ((HX6.out.trans (hb7.mono HX6.out.size)).mono HB1.out.size))
                        clear hb7 m0 m1 m2 m3 m4 m5 m6 m7 e0 e1 e2 hown6
                        go_wp2_with fail
                        go_ret
                        exact ⟨ret_int HR.out.symm, HX7.out⟩
                    · have hr2 : (t.2.2 != t.1) = true := by simpa using r2
                      have HR : Hid (refchk x = 9) := refchk_neg (fun h => by
                        rcases (HRN.out h).1 with h | h | h
                        · exact r0 h
                        · exact r1 h
                        · exact r2 h)
                      have HX7 := Lib.hid (HB1.out.trans (HX6.out.mono HB1.out.size))
                      clear HRM HRN m0 m1 m2 m3 m4 m5 m6 m7 hown6
                      go_wp2_with fail
                      go_ret
                      exact ⟨ret_int HR.out.symm, HX7.out⟩
              · have hke : k = x.lats.length := by omega
                have HLT : Hid (∀ t ∈ x.lats, LatR x t) := fun t ht => by
                  obtain ⟨j, hj, rfl⟩ := List.mem_iff_getElem.1 ht
                  exact hI.out j hj (by omega)
                have HBL := Lib.hid hB.out
                have hownL : wr.ownsRow w3.heap.size 3 1 (.slice a8 (x.ins.length + x.lats.length + 0) c8) (x.ins.length + x.lats.length + 0) (ints (ownP x (x.ins.length + x.lats.length + 0))) := by rw [Nat.add_zero, ← hke]; exact hown
                have HA8 : Hid ((.slice a8 (x.ins.length + k) c8 : Value) = .slice a8 (x.ins.length + x.lats.length + 0) c8) := by show _ = _; rw [hke, Nat.add_zero]
                have j6 : wr.cell? ⟨w.heap.size, 6, none⟩ = some (.slice a6 x.ands.length c6) := (KB.out wr hbW).k6
                clear hI hB hbW hsl hcl hgl hown
                rw [HA8.out]
                go_wp2_with fail
                clear j2 j6
                go_loopw [3, 6] (fun s3 s wr => ∃ k : Nat, k ≤ x.ands.length ∧ s = .int .i64 k ∧ (∃ a c, s3 = .slice a (x.ins.length + x.lats.length + k) c ∧ wr.ownsRow w3.heap.size 3 1 (.slice a (x.ins.length + x.lats.length + k) c) (x.ins.length + x.lats.length + k) (ints (ownP x (x.ins.length + x.lats.length + k)))) ∧ Hid (∀ j (h : j < x.ands.length), j < k → AndR x x.ands[j]) ∧ Hid (Rises x k) ∧ Hid (Below w3.heap.size w3 wr)) (fun _ s _ => x.ands.length - (intOf s).toNat)
                case atStart => exact ⟨0, Nat.zero_le _, rfl, ⟨a8, c8, rfl, hownL⟩, (fun j _ h => by omega), (fun j _ h => by omega), HBL.out⟩
                case round =>
                  clear hownL HBL HA8 hke hlt hk
                  obtain ⟨k, hk, rfl, ⟨a8, c8, rfl, hown⟩, hI, hRi, hB⟩ := hrel
                  have hbW := HB3.out.trans (hB.out.mono HZ3.out)
                  have HBW := Lib.hid hbW
                  have j6 : wr.cell? ⟨w.heap.size, 6, none⟩ = some (.slice a6 x.ands.length c6) := (KB.out wr hbW).k6
                  have hsl := (HIN.out W1 (Below.refl _ _)).ands
                  have hca := hsl.cap
                  have hga := hsl.big
                  simp only at hca hga
                  by_cases hlt : k < x.ands.length
                  · obtain ⟨b, o, hx, hae, hbs, hc0, hc1, hc2⟩ := hsl.tri hlt
                    simp only at hae
                    subst hae
                    have d0 := (hbW.cell (p := ⟨b, o + k * 3, none⟩) hbs).trans hc0
                    have d1 := (hbW.cell (p := ⟨b, o + k * 3 + 1, none⟩) hbs).trans hc1
                    have d2 := (hbW.cell (p := ⟨b, o + k * 3 + 2, none⟩) hbs).trans hc2
                    have hl64 := HW.out.ands _ (List.getElem_mem hx)
                    have HOW := Lib.hid (ownP_more (own_ands x hlt))
                    have HRM : Hid (AndR x x.ands[k] → ∀ j (h : j < x.ands.length), j < k + 1 → AndR x x.ands[j]) := fun h j hj hjk => by
                      by_cases he : j = k
                      · subst he; exact h
                      · exact hI.out j hj (by omega)
                    have HRN : Hid (RefOk x → AndR x x.ands[k]) := fun h => h.2.2.2.2.2.2.1 _ (List.getElem_mem hx)
                    have HRJ : Hid ((∀ m (hm : m < x.ands.length), k = m + 1 → x.ands[m].1 < x.ands[k].1) → Rises x (k + 1)) := fun h r hr hri => by
                      by_cases he : r + 1 = k
                      · have := h r (by omega) he.symm
                        simp only [he]
                        exact this
                      · exact hRi.out r hr (by omega)
                    have HRO : Hid (RefOk x → ∀ m (hm : m < x.ands.length), k = m + 1 → x.ands[m].1 < x.ands[k].1) := fun h m hm he => by
                      have := h.2.2.2.2.2.2.2.1 m (by omega) (by omega)
                      simp only [← he] at this
                      exact this
                    have hprev : ∀ m (hm : m < x.ands.length), W1.cell? ⟨b, o + m * 3, none⟩ = some (.int .i64 x.ands[m].1) := fun m hm => by
                      obtain ⟨b', o', hm', hae, _, h0, _, _⟩ := hsl.tri hm
                      simp only [Option.some.injEq, Addr.mk.injEq, and_true] at hae
                      obtain ⟨rfl, rfl⟩ := hae
                      exact h0
                    have HPV := Lib.hid hprev
                    have HC0 := Lib.hid hc0
                    clear hprev hc0 hc1 hc2
                    generalize x.ands[k] = t at *
                    obtain ⟨U, hU⟩ : ∃ U, wr.alloc (.cells (triC t) 74) = U := ⟨_, rfl⟩
                    obtain ⟨hbU, htb⟩ := tbox_new wr t 74 U hU
                    have hownU := own_next hown hbU
                    have hsu : w3.heap.size ≤ U.heap.size := Nat.le_trans hB.out.size hbU.size
                    have hbt : (x.ins.length + x.lats.length + k + 1) * 8 ≤ 140737488355328 := by have := HQI.out; have := HZA.out; omega
                    have hbt2 : x.ins.length + x.lats.length + k + 1 ≤ 9223372036854775807 := by have := HQI.out; have := HZA.out; omega
                    have t0 := htb.t0
                    have HTB := Lib.hid htb
                    have HBU := Lib.hid (hB.out.trans (hbU.mono hB.out.size))
                    have hlo := hown.lt
                    simp only [triC] at hU
                    clear htb hbU hI hRi hB hbW hsl
                    go_upto_region 17 with ((with_reducible refine wpL_pushC (B := w3.heap.size) U (.int .i64 t.1) _ (x.ins.length + x.lats.length + k) (ints (ownP x (x.ins.length + x.lats.length + k))) info_int Tryz.underlying22 ?_ ?_ ?_ ?_ ?_ hownU ?_ ?_ ?_ ?_); rfl; rfl; rfl; rfl; rfl; (exact hsu); (exact hbt); (exact hbt2); (intro a7' c7' w6 hown6 hg6))
                    have hT6 : TBox wr.heap.size t w6 := HTB.out.far2 hg6 (fun e => by have := hlo _ e.symm; omega)
                    have hb6 : Below w3.heap.size w3 w6 := HBU.out.grown hg6 hsu (fun q hq => (hlo q hq).1)
                    rw [HOW.out] at hown6
                    have HB6 := Lib.hid hb6
                    have HX6 := Lib.hid (HB3.out.trans (hb6.mono HZ3.out))
                    have HY6 := Lib.hid (HB1.out.trans (HX6.out.mono HB1.out.size))
                    have CB := KB.out w6 HX6.out
                    clear hb6 hg6 hlo hsu hbt hbt2 t0 j6 d0 d1 d2 hU hownU hown
                    rcases Nat.eq_zero_or_pos k with hk0 | hkp
                    · have HRI := Lib.hid (HRJ.out (fun m _ he => by omega))
                      have hd0 : decide ((0 : Int) < (k : Int)) = false := decide_eq_false (by omega)
                      have hpc : w6.cell? ⟨b, o + k * 3, none⟩ = some (.int .i64 t.1) := (HX6.out.cell (p := ⟨b, o + k * 3, none⟩) hbs).trans HC0.out
                      clear HRJ HRO HPV
                      have FI : Hid (AAll w.heap.size wr.heap.size b (o + k * 3) x (⟨a1, c1, a2, c2, a3, c3, a4, c4, a5, c5, some ⟨b, o, none⟩, c6, a7, c7⟩ : At) t t.1 w6 w6.drew) := ah_all ⟨(Below.refl _ _).drew, CB.next (Below.refl _ _).drew (Nat.le_refl _), hT6.next (Below.refl _ _).drew (Nat.le_refl _), Nat.lt_of_lt_of_le hbs HX6.out.size, hpc⟩
                      have LKL := fun (X : World) (hX : AAll w.heap.size wr.heap.size b (o + k * 3) x (⟨a1, c1, a2, c2, a3, c3, a4, c4, a5, c5, some ⟨b, o, none⟩, c6, a7, c7⟩ : At) t t.1 w6 X) => (HK.out X (HX6.out.trans ((ah_in hX).below.mono HX6.out.size)) t.2.1 hl64.2.1).mono fun e w' h => (⟨h.1, ah_all ((ah_in hX).more h.2)⟩ : e = .returned (.bool (tt (KnR x t.2.1))) ∧ AAll w.heap.size wr.heap.size b (o + k * 3) x (⟨a1, c1, a2, c2, a3, c3, a4, c4, a5, c5, some ⟨b, o, none⟩, c6, a7, c7⟩ : At) t t.1 w6 w')
                      have LKR := fun (X : World) (hX : AAll w.heap.size wr.heap.size b (o + k * 3) x (⟨a1, c1, a2, c2, a3, c3, a4, c4, a5, c5, some ⟨b, o, none⟩, c6, a7, c7⟩ : At) t t.1 w6 X) => (HK.out X (HX6.out.trans ((ah_in hX).below.mono HX6.out.size)) t.2.2 hl64.2.2).mono fun e w' h => (⟨h.1, ah_all ((ah_in hX).more h.2)⟩ : e = .returned (.bool (tt (KnR x t.2.2))) ∧ AAll w.heap.size wr.heap.size b (o + k * 3) x (⟨a1, c1, a2, c2, a3, c3, a4, c4, a5, c5, some ⟨b, o, none⟩, c6, a7, c7⟩ : At) t t.1 w6 w')
                      have e0 := hT6.t0
                      have e1 := hT6.t1
                      have e2 := hT6.t2
                      have m6 : w6.cell? ⟨w.heap.size, 6, none⟩ = some (.slice (some ⟨b, o, none⟩) x.ands.length c6) := CB.k6
                      clear CB hT6 hl64 hbs
                      by_cases c1 : t.2.1 < t.1
                      · have hc1 : decide (t.1 ≤ t.2.1) = false := decide_eq_false (by omega)
                        by_cases c2 : t.2.2 < t.1
                        · have hc2 : decide (t.1 ≤ t.2.2) = false := decide_eq_false (by omega)
                          by_cases c3 : KnR x t.2.1
                          · rw [tt_pos c3] at LKL
                            by_cases c4 : KnR x t.2.2
                            · rw [tt_pos c4] at LKR
                              have HR := Lib.hid (HRM.out ⟨c1, c2, c3, c4⟩)
                              have H1 := Lib.hid LKL
                              have H2 := Lib.hid LKR
                              clear HRM HRN c1 c2 c3 c4 LKL LKR e0 e1 e2 m6 hpc
                              refine Lex.region (fun w' => AAll w.heap.size wr.heap.size b (o + k * 3) x (⟨a1, c1, a2, c2, a3, c3, a4, c4, a5, c5, some ⟨b, o, none⟩, c6, a7, c7⟩ : At) t t.1 w6 w') (by kernel_rfl) (by kernel_rfl) FI.out ?_
                              (refine Lex.step_val (v := ?_) ?_ (fun w' hSw => ?_) ?_; rotate_left; (focus rfl); (focus (clear hSw; go_simp; (try with_reducible rfl); done)); (try simp only [Act.put, List.setIfInBounds_toArray, List.set_cons_zero, List.set_cons_succ]))
                              (refine Lex.step_val (v := ?_) ?_ (fun w' hSw => ?_) ?_; rotate_left; (focus rfl); (focus (clear hSw; go_simp; (try with_reducible rfl); done)); (try simp only [Act.put, List.setIfInBounds_toArray, List.set_cons_zero, List.set_cons_succ]))
                              (refine Lex.step_val (v := ?_) ?_ (fun w' hSw => ?_) ?_; rotate_left; (focus rfl); (focus (clear hSw; go_simp; (try with_reducible rfl); done)); (try simp only [Act.put, List.setIfInBounds_toArray, List.set_cons_zero, List.set_cons_succ]))
                              (refine Lex.step_off ?_ ?_; (focus (first | (go_simp; done) | (simp [Region.wanted, yielded, undef]; done) | rfl)); (try simp only [Act.put, List.setIfInBounds_toArray, List.set_cons_zero, List.set_cons_succ]))
                              (refine Lex.step_off ?_ ?_; (focus (first | (go_simp; done) | (simp [Region.wanted, yielded, undef]; done) | rfl)); (try simp only [Act.put, List.setIfInBounds_toArray, List.set_cons_zero, List.set_cons_succ]))
                              (refine Lex.step_off ?_ ?_; (focus (first | (go_simp; done) | (simp [Region.wanted, yielded, undef]; done) | rfl)); (try simp only [Act.put, List.setIfInBounds_toArray, List.set_cons_zero, List.set_cons_succ]))
                              (refine Lex.step_off ?_ ?_; (focus (first | (go_simp; done) | (simp [Region.wanted, yielded, undef]; done) | rfl)); (try simp only [Act.put, List.setIfInBounds_toArray, List.set_cons_zero, List.set_cons_succ]))
                              (refine Lex.step_off ?_ ?_; (focus (first | (go_simp; done) | (simp [Region.wanted, yielded, undef]; done) | rfl)); (try simp only [Act.put, List.setIfInBounds_toArray, List.set_cons_zero, List.set_cons_succ]))
                              (refine Lex.step_off ?_ ?_; (focus (first | (go_simp; done) | (simp [Region.wanted, yielded, undef]; done) | rfl)); (try simp only [Act.put, List.setIfInBounds_toArray, List.set_cons_zero, List.set_cons_succ]))
                              (refine Lex.step_off ?_ ?_; (focus (first | (go_simp; done) | (simp [Region.wanted, yielded, undef]; done) | rfl)); (try simp only [Act.put, List.setIfInBounds_toArray, List.set_cons_zero, List.set_cons_succ]))
                              (refine Lex.step_off ?_ ?_; (focus (first | (go_simp; done) | (simp [Region.wanted, yielded, undef]; done) | rfl)); (try simp only [Act.put, List.setIfInBounds_toArray, List.set_cons_zero, List.set_cons_succ]))
                              (refine Lex.step_off ?_ ?_; (focus (first | (go_simp; done) | (simp [Region.wanted, yielded, undef]; done) | rfl)); (try simp only [Act.put, List.setIfInBounds_toArray, List.set_cons_zero, List.set_cons_succ]))
                              (refine Lex.step_off ?_ ?_; (focus (first | (go_simp; done) | (simp [Region.wanted, yielded, undef]; done) | rfl)); (try simp only [Act.put, List.setIfInBounds_toArray, List.set_cons_zero, List.set_cons_succ]))
                              (refine Lex.step_val (v := ?_) ?_ (fun w' hSw => ?_) ?_; rotate_left; (focus rfl); (focus (clear hSw; go_simp; (try with_reducible rfl); done)); (try simp only [Act.put, List.setIfInBounds_toArray, List.set_cons_zero, List.set_cons_succ]))
                              (refine Lex.step_val (v := ?_) ?_ (fun w' hSw => ?_) ?_; rotate_left; (focus rfl); (focus (clear hSw; go_simp; (try with_reducible rfl); done)); (try simp only [Act.put, List.setIfInBounds_toArray, List.set_cons_zero, List.set_cons_succ]))
                              (refine Lex.step_val (v := ?_) ?_ (fun w' hSw => ?_) ?_; rotate_left; (focus (go_simp; done)); (focus (clear hSw; go_simp; (try with_reducible rfl); done)); (try simp only [Act.put, List.setIfInBounds_toArray, List.set_cons_zero, List.set_cons_succ]))
                              (refine Lex.step_val (v := ?_) ?_ (fun w' hSw => ?_) ?_; rotate_left; (focus (go_simp; done)); (focus ((try dsimp only at hSw); go_simp; (try with_reducible rfl); done)); (try simp only [Act.put, List.setIfInBounds_toArray, List.set_cons_zero, List.set_cons_succ]))
                              (refine Lex.step_val (v := ?_) ?_ (fun w' hSw => ?_) ?_; rotate_left; (focus (go_simp; done)); (focus (clear hSw; go_simp; (try with_reducible rfl); done)); (try simp only [Act.put, List.setIfInBounds_toArray, List.set_cons_zero, List.set_cons_succ]))
                              (refine Lex.step_val (v := ?_) ?_ (fun w' hSw => ?_) ?_; rotate_left; (focus (go_simp; done)); (focus ((try dsimp only at hSw); go_simp; (try with_reducible rfl); done)); (try simp only [Act.put, List.setIfInBounds_toArray, List.set_cons_zero, List.set_cons_succ]))
                              (refine Lex.step_val (v := ?_) ?_ (fun w' hSw => ?_) ?_; rotate_left; (focus (go_simp; done)); (focus (clear hSw; go_simp; (try with_reducible rfl); done)); (try simp only [Act.put, List.setIfInBounds_toArray, List.set_cons_zero, List.set_cons_succ]))
                              (refine Lex.step_val (v := ?_) ?_ (fun w' hSw => ?_) ?_; rotate_left; (focus rfl); (focus (clear hSw; go_simp; (try with_reducible rfl); done)); (try simp only [Act.put, List.setIfInBounds_toArray, List.set_cons_zero, List.set_cons_succ]))
                              (refine Lex.step_val (v := ?_) ?_ (fun w' hSw => ?_) ?_; rotate_left; (focus rfl); (focus (clear hSw; go_simp; (try with_reducible rfl); done)); (try simp only [Act.put, List.setIfInBounds_toArray, List.set_cons_zero, List.set_cons_succ]))
                              (refine Lex.step_val (v := ?_) ?_ (fun w' hSw => ?_) ?_; rotate_left; (focus (go_simp; done)); (focus (clear hSw; go_simp; (try with_reducible rfl); done)); (try simp only [Act.put, List.setIfInBounds_toArray, List.set_cons_zero, List.set_cons_succ]))
                              (refine Lex.step_val (v := ?_) ?_ (fun w' hSw => ?_) ?_; rotate_left; (focus (go_simp; done)); (focus ((try dsimp only at hSw); go_simp; (try with_reducible rfl); done)); (try simp only [Act.put, List.setIfInBounds_toArray, List.set_cons_zero, List.set_cons_succ]))
                              (refine Lex.step_val (v := ?_) ?_ (fun w' hSw => ?_) ?_; rotate_left; (focus (go_simp; done)); (focus (clear hSw; go_simp; (try with_reducible rfl); done)); (try simp only [Act.put, List.setIfInBounds_toArray, List.set_cons_zero, List.set_cons_succ]))
                              (refine Lex.step_val (v := ?_) ?_ (fun w' hSw => ?_) ?_; rotate_left; (focus (go_simp; done)); (focus ((try dsimp only at hSw); go_simp; (try with_reducible rfl); done)); (try simp only [Act.put, List.setIfInBounds_toArray, List.set_cons_zero, List.set_cons_succ]))
                              (refine Lex.step_val (v := ?_) ?_ (fun w' hSw => ?_) ?_; rotate_left; (focus (go_simp; done)); (focus (clear hSw; go_simp; (try with_reducible rfl); done)); (try simp only [Act.put, List.setIfInBounds_toArray, List.set_cons_zero, List.set_cons_succ]))
                              (refine Lex.step_val (v := ?_) ?_ (fun w' hSw => ?_) ?_; rotate_left; (focus rfl); (focus (clear hSw; go_simp; (try with_reducible rfl); done)); (try simp only [Act.put, List.setIfInBounds_toArray, List.set_cons_zero, List.set_cons_succ]))
                              (refine Lex.step_val (v := ?_) ?_ (fun w' hSw => ?_) ?_; rotate_left; (focus rfl); (focus (clear hSw; go_simp; (try with_reducible rfl); done)); (try simp only [Act.put, List.setIfInBounds_toArray, List.set_cons_zero, List.set_cons_succ]))
                              (refine Lex.step_val (v := ?_) ?_ (fun w' hSw => ?_) ?_; rotate_left; (focus (go_simp; done)); (focus ((try dsimp only at hSw); go_simp; (try with_reducible rfl); done)); (try simp only [Act.put, List.setIfInBounds_toArray, List.set_cons_zero, List.set_cons_succ]))
                              (refine Lex.step_val (v := ?_) ?_ (fun w' hSw => ?_) ?_; rotate_left; (focus (go_simp; done)); (focus (clear hSw; go_simp; (try with_reducible rfl); done)); (try simp only [Act.put, List.setIfInBounds_toArray, List.set_cons_zero, List.set_cons_succ]))
                              (refine Lex.step_val (v := ?_) ?_ (fun w' hSw => ?_) ?_; rotate_left; (focus (go_simp; done)); (focus ((try dsimp only at hSw); go_simp; (try with_reducible rfl); done)); (try simp only [Act.put, List.setIfInBounds_toArray, List.set_cons_zero, List.set_cons_succ]))
                              (refine Lex.step_call (v := ?_) (f := ?_) (args := ?_) ?_ (fun w' hSw => ?_) ?_ ?_; rotate_left 3; (focus (go_simp; done)); (focus (clear hSw; go_simp; (refine And.intro ?_ ?_ <;> with_reducible rfl); done)); (focus (first | with_reducible exact H1.out | with_reducible exact H2.out)); (try simp only [Act.put, List.setIfInBounds_toArray, List.set_cons_zero, List.set_cons_succ]))
                              (refine Lex.step_val (v := ?_) ?_ (fun w' hSw => ?_) ?_; rotate_left; (focus (go_simp; done)); (focus (clear hSw; go_simp; (try with_reducible rfl); done)); (try simp only [Act.put, List.setIfInBounds_toArray, List.set_cons_zero, List.set_cons_succ]))
                              (refine Lex.step_val (v := ?_) ?_ (fun w' hSw => ?_) ?_; rotate_left; (focus rfl); (focus (clear hSw; go_simp; (try with_reducible rfl); done)); (try simp only [Act.put, List.setIfInBounds_toArray, List.set_cons_zero, List.set_cons_succ]))
                              (refine Lex.step_val (v := ?_) ?_ (fun w' hSw => ?_) ?_; rotate_left; (focus rfl); (focus (clear hSw; go_simp; (try with_reducible rfl); done)); (try simp only [Act.put, List.setIfInBounds_toArray, List.set_cons_zero, List.set_cons_succ]))
                              (refine Lex.step_val (v := ?_) ?_ (fun w' hSw => ?_) ?_; rotate_left; (focus (go_simp; done)); (focus ((try dsimp only at hSw); go_simp; (try with_reducible rfl); done)); (try simp only [Act.put, List.setIfInBounds_toArray, List.set_cons_zero, List.set_cons_succ]))
                              (refine Lex.step_val (v := ?_) ?_ (fun w' hSw => ?_) ?_; rotate_left; (focus (go_simp; done)); (focus (clear hSw; go_simp; (try with_reducible rfl); done)); (try simp only [Act.put, List.setIfInBounds_toArray, List.set_cons_zero, List.set_cons_succ]))
                              (refine Lex.step_val (v := ?_) ?_ (fun w' hSw => ?_) ?_; rotate_left; (focus (go_simp; done)); (focus ((try dsimp only at hSw); go_simp; (try with_reducible rfl); done)); (try simp only [Act.put, List.setIfInBounds_toArray, List.set_cons_zero, List.set_cons_succ]))
                              (refine Lex.step_call (v := ?_) (f := ?_) (args := ?_) ?_ (fun w' hSw => ?_) ?_ ?_; rotate_left 3; (focus (go_simp; done)); (focus (clear hSw; go_simp; (refine And.intro ?_ ?_ <;> with_reducible rfl); done)); (focus (first | with_reducible exact H1.out | with_reducible exact H2.out)); (try simp only [Act.put, List.setIfInBounds_toArray, List.set_cons_zero, List.set_cons_succ]))
                              (refine Lex.step_val (v := ?_) ?_ (fun w' hSw => ?_) ?_; rotate_left; (focus (go_simp; done)); (focus (clear hSw; go_simp; (try with_reducible rfl); done)); (try simp only [Act.put, List.setIfInBounds_toArray, List.set_cons_zero, List.set_cons_succ]))
                              (refine Lex.step_val (v := ?_) ?_ (fun w' hSw => ?_) ?_; rotate_left; (focus rfl); (focus (clear hSw; go_simp; (try with_reducible rfl); done)); (try simp only [Act.put, List.setIfInBounds_toArray, List.set_cons_zero, List.set_cons_succ]))
                              refine Lex.step_nil ?_
                              intro wz hz
                              have hown7 := own_next hown6 (ah_in hz).below
                              have HB7 := Lib.hid (HB6.out.trans ((ah_in hz).below.mono HB6.out.size))
                              clear hown6
                              go_wp2_with fail
                              go_roundw
                              case rel => exact ⟨k + 1, by omega, by go_num, ⟨a7', c7', rfl, hown7⟩, HR.out, HRI.out, HB7.out⟩
                              case measure => simp [intOf]; omega
                            · rw [tt_neg c4] at LKR
                              have HR : Hid (refchk x = 9) := refchk_neg (fun h => c4 (HRN.out h).2.2.2)
                              have H1 := Lib.hid LKL
                              have H2 := Lib.hid LKR
                              clear HRM HRN c1 c2 c3 c4 LKL LKR e0 e1 e2 m6 hpc
                              refine Lex.region (fun w' => AAll w.heap.size wr.heap.size b (o + k * 3) x (⟨a1, c1, a2, c2, a3, c3, a4, c4, a5, c5, some ⟨b, o, none⟩, c6, a7, c7⟩ : At) t t.1 w6 w') (by kernel_rfl) (by kernel_rfl) FI.out ?_
                              (refine Lex.step_val (v := ?_) ?_ (fun w' hSw => ?_) ?_; rotate_left; (focus rfl); (focus (clear hSw; go_simp; (try with_reducible rfl); done)); (try simp only [Act.put, List.setIfInBounds_toArray, List.set_cons_zero, List.set_cons_succ]))
                              (refine Lex.step_val (v := ?_) ?_ (fun w' hSw => ?_) ?_; rotate_left; (focus rfl); (focus (clear hSw; go_simp; (try with_reducible rfl); done)); (try simp only [Act.put, List.setIfInBounds_toArray, List.set_cons_zero, List.set_cons_succ]))
                              (refine Lex.step_val (v := ?_) ?_ (fun w' hSw => ?_) ?_; rotate_left; (focus rfl); (focus (clear hSw; go_simp; (try with_reducible rfl); done)); (try simp only [Act.put, List.setIfInBounds_toArray, List.set_cons_zero, List.set_cons_succ]))
                              (refine Lex.step_off ?_ ?_; (focus (first | (go_simp; done) | (simp [Region.wanted, yielded, undef]; done) | rfl)); (try simp only [Act.put, List.setIfInBounds_toArray, List.set_cons_zero, List.set_cons_succ]))
                              (refine Lex.step_off ?_ ?_; (focus (first | (go_simp; done) | (simp [Region.wanted, yielded, undef]; done) | rfl)); (try simp only [Act.put, List.setIfInBounds_toArray, List.set_cons_zero, List.set_cons_succ]))
                              (refine Lex.step_off ?_ ?_; (focus (first | (go_simp; done) | (simp [Region.wanted, yielded, undef]; done) | rfl)); (try simp only [Act.put, List.setIfInBounds_toArray, List.set_cons_zero, List.set_cons_succ]))
                              (refine Lex.step_off ?_ ?_; (focus (first | (go_simp; done) | (simp [Region.wanted, yielded, undef]; done) | rfl)); (try simp only [Act.put, List.setIfInBounds_toArray, List.set_cons_zero, List.set_cons_succ]))
                              (refine Lex.step_off ?_ ?_; (focus (first | (go_simp; done) | (simp [Region.wanted, yielded, undef]; done) | rfl)); (try simp only [Act.put, List.setIfInBounds_toArray, List.set_cons_zero, List.set_cons_succ]))
                              (refine Lex.step_off ?_ ?_; (focus (first | (go_simp; done) | (simp [Region.wanted, yielded, undef]; done) | rfl)); (try simp only [Act.put, List.setIfInBounds_toArray, List.set_cons_zero, List.set_cons_succ]))
                              (refine Lex.step_off ?_ ?_; (focus (first | (go_simp; done) | (simp [Region.wanted, yielded, undef]; done) | rfl)); (try simp only [Act.put, List.setIfInBounds_toArray, List.set_cons_zero, List.set_cons_succ]))
                              (refine Lex.step_off ?_ ?_; (focus (first | (go_simp; done) | (simp [Region.wanted, yielded, undef]; done) | rfl)); (try simp only [Act.put, List.setIfInBounds_toArray, List.set_cons_zero, List.set_cons_succ]))
                              (refine Lex.step_off ?_ ?_; (focus (first | (go_simp; done) | (simp [Region.wanted, yielded, undef]; done) | rfl)); (try simp only [Act.put, List.setIfInBounds_toArray, List.set_cons_zero, List.set_cons_succ]))
                              (refine Lex.step_off ?_ ?_; (focus (first | (go_simp; done) | (simp [Region.wanted, yielded, undef]; done) | rfl)); (try simp only [Act.put, List.setIfInBounds_toArray, List.set_cons_zero, List.set_cons_succ]))
                              (refine Lex.step_val (v := ?_) ?_ (fun w' hSw => ?_) ?_; rotate_left; (focus rfl); (focus (clear hSw; go_simp; (try with_reducible rfl); done)); (try simp only [Act.put, List.setIfInBounds_toArray, List.set_cons_zero, List.set_cons_succ]))
                              (refine Lex.step_val (v := ?_) ?_ (fun w' hSw => ?_) ?_; rotate_left; (focus rfl); (focus (clear hSw; go_simp; (try with_reducible rfl); done)); (try simp only [Act.put, List.setIfInBounds_toArray, List.set_cons_zero, List.set_cons_succ]))
                              (refine Lex.step_val (v := ?_) ?_ (fun w' hSw => ?_) ?_; rotate_left; (focus (go_simp; done)); (focus (clear hSw; go_simp; (try with_reducible rfl); done)); (try simp only [Act.put, List.setIfInBounds_toArray, List.set_cons_zero, List.set_cons_succ]))
                              (refine Lex.step_val (v := ?_) ?_ (fun w' hSw => ?_) ?_; rotate_left; (focus (go_simp; done)); (focus ((try dsimp only at hSw); go_simp; (try with_reducible rfl); done)); (try simp only [Act.put, List.setIfInBounds_toArray, List.set_cons_zero, List.set_cons_succ]))
                              (refine Lex.step_val (v := ?_) ?_ (fun w' hSw => ?_) ?_; rotate_left; (focus (go_simp; done)); (focus (clear hSw; go_simp; (try with_reducible rfl); done)); (try simp only [Act.put, List.setIfInBounds_toArray, List.set_cons_zero, List.set_cons_succ]))
                              (refine Lex.step_val (v := ?_) ?_ (fun w' hSw => ?_) ?_; rotate_left; (focus (go_simp; done)); (focus ((try dsimp only at hSw); go_simp; (try with_reducible rfl); done)); (try simp only [Act.put, List.setIfInBounds_toArray, List.set_cons_zero, List.set_cons_succ]))
                              (refine Lex.step_val (v := ?_) ?_ (fun w' hSw => ?_) ?_; rotate_left; (focus (go_simp; done)); (focus (clear hSw; go_simp; (try with_reducible rfl); done)); (try simp only [Act.put, List.setIfInBounds_toArray, List.set_cons_zero, List.set_cons_succ]))
                              (refine Lex.step_val (v := ?_) ?_ (fun w' hSw => ?_) ?_; rotate_left; (focus rfl); (focus (clear hSw; go_simp; (try with_reducible rfl); done)); (try simp only [Act.put, List.setIfInBounds_toArray, List.set_cons_zero, List.set_cons_succ]))
                              (refine Lex.step_val (v := ?_) ?_ (fun w' hSw => ?_) ?_; rotate_left; (focus rfl); (focus (clear hSw; go_simp; (try with_reducible rfl); done)); (try simp only [Act.put, List.setIfInBounds_toArray, List.set_cons_zero, List.set_cons_succ]))
                              (refine Lex.step_val (v := ?_) ?_ (fun w' hSw => ?_) ?_; rotate_left; (focus (go_simp; done)); (focus (clear hSw; go_simp; (try with_reducible rfl); done)); (try simp only [Act.put, List.setIfInBounds_toArray, List.set_cons_zero, List.set_cons_succ]))
                              (refine Lex.step_val (v := ?_) ?_ (fun w' hSw => ?_) ?_; rotate_left; (focus (go_simp; done)); (focus ((try dsimp only at hSw); go_simp; (try with_reducible rfl); done)); (try simp only [Act.put, List.setIfInBounds_toArray, List.set_cons_zero, List.set_cons_succ]))
                              (refine Lex.step_val (v := ?_) ?_ (fun w' hSw => ?_) ?_; rotate_left; (focus (go_simp; done)); (focus (clear hSw; go_simp; (try with_reducible rfl); done)); (try simp only [Act.put, List.setIfInBounds_toArray, List.set_cons_zero, List.set_cons_succ]))
                              (refine Lex.step_val (v := ?_) ?_ (fun w' hSw => ?_) ?_; rotate_left; (focus (go_simp; done)); (focus ((try dsimp only at hSw); go_simp; (try with_reducible rfl); done)); (try simp only [Act.put, List.setIfInBounds_toArray, List.set_cons_zero, List.set_cons_succ]))
                              (refine Lex.step_val (v := ?_) ?_ (fun w' hSw => ?_) ?_; rotate_left; (focus (go_simp; done)); (focus (clear hSw; go_simp; (try with_reducible rfl); done)); (try simp only [Act.put, List.setIfInBounds_toArray, List.set_cons_zero, List.set_cons_succ]))
                              (refine Lex.step_val (v := ?_) ?_ (fun w' hSw => ?_) ?_; rotate_left; (focus rfl); (focus (clear hSw; go_simp; (try with_reducible rfl); done)); (try simp only [Act.put, List.setIfInBounds_toArray, List.set_cons_zero, List.set_cons_succ]))
                              (refine Lex.step_val (v := ?_) ?_ (fun w' hSw => ?_) ?_; rotate_left; (focus rfl); (focus (clear hSw; go_simp; (try with_reducible rfl); done)); (try simp only [Act.put, List.setIfInBounds_toArray, List.set_cons_zero, List.set_cons_succ]))
                              (refine Lex.step_val (v := ?_) ?_ (fun w' hSw => ?_) ?_; rotate_left; (focus (go_simp; done)); (focus ((try dsimp only at hSw); go_simp; (try with_reducible rfl); done)); (try simp only [Act.put, List.setIfInBounds_toArray, List.set_cons_zero, List.set_cons_succ]))
                              (refine Lex.step_val (v := ?_) ?_ (fun w' hSw => ?_) ?_; rotate_left; (focus (go_simp; done)); (focus (clear hSw; go_simp; (try with_reducible rfl); done)); (try simp only [Act.put, List.setIfInBounds_toArray, List.set_cons_zero, List.set_cons_succ]))
                              (refine Lex.step_val (v := ?_) ?_ (fun w' hSw => ?_) ?_; rotate_left; (focus (go_simp; done)); (focus ((try dsimp only at hSw); go_simp; (try with_reducible rfl); done)); (try simp only [Act.put, List.setIfInBounds_toArray, List.set_cons_zero, List.set_cons_succ]))
                              (refine Lex.step_call (v := ?_) (f := ?_) (args := ?_) ?_ (fun w' hSw => ?_) ?_ ?_; rotate_left 3; (focus (go_simp; done)); (focus (clear hSw; go_simp; (refine And.intro ?_ ?_ <;> with_reducible rfl); done)); (focus (first | with_reducible exact H1.out | with_reducible exact H2.out)); (try simp only [Act.put, List.setIfInBounds_toArray, List.set_cons_zero, List.set_cons_succ]))
                              (refine Lex.step_val (v := ?_) ?_ (fun w' hSw => ?_) ?_; rotate_left; (focus (go_simp; done)); (focus (clear hSw; go_simp; (try with_reducible rfl); done)); (try simp only [Act.put, List.setIfInBounds_toArray, List.set_cons_zero, List.set_cons_succ]))
                              (refine Lex.step_val (v := ?_) ?_ (fun w' hSw => ?_) ?_; rotate_left; (focus rfl); (focus (clear hSw; go_simp; (try with_reducible rfl); done)); (try simp only [Act.put, List.setIfInBounds_toArray, List.set_cons_zero, List.set_cons_succ]))
                              (refine Lex.step_val (v := ?_) ?_ (fun w' hSw => ?_) ?_; rotate_left; (focus rfl); (focus (clear hSw; go_simp; (try with_reducible rfl); done)); (try simp only [Act.put, List.setIfInBounds_toArray, List.set_cons_zero, List.set_cons_succ]))
                              (refine Lex.step_val (v := ?_) ?_ (fun w' hSw => ?_) ?_; rotate_left; (focus (go_simp; done)); (focus ((try dsimp only at hSw); go_simp; (try with_reducible rfl); done)); (try simp only [Act.put, List.setIfInBounds_toArray, List.set_cons_zero, List.set_cons_succ]))
                              (refine Lex.step_val (v := ?_) ?_ (fun w' hSw => ?_) ?_; rotate_left; (focus (go_simp; done)); (focus (clear hSw; go_simp; (try with_reducible rfl); done)); (try simp only [Act.put, List.setIfInBounds_toArray, List.set_cons_zero, List.set_cons_succ]))
                              (refine Lex.step_val (v := ?_) ?_ (fun w' hSw => ?_) ?_; rotate_left; (focus (go_simp; done)); (focus ((try dsimp only at hSw); go_simp; (try with_reducible rfl); done)); (try simp only [Act.put, List.setIfInBounds_toArray, List.set_cons_zero, List.set_cons_succ]))
                              (refine Lex.step_call (v := ?_) (f := ?_) (args := ?_) ?_ (fun w' hSw => ?_) ?_ ?_; rotate_left 3; (focus (go_simp; done)); (focus (clear hSw; go_simp; (refine And.intro ?_ ?_ <;> with_reducible rfl); done)); (focus (first | with_reducible exact H1.out | with_reducible exact H2.out)); (try simp only [Act.put, List.setIfInBounds_toArray, List.set_cons_zero, List.set_cons_succ]))
                              (refine Lex.step_val (v := ?_) ?_ (fun w' hSw => ?_) ?_; rotate_left; (focus (go_simp; done)); (focus (clear hSw; go_simp; (try with_reducible rfl); done)); (try simp only [Act.put, List.setIfInBounds_toArray, List.set_cons_zero, List.set_cons_succ]))
                              (refine Lex.step_val (v := ?_) ?_ (fun w' hSw => ?_) ?_; rotate_left; (focus rfl); (focus (clear hSw; go_simp; (try with_reducible rfl); done)); (try simp only [Act.put, List.setIfInBounds_toArray, List.set_cons_zero, List.set_cons_succ]))
                              refine Lex.step_nil ?_
                              intro wz hz
                              have HX7 := Lib.hid (HB1.out.trans ((HX6.out.trans ((ah_in hz).below.mono HX6.out.size)).mono HB1.out.size))
                              go_wp2_with fail
                              go_ret
                              exact ⟨ret_int HR.out.symm, HX7.out⟩
                          · rw [tt_neg c3] at LKL
                            have HR : Hid (refchk x = 9) := refchk_neg (fun h => c3 (HRN.out h).2.2.1)
                            have H1 := Lib.hid LKL
                            clear HRM HRN c1 c2 c3 LKL LKR e0 e1 e2 m6 hpc
                            refine Lex.region (fun w' => AAll w.heap.size wr.heap.size b (o + k * 3) x (⟨a1, c1, a2, c2, a3, c3, a4, c4, a5, c5, some ⟨b, o, none⟩, c6, a7, c7⟩ : At) t t.1 w6 w') (by kernel_rfl) (by kernel_rfl) FI.out ?_
                            (refine Lex.step_val (v := ?_) ?_ (fun w' hSw => ?_) ?_; rotate_left; (focus rfl); (focus (clear hSw; go_simp; (try with_reducible rfl); done)); (try simp only [Act.put, List.setIfInBounds_toArray, List.set_cons_zero, List.set_cons_succ]))
                            (refine Lex.step_val (v := ?_) ?_ (fun w' hSw => ?_) ?_; rotate_left; (focus rfl); (focus (clear hSw; go_simp; (try with_reducible rfl); done)); (try simp only [Act.put, List.setIfInBounds_toArray, List.set_cons_zero, List.set_cons_succ]))
                            (refine Lex.step_val (v := ?_) ?_ (fun w' hSw => ?_) ?_; rotate_left; (focus rfl); (focus (clear hSw; go_simp; (try with_reducible rfl); done)); (try simp only [Act.put, List.setIfInBounds_toArray, List.set_cons_zero, List.set_cons_succ]))
                            (refine Lex.step_off ?_ ?_; (focus (first | (go_simp; done) | (simp [Region.wanted, yielded, undef]; done) | rfl)); (try simp only [Act.put, List.setIfInBounds_toArray, List.set_cons_zero, List.set_cons_succ]))
                            (refine Lex.step_off ?_ ?_; (focus (first | (go_simp; done) | (simp [Region.wanted, yielded, undef]; done) | rfl)); (try simp only [Act.put, List.setIfInBounds_toArray, List.set_cons_zero, List.set_cons_succ]))
                            (refine Lex.step_off ?_ ?_; (focus (first | (go_simp; done) | (simp [Region.wanted, yielded, undef]; done) | rfl)); (try simp only [Act.put, List.setIfInBounds_toArray, List.set_cons_zero, List.set_cons_succ]))
                            (refine Lex.step_off ?_ ?_; (focus (first | (go_simp; done) | (simp [Region.wanted, yielded, undef]; done) | rfl)); (try simp only [Act.put, List.setIfInBounds_toArray, List.set_cons_zero, List.set_cons_succ]))
                            (refine Lex.step_off ?_ ?_; (focus (first | (go_simp; done) | (simp [Region.wanted, yielded, undef]; done) | rfl)); (try simp only [Act.put, List.setIfInBounds_toArray, List.set_cons_zero, List.set_cons_succ]))
                            (refine Lex.step_off ?_ ?_; (focus (first | (go_simp; done) | (simp [Region.wanted, yielded, undef]; done) | rfl)); (try simp only [Act.put, List.setIfInBounds_toArray, List.set_cons_zero, List.set_cons_succ]))
                            (refine Lex.step_off ?_ ?_; (focus (first | (go_simp; done) | (simp [Region.wanted, yielded, undef]; done) | rfl)); (try simp only [Act.put, List.setIfInBounds_toArray, List.set_cons_zero, List.set_cons_succ]))
                            (refine Lex.step_off ?_ ?_; (focus (first | (go_simp; done) | (simp [Region.wanted, yielded, undef]; done) | rfl)); (try simp only [Act.put, List.setIfInBounds_toArray, List.set_cons_zero, List.set_cons_succ]))
                            (refine Lex.step_off ?_ ?_; (focus (first | (go_simp; done) | (simp [Region.wanted, yielded, undef]; done) | rfl)); (try simp only [Act.put, List.setIfInBounds_toArray, List.set_cons_zero, List.set_cons_succ]))
                            (refine Lex.step_off ?_ ?_; (focus (first | (go_simp; done) | (simp [Region.wanted, yielded, undef]; done) | rfl)); (try simp only [Act.put, List.setIfInBounds_toArray, List.set_cons_zero, List.set_cons_succ]))
                            (refine Lex.step_val (v := ?_) ?_ (fun w' hSw => ?_) ?_; rotate_left; (focus rfl); (focus (clear hSw; go_simp; (try with_reducible rfl); done)); (try simp only [Act.put, List.setIfInBounds_toArray, List.set_cons_zero, List.set_cons_succ]))
                            (refine Lex.step_val (v := ?_) ?_ (fun w' hSw => ?_) ?_; rotate_left; (focus rfl); (focus (clear hSw; go_simp; (try with_reducible rfl); done)); (try simp only [Act.put, List.setIfInBounds_toArray, List.set_cons_zero, List.set_cons_succ]))
                            (refine Lex.step_val (v := ?_) ?_ (fun w' hSw => ?_) ?_; rotate_left; (focus (go_simp; done)); (focus (clear hSw; go_simp; (try with_reducible rfl); done)); (try simp only [Act.put, List.setIfInBounds_toArray, List.set_cons_zero, List.set_cons_succ]))
                            (refine Lex.step_val (v := ?_) ?_ (fun w' hSw => ?_) ?_; rotate_left; (focus (go_simp; done)); (focus ((try dsimp only at hSw); go_simp; (try with_reducible rfl); done)); (try simp only [Act.put, List.setIfInBounds_toArray, List.set_cons_zero, List.set_cons_succ]))
                            (refine Lex.step_val (v := ?_) ?_ (fun w' hSw => ?_) ?_; rotate_left; (focus (go_simp; done)); (focus (clear hSw; go_simp; (try with_reducible rfl); done)); (try simp only [Act.put, List.setIfInBounds_toArray, List.set_cons_zero, List.set_cons_succ]))
                            (refine Lex.step_val (v := ?_) ?_ (fun w' hSw => ?_) ?_; rotate_left; (focus (go_simp; done)); (focus ((try dsimp only at hSw); go_simp; (try with_reducible rfl); done)); (try simp only [Act.put, List.setIfInBounds_toArray, List.set_cons_zero, List.set_cons_succ]))
                            (refine Lex.step_val (v := ?_) ?_ (fun w' hSw => ?_) ?_; rotate_left; (focus (go_simp; done)); (focus (clear hSw; go_simp; (try with_reducible rfl); done)); (try simp only [Act.put, List.setIfInBounds_toArray, List.set_cons_zero, List.set_cons_succ]))
                            (refine Lex.step_val (v := ?_) ?_ (fun w' hSw => ?_) ?_; rotate_left; (focus rfl); (focus (clear hSw; go_simp; (try with_reducible rfl); done)); (try simp only [Act.put, List.setIfInBounds_toArray, List.set_cons_zero, List.set_cons_succ]))
                            (refine Lex.step_val (v := ?_) ?_ (fun w' hSw => ?_) ?_; rotate_left; (focus rfl); (focus (clear hSw; go_simp; (try with_reducible rfl); done)); (try simp only [Act.put, List.setIfInBounds_toArray, List.set_cons_zero, List.set_cons_succ]))
                            (refine Lex.step_val (v := ?_) ?_ (fun w' hSw => ?_) ?_; rotate_left; (focus (go_simp; done)); (focus (clear hSw; go_simp; (try with_reducible rfl); done)); (try simp only [Act.put, List.setIfInBounds_toArray, List.set_cons_zero, List.set_cons_succ]))
                            (refine Lex.step_val (v := ?_) ?_ (fun w' hSw => ?_) ?_; rotate_left; (focus (go_simp; done)); (focus ((try dsimp only at hSw); go_simp; (try with_reducible rfl); done)); (try simp only [Act.put, List.setIfInBounds_toArray, List.set_cons_zero, List.set_cons_succ]))
                            (refine Lex.step_val (v := ?_) ?_ (fun w' hSw => ?_) ?_; rotate_left; (focus (go_simp; done)); (focus (clear hSw; go_simp; (try with_reducible rfl); done)); (try simp only [Act.put, List.setIfInBounds_toArray, List.set_cons_zero, List.set_cons_succ]))
                            (refine Lex.step_val (v := ?_) ?_ (fun w' hSw => ?_) ?_; rotate_left; (focus (go_simp; done)); (focus ((try dsimp only at hSw); go_simp; (try with_reducible rfl); done)); (try simp only [Act.put, List.setIfInBounds_toArray, List.set_cons_zero, List.set_cons_succ]))
                            (refine Lex.step_val (v := ?_) ?_ (fun w' hSw => ?_) ?_; rotate_left; (focus (go_simp; done)); (focus (clear hSw; go_simp; (try with_reducible rfl); done)); (try simp only [Act.put, List.setIfInBounds_toArray, List.set_cons_zero, List.set_cons_succ]))
                            (refine Lex.step_val (v := ?_) ?_ (fun w' hSw => ?_) ?_; rotate_left; (focus rfl); (focus (clear hSw; go_simp; (try with_reducible rfl); done)); (try simp only [Act.put, List.setIfInBounds_toArray, List.set_cons_zero, List.set_cons_succ]))
                            (refine Lex.step_val (v := ?_) ?_ (fun w' hSw => ?_) ?_; rotate_left; (focus rfl); (focus (clear hSw; go_simp; (try with_reducible rfl); done)); (try simp only [Act.put, List.setIfInBounds_toArray, List.set_cons_zero, List.set_cons_succ]))
                            (refine Lex.step_val (v := ?_) ?_ (fun w' hSw => ?_) ?_; rotate_left; (focus (go_simp; done)); (focus ((try dsimp only at hSw); go_simp; (try with_reducible rfl); done)); (try simp only [Act.put, List.setIfInBounds_toArray, List.set_cons_zero, List.set_cons_succ]))
                            (refine Lex.step_val (v := ?_) ?_ (fun w' hSw => ?_) ?_; rotate_left; (focus (go_simp; done)); (focus (clear hSw; go_simp; (try with_reducible rfl); done)); (try simp only [Act.put, List.setIfInBounds_toArray, List.set_cons_zero, List.set_cons_succ]))
                            (refine Lex.step_val (v := ?_) ?_ (fun w' hSw => ?_) ?_; rotate_left; (focus (go_simp; done)); (focus ((try dsimp only at hSw); go_simp; (try with_reducible rfl); done)); (try simp only [Act.put, List.setIfInBounds_toArray, List.set_cons_zero, List.set_cons_succ]))
                            (refine Lex.step_call (v := ?_) (f := ?_) (args := ?_) ?_ (fun w' hSw => ?_) ?_ ?_; rotate_left 3; (focus (go_simp; done)); (focus (clear hSw; go_simp; (refine And.intro ?_ ?_ <;> with_reducible rfl); done)); (focus (first | with_reducible exact H1.out)); (try simp only [Act.put, List.setIfInBounds_toArray, List.set_cons_zero, List.set_cons_succ]))
                            (refine Lex.step_val (v := ?_) ?_ (fun w' hSw => ?_) ?_; rotate_left; (focus (go_simp; done)); (focus (clear hSw; go_simp; (try with_reducible rfl); done)); (try simp only [Act.put, List.setIfInBounds_toArray, List.set_cons_zero, List.set_cons_succ]))
                            (refine Lex.step_val (v := ?_) ?_ (fun w' hSw => ?_) ?_; rotate_left; (focus rfl); (focus (clear hSw; go_simp; (try with_reducible rfl); done)); (try simp only [Act.put, List.setIfInBounds_toArray, List.set_cons_zero, List.set_cons_succ]))
                            (refine Lex.step_val (v := ?_) ?_ (fun w' hSw => ?_) ?_; rotate_left; (focus rfl); (focus (clear hSw; go_simp; (try with_reducible rfl); done)); (try simp only [Act.put, List.setIfInBounds_toArray, List.set_cons_zero, List.set_cons_succ]))
                            (refine Lex.step_off ?_ ?_; (focus (first | (go_simp; done) | (simp [Region.wanted, yielded, undef]; done) | rfl)); (try simp only [Act.put, List.setIfInBounds_toArray, List.set_cons_zero, List.set_cons_succ]))
                            (refine Lex.step_off ?_ ?_; (focus (first | (go_simp; done) | (simp [Region.wanted, yielded, undef]; done) | rfl)); (try simp only [Act.put, List.setIfInBounds_toArray, List.set_cons_zero, List.set_cons_succ]))
                            (refine Lex.step_off ?_ ?_; (focus (first | (go_simp; done) | (simp [Region.wanted, yielded, undef]; done) | rfl)); (try simp only [Act.put, List.setIfInBounds_toArray, List.set_cons_zero, List.set_cons_succ]))
                            (refine Lex.step_off ?_ ?_; (focus (first | (go_simp; done) | (simp [Region.wanted, yielded, undef]; done) | rfl)); (try simp only [Act.put, List.setIfInBounds_toArray, List.set_cons_zero, List.set_cons_succ]))
                            (refine Lex.step_off ?_ ?_; (focus (first | (go_simp; done) | (simp [Region.wanted, yielded, undef]; done) | rfl)); (try simp only [Act.put, List.setIfInBounds_toArray, List.set_cons_zero, List.set_cons_succ]))
                            (refine Lex.step_val (v := ?_) ?_ (fun w' hSw => ?_) ?_; rotate_left; (focus rfl); (focus (clear hSw; go_simp; (try with_reducible rfl); done)); (try simp only [Act.put, List.setIfInBounds_toArray, List.set_cons_zero, List.set_cons_succ]))
                            refine Lex.step_nil ?_
                            intro wz hz
                            have HX7 := Lib.hid (HB1.out.trans ((HX6.out.trans ((ah_in hz).below.mono HX6.out.size)).mono HB1.out.size))
                            go_wp2_with fail
                            go_ret
                            exact ⟨ret_int HR.out.symm, HX7.out⟩
                        · have hc2 : decide (t.1 ≤ t.2.2) = true := decide_eq_true (by omega)
                          have HR : Hid (refchk x = 9) := refchk_neg (fun h => c2 (HRN.out h).2.1)
                          clear HRM HRN c1 c2 LKL LKR
                          go_quiet (fail)
                          go_wp2_with fail
                          go_ret
                          exact ⟨ret_int HR.out.symm, below_drewN HY6.out _⟩
                      · have hc1 : decide (t.1 ≤ t.2.1) = true := decide_eq_true (by omega)
                        have HR : Hid (refchk x = 9) := refchk_neg (fun h => c1 (HRN.out h).1)
                        clear HRM HRN c1 LKL LKR
                        go_quiet (fail)
                        go_wp2_with fail
                        go_ret
                        exact ⟨ret_int HR.out.symm, below_drewN HY6.out _⟩
                    · obtain ⟨m, hm⟩ : ∃ m, k = m + 1 := ⟨k - 1, by omega⟩
                      have hml : m < x.ands.length := by omega
                      have hd0 : decide ((0 : Int) < (k : Int)) = true := decide_eq_true (by omega)
                      have hd0' : 0 < k := hkp
                      have hsub : IntKind.i64.wrap ((k : Int) - 1) = (m : Int) := by rw [IntKind.wrap_i64]; omega
                      have hidx0 : (0 : Int) ≤ (m : Int) := by omega
                      have hidx1 : (m : Int) < (x.ands.length : Int) := by omega
                      have hidx : (0 : Int) ≤ (m : Int) ∧ (m : Int) < (x.ands.length : Int) := by omega
                      have hpc : w6.cell? ⟨b, o + m * 3, none⟩ = some (.int .i64 x.ands[m].1) := (HX6.out.cell (p := ⟨b, o + m * 3, none⟩) hbs).trans (HPV.out m hml)
                      have HOA : Hid (x.ands[m].1 < t.1 → Rises x (k + 1)) := fun h => HRJ.out (fun m' _ he => by
                        have : m' = m := by omega
                        subst this
                        exact h)
                      have HOB : Hid (RefOk x → x.ands[m].1 < t.1) := fun h => HRO.out h m hml hm
                      clear HRJ HRO HPV
                      generalize x.ands[m].1 = pv at *
                      by_cases hs : pv < t.1
                      · have hsd : decide (t.1 ≤ pv) = false := decide_eq_false (by omega)
                        have HRI := Lib.hid (HOA.out hs)
                        clear hm hs hkp HOA HOB
                        have FI : Hid (AAll w.heap.size wr.heap.size b (o + m * 3) x (⟨a1, c1, a2, c2, a3, c3, a4, c4, a5, c5, some ⟨b, o, none⟩, c6, a7, c7⟩ : At) t pv w6 w6.drew) := ah_all ⟨(Below.refl _ _).drew, CB.next (Below.refl _ _).drew (Nat.le_refl _), hT6.next (Below.refl _ _).drew (Nat.le_refl _), Nat.lt_of_lt_of_le hbs HX6.out.size, hpc⟩
                        have LKL := fun (X : World) (hX : AAll w.heap.size wr.heap.size b (o + m * 3) x (⟨a1, c1, a2, c2, a3, c3, a4, c4, a5, c5, some ⟨b, o, none⟩, c6, a7, c7⟩ : At) t pv w6 X) => (HK.out X (HX6.out.trans ((ah_in hX).below.mono HX6.out.size)) t.2.1 hl64.2.1).mono fun e w' h => (⟨h.1, ah_all ((ah_in hX).more h.2)⟩ : e = .returned (.bool (tt (KnR x t.2.1))) ∧ AAll w.heap.size wr.heap.size b (o + m * 3) x (⟨a1, c1, a2, c2, a3, c3, a4, c4, a5, c5, some ⟨b, o, none⟩, c6, a7, c7⟩ : At) t pv w6 w')
                        have LKR := fun (X : World) (hX : AAll w.heap.size wr.heap.size b (o + m * 3) x (⟨a1, c1, a2, c2, a3, c3, a4, c4, a5, c5, some ⟨b, o, none⟩, c6, a7, c7⟩ : At) t pv w6 X) => (HK.out X (HX6.out.trans ((ah_in hX).below.mono HX6.out.size)) t.2.2 hl64.2.2).mono fun e w' h => (⟨h.1, ah_all ((ah_in hX).more h.2)⟩ : e = .returned (.bool (tt (KnR x t.2.2))) ∧ AAll w.heap.size wr.heap.size b (o + m * 3) x (⟨a1, c1, a2, c2, a3, c3, a4, c4, a5, c5, some ⟨b, o, none⟩, c6, a7, c7⟩ : At) t pv w6 w')
                        have e0 := hT6.t0
                        have e1 := hT6.t1
                        have e2 := hT6.t2
                        have m6 : w6.cell? ⟨w.heap.size, 6, none⟩ = some (.slice (some ⟨b, o, none⟩) x.ands.length c6) := CB.k6
                        clear CB hT6 hl64 hbs
                        by_cases c1 : t.2.1 < t.1
                        · have hc1 : decide (t.1 ≤ t.2.1) = false := decide_eq_false (by omega)
                          by_cases c2 : t.2.2 < t.1
                          · have hc2 : decide (t.1 ≤ t.2.2) = false := decide_eq_false (by omega)
                            by_cases c3 : KnR x t.2.1
                            · rw [tt_pos c3] at LKL
                              by_cases c4 : KnR x t.2.2
                              · rw [tt_pos c4] at LKR
                                have HR := Lib.hid (HRM.out ⟨c1, c2, c3, c4⟩)
                                have H1 := Lib.hid LKL
                                have H2 := Lib.hid LKR
                                clear HRM HRN c1 c2 c3 c4 LKL LKR e0 e1 e2 m6 hpc
                                refine Lex.region (fun w' => AAll w.heap.size wr.heap.size b (o + m * 3) x (⟨a1, c1, a2, c2, a3, c3, a4, c4, a5, c5, some ⟨b, o, none⟩, c6, a7, c7⟩ : At) t pv w6 w') (by kernel_rfl) (by kernel_rfl) FI.out ?_
                                (refine Lex.step_val (v := ?_) ?_ (fun w' hSw => ?_) ?_; rotate_left; (focus rfl); (focus (clear hSw; go_simp; (try with_reducible rfl); done)); (try simp only [Act.put, List.setIfInBounds_toArray, List.set_cons_zero, List.set_cons_succ]))
                                (refine Lex.step_val (v := ?_) ?_ (fun w' hSw => ?_) ?_; rotate_left; (focus rfl); (focus (clear hSw; go_simp; (try with_reducible rfl); done)); (try simp only [Act.put, List.setIfInBounds_toArray, List.set_cons_zero, List.set_cons_succ]))
                                (refine Lex.step_val (v := ?_) ?_ (fun w' hSw => ?_) ?_; rotate_left; (focus rfl); (focus (clear hSw; go_simp; (try with_reducible rfl); done)); (try simp only [Act.put, List.setIfInBounds_toArray, List.set_cons_zero, List.set_cons_succ]))
                                (refine Lex.step_val (v := ?_) ?_ (fun w' hSw => ?_) ?_; rotate_left; (focus (go_simp; done)); (focus (clear hSw; go_simp; (try with_reducible rfl); done)); (try simp only [Act.put, List.setIfInBounds_toArray, List.set_cons_zero, List.set_cons_succ]))
                                (refine Lex.step_val (v := ?_) ?_ (fun w' hSw => ?_) ?_; rotate_left; (focus (go_simp; done)); (focus ((try dsimp only at hSw); go_simp; (try with_reducible rfl); done)); (try simp only [Act.put, List.setIfInBounds_toArray, List.set_cons_zero, List.set_cons_succ]))
                                (refine Lex.step_val (v := ?_) ?_ (fun w' hSw => ?_) ?_; rotate_left; (focus (go_simp; done)); (focus (clear hSw; go_simp; (try with_reducible rfl); done)); (try simp only [Act.put, List.setIfInBounds_toArray, List.set_cons_zero, List.set_cons_succ]))
                                (refine Lex.step_val (v := ?_) ?_ (fun w' hSw => ?_) ?_; rotate_left; (focus (go_simp; done)); (focus ((try dsimp only at hSw); go_simp; (try with_reducible rfl); done)); (try simp only [Act.put, List.setIfInBounds_toArray, List.set_cons_zero, List.set_cons_succ]))
                                (refine Lex.step_val (v := ?_) ?_ (fun w' hSw => ?_) ?_; rotate_left; (focus (go_simp; done)); (focus (clear hSw; go_simp; (try with_reducible rfl); done)); (try simp only [Act.put, List.setIfInBounds_toArray, List.set_cons_zero, List.set_cons_succ]))
                                (refine Lex.step_val (v := ?_) ?_ (fun w' hSw => ?_) ?_; rotate_left; (focus (go_simp; done)); (focus (clear hSw; go_simp; (try with_reducible rfl); done)); (try simp only [Act.put, List.setIfInBounds_toArray, List.set_cons_zero, List.set_cons_succ]))
                                (refine Lex.step_val (v := ?_) ?_ (fun w' hSw => ?_) ?_; rotate_left; (focus (go_simp; done)); (focus (clear hSw; go_simp; (try with_reducible rfl); done)); (try simp only [Act.put, List.setIfInBounds_toArray, List.set_cons_zero, List.set_cons_succ]))
                                (refine Lex.step_val (v := ?_) ?_ (fun w' hSw => ?_) ?_; rotate_left; (focus (go_simp; done)); (focus (clear hSw; go_simp; (try with_reducible rfl); done)); (try simp only [Act.put, List.setIfInBounds_toArray, List.set_cons_zero, List.set_cons_succ]))
                                (refine Lex.step_val (v := ?_) ?_ (fun w' hSw => ?_) ?_; rotate_left; (focus (go_simp; done)); (focus ((try dsimp only at hSw); go_simp; (try with_reducible rfl); done)); (try simp only [Act.put, List.setIfInBounds_toArray, List.set_cons_zero, List.set_cons_succ]))
                                (refine Lex.step_val (v := ?_) ?_ (fun w' hSw => ?_) ?_; rotate_left; (focus (go_simp; done)); (focus (clear hSw; go_simp; (try with_reducible rfl); done)); (try simp only [Act.put, List.setIfInBounds_toArray, List.set_cons_zero, List.set_cons_succ]))
                                (refine Lex.step_val (v := ?_) ?_ (fun w' hSw => ?_) ?_; rotate_left; (focus rfl); (focus (clear hSw; go_simp; (try with_reducible rfl); done)); (try simp only [Act.put, List.setIfInBounds_toArray, List.set_cons_zero, List.set_cons_succ]))
                                (refine Lex.step_val (v := ?_) ?_ (fun w' hSw => ?_) ?_; rotate_left; (focus rfl); (focus (clear hSw; go_simp; (try with_reducible rfl); done)); (try simp only [Act.put, List.setIfInBounds_toArray, List.set_cons_zero, List.set_cons_succ]))
                                (refine Lex.step_val (v := ?_) ?_ (fun w' hSw => ?_) ?_; rotate_left; (focus (go_simp; done)); (focus (clear hSw; go_simp; (try with_reducible rfl); done)); (try simp only [Act.put, List.setIfInBounds_toArray, List.set_cons_zero, List.set_cons_succ]))
                                (refine Lex.step_val (v := ?_) ?_ (fun w' hSw => ?_) ?_; rotate_left; (focus (go_simp; done)); (focus ((try dsimp only at hSw); go_simp; (try with_reducible rfl); done)); (try simp only [Act.put, List.setIfInBounds_toArray, List.set_cons_zero, List.set_cons_succ]))
                                (refine Lex.step_val (v := ?_) ?_ (fun w' hSw => ?_) ?_; rotate_left; (focus (go_simp; done)); (focus (clear hSw; go_simp; (try with_reducible rfl); done)); (try simp only [Act.put, List.setIfInBounds_toArray, List.set_cons_zero, List.set_cons_succ]))
                                (refine Lex.step_val (v := ?_) ?_ (fun w' hSw => ?_) ?_; rotate_left; (focus (go_simp; done)); (focus ((try dsimp only at hSw); go_simp; (try with_reducible rfl); done)); (try simp only [Act.put, List.setIfInBounds_toArray, List.set_cons_zero, List.set_cons_succ]))
                                (refine Lex.step_val (v := ?_) ?_ (fun w' hSw => ?_) ?_; rotate_left; (focus (go_simp; done)); (focus (clear hSw; go_simp; (try with_reducible rfl); done)); (try simp only [Act.put, List.setIfInBounds_toArray, List.set_cons_zero, List.set_cons_succ]))
                                (refine Lex.step_val (v := ?_) ?_ (fun w' hSw => ?_) ?_; rotate_left; (focus rfl); (focus (clear hSw; go_simp; (try with_reducible rfl); done)); (try simp only [Act.put, List.setIfInBounds_toArray, List.set_cons_zero, List.set_cons_succ]))
                                (refine Lex.step_val (v := ?_) ?_ (fun w' hSw => ?_) ?_; rotate_left; (focus rfl); (focus (clear hSw; go_simp; (try with_reducible rfl); done)); (try simp only [Act.put, List.setIfInBounds_toArray, List.set_cons_zero, List.set_cons_succ]))
                                (refine Lex.step_val (v := ?_) ?_ (fun w' hSw => ?_) ?_; rotate_left; (focus (go_simp; done)); (focus (clear hSw; go_simp; (try with_reducible rfl); done)); (try simp only [Act.put, List.setIfInBounds_toArray, List.set_cons_zero, List.set_cons_succ]))
                                (refine Lex.step_val (v := ?_) ?_ (fun w' hSw => ?_) ?_; rotate_left; (focus (go_simp; done)); (focus ((try dsimp only at hSw); go_simp; (try with_reducible rfl); done)); (try simp only [Act.put, List.setIfInBounds_toArray, List.set_cons_zero, List.set_cons_succ]))
                                (refine Lex.step_val (v := ?_) ?_ (fun w' hSw => ?_) ?_; rotate_left; (focus (go_simp; done)); (focus (clear hSw; go_simp; (try with_reducible rfl); done)); (try simp only [Act.put, List.setIfInBounds_toArray, List.set_cons_zero, List.set_cons_succ]))
                                (refine Lex.step_val (v := ?_) ?_ (fun w' hSw => ?_) ?_; rotate_left; (focus (go_simp; done)); (focus ((try dsimp only at hSw); go_simp; (try with_reducible rfl); done)); (try simp only [Act.put, List.setIfInBounds_toArray, List.set_cons_zero, List.set_cons_succ]))
                                (refine Lex.step_val (v := ?_) ?_ (fun w' hSw => ?_) ?_; rotate_left; (focus (go_simp; done)); (focus (clear hSw; go_simp; (try with_reducible rfl); done)); (try simp only [Act.put, List.setIfInBounds_toArray, List.set_cons_zero, List.set_cons_succ]))
                                (refine Lex.step_val (v := ?_) ?_ (fun w' hSw => ?_) ?_; rotate_left; (focus rfl); (focus (clear hSw; go_simp; (try with_reducible rfl); done)); (try simp only [Act.put, List.setIfInBounds_toArray, List.set_cons_zero, List.set_cons_succ]))
                                (refine Lex.step_val (v := ?_) ?_ (fun w' hSw => ?_) ?_; rotate_left; (focus rfl); (focus (clear hSw; go_simp; (try with_reducible rfl); done)); (try simp only [Act.put, List.setIfInBounds_toArray, List.set_cons_zero, List.set_cons_succ]))
                                (refine Lex.step_val (v := ?_) ?_ (fun w' hSw => ?_) ?_; rotate_left; (focus (go_simp; done)); (focus ((try dsimp only at hSw); go_simp; (try with_reducible rfl); done)); (try simp only [Act.put, List.setIfInBounds_toArray, List.set_cons_zero, List.set_cons_succ]))
                                (refine Lex.step_val (v := ?_) ?_ (fun w' hSw => ?_) ?_; rotate_left; (focus (go_simp; done)); (focus (clear hSw; go_simp; (try with_reducible rfl); done)); (try simp only [Act.put, List.setIfInBounds_toArray, List.set_cons_zero, List.set_cons_succ]))
                                (refine Lex.step_val (v := ?_) ?_ (fun w' hSw => ?_) ?_; rotate_left; (focus (go_simp; done)); (focus ((try dsimp only at hSw); go_simp; (try with_reducible rfl); done)); (try simp only [Act.put, List.setIfInBounds_toArray, List.set_cons_zero, List.set_cons_succ]))
                                (refine Lex.step_call (v := ?_) (f := ?_) (args := ?_) ?_ (fun w' hSw => ?_) ?_ ?_; rotate_left 3; (focus (go_simp; done)); (focus (clear hSw; go_simp; (refine And.intro ?_ ?_ <;> with_reducible rfl); done)); (focus (first | with_reducible exact H1.out | with_reducible exact H2.out)); (try simp only [Act.put, List.setIfInBounds_toArray, List.set_cons_zero, List.set_cons_succ]))
                                (refine Lex.step_val (v := ?_) ?_ (fun w' hSw => ?_) ?_; rotate_left; (focus (go_simp; done)); (focus (clear hSw; go_simp; (try with_reducible rfl); done)); (try simp only [Act.put, List.setIfInBounds_toArray, List.set_cons_zero, List.set_cons_succ]))
                                (refine Lex.step_val (v := ?_) ?_ (fun w' hSw => ?_) ?_; rotate_left; (focus rfl); (focus (clear hSw; go_simp; (try with_reducible rfl); done)); (try simp only [Act.put, List.setIfInBounds_toArray, List.set_cons_zero, List.set_cons_succ]))
                                (refine Lex.step_val (v := ?_) ?_ (fun w' hSw => ?_) ?_; rotate_left; (focus rfl); (focus (clear hSw; go_simp; (try with_reducible rfl); done)); (try simp only [Act.put, List.setIfInBounds_toArray, List.set_cons_zero, List.set_cons_succ]))
                                (refine Lex.step_val (v := ?_) ?_ (fun w' hSw => ?_) ?_; rotate_left; (focus (go_simp; done)); (focus ((try dsimp only at hSw); go_simp; (try with_reducible rfl); done)); (try simp only [Act.put, List.setIfInBounds_toArray, List.set_cons_zero, List.set_cons_succ]))
                                (refine Lex.step_val (v := ?_) ?_ (fun w' hSw => ?_) ?_; rotate_left; (focus (go_simp; done)); (focus (clear hSw; go_simp; (try with_reducible rfl); done)); (try simp only [Act.put, List.setIfInBounds_toArray, List.set_cons_zero, List.set_cons_succ]))
                                (refine Lex.step_val (v := ?_) ?_ (fun w' hSw => ?_) ?_; rotate_left; (focus (go_simp; done)); (focus ((try dsimp only at hSw); go_simp; (try with_reducible rfl); done)); (try simp only [Act.put, List.setIfInBounds_toArray, List.set_cons_zero, List.set_cons_succ]))
                                (refine Lex.step_call (v := ?_) (f := ?_) (args := ?_) ?_ (fun w' hSw => ?_) ?_ ?_; rotate_left 3; (focus (go_simp; done)); (focus (clear hSw; go_simp; (refine And.intro ?_ ?_ <;> with_reducible rfl); done)); (focus (first | with_reducible exact H1.out | with_reducible exact H2.out)); (try simp only [Act.put, List.setIfInBounds_toArray, List.set_cons_zero, List.set_cons_succ]))
                                (refine Lex.step_val (v := ?_) ?_ (fun w' hSw => ?_) ?_; rotate_left; (focus (go_simp; done)); (focus (clear hSw; go_simp; (try with_reducible rfl); done)); (try simp only [Act.put, List.setIfInBounds_toArray, List.set_cons_zero, List.set_cons_succ]))
                                (refine Lex.step_val (v := ?_) ?_ (fun w' hSw => ?_) ?_; rotate_left; (focus rfl); (focus (clear hSw; go_simp; (try with_reducible rfl); done)); (try simp only [Act.put, List.setIfInBounds_toArray, List.set_cons_zero, List.set_cons_succ]))
                                refine Lex.step_nil ?_
                                intro wz hz
                                have hown7 := own_next hown6 (ah_in hz).below
                                have HB7 := Lib.hid (HB6.out.trans ((ah_in hz).below.mono HB6.out.size))
                                clear hown6
                                go_wp2_with fail
                                go_roundw
                                case rel => exact ⟨k + 1, by omega, by go_num, ⟨a7', c7', rfl, hown7⟩, HR.out, HRI.out, HB7.out⟩
                                case measure => simp [intOf]; omega
                              · rw [tt_neg c4] at LKR
                                have HR : Hid (refchk x = 9) := refchk_neg (fun h => c4 (HRN.out h).2.2.2)
                                have H1 := Lib.hid LKL
                                have H2 := Lib.hid LKR
                                clear HRM HRN c1 c2 c3 c4 LKL LKR e0 e1 e2 m6 hpc
                                refine Lex.region (fun w' => AAll w.heap.size wr.heap.size b (o + m * 3) x (⟨a1, c1, a2, c2, a3, c3, a4, c4, a5, c5, some ⟨b, o, none⟩, c6, a7, c7⟩ : At) t pv w6 w') (by kernel_rfl) (by kernel_rfl) FI.out ?_
                                (refine Lex.step_val (v := ?_) ?_ (fun w' hSw => ?_) ?_; rotate_left; (focus rfl); (focus (clear hSw; go_simp; (try with_reducible rfl); done)); (try simp only [Act.put, List.setIfInBounds_toArray, List.set_cons_zero, List.set_cons_succ]))
                                (refine Lex.step_val (v := ?_) ?_ (fun w' hSw => ?_) ?_; rotate_left; (focus rfl); (focus (clear hSw; go_simp; (try with_reducible rfl); done)); (try simp only [Act.put, List.setIfInBounds_toArray, List.set_cons_zero, List.set_cons_succ]))
                                (refine Lex.step_val (v := ?_) ?_ (fun w' hSw => ?_) ?_; rotate_left; (focus rfl); (focus (clear hSw; go_simp; (try with_reducible rfl); done)); (try simp only [Act.put, List.setIfInBounds_toArray, List.set_cons_zero, List.set_cons_succ]))
                                (refine Lex.step_val (v := ?_) ?_ (fun w' hSw => ?_) ?_; rotate_left; (focus (go_simp; done)); (focus (clear hSw; go_simp; (try with_reducible rfl); done)); (try simp only [Act.put, List.setIfInBounds_toArray, List.set_cons_zero, List.set_cons_succ]))
                                (refine Lex.step_val (v := ?_) ?_ (fun w' hSw => ?_) ?_; rotate_left; (focus (go_simp; done)); (focus ((try dsimp only at hSw); go_simp; (try with_reducible rfl); done)); (try simp only [Act.put, List.setIfInBounds_toArray, List.set_cons_zero, List.set_cons_succ]))
                                (refine Lex.step_val (v := ?_) ?_ (fun w' hSw => ?_) ?_; rotate_left; (focus (go_simp; done)); (focus (clear hSw; go_simp; (try with_reducible rfl); done)); (try simp only [Act.put, List.setIfInBounds_toArray, List.set_cons_zero, List.set_cons_succ]))
                                (refine Lex.step_val (v := ?_) ?_ (fun w' hSw => ?_) ?_; rotate_left; (focus (go_simp; done)); (focus ((try dsimp only at hSw); go_simp; (try with_reducible rfl); done)); (try simp only [Act.put, List.setIfInBounds_toArray, List.set_cons_zero, List.set_cons_succ]))
                                (refine Lex.step_val (v := ?_) ?_ (fun w' hSw => ?_) ?_; rotate_left; (focus (go_simp; done)); (focus (clear hSw; go_simp; (try with_reducible rfl); done)); (try simp only [Act.put, List.setIfInBounds_toArray, List.set_cons_zero, List.set_cons_succ]))
                                (refine Lex.step_val (v := ?_) ?_ (fun w' hSw => ?_) ?_; rotate_left; (focus (go_simp; done)); (focus (clear hSw; go_simp; (try with_reducible rfl); done)); (try simp only [Act.put, List.setIfInBounds_toArray, List.set_cons_zero, List.set_cons_succ]))
                                (refine Lex.step_val (v := ?_) ?_ (fun w' hSw => ?_) ?_; rotate_left; (focus (go_simp; done)); (focus (clear hSw; go_simp; (try with_reducible rfl); done)); (try simp only [Act.put, List.setIfInBounds_toArray, List.set_cons_zero, List.set_cons_succ]))
                                (refine Lex.step_val (v := ?_) ?_ (fun w' hSw => ?_) ?_; rotate_left; (focus (go_simp; done)); (focus (clear hSw; go_simp; (try with_reducible rfl); done)); (try simp only [Act.put, List.setIfInBounds_toArray, List.set_cons_zero, List.set_cons_succ]))
                                (refine Lex.step_val (v := ?_) ?_ (fun w' hSw => ?_) ?_; rotate_left; (focus (go_simp; done)); (focus ((try dsimp only at hSw); go_simp; (try with_reducible rfl); done)); (try simp only [Act.put, List.setIfInBounds_toArray, List.set_cons_zero, List.set_cons_succ]))
                                (refine Lex.step_val (v := ?_) ?_ (fun w' hSw => ?_) ?_; rotate_left; (focus (go_simp; done)); (focus (clear hSw; go_simp; (try with_reducible rfl); done)); (try simp only [Act.put, List.setIfInBounds_toArray, List.set_cons_zero, List.set_cons_succ]))
                                (refine Lex.step_val (v := ?_) ?_ (fun w' hSw => ?_) ?_; rotate_left; (focus rfl); (focus (clear hSw; go_simp; (try with_reducible rfl); done)); (try simp only [Act.put, List.setIfInBounds_toArray, List.set_cons_zero, List.set_cons_succ]))
                                (refine Lex.step_val (v := ?_) ?_ (fun w' hSw => ?_) ?_; rotate_left; (focus rfl); (focus (clear hSw; go_simp; (try with_reducible rfl); done)); (try simp only [Act.put, List.setIfInBounds_toArray, List.set_cons_zero, List.set_cons_succ]))
                                (refine Lex.step_val (v := ?_) ?_ (fun w' hSw => ?_) ?_; rotate_left; (focus (go_simp; done)); (focus (clear hSw; go_simp; (try with_reducible rfl); done)); (try simp only [Act.put, List.setIfInBounds_toArray, List.set_cons_zero, List.set_cons_succ]))
                                (refine Lex.step_val (v := ?_) ?_ (fun w' hSw => ?_) ?_; rotate_left; (focus (go_simp; done)); (focus ((try dsimp only at hSw); go_simp; (try with_reducible rfl); done)); (try simp only [Act.put, List.setIfInBounds_toArray, List.set_cons_zero, List.set_cons_succ]))
                                (refine Lex.step_val (v := ?_) ?_ (fun w' hSw => ?_) ?_; rotate_left; (focus (go_simp; done)); (focus (clear hSw; go_simp; (try with_reducible rfl); done)); (try simp only [Act.put, List.setIfInBounds_toArray, List.set_cons_zero, List.set_cons_succ]))
                                (refine Lex.step_val (v := ?_) ?_ (fun w' hSw => ?_) ?_; rotate_left; (focus (go_simp; done)); (focus ((try dsimp only at hSw); go_simp; (try with_reducible rfl); done)); (try simp only [Act.put, List.setIfInBounds_toArray, List.set_cons_zero, List.set_cons_succ]))
                                (refine Lex.step_val (v := ?_) ?_ (fun w' hSw => ?_) ?_; rotate_left; (focus (go_simp; done)); (focus (clear hSw; go_simp; (try with_reducible rfl); done)); (try simp only [Act.put, List.setIfInBounds_toArray, List.set_cons_zero, List.set_cons_succ]))
                                (refine Lex.step_val (v := ?_) ?_ (fun w' hSw => ?_) ?_; rotate_left; (focus rfl); (focus (clear hSw; go_simp; (try with_reducible rfl); done)); (try simp only [Act.put, List.setIfInBounds_toArray, List.set_cons_zero, List.set_cons_succ]))
                                (refine Lex.step_val (v := ?_) ?_ (fun w' hSw => ?_) ?_; rotate_left; (focus rfl); (focus (clear hSw; go_simp; (try with_reducible rfl); done)); (try simp only [Act.put, List.setIfInBounds_toArray, List.set_cons_zero, List.set_cons_succ]))
                                (refine Lex.step_val (v := ?_) ?_ (fun w' hSw => ?_) ?_; rotate_left; (focus (go_simp; done)); (focus (clear hSw; go_simp; (try with_reducible rfl); done)); (try simp only [Act.put, List.setIfInBounds_toArray, List.set_cons_zero, List.set_cons_succ]))
                                (refine Lex.step_val (v := ?_) ?_ (fun w' hSw => ?_) ?_; rotate_left; (focus (go_simp; done)); (focus ((try dsimp only at hSw); go_simp; (try with_reducible rfl); done)); (try simp only [Act.put, List.setIfInBounds_toArray, List.set_cons_zero, List.set_cons_succ]))
                                (refine Lex.step_val (v := ?_) ?_ (fun w' hSw => ?_) ?_; rotate_left; (focus (go_simp; done)); (focus (clear hSw; go_simp; (try with_reducible rfl); done)); (try simp only [Act.put, List.setIfInBounds_toArray, List.set_cons_zero, List.set_cons_succ]))
                                (refine Lex.step_val (v := ?_) ?_ (fun w' hSw => ?_) ?_; rotate_left; (focus (go_simp; done)); (focus ((try dsimp only at hSw); go_simp; (try with_reducible rfl); done)); (try simp only [Act.put, List.setIfInBounds_toArray, List.set_cons_zero, List.set_cons_succ]))
                                (refine Lex.step_val (v := ?_) ?_ (fun w' hSw => ?_) ?_; rotate_left; (focus (go_simp; done)); (focus (clear hSw; go_simp; (try with_reducible rfl); done)); (try simp only [Act.put, List.setIfInBounds_toArray, List.set_cons_zero, List.set_cons_succ]))
                                (refine Lex.step_val (v := ?_) ?_ (fun w' hSw => ?_) ?_; rotate_left; (focus rfl); (focus (clear hSw; go_simp; (try with_reducible rfl); done)); (try simp only [Act.put, List.setIfInBounds_toArray, List.set_cons_zero, List.set_cons_succ]))
                                (refine Lex.step_val (v := ?_) ?_ (fun w' hSw => ?_) ?_; rotate_left; (focus rfl); (focus (clear hSw; go_simp; (try with_reducible rfl); done)); (try simp only [Act.put, List.setIfInBounds_toArray, List.set_cons_zero, List.set_cons_succ]))
                                (refine Lex.step_val (v := ?_) ?_ (fun w' hSw => ?_) ?_; rotate_left; (focus (go_simp; done)); (focus ((try dsimp only at hSw); go_simp; (try with_reducible rfl); done)); (try simp only [Act.put, List.setIfInBounds_toArray, List.set_cons_zero, List.set_cons_succ]))
                                (refine Lex.step_val (v := ?_) ?_ (fun w' hSw => ?_) ?_; rotate_left; (focus (go_simp; done)); (focus (clear hSw; go_simp; (try with_reducible rfl); done)); (try simp only [Act.put, List.setIfInBounds_toArray, List.set_cons_zero, List.set_cons_succ]))
                                (refine Lex.step_val (v := ?_) ?_ (fun w' hSw => ?_) ?_; rotate_left; (focus (go_simp; done)); (focus ((try dsimp only at hSw); go_simp; (try with_reducible rfl); done)); (try simp only [Act.put, List.setIfInBounds_toArray, List.set_cons_zero, List.set_cons_succ]))
                                (refine Lex.step_call (v := ?_) (f := ?_) (args := ?_) ?_ (fun w' hSw => ?_) ?_ ?_; rotate_left 3; (focus (go_simp; done)); (focus (clear hSw; go_simp; (refine And.intro ?_ ?_ <;> with_reducible rfl); done)); (focus (first | with_reducible exact H1.out | with_reducible exact H2.out)); (try simp only [Act.put, List.setIfInBounds_toArray, List.set_cons_zero, List.set_cons_succ]))
                                (refine Lex.step_val (v := ?_) ?_ (fun w' hSw => ?_) ?_; rotate_left; (focus (go_simp; done)); (focus (clear hSw; go_simp; (try with_reducible rfl); done)); (try simp only [Act.put, List.setIfInBounds_toArray, List.set_cons_zero, List.set_cons_succ]))
                                (refine Lex.step_val (v := ?_) ?_ (fun w' hSw => ?_) ?_; rotate_left; (focus rfl); (focus (clear hSw; go_simp; (try with_reducible rfl); done)); (try simp only [Act.put, List.setIfInBounds_toArray, List.set_cons_zero, List.set_cons_succ]))
                                (refine Lex.step_val (v := ?_) ?_ (fun w' hSw => ?_) ?_; rotate_left; (focus rfl); (focus (clear hSw; go_simp; (try with_reducible rfl); done)); (try simp only [Act.put, List.setIfInBounds_toArray, List.set_cons_zero, List.set_cons_succ]))
                                (refine Lex.step_val (v := ?_) ?_ (fun w' hSw => ?_) ?_; rotate_left; (focus (go_simp; done)); (focus ((try dsimp only at hSw); go_simp; (try with_reducible rfl); done)); (try simp only [Act.put, List.setIfInBounds_toArray, List.set_cons_zero, List.set_cons_succ]))
                                (refine Lex.step_val (v := ?_) ?_ (fun w' hSw => ?_) ?_; rotate_left; (focus (go_simp; done)); (focus (clear hSw; go_simp; (try with_reducible rfl); done)); (try simp only [Act.put, List.setIfInBounds_toArray, List.set_cons_zero, List.set_cons_succ]))
                                (refine Lex.step_val (v := ?_) ?_ (fun w' hSw => ?_) ?_; rotate_left; (focus (go_simp; done)); (focus ((try dsimp only at hSw); go_simp; (try with_reducible rfl); done)); (try simp only [Act.put, List.setIfInBounds_toArray, List.set_cons_zero, List.set_cons_succ]))
                                (refine Lex.step_call (v := ?_) (f := ?_) (args := ?_) ?_ (fun w' hSw => ?_) ?_ ?_; rotate_left 3; (focus (go_simp; done)); (focus (clear hSw; go_simp; (refine And.intro ?_ ?_ <;> with_reducible rfl); done)); (focus (first | with_reducible exact H1.out | with_reducible exact H2.out)); (try simp only [Act.put, List.setIfInBounds_toArray, List.set_cons_zero, List.set_cons_succ]))
                                (refine Lex.step_val (v := ?_) ?_ (fun w' hSw => ?_) ?_; rotate_left; (focus (go_simp; done)); (focus (clear hSw; go_simp; (try with_reducible rfl); done)); (try simp only [Act.put, List.setIfInBounds_toArray, List.set_cons_zero, List.set_cons_succ]))
                                (refine Lex.step_val (v := ?_) ?_ (fun w' hSw => ?_) ?_; rotate_left; (focus rfl); (focus (clear hSw; go_simp; (try with_reducible rfl); done)); (try simp only [Act.put, List.setIfInBounds_toArray, List.set_cons_zero, List.set_cons_succ]))
                                refine Lex.step_nil ?_
                                intro wz hz
                                have HX7 := Lib.hid (HB1.out.trans ((HX6.out.trans ((ah_in hz).below.mono HX6.out.size)).mono HB1.out.size))
                                go_wp2_with fail
                                go_ret
                                exact ⟨ret_int HR.out.symm, HX7.out⟩
                            · rw [tt_neg c3] at LKL
                              have HR : Hid (refchk x = 9) := refchk_neg (fun h => c3 (HRN.out h).2.2.1)
                              have H1 := Lib.hid LKL
                              clear HRM HRN c1 c2 c3 LKL LKR e0 e1 e2 m6 hpc
                              refine Lex.region (fun w' => AAll w.heap.size wr.heap.size b (o + m * 3) x (⟨a1, c1, a2, c2, a3, c3, a4, c4, a5, c5, some ⟨b, o, none⟩, c6, a7, c7⟩ : At) t pv w6 w') (by kernel_rfl) (by kernel_rfl) FI.out ?_
                              (refine Lex.step_val (v := ?_) ?_ (fun w' hSw => ?_) ?_; rotate_left; (focus rfl); (focus (clear hSw; go_simp; (try with_reducible rfl); done)); (try simp only [Act.put, List.setIfInBounds_toArray, List.set_cons_zero, List.set_cons_succ]))
                              (refine Lex.step_val (v := ?_) ?_ (fun w' hSw => ?_) ?_; rotate_left; (focus rfl); (focus (clear hSw; go_simp; (try with_reducible rfl); done)); (try simp only [Act.put, List.setIfInBounds_toArray, List.set_cons_zero, List.set_cons_succ]))
                              (refine Lex.step_val (v := ?_) ?_ (fun w' hSw => ?_) ?_; rotate_left; (focus rfl); (focus (clear hSw; go_simp; (try with_reducible rfl); done)); (try simp only [Act.put, List.setIfInBounds_toArray, List.set_cons_zero, List.set_cons_succ]))
                              (refine Lex.step_val (v := ?_) ?_ (fun w' hSw => ?_) ?_; rotate_left; (focus (go_simp; done)); (focus (clear hSw; go_simp; (try with_reducible rfl); done)); (try simp only [Act.put, List.setIfInBounds_toArray, List.set_cons_zero, List.set_cons_succ]))
                              (refine Lex.step_val (v := ?_) ?_ (fun w' hSw => ?_) ?_; rotate_left; (focus (go_simp; done)); (focus ((try dsimp only at hSw); go_simp; (try with_reducible rfl); done)); (try simp only [Act.put, List.setIfInBounds_toArray, List.set_cons_zero, List.set_cons_succ]))
                              (refine Lex.step_val (v := ?_) ?_ (fun w' hSw => ?_) ?_; rotate_left; (focus (go_simp; done)); (focus (clear hSw; go_simp; (try with_reducible rfl); done)); (try simp only [Act.put, List.setIfInBounds_toArray, List.set_cons_zero, List.set_cons_succ]))
                              (refine Lex.step_val (v := ?_) ?_ (fun w' hSw => ?_) ?_; rotate_left; (focus (go_simp; done)); (focus ((try dsimp only at hSw); go_simp; (try with_reducible rfl); done)); (try simp only [Act.put, List.setIfInBounds_toArray, List.set_cons_zero, List.set_cons_succ]))
                              (refine Lex.step_val (v := ?_) ?_ (fun w' hSw => ?_) ?_; rotate_left; (focus (go_simp; done)); (focus (clear hSw; go_simp; (try with_reducible rfl); done)); (try simp only [Act.put, List.setIfInBounds_toArray, List.set_cons_zero, List.set_cons_succ]))
                              (refine Lex.step_val (v := ?_) ?_ (fun w' hSw => ?_) ?_; rotate_left; (focus (go_simp; done)); (focus (clear hSw; go_simp; (try with_reducible rfl); done)); (try simp only [Act.put, List.setIfInBounds_toArray, List.set_cons_zero, List.set_cons_succ]))
                              (refine Lex.step_val (v := ?_) ?_ (fun w' hSw => ?_) ?_; rotate_left; (focus (go_simp; done)); (focus (clear hSw; go_simp; (try with_reducible rfl); done)); (try simp only [Act.put, List.setIfInBounds_toArray, List.set_cons_zero, List.set_cons_succ]))
                              (refine Lex.step_val (v := ?_) ?_ (fun w' hSw => ?_) ?_; rotate_left; (focus (go_simp; done)); (focus (clear hSw; go_simp; (try with_reducible rfl); done)); (try simp only [Act.put, List.setIfInBounds_toArray, List.set_cons_zero, List.set_cons_succ]))
                              (refine Lex.step_val (v := ?_) ?_ (fun w' hSw => ?_) ?_; rotate_left; (focus (go_simp; done)); (focus ((try dsimp only at hSw); go_simp; (try with_reducible rfl); done)); (try simp only [Act.put, List.setIfInBounds_toArray, List.set_cons_zero, List.set_cons_succ]))
                              (refine Lex.step_val (v := ?_) ?_ (fun w' hSw => ?_) ?_; rotate_left; (focus (go_simp; done)); (focus (clear hSw; go_simp; (try with_reducible rfl); done)); (try simp only [Act.put, List.setIfInBounds_toArray, List.set_cons_zero, List.set_cons_succ]))
                              (refine Lex.step_val (v := ?_) ?_ (fun w' hSw => ?_) ?_; rotate_left; (focus rfl); (focus (clear hSw; go_simp; (try with_reducible rfl); done)); (try simp only [Act.put, List.setIfInBounds_toArray, List.set_cons_zero, List.set_cons_succ]))
                              (refine Lex.step_val (v := ?_) ?_ (fun w' hSw => ?_) ?_; rotate_left; (focus rfl); (focus (clear hSw; go_simp; (try with_reducible rfl); done)); (try simp only [Act.put, List.setIfInBounds_toArray, List.set_cons_zero, List.set_cons_succ]))
                              (refine Lex.step_val (v := ?_) ?_ (fun w' hSw => ?_) ?_; rotate_left; (focus (go_simp; done)); (focus (clear hSw; go_simp; (try with_reducible rfl); done)); (try simp only [Act.put, List.setIfInBounds_toArray, List.set_cons_zero, List.set_cons_succ]))
                              (refine Lex.step_val (v := ?_) ?_ (fun w' hSw => ?_) ?_; rotate_left; (focus (go_simp; done)); (focus ((try dsimp only at hSw); go_simp; (try with_reducible rfl); done)); (try simp only [Act.put, List.setIfInBounds_toArray, List.set_cons_zero, List.set_cons_succ]))
                              (refine Lex.step_val (v := ?_) ?_ (fun w' hSw => ?_) ?_; rotate_left; (focus (go_simp; done)); (focus (clear hSw; go_simp; (try with_reducible rfl); done)); (try simp only [Act.put, List.setIfInBounds_toArray, List.set_cons_zero, List.set_cons_succ]))
                              (refine Lex.step_val (v := ?_) ?_ (fun w' hSw => ?_) ?_; rotate_left; (focus (go_simp; done)); (focus ((try dsimp only at hSw); go_simp; (try with_reducible rfl); done)); (try simp only [Act.put, List.setIfInBounds_toArray, List.set_cons_zero, List.set_cons_succ]))
                              (refine Lex.step_val (v := ?_) ?_ (fun w' hSw => ?_) ?_; rotate_left; (focus (go_simp; done)); (focus (clear hSw; go_simp; (try with_reducible rfl); done)); (try simp only [Act.put, List.setIfInBounds_toArray, List.set_cons_zero, List.set_cons_succ]))
                              (refine Lex.step_val (v := ?_) ?_ (fun w' hSw => ?_) ?_; rotate_left; (focus rfl); (focus (clear hSw; go_simp; (try with_reducible rfl); done)); (try simp only [Act.put, List.setIfInBounds_toArray, List.set_cons_zero, List.set_cons_succ]))
                              (refine Lex.step_val (v := ?_) ?_ (fun w' hSw => ?_) ?_; rotate_left; (focus rfl); (focus (clear hSw; go_simp; (try with_reducible rfl); done)); (try simp only [Act.put, List.setIfInBounds_toArray, List.set_cons_zero, List.set_cons_succ]))
                              (refine Lex.step_val (v := ?_) ?_ (fun w' hSw => ?_) ?_; rotate_left; (focus (go_simp; done)); (focus (clear hSw; go_simp; (try with_reducible rfl); done)); (try simp only [Act.put, List.setIfInBounds_toArray, List.set_cons_zero, List.set_cons_succ]))
                              (refine Lex.step_val (v := ?_) ?_ (fun w' hSw => ?_) ?_; rotate_left; (focus (go_simp; done)); (focus ((try dsimp only at hSw); go_simp; (try with_reducible rfl); done)); (try simp only [Act.put, List.setIfInBounds_toArray, List.set_cons_zero, List.set_cons_succ]))
                              (refine Lex.step_val (v := ?_) ?_ (fun w' hSw => ?_) ?_; rotate_left; (focus (go_simp; done)); (focus (clear hSw; go_simp; (try with_reducible rfl); done)); (try simp only [Act.put, List.setIfInBounds_toArray, List.set_cons_zero, List.set_cons_succ]))
                              (refine Lex.step_val (v := ?_) ?_ (fun w' hSw => ?_) ?_; rotate_left; (focus (go_simp; done)); (focus ((try dsimp only at hSw); go_simp; (try with_reducible rfl); done)); (try simp only [Act.put, List.setIfInBounds_toArray, List.set_cons_zero, List.set_cons_succ]))
                              (refine Lex.step_val (v := ?_) ?_ (fun w' hSw => ?_) ?_; rotate_left; (focus (go_simp; done)); (focus (clear hSw; go_simp; (try with_reducible rfl); done)); (try simp only [Act.put, List.setIfInBounds_toArray, List.set_cons_zero, List.set_cons_succ]))
                              (refine Lex.step_val (v := ?_) ?_ (fun w' hSw => ?_) ?_; rotate_left; (focus rfl); (focus (clear hSw; go_simp; (try with_reducible rfl); done)); (try simp only [Act.put, List.setIfInBounds_toArray, List.set_cons_zero, List.set_cons_succ]))
                              (refine Lex.step_val (v := ?_) ?_ (fun w' hSw => ?_) ?_; rotate_left; (focus rfl); (focus (clear hSw; go_simp; (try with_reducible rfl); done)); (try simp only [Act.put, List.setIfInBounds_toArray, List.set_cons_zero, List.set_cons_succ]))
                              (refine Lex.step_val (v := ?_) ?_ (fun w' hSw => ?_) ?_; rotate_left; (focus (go_simp; done)); (focus ((try dsimp only at hSw); go_simp; (try with_reducible rfl); done)); (try simp only [Act.put, List.setIfInBounds_toArray, List.set_cons_zero, List.set_cons_succ]))
                              (refine Lex.step_val (v := ?_) ?_ (fun w' hSw => ?_) ?_; rotate_left; (focus (go_simp; done)); (focus (clear hSw; go_simp; (try with_reducible rfl); done)); (try simp only [Act.put, List.setIfInBounds_toArray, List.set_cons_zero, List.set_cons_succ]))
                              (refine Lex.step_val (v := ?_) ?_ (fun w' hSw => ?_) ?_; rotate_left; (focus (go_simp; done)); (focus ((try dsimp only at hSw); go_simp; (try with_reducible rfl); done)); (try simp only [Act.put, List.setIfInBounds_toArray, List.set_cons_zero, List.set_cons_succ]))
                              (refine Lex.step_call (v := ?_) (f := ?_) (args := ?_) ?_ (fun w' hSw => ?_) ?_ ?_; rotate_left 3; (focus (go_simp; done)); (focus (clear hSw; go_simp; (refine And.intro ?_ ?_ <;> with_reducible rfl); done)); (focus (first | with_reducible exact H1.out)); (try simp only [Act.put, List.setIfInBounds_toArray, List.set_cons_zero, List.set_cons_succ]))
                              (refine Lex.step_val (v := ?_) ?_ (fun w' hSw => ?_) ?_; rotate_left; (focus (go_simp; done)); (focus (clear hSw; go_simp; (try with_reducible rfl); done)); (try simp only [Act.put, List.setIfInBounds_toArray, List.set_cons_zero, List.set_cons_succ]))
                              (refine Lex.step_val (v := ?_) ?_ (fun w' hSw => ?_) ?_; rotate_left; (focus rfl); (focus (clear hSw; go_simp; (try with_reducible rfl); done)); (try simp only [Act.put, List.setIfInBounds_toArray, List.set_cons_zero, List.set_cons_succ]))
                              (refine Lex.step_val (v := ?_) ?_ (fun w' hSw => ?_) ?_; rotate_left; (focus rfl); (focus (clear hSw; go_simp; (try with_reducible rfl); done)); (try simp only [Act.put, List.setIfInBounds_toArray, List.set_cons_zero, List.set_cons_succ]))
                              (refine Lex.step_off ?_ ?_; (focus (first | (go_simp; done) | (simp [Region.wanted, yielded, undef]; done) | rfl)); (try simp only [Act.put, List.setIfInBounds_toArray, List.set_cons_zero, List.set_cons_succ]))
                              (refine Lex.step_off ?_ ?_; (focus (first | (go_simp; done) | (simp [Region.wanted, yielded, undef]; done) | rfl)); (try simp only [Act.put, List.setIfInBounds_toArray, List.set_cons_zero, List.set_cons_succ]))
                              (refine Lex.step_off ?_ ?_; (focus (first | (go_simp; done) | (simp [Region.wanted, yielded, undef]; done) | rfl)); (try simp only [Act.put, List.setIfInBounds_toArray, List.set_cons_zero, List.set_cons_succ]))
                              (refine Lex.step_off ?_ ?_; (focus (first | (go_simp; done) | (simp [Region.wanted, yielded, undef]; done) | rfl)); (try simp only [Act.put, List.setIfInBounds_toArray, List.set_cons_zero, List.set_cons_succ]))
                              (refine Lex.step_off ?_ ?_; (focus (first | (go_simp; done) | (simp [Region.wanted, yielded, undef]; done) | rfl)); (try simp only [Act.put, List.setIfInBounds_toArray, List.set_cons_zero, List.set_cons_succ]))
                              (refine Lex.step_val (v := ?_) ?_ (fun w' hSw => ?_) ?_; rotate_left; (focus rfl); (focus (clear hSw; go_simp; (try with_reducible rfl); done)); (try simp only [Act.put, List.setIfInBounds_toArray, List.set_cons_zero, List.set_cons_succ]))
                              refine Lex.step_nil ?_
                              intro wz hz
                              have HX7 := Lib.hid (HB1.out.trans ((HX6.out.trans ((ah_in hz).below.mono HX6.out.size)).mono HB1.out.size))
                              go_wp2_with fail
                              go_ret
                              exact ⟨ret_int HR.out.symm, HX7.out⟩
                          · have hc2 : decide (t.1 ≤ t.2.2) = true := decide_eq_true (by omega)
                            have HR : Hid (refchk x = 9) := refchk_neg (fun h => c2 (HRN.out h).2.1)
                            clear HRM HRN c1 c2 LKL LKR
                            go_quiet (fail)
                            go_wp2_with fail
                            go_ret
                            exact ⟨ret_int HR.out.symm, below_drewN HY6.out _⟩
                        · have hc1 : decide (t.1 ≤ t.2.1) = true := decide_eq_true (by omega)
                          have HR : Hid (refchk x = 9) := refchk_neg (fun h => c1 (HRN.out h).1)
                          clear HRM HRN c1 LKL LKR
                          go_quiet (fail)
                          go_wp2_with fail
                          go_ret
                          exact ⟨ret_int HR.out.symm, below_drewN HY6.out _⟩
                      · have hsd : decide (t.1 ≤ pv) = true := decide_eq_true (by omega)
                        have HR : Hid (refchk x = 9) := refchk_neg (fun h => hs (HOB.out h))
                        clear hm hs hkp HOA HOB
                        have FI : Hid (AAll w.heap.size wr.heap.size b (o + m * 3) x (⟨a1, c1, a2, c2, a3, c3, a4, c4, a5, c5, some ⟨b, o, none⟩, c6, a7, c7⟩ : At) t pv w6 w6.drew) := ah_all ⟨(Below.refl _ _).drew, CB.next (Below.refl _ _).drew (Nat.le_refl _), hT6.next (Below.refl _ _).drew (Nat.le_refl _), Nat.lt_of_lt_of_le hbs HX6.out.size, hpc⟩
                        have LKL := fun (X : World) (hX : AAll w.heap.size wr.heap.size b (o + m * 3) x (⟨a1, c1, a2, c2, a3, c3, a4, c4, a5, c5, some ⟨b, o, none⟩, c6, a7, c7⟩ : At) t pv w6 X) => (HK.out X (HX6.out.trans ((ah_in hX).below.mono HX6.out.size)) t.2.1 hl64.2.1).mono fun e w' h => (⟨h.1, ah_all ((ah_in hX).more h.2)⟩ : e = .returned (.bool (tt (KnR x t.2.1))) ∧ AAll w.heap.size wr.heap.size b (o + m * 3) x (⟨a1, c1, a2, c2, a3, c3, a4, c4, a5, c5, some ⟨b, o, none⟩, c6, a7, c7⟩ : At) t pv w6 w')
                        have LKR := fun (X : World) (hX : AAll w.heap.size wr.heap.size b (o + m * 3) x (⟨a1, c1, a2, c2, a3, c3, a4, c4, a5, c5, some ⟨b, o, none⟩, c6, a7, c7⟩ : At) t pv w6 X) => (HK.out X (HX6.out.trans ((ah_in hX).below.mono HX6.out.size)) t.2.2 hl64.2.2).mono fun e w' h => (⟨h.1, ah_all ((ah_in hX).more h.2)⟩ : e = .returned (.bool (tt (KnR x t.2.2))) ∧ AAll w.heap.size wr.heap.size b (o + m * 3) x (⟨a1, c1, a2, c2, a3, c3, a4, c4, a5, c5, some ⟨b, o, none⟩, c6, a7, c7⟩ : At) t pv w6 w')
                        have e0 := hT6.t0
                        have e1 := hT6.t1
                        have e2 := hT6.t2
                        have m6 : w6.cell? ⟨w.heap.size, 6, none⟩ = some (.slice (some ⟨b, o, none⟩) x.ands.length c6) := CB.k6
                        clear CB hT6 hl64 hbs
                        clear LKL LKR HRM HRN
                        go_quiet (fail)
                        go_wp2_with fail
                        go_ret
                        exact ⟨ret_int HR.out.symm, below_drewN HY6.out _⟩
                  · have hke : k = x.ands.length := by omega
                    have HAT : Hid (∀ t ∈ x.ands, AndR x t) := fun t ht => by
                      obtain ⟨j, hj, rfl⟩ := List.mem_iff_getElem.1 ht
                      exact hI.out j hj (by omega)
                    have HRR : Hid (Rises x x.ands.length) := by rw [← hke]; exact hRi
                    have HLN : Hid ((ownL x).length = x.ins.length + x.lats.length + k) := by show _ = _; rw [own_len, hke]
                    have hfull : ownP x (x.ins.length + x.lats.length + k) = ownL x := by unfold ownP; rw [← HLN.out, List.take_length]
                    rw [hfull] at hown
                    obtain ⟨a5', c5', hae, hos⟩ := own_sl hown
                    simp only [Value.slice.injEq, true_and] at hae
                    obtain ⟨rfl, rfl⟩ := hae
                    have HOS := Lib.hid hos
                    have hoc := hos.cap
                    have hog := hos.big
                    have HBX := Lib.hid hbW
                    have HBY0 := Lib.hid (HB1.out.trans (hbW.mono HB1.out.size))
                    have HMX : Hid (0 ≤ x.max ∧ x.max ≤ 2048) := ⟨HQ.out.1, HQ.out.2.1⟩
                    clear hke hI hRi hB hbW hsl hca hga hfull hos hown
                    go_wp2_with fail
                    clear j6
                    go_loopw [8] (fun s wq => ∃ i : Nat, i ≤ x.ins.length + x.lats.length + k ∧ s = .int .i64 i ∧ Hid (∀ j, j < i → ROwn x j) ∧ Hid (Below wr.heap.size wr wq)) (fun s _ => x.ins.length + x.lats.length + k - (intOf s).toNat)
                    case atStart => exact ⟨0, Nat.zero_le _, rfl, (fun j h => by omega), Below.refl _ _⟩
                    case round =>
                      obtain ⟨i, hi, rfl, hI, hB⟩ := hrel
                      have HBW := Lib.hid (HBX.out.trans (hB.out.mono HBX.out.size))
                      have HBY := Lib.hid (HB1.out.trans (HBW.out.mono HB1.out.size))
                      have hos := HOS.out.next hB.out
                      by_cases hil : i < x.ins.length + x.lats.length + k
                      · obtain ⟨b, o, hx, rfl, hbs, d0⟩ := hos.int hil
                        have m0 : wr.cell? ⟨w.heap.size, 0, none⟩ = some (.int .i64 x.max) := (KB.out wr HBW.out).k0
                        have HAS0 := fun (V : World) (hV : Below wr.heap.size wr V) (y : Int) => has_any V (some ⟨b, o, none⟩) i c8 ((ownL x).take i) ⟨by rw [ints_len, List.length_take]; omega, by omega, hog, (fun h => by cases h), fun j u hu => by
                          have hs := hos.next hV
                          have hj : j < i := by
                            have := (List.getElem?_eq_some_iff.1 hu).1
                            rw [ints_len, List.length_take] at this
                            omega
                          refine hs.cell j u ?_
                          rw [← hu]
                          unfold ints
                          rw [List.getElem?_map, List.getElem?_map, List.getElem?_take_of_lt hj]⟩ y
                        have HRM : Hid ((2 ≤ (ownL x)[i] ∧ (ownL x)[i] % 2 ≠ 1 ∧ (ownL x)[i] ≤ 2 * x.max ∧ ¬ (ownL x)[i] ∈ (ownL x).take i) → ∀ j, j < i + 1 → ROwn x j) := fun h j hj => by
                          by_cases he : j = i
                          · subst he; exact fun _ => h
                          · exact hI.out j (by omega)
                        have HRN : Hid (RefOk x → 2 ≤ (ownL x)[i] ∧ (ownL x)[i] % 2 ≠ 1 ∧ (ownL x)[i] ≤ 2 * x.max ∧ ¬ (ownL x)[i] ∈ (ownL x).take i) := fun h => h.2.2.2.2.2.2.2.2.1 i hx
                        have hic : i ≤ c8 := by omega
                        have HBQ := Lib.hid hB.out
                        clear hI hB hos
                        generalize (ownL x)[i] = y at *
                        have hMX := HMX.out
                        have hmul : IntKind.i64.wrap (2 * x.max) = 2 * x.max := by rw [IntKind.wrap_i64]; omega
                        clear hMX
                        by_cases z1 : 2 ≤ y
                        · have hz1 : decide (y < 2) = false := decide_eq_false (by omega)
                          have htm : y.tmod 2 = y % 2 := Int.tmod_eq_emod_of_nonneg (by omega)
                          by_cases z2 : y % 2 = 1
                          · have hz2 : (y % 2 == 1) = true := by rw [z2]; rfl
                            have HR : Hid (refchk x = 9) := refchk_neg (fun h => (HRN.out h).2.1 z2)
                            clear HRM HRN HAS0 z1 z2
                            go_upto_region 22 with fail
                            go_quiet (fail)
                            go_wp2_with fail
                            go_ret
                            exact ⟨ret_int HR.out.symm, below_drewN HBY.out _⟩
                          · have hz2 : (y % 2 == 1) = false := by simpa using z2
                            by_cases z3 : y ≤ 2 * x.max
                            · have hz3 : decide (2 * x.max < y) = false := decide_eq_false (by omega)
                              have HAS := fun V hV => HAS0 V hV y
                              by_cases z4 : y ∈ (ownL x).take i
                              · rw [tt_pos z4] at HAS
                                have HASH := Lib.hid HAS
                                have HR : Hid (refchk x = 9) := refchk_neg (fun h => (HRN.out h).2.2.2 z4)
                                clear HRM HRN HAS0 HAS z1 z2 z3 z4
                                go_upto_region 22 with fail
                                go_quiet ((go_at_call 31; exact Calls.quiet_of_same ((HASH.out _ (by first | exact below_drewN (Below.refl _ _) _ | exact (Below.refl _ _).drew | exact Below.refl _ _)).mono fun e w' h => ⟨h.1, h.2.symm⟩)))
                                go_wp2_with fail
                                go_ret
                                exact ⟨ret_int HR.out.symm, below_drewN HBY.out _⟩
                              · rw [tt_neg z4] at HAS
                                have HASH := Lib.hid HAS
                                have HR := Lib.hid (HRM.out ⟨z1, z2, z3, z4⟩)
                                clear HRM HRN HAS0 HAS z1 z2 z3 z4
                                go_upto_region 22 with fail
                                go_quiet ((go_at_call 31; exact Calls.quiet_of_same ((HASH.out _ (by first | exact below_drewN (Below.refl _ _) _ | exact (Below.refl _ _).drew | exact Below.refl _ _)).mono fun e w' h => ⟨h.1, h.2.symm⟩)))
                                go_wp2_with fail
                                go_roundw
                                case rel => exact ⟨i + 1, by omega, by go_num, HR.out, below_drewN HBQ.out _⟩
                                case measure => simp [intOf]; omega
                            · have hz3 : decide (2 * x.max < y) = true := decide_eq_true (by omega)
                              have HR : Hid (refchk x = 9) := refchk_neg (fun h => z3 (HRN.out h).2.2.1)
                              clear HRM HRN HAS0 z1 z2 z3
                              go_upto_region 22 with fail
                              go_quiet (fail)
                              go_wp2_with fail
                              go_ret
                              exact ⟨ret_int HR.out.symm, below_drewN HBY.out _⟩
                        · have hz1 : decide (y < 2) = true := decide_eq_true (by omega)
                          have HR : Hid (refchk x = 9) := refchk_neg (fun h => z1 (HRN.out h).1)
                          clear HRM HRN HAS0 z1
                          go_upto_region 22 with fail
                          go_quiet (fail)
                          go_wp2_with fail
                          go_ret
                          exact ⟨ret_int HR.out.symm, below_drewN HBY.out _⟩
                      · have HOWN : Hid (∀ i, ROwn x i) := fun j hj => hI.out j (by have := HLN.out; omega) hj
                        have CB := KB.out wr HBW.out
                        have m0 : wr.cell? ⟨w.heap.size, 0, none⟩ = some (.int .i64 x.max) := CB.k0
                        have m1 : wr.cell? ⟨w.heap.size, 1, none⟩ = some (.slice a1 x.ins.length c1) := CB.k1
                        have m2 : wr.cell? ⟨w.heap.size, 2, none⟩ = some (.slice a2 x.lats.length c2) := CB.k2
                        have m3 : wr.cell? ⟨w.heap.size, 3, none⟩ = some (.slice a3 x.outs.length c3) := CB.k3
                        have m4 : wr.cell? ⟨w.heap.size, 4, none⟩ = some (.slice a4 x.bads.length c4) := CB.k4
                        have m5 : wr.cell? ⟨w.heap.size, 5, none⟩ = some (.slice a5 x.invs.length c5) := CB.k5
                        have m6 : wr.cell? ⟨w.heap.size, 6, none⟩ = some (.slice a6 x.ands.length c6) := CB.k6
                        have m7 : wr.cell? ⟨w.heap.size, 7, none⟩ = some (.slice a7 x.names.length c7) := CB.k7
                        have HA1 := Lib.hid (HA.out wr HBW.out a3 c3 x.outs (HIN.out wr HBW.out).outs HW.out.outs)
                        have HA2 := Lib.hid (fun V hV => HA.out V hV a4 c4 x.bads (HIN.out V hV).bads HW.out.bads)
                        have HA3 := Lib.hid (fun V hV => HA.out V hV a5 c5 x.invs (HIN.out V hV).invs HW.out.invs)
                        clear hI hB hos CB
                        by_cases z1 : AllR x x.outs
                        · rw [tt_pos z1] at HA1
                          go_wp2_with fail
                          with_reducible refine HA1.out.mono ?_
                          rintro e w6 ⟨rfl, hb6⟩
                          have HX6 := Lib.hid (HBW.out.trans (hb6.mono HBW.out.size))
                          have CB := KB.out w6 HX6.out
                          have n0 : w6.cell? ⟨w.heap.size, 0, none⟩ = some (.int .i64 x.max) := CB.k0
                          have n1 : w6.cell? ⟨w.heap.size, 1, none⟩ = some (.slice a1 x.ins.length c1) := CB.k1
                          have n2 : w6.cell? ⟨w.heap.size, 2, none⟩ = some (.slice a2 x.lats.length c2) := CB.k2
                          have n3 : w6.cell? ⟨w.heap.size, 3, none⟩ = some (.slice a3 x.outs.length c3) := CB.k3
                          have n4 : w6.cell? ⟨w.heap.size, 4, none⟩ = some (.slice a4 x.bads.length c4) := CB.k4
                          have n5 : w6.cell? ⟨w.heap.size, 5, none⟩ = some (.slice a5 x.invs.length c5) := CB.k5
                          have n6 : w6.cell? ⟨w.heap.size, 6, none⟩ = some (.slice a6 x.ands.length c6) := CB.k6
                          have n7 : w6.cell? ⟨w.heap.size, 7, none⟩ = some (.slice a7 x.names.length c7) := CB.k7
                          have HA2' := Lib.hid (HA2.out w6 HX6.out)
                          clear hb6 CB m0 m1 m2 m3 m4 m5 m6 m7
                          by_cases z2 : AllR x x.bads
                          · rw [tt_pos z2] at HA2'
                            go_wp2_with fail
                            with_reducible refine HA2'.out.mono ?_
                            rintro e w7 ⟨rfl, hb7⟩
                            have HX7 := Lib.hid (HX6.out.trans (hb7.mono HX6.out.size))
                            have CB := KB.out w7 HX7.out
                            have l0 : w7.cell? ⟨w.heap.size, 0, none⟩ = some (.int .i64 x.max) := CB.k0
                            have l1 : w7.cell? ⟨w.heap.size, 1, none⟩ = some (.slice a1 x.ins.length c1) := CB.k1
                            have l2 : w7.cell? ⟨w.heap.size, 2, none⟩ = some (.slice a2 x.lats.length c2) := CB.k2
                            have l3 : w7.cell? ⟨w.heap.size, 3, none⟩ = some (.slice a3 x.outs.length c3) := CB.k3
                            have l4 : w7.cell? ⟨w.heap.size, 4, none⟩ = some (.slice a4 x.bads.length c4) := CB.k4
                            have l5 : w7.cell? ⟨w.heap.size, 5, none⟩ = some (.slice a5 x.invs.length c5) := CB.k5
                            have l6 : w7.cell? ⟨w.heap.size, 6, none⟩ = some (.slice a6 x.ands.length c6) := CB.k6
                            have l7 : w7.cell? ⟨w.heap.size, 7, none⟩ = some (.slice a7 x.names.length c7) := CB.k7
                            have HA3' := Lib.hid (HA3.out w7 HX7.out)
                            clear hb7 CB n0 n1 n2 n3 n4 n5 n6 n7
                            by_cases z3 : AllR x x.invs
                            · rw [tt_pos z3] at HA3'
                              have HR : Hid (refchk x = 0) := refchk_pos ⟨HQ.out.1, HQ.out.2.1, HQ.out.2.2.1, HQ.out.2.2.2.1, HQ.out.2.2.2.2, HLT.out, HAT.out, HRR.out, HOWN.out, z1, z2, z3⟩
                              clear z1 z2 z3
                              go_wp2_with fail
                              with_reducible refine HA3'.out.mono ?_
                              rintro e w8 ⟨rfl, hb8⟩
                              have HX8 := Lib.hid (HB1.out.trans ((HX7.out.trans (hb8.mono HX7.out.size)).mono HB1.out.size))
                              clear hb8 l0 l1 l2 l3 l4 l5 l6 l7
                              go_wp2_with fail
                              go_ret
                              exact ⟨ret_int HR.out.symm, HX8.out⟩
                            · rw [tt_neg z3] at HA3'
                              have HR : Hid (refchk x = 9) := refchk_neg (fun h => z3 h.2.2.2.2.2.2.2.2.2.2.2)
                              clear z1 z2 z3
                              go_wp2_with fail
                              with_reducible refine HA3'.out.mono ?_
                              rintro e w8 ⟨rfl, hb8⟩
                              have HX8 := Lib.hid (HB1.out.trans ((HX7.out.trans (hb8.mono HX7.out.size)).mono HB1.out.size))
                              clear hb8 l0 l1 l2 l3 l4 l5 l6 l7
                              go_wp2_with fail
                              go_ret
                              exact ⟨ret_int HR.out.symm, HX8.out⟩
                          · rw [tt_neg z2] at HA2'
                            have HR : Hid (refchk x = 9) := refchk_neg (fun h => z2 h.2.2.2.2.2.2.2.2.2.2.1)
                            clear z1 z2
                            go_wp2_with fail
                            with_reducible refine HA2'.out.mono ?_
                            rintro e w7 ⟨rfl, hb7⟩
                            have HX7 := Lib.hid (HB1.out.trans ((HX6.out.trans (hb7.mono HX6.out.size)).mono HB1.out.size))
                            clear hb7 n0 n1 n2 n3 n4 n5 n6 n7
                            go_wp2_with fail
                            go_ret
                            exact ⟨ret_int HR.out.symm, HX7.out⟩
                        · rw [tt_neg z1] at HA1
                          have HR : Hid (refchk x = 9) := refchk_neg (fun h => z1 h.2.2.2.2.2.2.2.2.2.1)
                          clear z1
                          go_wp2_with fail
                          with_reducible refine HA1.out.mono ?_
                          rintro e w6 ⟨rfl, hb6⟩
                          have HX6 := Lib.hid (HB1.out.trans ((HBW.out.trans (hb6.mono HBW.out.size)).mono HB1.out.size))
                          clear hb6 m0 m1 m2 m3 m4 m5 m6 m7
                          go_wp2_with fail
                          go_ret
                          exact ⟨ret_int HR.out.symm, HX6.out⟩
          · rw [tt_neg q4] at HN
            have HR : Hid (refchk x = 9) := refchk_neg (fun h => q4 h.2.2.2.2.1)
            clear q4
            go_enter Tryz.func12, Tryz.ntmps12
            go_wp2_with fail
            with_reducible refine HN.out.mono ?_
            rintro e w3 ⟨rfl, hb3⟩
            have HB3 := Lib.hid (HB1.out.trans (hb3.mono HB1.out.size))
            clear hb3
            go_wp2_with fail
            go_ret
            exact ⟨ret_int HR.out.symm, HB3.out⟩
        · have hd3 : decide ((64 : Int) < x.lats.length) = true := decide_eq_true (by omega)
          have hq3 : (64 : Int) < x.lats.length := by omega
          have HR : Hid (refchk x = 9) := refchk_neg (fun h => q3 h.2.2.2.1)
          clear q3
          go_enter Tryz.func12, Tryz.ntmps12
          go_wp2_with fail
          go_ret
          exact ⟨ret_int HR.out.symm, HB1.out⟩
      · have hd2 : decide ((64 : Int) < x.ins.length) = true := decide_eq_true (by omega)
        have hq2 : (64 : Int) < x.ins.length := by omega
        have HR : Hid (refchk x = 9) := refchk_neg (fun h => q2 h.2.2.1)
        clear q2
        go_enter Tryz.func12, Tryz.ntmps12
        go_wp2_with fail
        go_ret
        exact ⟨ret_int HR.out.symm, HB1.out⟩
    · have hd1 : decide ((2048 : Int) < x.max) = true := decide_eq_true (by omega)
      have hq1 : (2048 : Int) < x.max := by omega
      have HR : Hid (refchk x = 9) := refchk_neg (fun h => q1 h.2.1)
      clear q1
      go_enter Tryz.func12, Tryz.ntmps12
      go_wp2_with fail
      go_ret
      exact ⟨ret_int HR.out.symm, HB1.out⟩
  · have hd0 : decide (x.max < 0) = true := decide_eq_true (by omega)
    have hq0 : x.max < 0 := by omega
    have HR : Hid (refchk x = 9) := refchk_neg (fun h => q0 h.1)
    clear q0
    go_enter Tryz.func12, Tryz.ntmps12
    go_wp2_with fail
    go_ret
    exact ⟨ret_int HR.out.symm, HB1.out⟩

end Circuit
end Go.Proofs.YtjmmhbmbafjneaaGreatDoor
