/-
  circuit.Check: may a circuit be?
-/
import Derived.Test.YtjmmhbmbafjneaaGreatDoorDefWalk
import Derived.Test.YtjmmhbmbafjneaaGreatDoorAllKnown
import Derived.Test.YtjmmhbmbafjneaaGreatDoorNamed
import Derived.Test.YtjmmhbmbafjneaaGreatDoorCatch
namespace Go.Proofs.YtjmmhbmbafjneaaGreatDoor
open Go.RowKit Base Go.Maps
set_option linter.unusedVariables false
set_option linter.unusedSimpArgs false
namespace Circuit

def knownV (vs : List Int) (l : Int) : Prop := 0 ≤ l ∧ (l < 2 ∨ var l ∈ vs)

theorem known_iff {D : List (Int × ByteArray)} {vs : List Int} (h : Tells D vs) (l : Int) : known D l = true ↔ knownV vs l := by
  unfold known knownV
  rw [Bool.and_eq_true, Bool.or_eq_true, decide_eq_true_iff, decide_eq_true_iff, Bool.not_eq_true', h (var l)]

def Few (x : Circ) : Prop := 0 ≤ x.max ∧ x.max ≤ 2048 ∧ x.ins.length ≤ 64 ∧ x.lats.length ≤ 64 ∧ x.outs.length ≤ 64 ∧ x.bads.length ≤ 64 ∧ x.invs.length ≤ 64

abbrev vsOf (x : Circ) : List Int := (ownL x).map var

def AndOk (vs : List Int) (t : Tri) : Prop := knownV vs t.2.1 ∧ knownV vs t.2.2 ∧ t.2.1 < t.1 ∧ t.2.2 < t.1

/-- A circuit may be. -/
def CheckOk (x : Circ) : Prop :=
  Few x ∧ DefOk x ∧ (∀ t ∈ x.lats, knownV (vsOf x) t.2.1) ∧ (∀ t ∈ x.ands, AndOk (vsOf x) t) ∧
  (∀ l ∈ x.outs, knownV (vsOf x) l) ∧ (∀ l ∈ x.bads, knownV (vsOf x) l) ∧ (∀ l ∈ x.invs, knownV (vsOf x) l) ∧ NamesTo x x.names.length

noncomputable def chk (x : Circ) : Int := if tt (CheckOk x) = true then 0 else 9
theorem chk_pos {x : Circ} (h : CheckOk x) : chk x = 0 := by unfold chk; rw [tt_pos h]; rfl
theorem chk_neg {x : Circ} (h : ¬ CheckOk x) : chk x = 9 := by unfold chk; rw [tt_neg h]; rfl

theorem set9 {U : World} {N : Nat} (h : U.cell? ⟨N, 0, none⟩ = some (.int .i64 0)) : (U.setCell ⟨N, 0, none⟩ (.int .i64 9)).cell? ⟨N, 0, none⟩ = some (.int .i64 9) :=
  World.cell?_setCell_same' U _ _ (by rw [h]; rfl)

theorem max5 {P : Program} (ts : Array TypeId) (t : TypeId) (a b c d e : Int) : ∃ M : Int, (∀ w, (Builtin.max_ ts t #[.int .i64 a, .int .i64 b, .int .i64 c, .int .i64 d, .int .i64 e]).run P w = .ok (.int .i64 M) w) ∧ (M ≤ 64 ↔ a ≤ 64 ∧ b ≤ 64 ∧ c ≤ 64 ∧ d ≤ 64 ∧ e ≤ 64) := by
  refine ⟨_, fun w => by simp [Builtin.max_, Builtin.max2]; rfl, ?_⟩
  split <;> split <;> split <;> split <;> omega

/-- The result's box, at a world behind it. -/
structure Dr (w W1 U : World) : Prop where
  e0 : U.cell? ⟨W1.heap.size, 0, none⟩ = some (.int .i64 0)
  f0 : U.frozen? ⟨W1.heap.size, 0, none⟩ = false
  q9 : (U.setCell ⟨W1.heap.size, 0, none⟩ (.int .i64 9)).cell? ⟨W1.heap.size, 0, none⟩ = some (.int .i64 9)
  b9 : Below w.heap.size w (U.setCell ⟨W1.heap.size, 0, none⟩ (.int .i64 9))
  same : U.setCell ⟨W1.heap.size, 0, none⟩ (.int .i64 0) = U
  b0 : Below w.heap.size w U

theorem dr_of {w W1 W2 : World} (hlt : W1.heap.size < W2.heap.size) (hle : w.heap.size ≤ W1.heap.size) (hb : Below w.heap.size w W2) (e0 : W2.cell? ⟨W1.heap.size, 0, none⟩ = some (.int .i64 0)) (f0 : W2.frozen? ⟨W1.heap.size, 0, none⟩ = false) (U : World) (hU : Below W2.heap.size W2 U) : Dr w W1 U := by
  have h0 := (hU.cell (p := ⟨W1.heap.size, 0, none⟩) hlt).trans e0
  have hbU := hb.trans (hU.mono hb.size)
  exact ⟨h0, (hU.frozen (p := ⟨W1.heap.size, 0, none⟩) hlt).trans f0, set9 h0, hbU.setCell (p := ⟨W1.heap.size, 0, none⟩) hle _, setCell_same _ _ _ h0, hbU⟩

theorem count_few {x : Circ} (h : Few x) (k : ByteArray) : (countOf x k : Int) ≤ 1048576 := by
  obtain ⟨_, _, h1, h2, h3, h4, h5⟩ := h
  unfold countOf
  split
  · omega
  · split
    · omega
    · split
      · omega
      · split <;> omega

/-- known, by the variables. -/
theorem known_vs {V1 w4 : World} {n : Nat} {vs : List Int} (hN : Nm V1 n vs w4) (U : World) (hU : Below w4.heap.size w4 U) (l : Int) (hl : I64 l) :
    Calls Tryz.prog 68 #[.pointer (some ⟨V1.heap.size + 1, 0, none⟩), .int .i64 l] U fun e w' => e = .returned (.bool (tt (knownV vs l))) ∧ Below U.heap.size U w' := by
  have h := hN.next hU
  obtain ⟨D, hm, ht⟩ := h.met
  rw [tt_bool (known_iff ht l)]
  exact known_any U _ _ n D h.cell hm l hl

theorem all_vs {V1 w4 : World} {n : Nat} {vs : List Int} (hN : Nm V1 n vs w4) (U : World) (hU : Below w4.heap.size w4 U) (a : Option Addr) (m c : Nat) (l : List Int) (hsl : Sl U a m c (ints l)) (hl : ∀ x ∈ l, I64 x) :
    Calls Tryz.prog 69 #[.pointer (some ⟨V1.heap.size + 1, 0, none⟩), .slice a m c] U fun e w' => e = .returned (.bool (tt (∀ x ∈ l, knownV vs x))) ∧ Below U.heap.size U w' := by
  have h := hN.next hU
  obtain ⟨D, hm, ht⟩ := h.met
  have e : tt (∀ x ∈ l, knownV vs x) = l.all (known D) := tt_bool (by rw [List.all_eq_true]; exact ⟨fun g x hx => (known_iff ht x).1 (g x hx), fun g x hx => (known_iff ht x).2 (g x hx)⟩)
  rw [e]
  exact all_any U _ _ n D h.lt h.cell hm a m c l hsl hl

def LatsTo (x : Circ) (k : Nat) : Prop := ∀ j (h : j < x.lats.length), j < k → knownV (vsOf x) x.lats[j].2.1
def AndsTo (x : Circ) (k : Nat) : Prop := ∀ j (h : j < x.ands.length), j < k → AndOk (vsOf x) x.ands[j]

set_option maxRecDepth 8000 in
set_option maxHeartbeats 16000000 in
theorem check_any (w : World) (x : Circ) (p : At) (hin : InCirc w x p) (hwi : ∀ l ∈ x.ins, I64 l) (hwo : ∀ l ∈ x.outs, I64 l) (hwb : ∀ l ∈ x.bads, I64 l) (hwv : ∀ l ∈ x.invs, I64 l) (hwl : WfT x.lats) (hwa : WfT x.ands) (hwm : I64 x.max) :
    Calls Tryz.prog 38 #[.agg (cells x p)] w fun e w' => e = .returned (.int .i64 (chk x)) ∧ Below w.heap.size w w' := by
  obtain ⟨W1, hW1⟩ : ∃ W1, w.alloc (.cells (cells x p) 27) = W1 := ⟨_, rfl⟩
  obtain ⟨hb1, hcb⟩ := cbox_new w x p W1 hW1
  obtain ⟨W2, hW2⟩ : ∃ W2, W1.alloc (.cells #[.int .i64 0] 33) = W2 := ⟨_, rfl⟩
  have z1 : W1.heap.size = w.heap.size + 1 := by rw [← hW1]; simp
  have z2 : W2.heap.size = W1.heap.size + 1 := by rw [← hW2]; simp
  have hb2 : Below W1.heap.size W1 W2 := by rw [← hW2]; exact (Below.refl _ _).alloc (Nat.le_refl _) _
  have e0 : W2.cell? ⟨W1.heap.size, 0, none⟩ = some (.int .i64 0) := by rw [← hW2]; simp [go_sem]
  have f0 : W2.frozen? ⟨W1.heap.size, 0, none⟩ = false := by rw [← hW2]; simp [go_sem]
  have hcb2 := hcb.next hb2 (Nat.le_refl _)
  have HB2 := Lib.hid (hb1.trans (hb2.mono hb1.size))
  have KB := Lib.hid (fun (U : World) (hU : Below W2.heap.size W2 U) => hcb2.next hU (Nat.le_refl _))
  have HIN := Lib.hid (fun (U : World) (hU : Below W2.heap.size W2 U) => (hin.next (hb1.trans (hb2.mono hb1.size))).next hU)
  have hmf : ∀ (fn : Fn) (first cap : Array Value) (w : World), (Instr.makeFunc fn first cap).run Tryz.prog w = .ok (.func fn first cap) w := fun _ _ _ _ => rfl
  have NO := Lib.hid need_ok
  have NB := Lib.hid need_bad
  obtain ⟨a1, c1, a2, c2, a3, c3, a4, c4, a5, c5, a6, c6, a7, c7⟩ := p
  have k0 : W2.cell? ⟨w.heap.size, 0, none⟩ = some (.int .i64 x.max) := hcb2.k0
  have k1 : W2.cell? ⟨w.heap.size, 1, none⟩ = some (.slice a1 x.ins.length c1) := hcb2.k1
  have k2 : W2.cell? ⟨w.heap.size, 2, none⟩ = some (.slice a2 x.lats.length c2) := hcb2.k2
  have k3 : W2.cell? ⟨w.heap.size, 3, none⟩ = some (.slice a3 x.outs.length c3) := hcb2.k3
  have k4 : W2.cell? ⟨w.heap.size, 4, none⟩ = some (.slice a4 x.bads.length c4) := hcb2.k4
  have k5 : W2.cell? ⟨w.heap.size, 5, none⟩ = some (.slice a5 x.invs.length c5) := hcb2.k5
  have k6 : W2.cell? ⟨w.heap.size, 6, none⟩ = some (.slice a6 x.ands.length c6) := hcb2.k6
  have k7 : W2.cell? ⟨w.heap.size, 7, none⟩ = some (.slice a7 x.names.length c7) := hcb2.k7
  simp only [cells] at hW1 ⊢
  have HZ1 := Lib.hid z1
  have HZ2 := Lib.hid z2
  have DR := Lib.hid (fun U hU => dr_of (w := w) (W1 := W1) (W2 := W2) (by omega) (by omega) (hb1.trans (hb2.mono hb1.size)) e0 f0 U hU)
  obtain ⟨M, hmax, hM⟩ := max5 (P := Tryz.prog) #[3, 3, 3, 3, 3] 3 (x.ins.length : Int) (x.lats.length : Int) (x.outs.length : Int) (x.bads.length : Int) (x.invs.length : Int)
  have HM := Lib.hid hM
  have HDEF := Lib.hid (fun h1 h2 h3 => defined_any W2 x ⟨a1, c1, a2, c2, a3, c3, a4, c4, a5, c5, a6, c6, a7, c7⟩ (HIN.out W2 (Below.refl _ _)) hwi hwl hwa h1 h2 h3)
  have HWO := Lib.hid hwo
  have HWB := Lib.hid hwb
  have HWV := Lib.hid hwv
  have HWL := Lib.hid hwl
  have HWA := Lib.hid hwa
  simp only [cells] at HDEF
  clear z1 z2 hin hcb hcb2 hb1 hb2 e0 f0 hM hwi hwo hwb hwv hwl hwa hwm
  by_cases hm0 : 0 ≤ x.max
  · have hd0 : decide (0 ≤ x.max) = true := decide_eq_true hm0
    by_cases hm1 : x.max ≤ 2048
    · have hd1 : decide (x.max ≤ 2048) = true := decide_eq_true hm1
      by_cases hm2 : M ≤ 64
      · have hd2 : decide (M ≤ 64) = true := decide_eq_true hm2
        have HFEW : Hid (Few x) := by
          have h := HM.out.1 hm2
          refine ⟨hm0, hm1, ?_, ?_, ?_, ?_, ?_⟩ <;> omega
        have HDF := Lib.hid (HDEF.out hm1 HFEW.out.2.2.1 HFEW.out.2.2.2.1)
        clear hm0 hm1 hm2 HDEF HM
        go_enter_defers Tryz.func38, Tryz.ntmps38
        go_wp2_with fail
        with_reducible refine (NO.out _).mono ?_
        rintro e w9 ⟨rfl, rfl⟩
        go_wp2_with fail
        with_reducible refine HDF.out.mono ?_
        intro e w4 hout
        rcases hout with ⟨hok, V1, n, rfl, hbV, hN⟩ | ⟨hbad, rfl, hbV⟩
        · have HDK := Lib.hid hok
          have HB4 := Lib.hid (hbV.trans (hN.below.mono hbV.size))
          have HN4 := Lib.hid hN
          have KN := Lib.hid (known_vs hN)
          have j2 : w4.cell? ⟨w.heap.size, 2, none⟩ = some (.slice a2 x.lats.length c2) := (KB.out w4 HB4.out).k2
          clear hok hbV hN HDF k0 k1 k2 k3 k4 k5 k6 k7 hd0 hd1 hd2 hmax
          have hsl := (HIN.out w4 HB4.out).lats
          have hcl := hsl.cap
          have hgl := hsl.big
          have HSL := Lib.hid hsl
          clear hsl
          go_wp2_with fail
          clear j2
          go_loopw [42] (fun s wr => ∃ k : Nat, k ≤ x.lats.length ∧ s = .int .i64 k ∧ Hid (LatsTo x k) ∧ Hid (Below w4.heap.size w4 wr)) (fun s _ => x.lats.length - (intOf s).toNat)
          case atStart => exact ⟨0, Nat.zero_le _, rfl, (fun j _ h => by omega), Below.refl _ _⟩
          case round =>
            obtain ⟨k, hk, rfl, hI, hB⟩ := hrel
            by_cases hlt : k < x.lats.length
            · obtain ⟨b, o, hx, rfl, hbs, hc0, hc1, hc2⟩ := HSL.out.tri hlt
              have d0 := (hB.out.cell (p := ⟨b, o + k * 3, none⟩) hbs).trans hc0
              have d1 := (hB.out.cell (p := ⟨b, o + k * 3 + 1, none⟩) hbs).trans hc1
              have d2 := (hB.out.cell (p := ⟨b, o + k * 3 + 2, none⟩) hbs).trans hc2
              have hl64 := (HWL.out _ (List.getElem_mem hx)).2.1
              have HRM : Hid (knownV (vsOf x) x.lats[k].2.1 → LatsTo x (k + 1)) := fun h j hj hjk => by
                by_cases he : j = k
                · subst he; exact h
                · exact hI.out j hj (by omega)
              have HRN : Hid (CheckOk x → knownV (vsOf x) x.lats[k].2.1) := fun h => h.2.2.1 _ (List.getElem_mem hx)
              clear hc0 hc1 hc2
              generalize x.lats[k] = t at *
              obtain ⟨U, hU⟩ : ∃ U, wr.alloc (.cells (triC t) 71) = U := ⟨_, rfl⟩
              obtain ⟨hbU, htb⟩ := tbox_new wr t 71 U hU
              have hb4 := hB.out.trans (hbU.mono hB.out.size)
              have t1 := htb.t1
              have HK := Lib.hid (KN.out U hb4 t.2.1 hl64)
              have HB5 := Lib.hid hb4
              simp only [triC] at hU
              clear hbU htb hb4 hbs hI hB hl64
              by_cases hkn : knownV (vsOf x) t.2.1
              · rw [tt_pos hkn] at HK
                have HR := Lib.hid (HRM.out hkn)
                clear hkn HRM HRN
                go_wp2_with fail
                with_reducible refine HK.out.mono ?_
                rintro e w6 ⟨rfl, hb6⟩
                have HB6 := Lib.hid (HB5.out.trans (hb6.mono HB5.out.size))
                clear hb6
                go_wp2_with fail
                with_reducible refine (NO.out _).mono ?_
                rintro e w9 ⟨rfl, rfl⟩
                go_wp2_with fail
                go_roundw
                case rel => exact ⟨k + 1, by omega, by go_num, HR.out, HB6.out⟩
                case measure => simp [intOf]; omega
              · rw [tt_neg hkn] at HK
                have HR : Hid (chk x = 9) := chk_neg (fun h => hkn (HRN.out h))
                clear hkn HRM HRN
                go_wp2_with fail
                with_reducible refine HK.out.mono ?_
                rintro e w6 ⟨rfl, hb6⟩
                have HB6 := Lib.hid (HB4.out.trans ((HB5.out.trans (hb6.mono HB5.out.size)).mono HB4.out.size))
                clear hb6
                go_wp2_with fail
                with_reducible refine (NB.out _).mono ?_
                rintro e w9 ⟨rfl, rfl⟩
                have DD := DR.out w6 HB6.out
                have e0 := DD.e0
                have f0 := DD.f0
                have Q9 := Lib.hid DD.q9
                have HB9 := Lib.hid DD.b9
                go_wp2_with fail
                refine leaves_cons (f := 65) (args := #[.pointer (some ⟨W1.heap.size, 0, none⟩)]) (by simp) (by simp [go_sem]) ?_
                refine (catch_panicking ⟨W1.heap.size, 0, none⟩ 0 [] w6 e0 f0).mono ?_
                rintro e u' w'' ⟨rfl, rfl, rfl⟩
                simp [Leaves, settle, results, Tryz.results38, go_sem]
                rw [Q9.out]
                exact ⟨_, rfl, by rw [HR.out], HB9.out⟩
            · have hke : k = x.lats.length := by omega
              have HLT : Hid (LatsTo x x.lats.length) := by rw [← hke]; exact hI
              have HBR := Lib.hid hB.out
              have j6 : wr.cell? ⟨w.heap.size, 6, none⟩ = some (.slice a6 x.ands.length c6) := (KB.out wr (HB4.out.trans (hB.out.mono HB4.out.size))).k6
              have hsa := (HIN.out w4 HB4.out).ands
              have hca := hsa.cap
              have hga := hsa.big
              have HSA := Lib.hid hsa
              clear hke hI hB HSL hcl hgl hsa
              go_wp2_with fail
              clear j6
              go_loopw [55] (fun s wq => ∃ k : Nat, k ≤ x.ands.length ∧ s = .int .i64 k ∧ Hid (AndsTo x k) ∧ Hid (Below w4.heap.size w4 wq)) (fun s _ => x.ands.length - (intOf s).toNat)
              case atStart => exact ⟨0, Nat.zero_le _, rfl, (fun j _ h => by omega), HBR.out⟩
              case round =>
                clear HBR
                obtain ⟨k, hk, rfl, hI, hB⟩ := hrel
                by_cases hlt : k < x.ands.length
                · obtain ⟨b, o, hx, rfl, hbs, hc0, hc1, hc2⟩ := HSA.out.tri hlt
                  have d0 := (hB.out.cell (p := ⟨b, o + k * 3, none⟩) hbs).trans hc0
                  have d1 := (hB.out.cell (p := ⟨b, o + k * 3 + 1, none⟩) hbs).trans hc1
                  have d2 := (hB.out.cell (p := ⟨b, o + k * 3 + 2, none⟩) hbs).trans hc2
                  have hl64 := (HWA.out _ (List.getElem_mem hx))
                  have HRM : Hid (AndOk (vsOf x) x.ands[k] → AndsTo x (k + 1)) := fun h j hj hjk => by
                    by_cases he : j = k
                    · subst he; exact h
                    · exact hI.out j hj (by omega)
                  have HRN : Hid (CheckOk x → AndOk (vsOf x) x.ands[k]) := fun h => h.2.2.2.1 _ (List.getElem_mem hx)
                  clear hc0 hc1 hc2
                  generalize x.ands[k] = t at *
                  obtain ⟨U, hU⟩ : ∃ U, wr.alloc (.cells (triC t) 74) = U := ⟨_, rfl⟩
                  obtain ⟨hbU, htb⟩ := tbox_new wr t 74 U hU
                  have hb4 := hB.out.trans (hbU.mono hB.out.size)
                  have t1 := htb.t1
                  have HTB := Lib.hid htb
                  have HK := Lib.hid (KN.out U hb4 t.2.1 hl64.2.1)
                  have HK2 := Lib.hid (fun V hV => KN.out V hV t.2.2 hl64.2.2)
                  have HB5 := Lib.hid hb4
                  simp only [triC] at hU
                  clear hbU htb hb4 hbs hI hB hl64
                  by_cases hk1 : knownV (vsOf x) t.2.1
                  · rw [tt_pos hk1] at HK
                    have e1 := HTB.out
                    go_wp2_with fail
                    with_reducible refine HK.out.mono ?_
                    rintro e w6 ⟨rfl, hb6⟩
                    have hb46 := HB5.out.trans (hb6.mono HB5.out.size)
                    have HB6 := Lib.hid hb46
                    have T6 := HTB.out.next hb6 (Nat.le_refl _)
                    have s0 := T6.t0
                    have s1 := T6.t1
                    have s2 := T6.t2
                    have HT6 := Lib.hid T6
                    have HK3 := Lib.hid (HK2.out w6 hb46)
                    clear hb6 hb46 T6 t1 e1 hU d0 d1 d2
                    by_cases hk2 : knownV (vsOf x) t.2.2
                    · rw [tt_pos hk2] at HK3
                      go_wp2_with fail
                      with_reducible refine HK3.out.mono ?_
                      rintro e w7 ⟨rfl, hb7⟩
                      have HB7 := Lib.hid (HB6.out.trans (hb7.mono HB6.out.size))
                      have HX7 := Lib.hid (HB4.out.trans (HB7.out.mono HB4.out.size))
                      have T7 := HT6.out.next hb7 (Nat.le_refl _)
                      have r0 := T7.t0
                      have r1 := T7.t1
                      have r2 := T7.t2
                      clear hb7 T7 s0 s1 s2
                      by_cases hl1 : t.2.1 < t.1
                      · have hd1 : decide (t.2.1 < t.1) = true := decide_eq_true hl1
                        by_cases hl2 : t.2.2 < t.1
                        · have hd2 : decide (t.2.2 < t.1) = true := decide_eq_true hl2
                          have HR := Lib.hid (HRM.out ⟨hk1, hk2, hl1, hl2⟩)
                          clear hk1 hk2 hl1 hl2 HRM HRN
                          go_wp2_with fail
                          with_reducible refine (NO.out _).mono ?_
                          rintro e w9 ⟨rfl, rfl⟩
                          go_wp2_with fail
                          go_roundw
                          case rel => exact ⟨k + 1, by omega, by go_num, HR.out, HB7.out⟩
                          case measure => simp [intOf]; omega
                        · have hd2 : decide (t.2.2 < t.1) = false := decide_eq_false hl2
                          have HR : Hid (chk x = 9) := chk_neg (fun h => hl2 (HRN.out h).2.2.2)
                          clear hk1 hk2 hl1 hl2 HRM HRN
                          go_wp2_with fail
                          with_reducible refine (NB.out _).mono ?_
                          rintro e w9 ⟨rfl, rfl⟩
                          have DD := DR.out w7 HX7.out
                          have e0 := DD.e0
                          have f0 := DD.f0
                          have Q9 := Lib.hid DD.q9
                          have HB9 := Lib.hid DD.b9
                          go_wp2_with fail
                          refine leaves_cons (f := 65) (args := #[.pointer (some ⟨W1.heap.size, 0, none⟩)]) (by simp) (by simp [go_sem]) ?_
                          refine (catch_panicking ⟨W1.heap.size, 0, none⟩ 0 [] w7 e0 f0).mono ?_
                          rintro e u' w'' ⟨rfl, rfl, rfl⟩
                          simp [Leaves, settle, results, Tryz.results38, go_sem]
                          rw [Q9.out]
                          exact ⟨_, rfl, by rw [HR.out], HB9.out⟩
                      · have hd1 : decide (t.2.1 < t.1) = false := decide_eq_false hl1
                        have HR : Hid (chk x = 9) := chk_neg (fun h => hl1 (HRN.out h).2.2.1)
                        clear hk1 hk2 hl1 HRM HRN
                        go_wp2_with fail
                        with_reducible refine (NB.out _).mono ?_
                        rintro e w9 ⟨rfl, rfl⟩
                        have DD := DR.out w7 HX7.out
                        have e0 := DD.e0
                        have f0 := DD.f0
                        have Q9 := Lib.hid DD.q9
                        have HB9 := Lib.hid DD.b9
                        go_wp2_with fail
                        refine leaves_cons (f := 65) (args := #[.pointer (some ⟨W1.heap.size, 0, none⟩)]) (by simp) (by simp [go_sem]) ?_
                        refine (catch_panicking ⟨W1.heap.size, 0, none⟩ 0 [] w7 e0 f0).mono ?_
                        rintro e u' w'' ⟨rfl, rfl, rfl⟩
                        simp [Leaves, settle, results, Tryz.results38, go_sem]
                        rw [Q9.out]
                        exact ⟨_, rfl, by rw [HR.out], HB9.out⟩
                    · rw [tt_neg hk2] at HK3
                      have HR : Hid (chk x = 9) := chk_neg (fun h => hk2 (HRN.out h).2.1)
                      clear hk1 hk2 HRM HRN
                      go_wp2_with fail
                      with_reducible refine HK3.out.mono ?_
                      rintro e w7 ⟨rfl, hb7⟩
                      have HX7 := Lib.hid (HB4.out.trans ((HB6.out.trans (hb7.mono HB6.out.size)).mono HB4.out.size))
                      clear hb7
                      go_wp2_with fail
                      with_reducible refine (NB.out _).mono ?_
                      rintro e w9 ⟨rfl, rfl⟩
                      have DD := DR.out w7 HX7.out
                      have e0 := DD.e0
                      have f0 := DD.f0
                      have Q9 := Lib.hid DD.q9
                      have HB9 := Lib.hid DD.b9
                      go_wp2_with fail
                      refine leaves_cons (f := 65) (args := #[.pointer (some ⟨W1.heap.size, 0, none⟩)]) (by simp) (by simp [go_sem]) ?_
                      refine (catch_panicking ⟨W1.heap.size, 0, none⟩ 0 [] w7 e0 f0).mono ?_
                      rintro e u' w'' ⟨rfl, rfl, rfl⟩
                      simp [Leaves, settle, results, Tryz.results38, go_sem]
                      rw [Q9.out]
                      exact ⟨_, rfl, by rw [HR.out], HB9.out⟩
                  · rw [tt_neg hk1] at HK
                    have HR : Hid (chk x = 9) := chk_neg (fun h => hk1 (HRN.out h).1)
                    clear hk1 HRM HRN
                    go_wp2_with fail
                    with_reducible refine HK.out.mono ?_
                    rintro e w6 ⟨rfl, hb6⟩
                    have HX6 := Lib.hid (HB4.out.trans ((HB5.out.trans (hb6.mono HB5.out.size)).mono HB4.out.size))
                    clear hb6
                    go_wp2_with fail
                    with_reducible refine (NB.out _).mono ?_
                    rintro e w9 ⟨rfl, rfl⟩
                    have DD := DR.out w6 HX6.out
                    have e0 := DD.e0
                    have f0 := DD.f0
                    have Q9 := Lib.hid DD.q9
                    have HB9 := Lib.hid DD.b9
                    go_wp2_with fail
                    refine leaves_cons (f := 65) (args := #[.pointer (some ⟨W1.heap.size, 0, none⟩)]) (by simp) (by simp [go_sem]) ?_
                    refine (catch_panicking ⟨W1.heap.size, 0, none⟩ 0 [] w6 e0 f0).mono ?_
                    rintro e u' w'' ⟨rfl, rfl, rfl⟩
                    simp [Leaves, settle, results, Tryz.results38, go_sem]
                    rw [Q9.out]
                    exact ⟨_, rfl, by rw [HR.out], HB9.out⟩
                · have hke : k = x.ands.length := by omega
                  have HAT : Hid (AndsTo x x.ands.length) := by rw [← hke]; exact hI
                  have HB5 := Lib.hid hB.out
                  have hbX := HB4.out.trans (hB.out.mono HB4.out.size)
                  have HX5 := Lib.hid hbX
                  have j3 : wr.cell? ⟨w.heap.size, 3, none⟩ = some (.slice a3 x.outs.length c3) := (KB.out wr hbX).k3
                  have AV := fun (l : List Int) (a : Option Addr) (c : Nat) (hl : ∀ y ∈ l, I64 y) (V : World) (hV : Below w4.heap.size w4 V) (hsl : Sl V a l.length c (ints l)) => all_vs HN4.out V hV a l.length c l hsl hl
                  have HA1 := Lib.hid (AV x.outs a3 c3 HWO.out wr hB.out (HIN.out wr hbX).outs)
                  have HA2 := Lib.hid (fun V hV hX => AV x.bads a4 c4 HWB.out V hV (HIN.out V hX).bads)
                  have HA3 := Lib.hid (fun V hV hX => AV x.invs a5 c5 HWV.out V hV (HIN.out V hX).invs)
                  have HNA := fun V hX => named_any V x ⟨a1, c1, a2, c2, a3, c3, a4, c4, a5, c5, a6, c6, a7, c7⟩ (HIN.out V hX) (count_few HFEW.out)
                  simp only [cells] at HNA
                  have HNAM := Lib.hid HNA
                  clear hke hI hB hbX AV HNA HSA hca hga
                  by_cases q1 : ∀ y ∈ x.outs, knownV (vsOf x) y
                  · rw [tt_pos q1] at HA1
                    go_wp2_with fail
                    with_reducible refine HA1.out.mono ?_
                    rintro e w6 ⟨rfl, hb6⟩
                    have HB6 := Lib.hid (HB5.out.trans (hb6.mono HB5.out.size))
                    have HX6 := Lib.hid (HB4.out.trans (HB6.out.mono HB4.out.size))
                    have j4 : w6.cell? ⟨w.heap.size, 4, none⟩ = some (.slice a4 x.bads.length c4) := (KB.out w6 HX6.out).k4
                    have HA2' := Lib.hid (HA2.out w6 HB6.out HX6.out)
                    clear hb6 j3
                    by_cases q2 : ∀ y ∈ x.bads, knownV (vsOf x) y
                    · rw [tt_pos q2] at HA2'
                      go_wp2_with fail
                      with_reducible refine HA2'.out.mono ?_
                      rintro e w7 ⟨rfl, hb7⟩
                      have HB7 := Lib.hid (HB6.out.trans (hb7.mono HB6.out.size))
                      have HX7 := Lib.hid (HB4.out.trans (HB7.out.mono HB4.out.size))
                      have j5 : w7.cell? ⟨w.heap.size, 5, none⟩ = some (.slice a5 x.invs.length c5) := (KB.out w7 HX7.out).k5
                      have HA3' := Lib.hid (HA3.out w7 HB7.out HX7.out)
                      clear hb7 j4
                      by_cases q3 : ∀ y ∈ x.invs, knownV (vsOf x) y
                      · rw [tt_pos q3] at HA3'
                        go_wp2_with fail
                        with_reducible refine HA3'.out.mono ?_
                        rintro e w8 ⟨rfl, hb8⟩
                        have HB8 := Lib.hid (HB7.out.trans (hb8.mono HB7.out.size))
                        have HX8 := Lib.hid (HB4.out.trans (HB8.out.mono HB4.out.size))
                        have CB := KB.out w8 HX8.out
                        have m0 : w8.cell? ⟨w.heap.size, 0, none⟩ = some (.int .i64 x.max) := CB.k0
                        have m1 : w8.cell? ⟨w.heap.size, 1, none⟩ = some (.slice a1 x.ins.length c1) := CB.k1
                        have m2 : w8.cell? ⟨w.heap.size, 2, none⟩ = some (.slice a2 x.lats.length c2) := CB.k2
                        have m3 : w8.cell? ⟨w.heap.size, 3, none⟩ = some (.slice a3 x.outs.length c3) := CB.k3
                        have m4 : w8.cell? ⟨w.heap.size, 4, none⟩ = some (.slice a4 x.bads.length c4) := CB.k4
                        have m5 : w8.cell? ⟨w.heap.size, 5, none⟩ = some (.slice a5 x.invs.length c5) := CB.k5
                        have m6 : w8.cell? ⟨w.heap.size, 6, none⟩ = some (.slice a6 x.ands.length c6) := CB.k6
                        have m7 : w8.cell? ⟨w.heap.size, 7, none⟩ = some (.slice a7 x.names.length c7) := CB.k7
                        have HN8 := Lib.hid (HNAM.out w8 HX8.out)
                        clear hb8 j5 CB
                        by_cases q4 : NamesTo x x.names.length
                        · rw [tt_pos q4] at HN8
                          have HR : Hid (chk x = 0) := chk_pos ⟨HFEW.out, HDK.out, fun t ht => by
                            obtain ⟨j, hj, rfl⟩ := List.mem_iff_getElem.1 ht
                            exact HLT.out j hj hj, fun t ht => by
                            obtain ⟨j, hj, rfl⟩ := List.mem_iff_getElem.1 ht
                            exact HAT.out j hj hj, q1, q2, q3, q4⟩
                          clear q1 q2 q3 q4
                          go_wp2_with fail
                          with_reducible refine HN8.out.mono ?_
                          rintro e w9 ⟨rfl, hb9⟩
                          have HX9 := Lib.hid (HX8.out.trans (hb9.mono HX8.out.size))
                          clear hb9 m0 m1 m2 m3 m4 m5 m6 m7
                          go_wp2_with fail
                          with_reducible refine (NO.out _).mono ?_
                          rintro e w10 ⟨rfl, rfl⟩
                          have DD := DR.out w9 HX9.out
                          have e0 := DD.e0
                          have f0 := DD.f0
                          have SM := DD.same
                          have HB0 := Lib.hid DD.b0
                          clear DD
                          go_wp2_with fail
                          refine leaves_cons (f := 65) (args := #[.pointer (some ⟨W1.heap.size, 0, none⟩)]) (by simp) (by simp [go_sem]) ?_
                          refine (catch_idle ⟨W1.heap.size, 0, none⟩ w9).mono ?_
                          rintro e u' w'' ⟨rfl, rfl, rfl⟩
                          simp [Leaves, settle, results, Tryz.results38, go_sem, e0]
                          exact ⟨HR.out.symm, HB0.out⟩
                        · rw [tt_neg q4] at HN8
                          have HR : Hid (chk x = 9) := chk_neg (fun h => q4 h.2.2.2.2.2.2.2)
                          clear q1 q2 q3 q4
                          go_wp2_with fail
                          with_reducible refine HN8.out.mono ?_
                          rintro e w9 ⟨rfl, hb9⟩
                          have HX9 := Lib.hid (HX8.out.trans (hb9.mono HX8.out.size))
                          clear hb9 m0 m1 m2 m3 m4 m5 m6 m7
                          go_wp2_with fail
                          with_reducible refine (NB.out _).mono ?_
                          rintro e w10 ⟨rfl, rfl⟩
                          have DD := DR.out w9 HX9.out
                          have e0 := DD.e0
                          have f0 := DD.f0
                          have Q9 := Lib.hid DD.q9
                          have HB9 := Lib.hid DD.b9
                          go_wp2_with fail
                          refine leaves_cons (f := 65) (args := #[.pointer (some ⟨W1.heap.size, 0, none⟩)]) (by simp) (by simp [go_sem]) ?_
                          refine (catch_panicking ⟨W1.heap.size, 0, none⟩ 0 [] w9 e0 f0).mono ?_
                          rintro e u' w'' ⟨rfl, rfl, rfl⟩
                          simp [Leaves, settle, results, Tryz.results38, go_sem]
                          rw [Q9.out]
                          exact ⟨_, rfl, by rw [HR.out], HB9.out⟩
                      · rw [tt_neg q3] at HA3'
                        have HR : Hid (chk x = 9) := chk_neg (fun h => q3 h.2.2.2.2.2.2.1)
                        clear q1 q2 q3
                        go_wp2_with fail
                        with_reducible refine HA3'.out.mono ?_
                        rintro e w8 ⟨rfl, hb8⟩
                        have HX8 := Lib.hid (HX7.out.trans (hb8.mono HX7.out.size))
                        clear hb8 j5
                        go_wp2_with fail
                        with_reducible refine (NB.out _).mono ?_
                        rintro e w9 ⟨rfl, rfl⟩
                        have DD := DR.out w8 HX8.out
                        have e0 := DD.e0
                        have f0 := DD.f0
                        have Q9 := Lib.hid DD.q9
                        have HB9 := Lib.hid DD.b9
                        go_wp2_with fail
                        refine leaves_cons (f := 65) (args := #[.pointer (some ⟨W1.heap.size, 0, none⟩)]) (by simp) (by simp [go_sem]) ?_
                        refine (catch_panicking ⟨W1.heap.size, 0, none⟩ 0 [] w8 e0 f0).mono ?_
                        rintro e u' w'' ⟨rfl, rfl, rfl⟩
                        simp [Leaves, settle, results, Tryz.results38, go_sem]
                        rw [Q9.out]
                        exact ⟨_, rfl, by rw [HR.out], HB9.out⟩
                    · rw [tt_neg q2] at HA2'
                      have HR : Hid (chk x = 9) := chk_neg (fun h => q2 h.2.2.2.2.2.1)
                      clear q1 q2
                      go_wp2_with fail
                      with_reducible refine HA2'.out.mono ?_
                      rintro e w7 ⟨rfl, hb7⟩
                      have HX7 := Lib.hid (HX6.out.trans (hb7.mono HX6.out.size))
                      clear hb7 j4
                      go_wp2_with fail
                      with_reducible refine (NB.out _).mono ?_
                      rintro e w9 ⟨rfl, rfl⟩
                      have DD := DR.out w7 HX7.out
                      have e0 := DD.e0
                      have f0 := DD.f0
                      have Q9 := Lib.hid DD.q9
                      have HB9 := Lib.hid DD.b9
                      go_wp2_with fail
                      refine leaves_cons (f := 65) (args := #[.pointer (some ⟨W1.heap.size, 0, none⟩)]) (by simp) (by simp [go_sem]) ?_
                      refine (catch_panicking ⟨W1.heap.size, 0, none⟩ 0 [] w7 e0 f0).mono ?_
                      rintro e u' w'' ⟨rfl, rfl, rfl⟩
                      simp [Leaves, settle, results, Tryz.results38, go_sem]
                      rw [Q9.out]
                      exact ⟨_, rfl, by rw [HR.out], HB9.out⟩
                  · rw [tt_neg q1] at HA1
                    have HR : Hid (chk x = 9) := chk_neg (fun h => q1 h.2.2.2.2.1)
                    clear q1
                    go_wp2_with fail
                    with_reducible refine HA1.out.mono ?_
                    rintro e w6 ⟨rfl, hb6⟩
                    have HX6 := Lib.hid (HX5.out.trans (hb6.mono HX5.out.size))
                    clear hb6 j3
                    go_wp2_with fail
                    with_reducible refine (NB.out _).mono ?_
                    rintro e w9 ⟨rfl, rfl⟩
                    have DD := DR.out w6 HX6.out
                    have e0 := DD.e0
                    have f0 := DD.f0
                    have Q9 := Lib.hid DD.q9
                    have HB9 := Lib.hid DD.b9
                    go_wp2_with fail
                    refine leaves_cons (f := 65) (args := #[.pointer (some ⟨W1.heap.size, 0, none⟩)]) (by simp) (by simp [go_sem]) ?_
                    refine (catch_panicking ⟨W1.heap.size, 0, none⟩ 0 [] w6 e0 f0).mono ?_
                    rintro e u' w'' ⟨rfl, rfl, rfl⟩
                    simp [Leaves, settle, results, Tryz.results38, go_sem]
                    rw [Q9.out]
                    exact ⟨_, rfl, by rw [HR.out], HB9.out⟩
        · have HR : Hid (chk x = 9) := chk_neg (fun h => hbad h.2.1)
          simp only [fault]
          have DD := DR.out w4 hbV
          have e0 := DD.e0
          have f0 := DD.f0
          have Q9 := Lib.hid DD.q9
          have HB9 := Lib.hid DD.b9
          go_wp2_with fail
          refine leaves_cons (f := 65) (args := #[.pointer (some ⟨W1.heap.size, 0, none⟩)]) (by simp) (by simp [go_sem]) ?_
          refine (catch_panicking ⟨W1.heap.size, 0, none⟩ 0 [] w4 e0 f0).mono ?_
          rintro e u' w'' ⟨rfl, rfl, rfl⟩
          simp [Leaves, settle, results, Tryz.results38, go_sem]
          rw [Q9.out]
          exact ⟨_, rfl, by rw [HR.out], HB9.out⟩
      · have hd2 : decide (M ≤ 64) = false := decide_eq_false hm2
        have hm2' : 64 < M := by omega
        have HR : Hid (chk x = 9) := chk_neg (fun h => hm2 (HM.out.2 (by obtain ⟨_, _, h1, h2, h3, h4, h5⟩ := h.1; omega)))
        clear hm0 hm1 hm2 HDEF HM
        go_enter_defers Tryz.func38, Tryz.ntmps38
        go_wp2_with fail
        with_reducible refine (NB.out _).mono ?_
        rintro e w9 ⟨rfl, rfl⟩
        have DD := DR.out W2 (Below.refl _ _)
        have e0 := DD.e0
        have f0 := DD.f0
        have Q9 := Lib.hid DD.q9
        have HB9 := Lib.hid DD.b9
        go_wp2_with fail
        refine leaves_cons (f := 65) (args := #[.pointer (some ⟨W1.heap.size, 0, none⟩)]) (by simp) (by simp [go_sem]) ?_
        refine (catch_panicking ⟨W1.heap.size, 0, none⟩ 0 [] W2 e0 f0).mono ?_
        rintro e u' w'' ⟨rfl, rfl, rfl⟩
        simp [Leaves, settle, results, Tryz.results38, go_sem]
        rw [Q9.out]
        exact ⟨_, rfl, by rw [HR.out], HB9.out⟩
    · have hd1 : decide (x.max ≤ 2048) = false := decide_eq_false hm1
      have hm1' : 2048 < x.max := by omega
      have HR : Hid (chk x = 9) := chk_neg (fun h => hm1 h.1.2.1)
      clear hm0 hm1 HDEF HM
      go_enter_defers Tryz.func38, Tryz.ntmps38
      go_wp2_with fail
      with_reducible refine (NB.out _).mono ?_
      rintro e w9 ⟨rfl, rfl⟩
      have DD := DR.out W2 (Below.refl _ _)
      have e0 := DD.e0
      have f0 := DD.f0
      have Q9 := Lib.hid DD.q9
      have HB9 := Lib.hid DD.b9
      go_wp2_with fail
      refine leaves_cons (f := 65) (args := #[.pointer (some ⟨W1.heap.size, 0, none⟩)]) (by simp) (by simp [go_sem]) ?_
      refine (catch_panicking ⟨W1.heap.size, 0, none⟩ 0 [] W2 e0 f0).mono ?_
      rintro e u' w'' ⟨rfl, rfl, rfl⟩
      simp [Leaves, settle, results, Tryz.results38, go_sem]
      rw [Q9.out]
      exact ⟨_, rfl, by rw [HR.out], HB9.out⟩
  · have hd0 : decide (0 ≤ x.max) = false := decide_eq_false hm0
    have hm0' : x.max < 0 := by omega
    have HR : Hid (chk x = 9) := chk_neg (fun h => hm0 h.1.1)
    clear hm0 HDEF HM
    go_enter_defers Tryz.func38, Tryz.ntmps38
    go_wp2_with fail
    with_reducible refine (NB.out _).mono ?_
    rintro e w9 ⟨rfl, rfl⟩
    have DD := DR.out W2 (Below.refl _ _)
    have e0 := DD.e0
    have f0 := DD.f0
    have Q9 := Lib.hid DD.q9
    have HB9 := Lib.hid DD.b9
    go_wp2_with fail
    refine leaves_cons (f := 65) (args := #[.pointer (some ⟨W1.heap.size, 0, none⟩)]) (by simp) (by simp [go_sem]) ?_
    refine (catch_panicking ⟨W1.heap.size, 0, none⟩ 0 [] W2 e0 f0).mono ?_
    rintro e u' w'' ⟨rfl, rfl, rfl⟩
    simp [Leaves, settle, results, Tryz.results38, go_sem]
    rw [Q9.out]
    exact ⟨_, rfl, by rw [HR.out], HB9.out⟩

end Circuit
end Go.Proofs.YtjmmhbmbafjneaaGreatDoor
