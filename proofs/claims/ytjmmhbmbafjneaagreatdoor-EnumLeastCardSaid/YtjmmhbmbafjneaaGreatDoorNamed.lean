/-
  circuit.named: may names be?
-/
import Derived.Test.YtjmmhbmbafjneaaGreatDoorCBox
import Derived.Test.YtjmmhbmbafjneaaGreatDoorRank
import Derived.Test.YtjmmhbmbafjneaaGreatDoorText
import Derived.Test.YtjmmhbmbafjneaaGreatDoorCount
import Derived.Deep.RegionHeld3
import Derived.Deep.DeepCutAuto
import Derived.Test.YtjmmhbmbafjneaaGreatDoorLex
namespace Go.Proofs.YtjmmhbmbafjneaaGreatDoor
open Go.RowKit Base
set_option linter.unusedVariables false
set_option linter.unusedSimpArgs false
namespace Circuit

abbrev NameT := ByteArray × Int × ByteArray

/-- May a name be, by itself? -/
def NameOk (x : Circ) (t : NameT) : Prop := ∃ c, t.1.data.toList = [c] ∧ 0 ≤ at1 kindsB c ∧ 0 ≤ t.2.1 ∧ t.2.1 < countOf x t.1 ∧ textOk t.2.2 = true
def rankT (t : NameT) : Int := rankOf (t.1.data.toList.headD 0) t.2.1
/-- May the first names be? -/
def NamesTo (x : Circ) (k : Nat) : Prop := ∀ j (h : j < x.names.length), j < k → NameOk x x.names[j] ∧ ∀ t, 0 < j → x.names[j - 1]? = some t → rankT t < rankT x.names[j]

theorem namesTo_more {x : Circ} {k : Nat} (h : NamesTo x k) (hk : k < x.names.length) (hok : NameOk x x.names[k]) (hr : ∀ t, 0 < k → x.names[k - 1]? = some t → rankT t < rankT x.names[k]) : NamesTo x (k + 1) := by
  intro j hj hjk
  by_cases he : j = k
  · subst he; exact ⟨hok, hr⟩
  · exact h j hj (by omega)

structure NH (N M : Nat) (x : Circ) (p : At) (t : NameT) (wq w' : World) : Prop where
  below : Below wq.heap.size wq w'
  cb : CBox N x p w'
  nb : NBox M t w'

abbrev NAll (N M : Nat) (x : Circ) (p : At) (t : NameT) (wq w' : World) : Prop :=
  NH N M x p t wq w' ∧ w'.cell? ⟨N, 0, none⟩ = some (.int .i64 x.max) ∧ w'.cell? ⟨N, 1, none⟩ = some (.slice p.a1 x.ins.length p.c1) ∧ w'.cell? ⟨N, 2, none⟩ = some (.slice p.a2 x.lats.length p.c2) ∧ w'.cell? ⟨N, 3, none⟩ = some (.slice p.a3 x.outs.length p.c3) ∧ w'.cell? ⟨N, 4, none⟩ = some (.slice p.a4 x.bads.length p.c4) ∧ w'.cell? ⟨N, 5, none⟩ = some (.slice p.a5 x.invs.length p.c5) ∧ w'.cell? ⟨N, 6, none⟩ = some (.slice p.a6 x.ands.length p.c6) ∧ w'.cell? ⟨N, 7, none⟩ = some (.slice p.a7 x.names.length p.c7) ∧ w'.cell? ⟨M, 0, none⟩ = some (.string t.1) ∧ w'.cell? ⟨M, 1, none⟩ = some (.int .i64 t.2.1) ∧ w'.cell? ⟨M, 2, none⟩ = some (.string t.2.2)

theorem nh_all {N M : Nat} {x : Circ} {p : At} {t : NameT} {wq w' : World} (h : NH N M x p t wq w') : NAll N M x p t wq w' := ⟨h, h.cb.k0, h.cb.k1, h.cb.k2, h.cb.k3, h.cb.k4, h.cb.k5, h.cb.k6, h.cb.k7, h.nb.n0, h.nb.n1, h.nb.n2⟩
theorem nh_in {N M : Nat} {x : Circ} {p : At} {t : NameT} {wq w' : World} (h : NAll N M x p t wq w') : NH N M x p t wq w' := h.1
theorem nh_first {N M : Nat} {x : Circ} {p : At} {t : NameT} {wq : World} (hc : Hid (CBox N x p wq)) (hn : Hid (NBox M t wq)) : NAll N M x p t wq wq.drew := nh_all ⟨(Below.refl _ _).drew, hc.out.next (Below.refl _ _).drew (Nat.le_refl _), hn.out.next (Below.refl _ _).drew (Nat.le_refl _)⟩
theorem NH.more {N M : Nat} {x : Circ} {p : At} {t : NameT} {wq w1 w2 : World} (h : NH N M x p t wq w1) (hb : Below w1.heap.size w1 w2) : NH N M x p t wq w2 := ⟨h.below.trans (hb.mono h.below.size), h.cb.next hb (Nat.le_refl _), h.nb.next hb (Nat.le_refl _)⟩

structure OBox (N o : Nat) (t : NameT) (w : World) : Prop where
  lt : N < w.heap.size
  n0 : w.cell? ⟨N, o, none⟩ = some (.string t.1)
  n1 : w.cell? ⟨N, o + 1, none⟩ = some (.int .i64 t.2.1)
  n2 : w.cell? ⟨N, o + 2, none⟩ = some (.string t.2.2)

theorem OBox.next {N o : Nat} {t : NameT} {w w' : World} (h : OBox N o t w) (hb : Below w.heap.size w w') : OBox N o t w' :=
  ⟨Nat.lt_of_lt_of_le h.lt hb.size, (hb.cell (p := ⟨N, o, none⟩) h.lt).trans h.n0, (hb.cell (p := ⟨N, o + 1, none⟩) h.lt).trans h.n1, (hb.cell (p := ⟨N, o + 2, none⟩) h.lt).trans h.n2⟩

abbrev RAll (N M b o : Nat) (x : Circ) (p : At) (t t' : NameT) (wq w' : World) : Prop :=
  (NH N M x p t wq w' ∧ OBox b o t' w') ∧ w'.cell? ⟨N, 7, none⟩ = some (.slice p.a7 x.names.length p.c7) ∧ w'.cell? ⟨M, 0, none⟩ = some (.string t.1) ∧ w'.cell? ⟨M, 1, none⟩ = some (.int .i64 t.2.1) ∧ w'.cell? ⟨M, 2, none⟩ = some (.string t.2.2) ∧ w'.cell? ⟨b, o, none⟩ = some (.string t'.1) ∧ w'.cell? ⟨b, o + 1, none⟩ = some (.int .i64 t'.2.1) ∧ w'.cell? ⟨b, o + 2, none⟩ = some (.string t'.2.2)

theorem rh_all {N M b o : Nat} {x : Circ} {p : At} {t t' : NameT} {wq w' : World} (h : NH N M x p t wq w' ∧ OBox b o t' w') : RAll N M b o x p t t' wq w' := ⟨h, h.1.cb.k7, h.1.nb.n0, h.1.nb.n1, h.1.nb.n2, h.2.n0, h.2.n1, h.2.n2⟩
theorem rh_in {N M b o : Nat} {x : Circ} {p : At} {t t' : NameT} {wq w' : World} (h : RAll N M b o x p t t' wq w') : NH N M x p t wq w' ∧ OBox b o t' w' := h.1
theorem rh_first {N M b o : Nat} {x : Circ} {p : At} {t t' : NameT} {wq : World} (hc : Hid (CBox N x p wq)) (hn : Hid (NBox M t wq)) (ho : Hid (OBox b o t' wq)) : RAll N M b o x p t t' wq wq.drew :=
  rh_all ⟨⟨(Below.refl _ _).drew, hc.out.next (Below.refl _ _).drew (Nat.le_refl _), hn.out.next (Below.refl _ _).drew (Nat.le_refl _)⟩, ho.out.next (Below.refl _ _).drew⟩

/-- A name's rank, of a name that may be. -/
theorem rank_name (x : Circ) (hcnt : ∀ k, (countOf x k : Int) ≤ 1048576) (t : NameT) (h : NameOk x t) (w : World) :
    Calls Tryz.prog 94 #[.agg #[.string t.1, .int .i64 t.2.1, .string t.2.2]] w fun e w' => e = .returned (.int .i64 (rankT t)) ∧ Below w.heap.size w w' := by
  obtain ⟨c, hc, _, h0, h1, _⟩ := h
  have := rank_any w t.1 t.2.1 t.2.2 c hc h0 (by have := hcnt t.1; omega)
  unfold rankT
  rw [hc]
  exact this

set_option maxRecDepth 8000 in
set_option maxHeartbeats 16000000 in
theorem named_any (w : World) (x : Circ) (p : At) (hin : InCirc w x p) (hcnt : ∀ k, (countOf x k : Int) ≤ 1048576) :
    Calls Tryz.prog 70 #[.agg (cells x p)] w fun e w' => e = .returned (.bool (tt (NamesTo x x.names.length))) ∧ Below w.heap.size w w' := by
  obtain ⟨W1, hW1⟩ : ∃ W1, w.alloc (.cells (cells x p) 27) = W1 := ⟨_, rfl⟩
  obtain ⟨hb1, hcb⟩ := cbox_new w x p W1 hW1
  have hsl := hin.names.next hb1
  have HS := Lib.hid hsl
  have HB1 := Lib.hid hb1
  have HCB := Lib.hid hcb
  have hcap := hsl.cap
  have hbig := hsl.big
  have HC := Lib.hid hcnt
  clear hin hb1 hcb hsl hcnt
  obtain ⟨a1, c1, a2, c2, a3, c3, a4, c4, a5, c5, a6, c6, a7, c7⟩ := p
  simp only at hcap hbig
  have k7 : W1.cell? ⟨w.heap.size, 7, none⟩ = some (.slice a7 x.names.length c7) := HCB.out.k7
  simp only [cells] at hW1 ⊢
  go_enter Tryz.func70, Tryz.ntmps70
  go_wp2_with fail
  clear hW1
  go_loopw [8] (fun s wr => ∃ k : Nat, k ≤ x.names.length ∧ s = .int .i64 k ∧ Hid (NamesTo x k) ∧ Hid (Below W1.heap.size W1 wr)) (fun s _ => x.names.length - (intOf s).toNat)
  case atStart => exact ⟨0, Nat.zero_le _, rfl, (fun j _ hj => by omega), Below.refl _ _⟩
  case round =>
    obtain ⟨k, hk, rfl, hI, hbr⟩ := hrel
    by_cases hlt : k < x.names.length
    · obtain ⟨b, o, hx, rfl, hbs, hc0, hc1, hc2⟩ := Circuit.SlT.name HS.out hlt
      have d0 := (hbr.out.cell (p := ⟨b, o + k * 3, none⟩) hbs).trans hc0
      have d1 := (hbr.out.cell (p := ⟨b, o + k * 3 + 1, none⟩) hbs).trans hc1
      have d2 := (hbr.out.cell (p := ⟨b, o + k * 3 + 2, none⟩) hbs).trans hc2
      clear hc0 hc1 hc2
      have HM := Lib.hid (namesTo_more hI.out hlt)
      have HF : Hid (NamesTo x x.names.length → NameOk x x.names[k] ∧ ∀ t, 0 < k → x.names[k - 1]? = some t → rankT t < rankT x.names[k]) := fun h => h k hlt hlt
      generalize x.names[k] = t at *
      obtain ⟨U, hU⟩ : ∃ U, wr.alloc (.cells (nameC t) 96) = U := ⟨_, rfl⟩
      obtain ⟨hbU, hnb⟩ := nbox_new wr t U hU
      have HBU := Lib.hid (hbr.out.trans (hbU.mono hbr.out.size))
      have HNB := Lib.hid hnb
      have HCU := Lib.hid (HCB.out.next HBU.out (Nat.le_refl _))
      clear hbU hnb
      simp only [nameC] at hU
      go_upto_region 4 with fail
      go_cut [42] (fun s wx => s = .bool (!tt (NameOk x t)) ∧ Below U.heap.size U wx)
      case first =>
        have CO := Lib.hid (fun (V : World) (hV : NH w.heap.size wr.heap.size x (⟨a1, c1, a2, c2, a3, c3, a4, c4, a5, c5, a6, c6, some ⟨b, o, none⟩, c7⟩ : At) t U V) => (count_any V x (⟨a1, c1, a2, c2, a3, c3, a4, c4, a5, c5, a6, c6, some ⟨b, o, none⟩, c7⟩ : At) t.1).mono (fun e w' h => (⟨h.1, hV.more h.2⟩ : e = .returned (.int .i64 (countOf x t.1)) ∧ NH w.heap.size wr.heap.size x (⟨a1, c1, a2, c2, a3, c3, a4, c4, a5, c5, a6, c6, some ⟨b, o, none⟩, c7⟩ : At) t U w')))
        have TX := fun (V : World) (hV : NH w.heap.size wr.heap.size x (⟨a1, c1, a2, c2, a3, c3, a4, c4, a5, c5, a6, c6, some ⟨b, o, none⟩, c7⟩ : At) t U V) => (text_any V t.2.2).mono (fun e w' h => (⟨h.1, hV.more h.2⟩ : e = .returned (.bool (textOk t.2.2)) ∧ NH w.heap.size wr.heap.size x (⟨a1, c1, a2, c2, a3, c3, a4, c4, a5, c5, a6, c6, some ⟨b, o, none⟩, c7⟩ : At) t U w'))
        have FI := Lib.hid (nh_first HCU HNB)
        clear d0 d1 d2 hU hbs hx HM HF hbr hI hcap hbig
        have HCL := Lib.hid (HC.out t.1)
        by_cases h1 : t.1.size = 1
        · obtain ⟨c, hc⟩ : ∃ c, t.1.data.toList = [c] := by
            have hl : t.1.data.toList.length = 1 := by rw [← Lib.size_eq]; exact h1
            exact List.length_eq_one_iff.1 hl
          have hd1 : ((t.1.size : Int) != 1) = false := by rw [h1]; rfl
          have CN := fun (V : World) (hV : NH w.heap.size wr.heap.size x (⟨a1, c1, a2, c2, a3, c3, a4, c4, a5, c5, a6, c6, some ⟨b, o, none⟩, c7⟩ : At) t U V) => (contains_one kindsB t.1 c hc (by decide) V).mono (fun e w' h => (⟨h.1, hV.more (by rw [h.2]; exact Below.refl _ _)⟩ : e = .returned (.bool (decide (0 ≤ at1 kindsB c))) ∧ NH w.heap.size wr.heap.size x (⟨a1, c1, a2, c2, a3, c3, a4, c4, a5, c5, a6, c6, some ⟨b, o, none⟩, c7⟩ : At) t U w'))
          have HOK : Hid (NameOk x t ↔ 0 ≤ at1 kindsB c ∧ 0 ≤ t.2.1 ∧ t.2.1 < countOf x t.1 ∧ textOk t.2.2 = true) := by
            constructor
            · rintro ⟨c2, hc2, h⟩
              rw [hc] at hc2
              simp only [List.cons.injEq, and_true] at hc2
              subst hc2
              exact h
            · intro h
              exact ⟨c, hc, h⟩
          have CQ := Lib.hid (fun V => contains_one kindsB t.1 c hc (by decide) V)
          unfold kindsB at CN CQ
          have hkb : (⟨#[105, 108, 111, 98, 99]⟩ : ByteArray) = kindsB := rfl
          rw [hkb] at CN CQ
          clear h1 hc hkb
          by_cases hb : 0 ≤ at1 kindsB c
          · rw [decide_eq_true hb] at CN CQ
            have HCN := Lib.hid CN
            have hat : ((0 : Int) ≤ at1 kindsB c ↔ True) := ⟨fun _ => trivial, fun _ => hb⟩
            simp only [hat, true_and] at HOK
            clear CN hb hat
            by_cases hi : 0 ≤ t.2.1
            · have hdi : decide (t.2.1 < 0) = false := decide_eq_false (by omega)
              by_cases hj : t.2.1 < countOf x t.1
              · have hdj : decide ((countOf x t.1 : Int) ≤ t.2.1) = false := decide_eq_false (by omega)
                have HR : Hid (tt (NameOk x t) = textOk t.2.2) := tt_bool ⟨fun h => HOK.out.2 ⟨hi, hj, h⟩, fun h => (HOK.out.1 h).2.2⟩
                have HTX := Lib.hid TX
                clear TX hi hj HOK
                generalize textOk t.2.2 = tq at *
                cases tq
                all_goals
                 first
                 | go_region_held3 (fun w' => NAll w.heap.size wr.heap.size x (⟨a1, c1, a2, c2, a3, c3, a4, c4, a5, c5, a6, c6, some ⟨b, o, none⟩, c7⟩ : At) t U w') (first | exact nh_all (by assumption) | exact FI.out) (first | (go_at_call 91; refine (HCN.out _ (nh_in (by assumption))).mono ?_; rintro e w' ⟨rfl, hS'⟩) | (go_at_call 92; refine (CO.out _ (nh_in (by assumption))).mono ?_; rintro e w' ⟨rfl, hS'⟩) | (go_at_call 93; refine (HTX.out _ (nh_in (by assumption))).mono ?_; rintro e w' ⟨rfl, hS'⟩))
                 | fail
                 all_goals (go_wp2_with fail; go_meet; exact ⟨by rw [HR.out]; first | done | rfl, (nh_in (by assumption)).below⟩)
              · have hdj : decide ((countOf x t.1 : Int) ≤ t.2.1) = true := decide_eq_true (by omega)
                have HR : Hid (tt (NameOk x t) = false) := tt_neg (fun h => hj (HOK.out.1 h).2.1)
                clear TX hi hj HOK
                have LC1 : Hid (∀ V, NAll w.heap.size wr.heap.size x (⟨a1, c1, a2, c2, a3, c3, a4, c4, a5, c5, a6, c6, some ⟨b, o, none⟩, c7⟩ : At) t U V → Calls Tryz.prog 91 #[.string ⟨#[105, 108, 111, 98, 99]⟩, .string t.1] V (fun e w' => e = .returned (.bool true) ∧ NAll w.heap.size wr.heap.size x (⟨a1, c1, a2, c2, a3, c3, a4, c4, a5, c5, a6, c6, some ⟨b, o, none⟩, c7⟩ : At) t U w')) := fun V hV => (HCN.out V (nh_in hV)).mono fun e w' h => ⟨h.1, nh_all h.2⟩
                have LC2 := Lib.hid (fun V hV => (CO.out V (nh_in hV)).mono fun e w' h => (⟨h.1, nh_all h.2⟩ : e = .returned (.int .i64 (countOf x t.1)) ∧ NAll w.heap.size wr.heap.size x (⟨a1, c1, a2, c2, a3, c3, a4, c4, a5, c5, a6, c6, some ⟨b, o, none⟩, c7⟩ : At) t U w'))
                simp only [cells] at LC2
                have LC3 := Lib.hid True.intro
                refine Lex.region (fun w' => NAll w.heap.size wr.heap.size x (⟨a1, c1, a2, c2, a3, c3, a4, c4, a5, c5, a6, c6, some ⟨b, o, none⟩, c7⟩ : At) t U w') (by kernel_rfl) (by kernel_rfl) FI.out ?_
                repeat (first
                  | (refine Lex.step_val (v := ?_) ?_ (fun w' hSw => ?_) ?_; rotate_left; (focus (go_simp; done)); (focus ((try dsimp only at hSw); go_simp; (try with_reducible rfl); done)); (try simp only [Act.put, List.setIfInBounds_toArray, List.set_cons_zero, List.set_cons_succ]))
                  | (refine Lex.step_call (v := ?_) (f := ?_) (args := ?_) ?_ (fun w' hSw => ?_) ?_ ?_; rotate_left 3; (focus (go_simp; done)); (focus ((try dsimp only at hSw); go_simp; (refine And.intro ?_ ?_ <;> with_reducible rfl); done)); (focus (first | with_reducible exact LC1.out | with_reducible exact LC2.out | with_reducible exact LC3.out)); (try simp only [Act.put, List.setIfInBounds_toArray, List.set_cons_zero, List.set_cons_succ]))
                  | (refine Lex.step_off ?_ ?_; (focus (go_simp; done)); (try simp only [Act.put, List.setIfInBounds_toArray, List.set_cons_zero, List.set_cons_succ]))
                  | fail)
                refine Lex.step_nil ?_
                intro wz hz
                go_wp2_with fail
                go_meet
                exact ⟨by rw [HR.out]; first | done | rfl, (nh_in hz).below⟩
            · have hdi : decide (t.2.1 < 0) = true := decide_eq_true (by omega)
              have HR : Hid (tt (NameOk x t) = false) := tt_neg (fun h => hi (HOK.out.1 h).1)
              have n0 := HNB.out.n0
              have n1 := HNB.out.n1
              clear TX hi HOK
              go_quiet ((go_at_call 91; exact Calls.quiet_of_same ((CQ.out _).mono fun e w' h => ⟨h.1, h.2.symm⟩)))
              go_wp2_with fail
              go_meet
              exact ⟨by rw [HR.out]; rfl, below_drewN (Below.refl _ _) _⟩
          · have HR : Hid (tt (NameOk x t) = false) := tt_neg (fun h => hb (HOK.out.1 h).1)
            rw [decide_eq_false hb] at CQ
            have n0 := HNB.out.n0
            clear CN TX hb
            go_quiet ((go_at_call 91; exact Calls.quiet_of_same ((CQ.out _).mono fun e w' h => ⟨h.1, h.2.symm⟩)))
            go_wp2_with fail
            go_meet
            exact ⟨by rw [HR.out]; rfl, below_drewN (Below.refl _ _) _⟩
        · have hd1 : ((t.1.size : Int) != 1) = true := by simp; omega
          have HR : Hid (tt (NameOk x t) = false) := tt_neg (fun ⟨c, hc, _⟩ => h1 (by rw [Lib.size_eq, hc]; rfl))
          have n0 := HNB.out.n0
          clear h1
          go_quiet (fail)
          go_wp2_with fail
          go_meet
          exact ⟨by rw [HR.out]; rfl, below_drewN (Below.refl _ _) _⟩
      case rest =>
        obtain ⟨rfl, hbc⟩ := hcut
        by_cases hok : NameOk x t
        · rw [tt_pos hok]
          have HOKT := Lib.hid hok
          have HBC := Lib.hid (HBU.out.trans (hbc.mono HBU.out.size))
          have HCX := Lib.hid (HCU.out.next hbc (Nat.le_refl _))
          have HNX := Lib.hid (HNB.out.next hbc (Nat.le_refl _))
          go_upto_region 6 with fail
          go_cut [56] (fun s wy => s = .bool (tt (∃ t', 0 < k ∧ x.names[k - 1]? = some t' ∧ ¬ rankT t' < rankT t)) ∧ Below wc.heap.size wc wy)
          case first =>
            rcases Nat.eq_zero_or_pos k with hk0 | hkp
            · have HR : Hid (tt (∃ t', 0 < k ∧ x.names[k - 1]? = some t' ∧ ¬ rankT t' < rankT t) = false) := tt_neg (fun ⟨t', h, _⟩ => by omega)
              have hd0 : decide ((0 : Int) < (k : Int)) = false := decide_eq_false (by omega)
              have k7c : wc.cell? ⟨w.heap.size, 7, none⟩ = some (.slice (some ⟨b, o, none⟩) x.names.length c7) := HCX.out.k7
              clear hlt hk hx
              generalize tt (∃ t', 0 < k ∧ x.names[k - 1]? = some t' ∧ ¬ rankT t' < rankT t) = rr at *
              clear HF HM hI
              go_quiet (fail)
              go_wp2_with fail
              go_meet
              exact ⟨by rw [HR.out], below_drewN (Below.refl _ _) _⟩
            · obtain ⟨m, hkm⟩ : ∃ m, k = m + 1 := ⟨k - 1, by omega⟩
              obtain ⟨b', o', hm, hae', hbs', hc0, hc1, hc2⟩ := Circuit.SlT.name HS.out (show m < x.names.length by omega)
              simp only [Option.some.injEq, Addr.mk.injEq, and_true] at hae'
              obtain ⟨rfl, rfl⟩ := hae'
              have hok' := (hI.out m hm (by omega)).1
              have HR : Hid (tt (∃ t', 0 < k ∧ x.names[k - 1]? = some t' ∧ ¬ rankT t' < rankT t) = decide (rankT t ≤ rankT x.names[m])) := by
                refine tt_bool ?_
                rw [decide_eq_true_iff, show k - 1 = m by omega]
                constructor
                · intro h
                  exact ⟨x.names[m], by omega, List.getElem?_eq_getElem hm, by omega⟩
                · rintro ⟨t', _, ht, h⟩
                  rw [List.getElem?_eq_getElem hm] at ht
                  simp only [Option.some.injEq] at ht
                  rw [ht]
                  omega
              generalize x.names[m] = t' at *
              generalize tt (∃ t', 0 < k ∧ x.names[k - 1]? = some t' ∧ ¬ rankT t' < rankT t) = rr at *
              have hbW : Below W1.heap.size W1 wc := HBC.out
              have HO : Hid (OBox b (o + m * 3) t' wc) := ⟨Nat.lt_of_lt_of_le hbs hbW.size, (hbW.cell (p := ⟨b, o + m * 3, none⟩) hbs).trans hc0, (hbW.cell (p := ⟨b, o + m * 3 + 1, none⟩) hbs).trans hc1, (hbW.cell (p := ⟨b, o + m * 3 + 2, none⟩) hbs).trans hc2⟩
              have FI := Lib.hid (rh_first HCX HNX HO)
              have RA := Lib.hid (fun (V : World) (hV : NH w.heap.size wr.heap.size x (⟨a1, c1, a2, c2, a3, c3, a4, c4, a5, c5, a6, c6, some ⟨b, o, none⟩, c7⟩ : At) t wc V ∧ OBox b (o + m * 3) t' V) => (rank_name x HC.out t hok V).mono (fun e w' h => (⟨h.1, ⟨hV.1.more h.2, hV.2.next h.2⟩⟩ : e = .returned (.int .i64 (rankT t)) ∧ NH w.heap.size wr.heap.size x (⟨a1, c1, a2, c2, a3, c3, a4, c4, a5, c5, a6, c6, some ⟨b, o, none⟩, c7⟩ : At) t wc w' ∧ OBox b (o + m * 3) t' w')))
              have RB := Lib.hid (fun (V : World) (hV : NH w.heap.size wr.heap.size x (⟨a1, c1, a2, c2, a3, c3, a4, c4, a5, c5, a6, c6, some ⟨b, o, none⟩, c7⟩ : At) t wc V ∧ OBox b (o + m * 3) t' V) => (rank_name x HC.out t' hok' V).mono (fun e w' h => (⟨h.1, ⟨hV.1.more h.2, hV.2.next h.2⟩⟩ : e = .returned (.int .i64 (rankT t')) ∧ NH w.heap.size wr.heap.size x (⟨a1, c1, a2, c2, a3, c3, a4, c4, a5, c5, a6, c6, some ⟨b, o, none⟩, c7⟩ : At) t wc w' ∧ OBox b (o + m * 3) t' w')))
              clear hbW HO hc0 hc1 hc2 d0 d1 d2 hU hok hok' HF HM hI hbr HBU HNB HCU hbc
              generalize rankT t = r1 at *
              generalize rankT t' = r2 at *
              have hsub : IntKind.i64.wrap ((k : Int) - 1) = (m : Int) := by rw [IntKind.wrap_i64]; omega
              have hidx0 : (0 : Int) ≤ (m : Int) := by omega
              have hidx1 : (m : Int) < (x.names.length : Int) := by omega
              have hidx : (0 : Int) ≤ (m : Int) ∧ (m : Int) < (x.names.length : Int) := by omega
              have hgt : decide ((0 : Int) < (k : Int)) = true := decide_eq_true (by omega)
              have hgt2 : decide (0 < k) = true := decide_eq_true hkp
              have hkp2 : 0 < k := hkp
              clear hkm
              first
              | go_region_held3 (fun w' => RAll w.heap.size wr.heap.size b (o + m * 3) x (⟨a1, c1, a2, c2, a3, c3, a4, c4, a5, c5, a6, c6, some ⟨b, o, none⟩, c7⟩ : At) t t' wc w') (first | exact rh_all (by assumption) | exact FI.out) (first | (go_at_call 94; with_reducible refine (RA.out _ (rh_in (by assumption))).mono ?_; rintro e w' ⟨rfl, hS'⟩) | (go_at_call 94; with_reducible refine (RB.out _ (rh_in (by assumption))).mono ?_; rintro e w' ⟨rfl, hS'⟩))
              | fail
              all_goals
                go_wp2_with fail
                go_meet
                exact ⟨by rw [HR.out], (rh_in (by assumption)).1.below⟩
          case rest =>
            obtain ⟨rfl, hbd⟩ := hcut
            have HBD := Lib.hid (HBC.out.trans (hbd.mono HBC.out.size))
            by_cases hrk : ∃ t', 0 < k ∧ x.names[k - 1]? = some t' ∧ ¬ rankT t' < rankT t
            · have HR : Hid (tt (NamesTo x x.names.length) = false) := tt_neg (fun h => by
                obtain ⟨t', h0, h1, h2⟩ := hrk
                exact h2 ((HF.out h).2 t' h0 h1))
              rw [tt_pos hrk]
              clear hrk hbd hbc hbr
              go_wp2_with fail
              go_ret
              exact ⟨ret_bool HR.out.symm, HB1.out.trans (HBD.out.mono HB1.out.size)⟩
            · have HI2 := Lib.hid (HM.out HOKT.out (fun t' h0 h1 => Classical.byContradiction (fun h2 => hrk ⟨t', h0, h1, h2⟩)))
              rw [tt_neg hrk]
              clear hrk hbd hbc hbr
              go_wp2_with fail
              go_roundw
              case rel => exact ⟨k + 1, by omega, by go_num, HI2.out, HBD.out⟩
              case measure => simp [intOf]; omega
        · have HR : Hid (tt (NamesTo x x.names.length) = false) := tt_neg (fun h => hok (HF.out h).1)
          have HBC := Lib.hid (HBU.out.trans (hbc.mono HBU.out.size))
          rw [tt_neg hok]
          clear hok hbc hbr
          go_wp2_with fail
          go_ret
          exact ⟨ret_bool HR.out.symm, HB1.out.trans (HBC.out.mono HB1.out.size)⟩
    · go_wp2_with fail
      go_ret
      have hI2 := hI.out
      rw [show k = x.names.length by omega] at hI2
      exact ⟨ret_bool (tt_pos hI2).symm, HB1.out.trans (hbr.out.mono HB1.out.size)⟩
end Circuit
end Go.Proofs.YtjmmhbmbafjneaaGreatDoor
