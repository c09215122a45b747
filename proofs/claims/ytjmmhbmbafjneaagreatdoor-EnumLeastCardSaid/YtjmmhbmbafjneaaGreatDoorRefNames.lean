/-
  interlockref03.names: may names be, the page's way?
-/
import Derived.Test.YtjmmhbmbafjneaaGreatDoorRefRank
namespace Go.Proofs.YtjmmhbmbafjneaaGreatDoor
open Go.RowKit Base
set_option linter.unusedVariables false
set_option linter.unusedSimpArgs false
namespace Circuit

/-- A name's beginning. -/
def HeadR (x : Circ) (t : NameT) : Prop := 0 ≤ t.2.1 ∧ t.2.1 < countR x t.1 ∧ (t.2.2.toList == []) = false ∧ (t.2.2.size : Int) ≤ 32
def BytesR (t : NameT) (k : Nat) : Prop := ∀ j (h : j < t.2.2.size), j < k → offB t.2.2[j] = false
/-- Two names one behind the other. -/
def OrdR (t' t : NameT) : Prop := ¬ rankR t.1 < rankR t'.1 ∧ ¬ ((t'.1.toList == t.1.toList) = true ∧ t.2.1 ≤ t'.2.1)
def NamesR (x : Circ) (k : Nat) : Prop := ∀ j (h : j < x.names.length), j < k → (HeadR x x.names[j] ∧ BytesR x.names[j] x.names[j].2.2.size) ∧ ∀ t, 0 < j → x.names[j - 1]? = some t → OrdR t x.names[j]

theorem namesR_more {x : Circ} {k : Nat} (h : NamesR x k) (hk : k < x.names.length) (hok : HeadR x x.names[k] ∧ BytesR x.names[k] x.names[k].2.2.size) (hr : ∀ t, 0 < k → x.names[k - 1]? = some t → OrdR t x.names[k]) : NamesR x (k + 1) := by
  intro j hj hjk
  by_cases he : j = k
  · subst he; exact ⟨hok, hr⟩
  · exact h j hj (by omega)

structure YH (M M2 : Nat) (t t' : NameT) (wq w' : World) : Prop where
  below : Below wq.heap.size wq w'
  nb : NBox M t w'
  nb2 : NBox M2 t' w'
abbrev YAll (M M2 : Nat) (t t' : NameT) (wq w' : World) : Prop :=
  YH M M2 t t' wq w' ∧ w'.cell? ⟨M, 0, none⟩ = some (.string t.1) ∧ w'.cell? ⟨M, 1, none⟩ = some (.int .i64 t.2.1) ∧ w'.cell? ⟨M2, 0, none⟩ = some (.string t'.1) ∧ w'.cell? ⟨M2, 1, none⟩ = some (.int .i64 t'.2.1)
theorem yh_all {M M2 : Nat} {t t' : NameT} {wq w' : World} (h : YH M M2 t t' wq w') : YAll M M2 t t' wq w' := ⟨h, h.nb.n0, h.nb.n1, h.nb2.n0, h.nb2.n1⟩
theorem yh_in {M M2 : Nat} {t t' : NameT} {wq w' : World} (h : YAll M M2 t t' wq w') : YH M M2 t t' wq w' := h.1
theorem YH.more {M M2 : Nat} {t t' : NameT} {wq w1 w2 : World} (h : YH M M2 t t' wq w1) (hb : Below w1.heap.size w1 w2) : YH M M2 t t' wq w2 := ⟨h.below.trans (hb.mono h.below.size), h.nb.next hb (Nat.le_refl _), h.nb2.next hb (Nat.le_refl _)⟩

theorem y_rank {M M2 : Nat} {t t' : NameT} {wq : World} (k : ByteArray) : ∀ X, YAll M M2 t t' wq X → Calls Tryz.prog 55 #[.string k] X (fun e w' => e = .returned (.int .i64 (rankR k)) ∧ YAll M M2 t t' wq w') :=
  fun X hX => (refRank_any X k).mono fun e w' h => ⟨h.1, yh_all ((yh_in hX).more h.2)⟩

set_option maxRecDepth 8000 in
set_option maxHeartbeats 16000000 in
theorem refNames_any (w : World) (x : Circ) (p : At) (hin : InCirc w x p) (hw : WfC x) :
    Calls Tryz.prog 29 #[.agg (cells x p)] w fun e w' => e = .returned (.bool (tt (NamesR x x.names.length))) ∧ Below w.heap.size w w' := by
  obtain ⟨W1, hW1⟩ : ∃ W1, w.alloc (.cells (cells x p) 27) = W1 := ⟨_, rfl⟩
  obtain ⟨hb1, hcb⟩ := cbox_new w x p W1 hW1
  have hsl := hin.names.next hb1
  have HS := Lib.hid hsl
  have HB1 := Lib.hid hb1
  have HCB := Lib.hid hcb
  have hcap := hsl.cap
  have hbig := hsl.big
  have HWN := Lib.hid hw.names
  clear hin hb1 hcb hsl hw
  obtain ⟨a1, c1, a2, c2, a3, c3, a4, c4, a5, c5, a6, c6, a7, c7⟩ := p
  simp only at hcap hbig
  simp only [cells] at hW1 ⊢
  go_enter Tryz.func29, Tryz.ntmps29
  go_wp2_with fail
  clear hW1
  go_loopw [3] (fun s wr => ∃ k : Nat, k ≤ x.names.length ∧ s = .int .i64 k ∧ Hid (NamesR x k) ∧ Hid (Below W1.heap.size W1 wr)) (fun s _ => x.names.length - (intOf s).toNat)
  case atStart => exact ⟨0, Nat.zero_le _, rfl, (fun j _ hj => by omega), Below.refl _ _⟩
  case round =>
    obtain ⟨k, hk, rfl, hI, hbr⟩ := hrel
    have k7 : wr.cell? ⟨w.heap.size, 7, none⟩ = some (.slice a7 x.names.length c7) := (HCB.out.next hbr.out (Nat.le_refl _)).k7
    by_cases hlt : k < x.names.length
    · obtain ⟨b, o, hx, rfl, hbs, hc0, hc1, hc2⟩ := Circuit.SlT.name HS.out hlt
      have d0 := (hbr.out.cell (p := ⟨b, o + k * 3, none⟩) hbs).trans hc0
      have d1 := (hbr.out.cell (p := ⟨b, o + k * 3 + 1, none⟩) hbs).trans hc1
      have d2 := (hbr.out.cell (p := ⟨b, o + k * 3 + 2, none⟩) hbs).trans hc2
      clear hc0 hc1 hc2
      have HM := Lib.hid (namesR_more hI.out hlt)
      have HF : Hid (NamesR x x.names.length → (HeadR x x.names[k] ∧ BytesR x.names[k] x.names[k].2.2.size) ∧ ∀ t, 0 < k → x.names[k - 1]? = some t → OrdR t x.names[k]) := fun h => h k hlt hlt
      have hat := HWN.out _ (List.getElem_mem hx)
      generalize x.names[k] = t at *
      obtain ⟨U, hU⟩ : ∃ U, wr.alloc (.cells (nameC t) 96) = U := ⟨_, rfl⟩
      obtain ⟨hbU, hnb⟩ := nbox_new wr t U hU
      have HBU := Lib.hid (hbr.out.trans (hbU.mono hbr.out.size))
      have HNB := Lib.hid hnb
      have HCU := Lib.hid (HCB.out.next HBU.out (Nat.le_refl _))
      have HAT := Lib.hid hat
      clear hbU hnb hat
      simp only [nameC] at hU
      go_upto_region 5 with fail
      go_cut [41] (fun s wx => s = .bool (!tt (HeadR x t)) ∧ Below U.heap.size U wx)
      case first =>
        have FI := Lib.hid (nh_first HCU HNB)
        have LC2 := Lib.hid (fun V (hV : NAll w.heap.size wr.heap.size x (⟨a1, c1, a2, c2, a3, c3, a4, c4, a5, c5, a6, c6, some ⟨b, o, none⟩, c7⟩ : At) t U V) => (refCount_any V x (⟨a1, c1, a2, c2, a3, c3, a4, c4, a5, c5, a6, c6, some ⟨b, o, none⟩, c7⟩ : At) t.1).mono fun e w' h => (⟨h.1, nh_all ((nh_in hV).more h.2)⟩ : e = .returned (.int .i64 (countR x t.1)) ∧ NAll w.heap.size wr.heap.size x (⟨a1, c1, a2, c2, a3, c3, a4, c4, a5, c5, a6, c6, some ⟨b, o, none⟩, c7⟩ : At) t U w'))
        simp only [cells] at LC2
        clear d0 d1 d2 hU hbs hx HM HF hbr hI hcap hbig k7
        by_cases h0 : 0 ≤ t.2.1
        · have hd0 : decide (t.2.1 < 0) = false := decide_eq_false (by omega)
          by_cases h1 : t.2.1 < countR x t.1
          · have hd1 : decide (countR x t.1 ≤ t.2.1) = false := decide_eq_false (by omega)
            cases h2 : (t.2.2.toList == [])
            · have HR : Hid (tt (HeadR x t) = decide ((t.2.2.size : Int) ≤ 32)) := tt_bool (by
                rw [decide_eq_true_iff]
                exact ⟨fun h => ⟨h0, h1, h2, h⟩, fun h => h.2.2.2⟩)
              have HDN : Hid (decide ((32 : Int) < t.2.2.size) = !decide ((t.2.2.size : Int) ≤ 32)) := by
                show _ = _
                rw [Bool.eq_iff_iff]; simp
              generalize countR x t.1 = cn at *
              clear h0 h1
              refine Lex.region (fun w' => NAll w.heap.size wr.heap.size x (⟨a1, c1, a2, c2, a3, c3, a4, c4, a5, c5, a6, c6, some ⟨b, o, none⟩, c7⟩ : At) t U w') (by kernel_rfl) (by kernel_rfl) FI.out ?_
              repeat (first
                | (refine Lex.step_val (v := ?_) ?_ (fun w' hSw => ?_) ?_; rotate_left; (focus (go_simp; done)); (focus ((try dsimp only at hSw); go_simp; (try with_reducible rfl); done)); (try simp only [Act.put, List.setIfInBounds_toArray, List.set_cons_zero, List.set_cons_succ]))
                | (refine Lex.step_call (v := ?_) (f := ?_) (args := ?_) ?_ (fun w' hSw => ?_) ?_ ?_; rotate_left 3; (focus (go_simp; done)); (focus ((try dsimp only at hSw); go_simp; (refine And.intro ?_ ?_ <;> with_reducible rfl); done)); (focus (first | with_reducible exact LC2.out)); (try simp only [Act.put, List.setIfInBounds_toArray, List.set_cons_zero, List.set_cons_succ]))
                | (refine Lex.step_off ?_ ?_; (focus (first | (go_simp; done) | (simp [Region.wanted, yielded, undef]; done) | rfl)); (try simp only [Act.put, List.setIfInBounds_toArray, List.set_cons_zero, List.set_cons_succ]))
                | fail)
              refine Lex.step_nil ?_
              intro wz hz
              go_wp2_with fail
              go_meet
              exact ⟨by rw [HR.out, ← HDN.out], (nh_in hz).below⟩
            · have HR : Hid (tt (HeadR x t) = false) := tt_neg (fun h => by have := h.2.2.1; rw [h2] at this; cases this)
              generalize countR x t.1 = cn at *
              clear h0 h1
              refine Lex.region (fun w' => NAll w.heap.size wr.heap.size x (⟨a1, c1, a2, c2, a3, c3, a4, c4, a5, c5, a6, c6, some ⟨b, o, none⟩, c7⟩ : At) t U w') (by kernel_rfl) (by kernel_rfl) FI.out ?_
              repeat (first
                | (refine Lex.step_val (v := ?_) ?_ (fun w' hSw => ?_) ?_; rotate_left; (focus (go_simp; done)); (focus ((try dsimp only at hSw); go_simp; (try with_reducible rfl); done)); (try simp only [Act.put, List.setIfInBounds_toArray, List.set_cons_zero, List.set_cons_succ]))
                | (refine Lex.step_call (v := ?_) (f := ?_) (args := ?_) ?_ (fun w' hSw => ?_) ?_ ?_; rotate_left 3; (focus (go_simp; done)); (focus ((try dsimp only at hSw); go_simp; (refine And.intro ?_ ?_ <;> with_reducible rfl); done)); (focus (first | with_reducible exact LC2.out)); (try simp only [Act.put, List.setIfInBounds_toArray, List.set_cons_zero, List.set_cons_succ]))
                | (refine Lex.step_off ?_ ?_; (focus (first | (go_simp; done) | (simp [Region.wanted, yielded, undef]; done) | rfl)); (try simp only [Act.put, List.setIfInBounds_toArray, List.set_cons_zero, List.set_cons_succ]))
                | fail)
              refine Lex.step_nil ?_
              intro wz hz
              go_wp2_with fail
              go_meet
              exact ⟨by rw [HR.out]; first | done | rfl, (nh_in hz).below⟩
          · have hd1 : decide (countR x t.1 ≤ t.2.1) = true := decide_eq_true (by omega)
            have HR : Hid (tt (HeadR x t) = false) := tt_neg (fun h => h1 h.2.1)
            generalize countR x t.1 = cn at *
            clear h0 h1
            refine Lex.region (fun w' => NAll w.heap.size wr.heap.size x (⟨a1, c1, a2, c2, a3, c3, a4, c4, a5, c5, a6, c6, some ⟨b, o, none⟩, c7⟩ : At) t U w') (by kernel_rfl) (by kernel_rfl) FI.out ?_
            repeat (first
              | (refine Lex.step_val (v := ?_) ?_ (fun w' hSw => ?_) ?_; rotate_left; (focus (go_simp; done)); (focus ((try dsimp only at hSw); go_simp; (try with_reducible rfl); done)); (try simp only [Act.put, List.setIfInBounds_toArray, List.set_cons_zero, List.set_cons_succ]))
              | (refine Lex.step_call (v := ?_) (f := ?_) (args := ?_) ?_ (fun w' hSw => ?_) ?_ ?_; rotate_left 3; (focus (go_simp; done)); (focus ((try dsimp only at hSw); go_simp; (refine And.intro ?_ ?_ <;> with_reducible rfl); done)); (focus (first | with_reducible exact LC2.out)); (try simp only [Act.put, List.setIfInBounds_toArray, List.set_cons_zero, List.set_cons_succ]))
              | (refine Lex.step_off ?_ ?_; (focus (first | (go_simp; done) | (simp [Region.wanted, yielded, undef]; done) | rfl)); (try simp only [Act.put, List.setIfInBounds_toArray, List.set_cons_zero, List.set_cons_succ]))
              | fail)
            refine Lex.step_nil ?_
            intro wz hz
            go_wp2_with fail
            go_meet
            exact ⟨by rw [HR.out]; first | done | rfl, (nh_in hz).below⟩
        · have hd0 : decide (t.2.1 < 0) = true := decide_eq_true (by omega)
          have HR : Hid (tt (HeadR x t) = false) := tt_neg (fun h => h0 h.1)
          clear h0 LC2
          refine Lex.region (fun w' => NAll w.heap.size wr.heap.size x (⟨a1, c1, a2, c2, a3, c3, a4, c4, a5, c5, a6, c6, some ⟨b, o, none⟩, c7⟩ : At) t U w') (by kernel_rfl) (by kernel_rfl) FI.out ?_
          repeat (first
            | (refine Lex.step_val (v := ?_) ?_ (fun w' hSw => ?_) ?_; rotate_left; (focus (go_simp; done)); (focus ((try dsimp only at hSw); go_simp; (try with_reducible rfl); done)); (try simp only [Act.put, List.setIfInBounds_toArray, List.set_cons_zero, List.set_cons_succ]))
            | (refine Lex.step_call (v := ?_) (f := ?_) (args := ?_) ?_ (fun w' hSw => ?_) ?_ ?_; rotate_left 3; (focus (go_simp; done)); (focus ((try dsimp only at hSw); go_simp; (refine And.intro ?_ ?_ <;> with_reducible rfl); done)); (focus (first | fail)); (try simp only [Act.put, List.setIfInBounds_toArray, List.set_cons_zero, List.set_cons_succ]))
            | (refine Lex.step_off ?_ ?_; (focus (first | (go_simp; done) | (simp [Region.wanted, yielded, undef]; done) | rfl)); (try simp only [Act.put, List.setIfInBounds_toArray, List.set_cons_zero, List.set_cons_succ]))
            | fail)
          refine Lex.step_nil ?_
          intro wz hz
          go_wp2_with fail
          go_meet
          exact ⟨by rw [HR.out]; first | done | rfl, (nh_in hz).below⟩
      case rest =>
        obtain ⟨rfl, hbc⟩ := hcut
        by_cases hok : HeadR x t
        · rw [tt_pos hok]
          have HOK := Lib.hid hok
          have HBC := Lib.hid (HBU.out.trans (hbc.mono HBU.out.size))
          have HNX := Lib.hid (HNB.out.next hbc (Nat.le_refl _))
          have n2 := HNX.out.n2
          have hsz : t.2.2.size ≤ 32 := by have := hok.2.2.2; omega
          clear hok hbc hbr d0 d1 d2 hU
          go_wp2_with fail
          clear n2
          go_loopw [5] (fun s wq => ∃ j : Nat, j ≤ t.2.2.size ∧ s = .int .i64 j ∧ Hid (BytesR t j) ∧ Hid (Below wc.heap.size wc wq)) (fun s _ => t.2.2.size - (intOf s).toNat)
          case atStart => exact ⟨0, Nat.zero_le _, rfl, (fun i _ h => by omega), Below.refl _ _⟩
          case round =>
            obtain ⟨j, hj, rfl, hJ, hbq⟩ := hrel
            have n2 := (HNX.out.next hbq.out (Nat.le_refl _)).n2
            by_cases hjt : j < t.2.2.size
            · have HMJ : Hid (offB t.2.2[j] = false → BytesR t (j + 1)) := fun h i hi hij => by
                by_cases he : i = j
                · subst he; exact h
                · exact hJ.out i hi (by omega)
              have HFJ : Hid (NamesR x x.names.length → offB t.2.2[j] = false) := fun h => (HF.out h).1.2 j hjt hjt
              have HBQ := Lib.hid (HBC.out.trans (hbq.out.mono HBC.out.size))
              have HBQ2 := Lib.hid hbq.out
              clear hJ hbq
              have HOF : Hid (offB t.2.2[j] = (decide ((t.2.2[j].toNat : Int) < 33) || decide ((126 : Int) < t.2.2[j].toNat))) := rfl
              by_cases q1 : (t.2.2[j].toNat : Int) < 33
              · have hd1 : decide ((t.2.2[j].toNat : Int) < 33) = true := decide_eq_true q1
                have HR : Hid (tt (NamesR x x.names.length) = false) := tt_neg (fun h => by have := HFJ.out h; rw [HOF.out, hd1] at this; cases this)
                clear HMJ HFJ HOF
                go_wp2_with fail
                go_ret
                exact ⟨ret_bool HR.out.symm, HB1.out.trans (HBQ.out.mono HB1.out.size)⟩
              · have hd1 : decide ((t.2.2[j].toNat : Int) < 33) = false := decide_eq_false q1
                by_cases q2 : (126 : Int) < t.2.2[j].toNat
                · have hd2 : decide ((126 : Int) < t.2.2[j].toNat) = true := decide_eq_true q2
                  have HR : Hid (tt (NamesR x x.names.length) = false) := tt_neg (fun h => by have := HFJ.out h; rw [HOF.out, hd1, hd2] at this; cases this)
                  clear HMJ HFJ HOF
                  go_wp2_with fail
                  go_ret
                  exact ⟨ret_bool HR.out.symm, HB1.out.trans (HBQ.out.mono HB1.out.size)⟩
                · have hd2 : decide ((126 : Int) < t.2.2[j].toNat) = false := decide_eq_false q2
                  have HR := Lib.hid (HMJ.out (by rw [HOF.out, hd1, hd2]; rfl))
                  clear HMJ HFJ HOF
                  go_wp2_with fail
                  go_roundw
                  case rel => exact ⟨j + 1, by omega, by go_num, HR.out, HBQ2.out⟩
                  case measure => simp [intOf]; omega
            · have hje : j = t.2.2.size := by omega
              have HBY : Hid (BytesR t t.2.2.size) := by rw [← hje]; exact hJ
              have HBQ := Lib.hid (HBC.out.trans (hbq.out.mono HBC.out.size))
              have HNY := Lib.hid (HNX.out.next hbq.out (Nat.le_refl _))
              clear hje hJ hbq
              rcases Nat.eq_zero_or_pos k with h0 | hp
              · have HR := Lib.hid (HM.out ⟨HOK.out, HBY.out⟩ (fun t' hk0 _ => by omega))
                have hk0 : decide ((0 : Int) < (k : Int)) = false := decide_eq_false (by omega)
                have hk0' : ¬ (0 : Int) < (k : Int) := by omega
                clear HM HF
                go_wp2_with fail
                go_roundw
                case rel => exact ⟨k + 1, by omega, by go_num, HR.out, HBQ.out⟩
                case measure => simp [intOf]; omega
              · obtain ⟨m, hm⟩ : ∃ m, k = m + 1 := ⟨k - 1, by omega⟩
                have hk0 : decide ((0 : Int) < (k : Int)) = true := decide_eq_true (by omega)
                have hk0' : (0 : Int) < (k : Int) := by omega
                have hsub : IntKind.i64.wrap ((k : Int) - 1) = (m : Int) := by rw [IntKind.wrap_i64]; omega
                have hsub2 : wrap64 ((k : Int) - 1) = (m : Int) := by unfold wrap64; omega
                obtain ⟨b', o', hml, hae', hbs', hc0, hc1, hc2⟩ := Circuit.SlT.name HS.out (show m < x.names.length by omega)
                simp only [Option.some.injEq, Addr.mk.injEq, and_true] at hae'
                obtain ⟨rfl, rfl⟩ := hae'
                have e0 := (HBQ.out.cell (p := ⟨b, o + m * 3, none⟩) hbs).trans hc0
                have e1 := (HBQ.out.cell (p := ⟨b, o + m * 3 + 1, none⟩) hbs).trans hc1
                have e2 := (HBQ.out.cell (p := ⟨b, o + m * 3 + 2, none⟩) hbs).trans hc2
                have k7c : wr.cell? ⟨w.heap.size, 7, none⟩ = some (.slice (some ⟨b, o, none⟩) x.names.length c7) := (HCB.out.next HBQ.out (Nat.le_refl _)).k7
                have HPR : Hid (x.names[k - 1]? = some x.names[m]) := by show _ = _; rw [show k - 1 = m by omega]; exact List.getElem?_eq_getElem hml
                have hidx : (0 : Int) ≤ (m : Int) ∧ (m : Int) < (x.names.length : Int) := by omega
                generalize x.names[m] = t' at *
                obtain ⟨V, hV⟩ : ∃ V, wr.alloc (.cells (nameC t') 96) = V := ⟨_, rfl⟩
                obtain ⟨hbV, hnb2⟩ := nbox_new wr t' V hV
                have HBV := Lib.hid (HBQ.out.trans (hbV.mono HBQ.out.size))
                have HNV := Lib.hid (HNY.out.next hbV (Nat.le_refl _))
                have HNB2 := Lib.hid hnb2
                clear hbV hnb2 hc0 hc1 hc2 hsub k7
                simp only [nameC] at hV
                go_upto_region 14 with fail
                have YI := Lib.hid (yh_all ⟨(Below.refl _ _).drew, HNV.out.next (Below.refl _ _).drew (Nat.le_refl _), HNB2.out.next (Below.refl _ _).drew (Nat.le_refl _)⟩)
                have HORD : Hid (OrdR t' t ↔ ¬ rankR t.1 < rankR t'.1 ∧ ¬ ((t'.1.toList == t.1.toList) = true ∧ t.2.1 ≤ t'.2.1)) := Iff.rfl
                have HM2 : Hid (OrdR t' t → NamesR x (k + 1)) := fun h => HM.out ⟨HOK.out, HBY.out⟩ (fun t2 _ ht2 => by
                  rw [HPR.out] at ht2
                  simp only [Option.some.injEq] at ht2
                  rw [← ht2]
                  exact h)
                have HF2 : Hid (NamesR x x.names.length → OrdR t' t) := fun h => (HF.out h).2 t' hp HPR.out
                clear HM HF e0 e1 e2 k7c hV hsub2 hidx
                by_cases q1 : rankR t.1 < rankR t'.1
                · have hd1 : decide (rankR t.1 < rankR t'.1) = true := decide_eq_true q1
                  have HR : Hid (tt (NamesR x x.names.length) = false) := tt_neg (fun h => (HORD.out.1 (HF2.out h)).1 q1)
                  clear HM2 HF2 HORD
                  refine Lex.region (fun w' => YAll _ _ t t' V w') (by kernel_rfl) (by kernel_rfl) YI.out ?_
                  repeat (first
                    | (refine Lex.step_val (v := ?_) ?_ (fun w' hSw => ?_) ?_; rotate_left; (focus (go_simp; done)); (focus ((try dsimp only at hSw); go_simp; (try with_reducible rfl); done)); (try simp only [Act.put, List.setIfInBounds_toArray, List.set_cons_zero, List.set_cons_succ]))
                    | (refine Lex.step_call (v := ?_) (f := ?_) (args := ?_) ?_ (fun w' hSw => ?_) ?_ ?_; rotate_left 3; (focus (go_simp; done)); (focus ((try dsimp only at hSw); go_simp; (refine And.intro ?_ ?_ <;> with_reducible rfl); done)); (focus (first | with_reducible exact y_rank _)); (try simp only [Act.put, List.setIfInBounds_toArray, List.set_cons_zero, List.set_cons_succ]))
                    | (refine Lex.step_off ?_ ?_; (focus (first | (go_simp; done) | (simp [Region.wanted, yielded, undef]; done) | rfl)); (try simp only [Act.put, List.setIfInBounds_toArray, List.set_cons_zero, List.set_cons_succ]))
                    | fail)
                  refine Lex.step_nil ?_
                  intro wz hz
                  have HBZ := Lib.hid (HBV.out.trans ((yh_in hz).below.mono HBV.out.size))
                  go_wp2_with fail
                  go_ret
                  exact ⟨ret_bool HR.out.symm, HB1.out.trans (HBZ.out.mono HB1.out.size)⟩
                · have hd1 : decide (rankR t.1 < rankR t'.1) = false := decide_eq_false q1
                  cases q2 : (t'.1.toList == t.1.toList)
                  · have HR := Lib.hid (HM2.out (HORD.out.2 ⟨q1, fun h => by rw [q2] at h; cases h.1⟩))
                    clear HM2 HF2 HORD
                    refine Lex.region (fun w' => YAll _ _ t t' V w') (by kernel_rfl) (by kernel_rfl) YI.out ?_
                    repeat (first
                      | (refine Lex.step_val (v := ?_) ?_ (fun w' hSw => ?_) ?_; rotate_left; (focus (go_simp; done)); (focus ((try dsimp only at hSw); go_simp; (try with_reducible rfl); done)); (try simp only [Act.put, List.setIfInBounds_toArray, List.set_cons_zero, List.set_cons_succ]))
                      | (refine Lex.step_call (v := ?_) (f := ?_) (args := ?_) ?_ (fun w' hSw => ?_) ?_ ?_; rotate_left 3; (focus (go_simp; done)); (focus ((try dsimp only at hSw); go_simp; (refine And.intro ?_ ?_ <;> with_reducible rfl); done)); (focus (first | with_reducible exact y_rank _)); (try simp only [Act.put, List.setIfInBounds_toArray, List.set_cons_zero, List.set_cons_succ]))
                      | (refine Lex.step_off ?_ ?_; (focus (first | (go_simp; done) | (simp [Region.wanted, yielded, undef]; done) | rfl)); (try simp only [Act.put, List.setIfInBounds_toArray, List.set_cons_zero, List.set_cons_succ]))
                      | fail)
                    refine Lex.step_nil ?_
                    intro wz hz
                    have HBZ := Lib.hid (HBV.out.trans ((yh_in hz).below.mono HBV.out.size))
                    go_wp2_with fail
                    go_roundw
                    case rel => exact ⟨k + 1, by omega, by go_num, HR.out, HBZ.out⟩
                    case measure => simp [intOf]; omega
                  · by_cases q3 : t.2.1 ≤ t'.2.1
                    · have hd3 : decide (t.2.1 ≤ t'.2.1) = true := decide_eq_true q3
                      have HR : Hid (tt (NamesR x x.names.length) = false) := tt_neg (fun h => (HORD.out.1 (HF2.out h)).2 ⟨q2, q3⟩)
                      clear HM2 HF2 HORD
                      refine Lex.region (fun w' => YAll _ _ t t' V w') (by kernel_rfl) (by kernel_rfl) YI.out ?_
                      repeat (first
                        | (refine Lex.step_val (v := ?_) ?_ (fun w' hSw => ?_) ?_; rotate_left; (focus (go_simp; done)); (focus ((try dsimp only at hSw); go_simp; (try with_reducible rfl); done)); (try simp only [Act.put, List.setIfInBounds_toArray, List.set_cons_zero, List.set_cons_succ]))
                        | (refine Lex.step_call (v := ?_) (f := ?_) (args := ?_) ?_ (fun w' hSw => ?_) ?_ ?_; rotate_left 3; (focus (go_simp; done)); (focus ((try dsimp only at hSw); go_simp; (refine And.intro ?_ ?_ <;> with_reducible rfl); done)); (focus (first | with_reducible exact y_rank _)); (try simp only [Act.put, List.setIfInBounds_toArray, List.set_cons_zero, List.set_cons_succ]))
                        | (refine Lex.step_off ?_ ?_; (focus (first | (go_simp; done) | (simp [Region.wanted, yielded, undef]; done) | rfl)); (try simp only [Act.put, List.setIfInBounds_toArray, List.set_cons_zero, List.set_cons_succ]))
                        | fail)
                      refine Lex.step_nil ?_
                      intro wz hz
                      have HBZ := Lib.hid (HBV.out.trans ((yh_in hz).below.mono HBV.out.size))
                      go_wp2_with fail
                      go_ret
                      exact ⟨ret_bool HR.out.symm, HB1.out.trans (HBZ.out.mono HB1.out.size)⟩
                    · have hd3 : decide (t.2.1 ≤ t'.2.1) = false := decide_eq_false q3
                      have HR := Lib.hid (HM2.out (HORD.out.2 ⟨q1, fun h => q3 h.2⟩))
                      clear HM2 HF2 HORD
                      refine Lex.region (fun w' => YAll _ _ t t' V w') (by kernel_rfl) (by kernel_rfl) YI.out ?_
                      repeat (first
                        | (refine Lex.step_val (v := ?_) ?_ (fun w' hSw => ?_) ?_; rotate_left; (focus (go_simp; done)); (focus ((try dsimp only at hSw); go_simp; (try with_reducible rfl); done)); (try simp only [Act.put, List.setIfInBounds_toArray, List.set_cons_zero, List.set_cons_succ]))
                        | (refine Lex.step_call (v := ?_) (f := ?_) (args := ?_) ?_ (fun w' hSw => ?_) ?_ ?_; rotate_left 3; (focus (go_simp; done)); (focus ((try dsimp only at hSw); go_simp; (refine And.intro ?_ ?_ <;> with_reducible rfl); done)); (focus (first | with_reducible exact y_rank _)); (try simp only [Act.put, List.setIfInBounds_toArray, List.set_cons_zero, List.set_cons_succ]))
                        | (refine Lex.step_off ?_ ?_; (focus (first | (go_simp; done) | (simp [Region.wanted, yielded, undef]; done) | rfl)); (try simp only [Act.put, List.setIfInBounds_toArray, List.set_cons_zero, List.set_cons_succ]))
                        | fail)
                      refine Lex.step_nil ?_
                      intro wz hz
                      have HBZ := Lib.hid (HBV.out.trans ((yh_in hz).below.mono HBV.out.size))
                      go_wp2_with fail
                      go_roundw
                      case rel => exact ⟨k + 1, by omega, by go_num, HR.out, HBZ.out⟩
                      case measure => simp [intOf]; omega
        · have HR : Hid (tt (NamesR x x.names.length) = false) := tt_neg (fun h => hok (HF.out h).1.1)
          have HBC := Lib.hid (HBU.out.trans (hbc.mono HBU.out.size))
          rw [tt_neg hok]
          clear hok hbc hbr d0 d1 d2 hU
          go_wp2_with fail
          go_ret
          exact ⟨ret_bool HR.out.symm, HB1.out.trans (HBC.out.mono HB1.out.size)⟩
    · have hke : k = x.names.length := by omega
      have HR : Hid (tt (NamesR x x.names.length) = true) := tt_pos (by rw [← hke]; rw [← hke] at *; exact hI.out)
      have HBK := Lib.hid (HB1.out.trans (hbr.out.mono HB1.out.size))
      clear hke hI hbr
      go_wp2_with fail
      go_ret
      exact ⟨ret_bool HR.out.symm, HBK.out⟩
end Circuit
end Go.Proofs.YtjmmhbmbafjneaaGreatDoor
