/-
  interlocklaw11.FormulaBrute: the walk.
-/
import Derived.Test.YtpanpfbhdcanhaaAlive
import Derived.Test.YtpanpfbhdcanhaaBrute
namespace Go.Proofs.Ytpanpfbhdcanhaa
open Go.RowKit Base ModelsP BruteP
set_option linter.unusedVariables false
set_option linter.unusedSimpArgs false
namespace LawBrute


set_option maxHeartbeats 4000000 in
theorem any (w : World) (vars : Int) (a : Option Addr) (n c : Nat) (vs : List Value) (cls : List (List Int)) (hsl : Sl2 w a n c vs cls) (hw : Formula.Wf2 cls) :
    Calls Try.prog 4 #[.agg #[.int .i64 vars, .slice a n c]] w fun e w' => e = .returned (.bool true) ∧ Below w.heap.size w w' := by
  have hal : Below w.heap.size w (w.alloc (.cells #[.int .i64 vars, .slice a n c] 24)) := (Below.refl _ _).alloc (Nat.le_refl _) _
  have hbox : Models.Box (w.alloc (.cells #[.int .i64 vars, .slice a n c] 24)) w.heap.size vars a n c := ⟨by simp, by simp, by simp⟩
  have HBOX := Lib.hid hbox
  have HSL := Lib.hid (hsl.next hal)
  have HAL := Lib.hid hal
  have HWF := Lib.hid hw
  clear hal hbox hsl hw
  go_enter Try.func4, Try.ntmps4
  go_wp2_with fail
  generalize w.alloc (.cells #[.int .i64 vars, .slice a n c] 24) = W at *
  refine (Alive.alive_any W).mono ?_
  rintro e w1 ⟨rfl, hb1⟩
  have hx1 := HBOX.out.next hb1
  have c0 := hx1.c0
  have k1 := hx1.c1
  have HBR := Lib.hid (Brute.any w1 vars a n c vs cls (HSL.out.next hb1) HWF.out)
  obtain ⟨sp, hsp⟩ : ∃ sp, sp = Brute.spec vars cls := ⟨_, rfl⟩
  rw [← hsp] at HBR
  have HSPEC := Lib.hid hsp
  clear hsp
  obtain ⟨s, ok, er⟩ := sp
  go_wp2_with fail
  refine HBR.out.mono ?_
  rintro e w2 ⟨rfl, hb2⟩
  have hx2 := hx1.next hb2
  clear c0 k1
  have c0 := hx2.c0
  have k1 := hx2.c1
  have hbW2 : Below W.heap.size W w2 := hb1.trans (hb2.mono hb1.size)
  have HREF := Lib.hid (Formula.ref_any w2 vars a n c vs cls (HSL.out.next hbW2) HWF.out)
  have HEND2 : Hid (Below w.heap.size w w2) := HAL.out.trans (hbW2.mono HAL.out.size)
  by_cases hc : Formula.check vars cls = 0
  · rw [hc] at HREF
    have HSP2 : Hid ((s, ok, er) = if 14 < vars then ((⟨#[]⟩, false, 5) : ByteArray × Bool × Int) else match found vars cls with | some s => (s, true, 0) | none => (⟨#[]⟩, false, 0)) := HSPEC.out.trans (if_pos hc)
    have hv : 0 ≤ vars ∧ vars ≤ 262144 := by
      have h := hc
      unfold Formula.check at h
      split at h
      · omega
      · rename_i hb
        unfold Formula.bad at hb
        simp only [Bool.not_eq_true, Bool.or_eq_false_iff, decide_eq_false_iff_not] at hb
        omega
    clear hc
    go_wp2_with fail
    refine HREF.out.mono ?_
    rintro e w3 ⟨rfl, hb3⟩
    have hx3 := hx2.next hb3
    clear c0 k1
    have c0 := hx3.c0
    have k1 := hx3.c1
    have hbW3 : Below W.heap.size W w3 := hbW2.trans (hb3.mono hbW2.size)
    have HEND3 : Hid (Below w.heap.size w w3) := HEND2.out.trans (hb3.mono HEND2.out.size)
    obtain ⟨V, rfl⟩ : ∃ V : Nat, vars = V := ⟨vars.toNat, by omega⟩
    by_cases h14 : (14 : Int) < V
    · have h := HSP2.out
      rw [if_pos h14] at h
      simp only [Prod.mk.injEq] at h
      obtain ⟨rfl, rfl, rfl⟩ := h
      clear hv
      go_wp2_with fail
      refine (Alive.num_any _ _).mono ?_
      rintro e w4 ⟨rfl, rfl⟩
      go_wp2_with fail
      go_ret
      exact ⟨by rfl, HEND3.out⟩
    · have hV : V ≤ 14 := by omega
      have h := HSP2.out
      rw [if_neg h14] at h
      clear hv
      by_cases h10 : (10 : Int) < V
      · cases hf : found V cls with
        | none =>
          rw [hf] at h
          simp only [Prod.mk.injEq] at h
          obtain ⟨rfl, rfl, rfl⟩ := h
          clear hf
          go_wp2_with fail
          refine (Alive.num_any _ _).mono ?_
          rintro e w4 ⟨rfl, rfl⟩
          go_wp2_with fail
          go_ret
          exact ⟨by rfl, HEND3.out⟩
        | some y =>
          rw [hf] at h
          simp only [Prod.mk.injEq] at h
          obtain ⟨rfl, rfl, rfl⟩ := h
          have hyt := found_true hf
          have hys : s.size ≤ 14 := by
            have := allS_size _ s (List.mem_of_find?_eq_some hf)
            omega
          have HTR := Lib.hid (True.refTrue_any w3 V a n c vs cls (HSL.out.next hbW3) HWF.out s (by omega))
          rw [hyt] at HTR
          clear hf hyt
          go_wp2_with fail
          refine (Alive.num_any _ _).mono ?_
          rintro e w4 ⟨rfl, rfl⟩
          go_wp2_with fail
          refine HTR.out.mono ?_
          rintro e w4 ⟨rfl, hb4⟩
          go_wp2_with fail
          go_ret
          exact ⟨by rfl, HEND3.out.trans (hb4.mono HEND3.out.size)⟩
      · have HM := Lib.hid (Models.models_any w3 V (by omega) a n c vs cls (HSL.out.next hbW3) HWF.out none 0 0 [] (Sl.nil _) (fun x hx => by cases hx))
        have HHD := Lib.hid (models_nil V cls)
        generalize models V cls [] = ms at *
        generalize hfd : found V cls = fd at *
        clear hfd
        go_wp2_with fail
        refine HM.out.mono ?_
        rintro e w4 ⟨am, cm, rfl, hsm, hb4⟩
        have HEND4 : Hid (Below w.heap.size w w4) := HEND3.out.trans (hb4.mono HEND3.out.size)
        cases ms with
        | nil =>
          have hfn : none = fd := HHD.out
          subst hfn
          simp only [Prod.mk.injEq] at h
          obtain ⟨rfl, rfl, rfl⟩ := h
          go_wp2_with fail
          refine (Alive.num_any _ _).mono ?_
          rintro e w5 ⟨rfl, rfl⟩
          go_wp2_with fail
          go_ret
          exact ⟨by rfl, HEND4.out⟩
        | cons y r =>
          have hfn : some y = fd := HHD.out
          subst hfn
          simp only [Prod.mk.injEq] at h
          obtain ⟨rfl, rfl, rfl⟩ := h
          have hlen : 0 < (s :: r).length := by simp
          obtain ⟨g, o, hy, rfl, hgs, hcy⟩ := str_at hsm hlen
          have hcy' : w4.cell? ⟨g, o, none⟩ = some (.string s) := hcy
          have hcap := hsm.cap
          have hbig := hsm.big
          have HHSM := Lib.hid hsm
          clear hcy hsm
          generalize (s :: r).length = L at *
          have hL0 : ((L : Int) == 0) = false := by simp; omega
          go_wp2_with fail
          refine (Alive.num_any _ _).mono ?_
          rintro e w5 ⟨rfl, rfl⟩
          go_wp2_with fail
          go_ret
          exact ⟨by rfl, HEND4.out⟩
  · have HQ : Hid (Formula.check vars cls = 9) := by
      show _ = _
      have h := hc
      unfold Formula.check at h ⊢
      split at h
      · rename_i hb; rw [if_pos hb]
      · exact absurd rfl h
    have h : (s, ok, er) = ((⟨#[]⟩, false, 9) : ByteArray × Bool × Int) := HSPEC.out.trans (if_neg hc)
    simp only [Prod.mk.injEq] at h
    obtain ⟨rfl, rfl, rfl⟩ := h
    rw [HQ.out] at HREF
    clear hc
    go_wp2_with fail
    refine HREF.out.mono ?_
    rintro e w3 ⟨rfl, hb3⟩
    go_wp2_with fail
    refine (Alive.num_any _ _).mono ?_
    rintro e w4 ⟨rfl, rfl⟩
    go_wp2_with fail
    go_ret
    exact ⟨by rfl, HEND2.out.trans (hb3.mono HEND2.out.size)⟩
end LawBrute
end Go.Proofs.Ytpanpfbhdcanhaa
