/-
  invariant.odd, the law's fits: may a clause be printed?
-/
import Derived.Test.YtmiklgekcmeedaaDoorFitP
import Derived.Test.YtmiklgekcmeedaaDoorCNorm
import Derived.Test.YtmiklgekcmeedaaDoorEqI
import Derived.Test.YtmiklgekcmeedaaDoorCheckB
import Derived.Test.YtmiklgekcmeedaaDoorUns
namespace Go.Proofs.YtmiklgekcmeedaaDoor
open Go.RowKit Base
set_option linter.unusedVariables false
set_option linter.unusedSimpArgs false
namespace Inv
open Dig (own_slI')

set_option maxHeartbeats 4000000 in
theorem odd_any (w : World) (a : Option Addr) (n c : Nat) (l : List Int) (hs : Sl w a n c (ints l)) (hw : Clause.Wf l) (hn : n ≤ 17592186044000) :
    Calls Tryd.prog 11 #[.slice a n c] w fun e w' => e = .returned (.bool (!fitsB l)) ∧ Below w.heap.size w w' := by
  have hln : l.length = n := by have := hs.len; rwa [ints_len] at this
  have HF : Hid (fitsB l = (decide (0 < l.length) && (!RefC.always (RefC.norm l) && (decide (RefC.norm l = l) && decide (Clause.check 64 l = 0))))) := rfl
  have HN := Lib.hid (Clause.norm_any w a n c l hs hw (by omega))
  have HE := Lib.hid (fun (U : World) (hU : Below w.heap.size w U) (a' : Option Addr) (c' : Nat) (h' : Sl U a' (RefC.norm l).length c' (ints (RefC.norm l))) => EqI.equal_any U a' a _ n c' c (RefC.norm l) l h' (hs.next hU))
  have HC := Lib.hid (fun (U : World) (hU : Below w.heap.size w U) => Clause.check_any U 64 a n c l (hs.next hU) hw)
  have hcap := hs.cap
  have hbig := hs.big
  rw [hln] at HF
  clear hs hw hn hln
  unfold Clause.NormOut at HN
  generalize hal : RefC.always (RefC.norm l) = al at *
  generalize hml : (RefC.norm l).length = m at *
  generalize hck : Clause.check 64 l = ck at *
  generalize hde : decide (RefC.norm l = l) = de at *
  generalize hfb : fitsB l = fb at *
  generalize RefC.norm l = L at *
  clear hal hck hde hfb
  go_enter Tryd.func11, Tryd.ntmps11
  go_wp2_with fail
  with_reducible refine HN.out.mono ?_
  rintro e w1 ⟨a1, c1, rfl, ho1, hb1⟩
  have HB1 := Lib.hid hb1
  have HE1 := Lib.hid (HE.out w1 hb1 a1 c1 (own_slI' ho1))
  have h1 := (own_slI' ho1).cap
  have h2 := (own_slI' ho1).big
  clear ho1 hb1
  by_cases h0 : n = 0
  · subst h0
    have HV : Hid (fb = false) := by show _ = _; rw [HF.out]; rfl
    go_wp2_with fail
    go_ret
    exact ⟨by rw [HV.out]; rfl, HB1.out⟩
  · have hz : ((n : Int) == 0) = false := by simp [h0]
    have HP : Hid (decide (0 < n) = true) := by show _ = _; exact decide_eq_true (by omega)
    rw [HP.out, Bool.true_and] at HF
    cases al
    case true =>
      have HV : Hid (fb = false) := by show _ = _; rw [HF.out]; rfl
      go_wp2_with fail
      go_ret
      exact ⟨by rw [HV.out]; rfl, HB1.out⟩
    case false =>
      rw [Bool.not_false, Bool.true_and] at HF
      go_wp2_with fail
      with_reducible refine HE1.out.mono ?_
      rintro e w2 ⟨rfl, q, rfl⟩
      have HB2 := Lib.hid (below_drewN HB1.out q)
      have HC2 := Lib.hid (HC.out _ HB2.out)
      generalize w1.drewN q = w2 at *
      cases de
      case false =>
        have HV : Hid (fb = false) := by show _ = _; rw [HF.out]; rfl
        go_wp2_with fail
        go_ret
        exact ⟨by rw [HV.out]; rfl, HB2.out⟩
      case true =>
        rw [Bool.true_and] at HF
        go_wp2_with fail
        with_reducible refine HC2.out.mono ?_
        rintro e w3 ⟨rfl, hb3⟩
        have HB3 := Lib.hid (HB2.out.trans (hb3.mono HB2.out.size))
        clear hb3
        by_cases hc0 : ck = 0
        · subst hc0
          have HV : Hid (fb = true) := by show _ = _; rw [HF.out]; rfl
          go_wp2_with fail
          go_ret
          exact ⟨by rw [HV.out]; rfl, HB3.out⟩
        · have hcv : (ck != 0) = true := by simp [hc0]
          have HV : Hid (fb = false) := by show _ = _; rw [HF.out]; exact decide_eq_false hc0
          clear hc0
          go_wp2_with fail
          go_ret
          exact ⟨by rw [HV.out]; rfl, HB3.out⟩
end Inv
end Go.Proofs.YtmiklgekcmeedaaDoor
