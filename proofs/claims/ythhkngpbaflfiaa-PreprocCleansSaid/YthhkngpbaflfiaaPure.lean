/-
  preproc.Pure: literals whose opposite is nowhere.
-/
import Derived.Test.YthhkngpbaflfiaaConcatI
import Derived.Test.YthhkngpbaflfiaaPureP
import Derived.Test.YthhkngpbaflfiaaFormulaOk
import Derived.Test.YthhkngpbaflfiaaClean
import Derived.Maps.OwnOps
import Derived.Maps.Views
namespace Go.Proofs.Ythhkngpbaflfiaa
open Go.RowKit Base Go.Maps
set_option linter.unusedVariables false
set_option linter.unusedSimpArgs false
namespace Pure

theorem law : Keyed Try.prog 3 := int_keyed Try.underlying3
theorem zeroE (w : World) : (zeroValue 4).run Try.prog w = .ok (.bool false) w := by kernel_rfl
theorem info_int : (Try.prog.info? 3).map (fun i => (i.zero, i.size, i.bytes)) = some (some (.int .i64 0), 1, 8) := by kernel_rfl

def I64 (x : Int) : Prop := -9223372036854775808 ≤ x ∧ x ≤ 9223372036854775807

theorem wf_lit {x : Int} (h : I64 x) : (Lit.int .i64 x).wf = true := by
  unfold I64 at h
  simp [Lit.wf, IntKind.min, IntKind.max, IntKind.signed, IntKind.bits]
  omega

/-- A map of the call's own that says true at just these. -/
def SetIs (w : World) (b n : Nat) (X : List Int) : Prop :=
  ∃ D : DataW Unit, w.ownsMap Try.prog 3 (plainElem Try.prog 4) b n D ∧ IsMap D ∧ ∀ x, I64 x → D.atKey (.int .i64 x) (.lit (.bool false)) = .lit (.bool (decide (x ∈ X)))

theorem bool_inv {e : TypeId} (he : Try.prog.underlying e = some .bool) {v : Value} {z : DataW Unit × List MemPlace} (h : plainElem Try.prog e v = some z) : ∃ y, v = .bool y ∧ z = (.lit (.bool y), []) := by
  unfold plainElem at h
  rw [he] at h
  cases v <;> simp at h
  exact ⟨_, rfl, h.symm⟩

theorem set_look {w : World} {b n : Nat} {X : List Int} (h : SetIs w b n X) {x : Int} (hx : I64 x) :
    (Instr.lookup 49 (.map (some b)) (.int .i64 x) false).run Try.prog w = .ok (.bool (decide (x ∈ X))) w := by
  obtain ⟨D, ho, _, hat⟩ := h
  obtain ⟨v, ps, hrun, hv⟩ := ho.lookup law Try.underlying49 (zeroE w) (plainElem_bool Try.underlying4 false) (keyOf_int_mk Try.underlying3 (wf_lit hx))
  obtain ⟨y, rfl, hz⟩ := bool_inv Try.underlying4 hv
  simp only [Prod.mk.injEq] at hz
  have := hz.1.symm.trans (hat x hx)
  simp only [DataW.lit.injEq, Lit.bool.injEq] at this
  rw [hrun, this]

theorem SetIs.next {w w' : World} {b n : Nat} {X : List Int} (h : SetIs w b n X) (hb : Below w.heap.size w w') : SetIs w' b n X := by
  obtain ⟨D, ⟨es, cl, hh, r⟩, hm, hat⟩ := h
  exact ⟨D, ⟨es, cl, (hb.block b (Array.getElem?_eq_some_iff.1 hh).1).trans hh, r⟩, hm, hat⟩

theorem set_made (w : World) : SetIs (w.alloc (.map #[] 0)) w.heap.size 0 [] :=
  ⟨.map [], World.ownsMap_made _ _ _ _, ⟨_, rfl⟩, fun x _ => by simp [DataW.atKey]⟩

theorem set_put {D : DataW Unit} {X : List Int} (hm : IsMap D) (hat : ∀ x, I64 x → D.atKey (.int .i64 x) (.lit (.bool false)) = .lit (.bool (decide (x ∈ X)))) (y : Int) :
    IsMap (D.put (.int .i64 y) (.lit (.bool true))) ∧ ∀ x, I64 x → (D.put (.int .i64 y) (.lit (.bool true))).atKey (.int .i64 x) (.lit (.bool false)) = .lit (.bool (decide (x ∈ X ++ [y]))) := by
  refine ⟨hm.put _ _, fun x hx => ?_⟩
  by_cases hxy : x = y
  · subst hxy
    rw [atKey_put_same hm (by trivial)]
    simp
  · rw [atKey_put_other (by intro e; simp at e; exact hxy e), hat x hx]
    simp [hxy]

/-- w2 is as w, but for one block. -/
structure But (b : Nat) (w w2 : World) : Prop where
  size : w.heap.size ≤ w2.heap.size
  block : ∀ k, k < w.heap.size → k ≠ b → w2.heap[k]? = w.heap[k]?

theorem ints_flat (cls : List (List Int)) : (cls.map ints).flatten = ints cls.flatten := by
  unfold ints
  rw [List.map_flatten]

theorem tot_ints (cls : List (List Int)) : ConcatI.tot (cls.map ints) = cls.flatten.length := by
  unfold ConcatI.tot
  rw [ints_flat, ints_len]

theorem parts_of {w : World} {a : Option Addr} {n c : Nat} {vs : List Value} {cls : List (List Int)} (h : Sl2 w a n c vs cls) : ConcatI.Parts w vs (cls.map ints) := by
  refine ⟨by rw [List.length_map, h.sl.len, h.len], fun k v u hv hu => ?_⟩
  rw [List.getElem?_map, Option.map_eq_some_iff] at hu
  obtain ⟨xs, hxs, rfl⟩ := hu
  obtain ⟨a', c', rfl, hs⟩ := h.row k v xs hv hxs
  exact ⟨a', c', by rw [ints_len], by rw [ints_len]; exact hs⟩

theorem flat_len (cls : List (List Int)) (m : Nat) (h : ∀ l ∈ cls, l.length ≤ m) : cls.flatten.length ≤ cls.length * m := by
  induction cls with
  | nil => simp
  | cons x r ih =>
    rw [List.flatten_cons, List.length_append, List.length_cons, Nat.succ_mul]
    have h1 := h x List.mem_cons_self
    have h2 := ih (fun l hl => h l (List.mem_cons_of_mem _ hl))
    omega

def PureOut (w : World) (vars : Int) (cls : List (List Int)) (e : Ending) (w' : World) : Prop :=
  (if Formula.check vars cls = 0 then ∃ a' c', e = .returned (.slice a' (pures cls.flatten vars.toNat).length c') ∧ w'.ownsRow w.heap.size 3 1 (.slice a' (pures cls.flatten vars.toNat).length c') (pures cls.flatten vars.toNat).length (ints (pures cls.flatten vars.toNat))
    else e = .returned (.slice none 0 0)) ∧ Below w.heap.size w w'

set_option maxRecDepth 8000 in
set_option maxHeartbeats 8000000 in
theorem pure_any (w : World) (vars : Int) (a : Option Addr) (n c : Nat) (vs : List Value) (cls : List (List Int)) (hsl : Sl2 w a n c vs cls) (hw : Formula.Wf2 cls) :
    Calls Try.prog 11 #[.agg #[.int .i64 vars, .slice a n c]] w (PureOut w vars cls) := by
  obtain ⟨W1, hW1⟩ : ∃ W1, w.alloc (.cells #[.int .i64 vars, .slice a n c] 24) = W1 := ⟨_, rfl⟩
  have h1 : Below w.heap.size w W1 := by rw [← hW1]; exact (Below.refl _ _).alloc (Nat.le_refl _) _
  have b0 : W1.cell? ⟨w.heap.size, 0, none⟩ = some (.int .i64 vars) := by rw [← hW1]; simp [go_sem]
  have b1 : W1.cell? ⟨w.heap.size, 1, none⟩ = some (.slice a n c) := by rw [← hW1]; simp [go_sem]
  have z1 : W1.heap.size = w.heap.size + 1 := by rw [← hW1]; simp
  have HCH := Lib.hid (Formula.check_any W1 vars a n c vs cls (hsl.next h1) hw)
  have HB1 := Lib.hid h1
  have HOK := Lib.hid (@Formula.check_ok vars cls)
  have H9 := Lib.hid (Formula.check_or vars cls)
  have HLN := Lib.hid hsl.len
  have HS := Lib.hid hsl
  have HW := Lib.hid hw
  have hmm := @run_makeMap Try.prog
  have HPO : Hid (PureOut w vars cls = fun e w' => (if Formula.check vars cls = 0 then ∃ a' c', e = .returned (.slice a' (pures cls.flatten vars.toNat).length c') ∧ w'.ownsRow w.heap.size 3 1 (.slice a' (pures cls.flatten vars.toNat).length c') (pures cls.flatten vars.toNat).length (ints (pures cls.flatten vars.toNat)) else e = .returned (.slice none 0 0)) ∧ Below w.heap.size w w') := rfl
  generalize PureOut w vars cls = R at *
  clear hsl hw h1
  generalize Formula.check vars cls = q at *
  go_enter Try.func11, Try.ntmps11
  go_wp2_with fail
  refine HCH.out.mono ?_
  rintro e w3 ⟨rfl, hb3⟩
  have c0 := (hb3.cell (p := ⟨w.heap.size, 0, none⟩) (by show w.heap.size < W1.heap.size; omega)).trans b0
  have c1 := (hb3.cell (p := ⟨w.heap.size, 1, none⟩) (by show w.heap.size < W1.heap.size; omega)).trans b1
  have HB3 := Lib.hid (HB1.out.trans (hb3.mono HB1.out.size))
  have hz3 : w.heap.size < w3.heap.size := by have := hb3.size; omega
  clear hb3 b0 b1 hW1 z1
  rcases H9.out with h0 | h9
  · subst h0
    have HK := Lib.hid (HOK.out rfl)
    have HV0 : 0 ≤ vars := HK.out.1
    have HV1 : vars ≤ 262144 := HK.out.2.1
    obtain ⟨V, rfl⟩ := Int.eq_ofNat_of_zero_le HV0
    obtain ⟨W4, hW4⟩ : ∃ W4, w3.alloc (.map #[] 0) = W4 := ⟨_, rfl⟩
    have hb4 : Below w3.heap.size w3 W4 := by rw [← hW4]; exact (Below.refl _ _).alloc (Nat.le_refl _) _
    have hset : SetIs W4 w3.heap.size 0 [] := by rw [← hW4]; exact set_made w3
    have z4 : W4.heap.size = w3.heap.size + 1 := by rw [← hW4]; simp
    have d0 := (hb4.cell (p := ⟨w.heap.size, 0, none⟩) hz3).trans c0
    have d1 := (hb4.cell (p := ⟨w.heap.size, 1, none⟩) hz3).trans c1
    have HB4 := Lib.hid (HB3.out.trans (hb4.mono HB3.out.size))
    have hs4 := HS.out.next HB4.out
    have hflat : cls.flatten.length ≤ 1073741824 := by
      have h1 := flat_len cls 1024 (fun l hl => (HK.out.2.2.2 l hl).1)
      have h2 := HK.out.2.2.1
      omega
    have CC := ConcatI.concat W4 a n c vs (cls.map ints) hs4.sl (parts_of hs4) (by intro u hu v hv; obtain ⟨l, _, rfl⟩ := List.mem_map.1 hu; exact ints_one l v hv) (by rw [tot_ints]; omega) (by rw [tot_ints]; omega)
    rw [tot_ints, ints_flat] at CC
    have HCC := Lib.hid CC
    have HFL := Lib.hid hflat
    have HXW : Hid (∀ x ∈ cls.flatten, I64 x) := by
      intro x hx
      obtain ⟨l, hl, hx⟩ := List.mem_flatten.1 hx
      exact HW.out l hl x hx
    have HSET := Lib.hid hset
    clear CC hs4 hflat hset HB3 hb4 c0 c1 HV0 HOK HCH H9
    generalize cls.flatten = X at *
    go_wp2_with fail
    clear hW4
    refine HCC.out.mono ?_
    rintro e w5 ⟨a5, c5, rfl, hown5, hb5⟩
    have e0 := (hb5.cell (p := ⟨w.heap.size, 0, none⟩) (by show w.heap.size < W4.heap.size; omega)).trans d0
    have HSET5 := Lib.hid (HSET.out.next hb5)
    have HB5 := Lib.hid (HB4.out.trans (hb5.mono HB4.out.size))
    have HSL5 := Lib.hid (Base.own_ints hown5)
    have hcap5 := HSL5.out.cap
    have hbig5 := HSL5.out.big
    have HPL : Hid (∀ g o, a5 = some ⟨g, o, none⟩ → X ≠ [] → g ≠ w3.heap.size) := by
      intro g o e hne
      have hpos := List.length_pos_iff.2 hne
      obtain ⟨g', e', hg, _⟩ := Base.own_addr hown5 hpos
      rw [e] at e'
      simp only [Option.some.injEq, Addr.mk.injEq] at e'
      omega
    have hz5 : W4.heap.size ≤ w5.heap.size := hb5.size
    clear hb5 hown5 d0 d1 HCC HSET
    go_wp2_with fail
    go_loopw [16] (fun s wr => ∃ k : Nat, k ≤ X.length ∧ s = .int .i64 k ∧ Hid (SetIs wr w3.heap.size k (X.take k)) ∧ Hid (Below w3.heap.size w5 wr) ∧ Hid (But w3.heap.size w5 wr)) (fun s _ => X.length - (intOf s).toNat)
    case atStart => exact ⟨0, Nat.zero_le _, rfl, HSET5.out, Below.refl _ _, Nat.le_refl _, fun _ _ _ => rfl⟩
    case round =>
      obtain ⟨k, hk, rfl, hset, hbr, hbut⟩ := hrel
      by_cases hlt : k < X.length
      · obtain ⟨b, o, hx, rfl, hbs, hc⟩ := HSL5.out.int hlt
        have hne : b ≠ w3.heap.size := HPL.out b o rfl (by rintro rfl; simp at hlt)
        have hcr := (World.cell?_of_block (w := w5) (a := ⟨b, o + k, none⟩) (hbut.out.block b hbs hne)).trans hc
        have HTK : Hid (X.take (k + 1) = X.take k ++ [X[k]]) := List.take_succ_eq_append_getElem hx
        have HXI := Lib.hid (wf_lit (HXW.out _ (List.getElem_mem hx)))
        obtain ⟨D, hown, hm, hat⟩ := hset.out
        have HKL : Hid (k < maxLen) := by unfold maxLen; show _ < _; have := HFL.out; omega
        have HPUT := Lib.hid (set_put hm hat X[k])
        clear hc hm hat
        generalize X[k] = x at *
        go_wp2_with ((at_mapUpdate; refine wpList_mapUpdate_own _ rfl _ _ _ 49 rfl 3 4 law Try.underlying49 _ w3.heap.size k _ rfl hown HKL.out _ _ _ rfl rfl (keyOf_int_mk Try.underlying3 HXI.out) _ [] (plainElem_bool Try.underlying4 true) ?_; intro w6 hown6 hgrow6))
        have HST : Hid (SetIs w6 w3.heap.size (k + 1) (X.take (k + 1))) := by
          show SetIs _ _ _ _
          rw [HTK.out]
          exact ⟨_, hown6, HPUT.out.1, HPUT.out.2⟩
        have HBR : Hid (Below w3.heap.size w5 w6) := hbr.out.grown hgrow6 (Nat.le_trans (by have := hbut.out.size; omega) hbut.out.size) (fun j hj => by simp only [Option.some.injEq] at hj; omega)
        have HBU : Hid (But w3.heap.size w5 w6) := ⟨Nat.le_trans hbut.out.size hgrow6.size, fun j hj hne => (hgrow6.block j (Nat.lt_of_lt_of_le hj hbut.out.size) (by simp only [ne_eq, Option.some.injEq]; exact hne)).trans (hbut.out.block j hj hne)⟩
        clear hown6 hgrow6 hset hbr hbut
        go_roundw
        case rel => exact ⟨k + 1, by omega, by go_num, HST.out, HBR.out, HBU.out⟩
        case measure => simp [intOf]; omega
      · have HTK : Hid (X.take k = X) := List.take_of_length_le (by omega)
        have HSX : Hid (SetIs wr w3.heap.size k X) := by
          have h := hset.out
          rwa [HTK.out] at h
        have f0 := (hbr.out.cell (p := ⟨w.heap.size, 0, none⟩) hz3).trans e0
        have HBW : Hid (Below w.heap.size w wr) := HB5.out.trans (hbr.out.mono (by omega))
        have hzr : w3.heap.size < wr.heap.size := by have := hbut.out.size; omega
        clear hset hbr hbut
        go_wp2_with fail
        clear hlt
        generalize wr = wq at *
        generalize hnx : k = nx at *
        clear hnx
        go_loopw [6, 7] (fun v s wr => ∃ i : Nat, i ≤ V ∧ s = .int .i64 ((i : Int) + 1) ∧ ∃ a6 c6, v = .slice a6 (pures X i).length c6 ∧ Hid (wr.ownsRow wq.heap.size 3 1 (.slice a6 (pures X i).length c6) (pures X i).length (ints (pures X i))) ∧ Hid (Below wq.heap.size wq wr)) (fun _ s _ => V + 1 - (intOf s).toNat)
        case atStart => exact ⟨0, Nat.zero_le _, rfl, none, 0, rfl, World.ownsRow_nil _ _ _ _, Below.refl _ _⟩
        case round =>
          obtain ⟨i, hi, rfl, a6, c6, rfl, hown, hbr⟩ := hrel
          have fr := (hbr.out.cell (p := ⟨w.heap.size, 0, none⟩) (by show w.heap.size < wq.heap.size; omega)).trans f0
          by_cases hlt : i < V
          · have hI : (i : Int) + 1 ≤ (V : Int) := by omega
            have HSR := HSX.out.next hbr.out
            have HPM := Lib.hid (pures_more X i)
            have hpl : (pures X i).length ≤ 262144 := Nat.le_trans (pures_len X i) (by omega)
            have HPLN := Lib.hid hpl
            have l1 := set_look HSR (x := (i : Int) + 1) (by unfold I64; omega)
            have l2 := set_look HSR (x := -((i : Int) + 1)) (by unfold I64; omega)
            have HPLX : Hid (pl X ((i : Int) + 1) = if (i : Int) + 1 ∈ X ∧ -((i : Int) + 1) ∉ X then [(i : Int) + 1] else if -((i : Int) + 1) ∈ X ∧ (i : Int) + 1 ∉ X then [-((i : Int) + 1)] else []) := rfl
            clear HSR hpl
            by_cases hy : (i : Int) + 1 ∈ X
            · by_cases hn : -((i : Int) + 1) ∈ X
              · rw [decide_eq_true hy] at l1
                rw [decide_eq_true hn] at l2
                simp only [hy, hn, not_true, not_false, not_true_eq_false, not_false_eq_true, and_true, and_false, true_and, false_and, if_true, if_false] at HPLX
                rw [HPLX.out, List.append_nil] at HPM
                clear hy hn
                go_wp2_with fail
                go_roundw
                case rel => exact ⟨i + 1, by omega, congrArg _ (by omega), a6, c6, by rw [HPM.out], by show World.ownsRow _ _ _ _ _ _ _; rw [HPM.out]; exact hown.out, hbr.out⟩
                case measure => simp [intOf]; omega
              · rw [decide_eq_true hy] at l1
                rw [decide_eq_false hn] at l2
                simp only [hy, hn, not_true, not_false, not_true_eq_false, not_false_eq_true, and_true, and_false, true_and, false_and, if_true, if_false] at HPLX
                rw [HPLX.out] at HPM
                clear hy hn
                go_wp2_with ((with_reducible refine wpL_push (B := wq.heap.size) (W := wq) wr (.int .i64 ((i : Int) + 1)) _ (pures X i).length (ints (pures X i)) info_int Try.underlying29 ?_ ?_ ?_ ?_ ?_ hown.out ?_ ?_ ?_ hbr.out ?_); rfl; rfl; rfl; rfl; rfl; (exact hbr.out.size); (have := HPLN.out; omega); (have := HPLN.out; omega); (intro a7 c7 w7 hown7 hb7 hsz7))
                have HL : Hid ((pures X (i + 1)).length = (pures X i).length + 1) := by show _ = _; rw [HPM.out, List.length_append]; rfl
                have HE : Hid (ints (pures X (i + 1)) = ints (pures X i) ++ [.int .i64 ((i : Int) + 1)]) := by show _ = _; rw [HPM.out]; simp [ints]
                go_roundw
                case rel => exact ⟨i + 1, by omega, congrArg _ (by omega), a7, c7, by rw [HL.out], by show World.ownsRow _ _ _ _ _ _ _; rw [HL.out, HE.out]; exact hown7, hb7⟩
                case measure => simp [intOf]; omega
            · by_cases hn : -((i : Int) + 1) ∈ X
              · rw [decide_eq_false hy] at l1
                rw [decide_eq_true hn] at l2
                simp only [hy, hn, not_true, not_false, not_true_eq_false, not_false_eq_true, and_true, and_false, true_and, false_and, if_true, if_false] at HPLX
                rw [HPLX.out] at HPM
                clear hy hn
                go_wp2_with ((with_reducible refine wpL_push (B := wq.heap.size) (W := wq) wr (.int .i64 (-((i : Int) + 1))) _ (pures X i).length (ints (pures X i)) info_int Try.underlying29 ?_ ?_ ?_ ?_ ?_ hown.out ?_ ?_ ?_ hbr.out ?_); rfl; rfl; rfl; rfl; rfl; (exact hbr.out.size); (have := HPLN.out; omega); (have := HPLN.out; omega); (intro a7 c7 w7 hown7 hb7 hsz7))
                have HL : Hid ((pures X (i + 1)).length = (pures X i).length + 1) := by show _ = _; rw [HPM.out, List.length_append]; rfl
                have HE : Hid (ints (pures X (i + 1)) = ints (pures X i) ++ [.int .i64 (-((i : Int) + 1))]) := by show _ = _; rw [HPM.out]; simp [ints]
                go_roundw
                case rel => exact ⟨i + 1, by omega, congrArg _ (by omega), a7, c7, by rw [HL.out], by show World.ownsRow _ _ _ _ _ _ _; rw [HL.out, HE.out]; exact hown7, hb7⟩
                case measure => simp [intOf]; omega
              · rw [decide_eq_false hy] at l1
                rw [decide_eq_false hn] at l2
                simp only [hy, hn, not_true, not_false, not_true_eq_false, not_false_eq_true, and_true, and_false, true_and, false_and, if_true, if_false] at HPLX
                rw [HPLX.out, List.append_nil] at HPM
                clear hy hn
                go_wp2_with fail
                go_roundw
                case rel => exact ⟨i + 1, by omega, congrArg _ (by omega), a6, c6, by rw [HPM.out], by show World.ownsRow _ _ _ _ _ _ _; rw [HPM.out]; exact hown.out, hbr.out⟩
                case measure => simp [intOf]; omega
          · have hie : i = V := by omega
            subst hie
            have hpo := HPO.out
            subst hpo
            clear HPO
            go_wp2_with fail
            go_ret
            exact ⟨⟨a6, c6, rfl, own_mono hown.out (by have := HBW.out.size; omega)⟩, HBW.out.trans (hbr.out.mono HBW.out.size)⟩
  · subst h9
    have hpo := HPO.out
    subst hpo
    clear HPO
    go_wp2_with fail
    go_ret
    exact ⟨rfl, HB3.out⟩

end Pure
end Go.Proofs.Ythhkngpbaflfiaa
