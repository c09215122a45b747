/-
  circuit.defined: the walk: all variables are defined, or a fault panics.
-/
import Derived.Test.YtjmmhbmbafjneaaGreatDoorDefined
import Derived.StillTailTactics
import Derived.Lib.Bytealg
namespace Go.Proofs.YtjmmhbmbafjneaaGreatDoor
open Go.RowKit Base Go.Maps
set_option linter.unusedVariables false
set_option linter.unusedSimpArgs false
namespace Circuit

theorem cell_far {w w' : World} {row : Option Nat} (hg : w.grownBy w' row) (a : Addr) (hlt : a.block < w.heap.size) (hne : some a.block ≠ row) : w'.cell? a = w.cell? a :=
  World.cell?_of_block (hg.block a.block hlt hne)

/-- The names box and its map, of variables that are met. -/
structure Nm (W1 : World) (n : Nat) (vs : List Int) (w : World) : Prop where
  below : Below W1.heap.size W1 w
  cell : w.cell? ⟨W1.heap.size + 1, 0, none⟩ = some (.map (some W1.heap.size))
  lt : W1.heap.size + 1 < w.heap.size
  met : ∃ D, MetIs w W1.heap.size n D ∧ Tells D vs

theorem Nm.next {W1 w w' : World} {n : Nat} {vs : List Int} (h : Nm W1 n vs w) (hb : Below w.heap.size w w') : Nm W1 n vs w' :=
  ⟨h.below.trans (hb.mono h.below.size), (hb.cell (p := ⟨W1.heap.size + 1, 0, none⟩) h.lt).trans h.cell, Nat.lt_of_lt_of_le h.lt hb.size, by
    obtain ⟨D, hm, ht⟩ := h.met
    exact ⟨D, hm.next hb, ht⟩⟩

theorem define_no {W1 U : World} {n : Nat} {vs : List Int} (h : Nm W1 n vs U) (l most : Int) (hl : I64 l) (kind : ByteArray) (hbad : ¬ okV vs l most) :
    Calls Tryz.prog 88 #[.pointer (some ⟨W1.heap.size + 1, 0, none⟩), .int .i64 l, .int .i64 most, .string kind] U fun e w' => e = .panicked fault ∧ U = w' := by
  obtain ⟨D, hm, ht⟩ := h.met
  exact define_bad U _ _ n D h.cell hm l most hl kind (by rw [Bool.eq_false_iff]; exact fun hd => hbad ((okD_iff ht l most).1 hd))

theorem define_ok {W1 U : World} {n : Nat} {vs : List Int} (h : Nm W1 n vs U) (l most : Int) (hl : I64 l) (kind : ByteArray) (hk : kind.size ≤ maxLen) (hke : kind.toList.isEmpty = false) (hn : n < maxLen) (hok : okV vs l most) :
    Calls Tryz.prog 88 #[.pointer (some ⟨W1.heap.size + 1, 0, none⟩), .int .i64 l, .int .i64 most, .string kind] U fun e w' => e = .returned (.tuple #[]) ∧ Nm W1 (n + 1) (vs ++ [var l]) w' ∧ U.grownBy w' (some W1.heap.size) := by
  obtain ⟨D, hm, ht⟩ := h.met
  refine (define_good U _ _ n D h.cell hm l most hl kind hk hn ((okD_iff ht l most).2 hok)).mono ?_
  rintro e w' ⟨he, hm', hg⟩
  refine ⟨he, ⟨?_, ?_, Nat.lt_of_lt_of_le h.lt hg.size, _, hm', tells_more ht _ _ hke⟩, hg⟩
  · exact h.below.grown hg h.below.size (fun k hk => by cases hk; exact Nat.le_refl _)
  · rw [cell_far hg ⟨W1.heap.size + 1, 0, none⟩ h.lt (by simp)]
    exact h.cell

theorem TBox.far {N r : Nat} {t : Tri} {w w' : World} (h : TBox N t w) (hg : w.grownBy w' (some r)) (hne : N ≠ r) : TBox N t w' := by
  have e : ∀ j, w'.cell? ⟨N, j, none⟩ = w.cell? ⟨N, j, none⟩ := fun j => cell_far hg ⟨N, j, none⟩ h.lt (by simpa using hne)
  exact ⟨Nat.lt_of_lt_of_le h.lt hg.size, (e 0).trans h.t0, (e 1).trans h.t1, (e 2).trans h.t2⟩

def DefOut (w : World) (x : Circ) (e : Ending) (w' : World) : Prop :=
  (DefOk x ∧ ∃ W1 n, e = .returned (.pointer (some ⟨W1.heap.size + 1, 0, none⟩)) ∧ Below w.heap.size w W1 ∧ Nm W1 n ((ownL x).map var) w') ∨ (¬ DefOk x ∧ e = .panicked fault ∧ Below w.heap.size w w')

theorem one_full (c : UInt8) : (⟨#[c]⟩ : ByteArray).toList.isEmpty = false := by rw [Lib.toList_data]; rfl
theorem one_size (c : UInt8) : (⟨#[c]⟩ : ByteArray).size ≤ maxLen := by show 1 ≤ 2 ^ 63 - 1; omega

/-- How far the definitions have come. -/
def OwnTo (x : Circ) (k : Nat) : Prop := OwnOk x.max ((ownL x).take k)

theorem own_ins (x : Circ) {k : Nat} (hk : k < x.ins.length) : (ownL x)[k]? = some x.ins[k] := by
  unfold ownL
  rw [List.append_assoc, List.getElem?_append_left hk]
  exact List.getElem?_eq_getElem hk
theorem own_lats (x : Circ) {k : Nat} (hk : k < x.lats.length) : (ownL x)[x.ins.length + k]? = some x.lats[k].1 := by
  unfold ownL
  rw [List.append_assoc, List.getElem?_append_right (by omega), Nat.add_sub_cancel_left, List.getElem?_append_left (by simpa using hk), List.getElem?_map, List.getElem?_eq_getElem hk]
  rfl
theorem own_ands (x : Circ) {k : Nat} (hk : k < x.ands.length) : (ownL x)[x.ins.length + x.lats.length + k]? = some x.ands[k].1 := by
  unfold ownL
  rw [List.getElem?_append_right (by simp), List.length_append, List.length_map, Nat.add_sub_cancel_left, List.getElem?_map, List.getElem?_eq_getElem hk]
  rfl
theorem own_len (x : Circ) : (ownL x).length = x.ins.length + x.lats.length + x.ands.length := by simp [ownL]; omega

theorem ownTo_more {x : Circ} {k : Nat} {l : Int} (h : OwnTo x k) (hl : (ownL x)[k]? = some l) (hok : okV (((ownL x).take k).map var) l x.max) : OwnTo x (k + 1) := by
  obtain ⟨hk, rfl⟩ := List.getElem?_eq_some_iff.1 hl
  exact ownOk_more h hk hok
theorem own_not {x : Circ} {k : Nat} {l : Int} (hl : (ownL x)[k]? = some l) (hok : ¬ okV (((ownL x).take k).map var) l x.max) : ¬ DefOk x := fun h => by
  obtain ⟨hk, rfl⟩ := List.getElem?_eq_some_iff.1 hl
  exact hok (h.1 k hk)
theorem own_vs {x : Circ} {k : Nat} {l : Int} (hl : (ownL x)[k]? = some l) : ((ownL x).take k).map var ++ [var l] = ((ownL x).take (k + 1)).map var := by
  obtain ⟨hk, rfl⟩ := List.getElem?_eq_some_iff.1 hl
  rw [List.take_succ_eq_append_getElem hk, List.map_append]
  rfl

def Resets (x : Circ) (k : Nat) : Prop := ∀ j (h : j < x.lats.length), j < k → x.lats[j].2.2 = 0 ∨ x.lats[j].2.2 = 1 ∨ x.lats[j].2.2 = x.lats[j].1
def Rises (x : Circ) (k : Nat) : Prop := ∀ j (h : j + 1 < x.ands.length), j + 1 < k → (x.ands[j]'(by omega)).1 < x.ands[j + 1].1

theorem defOk_of {x : Circ} (h1 : OwnTo x (x.ins.length + x.lats.length + x.ands.length)) (h2 : Resets x x.lats.length) (h3 : Rises x x.ands.length) : DefOk x := by
  refine ⟨?_, ?_, fun j h => h3 j h h⟩
  · unfold OwnTo at h1
    rwa [← own_len, List.take_length] at h1
  · intro t ht
    obtain ⟨j, hj, rfl⟩ := List.mem_iff_getElem.1 ht
    exact h2 j hj hj

/-- So many gates can be at most. -/
theorem few_ands {x : Circ} {j : Nat} (hm : x.max ≤ 2048) (hj : j < x.ands.length) (ho : OwnTo x (x.ins.length + x.lats.length + j)) (hr : Rises x j) : j ≤ 4098 := by
  have key : ∀ i (hi : i < x.ands.length), i < j → (i : Int) ≤ x.ands[i].1 := by
    intro i
    induction i with
    | zero =>
      intro hi h0
      have h := ho (x.ins.length + x.lats.length) (by rw [List.length_take, own_len]; omega)
      have hh := h.1
      rw [List.getElem_take] at hh
      have e := own_ands x hi
      obtain ⟨hk, he⟩ := List.getElem?_eq_some_iff.1 e
      have he2 : (ownL x)[x.ins.length + x.lats.length] = x.ands[0].1 := he
      rw [he2] at hh
      omega
    | succ i ih =>
      intro hi h0
      have := ih (by omega) (by omega)
      have := hr i hi h0
      omega
  rcases Nat.eq_zero_or_pos j with h0 | h0
  · omega
  · have h1 := key (j - 1) (by omega) (by omega)
    have h := ho (x.ins.length + x.lats.length + (j - 1)) (by rw [List.length_take, own_len]; omega)
    have hh := h.2.2.1
    rw [List.getElem_take] at hh
    obtain ⟨hk, he⟩ := List.getElem?_eq_some_iff.1 (own_ands x (show j - 1 < x.ands.length by omega))
    rw [he] at hh
    unfold var at hh
    omega

set_option maxRecDepth 8000 in
set_option maxHeartbeats 16000000 in
theorem defined_any (w : World) (x : Circ) (p : At) (hin : InCirc w x p) (hwi : ∀ l ∈ x.ins, I64 l) (hwl : WfT x.lats) (hwa : WfT x.ands) (hm1 : x.max ≤ 2048) (hli : x.ins.length ≤ 64) (hll : x.lats.length ≤ 64) :
    Calls Tryz.prog 67 #[.agg (cells x p)] w (DefOut w x) := by
  obtain ⟨W1, hW1⟩ : ∃ W1, w.alloc (.cells (cells x p) 27) = W1 := ⟨_, rfl⟩
  obtain ⟨hb1, hcb⟩ := cbox_new w x p W1 hW1
  obtain ⟨W2, hW2⟩ : ∃ W2, W1.alloc (.map #[] 0) = W2 := ⟨_, rfl⟩
  obtain ⟨W3, hW3⟩ : ∃ W3, W2.alloc (.cells #[.map (some W1.heap.size)] 127) = W3 := ⟨_, rfl⟩
  have z2 : W2.heap.size = W1.heap.size + 1 := by rw [← hW2]; simp
  have z1 : W1.heap.size = w.heap.size + 1 := by rw [← hW1]; simp
  have hb3 : Below W1.heap.size W1 W3 := by
    rw [← hW3, ← hW2]
    exact (((Below.refl _ _).alloc (Nat.le_refl _) _)).alloc (by simp) _
  have HNM : Hid (Nm W1 0 [] W3) := by
    refine ⟨hb3, ?_, ?_, [], ?_, tells_nil⟩
    · rw [← hW3, ← z2]; simp [go_sem]
    · rw [← hW3, ← z2]; simp
    · rw [← hW3]
      have h2 := met_made W1
      rw [hW2] at h2
      exact h2.next ((Below.refl _ _).alloc (Nat.le_refl _) _)
  have HB1 := Lib.hid hb1
  have HCB := Lib.hid (hcb.next hb3 (Nat.le_refl _))
  have KB := Lib.hid (fun (U : World) (hU : Below W1.heap.size W1 U) => hcb.next hU (Nat.le_refl _))
  have HB3 := Lib.hid hb3
  have HSI := Lib.hid (hin.ins.next hb1)
  have HSL := Lib.hid (hin.lats.next hb1)
  have HSA := Lib.hid (hin.ands.next hb1)
  have hci := hin.ins.cap
  have hcl := hin.lats.cap
  have hca := hin.ands.cap
  have hgi := hin.ins.big
  have hgl := hin.lats.big
  have hga := hin.ands.big
  have HWI := Lib.hid hwi
  have HWL := Lib.hid hwl
  have HWA := Lib.hid hwa
  have HM := Lib.hid hm1
  have HLI := Lib.hid hli
  have HLL := Lib.hid hll
  clear hin hwi hwl hwa hm1 hli hll hb1 hcb hb3
  obtain ⟨a1, c1, a2, c2, a3, c3, a4, c4, a5, c5, a6, c6, a7, c7⟩ := p
  simp only at hci hcl hca hgi hgl hga
  have k0 : W3.cell? ⟨w.heap.size, 0, none⟩ = some (.int .i64 x.max) := HCB.out.k0
  have k1 : W3.cell? ⟨w.heap.size, 1, none⟩ = some (.slice a1 x.ins.length c1) := HCB.out.k1
  have k2 : W3.cell? ⟨w.heap.size, 2, none⟩ = some (.slice a2 x.lats.length c2) := HCB.out.k2
  have k6 : W3.cell? ⟨w.heap.size, 6, none⟩ = some (.slice a6 x.ands.length c6) := HCB.out.k6
  simp only [cells] at hW1 ⊢
  have HZ1 := Lib.hid z1
  have HZ2 := Lib.hid z2
  clear z1 z2
  go_enter Tryz.func67, Tryz.ntmps67
  have hmm := @run_makeMap Tryz.prog
  go_wp2_with fail
  clear hW1 hW2 hW3 hmm
  rw [HZ2.out]
  go_loopw [16] (fun s wr => ∃ k : Nat, k ≤ x.ins.length ∧ s = .int .i64 k ∧ Hid (OwnTo x k) ∧ Hid (Nm W1 k (((ownL x).take k).map var) wr)) (fun s _ => x.ins.length - (intOf s).toNat)
  case atStart => exact ⟨0, Nat.zero_le _, rfl, (fun j hj => by simp at hj), HNM.out⟩
  case round =>
    obtain ⟨k, hk, rfl, hI, hN⟩ := hrel
    by_cases hlt : k < x.ins.length
    · obtain ⟨b, o, hx, rfl, hbs, hc0⟩ := HSI.out.int hlt
      have d0 := (hN.out.below.cell (p := ⟨b, o + k, none⟩) hbs).trans hc0
      have j0 := (hN.out.below.cell (p := ⟨w.heap.size, 0, none⟩) (by show w.heap.size < W1.heap.size; have := HZ1.out; omega)).trans ((HB3.out.cell (p := ⟨w.heap.size, 0, none⟩) (by show w.heap.size < W1.heap.size; have := HZ1.out; omega)).symm.trans k0)
      have j3 := hN.out.cell
      have HOW := Lib.hid (own_ins x hlt)
      have hl64 := HWI.out _ (List.getElem_mem hx)
      clear hc0
      generalize x.ins[k] = l at *
      by_cases hok : okV (((ownL x).take k).map var) l x.max
      · have HD := Lib.hid (define_ok hN.out l x.max hl64 ⟨#[105]⟩ (one_size _) (one_full _) (by have := HLI.out; unfold maxLen; omega) hok)
        have HI2 := Lib.hid (ownTo_more hI.out HOW.out hok)
        have HV := Lib.hid (own_vs HOW.out)
        clear hok hl64 hbs hx
        go_wp2_with fail
        refine HD.out.mono ?_
        rintro e w5 ⟨rfl, hn5, hg5⟩
        have HN5 := Lib.hid hn5
        rw [HV.out] at HN5
        clear hn5 hg5
        go_wp2_with fail
        go_roundw
        case rel => exact ⟨k + 1, by omega, by go_num, HI2.out, HN5.out⟩
        case measure => simp [intOf]; omega
      · have HD := Lib.hid (define_no hN.out l x.max hl64 ⟨#[105]⟩ hok)
        have HR := Lib.hid (own_not HOW.out hok)
        have HBW := Lib.hid (HB1.out.trans (hN.out.below.mono HB1.out.size))
        clear hok hl64 hbs hx
        go_wp2_with fail
        refine HD.out.mono ?_
        rintro e w5 ⟨rfl, rfl⟩
        go_wp2_with fail
        exact ⟨rfl, Or.inr ⟨HR.out, rfl, HBW.out⟩⟩
    · have hke : k = x.ins.length := by omega
      have HI1 : Hid (OwnTo x x.ins.length) := by rw [← hke]; exact hI
      have HN1 : Hid (Nm W1 x.ins.length (((ownL x).take x.ins.length).map var) wr) := by rw [← hke]; exact hN
      clear hke hI hN HNM HCB k0 k1 k2 k6 HSI hci hgi
      have j2 : wr.cell? ⟨w.heap.size, 2, none⟩ = some (.slice a2 x.lats.length c2) := (KB.out wr HN1.out.below).k2
      go_wp2_with fail
      clear j2
      go_loopw [29] (fun s wr => ∃ j : Nat, j ≤ x.lats.length ∧ s = .int .i64 j ∧ Hid (OwnTo x (x.ins.length + j)) ∧ Hid (Resets x j) ∧ Hid (Nm W1 (x.ins.length + j) (((ownL x).take (x.ins.length + j)).map var) wr)) (fun s _ => x.lats.length - (intOf s).toNat)
      case atStart => exact ⟨0, Nat.zero_le _, rfl, HI1.out, (fun i _ h => by omega), HN1.out⟩
      case round =>
        clear HI1 HN1
        obtain ⟨j, hj, rfl, hI, hRs, hN⟩ := hrel
        by_cases hlt : j < x.lats.length
        · obtain ⟨b, o, hx, rfl, hbs, hc0, hc1, hc2⟩ := HSL.out.tri hlt
          have d0 := (hN.out.below.cell (p := ⟨b, o + j * 3, none⟩) hbs).trans hc0
          have d1 := (hN.out.below.cell (p := ⟨b, o + j * 3 + 1, none⟩) hbs).trans hc1
          have d2 := (hN.out.below.cell (p := ⟨b, o + j * 3 + 2, none⟩) hbs).trans hc2
          have HOW := Lib.hid (own_lats x hlt)
          have hl64 := (HWL.out _ (List.getElem_mem hx)).1
          have HRM : Hid ((x.lats[j].2.2 = 0 ∨ x.lats[j].2.2 = 1 ∨ x.lats[j].2.2 = x.lats[j].1) → Resets x (j + 1)) := fun h i hi hij => by
            by_cases he : i = j
            · subst he; exact h
            · exact hRs.out i hi (by omega)
          have HRN : Hid (DefOk x → x.lats[j].2.2 = 0 ∨ x.lats[j].2.2 = 1 ∨ x.lats[j].2.2 = x.lats[j].1) := fun h => h.2.1 _ (List.getElem_mem hx)
          clear hc0 hc1 hc2
          generalize x.lats[j] = t at *
          obtain ⟨U, hU⟩ : ∃ U, wr.alloc (.cells (triC t) 71) = U := ⟨_, rfl⟩
          obtain ⟨hbU, htb⟩ := tbox_new wr t 71 U hU
          have hNU := hN.out.next hbU
          have j0 : U.cell? ⟨w.heap.size, 0, none⟩ = some (.int .i64 x.max) := (KB.out U hNU.below).k0
          have t0 := htb.t0
          have HTB := Lib.hid htb
          have HBW := Lib.hid (HB1.out.trans (hNU.below.mono HB1.out.size))
          have hne : wr.heap.size ≠ W1.heap.size := by have := hN.out.lt; omega
          simp only [triC] at hU
          by_cases hok : okV (((ownL x).take (x.ins.length + j)).map var) t.1 x.max
          · have HD := Lib.hid ((define_ok hNU t.1 x.max hl64 ⟨#[108]⟩ (one_size _) (one_full _) (by have := HLI.out; have := HLL.out; unfold maxLen; omega) hok).mono fun e w' h => (⟨h.1, h.2.1, htb.far h.2.2 hne⟩ : e = .returned (.tuple #[]) ∧ Nm W1 (x.ins.length + j + 1) _ w' ∧ TBox wr.heap.size t w'))
            have HI2 := Lib.hid (ownTo_more hI.out HOW.out hok)
            have HV := Lib.hid (own_vs HOW.out)
            have NO := Lib.hid need_ok
            have NB := Lib.hid need_bad
            clear hok hl64 hbs htb hNU hbU hne hI hRs hN
            go_wp2_with fail
            with_reducible refine HD.out.mono ?_
            rintro e w5 ⟨rfl, hn5, htb5⟩
            rw [HV.out] at hn5
            have HN5 := Lib.hid hn5
            have HB5 := Lib.hid (HB1.out.trans (hn5.below.mono HB1.out.size))
            have e0 := htb5.t0
            have e2 := htb5.t2
            clear hn5 htb5 t0 j0 d0 d1 d2 hU HD
            by_cases r0 : t.2.2 = 0
            · have HR := Lib.hid (HRM.out (Or.inl r0))
              have hr : (t.2.2 == 0) = true := by rw [r0]; rfl
              clear r0 HRM HRN
              go_wp2_with fail
              with_reducible refine (NO.out _).mono ?_
              rintro e w6 ⟨rfl, rfl⟩
              go_wp2_with fail
              go_roundw
              case rel => exact ⟨j + 1, by omega, by go_num, HI2.out, HR.out, HN5.out⟩
              case measure => simp [intOf]; omega
            · have hr0 : (t.2.2 == 0) = false := by simpa using r0
              by_cases r1 : t.2.2 = 1
              · have HR := Lib.hid (HRM.out (Or.inr (Or.inl r1)))
                have hr : (t.2.2 == 1) = true := by rw [r1]; rfl
                clear r0 r1 HRM HRN
                go_wp2_with fail
                with_reducible refine (NO.out _).mono ?_
                rintro e w6 ⟨rfl, rfl⟩
                go_wp2_with fail
                go_roundw
                case rel => exact ⟨j + 1, by omega, by go_num, HI2.out, HR.out, HN5.out⟩
                case measure => simp [intOf]; omega
              · have hr1 : (t.2.2 == 1) = false := by simpa using r1
                by_cases r2 : t.2.2 = t.1
                · have HR := Lib.hid (HRM.out (Or.inr (Or.inr r2)))
                  have hr : (t.2.2 == t.1) = true := by rw [r2]; simp
                  clear r0 r1 r2 HRM HRN
                  go_wp2_with fail
                  with_reducible refine (NO.out _).mono ?_
                  rintro e w6 ⟨rfl, rfl⟩
                  go_wp2_with fail
                  go_roundw
                  case rel => exact ⟨j + 1, by omega, by go_num, HI2.out, HR.out, HN5.out⟩
                  case measure => simp [intOf]; omega
                · have hr : (t.2.2 == t.1) = false := by simpa using r2
                  have HR : Hid (¬ DefOk x) := fun h => by
                    rcases HRN.out h with h | h | h
                    · exact r0 h
                    · exact r1 h
                    · exact r2 h
                  clear r0 r1 r2 HRM HRN
                  go_wp2_with fail
                  with_reducible refine (NB.out _).mono ?_
                  rintro e w6 ⟨rfl, rfl⟩
                  go_wp2_with fail
                  exact ⟨rfl, Or.inr ⟨HR.out, rfl, HB5.out⟩⟩
          · have HD := Lib.hid (define_no hNU t.1 x.max hl64 ⟨#[108]⟩ hok)
            have HR := Lib.hid (own_not HOW.out hok)
            clear hok hl64 hbs htb hNU hbU hne hI hRs hN
            go_wp2_with fail
            with_reducible refine HD.out.mono ?_
            rintro e w5 ⟨rfl, rfl⟩
            go_wp2_with fail
            exact ⟨rfl, Or.inr ⟨HR.out, rfl, HBW.out⟩⟩
        · have hje : j = x.lats.length := by omega
          have HI1 : Hid (OwnTo x (x.ins.length + x.lats.length)) := by rw [← hje]; exact hI
          have HRS : Hid (Resets x x.lats.length) := by rw [← hje]; exact hRs
          have HN1 : Hid (Nm W1 (x.ins.length + x.lats.length) (((ownL x).take (x.ins.length + x.lats.length)).map var) wr) := by rw [← hje]; exact hN
          clear hje hI hRs hN HSL hcl hgl
          have j6 : wr.cell? ⟨w.heap.size, 6, none⟩ = some (.slice a6 x.ands.length c6) := (KB.out wr HN1.out.below).k6
          go_wp2_with fail
          clear j6
          go_loopw [59] (fun s wq => ∃ i : Nat, i ≤ x.ands.length ∧ s = .int .i64 i ∧ Hid (OwnTo x (x.ins.length + x.lats.length + i)) ∧ Hid (Rises x i) ∧ Hid (Nm W1 (x.ins.length + x.lats.length + i) (((ownL x).take (x.ins.length + x.lats.length + i)).map var) wq)) (fun s _ => x.ands.length - (intOf s).toNat)
          case atStart => exact ⟨0, Nat.zero_le _, rfl, HI1.out, (fun i _ h => by omega), HN1.out⟩
          case round =>
            clear HI1 HN1
            obtain ⟨i, hi, rfl, hI, hRi, hN⟩ := hrel
            by_cases hlt : i < x.ands.length
            · obtain ⟨b, o, hx, rfl, hbs, hc0, hc1, hc2⟩ := HSA.out.tri hlt
              have d0 := (hN.out.below.cell (p := ⟨b, o + i * 3, none⟩) hbs).trans hc0
              have d1 := (hN.out.below.cell (p := ⟨b, o + i * 3 + 1, none⟩) hbs).trans hc1
              have d2 := (hN.out.below.cell (p := ⟨b, o + i * 3 + 2, none⟩) hbs).trans hc2
              have HOW := Lib.hid (own_ands x hlt)
              have hl64 := (HWA.out _ (List.getElem_mem hx)).1
              have HFEW := Lib.hid (few_ands HM.out hlt hI.out hRi.out)
              have HRM : Hid ((∀ m (hm : m < x.ands.length), i = m + 1 → x.ands[m].1 < x.ands[i].1) → Rises x (i + 1)) := fun h r hr hri => by
                by_cases he : r + 1 = i
                · have := h r (by omega) he.symm
                  simp only [he]
                  exact this
                · exact hRi.out r hr (by omega)
              have HRN : Hid (DefOk x → ∀ m (hm : m < x.ands.length), i = m + 1 → x.ands[m].1 < x.ands[i].1) := fun h m hm he => by
                have := h.2.2 m (by omega)
                simp only [← he] at this
                exact this
              clear hc0 hc1 hc2
              have hprev : ∀ m (hm : m < x.ands.length), W1.cell? ⟨b, o + m * 3, none⟩ = some (.int .i64 x.ands[m].1) := fun m hm => by
                obtain ⟨b', o', hm', hae, _, h0, _, _⟩ := HSA.out.tri hm
                simp only [Option.some.injEq, Addr.mk.injEq, and_true] at hae
                obtain ⟨rfl, rfl⟩ := hae
                exact h0
              have HPV := Lib.hid hprev
              clear hprev
              generalize x.ands[i] = t at *
              obtain ⟨U, hU⟩ : ∃ U, wr.alloc (.cells (triC t) 74) = U := ⟨_, rfl⟩
              obtain ⟨hbU, htb⟩ := tbox_new wr t 74 U hU
              have hNU := hN.out.next hbU
              have j0 : U.cell? ⟨w.heap.size, 0, none⟩ = some (.int .i64 x.max) := (KB.out U hNU.below).k0
              have t0 := htb.t0
              have HBW := Lib.hid (HB1.out.trans (hNU.below.mono HB1.out.size))
              have hne : wr.heap.size ≠ W1.heap.size := by have := hN.out.lt; omega
              simp only [triC] at hU
              by_cases hok : okV (((ownL x).take (x.ins.length + x.lats.length + i)).map var) t.1 x.max
              · have HD := Lib.hid ((define_ok hNU t.1 x.max hl64 ⟨#[97]⟩ (one_size _) (one_full _) (by have := HLI.out; have := HLL.out; have := HFEW.out; unfold maxLen; omega) hok).mono fun e w' h => (⟨h.1, h.2.1, htb.far h.2.2 hne⟩ : e = .returned (.tuple #[]) ∧ Nm W1 (x.ins.length + x.lats.length + i + 1) _ w' ∧ TBox wr.heap.size t w'))
                have HI2 := Lib.hid (ownTo_more hI.out HOW.out hok)
                have HV := Lib.hid (own_vs HOW.out)
                have NO := Lib.hid need_ok
                have NB := Lib.hid need_bad
                clear hok hl64 htb hNU hbU hne hI hRi hN
                go_wp2_with fail
                with_reducible refine HD.out.mono ?_
                rintro e w5 ⟨rfl, hn5, htb5⟩
                rw [HV.out] at hn5
                have HN5 := Lib.hid (fun q => hn5.next (below_drewN (Below.refl _ _) q))
                have HB5 := Lib.hid (HB1.out.trans ((hn5.below.trans ((Below.refl _ _).drew)).mono HB1.out.size))
                have e0 := htb5.t0
                have j6 : w5.cell? ⟨w.heap.size, 6, none⟩ = some (.slice (some ⟨b, o, none⟩) x.ands.length c6) := (KB.out w5 hn5.below).k6
                have HPW := Lib.hid (fun m (hm : m < x.ands.length) => (hn5.below.cell (p := ⟨b, o + m * 3, none⟩) hbs).trans (HPV.out m hm))
                clear hn5 htb5 t0 j0 d0 d1 d2 hU HD HPV hbs
                go_upto_region 17 with fail
                rcases Nat.eq_zero_or_pos i with h0 | hp
                · have HR := Lib.hid (HRM.out (fun m _ he => by omega))
                  have hi0 : ((i : Int) == 0) = true := by rw [h0]; rfl
                  clear h0 HRM HRN HPW
                  go_quiet ((go_at_call 66; exact Calls.quiet_of_same ((NO.out _).mono fun e w' h => ⟨h.1, h.2.symm⟩)))
                  go_wp2_with fail
                  go_roundw
                  case rel => exact ⟨i + 1, by omega, by go_num, HI2.out, HR.out, HN5.out _⟩
                  case measure => simp [intOf]; omega
                · obtain ⟨m, hm⟩ : ∃ m, i = m + 1 := ⟨i - 1, by omega⟩
                  have hml : m < x.ands.length := by omega
                  have f0 := HPW.out m hml
                  have hi0 : ((i : Int) == 0) = false := by simp; omega
                  have hsub : IntKind.i64.wrap ((i : Int) - 1) = (m : Int) := by rw [IntKind.wrap_i64]; omega
                  have hidx0 : (0 : Int) ≤ (m : Int) := by omega
                  have hidx1 : (m : Int) < (x.ands.length : Int) := by omega
                  have hidx : (0 : Int) ≤ (m : Int) ∧ (m : Int) < (x.ands.length : Int) := by omega
                  by_cases hs : x.ands[m].1 < t.1
                  · have HR := Lib.hid (HRM.out (fun m' _ he => by
                      have : m' = m := by omega
                      subst this
                      exact hs))
                    have hsd : decide (x.ands[m].1 < t.1) = true := decide_eq_true hs
                    clear HRM HRN HPW hm hp hs
                    generalize x.ands[m].1 = pv at *
                    go_quiet ((go_at_call 66; exact Calls.quiet_of_same ((NO.out _).mono fun e w' h => ⟨h.1, h.2.symm⟩)))
                    go_wp2_with fail
                    go_roundw
                    case rel => exact ⟨i + 1, by omega, by go_num, HI2.out, HR.out, HN5.out _⟩
                    case measure => simp [intOf]; omega
                  · have HR : Hid (¬ DefOk x) := fun h => hs (HRN.out h m hml hm)
                    have hsd : decide (x.ands[m].1 < t.1) = false := decide_eq_false hs
                    clear HRM HRN HPW hm hp hs
                    generalize x.ands[m].1 = pv at *
                    refine wp_region_still_tail 14 (by kernel_rfl) (by kernel_rfl) ?_
                    simp only [List.take_succ_cons, List.take_zero, List.drop_succ_cons, List.drop_zero]
                    repeat still_step
                    refine wpStill_nil ?_
                    go_wp2_with fail
                    with_reducible refine (NB.out _).mono ?_
                    rintro e w6 ⟨rfl, rfl⟩
                    go_wp2_with fail
                    exact ⟨rfl, Or.inr ⟨HR.out, rfl, HB5.out⟩⟩
              · have HD := Lib.hid (define_no hNU t.1 x.max hl64 ⟨#[97]⟩ hok)
                have HR := Lib.hid (own_not HOW.out hok)
                clear hok hl64 hbs htb hNU hbU hne hI hRi hN
                go_wp2_with fail
                with_reducible refine HD.out.mono ?_
                rintro e w5 ⟨rfl, rfl⟩
                go_wp2_with fail
                exact ⟨rfl, Or.inr ⟨HR.out, rfl, HBW.out⟩⟩
            · have hie : i = x.ands.length := by omega
              have HI1 : Hid (OwnTo x (x.ins.length + x.lats.length + x.ands.length)) := by rw [← hie]; exact hI
              have HRR : Hid (Rises x x.ands.length) := by rw [← hie]; exact hRi
              have HN1 : Hid (Nm W1 (x.ins.length + x.lats.length + x.ands.length) ((ownL x).map var) wr) := by
                have h := hN.out
                rw [hie] at h
                rw [show (ownL x).take (x.ins.length + x.lats.length + x.ands.length) = ownL x by rw [← own_len, List.take_length]] at h
                exact h
              have HOK := Lib.hid (defOk_of HI1.out HRS.out HRR.out)
              clear hie hI hRi hN HSA hca hga
              go_wp2_with fail
              go_ret
              exact Or.inl ⟨HOK.out, W1, _, rfl, HB1.out, HN1.out⟩
end Circuit
end Go.Proofs.YtjmmhbmbafjneaaGreatDoor
