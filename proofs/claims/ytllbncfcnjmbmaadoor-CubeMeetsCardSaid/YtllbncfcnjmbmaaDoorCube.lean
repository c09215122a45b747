/-
  The walks of package cube's functions that need no circuit: Of, In and what they call.
-/
import Derived.Test.YtllbncfcnjmbmaaDoorLaws
import Derived.Test.YtllbncfcnjmbmaaDoorSlf
import Derived.Test.YtllbncfcnjmbmaaDoorCubeP
import Derived.Test.YtllbncfcnjmbmaaDoorIsP
import Derived.Shelf.Abstract
namespace Go.Proofs.YtllbncfcnjmbmaaDoor
open Go.RowKit Base
set_option linter.unusedVariables false
namespace Cube

theorem info_int : (Tryd.prog.info? 3).map (fun i => (i.zero, i.size, i.bytes)) = some (some (.int .i64 0), 1, 8) := by kernel_rfl

/-- The call hands back a new slice of these integers. -/
def NewInts (xs : List Int) (w : World) (e : Ending) (w' : World) : Prop :=
  ∃ a c, e = .returned (.slice a xs.length c) ∧ w'.ownsRow w.heap.size 3 1 (.slice a xs.length c) xs.length (ints xs) ∧ Below w.heap.size w w'

theorem toList_take_snoc (s : ByteArray) (k : Nat) (h : k < s.size) : s.data.toList.take (k + 1) = s.data.toList.take k ++ [s[k]] := by
  rw [List.take_succ_eq_append_getElem (by simpa using h)]; rfl

theorem of_snoc (s : ByteArray) (k : Nat) (h : k < s.size) : CubeP.ofT (s.data.toList.take (k + 1)) 0 = CubeP.ofT (s.data.toList.take k) 0 ++ CubeP.trit s[k] k := by
  rw [toList_take_snoc s k h, CubeP.ofT_snoc]
  have : (s.data.toList.take k).length = k := by
    rw [List.length_take]
    have : s.data.toList.length = s.size := by simp
    omega
  rw [this, Nat.zero_add]

theorem ofT_take_len (s : ByteArray) (k : Nat) : (CubeP.ofT (s.data.toList.take k) 0).length ≤ k := by
  have h := CubeP.ofT_len (s.data.toList.take k) 0
  have : (s.data.toList.take k).length ≤ k := List.length_take_le _ _
  omega

set_option maxHeartbeats 2000000 in
theorem of_any (s : ByteArray) (hs : s.size ≤ 1073741824) (w : World) :
    Calls Tryd.prog 14 #[.string s] w (NewInts (CubeP.ofT s.data.toList 0) w) := by
  go_enter Tryd.func14, Tryd.ntmps14
  go_wp2_with ((with_reducible refine wpL_bytes (s := s) ?_ ?_ Tryd.underlying9 Tryd.underlying53 Tryd.underlying5 ?_); rfl; omega; intro b c w1 hsl hb1 hbb)
  go_loopw [3, 9] (fun v i wr => ∃ k : Nat, k ≤ s.size ∧ i = .int .i64 k ∧ (∃ a c', v = .slice a (CubeP.ofT (s.data.toList.take k) 0).length c' ∧ wr.ownsRow w1.heap.size 3 1 (.slice a (CubeP.ofT (s.data.toList.take k) 0).length c') (CubeP.ofT (s.data.toList.take k) 0).length (ints (CubeP.ofT (s.data.toList.take k) 0))) ∧
      Below w1.heap.size w1 wr) (fun _ i _ => s.size - (intOf i).toNat)
  case atStart => exact ⟨0, Nat.zero_le _, rfl, ⟨none, 0, rfl, World.ownsRow_nil _ _ _ _⟩, Below.refl _ _⟩
  case round =>
    obtain ⟨k, hk, rfl, ⟨a, c', rfl, hown⟩, hbr⟩ := hrel
    by_cases hlt : k < s.size
    · have hc0 := (hsl.below hbr (Nat.le_refl _)).byte hlt
      rw [Nat.zero_add] at hc0
      have HS := Lib.hid (of_snoc s k hlt)
      have hn := ofT_take_len s k
      have hfin : ∀ (l : List Int), CubeP.trit s[k] k = l → CubeP.ofT (s.data.toList.take (k + 1)) 0 = CubeP.ofT (s.data.toList.take k) 0 ++ l := fun l hl => by rw [HS.out, hl]
      have HF := Lib.hid hfin
      clear hfin HS
      have hT : ∀ h : s[k] = 49, CubeP.trit s[k] k = [(k : Int) + 1] := fun h => by unfold CubeP.trit; rw [if_pos h]
      have hF : ∀ (h1 : s[k] ≠ 49) (h : s[k] = 48), CubeP.trit s[k] k = [-(k : Int) - 1] := fun h1 h => by unfold CubeP.trit; rw [if_neg h1, if_pos h]
      have hN : ∀ (h1 : s[k] ≠ 49) (h : s[k] ≠ 48), CubeP.trit s[k] k = [] := fun h1 h => by unfold CubeP.trit; rw [if_neg h1, if_neg h]
      have HT := Lib.hid hT
      have HFa := Lib.hid hF
      have HN := Lib.hid hN
      clear hT hF hN
      generalize hL : CubeP.ofT (s.data.toList.take k) 0 = L at *
      generalize hL' : CubeP.ofT (s.data.toList.take (k + 1)) 0 = L' at *
      have HLL := Lib.hid hL
      have HLL' := Lib.hid hL'
      clear hL hL'
      by_cases h1 : s[k] = 49
      · have hv : ((s[k].toNat : Int) == 49) = true := by rw [h1]; rfl
        have H1 := Lib.hid h1
        clear h1
        have e := HF.out _ (HT.out H1.out)
        clear HF HT HFa HN
        subst e
        generalize hq : s[k] = q at *
        have HQ := Lib.hid hq
        clear hq
        go_wp2_with ((with_reducible refine wpL_push (B := w1.heap.size) (W := w1) wr (.int .i64 (k + 1)) _ L.length (ints L) info_int Tryd.underlying22 ?_ ?_ ?_ ?_ ?_ hown ?_ ?_ ?_ hbr ?_); rfl; rfl; rfl; rfl; rfl; (exact hbr.size); omega; omega; (intro a2 c2 w2 hown2 hb2 _))
        go_roundw
        case rel => exact ⟨k + 1, by omega, by go_num, by rw [HLL'.out]; exact ⟨a2, c2, by simp, by simpa [ints] using hown2⟩, hb2⟩
        case measure => simp [intOf]; omega
      by_cases h2 : s[k] = 48
      · have hv : ((s[k].toNat : Int) == 49) = false := by rw [h2]; rfl
        have hv2 : ((s[k].toNat : Int) == 48) = true := by rw [h2]; rfl
        have H1 := Lib.hid h1
        have H2 := Lib.hid h2
        clear h1 h2
        have e := HF.out _ (HFa.out H1.out H2.out)
        clear HF HT HFa HN
        subst e
        generalize hq : s[k] = q at *
        have HQ := Lib.hid hq
        clear hq
        go_wp2_with ((with_reducible refine wpL_push (B := w1.heap.size) (W := w1) wr (.int .i64 (-k - 1)) _ L.length (ints L) info_int Tryd.underlying22 ?_ ?_ ?_ ?_ ?_ hown ?_ ?_ ?_ hbr ?_); rfl; rfl; rfl; rfl; rfl; (exact hbr.size); omega; omega; (intro a2 c2 w2 hown2 hb2 _))
        go_roundw
        case rel => exact ⟨k + 1, by omega, by go_num, by rw [HLL'.out]; exact ⟨a2, c2, by simp, by simpa [ints] using hown2⟩, hb2⟩
        case measure => simp [intOf]; omega
      · have hv : ((s[k].toNat : Int) == 49) = false := byte_ne s[k] 49 h1
        have hv2 : ((s[k].toNat : Int) == 48) = false := byte_ne s[k] 48 h2
        have e := HF.out _ (HN.out h1 h2)
        clear h1 h2 HF HT HFa HN
        subst e
        generalize hq : s[k] = q at *
        have HQ := Lib.hid hq
        clear hq
        go_wp2
        go_roundw
        case rel => exact ⟨k + 1, by omega, by go_num, by rw [HLL'.out]; exact ⟨a, c', by simp, by simpa [ints] using hown⟩, hbr⟩
        case measure => simp [intOf]; omega
    · go_wp2
      go_ret
      have e : s.data.toList.take k = s.data.toList := List.take_of_length_le (by simp; omega)
      rw [e] at hown ⊢
      exact ⟨a, c', rfl, own_mono hown hb1.size, hb1.trans (hbr.mono hb1.size)⟩

set_option maxHeartbeats 1000000 in
theorem is_any (s : ByteArray) (hs : s.size ≤ 9223372036854775807) (l : Int) (h0 : -9223372036854775808 ≤ l) (h1 : l ≤ 9223372036854775807) (w : World) :
    Calls Tryd.prog 43 #[.string s, .int .i64 l] w fun e w' => e = .returned (.bool (CubeP.is s.data.toList l)) ∧ w = w' := by
  by_cases hp : 0 < l
  · by_cases hl : l ≤ s.size
    · obtain ⟨k, rfl⟩ : ∃ k : Nat, l = (k : Int) + 1 := ⟨(l - 1).toNat, by omega⟩
      have hk : k < s.size := by omega
      have HI := Lib.hid (IsP.is_pos s k hk)
      clear h0 h1 hp hl
      go_enter Tryd.func43, Tryd.ntmps43
      go_wp2
      go_ret
      exact ⟨ret_bool HI.out.symm, rfl⟩
    · have HI := Lib.hid (IsP.is_out s l (by omega))
      go_enter Tryd.func43, Tryd.ntmps43
      go_wp2
      go_ret
      exact ⟨ret_bool HI.out.symm, rfl⟩
  · by_cases hm : l = -9223372036854775808
    · subst hm
      have HI := Lib.hid (IsP.is_out s (-9223372036854775808) (by omega))
      go_enter Tryd.func43, Tryd.ntmps43
      go_wp2
      all_goals first | (go_ret; exact ⟨ret_bool HI.out.symm, rfl⟩) | (exfalso; have hwr : wrap64 9223372036854775808 = -9223372036854775808 := by unfold wrap64; omega
                                                                       omega)
    · by_cases hz : l = 0
      · subst hz
        have HI := Lib.hid (IsP.is_out s 0 (by omega))
        go_enter Tryd.func43, Tryd.ntmps43
        go_wp2
        go_ret
        exact ⟨ret_bool HI.out.symm, rfl⟩
      · obtain ⟨k, rfl⟩ : ∃ k : Nat, l = -((k : Int) + 1) := ⟨(-l - 1).toNat, by omega⟩
        have hkb : k ≤ 9223372036854775806 := by omega
        clear h0 h1 hp hm hz
        by_cases hk : k < s.size
        · clear hkb
          have HI := Lib.hid (IsP.is_neg s k hk)
          go_enter Tryd.func43, Tryd.ntmps43
          go_wp2
          go_ret
          exact ⟨ret_bool (by rw [HI.out, decide_eq_false (by omega)]; cases ((s[k].toNat : Int) == 49) <;> rfl), rfl⟩
        · have HI := Lib.hid (IsP.is_out s (-((k : Int) + 1)) (by omega))
          go_enter Tryd.func43, Tryd.ntmps43
          go_wp2
          go_ret
          exact ⟨ret_bool HI.out.symm, rfl⟩

set_option maxHeartbeats 400000 in
theorem isNot_any (s : ByteArray) (hs : s.size ≤ 9223372036854775807) (l : Int) (h0 : -9223372036854775808 ≤ l) (h1 : l ≤ 9223372036854775807) (w : World) :
    Calls Tryd.prog 26 #[.string s, .int .i64 l] w fun e w' => e = .returned (.bool (!CubeP.is s.data.toList l)) ∧ w = w' := by
  have H := Lib.hid (is_any s hs l h0 h1 w)
  clear hs h0 h1
  go_enter Tryd.func26, Tryd.ntmps26
  go_wp2_with fail
  refine H.out.mono ?_
  rintro e w' ⟨rfl, rfl⟩
  generalize hq : CubeP.is s.data.toList l = q
  have HQ := Lib.hid hq
  clear hq
  go_wp2_with fail
  go_ret
  exact ⟨ret_bool (by rw [HQ.out]), rfl⟩

def Wf (xs : List Int) : Prop := ∀ x ∈ xs, -9223372036854775808 ≤ x ∧ x ≤ 9223372036854775807

set_option maxHeartbeats 400000 in
theorem in_any (w : World) (a : Option Addr) (n c : Nat) (xs : List Int) (hsl : Sl w a n c (ints xs)) (hx : Wf xs) (s : ByteArray) (hs : s.size ≤ 9223372036854775807) :
    Calls Tryd.prog 11 #[.slice a n c, .string s] w fun e w' => e = .returned (.bool (CubeP.inC xs s.data.toList)) ∧ Below w.heap.size w w' := by
  have H := Lib.hid (Slf.containsFunc w a n c xs 26 #[.string s] #[] (fun x => !CubeP.is s.data.toList x) hsl
    (enters_of Tryd.func26 (by kernel_rfl) rfl)
    (fun W hW x hm => (isNot_any s hs x (hx x hm).1 (hx x hm).2 W).mono fun e w' h => ⟨h.1, h.2 ▸ Below.refl _ _⟩))
  clear hsl hx hs
  have hmf : ∀ (fn : Fn) (first cap : Array Value) (w : World), (Instr.makeFunc fn first cap).run Tryd.prog w = .ok (.func fn first cap) w := fun _ _ _ _ => rfl
  go_enter Tryd.func11, Tryd.ntmps11
  go_wp2_with fail
  refine H.out.mono ?_
  rintro e w' ⟨rfl, hb⟩
  generalize hq : (xs.any fun x => !CubeP.is s.data.toList x) = q
  have HQ := Lib.hid hq
  clear hq
  go_wp2_with fail
  go_ret
  exact ⟨ret_bool (by unfold CubeP.inC; rw [HQ.out]), hb⟩
end Cube
end Go.Proofs.YtllbncfcnjmbmaaDoor
