/-
  Several texts in one (written by merge2.py): XBadS1 XTrip XOwnC XOffB XSimOf XBoxOwn XEnumAll XEnumP XMapG XEnumV XLitsIn XBadT XBadV XLayB XRepeat XSimBits
-/
import Derived.Test.YtjmmhbmbafjneaaGreatDoorEnumTM1
import Derived.Laws.IdiomStrings
import Derived.Test.YtjmmhbmbafjneaaGreatDoorCirc
import Derived.Test.YtjmmhbmbafjneaaGreatDoorCBox
import Derived.Test.YtjmmhbmbafjneaaGreatDoorDefine
import Derived.Test.YtjmmhbmbafjneaaGreatDoorGateP
import Derived.Test.YtjmmhbmbafjneaaGreatDoorLaws
import Derived.Maps.OwnOps
import Derived.Maps.OwnSet
import Derived.Maps.Views
import Derived.Test.YtjmmhbmbafjneaaGreatDoorCheckP
import Derived.Test.YtjmmhbmbafjneaaGreatDoorRefCheck
import Derived.StillTailTactics
import Derived.Shelf.Lay
import Derived.Shelf.Strings.BuilderK
import Derived.Shelf.Strings.SlTrimAscii
import Derived.Shelf.Bits.Mul64
import Derived.Laws.CopyOwn
import Derived.Deep.RegionLaw
import Derived.Deep.DeepCutAuto
/-
  Bits as texts: interlockref07's True, set, bit, Holds.
-/
namespace Go.Proofs.YtjmmhbmbafjneaaGreatDoor
open Go.RowKit Base
set_option linter.unusedVariables false
set_option linter.unusedSimpArgs false
namespace BadP
open Circuit

def byteB (b : Bool) : UInt8 := if b then 49 else 48
def bs (L : List Bool) : ByteArray := ⟨(L.map byteB).toArray⟩
theorem bs_list (L : List Bool) : (bs L).data.toList = L.map byteB := rfl
theorem bs_size (L : List Bool) : (bs L).size = L.length := by
  have e : (bs L).data.toList.length = (bs L).size := by rw [Array.length_toList]; rfl
  rw [← e, bs_list, List.length_map]
theorem ext_list {a b : ByteArray} (h : a.data.toList = b.data.toList) : a = b := by
  cases a; cases b
  congr 1
  exact Array.toList_inj.1 h
theorem app_list (a b : ByteArray) : (a ++ b).data.toList = a.data.toList ++ b.data.toList := by rw [ByteArray.data_append, Array.toList_append]
theorem bs_app (L M : List Bool) : bs (L ++ M) = bs L ++ bs M := ext_list (by rw [app_list, bs_list, bs_list, bs_list, List.map_append])
theorem bs_at (L : List Bool) {v : Nat} (h : v < (bs L).size) : (bs L)[v] = byteB (L.getD v false) := by
  have h2 : v < L.length := by rw [← bs_size]; exact h
  have e : (bs L)[v] = (bs L).data.toList[v]'(by rw [Array.length_toList]; exact h) := rfl
  rw [e]
  have : (bs L).data.toList[v]? = some (byteB (L.getD v false)) := by rw [bs_list, List.getElem?_map, List.getElem?_eq_getElem h2, List.getD_eq_getElem?_getD, List.getElem?_eq_getElem h2]; rfl
  exact (List.getElem?_eq_some_iff.1 this).2
theorem byte_one (b : Bool) : (((byteB b).toNat : Int) == 49) = b := by cases b <;> rfl
theorem bs_set (L : List Bool) {u : Nat} (hu : u < L.length) (b : Bool) : (bs L).extract 0 u ++ ⟨#[byteB b]⟩ ++ (bs L).extract (u + 1) (bs L).size = bs (L.set u b) := by
  refine ext_list ?_
  rw [app_list, app_list, bs_list, ByteArray.data_extract, ByteArray.data_extract, Array.toList_extract, Array.toList_extract, bs_list, bs_size]
  simp only [List.extract_eq_take_drop, Nat.sub_zero, List.drop_zero]
  rw [List.map_set, List.set_eq_take_append_cons_drop, if_pos (by rw [List.length_map]; exact hu)]
  simp only [List.append_assoc]
  congr 1
  rw [List.take_of_length_le (l := (List.map byteB L).drop (u + 1)) (by rw [List.length_drop, List.length_map]; omega)]
  rfl

theorem refNeg_any (a : Int) (h0 : 0 ≤ a) (h1 : a ≤ 9223372036854775807) (w : World) : Calls Tryz.prog 48 #[.int .i64 a] w fun e w' => e = .returned (.bool (neg a)) ∧ w' = w := by
  have HV : Hid (neg a = (a % 2 == 1)) := by show _ = _; unfold neg; rw [if_neg (by omega)]
  go_enter Tryz.func48, Tryz.ntmps48
  go_wp2
  all_goals
    go_ret
    exact ⟨ret_bool (by rw [HV.out]; first | done | (have hz : a = 0 := (by omega); subst hz; decide)), rfl⟩

theorem refNeg_all (a : Int) (h0 : -9223372036854775808 ≤ a) (h1 : a ≤ 9223372036854775807) (w : World) : Calls Tryz.prog 48 #[.int .i64 a] w fun e w' => e = .returned (.bool (neg a)) ∧ w' = w := by
  by_cases hn : a < 0
  · have HV : Hid (neg a = false) := by show _ = _; unfold neg; rw [if_pos hn]
    have hn2 : ¬ 0 < a := by omega
    go_enter Tryz.func48, Tryz.ntmps48
    go_wp2
    all_goals
      go_ret
      exact ⟨ret_bool (by rw [HV.out]), rfl⟩
  · exact refNeg_any a (by omega) h1 w

theorem refTrue_any (w : World) (L : List Bool) (l : Int) (h0 : -9223372036854775808 ≤ l) (h1 : l ≤ 9223372036854775807) (hL : L.length ≤ 9223372036854775807) :
    Calls Tryz.prog 24 #[.string (bs L), .int .i64 l] w fun e w' => e = .returned (.bool (litV L l)) ∧ w' = w := by
  have HVA := RefV.refVar_all l h0 h1 w
  have HN := Lib.hid (refNeg_all l h0 h1 w)
  obtain ⟨v, hv⟩ : ∃ v : Nat, var l = (v : Int) := ⟨(var l).toNat, by have := var_nn l; omega⟩
  rw [hv] at HVA
  have HV := Lib.hid HVA
  have HLV : Hid (litV L l = (L.getD v false != neg l)) := by show _ = _; unfold litV valV; rw [hv]; rfl
  have HSZ : Hid ((bs L).size = L.length) := bs_size L
  have HBY : Hid (∀ h : v < (bs L).size, ((((bs L)[v]'h).toNat : Int) == 49) = L.getD v false) := fun h => by rw [bs_at L h, byte_one]
  have HNO : Hid (¬ v < (bs L).size → L.getD v false = false) := fun h => by
    rw [bs_size] at h
    rw [List.getD_eq_getElem?_getD, List.getElem?_eq_none (by omega)]; rfl
  have hsz : (bs L).size ≤ 9223372036854775807 := by rw [bs_size]; exact hL
  generalize bs L = s at *
  generalize neg l = ng at *
  generalize L.getD v false = q at *
  generalize litV L l = r at *
  clear HVA hv h0 h1 hL HSZ
  go_enter Tryz.func24, Tryz.ntmps24
  go_wp2_with fail
  with_reducible refine HV.out.mono ?_
  rintro e w1 ⟨rfl, rfl⟩
  by_cases hlt : v < s.size
  · have hb := HBY.out hlt
    have hd : decide ((v : Int) < (s.size : Int)) = true := decide_eq_true (by omega)
    generalize hq : (((s[v]).toNat : Int) == 49) = q2 at *
    go_wp2_with fail
    with_reducible refine HN.out.mono ?_
    rintro e w2 ⟨rfl, rfl⟩
    go_wp2_with fail
    go_ret
    exact ⟨ret_bool (by rw [HLV.out, ← hb]; cases q2 <;> cases ng <;> rfl), rfl⟩
  · have hb := HNO.out hlt
    have hd : decide ((v : Int) < (s.size : Int)) = false := decide_eq_false (by omega)
    go_wp2_with fail
    with_reducible refine HN.out.mono ?_
    rintro e w2 ⟨rfl, rfl⟩
    go_wp2_with fail
    go_ret
    exact ⟨ret_bool (by rw [HLV.out, hb]; cases ng <;> rfl), rfl⟩

theorem bit_any (w : World) (b : Bool) : Calls Tryz.prog 45 #[.bool b] w fun e w' => e = .returned (.string (bs [b])) ∧ w' = w := by
  cases b
  all_goals
    go_enter Tryz.func45, Tryz.ntmps45
    go_wp2
    go_ret
    exact ⟨rfl, rfl⟩

set_option maxHeartbeats 2000000 in
theorem set_any (w : World) (s : ByteArray) (u : Nat) (c : UInt8) (hu : u < s.size) (hs : s.size ≤ 1000000) :
    Calls Tryz.prog 44 #[.string s, .int .i64 u, .int .u8 (c.toNat : Int)] w fun e w' => e = .returned (.string (s.extract 0 u ++ ⟨#[c]⟩ ++ s.extract (u + 1) s.size)) ∧ Below w.heap.size w w' := by
  have hu1 : (u : Int) + 1 ≤ (s.size : Int) := by omega
  have hu2 : (u : Int) ≤ (s.size : Int) := by omega
  have hwr : IntKind.i64.wrap ((u : Int) + 1) = (u : Int) + 1 := IntWalk.i64_in _ (by omega)
  have hu0' : (0 : Int) ≤ (u : Int) + 1 := by omega
  have hu00 : (0 : Int) ≤ (u : Int) := by omega
  have hl1 : ¬ 9223372036854775807 < u + 1 := by omega
  have hl2 : ¬ 9223372036854775807 < u + 1 + (s.size - (u + 1)) := by omega
  have e1 : ((u : Int) + 1).toNat = u + 1 := by omega
  have e2 : ((u : Int)).toNat = u := by omega
  have z1 : (s.extract 0 u).size = u := by rw [ByteArray.size_extract]; omega
  have z2 : (s.extract (u + 1) s.size).size = s.size - (u + 1) := by rw [ByteArray.size_extract]; omega
  go_enter Tryz.func44, Tryz.ntmps44
  go_wp2_with fail
  refine HeldAll.region (fun U : World => True) (by kernel_rfl) ?_
  obtain ⟨u0, hu0⟩ : ∃ U, w.drew = U := ⟨_, rfl⟩
  rw [hu0]
  have b0 : Below w.heap.size w u0 := by rw [← hu0]; exact (Below.refl _ _).drew
  (refine HeldAll.take (i := 0) (oi := _) (d := some 7) (v := ?_) rfl rfl (by kernel_rfl) (by kernel_rfl) (by kernel_rfl) (fun _ _ _ h => h) (Or.inl ⟨by rfl, ?_⟩) trivial ?_; rotate_left; (focus (intro w hSw; clear hSw; go_simp; (try with_reducible rfl); done)); (try simp only [Act.put, List.setIfInBounds_toArray, List.set_cons_zero, List.set_cons_succ]))
  (refine HeldAll.take (i := 1) (oi := _) (d := some 8) (v := ?_) rfl rfl (by kernel_rfl) (by kernel_rfl) (by kernel_rfl) (fun _ _ _ h => h) (Or.inl ⟨by rfl, ?_⟩) trivial ?_; rotate_left; (focus (intro w hSw; clear hSw; go_simp; (try with_reducible rfl); done)); (try simp only [Act.put, List.setIfInBounds_toArray, List.set_cons_zero, List.set_cons_succ]))
  (refine HeldAll.take (i := 2) (oi := _) (d := some 9) (v := ?_) rfl rfl (by kernel_rfl) (by kernel_rfl) (by kernel_rfl) (fun _ _ _ h => h) (Or.inl ⟨by rfl, ?_⟩) trivial ?_; rotate_left; (focus (intro w hSw; clear hSw; go_simp; (try with_reducible rfl); done)); (try simp only [Act.put, List.setIfInBounds_toArray, List.set_cons_zero, List.set_cons_succ]))
  (refine HeldAll.take (i := 3) (oi := _) (d := some 10) (v := ?_) rfl rfl (by kernel_rfl) (by kernel_rfl) (by kernel_rfl) (fun _ _ _ h => h) (Or.inl ⟨by rfl, ?_⟩) trivial ?_; rotate_left; (focus (intro w hSw; clear hSw; go_simp; (try with_reducible rfl); done)); (try simp only [Act.put, List.setIfInBounds_toArray, List.set_cons_zero, List.set_cons_succ]))
  (refine HeldAll.take (i := 7) (oi := _) (d := some 14) (v := ?_) rfl rfl (by kernel_rfl) (by kernel_rfl) (by kernel_rfl) (fun _ _ _ h => h) (Or.inl ⟨by rfl, ?_⟩) trivial ?_; rotate_left; (focus (intro w hSw; clear hSw; go_simp; (try with_reducible rfl); done)); (try simp only [Act.put, List.setIfInBounds_toArray, List.set_cons_zero, List.set_cons_succ]))
  (refine HeldAll.take (i := 8) (oi := _) (d := some 15) (v := ?_) rfl rfl (by kernel_rfl) (by kernel_rfl) (by kernel_rfl) (fun _ _ _ h => h) (Or.inl ⟨by rfl, ?_⟩) trivial ?_; rotate_left; (focus (intro w hSw; clear hSw; go_simp; (try with_reducible rfl); done)); (try simp only [Act.put, List.setIfInBounds_toArray, List.set_cons_zero, List.set_cons_succ]))
  (refine HeldAll.take (i := 9) (oi := _) (d := some 16) (v := ?_) rfl rfl (by kernel_rfl) (by kernel_rfl) (by kernel_rfl) (fun _ _ _ h => h) (Or.inl ⟨by rfl, ?_⟩) trivial ?_; rotate_left; (focus (intro w hSw; clear hSw; go_simp; (try with_reducible rfl); done)); (try simp only [Act.put, List.setIfInBounds_toArray, List.set_cons_zero, List.set_cons_succ]))
  (refine HeldAll.take (i := 10) (oi := _) (d := some 17) (v := ?_) rfl rfl (by kernel_rfl) (by kernel_rfl) (by kernel_rfl) (fun _ _ _ h => h) (Or.inl ⟨by rfl, ?_⟩) trivial ?_; rotate_left; (focus (intro w hSw; clear hSw; go_simp; (try with_reducible rfl); done)); (try simp only [Act.put, List.setIfInBounds_toArray, List.set_cons_zero, List.set_cons_succ]))
  obtain ⟨u1, hu1⟩ : ∃ V, u0.alloc (.cells #[.int .u8 (c.toNat : Int)] 5) = V := ⟨_, rfl⟩
  have b1 : Below w.heap.size w u1 := by rw [← hu1]; exact b0.alloc b0.size _
  have hcv : (convert 59 9 (.slice (some ⟨u0.heap.size, 0, none⟩) 1 1)).run Tryz.prog u1 = .ok (.string ⟨#[c]⟩) u1 := by
    have h := run_convert_bytes_back (P := Tryz.prog) u1 59 9 5 ⟨u0.heap.size, 0, none⟩ 1 [c] Tryz.underlying59 Tryz.underlying5 Tryz.underlying9 (fun j hj => by
      have hj0 : j = 0 := by simp at hj; exact hj
      subst hj0
      rw [← hu1, Addr.add_lit]
      simp [go_sem])
    exact h
  refine HeldAll.one (i := 4) (by kernel_rfl) ?_
  refine HeldAll.opVal (i := 4) (oi := _) (d := some 11) (v := .slice (some ⟨u0.heap.size, 0, none⟩) 1 1) (w2 := u1) rfl rfl (by rfl) (by rw [← hu1]; go_simp; done) trivial ?_
  (try simp only [Act.put, List.setIfInBounds_toArray, List.set_cons_zero, List.set_cons_succ])
  refine HeldAll.one (i := 5) (by kernel_rfl) ?_
  refine HeldAll.opVal (i := 5) (oi := _) (d := some 12) (v := .string ⟨#[c]⟩) (w2 := u1) rfl rfl (by rfl) (by simp only [execOp, Act.eval]; go_simp; done) trivial ?_
  (try simp only [Act.put, List.setIfInBounds_toArray, List.set_cons_zero, List.set_cons_succ])
  (refine HeldAll.take (i := 6) (oi := _) (d := some 13) (v := ?_) rfl rfl (by kernel_rfl) (by kernel_rfl) (by kernel_rfl) (fun _ _ _ h => h) (Or.inl ⟨by rfl, ?_⟩) trivial ?_; rotate_left; (focus (intro w hSw; clear hSw; go_simp; (try with_reducible rfl); done)); (try simp only [Act.put, List.setIfInBounds_toArray, List.set_cons_zero, List.set_cons_succ]))
  (refine HeldAll.take (i := 11) (oi := _) (d := some 18) (v := ?_) rfl rfl (by kernel_rfl) (by kernel_rfl) (by kernel_rfl) (fun _ _ _ h => h) (Or.inl ⟨by rfl, ?_⟩) trivial ?_; rotate_left; (focus (intro w hSw; clear hSw; go_simp; (try with_reducible rfl); done)); (try simp only [Act.put, List.setIfInBounds_toArray, List.set_cons_zero, List.set_cons_succ]))
  (refine HeldAll.take (i := 12) (oi := _) (d := some 6) (v := ?_) rfl rfl (by kernel_rfl) (by kernel_rfl) (by kernel_rfl) (fun _ _ _ h => h) (Or.inl ⟨by rfl, ?_⟩) trivial ?_; rotate_left; (focus (intro w hSw; clear hSw; go_simp; (try with_reducible rfl); done)); (try simp only [Act.put, List.setIfInBounds_toArray, List.set_cons_zero, List.set_cons_succ]))
  refine HeldAll.done (by kernel_rfl) ?_ _
  (try go_wp2_with fail)
  go_ret
  exact ⟨rfl, b1⟩
theorem set_bs (w : World) (L : List Bool) (u : Int) (b : Bool) (h0 : 0 ≤ u) (hu : u.toNat < L.length) (hs : L.length ≤ 1000000) (c : Int) (hc : c = ((byteB b).toNat : Int)) :
    Calls Tryz.prog 44 #[.string (bs L), .int .i64 u, .int .u8 c] w fun e w' => e = .returned (.string (bs (setB L u b))) ∧ Below w.heap.size w w' := by
  subst hc
  have h := set_any w (bs L) u.toNat (byteB b) (by rw [bs_size]; exact hu) (by rw [bs_size]; exact hs)
  rw [bs_set L hu b] at h
  have e : ((u.toNat : Nat) : Int) = u := by omega
  rw [e] at h
  exact h

set_option maxHeartbeats 2000000 in
theorem holds_any (w : World) (L : List Bool) (hL : L.length ≤ 9223372036854775807) (a : Option Addr) (n c : Nat) (cl : List Int) (hsl : Sl w a n c (ints cl)) (h64 : ∀ y ∈ cl, -9223372036854775808 ≤ y ∧ y ≤ 9223372036854775807) :
    Calls Tryz.prog 46 #[.string (bs L), .slice a n c] w fun e w' => e = .returned (.bool (cl.any (litV L))) ∧ w' = w := by
  have HT : Hid (∀ (k : Nat) (h : k < cl.length), Calls Tryz.prog 24 #[.string (bs L), .int .i64 cl[k]] w fun e w' => e = .returned (.bool (litV L cl[k])) ∧ w' = w) := fun k h =>
    refTrue_any w L cl[k] (h64 _ (List.getElem_mem h)).1 (h64 _ (List.getElem_mem h)).2 hL
  have HLN : Hid (cl.length = n) := by have := hsl.len; rwa [ints_len] at this
  have hcap := hsl.cap
  have hbig := hsl.big
  have HS := Lib.hid hsl
  clear hsl h64 hL
  generalize bs L = s at *
  go_enter Tryz.func46, Tryz.ntmps46
  go_wp2_with fail
  go_loopw [5] (fun i wr => ∃ k : Nat, k ≤ n ∧ i = .int .i64 k ∧ Hid ((cl.take k).any (litV L) = false) ∧ wr = w) (fun i _ => n - (intOf i).toNat)
  case atStart => exact ⟨0, Nat.zero_le _, rfl, rfl, rfl⟩
  case round =>
    obtain ⟨k, hk, rfl, hF, rfl⟩ := hrel
    by_cases hlt : k < n
    · obtain ⟨b, o, hx, rfl, hbs, d0⟩ := HS.out.int hlt
      have HTK := Lib.hid (HT.out k hx)
      have HYE : Hid (litV L cl[k] = true → cl.any (litV L) = true) := fun h => List.any_eq_true.2 ⟨_, List.getElem_mem hx, h⟩
      have HNO : Hid (litV L cl[k] = false → (cl.take (k + 1)).any (litV L) = false) := fun h => by rw [List.take_succ_eq_append_getElem hx, List.any_append, hF.out]; simp [h]
      generalize cl[k] = y at *
      generalize litV L y = q at *
      go_wp2_with fail
      with_reducible refine HTK.out.mono ?_
      rintro e wx ⟨rfl, rfl⟩
      cases q
      · go_wp2_with fail
        go_roundw
        case rel => exact ⟨k + 1, by omega, by go_num, HNO.out (by first | rfl | trivial), (by first | rfl | trivial)⟩
        case measure => simp [intOf]; omega
      · go_wp2_with fail
        go_ret
        exact ⟨by rw [HYE.out (by first | rfl | trivial)]; rfl, rfl⟩
    · have HE : Hid (cl.any (litV L) = false) := by
        show _ = _
        have h := hF.out
        rwa [List.take_of_length_le (by have := HLN.out; omega)] at h
      go_wp2_with fail
      go_ret
      exact ⟨by rw [HE.out]; rfl, rfl⟩
end BadP
end Go.Proofs.YtjmmhbmbafjneaaGreatDoor

/-
  Slices of structs of k cells in memory of one's own; what may be written; what lies from a block on stays. No program's function.
-/
namespace Go.Proofs.YtjmmhbmbafjneaaGreatDoor
open Go.RowKit
set_option linter.unusedVariables false
set_option linter.unusedSimpArgs false
namespace Base

theorem flat_len {k : Nat} {vs : List (List Value)} (h : ∀ r ∈ vs, r.length = k) : vs.flatten.length = vs.length * k := by
  induction vs with
  | nil => simp
  | cons x r ih =>
    rw [List.flatten_cons, List.length_append, List.length_cons, ih (fun y hy => h y (List.mem_cons_of_mem _ hy)), h x List.mem_cons_self, Nat.succ_mul, Nat.add_comm]

theorem flat_at {k : Nat} {vs : List (List Value)} (h : ∀ r ∈ vs, r.length = k) (i j : Nat) (hj : j < k) : vs.flatten[i * k + j]? = (vs[i]?).bind (·[j]?) := by
  induction vs generalizing i with
  | nil => simp
  | cons x r ih =>
    have hx := h x List.mem_cons_self
    rw [List.flatten_cons]
    cases i with
    | zero =>
      rw [Nat.zero_mul, Nat.zero_add, List.getElem?_append_left (by omega)]
      rfl
    | succ i =>
      rw [List.getElem?_append_right (by rw [hx, Nat.succ_mul]; omega)]
      have e : (i + 1) * k + j - x.length = i * k + j := by rw [hx, Nat.succ_mul]; omega
      rw [e, ih (fun y hy => h y (List.mem_cons_of_mem _ hy)), List.getElem?_cons_succ]

theorem tris_row (l : List Tri) : ∀ r ∈ tris l, r.length = 3 := by
  intro r hr
  unfold tris at hr
  obtain ⟨t, _, rfl⟩ := List.mem_map.1 hr
  rfl
theorem names_row (l : List (ByteArray × Int × ByteArray)) : ∀ r ∈ namesV l, r.length = 3 := by
  intro r hr
  unfold namesV at hr
  obtain ⟨t, _, rfl⟩ := List.mem_map.1 hr
  rfl
theorem tris_len (l : List Tri) : (tris l).length = l.length := by simp [tris]
theorem names_len (l : List (ByteArray × Int × ByteArray)) : (namesV l).length = l.length := by simp [namesV]
theorem tris_one (l : List Tri) : ∀ u ∈ (tris l).flatten, u.oneCell' = true := by
  intro u hu
  obtain ⟨r, hr, hu⟩ := List.mem_flatten.1 hu
  unfold tris at hr
  obtain ⟨t, _, rfl⟩ := List.mem_map.1 hr
  simp only [List.mem_cons, List.not_mem_nil, or_false] at hu
  rcases hu with rfl | rfl | rfl <;> rfl
theorem names_one (l : List (ByteArray × Int × ByteArray)) : ∀ u ∈ (namesV l).flatten, u.oneCell' = true := by
  intro u hu
  obtain ⟨r, hr, hu⟩ := List.mem_flatten.1 hu
  unfold namesV at hr
  obtain ⟨t, _, rfl⟩ := List.mem_map.1 hr
  simp only [List.mem_cons, List.not_mem_nil, or_false] at hu
  rcases hu with rfl | rfl | rfl <;> rfl

/-- The cells of a slice that can be read, one behind another. -/
theorem SlT.flat {w : World} {k : Nat} (hk : 0 < k) {ad : Addr} {n c : Nat} {vs : List (List Value)} (h : SlT w k (some ad) n c vs) : ∀ j u, vs.flatten[j]? = some u → w.cell? (ad.add j) = some u := by
  intro j u hu
  have hr : ∀ r ∈ vs, r.length = k := fun r hr => by
    obtain ⟨i, hi⟩ := List.getElem?_of_mem hr
    exact (h.cell i r hi).1
  have hj : j = (j / k) * k + j % k := by rw [Nat.mul_comm]; exact (Nat.div_add_mod j k).symm
  rw [hj, flat_at hr _ _ (Nat.mod_lt _ hk)] at hu
  obtain ⟨r, h1, h2⟩ := Option.bind_eq_some_iff.1 hu
  obtain ⟨_, b, o, ha, _, hc⟩ := h.cell _ r h1
  simp only [Option.some.injEq] at ha
  subst ha
  have := hc _ u h2
  rw [Addr.add_lit, hj, ← Nat.add_assoc]
  exact this

/-- What is owned, as a slice that can be read. -/
theorem own_slT {w : World} {B : Nat} {e : TypeId} {k : Nat} {v : Value} {n : Nat} {vs : List (List Value)} (hk : 0 < k) (hr : ∀ r ∈ vs, r.length = k) (hn : vs.length = n) (h : w.ownsRow B e k v n vs.flatten) :
    ∃ a c, v = .slice a n c ∧ SlT w k a n c vs := by
  obtain ⟨hl, h2⟩ := h
  rcases h2 with ⟨rfl, rfl⟩ | ⟨g, cap, cur, rfl, hg, hh, hnc, hcap, hcur, htake⟩
  · exact ⟨none, 0, rfl, hn, Nat.le_refl _, by omega, fun _ => ⟨rfl, rfl⟩, fun i x hx => by
      have := (List.getElem?_eq_some_iff.1 hx).1; omega⟩
  · refine ⟨_, _, rfl, hn, hnc, by unfold maxLen at hcap; omega, (fun h => by cases h), fun i r hi => ⟨hr r (List.mem_of_getElem? hi), g, 0, rfl, (Array.getElem?_eq_some_iff.1 hh).1, fun j x hx => ?_⟩⟩
    have hjk : j < k := by
      have h1 := (List.getElem?_eq_some_iff.1 hx).1
      rw [hr r (List.mem_of_getElem? hi)] at h1
      exact h1
    have hf : vs.flatten[i * k + j]? = some x := by rw [flat_at hr _ _ hjk, hi]; exact hx
    rw [← htake, List.getElem?_take] at hf
    rw [cell_of_row _ g (0 + i * k + j) cur e _ hh]
    split at hf
    · rw [Nat.zero_add]; simpa using hf
    · cases hf

/-- append of all of a slice to one's own, elements of k cells. -/
theorem wpL_appK {P : Program} {w : World} {ops : Array Oper} {rest : List Oper} {dst : Option Tmp} {ty : TypeId} {pos : String} {af : Array Edge} {a : Act} {Q : Exit → Act → World → Prop}
    {s x : Operand} {t e : TypeId} {z : Value} {k bytes : Nat} (hk : 0 < k) (B : Nat) (v : Value) (n : Nat) (vs : List (List Value)) (ao : Option Addr) (m c : Nat) (us : List (List Value))
    (hinfo : (P.info? e).map (fun i => (i.zero, i.size, i.bytes)) = some (some z, k, bytes)) (ht : P.underlying t = some (.slice e)) (hzs : z.cells.size = k)
    (hs : a.eval s = v) (hx : a.eval x = .slice ao m c) (hu : ∀ u ∈ us.flatten, u.oneCell' = true) (hur : ∀ r ∈ us, r.length = k)
    (hown : w.ownsRow B e k v n vs.flatten) (hsl : SlT w k ao m c us) (hB : B ≤ w.heap.size) (hn : (n + m) * bytes ≤ 140737488355328) (hn' : n + m ≤ 9223372036854775807) {W : World} (hb : Below B W w)
    (hK : ∀ a' c' w1, w1.ownsRow B e k (.slice a' (n + m) c') (n + m) (vs ++ us).flatten → Below B W w1 → w.heap.size ≤ w1.heap.size → wpList P ops Q rest (a.put dst (.slice a' (n + m) c')) w1) :
    wpList P ops Q (⟨dst, .call { callee := .builtin .append, args := #[s, x], argTypes := #[t, t] }, ty, pos, af, none⟩ :: rest) a w := by
  obtain ⟨i, hi, hz0, hz1, hz2⟩ := info_parts hinfo
  have shape : ∀ {w : World} {v : Value} {n : Nat} {xs : List Value}, w.ownsRow B e k v n xs → ∃ a c, v = .slice a n c := by
    intro w v n xs h
    rcases h.2 with ⟨rfl, rfl⟩ | ⟨g, cap, cur, rfl, _⟩
    · exact ⟨none, 0, rfl⟩
    · exact ⟨_, _, rfl⟩
  cases ao with
  | none =>
    obtain ⟨rfl, rfl⟩ := hsl.bare rfl
    have hus : us = [] := List.eq_nil_of_length_eq_zero hsl.len
    subst hus
    refine wpList_append_own_none rfl s x t rfl B e i k ht hi v n vs.flatten hs hown hx ?_
    obtain ⟨a', c', rfl⟩ := shape hown
    exact hK a' c' w (by simpa using hown) hb (Nat.le_refl _)
  | some ad =>
    have hl : us.flatten.length = m * k := by rw [flat_len hur, hsl.len]
    refine wpList_append_own _ rfl s x t rfl B e i z k bytes ht hi hz0 hz1 hz2 hzs hk v n vs.flatten hs hown ad m c us.flatten hx hl ?_ hu
      (by unfold maxLen; omega) hn hB ?_
    · exact hsl.flat hk
    · intro v' w1 hown' hgrow _
      obtain ⟨a', c', rfl⟩ := shape hown'
      exact hK a' c' w1 (by rw [List.flatten_append]; exact hown') (below_own hown hgrow hb hB) hgrow.size

/-- w2 is as w from block N on. -/
structure Holds (N : Nat) (w w2 : World) : Prop where
  size : w.heap.size ≤ w2.heap.size
  block : ∀ k, N ≤ k → k < w.heap.size → w2.heap[k]? = w.heap[k]?

theorem Holds.refl (N : Nat) (w : World) : Holds N w w := ⟨Nat.le_refl _, fun _ _ _ => rfl⟩
theorem Holds.of {N : Nat} {w w2 : World} (h : Below w.heap.size w w2) : Holds N w w2 := ⟨h.size, fun k _ hk => h.block k hk⟩
theorem Holds.trans {N : Nat} {w w1 w2 : World} (h : Holds N w w1) (h2 : Holds N w1 w2) : Holds N w w2 :=
  ⟨Nat.le_trans h.size h2.size, fun k hn hk => (h2.block k hn (Nat.lt_of_lt_of_le hk h.size)).trans (h.block k hn hk)⟩
theorem Holds.set {N : Nat} {w w2 : World} (h : Holds N w w2) {a : Addr} (hb : a.block < N) (u : Value) : Holds N w (w2.setCell a u) := by
  refine ⟨by simpa [World.setCell] using h.size, fun k hn hk => ?_⟩
  simp only [World.setCell, Array.getElem?_modify]
  rw [if_neg (by omega)]
  exact h.block k hn hk
theorem Holds.own {w w2 : World} {N B : Nat} {e : TypeId} {size : Nat} {v : Value} {n : Nat} {vs : List Value} (hk : Holds N w w2) (h : w.ownsRow B e size v n vs) (hN : N ≤ B) : w2.ownsRow B e size v n vs := by
  refine ⟨h.1, ?_⟩
  rcases h.2 with hn | ⟨g, cap, cur, rfl, hg, hh, r⟩
  · exact .inl hn
  · exact .inr ⟨g, cap, cur, rfl, hg, by rw [hk.block g (by omega) (Array.getElem?_eq_some_iff.1 hh).1]; exact hh, r⟩

/-- The first m cells of a slice may be written; they lie in a block from B to N. -/
def Writes (w : World) (B N : Nat) (a : Option Addr) (m : Nat) : Prop := m = 0 ∨ ∃ g, a = some ⟨g, 0, none⟩ ∧ B ≤ g ∧ g < N ∧ ∀ j, j < m → (∃ u, w.cell? ⟨g, j, none⟩ = some u) ∧ w.frozen? ⟨g, j, none⟩ = false

theorem Writes.set {w : World} {B N : Nat} {a : Option Addr} {m : Nat} (h : Writes w B N a m) (p : Addr) (u : Value) : Writes (w.setCell p u) B N a m := by
  rcases h with h | ⟨g, ha, h1, h2, hc⟩
  · exact .inl h
  · refine .inr ⟨g, ha, h1, h2, fun j hj => ⟨?_, by rw [World.frozen?_setCell]; exact (hc j hj).2⟩⟩
    obtain ⟨x, hx⟩ := (hc j hj).1
    exact cell?_setCell_some hx

theorem Writes.of {w : World} {B : Nat} {e : TypeId} {k : Nat} {a : Option Addr} {n c : Nat} {vs : List Value} (h : w.ownsRow B e k (.slice a n c) n vs) : Writes w B w.heap.size a (n * k) := by
  rcases h.2 with ⟨_, rfl⟩ | ⟨g, cap, cur, hv, hg, hh, hnc, hcap, hcur, htake⟩
  · exact .inl (by simp)
  · simp only [Value.slice.injEq, true_and] at hv
    obtain ⟨rfl, rfl⟩ := hv
    refine .inr ⟨g, rfl, hg, (Array.getElem?_eq_some_iff.1 hh).1, fun j hj => ⟨?_, ?_⟩⟩
    · rw [cell_of_row _ g j cur e _ hh]
      have hlt : j < cur.size := by rw [hcur]; exact Nat.lt_of_lt_of_le hj (Nat.mul_le_mul_right _ hnc)
      exact ⟨cur[j], by simp [hlt]⟩
    · simp [World.frozen?, hh]

theorem Writes.next {w w' : World} {B N : Nat} {a : Option Addr} {m : Nat} (h : Writes w B N a m) (hN : N ≤ w.heap.size) (hb : Below w.heap.size w w') : Writes w' B N a m := by
  rcases h with h | ⟨g, ha, h1, h2, hc⟩
  · exact .inl h
  · refine .inr ⟨g, ha, h1, h2, fun j hj => ⟨?_, ?_⟩⟩
    · obtain ⟨x, hx⟩ := (hc j hj).1
      exact ⟨x, (hb.cell (p := ⟨g, j, none⟩) (Nat.lt_of_lt_of_le h2 hN)).trans hx⟩
    · exact ((bcell hb).2 g j (Nat.lt_of_lt_of_le h2 hN)).trans (hc j hj).2
end Base
end Go.Proofs.YtjmmhbmbafjneaaGreatDoor

/-
  A circuit in memory of one's own; a box of cells that may be written.
-/
namespace Go.Proofs.YtjmmhbmbafjneaaGreatDoor
open Go.RowKit Base
set_option linter.unusedVariables false
set_option linter.unusedSimpArgs false
namespace Circuit

/-- All seven parts lie in memory from block B on, each its own. -/
structure OwnC (w : World) (B : Nat) (x : Circ) (p : At) : Prop where
  ins : w.ownsRow B 3 1 (.slice p.a1 x.ins.length p.c1) x.ins.length (ints x.ins)
  lats : w.ownsRow B 71 3 (.slice p.a2 x.lats.length p.c2) x.lats.length (tris x.lats).flatten
  outs : w.ownsRow B 3 1 (.slice p.a3 x.outs.length p.c3) x.outs.length (ints x.outs)
  bads : w.ownsRow B 3 1 (.slice p.a4 x.bads.length p.c4) x.bads.length (ints x.bads)
  invs : w.ownsRow B 3 1 (.slice p.a5 x.invs.length p.c5) x.invs.length (ints x.invs)
  ands : w.ownsRow B 74 3 (.slice p.a6 x.ands.length p.c6) x.ands.length (tris x.ands).flatten
  names : w.ownsRow B 96 3 (.slice p.a7 x.names.length p.c7) x.names.length (namesV x.names).flatten

theorem own_sl' {w : World} {B : Nat} {e : TypeId} {a : Option Addr} {n c : Nat} {vs : List Value} (h : w.ownsRow B e 1 (.slice a n c) n vs) : Sl w a n c vs := by
  obtain ⟨a', c', hv, hs⟩ := own_sl h
  simp only [Value.slice.injEq, true_and] at hv
  obtain ⟨rfl, rfl⟩ := hv
  exact hs
theorem own_slT' {w : World} {B : Nat} {e : TypeId} {a : Option Addr} {n c : Nat} {vs : List (List Value)} (hr : ∀ r ∈ vs, r.length = 3) (hn : vs.length = n) (h : w.ownsRow B e 3 (.slice a n c) n vs.flatten) : SlT w 3 a n c vs := by
  obtain ⟨a', c', hv, hs⟩ := own_slT (by decide) hr hn h
  simp only [Value.slice.injEq, true_and] at hv
  obtain ⟨rfl, rfl⟩ := hv
  exact hs

theorem OwnC.inC {w : World} {B : Nat} {x : Circ} {p : At} (h : OwnC w B x p) : InCirc w x p :=
  ⟨own_sl' h.ins, own_slT' (tris_row _) (tris_len _) h.lats, own_sl' h.outs, own_sl' h.bads, own_sl' h.invs, own_slT' (tris_row _) (tris_len _) h.ands, own_slT' (names_row _) (names_len _) h.names⟩
theorem OwnC.next {w w' : World} {B : Nat} {x : Circ} {p : At} (h : OwnC w B x p) (hb : Below w.heap.size w w') : OwnC w' B x p :=
  ⟨own_next h.ins hb, own_next h.lats hb, own_next h.outs hb, own_next h.bads hb, own_next h.invs hb, own_next h.ands hb, own_next h.names hb⟩
theorem OwnC.mono {w : World} {B B' : Nat} {x : Circ} {p : At} (h : OwnC w B x p) (hB : B' ≤ B) : OwnC w B' x p :=
  ⟨own_mono h.ins hB, own_mono h.lats hB, own_mono h.outs hB, own_mono h.bads hB, own_mono h.invs hB, own_mono h.ands hB, own_mono h.names hB⟩
theorem OwnC.holds {w w' : World} {B N : Nat} {x : Circ} {p : At} (h : OwnC w B x p) (hk : Holds N w w') (hN : N ≤ B) : OwnC w' B x p :=
  ⟨hk.own h.ins hN, hk.own h.lats hN, hk.own h.outs hN, hk.own h.bads hN, hk.own h.invs hN, hk.own h.ands hN, hk.own h.names hN⟩

theorem OwnC.set {w : World} {B : Nat} {x : Circ} {p : At} (h : OwnC w B x p) {a : Addr} (ha : a.block < B) (u : Value) : OwnC (w.setCell a u) B x p :=
  ⟨ownsRow_setCell_below h.ins ha u, ownsRow_setCell_below h.lats ha u, ownsRow_setCell_below h.outs ha u, ownsRow_setCell_below h.bads ha u, ownsRow_setCell_below h.invs ha u, ownsRow_setCell_below h.ands ha u, ownsRow_setCell_below h.names ha u⟩

/-- Each part is small enough to be made anew. -/
structure Fits (x : Circ) : Prop where
  ins : x.ins.length * 8 ≤ 140737488355328
  lats : x.lats.length * 24 ≤ 140737488355328
  outs : x.outs.length * 8 ≤ 140737488355328
  bads : x.bads.length * 8 ≤ 140737488355328
  invs : x.invs.length * 8 ≤ 140737488355328
  ands : x.ands.length * 24 ≤ 140737488355328
  names : x.names.length * 40 ≤ 140737488355328

/-- Block N holds these cells, and may be written. -/
structure BoxN (N : Nat) (cs : List Value) (w : World) : Prop where
  lt : N < w.heap.size
  at' : ∀ j u, cs[j]? = some u → w.cell? ⟨N, j, none⟩ = some u
  fz : ∀ j, w.frozen? ⟨N, j, none⟩ = false

theorem BoxN.new (w : World) (cs : Array Value) (t : TypeId) : BoxN w.heap.size cs.toList (w.alloc (.cells cs t)) := by
  refine ⟨by simp, fun j u hu => ?_, fun j => by simp [go_sem]⟩
  simp [go_sem]
  simpa using hu

theorem BoxN.next {N : Nat} {cs : List Value} {w w' : World} (h : BoxN N cs w) {B : Nat} (hb : Below B w w') (hB : N < B) : BoxN N cs w' :=
  ⟨Nat.lt_of_lt_of_le h.lt hb.size, fun j u hu => (hb.cell (p := ⟨N, j, none⟩) hB).trans (h.at' j u hu), fun j => (hb.frozen (p := ⟨N, j, none⟩) hB).trans (h.fz j)⟩

theorem BoxN.holds {N : Nat} {cs : List Value} {w w' : World} (h : BoxN N cs w) {B : Nat} (hb : Holds B w w') (hB : B ≤ N) : BoxN N cs w' := by
  have hblk := hb.block N hB h.lt
  refine ⟨Nat.lt_of_lt_of_le h.lt hb.size, fun j u hu => ?_, fun j => ?_⟩
  · exact (World.cell?_of_block (w := w) (a := ⟨N, j, none⟩) hblk).trans (h.at' j u hu)
  · exact (World.frozen?_of_block (w := w) (a := ⟨N, j, none⟩) hblk).trans (h.fz j)

theorem BoxN.set {N : Nat} {cs : List Value} {w : World} (h : BoxN N cs w) (j : Nat) (u : Value) : BoxN N (cs.set j u) (w.setCell ⟨N, j, none⟩ u) := by
  refine ⟨by simpa [World.setCell] using h.lt, fun i v hv => ?_, fun i => by rw [World.frozen?_setCell]; exact h.fz i⟩
  by_cases hij : j = i
  · subst hij
    obtain ⟨hl, he⟩ := List.getElem?_eq_some_iff.1 hv
    rw [List.length_set] at hl
    have h0 := h.at' j cs[j] (List.getElem?_eq_getElem hl)
    have : v = u := by rw [← he]; simp
    subst this
    exact World.cell?_setCell_same' _ _ _ (by rw [h0]; rfl)
  · rw [List.getElem?_set_ne hij] at hv
    rw [World.cell?_setCell_other _ _ _ _ (by intro e; simp only [Addr.mk.injEq, and_true, true_and] at e; exact hij e)]
    exact h.at' i v hv

theorem BoxN.other {N : Nat} {cs : List Value} {w : World} (h : BoxN N cs w) {a : Addr} (ha : a.block ≠ N) (u : Value) : BoxN N cs (w.setCell a u) := by
  refine ⟨by simpa [World.setCell] using h.lt, fun i v hv => ?_, fun i => by rw [World.frozen?_setCell]; exact h.fz i⟩
  rw [World.cell?_setCell_other _ _ _ _ (by intro e; apply ha; rw [e])]
  exact h.at' i v hv
end Circuit
end Go.Proofs.YtjmmhbmbafjneaaGreatDoor

/-
  What stays when one block is written.
-/
namespace Go.Proofs.YtjmmhbmbafjneaaGreatDoor
open Go.RowKit Base
set_option linter.unusedVariables false
set_option linter.unusedSimpArgs false
namespace StrashP
open Circuit

/-- w2 is as w, but for one block. -/
structure OffB (b : Nat) (w w2 : World) : Prop where
  os : w2.os = w.os
  tape : w2.tape = w.tape
  output : w2.output = w.output
  size : w.heap.size ≤ w2.heap.size
  block : ∀ k, k < w.heap.size → k ≠ b → w2.heap[k]? = w.heap[k]?

theorem OffB.refl (b : Nat) (w : World) : OffB b w w := ⟨rfl, rfl, rfl, Nat.le_refl _, fun _ _ _ => rfl⟩
theorem OffB.trans {b : Nat} {w1 w2 w3 : World} (h : OffB b w1 w2) (h2 : OffB b w2 w3) : OffB b w1 w3 :=
  ⟨h2.os.trans h.os, h2.tape.trans h.tape, h2.output.trans h.output, Nat.le_trans h.size h2.size, fun k hk hne => (h2.block k (Nat.lt_of_lt_of_le hk h.size) hne).trans (h.block k hk hne)⟩
theorem OffB.below {b : Nat} {w w2 w3 : World} (h : OffB b w w2) (hb : Below w2.heap.size w2 w3) : OffB b w w3 :=
  ⟨hb.os.trans h.os, hb.tape.trans h.tape, hb.output.trans h.output, Nat.le_trans h.size hb.size, fun k hk hne => (hb.block k (Nat.lt_of_lt_of_le hk h.size)).trans (h.block k hk hne)⟩
theorem OffB.set {b : Nat} {w w2 : World} (h : OffB b w w2) (j : Nat) (u : Value) : OffB b w (w2.setCell ⟨b, j, none⟩ u) :=
  ⟨h.os, h.tape, h.output, by simpa [World.setCell] using h.size, fun k hk hne => (Below.heap_setCell w2 ⟨b, j, none⟩ u k hne).trans (h.block k hk hne)⟩
theorem OffB.grown {b : Nat} {w w2 w3 : World} (h : OffB b w w2) {row : Option Nat} (hg : w2.grownBy w3 row) (hr : ∀ k, row = some k → w.heap.size ≤ k) : OffB b w w3 :=
  ⟨hg.os.trans h.os, hg.tape.trans h.tape, hg.output.trans h.output, Nat.le_trans h.size hg.size, fun k hk hne => (hg.block k (Nat.lt_of_lt_of_le hk h.size) (fun e => by have := hr k e.symm; omega)).trans (h.block k hk hne)⟩
theorem OffB.put {b : Nat} {w w2 w3 : World} (h : OffB b w w2) (hg : w2.grownBy w3 (some b)) : OffB b w w3 :=
  ⟨hg.os.trans h.os, hg.tape.trans h.tape, hg.output.trans h.output, Nat.le_trans h.size hg.size, fun k hk hne => (hg.block k (Nat.lt_of_lt_of_le hk h.size) (by simpa using hne)).trans (h.block k hk hne)⟩
theorem OffB.own {b : Nat} {w w2 : World} (h : OffB b w w2) {B : Nat} {e : TypeId} {size : Nat} {v : Value} {n : Nat} {vs : List Value} (ho : w.ownsRow B e size v n vs) (hne : v.ownBlock ≠ some b) : w2.ownsRow B e size v n vs := by
  refine ⟨ho.1, ?_⟩
  rcases ho.2 with hn | ⟨g, cap, cur, hv, hb, hh, r⟩
  · exact .inl hn
  · refine .inr ⟨g, cap, cur, hv, hb, ?_, r⟩
    rw [h.block g (Array.getElem?_eq_some_iff.1 hh).1 (by rintro rfl; exact hne (by rw [hv]; rfl))]
    exact hh
theorem OffB.base {b : Nat} {w w2 : World} (h : OffB b w w2) {B : Nat} {w0 : World} (h0 : Below B w0 w) (hB : B ≤ w.heap.size) (hb : B ≤ b) : Below B w0 w2 :=
  ⟨h.os.trans h0.os, h.tape.trans h0.tape, h.output.trans h0.output, Nat.le_trans h0.size h.size, fun k hk => (h.block k (by omega) (by omega)).trans (h0.block k hk)⟩
theorem OffB.box {b : Nat} {w w2 : World} (h : OffB b w w2) {N : Nat} {cs : List Value} (hx : BoxN N cs w) (hne : N ≠ b) : BoxN N cs w2 := by
  have hblk := h.block N hx.lt hne
  refine ⟨Nat.lt_of_lt_of_le hx.lt h.size, fun j u hu => ?_, fun j => ?_⟩
  · exact (World.cell?_of_block (w := w) (a := ⟨N, j, none⟩) hblk).trans (hx.at' j u hu)
  · exact (World.frozen?_of_block (w := w) (a := ⟨N, j, none⟩) hblk).trans (hx.fz j)
theorem own_not {w : World} {B : Nat} {e : TypeId} {size : Nat} {v : Value} {n : Nat} {vs : List Value} (h : w.ownsRow B e size v n vs) {N : Nat} (hN : w.heap.size ≤ N) : v.ownBlock ≠ some N := by
  intro e
  have := (h.lt N e).2
  omega
theorem own_not' {w : World} {B : Nat} {e : TypeId} {size : Nat} {v : Value} {n : Nat} {vs : List Value} (h : w.ownsRow B e size v n vs) {N : Nat} (hN : N < B) : v.ownBlock ≠ some N := by
  intro e
  have := (h.lt N e).1
  omega

end StrashP
end Go.Proofs.YtjmmhbmbafjneaaGreatDoor

/-
  sim's bits: what a literal is, and one written.
-/
namespace Go.Proofs.YtjmmhbmbafjneaaGreatDoor
open Go.RowKit Base
set_option linter.unusedVariables false
set_option linter.unusedSimpArgs false
namespace SimV
open Circuit BadP StrashP

/-- A bit, as an octet; some, as a slice's elements. -/
def cb (b : Bool) : Value := .int .u8 ((byteB b).toNat : Int)
def cbs (L : List Bool) : List Value := L.map cb
theorem bytes_cbs (L : List Bool) : bytesV (bs L) = cbs L := by unfold bytesV cbs; rw [bs_list, List.map_map]; rfl
theorem cbs_len (L : List Bool) : (cbs L).length = L.length := by simp [cbs]
theorem cbs_at {L : List Bool} {k : Nat} (h : k < L.length) : (cbs L)[k]? = some (cb L[k]) := by unfold cbs; rw [List.getElem?_map, List.getElem?_eq_getElem h]; rfl
theorem cbs_set (L : List Bool) (k : Nat) (b : Bool) : (cbs L).set k (cb b) = cbs (L.set k b) := by unfold cbs; rw [List.map_set]
theorem sl_box {w : World} {g n : Nat} {vs : List Value} (h : BoxN g vs w) (hn : vs.length = n) (hb : n ≤ 9223372036854775807) : Sl w (some ⟨g, 0, none⟩) n n vs :=
  ⟨hn, Nat.le_refl _, hb, (fun h => by cases h), fun k x hx => ⟨g, 0, rfl, h.lt, by rw [Nat.zero_add]; exact h.at' k x hx⟩⟩

set_option maxHeartbeats 2000000 in
theorem of_any (w : World) (a : Option Addr) (n c : Nat) (L : List Bool) (h : Sl w a n c (cbs L)) (l : Int) (h0 : -9223372036854775808 ≤ l) (h1 : l ≤ 9223372036854775807) :
    Calls Tryz.prog 101 #[.slice a n c, .int .i64 l] w fun e w' => e = .returned (cb (litV L l)) ∧ w = w' := by
  have HVA := var_any l h0 h1 w
  have HN := Lib.hid (neg_any l w)
  obtain ⟨v, hv⟩ : ∃ v : Nat, var l = (v : Int) := ⟨(var l).toNat, by have := var_nn l; omega⟩
  rw [hv] at HVA
  have HV := Lib.hid HVA
  have HLV : Hid (litV L l = (L.getD v false != neg l)) := by show _ = _; unfold litV valV; rw [hv]; rfl
  have hlen : L.length = n := by have := h.len; rwa [cbs_len] at this
  have hcap := h.cap
  have hbig := h.big
  have HNO : Hid (¬ v < n → L.getD v false = false) := fun h => by
    rw [List.getD_eq_getElem?_getD, List.getElem?_eq_none (by omega)]; rfl
  have HCE : Hid (v < n → ∃ b o, a = some ⟨b, o, none⟩ ∧ w.cell? ⟨b, o + v, none⟩ = some (cb (L.getD v false))) := fun hv => by
    have hvl : v < L.length := by omega
    obtain ⟨b, o, ha, _, hc⟩ := h.cell v _ (cbs_at hvl)
    exact ⟨b, o, ha, by rw [List.getD_eq_getElem?_getD, List.getElem?_eq_getElem hvl]; exact hc⟩
  unfold cb at *
  generalize neg l = ng at *
  generalize L.getD v false = q at *
  generalize litV L l = r at *
  clear HVA hv h h0 h1 hlen
  go_enter Tryz.func101, Tryz.ntmps101
  go_wp2_with fail
  with_reducible refine HV.out.mono ?_
  rintro e w1 ⟨rfl, rfl⟩
  by_cases hlt : v < n
  · obtain ⟨b, o, rfl, hce⟩ := HCE.out hlt
    have hd : decide ((v : Int) < (n : Int)) = true := decide_eq_true (by omega)
    have hq : (IntKind.u8.wrap (97 - ((byteB q).toNat : Int))) = ((byteB (!q)).toNat : Int) := by cases q <;> rfl
    generalize hz : ((byteB q).toNat : Int) = z at *
    go_wp2_with fail
    with_reducible refine HN.out.mono ?_
    rintro e w2 ⟨rfl, rfl⟩
    cases ng
    · go_wp2_with fail
      go_ret
      exact ⟨ret_int (by rw [HLV.out, ← hz]; cases q <;> rfl), rfl⟩
    · go_wp2_with fail
      go_ret
      exact ⟨ret_int (by rw [HLV.out]; first | exact hq.trans (by cases q <;> rfl) | (cases q <;> simp_all)), rfl⟩
  · have hb := HNO.out hlt
    have hd : decide ((v : Int) < (n : Int)) = false := decide_eq_false (by omega)
    go_wp2_with fail
    with_reducible refine HN.out.mono ?_
    rintro e w2 ⟨rfl, rfl⟩
    cases ng
    · go_wp2_with fail
      go_ret
      exact ⟨ret_int (by rw [HLV.out, hb]; rfl), rfl⟩
    · go_wp2_with fail
      go_ret
      exact ⟨ret_int (by rw [HLV.out, hb]; rfl), rfl⟩

set_option maxHeartbeats 2000000 in
theorem set_any (w : World) (g n c : Nat) (L : List Bool) (h : BoxN g (cbs L) w) (hn : L.length = n) (hc : n ≤ c) (hc2 : c ≤ 9223372036854775807) (l : Int) (h0 : -9223372036854775808 ≤ l) (h1 : l ≤ 9223372036854775807) (hl : (var l).toNat < n) (b : Bool) (B : Nat) (hB : B ≤ g) (w0 : World) (hb : Below B w0 w) :
    Calls Tryz.prog 122 #[.slice (some ⟨g, 0, none⟩) n c, .int .i64 l, .int .u8 ((byteB b).toNat : Int)] w fun e w' => e = .returned (.tuple #[]) ∧ BoxN g (cbs (setB L (var l) b)) w' ∧ OffB g w w' ∧ Below B w0 w' := by
  have HVA := var_any l h0 h1 w
  obtain ⟨v, hv⟩ : ∃ v : Nat, var l = (v : Int) := ⟨(var l).toNat, by have := var_nn l; omega⟩
  rw [hv] at HVA hl
  have hvn : v < n := by omega
  have HV := Lib.hid HVA
  have HE : Hid (BoxN g (cbs (setB L (var l) b)) (w.setCell ⟨g, v, none⟩ (cb b))) := by
    have := h.set v (cb b)
    rw [cbs_set] at this
    show BoxN _ _ _
    unfold setB
    rw [hv]
    exact this
  have HO : Hid (OffB g w (w.setCell ⟨g, v, none⟩ (cb b))) := (OffB.refl g w).set v _
  have HBB : Hid (Below B w0 (w.setCell ⟨g, v, none⟩ (cb b))) := hb.setCell (p := ⟨g, v, none⟩) hB _
  have hce := h.at' v _ (cbs_at (by omega))
  have hfz := h.fz v
  have hce2 : (w.cell? ⟨g, v, none⟩).isSome = true := by rw [hce]; rfl
  unfold cb at *
  generalize ((byteB b).toNat : Int) = z at *
  clear HVA hv h h0 h1 hl hb
  go_enter Tryz.func122, Tryz.ntmps122
  go_wp2_with fail
  with_reducible refine HV.out.mono ?_
  rintro e w1 ⟨rfl, rfl⟩
  go_wp2_with fail
  refine bodyPost_end (v := .tuple #[]) (by simp [results, Tryz.results122, go_sem]) rfl ?_
  exact ⟨rfl, HE.out, HO.out, HBB.out⟩
end SimV
end Go.Proofs.YtjmmhbmbafjneaaGreatDoor

/-
  A row of one's own, full, as a box.
-/
namespace Go.Proofs.YtjmmhbmbafjneaaGreatDoor
open Go.RowKit Base
set_option linter.unusedVariables false
set_option linter.unusedSimpArgs false
namespace BadP
open Circuit

theorem box_own {w : World} {B g n : Nat} {e : TypeId} {vs : List Value} (h : w.ownsRow B e 1 (.slice (some ⟨g, 0, none⟩) n n) n vs) : BoxN g vs w := by
  have hs := own_sl' h
  obtain ⟨_, h2⟩ := h
  rcases h2 with ⟨h3, _⟩ | ⟨g', cap, cur, hv, _, hh, _, _, hcur, ht⟩
  · cases h3
  · simp only [Value.slice.injEq, Option.some.injEq, Addr.mk.injEq] at hv
    obtain ⟨⟨rfl, _⟩, _, rfl⟩ := hv
    refine ⟨(Array.getElem?_eq_some_iff.1 hh).1, fun j u hu => ?_, fun j => by simp [World.frozen?, hh]⟩
    obtain ⟨b, o, ha, hb, hc⟩ := hs.cell j u hu
    simp only [Option.some.injEq, Addr.mk.injEq, and_true] at ha
    obtain ⟨rfl, rfl⟩ := ha
    rw [Nat.zero_add] at hc
    exact hc
end BadP
end Go.Proofs.YtjmmhbmbafjneaaGreatDoor

/-
  enum.All: all texts of so many bits.
-/
namespace Go.Proofs.YtjmmhbmbafjneaaGreatDoor
open Go.RowKit Base
set_option linter.unusedVariables false
set_option linter.unusedSimpArgs false
namespace EnumA
open Circuit BadP StrashP SimV

/-- All states' texts. -/
def txt (L : List (List Bool)) : List Value := L.map fun q => Value.string (bs q)
theorem txt_len (L : List (List Bool)) : (txt L).length = L.length := by simp [txt]
theorem txt_at {w : World} {a : Option Addr} {n c : Nat} {L : List (List Bool)} (h : Sl w a n c (txt L)) {k : Nat} (hk : k < n) :
    ∃ b o, ∃ hx : k < L.length, a = some ⟨b, o, none⟩ ∧ b < w.heap.size ∧ w.cell? ⟨b, o + k, none⟩ = some (.string (bs L[k])) := by
  obtain ⟨b, o, x, ha, hs, hx, hc⟩ := h.at hk
  unfold txt at hx
  rw [List.getElem?_map, Option.map_eq_some_iff] at hx
  obtain ⟨y, hy, rfl⟩ := hx
  obtain ⟨hk', rfl⟩ := List.getElem?_eq_some_iff.1 hy
  exact ⟨b, o, hk', ha, hs, hc⟩

theorem idx_bit : ∀ (T : List Bool) (i : Nat) (h : i < T.length), BadP.idx T / 2 ^ i % 2 = bitN (T[T.length - 1 - i]'(by omega)) := by
  intro T
  rcases List.eq_nil_or_concat T with rfl | ⟨t, b, rfl⟩
  · intro i h; simp at h
  · induction hn : t.length generalizing t b with
    | zero =>
      obtain rfl := List.eq_nil_of_length_eq_zero hn
      intro i h
      have : i = 0 := by simp at h; omega
      subst this
      cases b <;> rfl
    | succ m ih =>
      intro i h
      rw [List.concat_eq_append] at h
      simp only [List.concat_eq_append, idx_snoc, List.length_append, List.length_cons, List.length_nil]
      cases i with
      | zero =>
        rw [Nat.pow_zero, Nat.div_one]
        have e : (t ++ [b])[t.length + (0 + 1) - 1 - 0]'(by simp) = b := by
          rw [List.getElem_append_right (by omega)]
          simp
        rw [e]
        unfold bitN
        cases b <;> simp
      | succ i =>
        have e1 : (2 * BadP.idx t + bitN b) / 2 ^ (i + 1) = BadP.idx t / 2 ^ i := by
          rw [Nat.pow_succ, Nat.mul_comm (2 ^ i) 2, ← Nat.div_div_eq_div_mul]
          congr 1
          unfold bitN
          cases b <;> simp <;> omega
        rw [e1]
        rcases List.eq_nil_or_concat t with rfl | ⟨t', b', rfl⟩
        · simp at hn
        · have hl : t'.length = m := by simp at hn; omega
          have hlt : i < (t'.concat b').length := by simp at h ⊢; omega
          have := ih t' b' hl i hlt
          rw [this]
          congr 1
          rw [List.getElem_append_left (by simp at h ⊢; omega)]
          congr 1
          omega

/-- A text on its way: the places behind are written. -/
def rowA (T : List Bool) (m : Nat) : List Value := List.replicate m (.int .u8 0) ++ cbs (T.drop m)
theorem rowA_set (T : List Bool) {m : Nat} (h : m < T.length) : (rowA T (m + 1)).set m (cb T[m]) = rowA T m := by
  unfold rowA
  rw [List.replicate_succ', List.append_assoc, List.set_append, if_neg (by simp), List.length_replicate, Nat.sub_self, List.drop_eq_getElem_cons h]
  rfl
theorem rowA_at (T : List Bool) {m : Nat} (h : m < T.length) : (rowA T (m + 1))[m]? = some (.int .u8 0) := by
  unfold rowA
  rw [List.getElem?_append_left (by simp), List.getElem?_replicate, if_pos (by omega)]
theorem rowA_all (T : List Bool) : rowA T 0 = cbs T := rfl
theorem rowA_none (T : List Bool) : rowA T T.length = List.replicate T.length (.int .u8 0) := by unfold rowA; rw [List.drop_length]; simp [cbs]
theorem octet_of (T : List Bool) (k i : Nat) (hk : BadP.idx T = k) (hi : i < T.length) : (48 + bits .and .i64 ((k : Int) / 2 ^ i) 1) % 256 = ((byteB (T[T.length - 1 - i]'(by omega))).toNat : Int) := by
  have h := idx_bit T i hi
  rw [hk] at h
  have e : ((k : Int) / 2 ^ i) % 2 = ((k / 2 ^ i % 2 : Nat) : Int) := by rw [Int.natCast_emod, Int.natCast_ediv, Int.natCast_pow]; rfl
  rw [and1, e, h]
  cases T[T.length - 1 - i] <;> rfl
theorem info_by : (Tryz.prog.info? 5).map (fun i => (i.zero, i.size, i.bytes)) = some (some (.int .u8 0), 1, 1) := by kernel_rfl
theorem info_st : (Tryz.prog.info? 9).map (fun i => (i.zero, i.size, i.bytes)) = some (some (.string ⟨#[]⟩), 1, 16) := by kernel_rfl

theorem all_no (w : World) (n : Int) (h0 : -9223372036854775808 ≤ n) (h1 : n ≤ 9223372036854775807) (h : n < 0 ∨ 10 < n) :
    Calls Tryz.prog 8 #[.int .i64 n] w fun e w' => e = .returned (.slice none 0 0) ∧ w = w' := by
  go_enter Tryz.func8, Tryz.ntmps8
  by_cases hn : n < 0
  · go_wp2_with fail
    go_ret
    exact ⟨rfl, rfl⟩
  · have hn2 : 10 < n := by omega
    go_wp2_with fail
    go_ret
    exact ⟨rfl, rfl⟩

set_option maxRecDepth 8000 in
set_option maxHeartbeats 8000000 in
theorem all_any (w : World) (n : Nat) (hn : n ≤ 10) :
    Calls Tryz.prog 8 #[.int .i64 (n : Int)] w fun e w' => ∃ a c, e = .returned (.slice a (2 ^ n) c) ∧ w'.ownsRow w.heap.size 9 1 (.slice a (2 ^ n) c) (2 ^ n) (txt (allL n)) ∧ Below w.heap.size w w' := by
  obtain ⟨M, hM⟩ : ∃ m, 2 ^ n = m := ⟨_, rfl⟩
  have hM1 : M ≤ 1024 := by rw [← hM]; exact Nat.pow_le_pow_right (by decide) hn
  rw [hM]
  have h1 : ¬ (n : Int) < 0 := by omega
  have h2 : ¬ (10 : Int) < (n : Int) := by omega
  have hsh : wrap64 (2 ^ n) = (M : Int) := by
    have e : (2 ^ n : Int) = ((2 ^ n : Nat) : Int) := by rw [Int.natCast_pow]; rfl
    rw [e, hM]
    unfold wrap64
    omega
  have HN := Lib.hid hn
  have HAL : Hid ((allL n).length = M) := by show _ = _; rw [allL_len, hM]
  clear hn
  go_enter Tryz.func8, Tryz.ntmps8
  go_wp2_with fail
  go_loopw [3, 15] (fun u i wr => ∃ (k : Nat) (a : Option Addr) (c : Nat), k ≤ M ∧ i = .int .i64 k ∧ u = .slice a k c ∧ Hid (wr.ownsRow w.heap.size 9 1 (.slice a k c) k (txt ((allL n).take k))) ∧ Hid (Below w.heap.size w wr)) (fun _ i _ => M - (Go.RowKit.intOf i).toNat)
  case atStart => exact ⟨0, none, 0, Nat.zero_le _, rfl, rfl, World.ownsRow_nil _ _ _ _, Below.refl _ _⟩
  case round =>
    obtain ⟨k, a, c, hk, rfl, rfl, hO, hB⟩ := hrel
    generalize wr = ws at *
    by_cases hlt : k < M
    · have hkl : k < (allL n).length := by rw [HAL.out]; exact hlt
      have HTE : Hid (txt ((allL n).take (k + 1)) = txt ((allL n).take k) ++ [.string (bs (allL n)[k])]) := by
        show _ = _
        unfold txt
        rw [List.take_succ_eq_append_getElem hkl, List.map_append]; rfl
      have hat : (allL n)[k]? = some (allL n)[k] := List.getElem?_eq_getElem hkl
      have HTL : Hid ((allL n)[k].length = n) := at_len _ _ _ hat
      have HTI : Hid (BadP.idx (allL n)[k] = k) := idx_at hat
      generalize (allL n)[k] = T at *
      have hn10 := HN.out
      go_upto_region 8 with (at_make; (with_reducible refine wpL_make n (L := (n : Int)) (C := (n : Int)) info_by Tryz.underlying59 ?_ ?_ ?_ ?_ ?_ ?_ ?_ ?_); rfl; rfl; rfl; rfl; rfl; omega; omega; (intro g w4 hown4 hb4 hge hlt4))
      have HX4 : Hid (BoxN g (List.replicate n (.int .u8 0)) w4) := box_own hown4
      have HB4 := Lib.hid (hB.out.trans (hb4.mono hB.out.size))
      have HO4 := Lib.hid (own_next hO.out hb4)
      have HGE : Hid (ws.heap.size ≤ g) := hge
      have HLT : Hid (g < w4.heap.size) := hlt4
      have HSZ : Hid (w.heap.size ≤ ws.heap.size) := hB.out.size
      have HNE : Hid ((Value.slice a k c).ownBlock ≠ some g) := own_not hO.out hge
      clear hown4 hb4 hge hlt4 hat hO hB
      go_wp2_with fail
      go_loopw [22] (fun i wr => ∃ m : Nat, m ≤ n ∧ i = .int .i64 m ∧ Hid (BoxN g (rowA T (n - m)) wr) ∧ Hid (OffB g w4 wr)) (fun i _ => n - (Go.RowKit.intOf i).toNat)
      case atStart => exact ⟨0, Nat.zero_le _, rfl, by rw [Nat.sub_zero]; have h := HX4.out; have e := rowA_none T; rw [HTL.out] at e; rw [e]; exact h, OffB.refl _ _⟩
      case round =>
        obtain ⟨m, hm, rfl, hX, hF⟩ := hrel
        generalize wr = wt at *
        by_cases hlm : m < n
        · obtain ⟨r, hr⟩ : ∃ r, n = r + 1 + m := ⟨n - 1 - m, by omega⟩
          have e1 : n - m = r + 1 := by omega
          have e2 : n - (m + 1) = r := by omega
          have hrT : r < T.length := by rw [HTL.out]; omega
          have hrT2 : m < T.length := by rw [HTL.out]; omega
          have hoc := octet_of T k m HTI.out hrT2
          have hix : T.length - 1 - m = r := by rw [HTL.out]; omega
          have hoc2 : (48 + bits .and .i64 ((k : Int) / 2 ^ m) 1) % 256 = ((byteB T[r]).toNat : Int) := by rw [hoc]; simp only [hix]
          rw [e1] at hX
          have hce := hX.out.at' r _ (rowA_at T hrT)
          have hfz := hX.out.fz r
          have HX2 : Hid (BoxN g (rowA T r) (wt.setCell ⟨g, r, none⟩ (cb T[r]))) := by
            have := hX.out.set r (cb T[r])
            rw [rowA_set T hrT] at this
            exact this
          have HF2 := Lib.hid (hF.out.set r (cb T[r]))
          unfold cb at HX2 HF2
          generalize ((byteB T[r]).toNat : Int) = z at *
          have h3 : ((n : Int) - 1 - (m : Int)) = (r : Int) := by omega
          have HE2 := Lib.hid e2
          clear hoc hix e1 e2 hX hF hrT hrT2
          go_wp2_with fail
          go_roundw
          case rel => exact ⟨m + 1, by omega, by go_num, by rw [HE2.out]; exact HX2, HF2⟩
          case measure => simp [Go.RowKit.intOf]; omega
        · have hend : m = n := by omega
          subst hend
          rw [Nat.sub_self, rowA_all] at hX
          have HB9 := Lib.hid (hF.out.base HB4.out (Nat.le_trans HB4.out.size (Nat.le_refl _)) (Nat.le_trans HSZ.out HGE.out))
          have hcv : (convert 59 9 (.slice (some ⟨g, 0, none⟩) m m)).run Tryz.prog wt = .ok (.string (bs T)) wt := by
            have h := run_convert_bytes_back (P := Tryz.prog) wt 59 9 5 ⟨g, 0, none⟩ m (T.map byteB) Tryz.underlying59 Tryz.underlying5 Tryz.underlying9 (fun j hj => by
              rw [Addr.add_lit, Nat.zero_add]
              have hj2 : j < T.length := by simpa using hj
              rw [hX.out.at' j _ (cbs_at hj2)]
              unfold cb
              simp)
            rw [List.length_map, HTL.out] at h
            exact h
          have hown := hF.out.own HO4.out HNE.out
          have hbb := HB9.out
          have hsz := HB9.out.size
          clear hX hF HX4 HB4 HO4 HGE HLT HSZ HNE HB9
          generalize bs T = sT at *
          go_wp2_with ((with_reducible refine wpL_push (B := w.heap.size) _ (.string sT) _ k (txt ((allL m).take k)) info_st Tryz.underlying30 ?_ ?_ ?_ ?_ ?_ hown ?_ ?_ ?_ hbb ?_); rfl; rfl; rfl; rfl; rfl; (exact hsz); omega; omega; (intro a5 c5 w5 hown5 hb5 hs5))
          have HO5 : Hid (w5.ownsRow w.heap.size 9 1 (.slice a5 (k + 1) c5) (k + 1) (txt ((allL m).take (k + 1)))) := by show World.ownsRow _ _ _ _ _ _ _; rw [HTE.out]; exact hown5
          have HB5 := Lib.hid hb5
          clear hown hbb hsz hown5 hb5 hs5 hcv
          go_roundw
          case rel => exact ⟨k + 1, a5, c5, by omega, by go_num, rfl, HO5.out, HB5.out⟩
          case measure => simp [Go.RowKit.intOf]; omega
    · have hend : k = M := by omega
      subst hend
      have hO2 : ws.ownsRow w.heap.size 9 1 (.slice a k c) k (txt (allL n)) := by
        have h := hO.out
        rwa [List.take_of_length_le (Nat.le_of_eq HAL.out)] at h
      have HO2 := Lib.hid hO2
      clear hO hO2
      go_wp2_with fail
      go_ret
      exact ⟨a, c, rfl, HO2.out, hB.out⟩
end EnumA
end Go.Proofs.YtjmmhbmbafjneaaGreatDoor

/-
  Plain: a search through all states, in breadth: what is reached is just what can be, each in as few steps as may be.
-/
namespace Go.Proofs.YtjmmhbmbafjneaaGreatDoor
open Go.RowKit Base
set_option linter.unusedVariables false
set_option linter.unusedSimpArgs false
namespace EnumP
open Circuit BadP GetI

/-- What was reached, in order, and in how many steps. -/
abbrev Ord := List (List Bool × Nat)
def has (O : Ord) (s : List Bool) : Bool := O.any fun e => e.1 == s
def reach (O : Ord) (s : List Bool) (n : Nat) : Ord := if has O s = true then O else O ++ [(s, n)]
/-- As a map tells it: the latest ahead. -/
def tbl (O : Ord) : List (List Bool × Int) := (O.map fun e => (e.1, (e.2 : Int))).reverse

theorem has_iff {O : Ord} {s : List Bool} : has O s = true ↔ ∃ n, (s, n) ∈ O := by
  unfold has
  rw [List.any_eq_true]
  constructor
  · rintro ⟨⟨t, n⟩, he, h⟩
    rw [beq_iff_eq] at h
    exact ⟨n, by rw [← h]; exact he⟩
  · rintro ⟨n, h⟩
    exact ⟨_, h, by simp⟩
theorem reach_old {O : Ord} {s : List Bool} (h : has O s = true) (n : Nat) : reach O s n = O := by unfold reach; rw [if_pos h]
theorem reach_new {O : Ord} {s : List Bool} (h : has O s = false) (n : Nat) : reach O s n = O ++ [(s, n)] := by unfold reach; rw [if_neg (by rw [h]; decide)]
theorem tbl_snoc (O : Ord) (s : List Bool) (n : Nat) : tbl (O ++ [(s, n)]) = (s, (n : Int)) :: tbl O := by unfold tbl; rw [List.map_append, List.reverse_append]; rfl
theorem nodup_one {O : Ord} (h : (O.map (·.1)).Nodup) {s : List Bool} {n m : Nat} (h1 : (s, n) ∈ O) (h2 : (s, m) ∈ O) : n = m := by
  induction O with
  | nil => cases h1
  | cons e r ih =>
    rw [List.map_cons, List.nodup_cons] at h
    rcases List.mem_cons.1 h1 with g1 | g1 <;> rcases List.mem_cons.1 h2 with g2 | g2
    · rw [← g1] at g2; exact (congrArg Prod.snd g2).symm
    · exact absurd (List.mem_map.2 ⟨_, g2, by rw [← g1]⟩) h.1
    · exact absurd (List.mem_map.2 ⟨_, g1, by rw [← g2]⟩) h.1
    · exact ih h.2 g1 g2
theorem tbl_get {O : Ord} (h : (O.map (·.1)).Nodup) (s : List Bool) : (∀ n, (s, n) ∈ O → getI (tbl O) s = some (n : Int)) ∧ (has O s = false → getI (tbl O) s = none) := by
  have key : ∀ (D : List (List Bool × Int)), (∀ v, getI D s = some v → (s, v) ∈ D) ∧ (getI D s = none → ∀ v, (s, v) ∉ D) := fun D => by
    induction D with
    | nil => exact ⟨fun v h => (by simp [getI] at h), fun _ v h => (by cases h)⟩
    | cons e r ih =>
      obtain ⟨t, u⟩ := e
      by_cases ht : t = s
      · subst ht
        rw [getI_same]
        exact ⟨fun v h => by injection h with h; rw [h]; exact List.mem_cons_self, fun h => by cases h⟩
      · rw [getI_other r u ht]
        refine ⟨fun v h => List.mem_cons_of_mem _ (ih.1 v h), fun h v hm => ?_⟩
        rcases List.mem_cons.1 hm with g | g
        · exact ht (congrArg Prod.fst g).symm
        · exact ih.2 h v g
  have mem : ∀ v, (s, v) ∈ tbl O ↔ ∃ n : Nat, v = n ∧ (s, n) ∈ O := fun v => by
    unfold tbl
    rw [List.mem_reverse, List.mem_map]
    constructor
    · rintro ⟨⟨t, n⟩, h1, h2⟩
      simp only [Prod.mk.injEq] at h2
      exact ⟨n, h2.2.symm, by rw [← h2.1]; exact h1⟩
    · rintro ⟨n, rfl, h1⟩
      exact ⟨_, h1, rfl⟩
  refine ⟨fun n hn => ?_, fun hq => ?_⟩
  · cases hg : getI (tbl O) s with
    | none => exact absurd ((mem n).2 ⟨n, rfl, hn⟩) ((key _).2 hg n)
    | some v =>
      obtain ⟨m, rfl, hm⟩ := (mem v).1 ((key _).1 v hg)
      rw [nodup_one h hn hm]
  · cases hg : getI (tbl O) s with
    | none => rfl
    | some v =>
      obtain ⟨m, rfl, hm⟩ := (mem v).1 ((key _).1 v hg)
      rw [has_iff.2 ⟨m, hm⟩] at hq
      cases hq
theorem tbl_some {O : Ord} (h : (O.map (·.1)).Nodup) (s : List Bool) : (getI (tbl O) s).isSome = has O s := by
  cases hq : has O s with
  | false => rw [(tbl_get h s).2 hq]; rfl
  | true =>
    obtain ⟨n, hn⟩ := has_iff.1 hq
    rw [(tbl_get h s).1 n hn]; rfl

section
variable {x : Circ} {A : List (List Int)}

/-- What is known when i states were gone on from, and the next one with so many inputs. -/
structure Bfs (x : Circ) (A : List (List Int)) (i k : Nat) (O : Ord) : Prop where
  nodup : (O.map (·.1)).Nodup
  sound : ∀ e ∈ O, R x A e.2 e.1
  mono : O.Pairwise (fun a b => a.2 ≤ b.2)
  near : ∀ (h : i < O.length), ∀ e ∈ O, e.2 ≤ O[i].2 + 1
  init : ∀ s, initL x s → (s, 0) ∈ O
  done : ∀ (j : Nat) (hj : j < O.length) (k' : Nat) (inp : List Bool), (j < i ∨ j = i ∧ k' < k) → (allL x.ins.length)[k']? = some inp → allow x A (vals x O[j].1 inp) = true → ∃ n, (next x O[j].1 inp, n) ∈ O ∧ n ≤ O[j].2 + 1

/-- The first states, up to some. -/
structure Fst (x : Circ) (k : Nat) (O : Ord) : Prop where
  nodup : (O.map (·.1)).Nodup
  zero : ∀ e ∈ O, e.2 = 0 ∧ initL x e.1
  from' : ∀ e ∈ O, ∃ j, j < k ∧ (allL x.lats.length)[j]? = some e.1
  all : ∀ j s, j < k → (allL x.lats.length)[j]? = some s → initL x s → (s, 0) ∈ O
theorem fst_start : Fst x 0 [] := ⟨by simp, fun e h => (by cases h), fun e h => (by cases h), fun j s h => absurd h (Nat.not_lt_zero _)⟩
theorem fst_skip {k : Nat} {O : Ord} (h : Fst x k O) {s : List Bool} (hs : (allL x.lats.length)[k]? = some s) (hi : ¬ initL x s) : Fst x (k + 1) O :=
  ⟨h.nodup, h.zero, fun e he => by obtain ⟨j, hj, hq⟩ := h.from' e he; exact ⟨j, by omega, hq⟩, fun j t hj ht hti => by
    by_cases e : j = k
    · subst e; rw [hs] at ht; cases ht; exact absurd hti hi
    · exact h.all j t (by omega) ht hti⟩
theorem fst_new {k : Nat} {O : Ord} (h : Fst x k O) {s : List Bool} (hs : (allL x.lats.length)[k]? = some s) : has O s = false := by
  cases hq : has O s with
  | false => rfl
  | true =>
    obtain ⟨n, hn⟩ := has_iff.1 hq
    obtain ⟨j, hj, hq⟩ := h.from' _ hn
    have h1 := idx_at hs
    have h2 := idx_at hq
    simp only at h2
    omega
theorem fst_more {k : Nat} {O : Ord} (h : Fst x k O) {s : List Bool} (hs : (allL x.lats.length)[k]? = some s) (hi : initL x s) : Fst x (k + 1) (reach O s 0) := by
  have hn := fst_new h hs
  rw [reach_new hn]
  refine ⟨?_, fun e he => ?_, fun e he => ?_, fun j t hj ht hti => ?_⟩
  · rw [List.map_append, List.nodup_append]
    refine ⟨h.nodup, by simp, fun a ha b hb => ?_⟩
    simp only [List.map_cons, List.map_nil, List.mem_singleton] at hb
    subst hb
    rintro rfl
    obtain ⟨⟨t, n⟩, h1, rfl⟩ := List.mem_map.1 ha
    rw [has_iff.2 ⟨n, h1⟩] at hn
    cases hn
  · rcases List.mem_append.1 he with he | he
    · exact h.zero e he
    · rw [List.mem_singleton] at he; subst he; exact ⟨rfl, hi⟩
  · rcases List.mem_append.1 he with he | he
    · obtain ⟨j, hj, hq⟩ := h.from' e he; exact ⟨j, by omega, hq⟩
    · rw [List.mem_singleton] at he; subst he; exact ⟨k, by omega, hs⟩
  · by_cases e : j = k
    · subst e; rw [hs] at ht; cases ht; exact List.mem_append_right _ List.mem_cons_self
    · exact List.mem_append_left _ (h.all j t (by omega) ht hti)
theorem fst_end {k : Nat} {O : Ord} (h : Fst x k O) (hk : 2 ^ x.lats.length ≤ k) : Bfs x A 0 0 O := by
  refine ⟨h.nodup, fun e he => ?_, ?_, fun h0 e he => ?_, fun s hs => ?_, fun j hj k' inp hd => by omega⟩
  · have := h.zero e he
    rw [this.1]
    exact this.2
  · rw [List.pairwise_iff_getElem]
    intro i j hi hj hij
    rw [(h.zero _ (List.getElem_mem hi)).1]
    exact Nat.zero_le _
  · rw [(h.zero e he).1]; exact Nat.zero_le _
  · exact h.all (BadP.idx s) s (by have := idx_lt hs.1; omega) (at_idx _ _ hs.1) hs

theorem bfs_skip {i k : Nat} {O : Ord} (h : Bfs x A i k O) (hi : i < O.length) {inp : List Bool} (hk : (allL x.ins.length)[k]? = some inp) (ha : allow x A (vals x O[i].1 inp) = false) : Bfs x A i (k + 1) O :=
  ⟨h.nodup, h.sound, h.mono, h.near, h.init, fun j hj k' inp' hd hq ha' => by
    by_cases e : j = i ∧ k' = k
    · obtain ⟨rfl, rfl⟩ := e
      rw [hk] at hq; cases hq
      rw [ha] at ha'; cases ha'
    · exact h.done j hj k' inp' (by omega) hq ha'⟩
theorem bfs_more {i k : Nat} {O : Ord} (h : Bfs x A i k O) (hi : i < O.length) {inp : List Bool} (hk : (allL x.ins.length)[k]? = some inp) (ha : allow x A (vals x O[i].1 inp) = true) : Bfs x A i (k + 1) (reach O (next x O[i].1 inp) (O[i].2 + 1)) := by
  cases hq : has O (next x O[i].1 inp) with
  | true =>
    rw [reach_old hq]
    obtain ⟨n, hn⟩ := has_iff.1 hq
    exact ⟨h.nodup, h.sound, h.mono, h.near, h.init, fun j hj k' inp' hd hq' ha' => by
      by_cases e : j = i ∧ k' = k
      · obtain ⟨rfl, rfl⟩ := e
        rw [hk] at hq'; cases hq'
        exact ⟨n, hn, h.near hj _ hn⟩
      · exact h.done j hj k' inp' (by omega) hq' ha'⟩
  | false =>
    rw [reach_new hq]
    have hle : ∀ e ∈ O, e.2 ≤ O[i].2 + 1 := h.near hi
    have hO : (O ++ [(next x O[i].1 inp, O[i].2 + 1)])[i]'(by rw [List.length_append]; omega) = O[i] := List.getElem_append_left hi
    refine ⟨?_, fun e he => ?_, ?_, fun _ e he => ?_, fun s hs => List.mem_append_left _ (h.init s hs), fun j hj k' inp' hd hq' ha' => ?_⟩
    · rw [List.map_append, List.nodup_append]
      refine ⟨h.nodup, by simp, fun a ha b hb => ?_⟩
      simp only [List.map_cons, List.map_nil, List.mem_singleton] at hb
      subst hb
      rintro rfl
      obtain ⟨⟨t, n⟩, h1, h2⟩ := List.mem_map.1 ha
      simp only at h2
      rw [has_iff.2 ⟨n, by rw [← h2]; exact h1⟩] at hq
      cases hq
    · rcases List.mem_append.1 he with he | he
      · exact h.sound e he
      · rw [List.mem_singleton] at he; subst he
        exact ⟨O[i].1, inp, h.sound _ (List.getElem_mem hi), at_len _ _ _ hk, ha, rfl⟩
    · rw [List.pairwise_append]
      refine ⟨h.mono, by simp, fun a ha b hb => ?_⟩
      rw [List.mem_singleton] at hb; subst hb
      exact hle a ha
    · rw [hO]
      rcases List.mem_append.1 he with he | he
      · exact hle e he
      · rw [List.mem_singleton] at he; subst he; exact Nat.le_refl _
    · have hjO : j < O.length := by omega
      have hOj : (O ++ [(next x O[i].1 inp, O[i].2 + 1)])[j] = O[j] := List.getElem_append_left hjO
      rw [hOj] at ha' ⊢
      by_cases e : j = i ∧ k' = k
      · obtain ⟨rfl, rfl⟩ := e
        rw [hk] at hq'; cases hq'
        exact ⟨_, List.mem_append_right _ List.mem_cons_self, Nat.le_refl _⟩
      · obtain ⟨n, h1, h2⟩ := h.done j hjO k' inp' (by omega) hq' ha'
        exact ⟨n, List.mem_append_left _ h1, h2⟩
theorem reach_len {O : Ord} (s : List Bool) (n : Nat) : O.length ≤ (reach O s n).length := by
  unfold reach; split
  · exact Nat.le_refl _
  · rw [List.length_append]; omega
theorem reach_at {O : Ord} (s : List Bool) (n : Nat) {i : Nat} (hi : i < O.length) : (reach O s n)[i]'(Nat.lt_of_lt_of_le hi (reach_len s n)) = O[i] := by
  unfold reach; split
  · rfl
  · exact List.getElem_append_left hi
theorem bfs_row {i k : Nat} {O : Ord} (h : Bfs x A i k O) (hi : i < O.length) (hk : 2 ^ x.ins.length ≤ k) : Bfs x A (i + 1) 0 O :=
  ⟨h.nodup, h.sound, h.mono, fun h1 e he => by
    have h2 := h.near hi e he
    have h3 := (List.pairwise_iff_getElem.1 h.mono) i (i + 1) hi h1 (by omega)
    omega, h.init, fun j hj k' inp' hd hq' ha' => by
    have h1 := (List.getElem?_eq_some_iff.1 hq').1
    rw [allL_len] at h1
    exact h.done j hj k' inp' (by omega) hq' ha'⟩

/-- All that can be reached, and nothing else, each in as few steps as may be. -/
structure Known (x : Circ) (A : List (List Int)) (O : Ord) : Prop where
  nodup : (O.map (·.1)).Nodup
  sound : ∀ e ∈ O, R x A e.2 e.1
  all : ∀ (m : Nat) (s : List Bool), R x A m s → ∃ n, (s, n) ∈ O ∧ n ≤ m
theorem bfs_end {i : Nat} {O : Ord} (h : Bfs x A i 0 O) (hi : O.length ≤ i) : Known x A O := by
  refine ⟨h.nodup, h.sound, fun m => ?_⟩
  induction m with
  | zero => intro s hr; exact ⟨0, h.init s hr, Nat.le_refl _⟩
  | succ m ih =>
    rintro s ⟨s0, inp, hr, hl, ha, rfl⟩
    obtain ⟨n, hn, hm⟩ := ih s0 hr
    obtain ⟨j, hj, he⟩ := List.mem_iff_getElem.1 hn
    obtain ⟨n2, h1, h2⟩ := h.done j hj (BadP.idx inp) inp (Or.inl (by omega)) (at_idx _ _ hl) (by rw [he]; exact ha)
    rw [he] at h1 h2
    exact ⟨n2, h1, by simp only at h2; omega⟩
theorem nodup_le {α : Type} [DecidableEq α] : ∀ {a b : List α}, a.Nodup → (∀ x ∈ a, x ∈ b) → a.length ≤ b.length := by
  intro a
  induction a with
  | nil => intro b _ _; simp
  | cons x r ih =>
    intro b hn hs
    rw [List.nodup_cons] at hn
    have hx := hs x List.mem_cons_self
    have h := ih (b := b.erase x) hn.2 (fun y hy => (List.mem_erase_of_ne (by rintro rfl; exact hn.1 hy)).2 (hs y (List.mem_cons_of_mem _ hy)))
    rw [List.length_erase_of_mem hx] at h
    have := List.length_pos_of_mem hx
    simp only [List.length_cons]
    omega

def lits16 : List Int := [1, 2, 3, 4, 5, 6, 7, 8, -1, -2, -3, -4, -5, -6, -7, -8]
theorem known_len {O : Ord} (h : (O.map (·.1)).Nodup) (hs : ∀ e ∈ O, R x A e.2 e.1) : O.length ≤ 2 ^ x.lats.length := by
  have hnd : ((O.map (·.1)).map BadP.idx).Nodup := by
    rw [List.nodup_iff_pairwise_ne, List.pairwise_map]
    refine (List.nodup_iff_pairwise_ne.1 h).imp_of_mem fun {a b} ha hb hne e => hne ?_
    obtain ⟨ea, h1, rfl⟩ := List.mem_map.1 ha
    obtain ⟨eb, h2, rfl⟩ := List.mem_map.1 hb
    have g1 := at_idx _ _ (R_len (hs ea h1))
    have g2 := at_idx _ _ (R_len (hs eb h2))
    rw [e, g2] at g1
    exact (Option.some.inj g1).symm
  have hsub : ∀ n ∈ (O.map (·.1)).map BadP.idx, n ∈ List.range (2 ^ x.lats.length) := fun n hn => by
    obtain ⟨s, h1, rfl⟩ := List.mem_map.1 hn
    obtain ⟨e, h2, rfl⟩ := List.mem_map.1 h1
    rw [List.mem_range]
    exact idx_lt (R_len (hs e h2))
  have := nodup_le hnd hsub
  rwa [List.length_map, List.length_map, List.length_range] at this
end
end EnumP
end Go.Proofs.YtjmmhbmbafjneaaGreatDoor

/-
  A map of the call's own from keys of one kind to integers: what it says of a key (the latest).
-/
namespace Go.Proofs.YtjmmhbmbafjneaaGreatDoor
open Go.RowKit Base Go.Maps GetI
set_option linter.unusedVariables false
set_option linter.unusedSimpArgs false
namespace MapG

def I64 (x : Int) : Prop := -9223372036854775808 ≤ x ∧ x ≤ 9223372036854775807
theorem wf_lit {x : Int} (h : I64 x) : (Lit.int .i64 x).wf = true := by
  unfold I64 at h
  simp [Lit.wf, IntKind.min, IntKind.max, IntKind.signed, IntKind.bits]
  omega

/-- Keys of one kind: their values, their readings. -/
structure Kind (P : Program) (K : TypeId) {κ : Type} (kv : κ → Value) (kl : κ → Lit) (ok : κ → Prop) : Prop where
  law : Keyed P K
  of : ∀ x, ok x → keyOf P K (kv x) = some (kl x)
  inj : ∀ x y, ok x → ok y → kv x = kv y → x = y

theorem Kind.key {P : Program} {K : TypeId} {κ : Type} {kv : κ → Value} {kl : κ → Lit} {ok : κ → Prop} (h : Kind P K kv kl ok) {x : κ} (hx : ok x) : WideAt.IsKeyLit (kl x) := h.law.key (h.of x hx)
theorem Kind.ne {P : Program} {K : TypeId} {κ : Type} {kv : κ → Value} {kl : κ → Lit} {ok : κ → Prop} (h : Kind P K kv kl ok) {x y : κ} (hx : ok x) (hy : ok y) (hne : x ≠ y) : kl x ≠ kl y := by
  intro e
  have h1 := h.of x hx
  have h2 := h.of y hy
  rw [← e] at h2
  exact hne (h.inj x y hx hy (h.law.inj h1 h2))

/-- A map of the call's own that says so. -/
def MapI (P : Program) (K E : TypeId) {κ : Type} [DecidableEq κ] (kl : κ → Lit) (ok : κ → Prop) (w : World) (b n : Nat) (D : List (κ × Int)) : Prop :=
  ∃ M : DataW Unit, w.ownsMap P K (plainElem P E) b n M ∧ IsMap M ∧ ∀ x, ok x → Maps.has M (kl x) = (getI D x).isSome ∧ M.atKey (kl x) (.lit (.int .i64 0)) = .lit (.int .i64 ((getI D x).getD 0))

section
variable {P : Program} {K E T : TypeId} {κ : Type} [DecidableEq κ] {kv : κ → Value} {kl : κ → Lit} {ok : κ → Prop} {w w' : World} {b n : Nat} {D : List (κ × Int)}

theorem MapI.next (h : MapI P K E kl ok w b n D) (hb : Below w.heap.size w w') : MapI P K E kl ok w' b n D := by
  obtain ⟨M, ⟨es, cl, hh, r⟩, hm, hat⟩ := h
  exact ⟨M, ⟨es, cl, (hb.block b (Array.getElem?_eq_some_iff.1 hh).1).trans hh, r⟩, hm, hat⟩
theorem MapI.lt (h : MapI P K E kl ok w b n D) : b < w.heap.size := by
  obtain ⟨M, ho, _⟩ := h
  exact ho.lt
theorem MapI.kept {row : Option Nat} (h : MapI P K E kl ok w b n D) (hg : w.grownBy w' row) (hne : some b ≠ row) : MapI P K E kl ok w' b n D := by
  obtain ⟨M, ho, hm, hat⟩ := h
  exact ⟨M, ho.kept hg hne, hm, hat⟩
/-- What lies in the block is a map. -/
theorem MapI.is (h : MapI P K E kl ok w b n D) : ∃ es cl, w.heap[b]? = some (.map es cl) := by
  obtain ⟨M, ⟨es, cl, hh, r⟩, _⟩ := h
  exact ⟨es, cl, hh⟩
theorem MapI.same (h : MapI P K E kl ok w b n D) (hb : w'.heap[b]? = w.heap[b]?) : MapI P K E kl ok w' b n D := by
  obtain ⟨M, ⟨es, cl, hh, r⟩, hm, hat⟩ := h
  exact ⟨M, ⟨es, cl, hb.trans hh, r⟩, hm, hat⟩
theorem made (P : Program) (K E : TypeId) {κ : Type} [DecidableEq κ] (kl : κ → Lit) (ok : κ → Prop) (w : World) : MapI P K E kl ok (w.alloc (.map #[] 0)) w.heap.size 0 ([] : List (κ × Int)) :=
  ⟨.map [], World.ownsMap_made _ _ _ _, ⟨_, rfl⟩, fun x _ => ⟨rfl, rfl⟩⟩

theorem MapI.look (h : MapI P K E kl ok w b n D) (Y : Kind P K kv kl ok) (ht : P.underlying T = some (.map K E)) (he : P.underlying E = some (.int .i64)) (hz : (zeroValue E).run P w = .ok (.int .i64 0) w) {x : κ} (hx : ok x) :
    (Instr.lookup T (.map (some b)) (kv x) true).run P w = .ok (.tuple #[.int .i64 ((getI D x).getD 0), .bool (getI D x).isSome]) w := by
  obtain ⟨M, ho, hm, hat⟩ := h
  obtain ⟨h1, h2⟩ := hat x hx
  obtain ⟨v, ps, hrun, hv⟩ := ho.look_ok Y.law ht hz (plainElem_int he (by decide)) (Y.of x hx)
  obtain ⟨c, rfl, hc, _⟩ := plainElem_int_inv he hv
  simp only [Prod.mk.injEq] at hc
  have h3 := hc.1.symm.trans h2
  simp only [DataW.lit.injEq, Lit.int.injEq, true_and] at h3
  rw [hrun, h1, h3]
theorem MapI.look1 (h : MapI P K E kl ok w b n D) (Y : Kind P K kv kl ok) (ht : P.underlying T = some (.map K E)) (he : P.underlying E = some (.int .i64)) (hz : (zeroValue E).run P w = .ok (.int .i64 0) w) {x : κ} (hx : ok x) :
    (Instr.lookup T (.map (some b)) (kv x) false).run P w = .ok (.int .i64 ((getI D x).getD 0)) w := by
  obtain ⟨M, ho, hm, hat⟩ := h
  obtain ⟨h1, h2⟩ := hat x hx
  obtain ⟨v, ps, hrun, hv⟩ := ho.lookup Y.law ht hz (plainElem_int he (by decide)) (Y.of x hx)
  obtain ⟨c, rfl, hc, _⟩ := plainElem_int_inv he hv
  simp only [Prod.mk.injEq] at hc
  have h3 := hc.1.symm.trans h2
  simp only [DataW.lit.injEq, Lit.int.injEq, true_and] at h3
  rw [hrun, h3]
theorem MapI.store (h : MapI P K E kl ok w b n D) (Y : Kind P K kv kl ok) (ht : P.underlying T = some (.map K E)) (he : P.underlying E = some (.int .i64)) (hn : n < 9223372036854775807) {x : κ} (hx : ok x) {v : Int} (hv : I64 v) :
    ∃ w', (Instr.mapUpdate T (.map (some b)) (kv x) (.int .i64 v)).run P w = .ok () w' ∧ MapI P K E kl ok w' b (n + 1) ((x, v) :: D) ∧ w.grownBy w' (some b) := by
  obtain ⟨M, ho, hm, hat⟩ := h
  obtain ⟨w', hrun, ho', hg⟩ := ho.update Y.law ht (by unfold maxLen; omega) (Y.of x hx) (plainElem_int he (wf_lit hv))
  refine ⟨w', hrun, ⟨_, ho', hm.put _ _, fun y hy => ?_⟩, hg⟩
  by_cases hxy : x = y
  · subst hxy
    rw [getI_same, atKey_put_same hm (Y.key hx), has_put_same hm (Y.key hx)]
    exact ⟨rfl, rfl⟩
  · have hne := Y.ne hy hx (fun e => hxy e.symm)
    rw [getI_other D v hxy, atKey_put_other hne, has_put_other hne]
    exact hat y hy
end

/-! ### Integers as keys. -/
theorem int_kind {P : Program} {K : TypeId} (hK : P.underlying K = some (.int .i64)) : Kind P K (fun x : Int => .int .i64 x) (fun x => .int .i64 x) I64 :=
  ⟨int_keyed hK, fun x hx => keyOf_int_mk hK (wf_lit hx), fun x y _ _ h => by simpa using h⟩
end MapG
end Go.Proofs.YtjmmhbmbafjneaaGreatDoor

/-
  Plain: the values of a circuit, gate by gate, where each gate is written whatever it is.
-/
namespace Go.Proofs.YtjmmhbmbafjneaaGreatDoor
open Go.RowKit Base
set_option linter.unusedVariables false
set_option linter.unusedSimpArgs false
namespace BadP
open Circuit Coi StrashP

def stepS (L : List Bool) (t : Tri) : List Bool := setB L (var t.1) (litV L t.2.1 && litV L t.2.2)
theorem setB_id {L : List Bool} {u : Int} (h0 : 0 ≤ u) (hu : u.toNat < L.length) (h : valV L u = false) : setB L u false = L := by
  unfold setB
  refine List.ext_getElem (by simp) fun j h1 h2 => ?_
  rw [List.getElem_set]
  split
  · rename_i e
    subst e
    unfold valV at h
    rw [List.getD_eq_getElem?_getD, List.getElem?_eq_getElem h2] at h
    exact h.symm
  · rfl
theorem valV_put : ∀ (ps : List (Int × Bool)) (L : List Bool) (v : Int), 0 ≤ v → (∀ p ∈ ps, var p.1 ≠ v ∧ (var p.1).toNat < L.length) → valV (putAll ps L) v = valV L v
  | [], L, v, h0, h => rfl
  | p :: r, L, v, h0, h => by
    have h1 := h p List.mem_cons_self
    show valV (putAll r (setB L (var p.1) p.2)) v = _
    rw [valV_put r _ v h0 (fun q hq => by rw [setB_len]; exact h q (List.mem_cons_of_mem _ hq)), valV_set L _ (var_nn _) h1.2 h0, if_neg (fun e => h1.1 e.symm)]
theorem fold_eq : ∀ (T : List Tri) (L : List Bool), (∀ t ∈ T, (var t.1).toNat < L.length) → (T.map fun t => var t.1).Nodup → (∀ t ∈ T, valV L (var t.1) = false) → T.foldl stepS L = T.foldl stepA L
  | [], L, _, _, _ => rfl
  | t :: r, L, hl, hn, hz => by
    rw [List.map_cons, List.nodup_cons] at hn
    have ht := hl t List.mem_cons_self
    have e : stepS L t = stepA L t := by
      unfold stepS stepA
      cases hq : (litV L t.2.1 && litV L t.2.2) with
      | true => rw [if_pos rfl]
      | false => rw [if_neg (by decide)]; exact setB_id (var_nn _) ht (hz t List.mem_cons_self)
    rw [List.foldl_cons, List.foldl_cons, e]
    refine fold_eq r _ (fun u hu => by rw [stepA_len]; exact hl u (List.mem_cons_of_mem _ hu)) hn.2 fun u hu => ?_
    have hne : var u.1 ≠ var t.1 := fun e => hn.1 (List.mem_map.2 ⟨u, hu, e⟩)
    have hzu := hz u (List.mem_cons_of_mem _ hu)
    unfold stepA
    split
    · rw [valV_set L _ (var_nn _) ht (var_nn _), if_neg hne]; exact hzu
    · exact hzu
theorem vals_fold {x : Circ} (h : CheckOk x) {s i : List Bool} (hs : s.length = x.lats.length) (hi : i.length = x.ins.length) : x.ands.foldl stepS (base x s i) = vals x s i := by
  have hnd : ((ownL x).map var).Nodup := (ownOk_iff.1 h.2.1.1).2
  unfold ownL at hnd
  rw [List.map_append, List.map_append, List.nodup_append, List.nodup_append] at hnd
  obtain ⟨⟨_, _, _⟩, h3, h4⟩ := hnd
  unfold vals
  refine fold_eq x.ands _ (fun t ht => by rw [base_len]; exact (own_at h _ (and_own ht)).2) (by rw [List.map_map] at h3; exact h3) fun t ht => ?_
  have zl : (zero x).length = (x.max + 1).toNat := by simp [zero]
  have hd : ∀ m, m ∈ x.ins ++ x.lats.map (·.1) → var m ≠ var t.1 := fun m hm => h4 _ (by rw [← List.map_append]; exact List.mem_map.2 ⟨m, hm, rfl⟩) _ (List.mem_map.2 ⟨_, List.mem_map.2 ⟨t, ht, rfl⟩, rfl⟩)
  unfold base
  rw [valV_put _ _ _ (var_nn _) fun p hp => ?_, valV_put _ _ _ (var_nn _) fun p hp => ?_]
  · unfold zero valV
    rw [List.getD_eq_getElem?_getD, List.getElem?_replicate]
    split <;> rfl
  · have hm := (List.of_mem_zip (a := p.1) (b := p.2) hp).1
    exact ⟨hd _ (List.mem_append_left _ hm), by rw [zl]; exact (own_at h _ (ins_own hm)).2⟩
  · obtain ⟨q, hq, rfl⟩ := List.mem_map.1 hp
    have hm := (List.of_mem_zip (a := q.1) (b := q.2) hq).1
    exact ⟨hd _ (List.mem_append_right _ (List.mem_map.2 ⟨_, hm, rfl⟩)), by rw [putAll_len, zl]; exact (own_at h _ (lat_own hm)).2⟩
end BadP
end Go.Proofs.YtjmmhbmbafjneaaGreatDoor

/-
  A circuit's literals, where it may be.
-/
namespace Go.Proofs.YtjmmhbmbafjneaaGreatDoor
open Go.RowKit Base
set_option linter.unusedVariables false
set_option linter.unusedSimpArgs false
namespace Coi
open Circuit

theorem lat_in {x : Circ} (hok : CheckOk x) {t : Tri} (ht : t ∈ x.lats) : 0 ≤ t.1 ∧ t.1 ≤ 9223372036854775807 := by
  have h1 := ((StrashP.ownOk_iff.1 hok.2.1.1).1 t.1 (by unfold ownL; exact List.mem_append_left _ (List.mem_append_right _ (List.mem_map.2 ⟨t, ht, rfl⟩))))
  have h2 := hok.1.2.1
  have h3 := h1.2.2
  have h4 := h1.1
  unfold var at h3
  omega
theorem lits_in {x : Circ} (hok : CheckOk x) (hw : WfC x) : (∀ y ∈ x.bads, 0 ≤ y ∧ y ≤ 9223372036854775807) ∧ (∀ y ∈ x.invs, 0 ≤ y ∧ y ≤ 9223372036854775807) ∧ (∀ t ∈ x.lats, 0 ≤ t.2.1 ∧ t.2.1 ≤ 9223372036854775807) := by
  obtain ⟨_, _, _, _, _, hl, _, _, _, _, hb, hi⟩ := (check_iff x).1 hok
  exact ⟨fun y hy => ⟨(hb.1 y hy).1, (hw.bads y hy).2⟩, fun y hy => ⟨(hi.1 y hy).1, (hw.invs y hy).2⟩, fun t ht => ⟨(hl t ht).2.1, (hw.lats t ht).2.1.2⟩⟩

end Coi
end Go.Proofs.YtjmmhbmbafjneaaGreatDoor

/-
  interlockref07's Allowed, Values, Next.
-/
namespace Go.Proofs.YtjmmhbmbafjneaaGreatDoor
open Go.RowKit Base
set_option linter.unusedVariables false
set_option linter.unusedSimpArgs false
namespace BadP
open Circuit Coi

set_option maxHeartbeats 4000000 in
theorem allowed_any (w : World) (x : Circ) (p : At) (hin : InCirc w x p) (L : List Bool) (hL : L.length ≤ 9223372036854775807) (hv64 : ∀ y ∈ x.invs, 0 ≤ y ∧ y ≤ 9223372036854775807) (aA : Option Addr) (n cA : Nat) (vs : List Value) (A : List (List Int)) (hA : Sl2 w aA n cA vs A) (hA64 : ∀ y ∈ A.flatten, -9223372036854775808 ≤ y ∧ y ≤ 9223372036854775807) :
    Calls Tryz.prog 23 #[.agg (cells x p), .slice aA n cA, .string (bs L)] w fun e w' => e = .returned (.bool (allow x A L)) ∧ Below w.heap.size w w' := by
  obtain ⟨W1, hW1⟩ : ∃ U, w.alloc (.cells (cells x p) 27) = U := ⟨_, rfl⟩
  obtain ⟨hb1, hx1⟩ := cbox_new w x p W1 hW1
  have HB1 := Lib.hid hb1
  have HV := Lib.hid (hin.next hb1).invs
  have HA := Lib.hid (hA.next hb1)
  have HT : Hid (∀ y, y ∈ x.invs → Calls Tryz.prog 24 #[.string (bs L), .int .i64 y] W1 fun e w' => e = .returned (.bool (litV L y)) ∧ w' = W1) := fun y h => refTrue_any W1 L y (by have := (hv64 y h).1; omega) (hv64 y h).2 hL
  have HH : Hid (∀ (k : Nat) (h : k < A.length) (a : Option Addr) (m c : Nat), Sl W1 a m c (ints A[k]) → Calls Tryz.prog 46 #[.string (bs L), .slice a m c] W1 fun e w' => e = .returned (.bool (A[k].any (litV L))) ∧ w' = W1) := fun k h a m c hs =>
    holds_any W1 L hL a m c A[k] hs (fun y hy => hA64 y (List.mem_flatten.2 ⟨A[k], List.getElem_mem h, hy⟩))
  have HX := Lib.hid hx1
  have hcv := hin.invs.cap
  have hgv := hin.invs.big
  have hca := hA.sl.cap
  have hga := hA.sl.big
  have HAL := Lib.hid hA.len
  obtain ⟨a1, c1, a2, c2, a3, c3, a4, c4, a5, c5, a6, c6, a7, c7⟩ := p
  simp only [cells] at *
  have HOK : Hid (allow x A L = (x.invs.all (litV L) && A.all fun c => c.any (litV L))) := rfl
  generalize bs L = s at *
  clear hin hA hA64 hv64 hL hb1 hx1
  go_enter Tryz.func23, Tryz.ntmps23
  go_wp2_with fail
  go_loopw [7] (fun i wr => ∃ k : Nat, k ≤ x.invs.length ∧ i = .int .i64 k ∧ Hid ((x.invs.take k).all (litV L) = true) ∧ wr = W1) (fun i _ => x.invs.length - (intOf i).toNat)
  case atStart => exact ⟨0, Nat.zero_le _, rfl, rfl, rfl⟩
  case round =>
    obtain ⟨k, hk, rfl, hF, rfl⟩ := hrel
    have m5 := HX.out.k5
    try simp only at m5 hcv hgv
    by_cases hlt : k < x.invs.length
    · obtain ⟨b, o, hx, hae, hbs, d0⟩ := HV.out.int hlt
      try simp only at hae
      subst hae
      have HTK := Lib.hid (HT.out _ (List.getElem_mem hx))
      have HNO : Hid (litV L x.invs[k] = false → allow x A L = false) := fun h => by
        show (_ && _) = false
        rw [Bool.and_eq_false_iff]
        left
        rw [List.all_eq_false]
        exact ⟨_, List.getElem_mem hx, by rw [h]; decide⟩
      have HYE : Hid (litV L x.invs[k] = true → (x.invs.take (k + 1)).all (litV L) = true) := fun h => by rw [List.take_succ_eq_append_getElem hx, List.all_append, hF.out]; simp [h]
      generalize x.invs[k] = y at *
      generalize litV L y = q at *
      cases q
      · have HN2 : Hid (allow x A L = false) := HNO.out rfl
        clear HNO HYE
        go_wp2_with fail
        with_reducible refine HTK.out.mono ?_
        rintro e wx ⟨rfl, rfl⟩
        go_wp2_with fail
        go_ret
        exact ⟨by rw [HN2.out]; rfl, HB1.out⟩
      · have HY2 : Hid ((x.invs.take (k + 1)).all (litV L) = true) := HYE.out rfl
        clear HNO HYE
        go_wp2_with fail
        with_reducible refine HTK.out.mono ?_
        rintro e wx ⟨rfl, rfl⟩
        go_wp2_with fail
        go_roundw
        case rel => exact ⟨k + 1, by omega, by go_num, HY2.out, by first | rfl | trivial⟩
        case measure => simp [intOf]; omega
    · have HVA : Hid (x.invs.all (litV L) = true) := by
        show _ = _
        have h := hF.out
        rwa [List.take_of_length_le (by omega)] at h
      go_wp2_with fail
      go_loopw [8] (fun i wq => ∃ k : Nat, k ≤ n ∧ i = .int .i64 k ∧ Hid ((A.take k).all (fun c => c.any (litV L)) = true) ∧ wq = wr) (fun i _ => n - (intOf i).toNat)
      case atStart => exact ⟨0, Nat.zero_le _, rfl, rfl, rfl⟩
      case round =>
        obtain ⟨j, hj, rfl, hG, rfl⟩ := hrel
        by_cases hjt : j < n
        · obtain ⟨b', o', a2', c2', hx2, rfl, hbs2, e0, hs0, hv⟩ := HA.out.at hjt
          have HTK := Lib.hid (HH.out j hx2 _ _ _ hs0)
          have HNO : Hid (A[j].any (litV L) = false → allow x A L = false) := fun h => by
            show (_ && _) = false
            rw [Bool.and_eq_false_iff]
            right
            rw [List.all_eq_false]
            exact ⟨_, List.getElem_mem hx2, by rw [h]; decide⟩
          have HYE : Hid (A[j].any (litV L) = true → (A.take (j + 1)).all (fun c => c.any (litV L)) = true) := fun h => by rw [List.take_succ_eq_append_getElem hx2, List.all_append, hG.out]; simp [h]
          clear hv
          generalize A[j].any (litV L) = q at *
          generalize A[j] = l at *
          cases q
          · have HN2 : Hid (allow x A L = false) := HNO.out rfl
            clear HNO HYE
            go_wp2_with fail
            with_reducible refine HTK.out.mono ?_
            rintro e wx ⟨rfl, rfl⟩
            go_wp2_with fail
            go_ret
            exact ⟨by rw [HN2.out]; rfl, HB1.out⟩
          · have HY2 : Hid ((A.take (j + 1)).all (fun c => c.any (litV L)) = true) := HYE.out rfl
            clear HNO HYE
            go_wp2_with fail
            with_reducible refine HTK.out.mono ?_
            rintro e wx ⟨rfl, rfl⟩
            go_wp2_with fail
            go_roundw
            case rel => exact ⟨j + 1, by omega, by go_num, HY2.out, by first | rfl | trivial⟩
            case measure => simp [intOf]; omega
        · have HE : Hid (allow x A L = true) := by
            show (_ && _) = true
            rw [HVA.out]
            have h := hG.out
            rw [List.take_of_length_le (by have := HAL.out; omega)] at h
            rw [h]; rfl
          go_wp2_with fail
          go_ret
          exact ⟨by rw [HE.out]; rfl, HB1.out⟩
end BadP
end Go.Proofs.YtjmmhbmbafjneaaGreatDoor

/-
  interlockref07's Values (written by values.py).
-/
namespace Go.Proofs.YtjmmhbmbafjneaaGreatDoor
open Go.RowKit Base
set_option linter.unusedVariables false
set_option linter.unusedSimpArgs false
namespace BadP
open Circuit Coi

theorem putAll_snoc (ps : List (Int × Bool)) (p : Int × Bool) (L : List Bool) : putAll (ps ++ [p]) L = setB (putAll ps L) (var p.1) p.2 := by unfold putAll; rw [List.foldl_append]; rfl
theorem bits_bs (L : List Bool) {n : Nat} (h : L.length = n) : RefBits.bits (bs L).data.toList (n : Int) = true := by
  unfold RefBits.bits
  rw [bs_list, Bool.and_eq_true]
  refine ⟨List.all_eq_true.2 fun c hc => ?_, decide_eq_true (by rw [List.length_map]; omega)⟩
  obtain ⟨b, _, rfl⟩ := List.mem_map.1 hc
  cases b <;> rfl
theorem own_pos {x : Circ} (hok : CheckOk x) : ∀ y ∈ ownL x, 0 ≤ y ∧ y ≤ 9223372036854775807 := fun y hy => by
  have h1 := (StrashP.ownOk_iff.1 hok.2.1.1).1 y hy
  have h2 := hok.1.2.1
  have h3 := h1.2.2
  have h4 := h1.1
  unfold var at h3
  omega
theorem and_lits {x : Circ} (hok : CheckOk x) : ∀ t ∈ x.ands, (0 ≤ t.2.1 ∧ t.2.1 ≤ 9223372036854775807) ∧ (0 ≤ t.2.2 ∧ t.2.2 ≤ 9223372036854775807) := fun t ht => by
  obtain ⟨k1, k2, k3, k4⟩ := hok.2.2.2.1 t ht
  have h1 := own_pos hok t.1 (and_own ht)
  have h3 := k1.1
  have h4 := k2.1
  omega

set_option maxRecDepth 8000 in
set_option maxHeartbeats 16000000 in
theorem values_any (w : World) (x : Circ) (p : At) (hin : InCirc w x p) (hw : WfC x) (hok : CheckOk x) (hza : x.ands.length * 24 ≤ 140737488355328) (st inp : List Bool) (hst : st.length = x.lats.length) (hinp : inp.length = x.ins.length) :
    Calls Tryz.prog 21 #[.agg (cells x p), .string (bs st), .string (bs inp)] w fun e w' => e = .returned (.tuple #[.string (bs (vals x st inp)), .int .i64 0]) ∧ Below w.heap.size w w' := by
  obtain ⟨W1, hW1⟩ : ∃ U, w.alloc (.cells (cells x p) 27) = U := ⟨_, rfl⟩
  obtain ⟨hb1, hx1⟩ := cbox_new w x p W1 hW1
  have HB1 := Lib.hid hb1
  have HX := Lib.hid (fun (U : World) (hU : Below W1.heap.size W1 U) => hx1.next hU (Nat.le_refl _))
  have HIN := Lib.hid (fun (U : World) (hU : Below W1.heap.size W1 U) => (hin.next hb1).next hU)
  have hrc := refCheck_any W1 x p (hin.next hb1) hw hza
  rw [refchk_pos ((check_iff _).1 hok)] at hrc
  have HOWN := Lib.hid (own_at hok)
  have HOW2 := Lib.hid (own_pos hok)
  have HAN := Lib.hid (and_lits hok)
  have HMX : Hid (0 ≤ x.max ∧ x.max ≤ 2048) := ⟨hok.1.1, hok.1.2.1⟩
  obtain ⟨mx, hmx⟩ : ∃ m : Nat, x.max = (m : Int) := ⟨x.max.toNat, by have := HMX.out.1; omega⟩
  have HMM := Lib.hid hmx
  have hmx2 : mx ≤ 2048 := by have := HMX.out; omega
  have HstL := Lib.hid hst
  have HinpL := Lib.hid hinp
  obtain ⟨tst, htst⟩ : ∃ t, bs st = t := ⟨_, rfl⟩
  obtain ⟨tinp, htinp⟩ : ∃ t, bs inp = t := ⟨_, rfl⟩
  have HstZ : Hid (tst.size = st.length) := by show _ = _; rw [← htst, bs_size]
  have HinpZ : Hid (tinp.size = inp.length) := by show _ = _; rw [← htinp, bs_size]
  have HstB : Hid (∀ (j : Nat) (h : j < tst.size) (h2 : j < st.length), tst[j]'h = byteB st[j]) := fun j h h2 => by subst htst; rw [bs_at st h, List.getD_eq_getElem?_getD, List.getElem?_eq_getElem h2]; rfl
  have HinpB : Hid (∀ (j : Nat) (h : j < tinp.size) (h2 : j < inp.length), tinp[j]'h = byteB inp[j]) := fun j h h2 => by subst htinp; rw [bs_at inp h, List.getD_eq_getElem?_getD, List.getElem?_eq_getElem h2]; rfl
  have HBT1 := fun (U : World) => RefBits.bits_any U tst (by rw [HstZ.out, hst]; have := hok.1.2.2.2.1; omega) (x.lats.length : Int)
  rw [← htst, bits_bs st hst, htst] at HBT1
  have HBT2 := fun (U : World) => RefBits.bits_any U tinp (by rw [HinpZ.out, hinp]; have := hok.1.2.2.1; omega) (x.ins.length : Int)
  rw [← htinp, bits_bs inp hinp, htinp] at HBT2
  have HT1 := Lib.hid HBT1
  have HT2 := Lib.hid HBT2
  rw [htst, htinp]
  obtain ⟨a1, c1, a2, c2, a3, c3, a4, c4, a5, c5, a6, c6, a7, c7⟩ := p
  simp only [cells] at hW1 hrc ⊢
  have HRC := Lib.hid hrc
  have hf0 := hx1.k0
  have hf1 := hx1.k1
  have hf2 := hx1.k2
  clear hmx hin hw hok hza hst hinp hb1 hrc htst htinp HBT1 HBT2 hx1
  try simp only at hf0 hf1 hf2
  go_enter Tryz.func21, Tryz.ntmps21
  clear hf0 hf1 hf2
  have c := HX.out W1 (Below.refl _ _)
  have k0 := c.k0
  have k1 := c.k1
  have k2 := c.k2
  have k3 := c.k3
  have k4 := c.k4
  have k5 := c.k5
  have k6 := c.k6
  have k7 := c.k7
  clear c
  go_wp2_with fail
  clear hW1
  with_reducible refine HRC.out.mono ?_
  rintro e w2 ⟨rfl, hb2⟩
  have HB2 := Lib.hid hb2
  clear k0 k1 k2 k3 k4 k5 k6 k7
  have c := HX.out w2 hb2
  have k1 := c.k1
  have k2 := c.k2
  have k0 := c.k0
  rw [HMM.out] at k0
  try simp only at k1 k2
  clear c hb2
  go_wp2_with fail
  with_reducible refine (HT1.out w2).mono ?_
  rintro e w3 ⟨rfl, rfl⟩
  go_wp2_with fail
  with_reducible refine (HT2.out w2).mono ?_
  rintro e w3 ⟨rfl, rfl⟩
  clear k1 k2
  go_wp2_with fail
  go_loopw [8, 9] (fun s u wr => ∃ j : Nat, j ≤ mx + 1 ∧ u = .int .i64 j ∧ s = .string (bs (List.replicate j false)) ∧ wr = w2) (fun _ u _ => mx + 1 - (intOf u).toNat)
  case atStart => exact ⟨0, Nat.zero_le _, rfl, rfl, rfl⟩
  case round =>
    obtain ⟨j, hj, rfl, rfl, rfl⟩ := hrel
    by_cases hlt : j ≤ mx
    · have HS2 : Hid (bs (List.replicate j false) ++ ⟨#[48]⟩ = bs (List.replicate (j + 1) false)) := by
        show _ = _
        rw [List.replicate_succ', bs_app]; rfl
      have hz : (bs (List.replicate j false)).size = j := by rw [bs_size, List.length_replicate]
      have hlim : ¬ 9223372036854775807 < j + 1 := by omega
      generalize bs (List.replicate j false) = s1 at *
      go_wp2_with fail
      go_roundw
      case rel => exact ⟨j + 1, by omega, by go_num, by rw [HS2.out], by first | rfl | trivial⟩
      case measure => simp [intOf]; omega
    · have hjm : j = mx + 1 := by omega
      have hzero : List.replicate j false = zero x := by
        unfold zero
        have : (x.max + 1).toNat = j := by have := HMM.out; omega
        rw [this]
      rw [hzero]
      have HZL : Hid ((zero x).length = (x.max + 1).toNat) := by show _ = _; simp [zero]
      clear hzero hjm
      go_wp2_with fail
      clear k0
      have HBW := HB2
      go_loopw [8, 10] (fun s u wr => ∃ j : Nat, j ≤ x.ins.length ∧ u = .int .i64 j ∧ s = .string (bs (putAll ((x.ins.zip inp).take j) (zero x))) ∧ Hid (Below W1.heap.size W1 wr)) (fun _ u _ => x.ins.length - (intOf u).toNat)
      case atStart => exact ⟨0, Nat.zero_le _, rfl, rfl, HBW.out⟩
      case round =>
        clear HBW
        obtain ⟨j, hj, rfl, rfl, hB⟩ := hrel
        have m1 := (HX.out wr hB.out).k1
        have hla := (HIN.out wr hB.out).ins
        have hca := hla.cap
        have hga := hla.big
        try simp only at m1 hca hga
        by_cases hlt : j < x.ins.length
        · skip
          obtain ⟨b, o, hx, hae, hbs, d0⟩ := hla.int hlt
          try simp only at hae
          subst hae
          have hown := HOWN.out x.ins[j] (ins_own (List.getElem_mem hx))
          have hown2 := HOW2.out x.ins[j] (ins_own (List.getElem_mem hx))
          obtain ⟨vq, hvq, hvq2⟩ : ∃ v : Int, Int.tdiv x.ins[j] 2 = v ∧ v = var x.ins[j] := ⟨_, rfl, by unfold var; rw [Int.max_eq_left hown2.1]; exact Int.tdiv_eq_ediv_of_nonneg hown2.1⟩
          have hwq : IntKind.i64.wrap vq = vq := IntWalk.i64_in _ (by rw [hvq2]; unfold var; omega)
          have hjn : j < inp.length := by have := HinpL.out; omega
          have hjs : j < tinp.size := by rw [HinpZ.out]; exact hjn
          have hjs2 : (j : Int) < (tinp.size : Int) := by omega
          have hby : tinp[j] = byteB inp[j] := HinpB.out j hjs hjn
          have HZ : Hid (putAll ((x.ins.zip inp).take (j + 1)) (zero x) = setB (putAll ((x.ins.zip inp).take j) (zero x)) vq inp[j]) := by
            show _ = _
            have hz : j < (x.ins.zip inp).length := by simp; omega
            rw [List.take_succ_eq_append_getElem hz, putAll_snoc, hvq2]
            simp
          have hpl : (putAll ((x.ins.zip inp).take j) (zero x)).length = (x.max + 1).toNat := by rw [putAll_len, HZL.out]
          have HST := Lib.hid (set_bs wr.drew (putAll ((x.ins.zip inp).take j) (zero x)) vq inp[j] (by rw [hvq2]; exact var_nn _) (by rw [hvq2, hpl]; exact hown.2) (by rw [hpl]; have := HMX.out; omega) _ rfl)
          rw [← HZ.out] at HST
          have HBD := Lib.hid (hB.out.trans (Below.refl _ _).drew)
          generalize inp[j] = bb at *
          generalize x.ins[j] = t at *
          obtain ⟨q2, hq2⟩ : ∃ q, putAll ((x.ins.zip inp).take j) (zero x) = q := ⟨_, rfl⟩
          obtain ⟨q3, hq3⟩ : ∃ q, putAll ((x.ins.zip inp).take (j + 1)) (zero x) = q := ⟨_, rfl⟩
          rw [hq2] at HST ⊢
          rw [hq3] at HST
          have HQ3 := Lib.hid hq3
          clear hown hown2 hvq2 hpl HZ hB hla hq2 hq3
          go_upto_region 13 with fail
          refine wp_region_still_tail 10 (by kernel_rfl) (by kernel_rfl) ?_
          simp only [List.take_succ_cons, List.take_zero, List.drop_succ_cons, List.drop_zero]
          repeat still_step
          refine wpStill_nil ?_
          go_wp2_with fail
          with_reducible refine HST.out.mono ?_
          rintro e wx ⟨rfl, hbx⟩
          have HBX := Lib.hid (HBD.out.trans (hbx.mono HBD.out.size))
          clear hbx
          go_wp2_with fail
          go_roundw
          case rel => exact ⟨j + 1, by omega, by go_num, by rw [HQ3.out], HBX.out⟩
          case measure => simp [intOf]; omega
        · skip
          have hall : (x.ins.zip inp).take j = (x.ins.zip inp) := List.take_of_length_le (by simp; omega)
          rw [hall]
          clear hall
          go_wp2_with fail
          have HBW3 := hB
          clear hla hca hga m1 hB
          go_loopw [8, 11] (fun s u wr => ∃ j : Nat, j ≤ x.lats.length ∧ u = .int .i64 j ∧ s = .string (bs (putAll (((x.lats.zip st).map fun p => (p.1.1, p.2)).take j) (putAll (x.ins.zip inp) (zero x)))) ∧ Hid (Below W1.heap.size W1 wr)) (fun _ u _ => x.lats.length - (intOf u).toNat)
          case atStart => exact ⟨0, Nat.zero_le _, rfl, rfl, HBW3.out⟩
          case round =>
            clear HBW3
            obtain ⟨j, hj, rfl, rfl, hB⟩ := hrel
            have m2 := (HX.out wr hB.out).k2
            have hla := (HIN.out wr hB.out).lats
            have hca := hla.cap
            have hga := hla.big
            try simp only at m2 hca hga
            by_cases hlt : j < x.lats.length
            · skip
              obtain ⟨b, o, hx, hae, hbs, d0, d1, d2⟩ := hla.tri hlt
              try simp only at hae
              subst hae
              have hown := HOWN.out x.lats[j].1 (lat_own (List.getElem_mem hx))
              have hown2 := HOW2.out x.lats[j].1 (lat_own (List.getElem_mem hx))
              obtain ⟨vq, hvq, hvq2⟩ : ∃ v : Int, Int.tdiv x.lats[j].1 2 = v ∧ v = var x.lats[j].1 := ⟨_, rfl, by unfold var; rw [Int.max_eq_left hown2.1]; exact Int.tdiv_eq_ediv_of_nonneg hown2.1⟩
              have hwq : IntKind.i64.wrap vq = vq := IntWalk.i64_in _ (by rw [hvq2]; unfold var; omega)
              have hjn : j < st.length := by have := HstL.out; omega
              have hjs : j < tst.size := by rw [HstZ.out]; exact hjn
              have hjs2 : (j : Int) < (tst.size : Int) := by omega
              have hby : tst[j] = byteB st[j] := HstB.out j hjs hjn
              have HZ : Hid (putAll (((x.lats.zip st).map fun p => (p.1.1, p.2)).take (j + 1)) (putAll (x.ins.zip inp) (zero x)) = setB (putAll (((x.lats.zip st).map fun p => (p.1.1, p.2)).take j) (putAll (x.ins.zip inp) (zero x))) vq st[j]) := by
                show _ = _
                have hz : j < ((x.lats.zip st).map fun p => (p.1.1, p.2)).length := by simp; omega
                rw [List.take_succ_eq_append_getElem hz, putAll_snoc, hvq2]
                simp
              have hpl : (putAll (((x.lats.zip st).map fun p => (p.1.1, p.2)).take j) (putAll (x.ins.zip inp) (zero x))).length = (x.max + 1).toNat := by rw [putAll_len, putAll_len, HZL.out]
              have HST := Lib.hid (set_bs wr.drew (putAll (((x.lats.zip st).map fun p => (p.1.1, p.2)).take j) (putAll (x.ins.zip inp) (zero x))) vq st[j] (by rw [hvq2]; exact var_nn _) (by rw [hvq2, hpl]; exact hown.2) (by rw [hpl]; have := HMX.out; omega) _ rfl)
              rw [← HZ.out] at HST
              have HBD := Lib.hid (hB.out.trans (Below.refl _ _).drew)
              generalize st[j] = bb at *
              generalize x.lats[j] = t at *
              obtain ⟨q2, hq2⟩ : ∃ q, putAll (((x.lats.zip st).map fun p => (p.1.1, p.2)).take j) (putAll (x.ins.zip inp) (zero x)) = q := ⟨_, rfl⟩
              obtain ⟨q3, hq3⟩ : ∃ q, putAll (((x.lats.zip st).map fun p => (p.1.1, p.2)).take (j + 1)) (putAll (x.ins.zip inp) (zero x)) = q := ⟨_, rfl⟩
              rw [hq2] at HST ⊢
              rw [hq3] at HST
              have HQ3 := Lib.hid hq3
              clear hown hown2 hvq2 hpl HZ hB hla hq2 hq3
              go_upto_region 17 with fail
              refine wp_region_still_tail 11 (by kernel_rfl) (by kernel_rfl) ?_
              simp only [List.take_succ_cons, List.take_zero, List.drop_succ_cons, List.drop_zero]
              repeat still_step
              refine wpStill_nil ?_
              go_wp2_with fail
              with_reducible refine HST.out.mono ?_
              rintro e wx ⟨rfl, hbx⟩
              have HBX := Lib.hid (HBD.out.trans (hbx.mono HBD.out.size))
              clear hbx
              go_wp2_with fail
              go_roundw
              case rel => exact ⟨j + 1, by omega, by go_num, by rw [HQ3.out], HBX.out⟩
              case measure => simp [intOf]; omega
            · skip
              have hall : ((x.lats.zip st).map fun p => (p.1.1, p.2)).take j = ((x.lats.zip st).map fun p => (p.1.1, p.2)) := List.take_of_length_le (by simp; omega)
              rw [hall]
              clear hall
              go_wp2_with fail
              have HBW4 := hB
              have hbase : putAll ((x.lats.zip st).map fun p => (p.1.1, p.2)) (putAll (x.ins.zip inp) (zero x)) = base x st inp := rfl
              rw [hbase]
              clear hbase hla hca hga m2 hB
              go_loopw [8, 12] (fun s u wr => ∃ j : Nat, j ≤ x.ands.length ∧ u = .int .i64 j ∧ s = .string (bs ((x.ands.take j).foldl stepA (base x st inp))) ∧ Hid (Below W1.heap.size W1 wr)) (fun _ u _ => x.ands.length - (intOf u).toNat)
              case atStart => exact ⟨0, Nat.zero_le _, rfl, rfl, HBW4.out⟩
              case round =>
                clear HBW4
                obtain ⟨j, hj, rfl, rfl, hB⟩ := hrel
                have m6 := (HX.out wr hB.out).k6
                have hla := (HIN.out wr hB.out).ands
                have hca := hla.cap
                have hga := hla.big
                try simp only at m6 hca hga
                by_cases hlt : j < x.ands.length
                · obtain ⟨b, o, hx, hae, hbs, d0, d1, d2⟩ := hla.tri hlt
                  try simp only at hae
                  subst hae
                  have hown := HOWN.out x.ands[j].1 (and_own (List.getElem_mem hx))
                  have hown2 := HOW2.out x.ands[j].1 (and_own (List.getElem_mem hx))
                  have hal := HAN.out x.ands[j] (List.getElem_mem hx)
                  obtain ⟨vq, hvq, hvq2⟩ : ∃ v : Int, Int.tdiv x.ands[j].1 2 = v ∧ v = var x.ands[j].1 := ⟨_, rfl, by unfold var; rw [Int.max_eq_left hown2.1]; exact Int.tdiv_eq_ediv_of_nonneg hown2.1⟩
                  have hwq : IntKind.i64.wrap vq = vq := IntWalk.i64_in _ (by rw [hvq2]; unfold var; omega)
                  have HSP : Hid ((x.ands.take (j + 1)).foldl stepA (base x st inp) = stepA ((x.ands.take j).foldl stepA (base x st inp)) x.ands[j]) := by
                    show _ = _
                    rw [List.take_succ_eq_append_getElem hx, List.foldl_append]; rfl
                  have hpl : ((x.ands.take j).foldl stepA (base x st inp)).length = (x.max + 1).toNat := by rw [fold_len, base_len]
                  generalize (x.ands.take j).foldl stepA (base x st inp) = P at *
                  have hpl2 : P.length ≤ 9223372036854775807 := by rw [hpl]; have := HMX.out; omega
                  have HTL := Lib.hid (refTrue_any wr P x.ands[j].2.1 (by have := hal.1.1; omega) hal.1.2 hpl2)
                  have HTR := Lib.hid (refTrue_any wr P x.ands[j].2.2 (by have := hal.2.1; omega) hal.2.2 hpl2)
                  have HST := Lib.hid (set_bs wr P vq true (by rw [hvq2]; exact var_nn _) (by rw [hvq2, hpl]; exact hown.2) (by rw [hpl]; have := HMX.out; omega) 49 rfl)
                  have HSV : Hid (stepA P x.ands[j] = if litV P x.ands[j].2.1 && litV P x.ands[j].2.2 then setB P vq true else P) := by show _ = _; rw [hvq2]; rfl
                  generalize litV P x.ands[j].2.1 = b1 at *
                  generalize litV P x.ands[j].2.2 = b2 at *
                  generalize stepA P x.ands[j] = P2 at *
                  generalize setB P vq true = P3 at *
                  generalize x.ands[j] = t at *
                  generalize hsp : bs P = sp at *
                  have HEP := Lib.hid hsp
                  clear hown hown2 hvq2 hpl hpl2 hla hal hsp
                  cases b1
                  · have HE : Hid (P2 = P) := HSV.out
                    clear HSV
                    go_wp2_with fail
                    with_reducible refine HTL.out.mono ?_
                    rintro e wx ⟨rfl, rfl⟩
                    go_wp2_with fail
                    go_roundw
                    case rel => exact ⟨j + 1, by omega, by go_num, by rw [HSP.out, HE.out, HEP.out], hB.out⟩
                    case measure => simp [intOf]; omega
                  · cases b2
                    · have HE : Hid (P2 = P) := HSV.out
                      clear HSV
                      go_wp2_with fail
                      with_reducible refine HTL.out.mono ?_
                      rintro e wx ⟨rfl, rfl⟩
                      go_wp2_with fail
                      with_reducible refine HTR.out.mono ?_
                      rintro e wx ⟨rfl, rfl⟩
                      go_wp2_with fail
                      go_roundw
                      case rel => exact ⟨j + 1, by omega, by go_num, by rw [HSP.out, HE.out, HEP.out], hB.out⟩
                      case measure => simp [intOf]; omega
                    · have HE : Hid (P2 = P3) := HSV.out
                      clear HSV
                      go_wp2_with fail
                      with_reducible refine HTL.out.mono ?_
                      rintro e wx ⟨rfl, rfl⟩
                      go_wp2_with fail
                      with_reducible refine HTR.out.mono ?_
                      rintro e wx ⟨rfl, rfl⟩
                      go_wp2_with fail
                      with_reducible refine HST.out.mono ?_
                      rintro e wx ⟨rfl, hbx⟩
                      have HBX := Lib.hid (hB.out.trans (hbx.mono hB.out.size))
                      clear hbx
                      go_wp2_with fail
                      go_roundw
                      case rel => exact ⟨j + 1, by omega, by go_num, by rw [HSP.out, HE.out], HBX.out⟩
                      case measure => simp [intOf]; omega
                · have hall : x.ands.take j = x.ands := List.take_of_length_le (by omega)
                  rw [hall]
                  go_wp2_with fail
                  refine bodyPost_ret (v := .tuple #[.string (bs (vals x st inp)), .int .i64 0]) (by simp [results, Tryz.results21, go_sem, vals]) rfl ?_
                  exact ⟨rfl, HB1.out.trans (hB.out.mono HB1.out.size)⟩
end BadP
end Go.Proofs.YtjmmhbmbafjneaaGreatDoor

/-
  Off the shelf, at CubeMeets' program: (*strings.Builder).String; math/bits.Mul; strings.Trim. (WriteByte, Lays.n167, is not laid here: 'names number 20'.)
-/
namespace Go.Proofs.YtjmmhbmbafjneaaGreatDoor
open Go.RowKit Base
set_option linter.unusedVariables false
set_option linter.unusedSimpArgs false
namespace LayB
open Go.Shelf

-- EXTRA 1 20 20
def lays169_ren : Go.Shelf.Ren := ⟨fun | 169 => 102 | n => n, fun | 70 => 134 | 9 => 9 | 0 => 0 | 72 => 136 | 37 => 59 | 127 => 160 | 3 => 3 | 5 => 5 | 20 => 20 | n => n, fun | n => n⟩
theorem lays169 : Go.Proofs.Lays.n169 Tryz.prog lays169_ren := {
  mixed := by kernel_rfl
  f169 := Tryz.func102.trans (congrArg some (by kernel_rfl))
  t0 := Tryz.underlying0
  a0 := Tryz.isAgg0
  z0 := Tryz.sizeOf0
  v0 := Tryz.zeroValue0
  t3 := Tryz.underlying3
  a3 := Tryz.isAgg3
  z3 := Tryz.sizeOf3
  v3 := Tryz.zeroValue3
  t9 := Tryz.underlying9
  a9 := Tryz.isAgg9
  z9 := Tryz.sizeOf9
  v9 := Tryz.zeroValue9
  t37 := Tryz.underlying59
  a37 := Tryz.isAgg59
  z37 := Tryz.sizeOf59
  v37 := Tryz.zeroValue59
  t70 := Tryz.underlying134
  a70 := Tryz.isAgg134
  z70 := Tryz.sizeOf134
  v70 := Tryz.zeroValue134
  t72 := Tryz.underlying136
  a72 := Tryz.isAgg136
  z72 := Tryz.sizeOf136
  v72 := Tryz.zeroValue136
  t127 := Tryz.underlying160
  a127 := Tryz.isAgg160
  z127 := Tryz.sizeOf160
  v127 := Tryz.zeroValue160 }
def lays167_ren : Go.Shelf.Ren := ⟨fun | 167 => 100 | 240 => 125 | 276 => 145 | n => n, fun | 70 => 134 | 5 => 5 | 75 => 138 | 0 => 0 | 72 => 136 | 37 => 59 | 4 => 4 | 164 => 176 | 80 => 141 | 9 => 9 | 20 => 20 | n => n, fun | n => n⟩
theorem lays167 : Go.Proofs.Lays.n167 Tryz.prog lays167_ren := {
  mixed := by kernel_rfl
  f167 := Tryz.func100.trans (congrArg some (by kernel_rfl))
  f240 := Tryz.func125.trans (congrArg some (by kernel_rfl))
  f276 := Tryz.func145.trans (congrArg some (by kernel_rfl))
  t0 := Tryz.underlying0
  a0 := Tryz.isAgg0
  z0 := Tryz.sizeOf0
  v0 := Tryz.zeroValue0
  t4 := Tryz.underlying4
  a4 := Tryz.isAgg4
  z4 := Tryz.sizeOf4
  v4 := Tryz.zeroValue4
  t5 := Tryz.underlying5
  a5 := Tryz.isAgg5
  z5 := Tryz.sizeOf5
  v5 := Tryz.zeroValue5
  t9 := Tryz.underlying9
  a9 := Tryz.isAgg9
  z9 := Tryz.sizeOf9
  v9 := Tryz.zeroValue9
  t20 := Tryz.underlying20
  a20 := Tryz.isAgg20
  z20 := Tryz.sizeOf20
  v20 := Tryz.zeroValue20
  t37 := Tryz.underlying59
  a37 := Tryz.isAgg59
  z37 := Tryz.sizeOf59
  v37 := Tryz.zeroValue59
  t70 := Tryz.underlying134
  a70 := Tryz.isAgg134
  z70 := Tryz.sizeOf134
  v70 := Tryz.zeroValue134
  t72 := Tryz.underlying136
  a72 := Tryz.isAgg136
  z72 := Tryz.sizeOf136
  v72 := Tryz.zeroValue136
  t75 := Tryz.underlying138
  a75 := Tryz.isAgg138
  z75 := Tryz.sizeOf138
  v75 := Tryz.zeroValue138
  t164 := Tryz.underlying176
  a164 := Tryz.isAgg176
  z164 := Tryz.sizeOf176
  v164 := Tryz.zeroValue176 }
def lays160_ren : Go.Shelf.Ren := ⟨fun | 160 => 141 | 232 => 155 | 231 => 154 | 227 => 156 | 234 => 158 | 233 => 157 | 236 => 160 | 235 => 159 | 228 => 167 | 271 => 170 | 151 => 169 | 197 => 168 | 120 => 173 | 152 => 172 | 260 => 171 | 137 => 174 | 119 => 175 | 224 => 152 | 225 => 151 | 217 => 150 | 266 => 165 | n => n, fun | 9 => 9 | 4 => 4 | 3 => 3 | 5 => 5 | 117 => 187 | 116 => 186 | 0 => 0 | 124 => 190 | 21 => 21 | 105 => 197 | 46 => 123 | 119 => 201 | 139 => 204 | 138 => 203 | 20 => 20 | n => n, fun | 3 => 1 | 4 => 2 | n => n⟩
theorem lays160 : Go.Proofs.Lays.n160 Tryz.prog lays160_ren := {
  mixed := by kernel_rfl
  f119 := Tryz.func175.trans (congrArg some (by kernel_rfl))
  f120 := Tryz.func173.trans (congrArg some (by kernel_rfl))
  f137 := Tryz.func174.trans (congrArg some (by kernel_rfl))
  f151 := Tryz.func169.trans (congrArg some (by kernel_rfl))
  f152 := Tryz.func172.trans (congrArg some (by kernel_rfl))
  f160 := Tryz.func141.trans (congrArg some (by kernel_rfl))
  f197 := Tryz.func168.trans (congrArg some (by kernel_rfl))
  f217 := Tryz.func150.trans (congrArg some (by kernel_rfl))
  f224 := Tryz.func152.trans (congrArg some (by kernel_rfl))
  f225 := Tryz.func151.trans (congrArg some (by kernel_rfl))
  f227 := Tryz.func156.trans (congrArg some (by kernel_rfl))
  f228 := Tryz.func167.trans (congrArg some (by kernel_rfl))
  f231 := Tryz.func154.trans (congrArg some (by kernel_rfl))
  f232 := Tryz.func155.trans (congrArg some (by kernel_rfl))
  f233 := Tryz.func157.trans (congrArg some (by kernel_rfl))
  f234 := Tryz.func158.trans (congrArg some (by kernel_rfl))
  f235 := Tryz.func159.trans (congrArg some (by kernel_rfl))
  f236 := Tryz.func160.trans (congrArg some (by kernel_rfl))
  f260 := Tryz.func171.trans (congrArg some (by kernel_rfl))
  f266 := Tryz.func165.trans (congrArg some (by kernel_rfl))
  f271 := Tryz.func170.trans (congrArg some (by kernel_rfl))
  t0 := Tryz.underlying0
  a0 := Tryz.isAgg0
  z0 := Tryz.sizeOf0
  v0 := Tryz.zeroValue0
  t3 := Tryz.underlying3
  a3 := Tryz.isAgg3
  z3 := Tryz.sizeOf3
  v3 := Tryz.zeroValue3
  t4 := Tryz.underlying4
  a4 := Tryz.isAgg4
  z4 := Tryz.sizeOf4
  v4 := Tryz.zeroValue4
  t5 := Tryz.underlying5
  a5 := Tryz.isAgg5
  z5 := Tryz.sizeOf5
  v5 := Tryz.zeroValue5
  t9 := Tryz.underlying9
  a9 := Tryz.isAgg9
  z9 := Tryz.sizeOf9
  v9 := Tryz.zeroValue9
  t21 := Tryz.underlying21
  a21 := Tryz.isAgg21
  z21 := Tryz.sizeOf21
  v21 := Tryz.zeroValue21
  t46 := Tryz.underlying123
  a46 := Tryz.isAgg123
  z46 := Tryz.sizeOf123
  v46 := Tryz.zeroValue123
  t105 := Tryz.underlying197
  a105 := Tryz.isAgg197
  z105 := Tryz.sizeOf197
  v105 := Tryz.zeroValue197
  t116 := Tryz.underlying186
  a116 := Tryz.isAgg186
  z116 := Tryz.sizeOf186
  t117 := Tryz.underlying187
  a117 := Tryz.isAgg187
  z117 := Tryz.sizeOf187
  v117 := Tryz.zeroValue187
  t119 := Tryz.underlying201
  a119 := Tryz.isAgg201
  z119 := Tryz.sizeOf201
  t124 := Tryz.underlying190
  a124 := Tryz.isAgg190
  z124 := Tryz.sizeOf190
  v124 := Tryz.zeroValue190
  t138 := Tryz.underlying203
  a138 := Tryz.isAgg203
  z138 := Tryz.sizeOf203
  v138 := Tryz.zeroValue203
  t139 := Tryz.underlying204
  a139 := Tryz.isAgg204
  z139 := Tryz.sizeOf204
  v139 := Tryz.zeroValue204
  g3 := by kernel_rfl
  g4 := by kernel_rfl }
def lays212_ren : Go.Shelf.Ren := ⟨fun | 212 => 142 | 263 => 161 | 264 => 162 | n => n, fun | 46 => 123 | 51 => 150 | 146 => 191 | 53 => 152 | 148 => 193 | 20 => 20 | n => n, fun | n => n⟩
theorem lays212 : Go.Proofs.Lays.n212 Tryz.prog lays212_ren := {
  mixed := by kernel_rfl
  f212 := Tryz.func142.trans (congrArg some (by kernel_rfl))
  f263 := Tryz.func161.trans (congrArg some (by kernel_rfl))
  f264 := Tryz.func162.trans (congrArg some (by kernel_rfl))
  t46 := Tryz.underlying123
  a46 := Tryz.isAgg123
  z46 := Tryz.sizeOf123
  v46 := Tryz.zeroValue123
  t51 := Tryz.underlying150
  a51 := Tryz.isAgg150
  z51 := Tryz.sizeOf150
  v51 := Tryz.zeroValue150
  t53 := Tryz.underlying152
  a53 := Tryz.isAgg152
  z53 := Tryz.sizeOf152
  v53 := Tryz.zeroValue152
  t146 := Tryz.underlying191
  a146 := Tryz.isAgg191
  z146 := Tryz.sizeOf191
  v146 := Tryz.zeroValue191
  t148 := Tryz.underlying193
  a148 := Tryz.isAgg193
  z148 := Tryz.sizeOf193
  v148 := Tryz.zeroValue193 }

set_option maxRecDepth 100000 in
theorem extra169 : Builder.Extra Tryz.prog lays169_ren where
  sizeBuilder := by kernel_rfl
  liesBuilder := by kernel_rfl
  t5 := Tryz.underlying5
  a5 := Tryz.isAgg5
  z5 := Tryz.sizeOf5
  v5 := Tryz.zeroValue5
  infoByte := by kernel_rfl
  cellsByte := by kernel_rfl
  sizeByte := by kernel_rfl
  neB5 := by decide

set_option maxRecDepth 100000 in
theorem extra167 : Builder.Extra Tryz.prog lays167_ren where
  sizeBuilder := by kernel_rfl
  liesBuilder := by kernel_rfl
  t5 := Tryz.underlying5
  a5 := Tryz.isAgg5
  z5 := Tryz.sizeOf5
  v5 := Tryz.zeroValue5
  infoByte := by kernel_rfl
  cellsByte := by kernel_rfl
  sizeByte := by kernel_rfl
  neB5 := by decide

set_option maxRecDepth 100000 in
/-- strings.Trim at the bits '0' and '1'. -/
theorem trim_any (s : ByteArray) (w : World) (hs : s.size ≤ 9223372036854775807) :
    Calls Tryz.prog 141 #[.string s, .string ⟨#[48, 49]⟩] w fun e w' => e = .returned (.string ⟨(Lib.trimS s.data.toList [48, 49]).toArray⟩) ∧ Below w.heap.size w w' :=
  Any.strings_Trim_ascii lays160 Tryz.zeroValue186 (by kernel_rfl) s ⟨#[48, 49]⟩ w hs (by decide) (by
    intro j b hb
    match j, hb with
    | 0, hb => simp at hb; subst hb; decide
    | 1, hb => simp at hb; subst hb; decide)

theorem mul_any (x y : Nat) (hx : x < 18446744073709551616) (hy : y < 18446744073709551616) (w : World) :
    Calls Tryz.prog 142 #[.int .u64 x, .int .u64 y] w fun e w' => e = .returned (.tuple #[.int .u64 ((x * y / 18446744073709551616 : Nat) : Int), .int .u64 ((x * y % 18446744073709551616 : Nat) : Int)]) ∧ w' = w := Any.bits_Mul lays212 x y hx hy w
end LayB
end Go.Proofs.YtjmmhbmbafjneaaGreatDoor

/-
  slices.Repeat of one byte.
-/
namespace Go.Proofs.YtjmmhbmbafjneaaGreatDoor
open Go.RowKit Base
set_option linter.unusedVariables false
set_option linter.unusedSimpArgs false
namespace Repeat

theorem info_u8 : (Tryz.prog.info? 5).map (fun i => (i.zero, i.size, i.bytes)) = some (some (.int .u8 0), 1, 1) := by kernel_rfl
theorem size_u8 : (Tryz.prog.info? 5).map (·.size) = some 1 := by kernel_rfl

theorem mul1 (n : Nat) (hn : n < 18446744073709551616) (w : World) :
    Calls Tryz.prog 142 #[.int .u64 1, .int .u64 n] w fun e w' => e = .returned (.tuple #[.int .u64 0, .int .u64 n]) ∧ w' = w := by
  have h := LayB.mul_any 1 n (by decide) hn w
  rw [Nat.one_mul, Nat.div_eq_of_lt hn, Nat.mod_eq_of_lt hn] at h
  exact h

/-- copy within the walk: the operation written out. -/
theorem wpL_copy {P : Program} {w : World} {ops : Array Oper} {rest : List Oper} {dst : Option Tmp} {ty : TypeId} {pos : String} {af : Array Edge} {a : Act} {Q : Exit → Act → World → Prop}
    {d s : Operand} {dT sT elem : TypeId} (hu : P.underlying dT = some (.slice elem)) (hsz : (P.info? elem).map (·.size) = some 1)
    (dp sp : Option Addr) (dLen dCap sLen sCap : Nat) (hd : a.eval d = .slice dp dLen dCap) (hs : a.eval s = .slice sp sLen sCap)
    (g off : Nat) (cur : List Value) (t : TypeId) (hg : w.heap[g]? = some (.cells cur.toArray t (0, 0))) (cs : List Value) (hn : cs.length = Nat.min sLen dLen)
    (hpos : 0 < cs.length → dp = some ⟨g, off, none⟩ ∧ ∃ ad, sp = some ad ∧ ∀ j v, cs[j]? = some v → w.cell? (ad.add j) = some v)
    (hfit : off + cs.length ≤ cur.length) (h1 : ∀ v ∈ cs, v.oneCell' = true) (B : Nat) (w0 : World) (hb : Below B w0 w) (hBg : B ≤ g)
    (h : ∀ w', Hid (w'.heap[g]? = some (.cells (splice cur off cs).toArray t (0, 0))) → Below B w0 w' → wpList P ops Q rest (a.put dst (goInt cs.length)) w') :
    wpList P ops Q (⟨dst, .call { callee := .builtin .copy, args := #[d, s], argTypes := #[dT, sT] }, ty, pos, af, none⟩ :: rest) a w :=
  wpList_copy_splice rfl d s dT sT rfl elem hu hsz dp sp dLen dCap sLen sCap hd hs g off cur t hg cs hn hpos hfit h1 B w0 hb hBg h

def rowR (n k : Nat) : List Value := List.replicate k (.int .u8 48) ++ List.replicate (n - k) (.int .u8 0)
theorem rowR_len {n k : Nat} (h : k ≤ n) : (rowR n k).length = n := by unfold rowR; simp; omega
theorem rowR_full (n : Nat) : rowR n n = List.replicate n (.int .u8 48) := by unfold rowR; simp
theorem rowR_none (n : Nat) : rowR n 0 = List.replicate n (.int .u8 0) := by unfold rowR; simp
theorem splice_rep {n k m : Nat} (h : k + m ≤ n) : splice (rowR n k) k (List.replicate m (.int .u8 48)) = rowR n (k + m) := by
  unfold splice rowR
  rw [List.take_append_of_le_length (by simp), List.take_of_length_le (by simp), List.length_replicate, List.drop_append, List.drop_of_length_le (by simp), List.nil_append, List.length_replicate, List.drop_replicate]
  rw [← List.append_assoc, List.replicate_append_replicate]
  congr 2
  omega

theorem own_of {w : World} {B g n : Nat} (hB : B ≤ g) (hn : n ≤ 9223372036854775807) {e : TypeId} (hh : w.heap[g]? = some (.cells (rowR n n).toArray e (0, 0))) : w.ownsRow B e 1 (.slice (some ⟨g, 0, none⟩) n n) n (List.replicate n (.int .u8 48)) := by
  rw [rowR_full] at hh
  refine ⟨by simp, .inr ⟨g, n, _, rfl, hB, hh, Nat.le_refl _, by unfold maxLen; omega, by simp, by simp⟩⟩

theorem row_of {w : World} {B g n : Nat} {e : TypeId} (h : w.ownsRow B e 1 (.slice (some ⟨g, 0, none⟩) n n) n (List.replicate n (.int .u8 0))) : w.heap[g]? = some (.cells (rowR n 0).toArray e (0, 0)) := by
  obtain ⟨_, h2⟩ := h
  rcases h2 with ⟨h3, _⟩ | ⟨g', cap, cur, hv, _, hh, _, _, hcur, ht⟩
  · cases h3
  · simp only [Value.slice.injEq, Option.some.injEq, Addr.mk.injEq] at hv
    obtain ⟨⟨rfl, _⟩, _, rfl⟩ := hv
    rw [hh, rowR_none, ← ht, List.take_of_length_le (by rw [Array.length_toList, hcur]; omega)]

theorem cells_rep {w : World} {g n k : Nat} {e : TypeId} (h : w.heap[g]? = some (.cells (rowR n k).toArray e (0, 0))) (m : Nat) (hm : m ≤ k) (j : Nat) (v : Value) (hj : (List.replicate m (Value.int .u8 48))[j]? = some v) : w.cell? ((⟨g, 0, none⟩ : Addr).add j) = some v := by
  obtain ⟨hlt, hv⟩ := List.getElem?_eq_some_iff.1 hj
  rw [List.length_replicate] at hlt
  rw [List.getElem_replicate] at hv
  rw [Addr.add_lit, cell_of_row _ g (0 + j) _ e _ h, ← hv]
  unfold rowR
  rw [List.getElem?_toArray, List.getElem?_append_left (by simp; omega), List.getElem?_replicate, if_pos (by omega)]

/-- The bytes are copied onto themselves. -/
theorem copy_run {P : Program} {dT elem : TypeId} (hu : P.underlying dT = some (.slice elem)) (hsz : (P.info? elem).map (·.size) = some 1) (w : World) (g n k q : Nat) {e : TypeId}
    (hR : w.heap[g]? = some (.cells (rowR n k).toArray e (0, 0))) (hQ : Nat.min k (n - k) = q) (h1 : q ≤ k) (h2 : k + q ≤ n) {B : Nat} {w0 : World} (hb : Below B w0 w) (hB : B ≤ g) :
    ∃ w4, (Builtin.copy_ #[dT, dT] 3 #[.slice (some ⟨g, k, none⟩) (n - k) (n - k), .slice (some ⟨g, 0, none⟩) k n]).run P w.drew = .ok (.int .i64 q) w4 ∧ w4.heap[g]? = some (.cells (rowR n (k + q)).toArray e (0, 0)) ∧ Below B w0 w4 := by
  have hlen : (List.replicate q (Value.int .u8 48)).length = q := List.length_replicate
  have hfit : k + (List.replicate q (Value.int .u8 48)).length ≤ (rowR n k).toArray.size := by
    rw [List.size_toArray, rowR_len (by omega), hlen]; exact h2
  have hr := run_copy_row (P := P) w.drew dT dT 3 elem g k (n - k) (n - k) ⟨g, 0, none⟩ k n (rowR n k).toArray e (List.replicate q (.int .u8 48)) hu hsz hR (hlen.trans hQ.symm)
    (fun j v hj => cells_rep (w := w.drew) hR q h1 j v hj) hfit (fun v hv => by rw [List.eq_of_mem_replicate hv]; rfl)
  refine ⟨_, by rw [hr, hlen]; rfl, ?_, below_setRow hb.drew hB _⟩
  rw [setRow_heap w.drew g _ _ e _ hR]
  have := splice_rep h2
  unfold splice at this
  rw [← this]
  simp

set_option maxRecDepth 8000 in
set_option maxHeartbeats 2000000 in
theorem repeat_any (w : World) (g0 o0 c0 : Nat) (hs : Sl w (some ⟨g0, o0, none⟩) 1 c0 [.int .u8 48]) (n : Nat) (hn : n ≤ 1000000) :
    Calls Tryz.prog 121 #[.slice (some ⟨g0, o0, none⟩) 1 c0, .int .i64 n] w fun e w' => ∃ g, e = .returned (.slice (some ⟨g, 0, none⟩) n n) ∧ w'.ownsRow w.heap.size 5 1 (.slice (some ⟨g, 0, none⟩) n n) n (List.replicate n (.int .u8 48)) ∧ Below w.heap.size w w' := by
  have HS := Lib.hid hs
  have HM := Lib.hid (mul1 n (by omega) w)
  have hd1 : decide ((9223372036854775807 : Int) < (n : Int)) = false := decide_eq_false (by omega)
  have hd2 : ¬ (n : Int) < 0 := by omega
  have hd3 : ¬ (9223372036854775807 : Int) < (n : Int) := by omega
  clear hs
  go_enter Tryz.func121, Tryz.ntmps121
  go_wp2_with fail
  refine HM.out.mono ?_
  rintro e w1 ⟨rfl, rfl⟩
  go_upto_region 6 with fail
  clear hd1 hd2 hd3
  go_upto_region 7 with (at_make; (with_reducible refine wpL_make n (L := (n : Int)) (C := (n : Int)) info_u8 Tryz.underlying59 ?_ ?_ ?_ ?_ ?_ ?_ ?_ ?_); rfl; rfl; rfl; omega; omega; omega; omega; (intro g w2 hown hb hge hlt))
  have hrow := row_of hown
  have hsrc := HS.out.next hb
  have HROW := Lib.hid hrow
  have HSRC := Lib.hid hsrc
  have HB := Lib.hid hb
  clear hrow hsrc hown hb
  obtain ⟨m, hm0, hm3, hm1, hm2⟩ : ∃ m, Nat.min 1 n = m ∧ m ≤ 1 ∧ m ≤ n ∧ (1 ≤ n → 1 ≤ m) := ⟨_, rfl, Nat.min_le_left 1 n, Nat.min_le_right 1 n, fun h => Nat.le_min.2 ⟨Nat.le_refl _, h⟩⟩
  have HM0 := Lib.hid hm0
  clear hm0
  have hcs : ∀ j v, (List.replicate m (Value.int .u8 48))[j]? = some v → w2.cell? ((⟨g0, o0, none⟩ : Addr).add j) = some v := by
    intro j v hj
    obtain ⟨hlt, hv⟩ := List.getElem?_eq_some_iff.1 hj
    rw [List.length_replicate] at hlt
    have hj0 : j = 0 := by omega
    subst hj0
    rw [List.getElem_replicate] at hv
    obtain ⟨b', o', ha, _, hc⟩ := HSRC.out.cell 0 _ rfl
    simp only [Option.some.injEq, Addr.mk.injEq] at ha
    obtain ⟨rfl, rfl, _⟩ := ha
    rw [← hv, Addr.add_lit]
    exact hc
  have hfit : 0 + (List.replicate m (Value.int .u8 48)).length ≤ (rowR n 0).length := by
    rw [rowR_len (Nat.zero_le _), List.length_replicate]; omega
  have hone : ∀ v ∈ List.replicate m (Value.int .u8 48), v.oneCell' = true := by
    intro v hv
    rw [List.eq_of_mem_replicate hv]; rfl
  have HCS := Lib.hid hcs
  have HFIT := Lib.hid hfit
  have HONE := Lib.hid hone
  clear hcs hfit hone
  go_wp2_with ((with_reducible refine wpL_copy Tryz.underlying59 size_u8 (some ⟨g, 0, none⟩) (some ⟨g0, o0, none⟩) n n 1 c0 ?_ ?_ g 0 (rowR n 0) 5 HROW.out (List.replicate m (.int .u8 48)) ?_ (fun _ => ⟨rfl, ⟨g0, o0, none⟩, rfl, HCS.out⟩) HFIT.out HONE.out w1.heap.size w1 HB.out hge ?_); rfl; rfl; (exact List.length_replicate.trans HM0.out.symm); skip)
  intro w3 hw3 hb3
  have hw3' : Hid (w3.heap[g]? = some (.cells (rowR n m).toArray 5 (0, 0))) := by
    have h := hw3.out
    have e := splice_rep (n := n) (k := 0) (m := m) (by omega)
    rw [e, Nat.zero_add] at h
    exact h
  rw [List.length_replicate]
  clear hw3 HROW HSRC HS HM HB HCS HFIT HONE
  have HB3 := Lib.hid hb3
  have HM2 := Lib.hid hm2
  clear hb3 hm2
  go_wp2_with fail
  go_loopw [8] (fun i wr => ∃ k : Nat, k ≤ n ∧ (1 ≤ n → 1 ≤ k) ∧ i = .int .i64 k ∧ Hid (wr.heap[g]? = some (.cells (rowR n k).toArray 5 (0, 0))) ∧ Hid (Below w1.heap.size w1 wr)) (fun i _ => n - (intOf i).toNat)
  case atStart => exact ⟨m, hm1, HM2.out, rfl, hw3', HB3⟩
  case round =>
    obtain ⟨k, hk, hk1, rfl, hR, hB⟩ := hrel
    by_cases hlt : k < n
    · have hk1' := hk1 (by omega)
      clear hk1
      obtain ⟨q, hq0, hq1, hq2, hq3⟩ : ∃ q, Nat.min k (n - k) = q ∧ q ≤ k ∧ k + q ≤ n ∧ 1 ≤ q := ⟨_, rfl, Nat.min_le_left _ _, (by have : Nat.min k (n - k) ≤ n - k := Nat.min_le_right _ _; omega), Nat.le_min.2 ⟨hk1', by omega⟩⟩
      have HQ := Lib.hid hq0
      clear hq0
      have hne : ¬ (n = k) := by omega
      obtain ⟨w4, hrun, hg4, hb4⟩ := copy_run (P := Tryz.prog) Tryz.underlying59 size_u8 wr g n k q (e := 5) hR.out HQ.out hq1 hq2 (B := w1.heap.size) (w0 := w1) hB.out hge
      have HG4 := Lib.hid hg4
      have HB4 := Lib.hid hb4
      clear hg4 hb4
      go_wp2_with fail
      go_region
      all_goals
        go_wp2_with fail
        go_roundw
        case rel => exact ⟨k + q, hq2, fun _ => by omega, by go_num, HG4, HB4⟩
        case measure => simp [intOf]; omega
    · have hkn : k = n := by omega
      have hR' : Hid (wr.heap[g]? = some (.cells (rowR n n).toArray 5 (0, 0))) := by have h := hR.out; rw [hkn] at h; exact h
      clear hkn hk1
      go_wp2_with fail
      go_ret
      exact ⟨g, rfl, own_of hge (by omega) hR'.out, hB.out⟩
end Repeat
end Go.Proofs.YtjmmhbmbafjneaaGreatDoor

/-
  sim.Bits: is a text so many bits?
-/
namespace Go.Proofs.YtjmmhbmbafjneaaGreatDoor
open Go.RowKit Base
set_option linter.unusedVariables false
set_option linter.unusedSimpArgs false
namespace SimBits

theorem drop_all {α : Type} {p : α → Bool} {L : List α} (h : ∀ x ∈ L.dropWhile p, p x = true) : ∀ x ∈ L, p x = true := by
  induction L with
  | nil => intro x hx; cases hx
  | cons a t ih =>
    rw [List.dropWhile_cons] at h
    by_cases hp : p a = true
    · rw [if_pos hp] at h
      intro x hx
      rcases List.mem_cons.1 hx with rfl | hx
      · exact hp
      · exact ih h x hx
    · rw [if_neg hp] at h
      exact absurd (h a List.mem_cons_self) hp
theorem drop_nil {α : Type} {p : α → Bool} {L : List α} (h : ∀ x ∈ L, p x = true) : L.dropWhile p = [] := by
  induction L with
  | nil => rfl
  | cons a t ih =>
    rw [List.dropWhile_cons, if_pos (h a List.mem_cons_self)]
    exact ih fun x hx => h x (List.mem_cons_of_mem _ hx)
theorem drop_ne {α : Type} {p : α → Bool} {L : List α} (h : L.dropWhile p = []) : ∀ x ∈ L, p x = true := drop_all (by rw [h]; intro x hx; cases hx)

theorem set_bit (c : UInt8) : ([48, 49] : List UInt8).contains c = RefBits.bit c := by
  unfold RefBits.bit
  simp only [List.contains_cons, List.contains_nil, Bool.or_false]

theorem trim_all {l : List UInt8} (h : l.all RefBits.bit = true) : Lib.trimS l [48, 49] = [] := by
  rw [List.all_eq_true] at h
  unfold Lib.trimS Lib.trimLeftS Lib.trimRightS
  rw [drop_nil (L := l.reverse) (fun x hx => by rw [set_bit]; exact h x (List.mem_reverse.1 hx))]
  rfl
theorem trim_not {l : List UInt8} (h : Lib.trimS l [48, 49] = []) : l.all RefBits.bit = true := by
  rw [List.all_eq_true]
  unfold Lib.trimS Lib.trimLeftS Lib.trimRightS at h
  have h1 := drop_ne h
  intro x hx
  rw [← set_bit]
  exact drop_all (p := fun c => ([48, 49] : List UInt8).contains c) (L := l.reverse) (fun y hy => h1 y (List.mem_reverse.2 hy)) x (List.mem_reverse.2 hx)

set_option maxHeartbeats 1000000 in
theorem bits_any (w : World) (s : ByteArray) (hs : s.size ≤ 9223372036854775807) (n : Int) :
    Calls Tryz.prog 119 #[.string s, .int .i64 n] w fun e w' => e = .returned (.bool (RefBits.bits s.data.toList n)) ∧ Below w.heap.size w w' := by
  have HT := Lib.hid (LayB.trim_any s w hs)
  have hl : (s.data.toList.length : Int) = s.size := by rw [Array.length_toList]; rfl
  have HB : Hid (RefBits.bits s.data.toList n = (s.data.toList.all RefBits.bit && decide ((s.size : Int) = n))) := by show _ = _; unfold RefBits.bits; rw [hl]
  have HA := Lib.hid (fun h => trim_all (l := s.data.toList) h)
  have HN := Lib.hid (fun h => trim_not (l := s.data.toList) h)
  clear hl
  generalize RefBits.bits s.data.toList n = B at *
  generalize hab : s.data.toList.all RefBits.bit = ab at *
  generalize Lib.trimS s.data.toList [48, 49] = T at *
  by_cases hn : (s.size : Int) = n
  · have hv : ((s.size : Int) == n) = true := by simp [hn]
    cases ab
    · have hT : T ≠ [] := fun e => by have := HN.out e; cases this
      have hd2 : (⟨T.toArray⟩ : ByteArray).toList.isEmpty = false := by
        rw [Lib.toList_data]
        show T.toArray.toList.isEmpty = false
        cases T with
        | nil => exact absurd rfl hT
        | cons _ _ => rfl
      have HV : Hid (B = false) := by show _ = _; rw [HB.out]; rfl
      generalize (⟨T.toArray⟩ : ByteArray) = R at *
      clear hT hn
      go_enter Tryz.func119, Tryz.ntmps119
      go_wp2_with fail
      with_reducible refine HT.out.mono ?_
      rintro e w1 ⟨rfl, hb1⟩
      go_wp2_with fail
      go_ret
      exact ⟨by rw [HV.out]; rfl, hb1⟩
    · have hT : T = [] := HA.out rfl
      subst hT
      have HV : Hid (B = true) := by show _ = _; rw [HB.out, decide_eq_true hn]; rfl
      clear hn
      go_enter Tryz.func119, Tryz.ntmps119
      go_wp2_with fail
      with_reducible refine HT.out.mono ?_
      rintro e w1 ⟨rfl, hb1⟩
      go_wp2_with fail
      go_ret
      exact ⟨by rw [HV.out]; rfl, hb1⟩
  · have hv : ((s.size : Int) == n) = false := by simp [hn]
    have HV : Hid (B = false) := by show _ = _; rw [HB.out, decide_eq_false hn, Bool.and_false]
    clear hn
    go_enter Tryz.func119, Tryz.ntmps119
    go_wp2_with fail
    go_ret
    exact ⟨by rw [HV.out]; rfl, Below.refl _ _⟩
end SimBits
end Go.Proofs.YtjmmhbmbafjneaaGreatDoor
