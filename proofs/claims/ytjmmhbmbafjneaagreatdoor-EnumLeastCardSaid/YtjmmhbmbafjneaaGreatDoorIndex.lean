/-
  strings.Index, strings.Contains at a text of one byte.
-/
import Derived.Test.YtjmmhbmbafjneaaGreatDoorBase
import Derived.Lib.Bytealg
import Derived.BigQuiet
namespace Go.Proofs.YtjmmhbmbafjneaaGreatDoor
open Go.RowKit Base
set_option linter.unusedVariables false
set_option linter.unusedSimpArgs false
namespace Circuit

/-- Where a byte stands in a text; -1: nowhere. -/
def at1 (s : ByteArray) (c : UInt8) : Int := Lib.indexByte s.data.toList c

set_option maxHeartbeats 1000000 in
theorem indexByte_any (s : ByteArray) (c : UInt8) (w : World) :
    Calls Tryz.prog 150 #[.string s, .int .u8 c.toNat] w fun e w' => e = .returned (.int .i64 (at1 s c)) ∧ w = w' := by
  have hrun : (callFunc 165 #[.string s, .int .u8 c.toNat]).run Tryz.prog w = .ok (.value (.int .i64 (at1 s c))) w := by
    rw [run_callFunc_extern Tryz.func165 (by kernel_rfl) (by kernel_rfl) (by kernel_rfl) (e := Extern.BytealgIndexByte.indexByte) (by kernel_rfl), Lib.run_indexByteString]
    simp [Result.andThen, at1]
  go_enter Tryz.func150, Tryz.ntmps150
  go_wp2
  go_ret
  exact ⟨rfl, rfl⟩

set_option maxHeartbeats 2000000 in
theorem indexLite_one (s k : ByteArray) (c : UInt8) (hk : k.data.toList = [c]) (hs : 1 < s.size) (w : World) :
    Calls Tryz.prog 139 #[.string s, .string k] w fun e w' => e = .returned (.int .i64 (at1 s c)) ∧ w = w' := by
  have hsz : k.size = 1 := by rw [Lib.size_eq, hk]; rfl
  have hn0 : ((k.size : Int) == 0) = false := by rw [hsz]; rfl
  have hn1 : ((k.size : Int) == 1) = true := by rw [hsz]; rfl
  have hlt : (0 : Int) < (k.size : Int) := by rw [hsz]; decide
  have hne : (k.toList == s.toList) = false := by
    rw [Lib.toList_data, Lib.toList_data, beq_eq_false_iff_ne]
    intro h
    rw [Lib.size_eq, ← h, hk] at hs
    simp at hs
  have hzk : 0 < k.size := by rw [hsz]; decide
  have hk0 : k[0]'hzk = c := by
    have h1 : k.data.toList[0]? = some c := by rw [hk]; rfl
    have h2 : k.data[0]? = some c := by rw [← Array.getElem?_toList]; exact h1
    obtain ⟨h3, h4⟩ := Array.getElem?_eq_some_iff.1 h2
    exact h4
  have IA := Lib.hid (fun U => indexByte_any s c U)
  have HK0 := Lib.hid hk0
  clear hk0 hk hsz
  go_enter Tryz.func139, Tryz.ntmps139
  go_wp2_with fail
  rw [HK0.out]
  refine (IA.out w).mono ?_
  rintro e w1 ⟨rfl, rfl⟩
  go_wp2_with fail
  go_ret
  exact ⟨rfl, rfl⟩

set_option maxHeartbeats 1000000 in
theorem index_one (s k : ByteArray) (c : UInt8) (hk : k.data.toList = [c]) (hs : 1 < s.size) (w : World) :
    Calls Tryz.prog 116 #[.string s, .string k] w fun e w' => e = .returned (.int .i64 (at1 s c)) ∧ w = w' := by
  have IA := Lib.hid (fun U => indexLite_one s k c hk hs U)
  clear hk hs
  go_enter Tryz.func116, Tryz.ntmps116
  go_wp2_with fail
  refine (IA.out w).mono ?_
  rintro e w1 ⟨rfl, rfl⟩
  go_wp2_with fail
  go_ret
  exact ⟨rfl, rfl⟩

set_option maxHeartbeats 1000000 in
theorem contains_one (s k : ByteArray) (c : UInt8) (hk : k.data.toList = [c]) (hs : 1 < s.size) (w : World) :
    Calls Tryz.prog 91 #[.string s, .string k] w fun e w' => e = .returned (.bool (decide (0 ≤ at1 s c))) ∧ w = w' := by
  have IA := Lib.hid (fun U => index_one s k c hk hs U)
  clear hk hs
  go_enter Tryz.func91, Tryz.ntmps91
  go_wp2_with fail
  refine (IA.out w).mono ?_
  rintro e w1 ⟨rfl, rfl⟩
  generalize hq : at1 s c = q
  have HQ := Lib.hid hq
  clear hq
  go_wp2_with fail
  go_ret
  exact ⟨ret_bool (by rw [HQ.out]), rfl⟩
end Circuit
end Go.Proofs.YtjmmhbmbafjneaaGreatDoor
