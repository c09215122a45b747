/-
  The walks of package formula's units: value, put, ask, close.
-/
import Derived.Test.YtpanpfbhdcanhaaFormulaCheck
import Derived.Test.YtpanpfbhdcanhaaUnitsP
namespace Go.Proofs.Ytpanpfbhdcanhaa
open Go.RowKit Base
set_option linter.unusedVariables false
namespace Units

/-- The units lie in w: at block bu the header, at block g the row of the state σ, owned from B on. -/
structure US (w : World) (B bu g : Nat) (σ : List Int) : Prop where
  head : w.cell? ⟨bu, 0, none⟩ = some (.slice (some ⟨g, 0, none⟩) σ.length σ.length)
  ne : bu ≠ g
  lo : B ≤ bu
  row : w.ownsRow B 3 1 (.slice (some ⟨g, 0, none⟩) σ.length σ.length) σ.length (ints σ)

theorem US.lt {w : World} {B bu g : Nat} {σ : List Int} (h : US w B bu g σ) : g < w.heap.size ∧ B ≤ g := by
  have := h.row.lt g rfl
  exact ⟨this.2, this.1⟩

theorem US.cell {w : World} {B bu g : Nat} {σ : List Int} (h : US w B bu g σ) {k : Nat} (hk : k < σ.length) : w.cell? ⟨g, k, none⟩ = some (.int .i64 (σ.getD k 0)) := by
  rw [h.row.cellAt k (by omega)]
  unfold ints
  rw [List.getElem?_map, List.getElem?_eq_getElem hk, List.getD_eq_getElem?_getD, List.getElem?_eq_getElem hk]
  rfl

theorem US.set {w : World} {B bu g : Nat} {σ : List Int} (h : US w B bu g σ) (k : Nat) (v : Int) :
    US (w.setCell ⟨g, k, none⟩ (.int .i64 v)) B bu g (σ.set k v) := by
  have hs := h.row.stored k (.int .i64 v)
  refine ⟨?_, h.ne, h.lo, ?_⟩
  · rw [List.length_set]
    exact hs.2.cell h.head (by simpa using h.ne)
  · rw [List.length_set]
    have e : ints (σ.set k v) = (ints σ).set k (.int .i64 v) := by unfold ints; rw [List.map_set]
    rw [e]
    exact hs.1

/-- Every value of a state is -1, 0 or 1. -/
def Small (σ : List Int) : Prop := ∀ k, -1 ≤ σ.getD k 0 ∧ σ.getD k 0 ≤ 1

theorem small_put {σ : List Int} (h : Small σ) (x : Int) : Small (UnitsP.put σ x) := by
  have key : ∀ (k : Nat) (v : Int), -1 ≤ v ∧ v ≤ 1 → Small (σ.set k v) := by
    intro k v hv j
    rw [List.getD_eq_getElem?_getD, List.getElem?_set]
    by_cases hkj : k = j
    · rw [if_pos hkj]
      by_cases hl : j < σ.length
      · rw [if_pos (by omega)]; simpa using hv
      · rw [if_neg (by omega)]; simp
    · rw [if_neg hkj, ← List.getD_eq_getElem?_getD]
      exact h j
  unfold UnitsP.put
  split
  · exact key _ _ (by omega)
  · exact key _ _ (by omega)

theorem value_small {σ : List Int} (h : Small σ) (x : Int) : -1 ≤ UnitsP.value σ x ∧ UnitsP.value σ x ≤ 1 := by
  unfold UnitsP.value
  split
  · have := h (-x).toNat; omega
  · exact h x.toNat

set_option maxHeartbeats 1000000 in
theorem value_any (w : World) (B bu g : Nat) (σ : List Int) (h : US w B bu g σ) (hs : Small σ) (hm : σ.length ≤ 1073741824) (x : Int) (hx : UnitsP.lit σ.length x) :
    Calls Try.prog 42 #[.pointer (some ⟨bu, 0, none⟩), .int .i64 x] w fun e w' => e = .returned (.int .i64 (UnitsP.value σ x)) ∧ w = w' := by
  obtain ⟨x0, x1, x2⟩ := hx
  have hh := h.head
  by_cases hn : x < 0
  · obtain ⟨k, rfl⟩ : ∃ k : Nat, x = -((k : Int) + 1) := ⟨(-x - 1).toNat, by omega⟩
    have hk : k + 1 < σ.length := by omega
    have hc := h.cell hk
    have HV : Hid (UnitsP.value σ (-((k : Int) + 1)) = -(σ.getD (k + 1) 0)) := by
      show UnitsP.value σ (-((k : Int) + 1)) = _
      unfold UnitsP.value; rw [if_pos hn, show (-(-((k : Int) + 1))).toNat = k + 1 by omega]
    have hb := hs (k + 1)
    clear h hs hn x0 x1 x2
    generalize σ.getD (k + 1) 0 = q at *
    generalize σ.length = m at *
    go_enter Try.func42, Try.ntmps42
    go_wp2
    go_ret
    exact ⟨ret_int HV.out.symm, rfl⟩
  · obtain ⟨k, rfl⟩ : ∃ k : Nat, x = (k : Int) + 1 := ⟨(x - 1).toNat, by omega⟩
    have hk : k + 1 < σ.length := by omega
    have hc := h.cell hk
    have HV : Hid (UnitsP.value σ ((k : Int) + 1) = σ.getD (k + 1) 0) := by
      show UnitsP.value σ ((k : Int) + 1) = _
      unfold UnitsP.value; rw [if_neg hn]; rfl
    have hb := hs (k + 1)
    clear h hs hn x0 x1 x2
    generalize σ.getD (k + 1) 0 = q at *
    generalize σ.length = m at *
    go_enter Try.func42, Try.ntmps42
    go_wp2
    go_ret
    exact ⟨ret_int HV.out.symm, rfl⟩

/-- What a conflict is. -/
def chain : List PanicEntry := [{ v := .iface 53 (.agg #[]), recovered := false }]

set_option maxHeartbeats 1000000 in
theorem put_no (w : World) (B bu g : Nat) (σ : List Int) (h : US w B bu g σ) (hs : Small σ) (hm : σ.length ≤ 1073741824) (x : Int) (hx : UnitsP.lit σ.length x) (hv : UnitsP.value σ x < 0) :
    Calls Try.prog 25 #[.pointer (some ⟨bu, 0, none⟩), .int .i64 x] w fun e w' => e = .panicked chain ∧ w = w' := by
  have H := Lib.hid (value_any w B bu g σ h hs hm x hx)
  generalize UnitsP.value σ x = q at *
  clear h hs hx
  go_enter Try.func25, Try.ntmps25
  go_wp2_with fail
  refine H.out.mono ?_
  rintro e w1 ⟨rfl, rfl⟩
  go_wp2
  exact ⟨rfl, rfl, rfl⟩

/-- What put leaves. -/
def Put (w : World) (B bu g : Nat) (σ : List Int) (w' : World) : Prop := US w' B bu g σ ∧ w.grownBy w' (some g) ∧ w'.heap.size = w.heap.size

theorem set_set (σ : List Int) (k : Nat) (a b : Int) : (σ.set k a).set k b = σ.set k b := by simp

set_option maxHeartbeats 2000000 in
theorem put_yes (w : World) (B bu g : Nat) (σ : List Int) (h : US w B bu g σ) (hs : Small σ) (hm : σ.length ≤ 1073741824) (x : Int) (hx : UnitsP.lit σ.length x) (hv : 0 ≤ UnitsP.value σ x) :
    Calls Try.prog 25 #[.pointer (some ⟨bu, 0, none⟩), .int .i64 x] w fun e w' => e = .returned (.tuple #[]) ∧ Put w B bu g (UnitsP.put σ x) w' := by
  have H := Lib.hid (value_any w B bu g σ h hs hm x hx)
  have US0 := Lib.hid h
  generalize UnitsP.value σ x = q at *
  obtain ⟨x0, x1, x2⟩ := hx
  have hh := h.head
  have hne := h.ne
  by_cases hn : x < 0
  · obtain ⟨k, rfl⟩ : ∃ k : Nat, x = -((k : Int) + 1) := ⟨(-x - 1).toNat, by omega⟩
    have hk : k + 1 < σ.length := by omega
    have hc := h.cell hk
    have hf := h.row.frozenAt (k + 1)
    have h1 := h.set (k + 1) 1
    have hh1 := h1.head
    have hc1 := h1.cell (k := k + 1) (by simpa using hk)
    have hf1 := h1.row.frozenAt (k + 1)
    have h2 := h1.set (k + 1) (-1)
    have g1 := (h.row.stored (k + 1) (.int .i64 1)).2
    have g2 := (h1.row.stored (k + 1) (.int .i64 (-1))).2
    rw [List.length_set] at hh1
    have HP : Hid (UnitsP.put σ (-((k : Int) + 1)) = (σ.set (k + 1) 1).set (k + 1) (-1)) := by
      show UnitsP.put σ (-((k : Int) + 1)) = _
      unfold UnitsP.put; rw [if_pos hn, set_set, show (-(-((k : Int) + 1))).toNat = k + 1 by omega]
    have HF : Hid (Put w B bu g ((σ.set (k + 1) 1).set (k + 1) (-1)) ((w.setCell ⟨g, k + 1, none⟩ (.int .i64 1)).setCell ⟨g, k + 1, none⟩ (.int .i64 (-1)))) :=
      ⟨h2, ⟨rfl, rfl, rfl, by simp, fun j hj hne => (g2.block j (by simpa using hj) hne).trans (g1.block j hj hne)⟩, by simp⟩
    clear h hs hn x0 x1 x2 h1 h2 g1 g2
    generalize σ.getD (k + 1) 0 = q' at *
    generalize (σ.set (k + 1) 1).getD (k + 1) 0 = q'' at *
    generalize σ.length = m at *
    go_enter Try.func25, Try.ntmps25
    go_wp2_with fail
    refine H.out.mono ?_
    rintro e w1 ⟨rfl, rfl⟩
    go_wp2
    go_end0
    exact ⟨rfl, by rw [HP.out]; exact HF.out⟩
  · obtain ⟨k, rfl⟩ : ∃ k : Nat, x = (k : Int) + 1 := ⟨(x - 1).toNat, by omega⟩
    have hk : k + 1 < σ.length := by omega
    have hc := h.cell hk
    have hf := h.row.frozenAt (k + 1)
    have h1 := h.set (k + 1) 1
    have g1 := (h.row.stored (k + 1) (.int .i64 1)).2
    have HP : Hid (UnitsP.put σ ((k : Int) + 1) = σ.set (k + 1) 1) := by
      show UnitsP.put σ ((k : Int) + 1) = _
      unfold UnitsP.put; rw [if_neg hn]; rfl
    have HF : Hid (Put w B bu g (σ.set (k + 1) 1) (w.setCell ⟨g, k + 1, none⟩ (.int .i64 1))) := ⟨h1, g1, by simp⟩
    clear h hs hn x0 x1 x2 h1 g1
    generalize σ.getD (k + 1) 0 = q' at *
    generalize σ.length = m at *
    go_enter Try.func25, Try.ntmps25
    go_wp2_with fail
    refine H.out.mono ?_
    rintro e w1 ⟨rfl, rfl⟩
    go_wp2
    go_end0
    exact ⟨rfl, by rw [HP.out]; exact HF.out⟩

/-- What ask comes to. -/
def Ask (w : World) (r : Option Int) (e : Ending) (w' : World) : Prop := (match r with | none => e = .panicked chain | some x => e = .returned (.int .i64 x)) ∧ w = w'

theorem ask_some {w : World} {r : Option Int} {x : Int} (h : r = some x) : Ask w r (.returned (.int .i64 x)) w := by subst h; exact ⟨rfl, rfl⟩
theorem ask_none {w : World} {r : Option Int} (h : r = none) : Ask w r (.panicked chain) w := by subst h; exact ⟨rfl, rfl⟩

set_option maxHeartbeats 2000000 in
theorem ask_any (w : World) (B bu g : Nat) (σ : List Int) (h : US w B bu g σ) (hs : Small σ) (hm : σ.length ≤ 1073741824) (a : Option Addr) (n c : Nat) (l : List Int) (hsl : Sl w a n c (ints l))
    (hl : ∀ x ∈ l, UnitsP.lit σ.length x) :
    Calls Try.prog 43 #[.pointer (some ⟨bu, 0, none⟩), .slice a n c] w (Ask w (UnitsP.ask σ l)) := by
  have hlen : l.length = n := by have := hsl.len; rw [ints_len] at this; exact this
  have HL := Lib.hid hlen
  have hcap := hsl.cap
  have hbig := hsl.big
  have HV := Lib.hid fun (x : Int) (hx : x ∈ l) => value_any w B bu g σ h hs hm x (hl x hx)
  have HS := Lib.hid (value_small hs)
  clear h hs hm hl hlen
  go_enter Try.func43, Try.ntmps43
  go_wp2_with fail
  go_loop [5, 6, 12] (fun o f i => ∃ (k : Nat) (op found : Int), k ≤ n ∧ i = .int .i64 k ∧ o = .int .i64 op ∧ f = .int .i64 found ∧ 0 ≤ op ∧ op ≤ k ∧ Hid (UnitsP.ask σ l = UnitsP.askGo σ (l.drop k) op found)) (fun _ _ i => n - (intOf i).toNat)
  case atStart => exact ⟨0, 0, 0, Nat.zero_le _, rfl, rfl, rfl, by omega, by omega, rfl⟩
  case round =>
    obtain ⟨k, op, found, hk, rfl, rfl, rfl, ho, hok, hI⟩ := hrel
    by_cases hlt : k < n
    · obtain ⟨b, o, hx, rfl, hbs, hc⟩ := hsl.int hlt
      have H := Lib.hid (HV.out _ (List.getElem_mem hx))
      have hb := HS.out l[k]
      have HD := Lib.hid (show UnitsP.ask σ l = UnitsP.askGo σ (l[k] :: l.drop (k + 1)) op found by rw [hI.out, List.drop_eq_getElem_cons hx])
      generalize l[k] = x at *
      generalize hq : UnitsP.value σ x = q at *
      have HQ := Lib.hid hq
      clear hq hI
      by_cases h1 : 0 < q
      · have HA : Hid (UnitsP.ask σ l = some 0) := by show _ = _; rw [HD.out, UnitsP.askGo, HQ.out, if_pos h1]
        go_wp2_with fail
        refine H.out.mono ?_
        rintro e w1 ⟨rfl, rfl⟩
        go_wp2
        go_ret
        exact ask_some HA.out
      by_cases h2 : q = 0
      · by_cases h3 : op = 0
        · have HA : Hid (UnitsP.ask σ l = UnitsP.askGo σ (l.drop (k + 1)) 1 x) := by show _ = _; rw [HD.out, UnitsP.askGo, HQ.out, if_neg h1, if_pos ⟨h2, h3⟩]
          have t1 : (q == 0) = true := beq_iff_eq.2 h2
          have t2 : (op == 0) = true := beq_iff_eq.2 h3
          clear h2 h3
          go_wp2_with fail
          refine H.out.mono ?_
          rintro e w1 ⟨rfl, rfl⟩
          go_wp2
          go_round
          case rel => exact ⟨k + 1, 1, x, by omega, by go_num, rfl, rfl, by omega, by omega, HA.out⟩
          case measure => simp [intOf]; omega
        · by_cases h4 : x = found
          · have HA : Hid (UnitsP.ask σ l = UnitsP.askGo σ (l.drop (k + 1)) op found) := by
              show _ = _; rw [HD.out, UnitsP.askGo, HQ.out, if_neg h1, if_neg (fun h => h3 h.2), if_neg (fun h => h.2 h4)]
            have t1 : (q == 0) = true := beq_iff_eq.2 h2
            have t2 : (op == 0) = false := beq_eq_false_iff_ne.2 h3
            have t3 : (x != found) = false := by rw [bne, beq_iff_eq.2 h4]; rfl
            clear h2 h3 h4
            go_wp2_with fail
            refine H.out.mono ?_
            rintro e w1 ⟨rfl, rfl⟩
            go_wp2
            go_round
            case rel => exact ⟨k + 1, op, found, by omega, by go_num, rfl, rfl, by omega, by omega, HA.out⟩
            case measure => simp [intOf]; omega
          · have HA : Hid (UnitsP.ask σ l = UnitsP.askGo σ (l.drop (k + 1)) (op + 1) found) := by
              show _ = _; rw [HD.out, UnitsP.askGo, HQ.out, if_neg h1, if_neg (fun h => h3 h.2), if_pos ⟨h2, h4⟩]
            have t1 : (q == 0) = true := beq_iff_eq.2 h2
            have t2 : (op == 0) = false := beq_eq_false_iff_ne.2 h3
            have t3 : (x != found) = true := by rw [bne, beq_eq_false_iff_ne.2 h4]; rfl
            clear h2 h3 h4
            go_wp2_with fail
            refine H.out.mono ?_
            rintro e w1 ⟨rfl, rfl⟩
            go_wp2
            go_round
            case rel => exact ⟨k + 1, op + 1, found, by omega, by go_num, rfl, rfl, by omega, by omega, HA.out⟩
            case measure => simp [intOf]; omega
      · have HA : Hid (UnitsP.ask σ l = UnitsP.askGo σ (l.drop (k + 1)) op found) := by
          show _ = _; rw [HD.out, UnitsP.askGo, HQ.out, if_neg h1, if_neg (fun h => h2 h.1), if_neg (fun h => h2 h.1)]
        have t1 : (q == 0) = false := beq_eq_false_iff_ne.2 h2
        clear h2
        go_wp2_with fail
        refine H.out.mono ?_
        rintro e w1 ⟨rfl, rfl⟩
        go_wp2
        go_round
        case rel => exact ⟨k + 1, op, found, by omega, by go_num, rfl, rfl, by omega, by omega, HA.out⟩
        case measure => simp [intOf]; omega
    · have HD := Lib.hid (show UnitsP.ask σ l = UnitsP.askGo σ [] op found by rw [hI.out, List.drop_of_length_le (by rw [HL.out]; omega)])
      clear hI
      by_cases h1 : op = 0
      · have HA : Hid (UnitsP.ask σ l = none) := by show _ = _; rw [HD.out, UnitsP.askGo, if_pos h1]
        have t1 : (op == 0) = true := beq_iff_eq.2 h1
        clear h1
        go_wp2
        exact ⟨rfl, ask_none HA.out⟩
      · have t1 : (op == 0) = false := beq_eq_false_iff_ne.2 h1
        by_cases h2 : 1 < op
        · have HA : Hid (UnitsP.ask σ l = some 0) := by show _ = _; rw [HD.out, UnitsP.askGo, if_neg h1, if_pos h2]
          clear h1
          go_wp2
          go_ret
          exact ask_some HA.out
        · have HA : Hid (UnitsP.ask σ l = some found) := by show _ = _; rw [HD.out, UnitsP.askGo, if_neg h1, if_neg h2]
          clear h1
          go_wp2
          go_ret
          exact ask_some HA.out

theorem Put.below {w w' W0 : World} {B bu g : Nat} {σ : List Int} (h : Put w B bu g σ w') (hb : Below B W0 w) (hB : B ≤ w.heap.size) (hg : B ≤ g) : Below B W0 w' :=
  hb.grown h.2.1 hB fun k hk => by simp only [Option.some.injEq] at hk; omega

/-- What close leaves. -/
def Closed (W0 : World) (B bu g m hsz : Nat) (r : Option (List Int)) (e : Ending) (w' : World) : Prop :=
  match r with
  | none => e = .panicked chain ∧ Below B W0 w'
  | some σ => e = .returned (.tuple #[]) ∧ US w' B bu g σ ∧ Small σ ∧ σ.length = m ∧ Below B W0 w' ∧ w'.heap.size = hsz

theorem closed_none {W0 : World} {B bu g m hsz : Nat} {r : Option (List Int)} {w' : World} (h : r = none) (hb : Below B W0 w') : Closed W0 B bu g m hsz r (.panicked chain) w' := by subst h; exact ⟨rfl, hb⟩
theorem closed_some {W0 : World} {B bu g m hsz : Nat} {r : Option (List Int)} {w' : World} {σ : List Int} (h : r = some σ) (h1 : US w' B bu g σ) (h2 : Small σ) (h3 : σ.length = m) (hb : Below B W0 w') (hz : w'.heap.size = hsz) :
    Closed W0 B bu g m hsz r (.returned (.tuple #[])) w' := by subst h; exact ⟨rfl, h1, h2, h3, hb, hz⟩

theorem pass_hit (σ : List Int) (c : List Int) (r : List (List Int)) (b : Bool) (x : Int) (h : UnitsP.ask σ c = some x) (h0 : x ≠ 0) : UnitsP.pass (c :: r) σ b = UnitsP.pass r (UnitsP.put σ x) true := by
  simp only [UnitsP.pass, h, if_neg h0]
theorem pass_miss (σ : List Int) (c : List Int) (r : List (List Int)) (b : Bool) (h : UnitsP.ask σ c = some 0) : UnitsP.pass (c :: r) σ b = UnitsP.pass r σ b := by
  simp only [UnitsP.pass, h, if_true]
theorem pass_no (σ : List Int) (c : List Int) (r : List (List Int)) (b : Bool) (h : UnitsP.ask σ c = none) : UnitsP.pass (c :: r) σ b = none := by
  simp only [UnitsP.pass, h]

set_option maxHeartbeats 4000000 in
theorem close_any (W0 w : World) (B bu g : Nat) (σ0 : List Int) (h : US w B bu g σ0) (hs : Small σ0) (hm : σ0.length ≤ 1073741824) (a : Option Addr) (n c : Nat) (vs : List Value) (cls : List (List Int))
    (hsl : Sl2 W0 a n c vs cls) (hW0 : W0.heap.size ≤ B) (hb : Below B W0 w) (hB : B ≤ w.heap.size) (hl : ∀ c ∈ cls, ∀ x ∈ c, UnitsP.lit σ0.length x) :
    Calls Try.prog 26 #[.pointer (some ⟨bu, 0, none⟩), .slice a n c] w (Closed W0 B bu g σ0.length w.heap.size (UnitsP.close cls (UnitsP.zeros σ0 + 1) σ0)) := by
  have HL := Lib.hid hsl.len
  have hcap := hsl.sl.cap
  have hbig := hsl.sl.big
  have HLIT := Lib.hid hl
  have hgB := h.lt.2
  have HM := Lib.hid hm
  have US0 := Lib.hid h
  have HS0 := Lib.hid hs
  have HB0 := Lib.hid hb
  obtain ⟨hz, hhz⟩ : ∃ z, z = w.heap.size := ⟨_, rfl⟩
  have HZ := Lib.hid hhz
  obtain ⟨m, hmm⟩ : ∃ m, m = σ0.length := ⟨_, rfl⟩
  have HMM := Lib.hid hmm
  have hBz : B ≤ hz := by omega
  clear h hs hm hl hb hhz hmm hB
  go_enter Try.func26, Try.ntmps26
  go_wp2_with fail
  go_loopg [4] (UnitsP.zeros σ0 + 1) (fun gz ag wr => ∃ (σ : List Int) (b : Bool), ag = .bool b ∧ Hid (gz = if b then UnitsP.zeros σ + 1 else 0) ∧ Hid (UnitsP.close cls (UnitsP.zeros σ0 + 1) σ0 = if b then UnitsP.close cls (UnitsP.zeros σ + 1) σ else some σ) ∧
      Hid (US wr B bu g σ) ∧ Hid (Small σ) ∧ Hid (σ.length = m) ∧ Hid (Below B W0 wr) ∧ Hid (wr.heap.size = hz))
  case atStart => exact ⟨σ0, true, rfl, rfl, rfl, US0.out, HS0.out, HMM.out.symm, HB0.out, HZ.out.symm⟩
  case round =>
    obtain ⟨σ, b, rfl, hgz, hcl, hus, hsm, hln, hbe, hsz⟩ := hrel
    obtain ⟨wo, rfl⟩ : ∃ wo : World, wo = wr := ⟨_, rfl⟩
    cases b
    · go_wp2_with fail
      go_end0
      have e1 := HZ.out
      have e2 := HMM.out
      subst e1; subst e2
      exact closed_some (hcl.out.trans (if_neg (by decide))) hus.out hsm.out hln.out hbe.out hsz.out
    · have hcl' : Hid (UnitsP.close cls (UnitsP.zeros σ0 + 1) σ0 = UnitsP.close cls (UnitsP.zeros σ + 1) σ) := hcl.out.trans (if_pos rfl)
      have hgz' : Hid (gk = UnitsP.zeros σ + 1) := hgz.out.trans (if_pos rfl)
      clear hcl hgz
      go_wp2_with fail
      go_loopw [4, 11] (fun ag i wr => ∃ (k : Nat) (τ : List Int) (b : Bool), k ≤ n ∧ i = .int .i64 k ∧ ag = .bool b ∧ Hid (UnitsP.pass cls σ false = UnitsP.pass (cls.drop k) τ b) ∧
          Hid (US wr B bu g τ) ∧ Hid (Small τ) ∧ Hid (τ.length = m) ∧ Hid (Below B W0 wr) ∧ Hid (wr.heap.size = hz)) (fun _ i _ => n - (intOf i).toNat)
      case atStart => exact ⟨0, σ, false, Nat.zero_le _, rfl, rfl, rfl, hus, hsm, hln, hbe, hsz⟩
      case round =>
        obtain ⟨k, τ, b, hk, rfl, rfl, hpa, hus', hsm', hln', hbe', hsz'⟩ := hrel
        by_cases hlt : k < n
        · obtain ⟨b', o, a', c', hx, rfl, hbs, hc, hrow, _⟩ := hsl.at hlt
          have hcr : wr.cell? ⟨b', o + k, none⟩ = some (.slice a' cls[k].length c') := (hbe'.out.cell (p := ⟨b', o + k, none⟩) (Nat.lt_of_lt_of_le hbs hW0)).trans hc
          have hlk : ∀ x ∈ cls[k], UnitsP.lit τ.length x := fun x hx' => by rw [hln'.out, HMM.out]; exact HLIT.out _ (List.getElem_mem hx) x hx'
          have H := Lib.hid (ask_any wr B bu g τ hus'.out hsm'.out (by rw [hln'.out, HMM.out]; exact HM.out) a' cls[k].length c' cls[k] (hrow.below hbe'.out hW0) hlk)
          have HLK := Lib.hid hlk
          have HPA := Lib.hid (show UnitsP.pass cls σ false = UnitsP.pass (cls[k] :: cls.drop (k + 1)) τ b by rw [hpa.out, List.drop_eq_getElem_cons hx])
          clear hc hrow hlk hpa
          generalize hq : UnitsP.ask τ cls[k] = q at *
          have HQ := Lib.hid hq
          clear hq
          generalize cls[k] = ck at *
          generalize hlen : ck.length = lk at *
          have HLEN := Lib.hid hlen
          clear hlen
          cases q with
          | none =>
            have HN : Hid (UnitsP.close cls (UnitsP.zeros σ0 + 1) σ0 = none) := by
              show _ = _
              rw [hcl'.out]
              simp only [UnitsP.close, HPA.out, pass_no τ ck _ b HQ.out]
            go_wp2_with fail
            refine H.out.mono ?_
            rintro e w1 ⟨rfl, rfl⟩
            go_wp2_with fail
            exact ⟨rfl, closed_none HN.out hbe'.out⟩
          | some x =>
            by_cases hx0 : x = 0
            · subst hx0
              have HP := Lib.hid (HPA.out.trans (pass_miss τ ck _ b HQ.out))
              go_wp2_with fail
              refine H.out.mono ?_
              rintro e w1 ⟨rfl, rfl⟩
              go_wp2_with fail
              go_roundw
              case rel => exact ⟨k + 1, τ, b, by omega, by go_num, rfl, HP, hus', hsm', hln', hbe', hsz'⟩
              case measure => simp [intOf]; omega
            · have t1 : (x != 0) = true := by rw [bne, beq_eq_false_iff_ne.2 hx0]; rfl
              have hval := UnitsP.ask_val τ ck x HQ.out hx0
              have HP := Lib.hid (HPA.out.trans (pass_hit τ ck _ b x HQ.out hx0))
              have HPUT := Lib.hid (put_yes wr B bu g τ hus'.out hsm'.out (by rw [hln'.out, HMM.out]; exact HM.out) x (HLK.out x hval.2) (by rw [hval.1]; exact Int.le_refl 0))
              clear hval hx0
              go_wp2_with fail
              refine H.out.mono ?_
              rintro e w1 ⟨rfl, rfl⟩
              go_wp2_with fail
              refine HPUT.out.mono ?_
              rintro e w2 ⟨rfl, hput⟩
              have HQ2 := Lib.hid hput
              clear hput
              go_wp2_with fail
              go_roundw
              case rel => exact ⟨k + 1, UnitsP.put τ x, true, by omega, by go_num, rfl, HP, HQ2.out.1, small_put hsm'.out x, by show _ = _; rw [UnitsP.put_length, hln'.out], HQ2.out.below hbe'.out (by rw [hsz'.out]; exact hBz) hgB, by show _ = _; rw [HQ2.out.2.2, hsz'.out]⟩
              case measure => simp [intOf]; omega
        · have HPA := Lib.hid (show UnitsP.pass cls σ false = some (τ, b) by rw [hpa.out, List.drop_of_length_le (by rw [HL.out]; omega)]; rfl)
          have hlσ : ∀ c ∈ cls, ∀ x ∈ c, UnitsP.lit σ.length x := by rw [hln.out, HMM.out]; exact HLIT.out
          have HC : Hid (UnitsP.close cls (UnitsP.zeros σ0 + 1) σ0 = if b then UnitsP.close cls (UnitsP.zeros τ + 1) τ else some τ) := by
            show _ = _
            rw [hcl'.out]
            cases b
            · simp only [UnitsP.close, HPA.out, Bool.false_eq_true, if_false]
            · exact UnitsP.close_step cls σ hlσ τ HPA.out
          have HZL := Lib.hid (UnitsP.pass_zeros cls σ false hlσ τ b HPA.out)
          clear hlσ hpa
          go_wp2_with fail
          go_roundg (if b then UnitsP.zeros τ + 1 else 0)
          case measure =>
            rw [hgz'.out]
            cases b
            · simp
            · simpa using HZL.out.2.2
          case rel => exact ⟨τ, b, rfl, rfl, HC, hus', hsm', hln', hbe', hsz'⟩
end Units
end Go.Proofs.Ytpanpfbhdcanhaa
