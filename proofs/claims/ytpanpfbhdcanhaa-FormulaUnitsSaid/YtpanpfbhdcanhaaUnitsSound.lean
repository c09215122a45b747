/-
  What follows by units is so in each model: plain lists, no program.
-/
import Derived.Test.YtpanpfbhdcanhaaRefUnitsP
import Derived.Test.YtpanpfbhdcanhaaUnitsTop
import Derived.Test.YtpanpfbhdcanhaaModelsP
namespace Go.Proofs.Ytpanpfbhdcanhaa.Sound
open UnitsP (lit)
set_option linter.unusedVariables false
set_option linter.unusedSimpArgs false

theorem is_opp {s : List UInt8} {x : Int} (h0 : x ≠ 0) (h : CubeP.is s x = true) : CubeP.is s (-x) = false := by
  unfold CubeP.is at h ⊢
  simp only [Bool.and_eq_true, decide_eq_true_eq, beq_iff_eq] at h
  obtain ⟨_, h3⟩ := h
  have e : max (-x) (-(-x)) = max x (-x) := by omega
  rw [e, h3]
  have : (decide (0 < x) == decide (0 < -x)) = false := by
    rcases Int.lt_or_gt_of_ne h0 with h | h
    · rw [decide_eq_false (by omega), decide_eq_true (by omega)]; rfl
    · rw [decide_eq_true (by omega), decide_eq_false (by omega)]; rfl
  rw [this]
  simp

/-- The state says nothing that the model denies. -/
structure Good (σ : List Int) (s : List UInt8) : Prop where
  small : Units.Small σ
  zero : σ.getD 0 0 = 0
  so : ∀ x, lit σ.length x → UnitsP.value σ x = 1 → CubeP.is s x = true

theorem good_start (V : Nat) (s : List UInt8) : Good (List.replicate (V + 1) 0) s := by
  have h := RefU.rel_start V
  refine ⟨h.small, h.zero, fun x hx hv => ?_⟩
  rw [← h.val x hx] at hv
  simp [RefC.valueL] at hv

theorem good_put {σ : List Int} {s : List UInt8} (h : Good σ s) {x : Int} (hx : lit σ.length x) (hi : CubeP.is s x = true) : Good (UnitsP.put σ x) s := by
  refine ⟨Units.small_put h.small x, RefU.put_zero hx h.zero, ?_⟩
  rw [UnitsP.put_length]
  intro y hy hv
  rw [RefU.value_put hx hy] at hv
  by_cases e : y = x
  · rw [e]; exact hi
  · rw [if_neg e] at hv
    by_cases e2 : y = -x
    · rw [if_pos e2] at hv; omega
    · rw [if_neg e2] at hv; exact h.so y hy hv

theorem lit_neg {m : Nat} {x : Int} (h : lit m x) : lit m (-x) := by
  obtain ⟨h0, h1, h2⟩ := h
  exact ⟨by omega, by omega, by omega⟩

theorem not_neg {σ : List Int} {s : List UInt8} (h : Good σ s) {x : Int} (hx : lit σ.length x) (hi : CubeP.is s x = true) : ¬ UnitsP.value σ x < 0 := by
  intro hv
  have h1 := Units.value_small h.small x
  have h2 : UnitsP.value σ (-x) = 1 := by rw [RefU.value_neg hx.1]; omega
  have h3 := h.so (-x) (lit_neg hx) h2
  rw [is_opp hx.1 hi] at h3
  cases h3

theorem ask_zero (σ l : List Int) : ∀ (op found x : Int), 2 ≤ op → UnitsP.askGo σ l op found = some x → x = 0 := by
  induction l with
  | nil =>
    intro op found x h2 h
    simp only [UnitsP.askGo] at h
    rw [if_neg (by omega), if_pos (by omega)] at h
    simpa using h.symm
  | cons y r ih =>
    intro op found x h2 h
    simp only [UnitsP.askGo] at h
    split at h
    · simpa using h.symm
    · split at h
      · omega
      · split at h
        · exact ih _ _ _ (by omega) h
        · exact ih _ _ _ h2 h

theorem ask_none (σ l : List Int) : ∀ (op found : Int), 0 ≤ op → UnitsP.askGo σ l op found = none → op = 0 ∧ ∀ y ∈ l, UnitsP.value σ y < 0 := by
  induction l with
  | nil =>
    intro op found h0 h
    simp only [UnitsP.askGo] at h
    refine ⟨?_, by simp⟩
    split at h
    · assumption
    · split at h <;> cases h
  | cons y r ih =>
    intro op found h0 h
    simp only [UnitsP.askGo] at h
    split at h
    · cases h
    · rename_i h1
      split at h
      · have := (ih 1 y (by omega) h).1; omega
      · rename_i h2
        split at h
        · have := (ih (op + 1) found (by omega) h).1; omega
        · have H := ih op found h0 h
          refine ⟨H.1, fun z hz => ?_⟩
          rcases List.mem_cons.1 hz with rfl | hz
          · have hne : UnitsP.value σ z ≠ 0 := fun e => h2 ⟨e, H.1⟩
            omega
          · exact H.2 z hz

theorem ask_some (σ l : List Int) : ∀ (op found x : Int), 0 ≤ op → UnitsP.askGo σ l op found = some x → x ≠ 0 → (∀ y ∈ l, UnitsP.value σ y < 0 ∨ y = x) ∧ (op ≠ 0 → x = found) := by
  induction l with
  | nil =>
    intro op found x h0 h hx
    simp only [UnitsP.askGo] at h
    refine ⟨by simp, fun hop => ?_⟩
    rw [if_neg hop] at h
    split at h
    · simp at h; exact absurd h.symm hx
    · simpa using h.symm
  | cons y r ih =>
    intro op found x h0 h hx
    simp only [UnitsP.askGo] at h
    split at h
    · simp at h; exact absurd h.symm hx
    · rename_i h1
      split at h
      · rename_i h2
        have H := ih 1 y x (by omega) h hx
        have e := H.2 (by omega)
        refine ⟨fun z hz => ?_, fun hop => absurd h2.2 hop⟩
        rcases List.mem_cons.1 hz with rfl | hz
        · exact .inr e.symm
        · exact H.1 z hz
      · rename_i h2
        split at h
        · rename_i h3
          have hop : op ≠ 0 := fun e => h2 ⟨h3.1, e⟩
          exact absurd (ask_zero σ r _ _ x (by omega) h) hx
        · rename_i h3
          have H := ih op found x h0 h hx
          refine ⟨fun z hz => ?_, H.2⟩
          rcases List.mem_cons.1 hz with rfl | hz
          · by_cases hv : UnitsP.value σ z = 0
            · have hop : op ≠ 0 := fun e => h2 ⟨hv, e⟩
              have hf : z = found := Classical.byContradiction fun hn => h3 ⟨hv, hn⟩
              exact .inr (hf.trans (H.2 hop).symm)
            · left; omega
          · exact H.1 z hz

/-- A clause that the model makes true. -/
theorem ask_good {σ : List Int} {s : List UInt8} (h : Good σ s) {l : List Int} (hl : ∀ x ∈ l, lit σ.length x) (ht : l.any (CubeP.is s) = true) :
    (∃ x, UnitsP.ask σ l = some x ∧ (x ≠ 0 → lit σ.length x ∧ CubeP.is s x = true)) := by
  obtain ⟨y, hy, hi⟩ := List.any_eq_true.1 ht
  cases hq : UnitsP.ask σ l with
  | none => exact absurd ((ask_none σ l 0 0 (by omega) hq).2 y hy) (not_neg h (hl y hy) hi)
  | some x =>
    refine ⟨x, rfl, fun hx => ?_⟩
    rcases (ask_some σ l 0 0 x (by omega) hq hx).1 y hy with h1 | h1
    · exact absurd h1 (not_neg h (hl y hy) hi)
    · subst h1
      exact ⟨hl y hy, hi⟩

theorem pass_good {s : List UInt8} (cls : List (List Int)) (ht : ∀ c ∈ cls, c.any (CubeP.is s) = true) : ∀ (σ : List Int) (b : Bool), Good σ s → (∀ c ∈ cls, ∀ x ∈ c, lit σ.length x) →
    ∃ τ b', UnitsP.pass cls σ b = some (τ, b') ∧ Good τ s ∧ τ.length = σ.length := by
  induction cls with
  | nil => intro σ b h _; exact ⟨σ, b, rfl, h, rfl⟩
  | cons c r ih =>
    intro σ b h hl
    obtain ⟨x, hx, hg⟩ := ask_good h (hl c List.mem_cons_self) (ht c List.mem_cons_self)
    have htr : ∀ c ∈ r, c.any (CubeP.is s) = true := fun c hc => ht c (List.mem_cons_of_mem _ hc)
    have hlr : ∀ c ∈ r, ∀ x ∈ c, lit σ.length x := fun c hc => hl c (List.mem_cons_of_mem _ hc)
    simp only [UnitsP.pass, hx]
    by_cases h0 : x = 0
    · rw [if_pos h0]; exact ih htr σ b h hlr
    · rw [if_neg h0]
      obtain ⟨τ, b', h1, h2, h3⟩ := ih htr (UnitsP.put σ x) true (good_put h (hg h0).1 (hg h0).2) (by rw [UnitsP.put_length]; exact hlr)
      exact ⟨τ, b', h1, h2, by rw [h3, UnitsP.put_length]⟩

theorem close_good {s : List UInt8} (cls : List (List Int)) (ht : ∀ c ∈ cls, c.any (CubeP.is s) = true) : ∀ (n : Nat) (σ : List Int), Good σ s → (∀ c ∈ cls, ∀ x ∈ c, lit σ.length x) →
    ∃ τ, UnitsP.close cls n σ = some τ ∧ Good τ s ∧ τ.length = σ.length := by
  intro n
  induction n with
  | zero => intro σ h _; exact ⟨σ, rfl, h, rfl⟩
  | succ n ih =>
    intro σ h hl
    obtain ⟨τ, b, h1, h2, h3⟩ := pass_good cls ht σ false h hl
    simp only [UnitsP.close, h1]
    cases b
    · exact ⟨τ, rfl, h2, h3⟩
    · obtain ⟨ρ, r1, r2, r3⟩ := ih τ h2 (by rw [h3]; exact hl)
      exact ⟨ρ, by simpa using r1, r2, by rw [r3, h3]⟩

theorem assume_good {s : List UInt8} (l : List Int) (ht : ∀ x ∈ l, CubeP.is s x = true) : ∀ (σ : List Int), Good σ s → (∀ x ∈ l, lit σ.length x) →
    ∃ τ, UnitsP.assume l σ = some τ ∧ Good τ s ∧ τ.length = σ.length := by
  induction l with
  | nil => intro σ h _; exact ⟨σ, rfl, h, rfl⟩
  | cons x r ih =>
    intro σ h hl
    have hx := hl x List.mem_cons_self
    have hi := ht x List.mem_cons_self
    simp only [UnitsP.assume]
    rw [if_neg (not_neg h hx hi)]
    obtain ⟨τ, h1, h2, h3⟩ := ih (fun y hy => ht y (List.mem_cons_of_mem _ hy)) (UnitsP.put σ x) (good_put h hx hi) (by rw [UnitsP.put_length]; exact fun y hy => hl y (List.mem_cons_of_mem _ hy))
    exact ⟨τ, h1, h2, by rw [h3, UnitsP.put_length]⟩

/-- A model that makes the assumed literals true: there is a way, and all that is told is so. -/
theorem run_good {V : Nat} {cls : List (List Int)} {l : List Int} (hc : Formula.check V cls = 0) (hl : ∀ x ∈ l, lit (V + 1) x) {s : ByteArray} (hs : s ∈ ModelsP.models V cls l) :
    ∃ τ, Units.run V cls l = some τ ∧ ∀ x ∈ Units.outOf (Units.run V cls l), CubeP.is s.data.toList x = true := by
  unfold ModelsP.models ModelsP.holds True.tru at hs
  simp only [List.mem_filter, Bool.and_eq_true, List.all_eq_true] at hs
  obtain ⟨_, ⟨_, hcl⟩, hla⟩ := hs
  have hcl' : ∀ c ∈ cls, c.any (CubeP.is s.data.toList) = true := fun c hc => hcl c hc
  have hlen : (List.replicate (V + 1) (0 : Int)).length = V + 1 := by simp
  have hlit := fun c hm => Units.check_lit hc c hm
  obtain ⟨σ, a1, a2, a3⟩ := assume_good l hla (List.replicate (V + 1) 0) (good_start V s.data.toList) (by rw [hlen]; exact hl)
  rw [hlen] at a3
  obtain ⟨τ, b1, b2, b3⟩ := close_good cls hcl' (UnitsP.zeros σ + 1) σ a2 (by rw [a3]; exact hlit)
  have hrun : Units.run V cls l = some τ := by
    unfold Units.run Units.start
    rw [Int.toNat_natCast, a1]
    exact b1
  refine ⟨τ, hrun, fun x hx => ?_⟩
  rw [hrun] at hx
  unfold Units.outOf at hx
  rw [RefU.mem_told b2.small τ 0 (fun k _ => by simp) x] at hx
  obtain ⟨k, hk, h0, rfl⟩ := hx
  have hsm := b2.small k
  have hk0 : k ≠ 0 := by
    intro e
    subst e
    exact h0 b2.zero
  have hcase : τ.getD k 0 = 1 ∨ τ.getD k 0 = -1 := by omega
  rcases hcase with e | e
  · rw [e]
    have hv := b2.so ((k : Nat) : Int) ⟨by omega, by omega, by omega⟩ (by unfold UnitsP.value; rw [if_neg (by omega)]; simpa using e)
    simpa using hv
  · rw [e]
    have hv := b2.so (-((k : Nat) : Int)) ⟨by omega, by omega, by omega⟩ (by unfold UnitsP.value; rw [if_pos (by omega)]; simp only [Int.neg_neg, Int.toNat_natCast]; rw [e]; rfl)
    have e2 : (-1 : Int) * ((0 + k : Nat) : Int) = -((k : Nat) : Int) := by omega
    rw [e2]
    exact hv

/-- What the law FormulaUnits asks. -/
theorem law {vars : Int} {cls : List (List Int)} {l : List Int} :
    ((Units.spec vars cls l).2.2 ≠ 0 → (Units.spec vars cls l).1 = []) ∧
    ((Units.spec vars cls l).2.2 = 0 → Formula.check vars cls = 0 ∧ ((Units.spec vars cls l).2.1 = false → ModelsP.models vars cls l = [] ∧ (Units.spec vars cls l).1 = []) ∧
      ((Units.spec vars cls l).2.1 = true → ∀ s ∈ ModelsP.models vars cls l, ∀ x ∈ (Units.spec vars cls l).1, CubeP.is s.data.toList x = true)) := by
  unfold Units.spec
  by_cases hc : Formula.check vars cls = 0
  · rw [if_pos hc]
    by_cases hb : l.any (Clause.badL vars) = true
    · rw [if_pos hb]
      exact ⟨fun _ => rfl, fun h => by simp at h⟩
    · rw [if_neg hb]
      refine ⟨fun h => absurd rfl h, fun _ => ⟨hc, ?_⟩⟩
      have hv : 0 ≤ vars ∧ vars ≤ 262144 := by
        have h := hc
        unfold Formula.check at h
        split at h
        · omega
        · rename_i hb
          unfold Formula.bad at hb
          simp only [Bool.not_eq_true, Bool.or_eq_false_iff, decide_eq_false_iff_not] at hb
          omega
      obtain ⟨V, rfl⟩ : ∃ V : Nat, vars = V := ⟨vars.toNat, by omega⟩
      have hl : ∀ x ∈ l, lit (V + 1) x := fun x hx => by
        have h := List.any_eq_false.1 (Bool.eq_false_iff.2 hb) x hx
        exact Units.badL_lit (vars := V) (by omega) (by omega) (by simpa using h)
      refine ⟨fun h => ⟨?_, ?_⟩, fun _ s hs => ?_⟩
      · refine List.eq_nil_iff_forall_not_mem.2 fun s hs => ?_
        obtain ⟨τ, h1, _⟩ := run_good hc hl hs
        simp only [h1, Option.isSome_some] at h
        cases h
      · simp only at h ⊢
        cases hr : Units.run V cls l with
        | none => rfl
        | some τ => rw [hr] at h; simp at h
      · obtain ⟨_, _, h2⟩ := run_good hc hl hs
        exact h2
  · rw [if_neg hc]
    exact ⟨fun _ => rfl, fun h => by simp at h⟩

end Go.Proofs.Ytpanpfbhdcanhaa.Sound
