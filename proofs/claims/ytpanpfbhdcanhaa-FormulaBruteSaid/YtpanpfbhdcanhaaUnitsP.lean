/-
  What follows by units, as plain lists of numbers: the state is a list of -1, 0, 1, one of each variable. No program.
-/
import Derived.Test.YtpanpfbhdcanhaaBase
namespace Go.Proofs.Ytpanpfbhdcanhaa.UnitsP
set_option linter.unusedVariables false

def value (σ : List Int) (x : Int) : Int := if x < 0 then -(σ.getD (-x).toNat 0) else σ.getD x.toNat 0

def put (σ : List Int) (x : Int) : List Int := if x < 0 then σ.set (-x).toNat (-1) else σ.set x.toNat 1

/-- The one literal that a clause leaves; 0: none, or more; none: there is no way. -/
def askGo (σ : List Int) : List Int → Int → Int → Option Int
  | [], op, found => if op = 0 then none else if 1 < op then some 0 else some found
  | x :: r, op, found =>
    if 0 < value σ x then some 0
    else if value σ x = 0 ∧ op = 0 then askGo σ r 1 x
    else if value σ x = 0 ∧ x ≠ found then askGo σ r (op + 1) found
    else askGo σ r op found

def ask (σ : List Int) (l : List Int) : Option Int := askGo σ l 0 0

/-- One pass over the clauses. -/
def pass : List (List Int) → List Int → Bool → Option (List Int × Bool)
  | [], σ, again => some (σ, again)
  | c :: r, σ, again =>
    match ask σ c with
    | none => none
    | some x => if x = 0 then pass r σ again else pass r (put σ x) true

def close (cls : List (List Int)) : Nat → List Int → Option (List Int)
  | 0, σ => some σ
  | n + 1, σ =>
    match pass cls σ false with
    | none => none
    | some (σ', again) => if again then close cls n σ' else some σ'

/-- The assumed literals, one by one. -/
def assume : List Int → List Int → Option (List Int)
  | [], σ => some σ
  | x :: r, σ => if value σ x < 0 then none else assume r (put σ x)

/-- What is told of the end. -/
def told : List Int → Nat → List Int
  | [], _ => []
  | n :: r, v => (if n ≠ 0 then [n * (v : Int)] else []) ++ told r (v + 1)

def zeros (σ : List Int) : Nat := σ.count 0

def lit (m : Nat) (x : Int) : Prop := x ≠ 0 ∧ -(m : Int) < x ∧ x < m

theorem lit_toNat {m : Nat} {x : Int} (h : lit m x) : (if x < 0 then (-x).toNat else x.toNat) < m ∧ 0 < (if x < 0 then (-x).toNat else x.toNat) := by
  obtain ⟨h0, h1, h2⟩ := h
  split <;> omega

theorem put_length (σ : List Int) (x : Int) : (put σ x).length = σ.length := by unfold put; split <;> simp

theorem count_set_le (σ : List Int) (k : Nat) (v : Int) (hv : v ≠ 0) : (σ.set k v).count 0 ≤ σ.count 0 := by
  induction σ generalizing k with
  | nil => simp
  | cons a r ih =>
    cases k with
    | zero => simp [List.count_cons, hv]
    | succ k => simp only [List.set_cons_succ, List.count_cons]; have := ih k; omega

theorem count_set_lt (σ : List Int) (k : Nat) (v : Int) (hv : v ≠ 0) (hk : k < σ.length) (h0 : σ.getD k 0 = 0) : (σ.set k v).count 0 < σ.count 0 := by
  induction σ generalizing k with
  | nil => simp at hk
  | cons a r ih =>
    cases k with
    | zero =>
      simp at h0
      subst h0
      simp [hv]
    | succ k =>
      simp only [List.set_cons_succ, List.count_cons]
      have := ih k (by simpa using hk) (by simpa using h0)
      omega

theorem zeros_put (σ : List Int) (x : Int) (hx : lit σ.length x) (h : value σ x = 0) : zeros (put σ x) < zeros σ := by
  unfold zeros put
  obtain ⟨h0, h1, h2⟩ := hx
  unfold value at h
  by_cases hn : x < 0
  · rw [if_pos hn] at h ⊢
    exact count_set_lt σ _ _ (by decide) (by omega) (by omega)
  · rw [if_neg hn] at h ⊢
    exact count_set_lt σ _ _ (by decide) (by omega) h

theorem askGo_val (σ : List Int) (l : List Int) (op found : Int) (hp : 0 ≤ op) (hf : op ≠ 0 → value σ found = 0) (x : Int) (h : askGo σ l op found = some x) (h0 : x ≠ 0) : value σ x = 0 ∧ (x ∈ l ∨ (x = found ∧ op ≠ 0)) := by
  induction l generalizing op found with
  | nil =>
    simp only [askGo] at h
    split at h
    · cases h
    · rename_i h1
      split at h
      · simp at h; exact absurd h.symm h0
      · simp at h
        subst h
        exact ⟨hf h1, .inr ⟨rfl, h1⟩⟩
  | cons y r ih =>
    simp only [askGo] at h
    split at h
    · simp at h; exact absurd h.symm h0
    · split at h
      · rename_i h1
        have H := ih 1 y (by omega) (fun _ => h1.1) h
        rcases H.2 with h | h
        · exact ⟨H.1, .inl (List.mem_cons_of_mem _ h)⟩
        · exact ⟨H.1, .inl (by rw [h.1]; exact List.mem_cons_self)⟩
      · split at h
        · rename_i h1 h2
          have hop : op ≠ 0 := fun e => h1 ⟨h2.1, e⟩
          have H := ih (op + 1) found (by omega) (fun _ => hf hop) h
          rcases H.2 with h | h
          · exact ⟨H.1, .inl (List.mem_cons_of_mem _ h)⟩
          · exact ⟨H.1, .inr ⟨h.1, hop⟩⟩
        · have H := ih op found hp hf h
          rcases H.2 with h | h
          · exact ⟨H.1, .inl (List.mem_cons_of_mem _ h)⟩
          · exact ⟨H.1, .inr h⟩

theorem ask_val (σ : List Int) (l : List Int) (x : Int) (h : ask σ l = some x) (h0 : x ≠ 0) : value σ x = 0 ∧ x ∈ l := by
  have H := askGo_val σ l 0 0 (by omega) (fun h => absurd rfl h) x h h0
  rcases H.2 with h | h
  · exact ⟨H.1, h⟩
  · exact absurd rfl h.2

/-- A pass leaves the state's length, and never more that is open; one that goes again less. -/
theorem pass_zeros (cls : List (List Int)) (σ : List Int) (again : Bool) (hl : ∀ c ∈ cls, ∀ x ∈ c, lit σ.length x) (σ' : List Int) (b : Bool) (h : pass cls σ again = some (σ', b)) :
    σ'.length = σ.length ∧ zeros σ' ≤ zeros σ ∧ (again = false → b = true → zeros σ' < zeros σ) := by
  induction cls generalizing σ again with
  | nil =>
    simp only [pass, Option.some.injEq, Prod.mk.injEq] at h
    obtain ⟨rfl, rfl⟩ := h
    exact ⟨rfl, Nat.le_refl _, fun h1 h2 => by rw [h1] at h2; cases h2⟩
  | cons c r ih =>
    simp only [pass] at h
    split at h
    · cases h
    · rename_i x hx
      split at h
      · exact ih σ again (fun c hc => hl c (List.mem_cons_of_mem _ hc)) h
      · rename_i hx0
        have hv := ask_val σ c x hx hx0
        have hz := zeros_put σ x (hl c List.mem_cons_self x hv.2) hv.1
        have := ih (put σ x) true (by rw [put_length]; exact fun c hc => hl c (List.mem_cons_of_mem _ hc)) h
        rw [put_length] at this
        exact ⟨this.1, by omega, fun _ _ => by omega⟩

/-- The closing does not hang on its fuel, if that is more than what is open. -/
theorem close_fuel (cls : List (List Int)) : ∀ (n m : Nat) (σ : List Int), (∀ c ∈ cls, ∀ x ∈ c, lit σ.length x) → zeros σ < n → zeros σ < m → close cls n σ = close cls m σ := by
  intro n
  induction n with
  | zero => intro m σ _ h; omega
  | succ n ih =>
    intro m σ hl hn hm
    cases m with
    | zero => omega
    | succ m =>
      simp only [close]
      cases hp : pass cls σ false with
      | none => rfl
      | some p =>
        obtain ⟨σ', b⟩ := p
        have := pass_zeros cls σ false hl σ' b hp
        cases b
        · rfl
        · simp only [if_true]
          have hz := this.2.2 rfl rfl
          exact ih m σ' (by rw [this.1]; exact hl) (by omega) (by omega)

theorem close_step (cls : List (List Int)) (σ : List Int) (hl : ∀ c ∈ cls, ∀ x ∈ c, lit σ.length x) (σ' : List Int) (h : pass cls σ false = some (σ', true)) :
    close cls (zeros σ + 1) σ = close cls (zeros σ' + 1) σ' := by
  have := pass_zeros cls σ false hl σ' true h
  have hz := this.2.2 rfl rfl
  have e : close cls (zeros σ + 1) σ = close cls (zeros σ) σ' := by simp only [close, h, if_true]
  rw [e]
  exact close_fuel cls _ _ σ' (by rw [this.1]; exact hl) (by omega) (by omega)

end Go.Proofs.Ytpanpfbhdcanhaa.UnitsP
