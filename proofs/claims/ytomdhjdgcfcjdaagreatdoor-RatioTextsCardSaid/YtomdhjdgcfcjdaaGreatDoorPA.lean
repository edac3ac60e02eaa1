/- Reckoning with the pure functions: what each leads to. -/
import Derived.Test.YtomdhjdgcfcjdaaGreatDoorTomAQ
import Derived.IntWalk
set_option linter.unusedVariables false
set_option linter.unusedSimpArgs false
namespace Go.Tom
open Go

/-- It answers, and the answer is such. -/
def Tot {α : Type} (o : Option α) (Q : α → Prop) : Prop := ∃ r, o = some r ∧ Q r

theorem Tot.some_iff {α : Type} {r : α} {Q : α → Prop} : Tot (some r) Q ↔ Q r := ⟨fun ⟨_, h, q⟩ => by cases h; exact q, fun h => ⟨r, rfl, h⟩⟩
theorem Tot.none_iff {α : Type} {Q : α → Prop} : Tot (none : Option α) Q ↔ False := ⟨fun ⟨_, h, _⟩ => by simp at h, fun h => h.elim⟩
theorem Tot.ass_iff {α : Type} {p : Prop} [Decidable p] {o : Option α} {Q : α → Prop} : Tot (ass p o) Q ↔ p ∧ Tot o Q := by
  unfold ass
  by_cases hp : p
  · rw [if_pos hp]; exact ⟨fun h => ⟨hp, h⟩, fun h => h.2⟩
  · rw [if_neg hp]; exact ⟨fun h => (none_iff.1 h).elim, fun h => absurd h.1 hp⟩
theorem Tot.bnd_iff {α β : Type} {x : α} {f : α → Option β} {Q : β → Prop} : Tot (bnd x f) Q ↔ Tot (f x) Q := Iff.rfl
theorem Tot.bind_iff {α β : Type} {o : Option α} {f : α → Option β} {Q : β → Prop} : Tot (o.bind f) Q ↔ Tot o (fun y => Tot (f y) Q) := by
  cases o with
  | none => simp [Tot]
  | some y => simp [Tot]
theorem Tot.map_iff {α β : Type} {o : Option α} {f : α → β} {Q : β → Prop} : Tot (o.map f) Q ↔ Tot o (fun y => Q (f y)) := by
  cases o with
  | none => simp [Tot]
  | some y => simp [Tot]
theorem Tot.cond_iff {α : Type} {b : Bool} {x y : Option α} {Q : α → Prop} : Tot (bif b then x else y) Q ↔ (b = true → Tot x Q) ∧ (b = false → Tot y Q) := by
  cases b <;> simp
theorem cond_some {α : Type} {b : Bool} {x y : α} : (bif b then some x else some y) = some (bif b then x else y) := by cases b <;> rfl
theorem Tot.eq_iff {α : Type} {o : Option α} {v : α} : Tot o (fun r => r = v) ↔ o = some v := by simp [Tot]
theorem Tot.mono {α : Type} {o : Option α} {Q Q' : α → Prop} (h : Tot o Q) (hq : ∀ r, Q r → Q' r) : Tot o Q' := by
  obtain ⟨r, h1, h2⟩ := h; exact ⟨r, h1, hq r h2⟩
theorem Tot.of_eq {α : Type} {o : Option α} {v : α} (h : o = some v) {Q : α → Prop} (hq : Q v) : Tot o Q := ⟨v, h, hq⟩

/-- Another round, or the answer. -/
def Nx {σ ρ : Type} (I : σ → Prop) (μ : σ → Nat) (n : Nat) (Q : ρ → Prop) : σ ⊕ ρ → Prop
  | .inl y => I y ∧ μ y < n
  | .inr r => Q r

theorem Nx.inl_iff {σ ρ : Type} {I : σ → Prop} {μ : σ → Nat} {n : Nat} {Q : ρ → Prop} {y : σ} : Nx I μ n Q (.inl y) ↔ I y ∧ μ y < n := Iff.rfl
theorem Nx.inr_iff {σ ρ : Type} {I : σ → Prop} {μ : σ → Nat} {n : Nat} {Q : ρ → Prop} {r : ρ} : Nx I μ n Q (.inr r) ↔ Q r := Iff.rfl

theorem Tot.loop {σ ρ : Type} {step : σ → Option (σ ⊕ ρ)} {Q : ρ → Prop} (I : σ → Prop) (μ : σ → Nat) (h : ∀ x, I x → Tot (step x) (Nx I μ (μ x) Q)) {x : σ} (hx : I x) : Tot (loopM step x) Q := by
  have key : ∀ n x, μ x < n → I x → Tot (loopM step x) Q := by
    intro n
    induction n with
    | zero => intro x h; omega
    | succ n ih =>
      intro x hn hI
      obtain ⟨s, hs, hq⟩ := h x hI
      rw [loopM_eq, hs]
      cases s with
      | inl y => exact ih y (by have := hq.2; omega) hq.1
      | inr r => exact ⟨r, rfl, hq⟩
  exact key _ x (Nat.lt_succ_self _) hx

/-- A function that calls itself. -/
theorem fixM_eq {α β : Type} {F : (α → Option β) → α → Option β} (G : α → β) (I : α → Prop) (μ : α → Nat)
    (h : ∀ self x, I x → (∀ y, I y → μ y < μ x → self y = some (G y)) → F self x = some (G x)) {x : α} (hx : I x) : fixM F x = some (G x) := by
  have key : ∀ n x, μ x < n → I x → ∀ m, n ≤ m → iterF F m x = some (G x) := by
    intro n
    induction n with
    | zero => intro x h; omega
    | succ n ih =>
      intro x hn hI m hm
      obtain ⟨m, rfl⟩ : ∃ m', m = m' + 1 := ⟨m - 1, by omega⟩
      exact h _ x hI fun y hy hlt => ih y (by omega) hy m (by omega)
  exact fixM_of _ (key _ x (Nat.lt_succ_self _) hx)

theorem w64 {x : Int} (h1 : -9223372036854775808 ≤ x) (h2 : x ≤ 9223372036854775807) : IntKind.i64.wrap x = x := IntWalk.i64_in x ⟨h1, h2⟩

theorem rd_eq {α : Type} {z : α} {xs : List α} {i : Int} (k : Nat) (hi : i = (k : Int)) (hk : k < xs.length) : rd z xs i = xs[k] := by
  subst hi; simp [rd, List.getD, List.getElem?_eq_getElem hk]
theorem wr_length {α : Type} {xs : List α} {i : Int} {y : α} : (wr xs i y).length = xs.length := by simp [wr]
theorem rd_mem {α : Type} {z : α} {xs : List α} {i : Int} (h0 : 0 ≤ i) (h1 : i < (xs.length : Int)) : rd z xs i ∈ xs := by
  rw [rd_eq i.toNat (by omega) (by omega)]; exact List.getElem_mem _
theorem rd_wr {α : Type} {z : α} {xs : List α} {i j : Int} {y : α} (h0 : 0 ≤ i) (h1 : i < (xs.length : Int)) (h2 : 0 ≤ j) : rd z (wr xs i y) j = if j = i then y else rd z xs j := by
  unfold rd wr
  by_cases h : j = i
  · subst h
    rw [if_pos rfl]
    simp [List.getD_eq_getElem?_getD, List.getElem?_set, show j.toNat < xs.length from by omega]
  · rw [if_neg h]
    simp [List.getD_eq_getElem?_getD, List.getElem?_set, show ¬ i.toNat = j.toNat from by omega]

theorem take_rd {α : Type} {z : α} {xs : List α} {x : Int} (h0 : 0 ≤ x) (h1 : x < (xs.length : Int)) : xs.take (x + 1).toNat = xs.take x.toNat ++ [rd z xs x] := by
  rw [rd_eq x.toNat (by omega) (by omega), show (x + 1).toNat = x.toNat + 1 from by omega, List.take_succ_eq_append_getElem]

/-- How many of the first n. -/
def cnt (p : Int → Bool) : Nat → Nat
  | 0 => 0
  | n + 1 => cnt p n + (bif p n then 1 else 0)
/-- A list that grows with each of the first n. -/
def buildL {α : Type} (f : Int → List α) : Nat → List α
  | 0 => []
  | n + 1 => buildL f n ++ f n

theorem cnt_step {p : Int → Bool} {x : Int} (h0 : 0 ≤ x) : cnt p (x + 1).toNat = cnt p x.toNat + (bif p x then 1 else 0) := by
  rw [show (x + 1).toNat = x.toNat + 1 from by omega]
  simp only [cnt, show ((x.toNat : Nat) : Int) = x from by omega]
theorem cnt_le {p : Int → Bool} : ∀ {n : Nat}, cnt p n ≤ n
  | 0 => Nat.le_refl _
  | n + 1 => by
    have := cnt_le (p := p) (n := n)
    simp only [cnt]
    cases p n <;> simp <;> omega
theorem cnt_congr {p q : Int → Bool} : ∀ {n : Nat}, (∀ k : Int, 0 ≤ k → k < (n : Int) → p k = q k) → cnt p n = cnt q n
  | 0, _ => rfl
  | n + 1, h => by
    simp only [cnt]
    rw [cnt_congr fun k a b => h k a (by omega), h n (by omega) (by omega)]
theorem cnt_mono {p : Int → Bool} : ∀ {n m : Nat}, n ≤ m → cnt p n ≤ cnt p m
  | n, 0, h => by rw [show n = 0 from by omega]; exact Nat.le_refl _
  | n, m + 1, h => by
    by_cases hn : n = m + 1
    · rw [hn]; exact Nat.le_refl _
    · have := cnt_mono (p := p) (show n ≤ m from by omega)
      simp only [cnt]
      omega
theorem cnt_pos {p : Int → Bool} : ∀ {n : Nat}, 0 < cnt p n ↔ ∃ k : Int, 0 ≤ k ∧ k < (n : Int) ∧ p k = true
  | 0 => ⟨fun h => by simp [cnt] at h, fun ⟨k, a, b, _⟩ => by omega⟩
  | n + 1 => by
    have ih := cnt_pos (p := p) (n := n)
    simp only [cnt]
    constructor
    · intro h
      by_cases hp : p n = true
      · exact ⟨n, by omega, by omega, hp⟩
      · rw [Bool.not_eq_true] at hp
        rw [hp] at h
        obtain ⟨k, a, b, c⟩ := ih.1 h
        exact ⟨k, a, by omega, c⟩
    · rintro ⟨k, a, b, c⟩
      by_cases hk : k = n
      · rw [hk] at c; rw [c]; simp
      · have := ih.2 ⟨k, a, by omega, c⟩
        omega
/-- Below two: no two different ones. -/
theorem cnt_lt_two {p : Int → Bool} : ∀ {n : Nat}, cnt p n < 2 ↔ ∀ j k : Int, 0 ≤ j → j < (n : Int) → 0 ≤ k → k < (n : Int) → p j = true → p k = true → j = k
  | 0 => ⟨fun _ j k a b => by omega, fun _ => by simp [cnt]⟩
  | n + 1 => by
    have ih := cnt_lt_two (p := p) (n := n)
    have hp := cnt_pos (p := p) (n := n)
    simp only [cnt]
    constructor
    · intro h j k a b c d hj hk
      by_cases hjn : j = n
      · by_cases hkn : k = n
        · omega
        · have h1 := hp.2 ⟨k, c, by omega, hk⟩
          rw [hjn] at hj
          rw [hj] at h
          simp at h
          omega
      · by_cases hkn : k = n
        · have h1 := hp.2 ⟨j, a, by omega, hj⟩
          rw [hkn] at hk
          rw [hk] at h
          simp at h
          omega
        · exact ih.1 (by omega) j k a (by omega) c (by omega) hj hk
    · intro h
      have h1 := ih.2 fun j k a b c d => h j k a (by omega) c (by omega)
      cases hpn : p n with
      | false => simpa using h1
      | true =>
        have : ¬ 0 < cnt p n := fun hc => by
          obtain ⟨k, a, b, c⟩ := hp.1 hc
          have := h k n a (by omega) (by omega) (by omega) c hpn
          omega
        simp; omega

theorem buildL_step {α : Type} {f : Int → List α} {x : Int} (h0 : 0 ≤ x) : buildL f (x + 1).toNat = buildL f x.toNat ++ f x := by
  rw [show (x + 1).toNat = x.toNat + 1 from by omega]
  simp only [buildL, show ((x.toNat : Nat) : Int) = x from by omega]
theorem mem_buildL {α : Type} {f : Int → List α} {a : α} : ∀ {n : Nat}, a ∈ buildL f n ↔ ∃ k : Int, 0 ≤ k ∧ k < (n : Int) ∧ a ∈ f k
  | 0 => ⟨fun h => by simp [buildL] at h, fun ⟨k, a, b, _⟩ => by omega⟩
  | n + 1 => by
    simp only [buildL, List.mem_append, mem_buildL (n := n)]
    constructor
    · rintro (⟨k, a, b, c⟩ | h)
      · exact ⟨k, a, by omega, c⟩
      · exact ⟨n, by omega, by omega, h⟩
    · rintro ⟨k, a, b, c⟩
      by_cases hk : k = n
      · right; rw [← hk]; exact c
      · left; exact ⟨k, a, by omega, c⟩
theorem buildL_congr {α : Type} {f g : Int → List α} : ∀ {n : Nat}, (∀ k : Int, 0 ≤ k → k < (n : Int) → f k = g k) → buildL f n = buildL g n
  | 0, _ => rfl
  | n + 1, h => by
    simp only [buildL]
    rw [buildL_congr fun k a b => h k a (by omega), h n (by omega) (by omega)]
theorem buildL_len {α : Type} {f : Int → List α} {c : Nat} (hf : ∀ k, (f k).length ≤ c) : ∀ {n : Nat}, (buildL f n).length ≤ c * n
  | 0 => by simp [buildL]
  | n + 1 => by
    have := buildL_len (f := f) hf (n := n)
    have := hf n
    simp only [buildL, List.length_append]
    rw [Nat.mul_add]
    omega

open Classical in
/-- A test, as it is told. -/
theorem Tot.dec {o : Option Bool} {P : Prop} (h : Tot o (fun b => b = true ↔ P)) : o = some (decide P) := by
  obtain ⟨b, h1, h2⟩ := h
  rw [h1]
  by_cases hp : P
  · rw [h2.2 hp, decide_eq_true hp]
  · rw [decide_eq_false hp]
    cases b with
    | false => rfl
    | true => exact absurd (h2.1 rfl) hp
end Go.Tom
