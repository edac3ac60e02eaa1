/- Functions that call themselves. -/
import Derived.Test.YtagcgcpapjidcaaTomAH
set_option linter.unusedVariables false
set_option linter.unusedSimpArgs false
namespace Go.Tom
open Go

theorem cond_tt {α : Type} {c : Bool} {x y : α} (h : c = true) : (bif c then x else y) = x := by subst h; rfl
theorem cond_ff {α : Type} {c : Bool} {x y : α} (h : c = false) : (bif c then x else y) = y := by subst h; rfl

/-- n calls deep. -/
def iterF {α β : Type} (F : (α → Option β) → α → Option β) : Nat → α → Option β
  | 0 => fun _ => none
  | n + 1 => F (iterF F n)

open Classical in
/-- A function that calls itself. -/
noncomputable def fixM {α β : Type} (F : (α → Option β) → α → Option β) (x : α) : Option β :=
  if h : ∃ r, ∃ n, ∀ m, n ≤ m → iterF F m x = some r then some (Classical.choose h) else none

theorem fixM_of {α β : Type} {F : (α → Option β) → α → Option β} {x : α} {r : β} (n : Nat) (h : ∀ m, n ≤ m → iterF F m x = some r) : fixM F x = some r := by
  have hh : ∃ r, ∃ n, ∀ m, n ≤ m → iterF F m x = some r := ⟨r, n, h⟩
  unfold fixM
  rw [dif_pos hh]
  obtain ⟨n', h'⟩ := Classical.choose_spec hh
  have h1 := h (max n n') (Nat.le_max_left ..)
  have h2 := h' (max n n') (Nat.le_max_right ..)
  rw [h1] at h2
  exact h2.symm

theorem fixM_ind {α β : Type} {F : (α → Option β) → α → Option β} {C : α → β → Prop} (hF : ∀ self, (∀ x r, self x = some r → C x r) → ∀ x r, F self x = some r → C x r) {x : α} {r : β} (h : fixM F x = some r) : C x r := by
  have key : ∀ n x r, iterF F n x = some r → C x r := by
    intro n
    induction n with
    | zero => intro x r h; simp [iterF] at h
    | succ n ih => intro x r h; exact hF _ ih x r h
  unfold fixM at h
  split at h
  · rename_i hh
    obtain ⟨n, hn⟩ := Classical.choose_spec hh
    simp only [Option.some.injEq] at h
    rw [h] at hn
    exact key n x r (hn n (Nat.le_refl _))
  · simp at h
end Go.Tom
