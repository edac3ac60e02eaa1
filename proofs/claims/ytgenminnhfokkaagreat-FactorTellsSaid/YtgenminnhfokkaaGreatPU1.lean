/- The plain side (part 1): what the functions of the program compute, and that the law holds. -/
import Derived.Test.YtgenminnhfokkaaGreatTomAQ
import Derived.IntWalk
import Derived.Test.YtgenminnhfokkaaGreatGenx
import Derived.Lib.ItoaNum
import Derived.Lib.Join
import Derived.Lib.Repeat
set_option linter.unusedVariables false
set_option linter.unusedSimpArgs false
namespace Go.Tom
open Go
def Tot {α : Type} (o : Option α) (Q : α → Prop) : Prop := ∃ r, o = some r ∧ Q r
theorem Tot.some_iff {α : Type} {r : α} {Q : α → Prop} : Tot (some r) Q ↔ Q r := ⟨fun ⟨_, h, q⟩ => by cases h; exact q, fun h => ⟨r, rfl, h⟩⟩
theorem Tot.none_iff {α : Type} {Q : α → Prop} : Tot (none : Option α) Q ↔ False := ⟨fun ⟨_, h, _⟩ => by simp at h, fun h => h.elim⟩
theorem Tot.ass_iff {α : Type} {p : Prop} [Decidable p] {o : Option α} {Q : α → Prop} : Tot (ass p o) Q ↔ p ∧ Tot o Q := by
 unfold ass
 by_cases hp : p
 ·rw [if_pos hp]; exact ⟨fun h => ⟨hp, h⟩, fun h => h.2⟩
 ·rw [if_neg hp]; exact ⟨fun h => (none_iff.1 h).elim, fun h => absurd h.1 hp⟩
theorem Tot.bnd_iff {α β : Type} {x : α} {f : α → Option β} {Q : β → Prop} : Tot (bnd x f) Q ↔ Tot (f x) Q := Iff.rfl
theorem Tot.bind_iff {α β : Type} {o : Option α} {f : α → Option β} {Q : β → Prop} : Tot (o.bind f) Q ↔ Tot o (fun y => Tot (f y) Q) := by
 cases o with
 | none => simp [Tot]
 | some y => simp [Tot]
theorem Tot.map_iff {α β : Type} {o : Option α} {f : α → β} {Q : β → Prop} : Tot (o.map f) Q ↔ Tot o (fun y => Q (f y)) := by
 cases o with
 | none => simp [Tot]
 | some y => simp [Tot]
theorem Tot.cond_iff {α : Type} {b : Bool} {x y : Option α} {Q : α → Prop} : Tot (bif b then x else y) Q ↔ (b = true → Tot x Q) ∧ (b = false → Tot y Q) := by
 cases b <;> simp
theorem cond_some {α : Type} {b : Bool} {x y : α} : (bif b then some x else some y) = some (bif b then x else y) := by cases b <;> rfl
theorem Tot.eq_iff {α : Type} {o : Option α} {v : α} : Tot o (fun r => r = v) ↔ o = some v := by simp [Tot]
theorem Tot.mono {α : Type} {o : Option α} {Q Q' : α → Prop} (h : Tot o Q) (hq : ∀ r, Q r → Q' r) : Tot o Q' := by
 obtain ⟨r, h1, h2⟩ := h; exact ⟨r, h1, hq r h2⟩
def Nx {σ ρ : Type} (I : σ → Prop) (μ : σ → Nat) (n : Nat) (Q : ρ → Prop) : σ ⊕ ρ → Prop
 | .inl y => I y ∧ μ y < n
 | .inr r => Q r
theorem Nx.inl_iff {σ ρ : Type} {I : σ → Prop} {μ : σ → Nat} {n : Nat} {Q : ρ → Prop} {y : σ} : Nx I μ n Q (.inl y) ↔ I y ∧ μ y < n := Iff.rfl
theorem Nx.inr_iff {σ ρ : Type} {I : σ → Prop} {μ : σ → Nat} {n : Nat} {Q : ρ → Prop} {r : ρ} : Nx I μ n Q (.inr r) ↔ Q r := Iff.rfl
theorem Tot.loop {σ ρ : Type} {step : σ → Option (σ ⊕ ρ)} {Q : ρ → Prop} (I : σ → Prop) (μ : σ → Nat) (h : ∀ x, I x → Tot (step x) (Nx I μ (μ x) Q)) {x : σ} (hx : I x) : Tot (loopM step x) Q := by
 have key : ∀ n x, μ x < n → I x → Tot (loopM step x) Q := by
  intro n
  induction n with
  | zero => intro x h; omega
  | succ n ih =>
   intro x hn hI
   obtain ⟨s, hs, hq⟩ := h x hI
   rw [loopM_eq, hs]
   cases s with
   | inl y => exact ih y (by have := hq.2; omega) hq.1
   | inr r => exact ⟨r, rfl, hq⟩
 exact key _ x (Nat.lt_succ_self _) hx
theorem fixM_eq {α β : Type} {F : (α → Option β) → α → Option β} (G : α → β) (I : α → Prop) (μ : α → Nat)
  (h : ∀ self x, I x → (∀ y, I y → μ y < μ x → self y = some (G y)) → F self x = some (G x)) {x : α} (hx : I x) : fixM F x = some (G x) := by
 have key : ∀ n x, μ x < n → I x → ∀ m, n ≤ m → iterF F m x = some (G x) := by
  intro n
  induction n with
  | zero => intro x h; omega
  | succ n ih =>
   intro x hn hI m hm
   obtain ⟨m, rfl⟩ : ∃ m', m = m' + 1 := ⟨m - 1, by omega⟩
   exact h _ x hI fun y hy hlt => ih y (by omega) hy m (by omega)
 exact fixM_of _ (key _ x (Nat.lt_succ_self _) hx)
theorem w64 {x : Int} (h1 : -9223372036854775808 ≤ x) (h2 : x ≤ 9223372036854775807) : IntKind.i64.wrap x = x := IntWalk.i64_in x ⟨h1, h2⟩
theorem rd_eq {α : Type} {z : α} {xs : List α} {i : Int} (k : Nat) (hi : i = (k : Int)) (hk : k < xs.length) : rd z xs i = xs[k] := by
 subst hi; simp [rd, List.getD, List.getElem?_eq_getElem hk]
theorem wr_length {α : Type} {xs : List α} {i : Int} {y : α} : (wr xs i y).length = xs.length := by simp [wr]
theorem rd_mem {α : Type} {z : α} {xs : List α} {i : Int} (h0 : 0 ≤ i) (h1 : i < (xs.length : Int)) : rd z xs i ∈ xs := by
 rw [rd_eq i.toNat (by omega) (by omega)]; exact List.getElem_mem _
theorem rd_wr {α : Type} {z : α} {xs : List α} {i j : Int} {y : α} (h0 : 0 ≤ i) (h1 : i < (xs.length : Int)) (h2 : 0 ≤ j) : rd z (wr xs i y) j = if j = i then y else rd z xs j := by
 unfold rd wr
 by_cases h : j = i
 ·subst h
  rw [if_pos rfl]
  simp [List.getD_eq_getElem?_getD, List.getElem?_set, show j.toNat < xs.length from by omega]
 ·rw [if_neg h]
  simp [List.getD_eq_getElem?_getD, List.getElem?_set, show ¬ i.toNat = j.toNat from by omega]
theorem take_rd {α : Type} {z : α} {xs : List α} {x : Int} (h0 : 0 ≤ x) (h1 : x < (xs.length : Int)) : xs.take (x + 1).toNat = xs.take x.toNat ++ [rd z xs x] := by
 rw [rd_eq x.toNat (by omega) (by omega), show (x + 1).toNat = x.toNat + 1 from by omega, List.take_succ_eq_append_getElem]
def cnt (p : Int → Bool) : Nat → Nat
 | 0 => 0
 | n + 1 => cnt p n + (bif p n then 1 else 0)
def buildL {α : Type} (f : Int → List α) : Nat → List α
 | 0 => []
 | n + 1 => buildL f n ++ f n
theorem cnt_step {p : Int → Bool} {x : Int} (h0 : 0 ≤ x) : cnt p (x + 1).toNat = cnt p x.toNat + (bif p x then 1 else 0) := by
 rw [show (x + 1).toNat = x.toNat + 1 from by omega]
 simp only [cnt, show ((x.toNat : Nat) : Int) = x from by omega]
theorem cnt_le {p : Int → Bool} : ∀ {n : Nat}, cnt p n ≤ n
 | 0 => Nat.le_refl _
 | n + 1 => by
  have := cnt_le (p := p) (n := n)
  simp only [cnt]
  cases p n <;> simp <;> omega
theorem buildL_step {α : Type} {f : Int → List α} {x : Int} (h0 : 0 ≤ x) : buildL f (x + 1).toNat = buildL f x.toNat ++ f x := by
 rw [show (x + 1).toNat = x.toNat + 1 from by omega]
 simp only [buildL, show ((x.toNat : Nat) : Int) = x from by omega]
theorem mem_buildL {α : Type} {f : Int → List α} {a : α} : ∀ {n : Nat}, a ∈ buildL f n ↔ ∃ k : Int, 0 ≤ k ∧ k < (n : Int) ∧ a ∈ f k
 | 0 => ⟨fun h => by simp [buildL] at h, fun ⟨k, a, b, _⟩ => by omega⟩
 | n + 1 => by
  simp only [buildL, List.mem_append, mem_buildL (n := n)]
  constructor
  ·rintro (⟨k, a, b, c⟩ | h)
   ·exact ⟨k, a, by omega, c⟩
   ·exact ⟨n, by omega, by omega, h⟩
  ·rintro ⟨k, a, b, c⟩
   by_cases hk : k = n
   ·right; rw [← hk]; exact c
   ·left; exact ⟨k, a, by omega, c⟩
theorem buildL_congr {α : Type} {f g : Int → List α} : ∀ {n : Nat}, (∀ k : Int, 0 ≤ k → k < (n : Int) → f k = g k) → buildL f n = buildL g n
 | 0, _ => rfl
 | n + 1, h => by
  simp only [buildL]
  rw [buildL_congr fun k a b => h k a (by omega), h n (by omega) (by omega)]
theorem buildL_len {α : Type} {f : Int → List α} {c : Nat} (hf : ∀ k, (f k).length ≤ c) : ∀ {n : Nat}, (buildL f n).length ≤ c * n
 | 0 => by simp [buildL]
 | n + 1 => by
  have := buildL_len (f := f) hf (n := n)
  have := hf n
  simp only [buildL, List.length_append]
  rw [Nat.mul_add]
  omega
open Classical in
theorem Tot.dec {o : Option Bool} {P : Prop} (h : Tot o (fun b => b = true ↔ P)) : o = some (decide P) := by
 obtain ⟨b, h1, h2⟩ := h
 rw [h1]
 by_cases hp : P
 ·rw [h2.2 hp, decide_eq_true hp]
 ·rw [decide_eq_false hp]
  cases b with
  | false => rfl
  | true => exact absurd (h2.1 rfl) hp
def vl (B : Nat) : List Int → Int
 | [] => 0
 | x :: l => x + (B : Int) * vl B l
def Dg (B : Nat) (l : List Int) : Prop := ∀ x ∈ l, 0 ≤ x ∧ x < (B : Int)
def dg (B n : Nat) : List Int := if h : n = 0 ∨ B < 2 then [] else ((n % B : Nat) : Int) :: dg B (n / B)
termination_by n
decreasing_by exact Nat.div_lt_self (by omega) (by omega)
theorem dg_zero {B : Nat} : dg B 0 = [] := by rw [dg, dif_pos (.inl rfl)]
theorem dg_pos {B n : Nat} (hB : 2 ≤ B) (hn : 0 < n) : dg B n = ((n % B : Nat) : Int) :: dg B (n / B) := by rw [dg, dif_neg (by omega)]
theorem Dg.nil {B : Nat} : Dg B [] := fun x hx => by cases hx
theorem Dg.cons {B : Nat} {x : Int} {l : List Int} : Dg B (x :: l) ↔ (0 ≤ x ∧ x < (B : Int)) ∧ Dg B l := by simp [Dg]
theorem Dg.append {B : Nat} {a b : List Int} : Dg B (a ++ b) ↔ Dg B a ∧ Dg B b := by
 simp only [Dg, List.mem_append]
 exact ⟨fun h => ⟨fun x hx => h x (.inl hx), fun x hx => h x (.inr hx)⟩, fun h x hx => hx.elim (h.1 x) (h.2 x)⟩
theorem Dg.take {B : Nat} {l : List Int} (h : Dg B l) (k : Nat) : Dg B (l.take k) := fun x hx => h x (List.mem_of_mem_take hx)
theorem Dg.drop {B : Nat} {l : List Int} (h : Dg B l) (k : Nat) : Dg B (l.drop k) := fun x hx => h x (List.mem_of_mem_drop hx)
theorem Dg.rep {B n : Nat} (hB : 0 < B) : Dg B (List.replicate n 0) := fun x hx => by rw [(List.mem_replicate.1 hx).2]; omega
theorem Dg.set {B : Nat} {l : List Int} (h : Dg B l) {i : Nat} {y : Int} (hy : 0 ≤ y ∧ y < (B : Int)) : Dg B (l.set i y) := fun x hx => by
 rcases List.mem_or_eq_of_mem_set hx with hx | rfl
 ·exact h x hx
 ·exact hy
theorem Dg.rd {B : Nat} {l : List Int} (h : Dg B l) (hB : 0 < B) (i : Int) : 0 ≤ rd 0 l i ∧ rd 0 l i < (B : Int) := by
 unfold Tom.rd
 rw [List.getD_eq_getElem?_getD]
 cases hg : l[i.toNat]? with
 | none => simp; omega
 | some y => exact h y (List.mem_of_getElem? hg)
theorem dg_Dg {B n : Nat} (hB : 2 ≤ B) : Dg B (dg B n) := by
 induction n using Nat.strongRecOn with
 | _ n ih =>
  by_cases hn : n = 0
  ·subst hn; rw [dg_zero]; exact Dg.nil
  ·rw [dg_pos hB (by omega), Dg.cons]
   have := Nat.mod_lt n (show 0 < B by omega)
   exact ⟨by omega, ih _ (Nat.div_lt_self (by omega) (by omega))⟩
theorem vl_dg {B n : Nat} (hB : 2 ≤ B) : vl B (dg B n) = (n : Int) := by
 induction n using Nat.strongRecOn with
 | _ n ih =>
  by_cases hn : n = 0
  ·subst hn; rw [dg_zero]; rfl
  ·rw [dg_pos hB (by omega), vl, ih _ (Nat.div_lt_self (by omega) (by omega))]
   have := Nat.mod_add_div n B
   rw [← Int.natCast_mul, ← Int.natCast_add, this]
theorem vl_append {B : Nat} : ∀ {a b : List Int}, vl B (a ++ b) = vl B a + ((B ^ a.length : Nat) : Int) * vl B b
 | [], b => by simp [vl]
 | x :: a, b => by
  rw [List.cons_append, vl, vl, vl_append, List.length_cons, Nat.pow_succ, Int.natCast_mul, Int.mul_add, Int.add_assoc]
  congr 2
  rw [← Int.mul_assoc, Int.mul_comm (B : Int)]
theorem vl_bound {B : Nat} : ∀ {l : List Int}, Dg B l → 0 ≤ vl B l ∧ vl B l < ((B ^ l.length : Nat) : Int)
 | [], _ => by simp [vl]
 | x :: l, h => by
  obtain ⟨hx, hl⟩ := Dg.cons.1 h
  obtain ⟨h1, h2⟩ := vl_bound hl
  rw [vl, List.length_cons, Nat.pow_succ, Int.natCast_mul]
  have h3 : (0 : Int) ≤ (B : Int) * vl B l := Int.mul_nonneg (by omega) h1
  refine ⟨by omega, ?_⟩
  have h4 : (B : Int) * (vl B l + 1) ≤ (B : Int) * ((B ^ l.length : Nat) : Int) := Int.mul_le_mul_of_nonneg_left (by omega) (by omega)
  rw [Int.mul_add, Int.mul_one] at h4
  rw [Int.mul_comm ((B ^ l.length : Nat) : Int)]
  omega
theorem vl_rep {B n : Nat} : vl B (List.replicate n 0) = 0 := by
 induction n with
 | zero => rfl
 | succ n ih => rw [List.replicate_succ, vl, ih]; simp
theorem vl_split {B : Nat} {l : List Int} (k : Nat) (hk : k ≤ l.length) : vl B l = vl B (l.take k) + ((B ^ k : Nat) : Int) * vl B (l.drop k) := by
 conv => lhs; rw [← List.take_append_drop k l]
 rw [vl_append, List.length_take, Nat.min_eq_left hk]
theorem vl_set {B : Nat} {l : List Int} {k : Nat} {y : Int} (hk : k < l.length) : vl B (l.set k y) = vl B l + ((B ^ k : Nat) : Int) * (y - rd 0 l k) := by
 induction l generalizing k with
 | nil => simp at hk
 | cons x l ih =>
  cases k with
  | zero => simp [vl, rd]; omega
  | succ k =>
   rw [List.set_cons_succ, vl, ih (by simpa using hk), vl, Nat.pow_succ, Int.natCast_mul, Int.mul_add, Int.add_assoc]
   congr 2
   rw [← Int.mul_assoc, Int.mul_comm (B : Int)]
   congr 1
theorem dg_of {B : Nat} (hB : 2 ≤ B) : ∀ {l : List Int}, Dg B l → l.getLast? ≠ some 0 → l = dg B (vl B l).toNat
 | [], _, _ => by simp [vl, dg_zero]
 | x :: l, h, hz => by
  obtain ⟨hx, hl⟩ := Dg.cons.1 h
  obtain ⟨h1, h2⟩ := vl_bound hl
  have h3 : (0 : Int) ≤ (B : Int) * vl B l := Int.mul_nonneg (by omega) h1
  have ih := dg_of hB hl (fun hc => by
   apply hz
   cases l with
   | nil => simp at hc
   | cons y l => simpa using hc)
  have hv : ∃ m : Nat, vl B l = m := ⟨(vl B l).toNat, by omega⟩
  obtain ⟨m, hm⟩ := hv
  obtain ⟨d, rfl⟩ : ∃ d : Nat, x = d := ⟨x.toNat, by omega⟩
  rw [hm, Int.toNat_natCast] at ih
  have hpos : 0 < d + B * m := by
   rcases Nat.eq_zero_or_pos (d + B * m) with h0 | h0
   ·exfalso
    have hd0 : d = 0 := by omega
    have hm0 : m = 0 := by
     have : B * m = 0 := by omega
     rcases Nat.mul_eq_zero.1 this with h | h
     ·omega
     ·exact h
    rw [hm0, dg_zero] at ih
    apply hz
    rw [ih, hd0]
    rfl
   ·exact h0
  have ht : (vl B ((d : Int) :: l)).toNat = d + B * m := by
   rw [vl, hm]
   rw [← Int.natCast_mul, ← Int.natCast_add, Int.toNat_natCast]
  rw [ht, dg_pos hB hpos]
  have e1 : (d + B * m) % B = d := by rw [Nat.add_mul_mod_self_left]; exact Nat.mod_eq_of_lt (by omega)
  have e2 : (d + B * m) / B = m := by rw [Nat.add_mul_div_left d m (show 0 < B by omega), Nat.div_eq_of_lt (by omega), Nat.zero_add]
  rw [e1, e2, ← ih]
theorem dg_last {B n : Nat} (hB : 2 ≤ B) : (dg B n).getLast? ≠ some 0 := by
 induction n using Nat.strongRecOn with
 | _ n ih =>
  by_cases hn : n = 0
  ·subst hn; rw [dg_zero]; simp
  ·rw [dg_pos hB (by omega)]
   by_cases hq : n / B = 0
   ·rw [hq, dg_zero]
    simp only [List.getLast?_singleton, ne_eq, Option.some.injEq]
    have := Nat.mod_add_div n B
    rw [hq] at this
    omega
   ·have := ih (n / B) (Nat.div_lt_self (Nat.pos_of_ne_zero hn) (by omega))
    have he : dg B (n / B) ≠ [] := by rw [dg_pos hB (Nat.pos_of_ne_zero hq)]; simp
    obtain ⟨y, l, hl⟩ := List.exists_cons_of_ne_nil he
    rw [hl] at this ⊢
    simpa using this
theorem dg_inj {B n m : Nat} (hB : 2 ≤ B) : dg B n = dg B m ↔ n = m :=
 ⟨fun h => by have := congrArg (vl B) h; rw [vl_dg hB, vl_dg hB] at this; omega, fun h => by rw [h]⟩
theorem dg_nil {B n : Nat} (hB : 2 ≤ B) : dg B n = [] ↔ n = 0 := by
 rw [show ([] : List Int) = dg B 0 from dg_zero.symm, dg_inj hB]
theorem dg_len {B n k : Nat} (hB : 2 ≤ B) (h : n < B ^ k) : (dg B n).length ≤ k := by
 induction k generalizing n with
 | zero => simp at h; subst h; simp [dg_zero]
 | succ k ih =>
  by_cases hn : n = 0
  ·subst hn; simp [dg_zero]
  ·rw [dg_pos hB (by omega), List.length_cons]
   have hq : n / B < B ^ k := by
    rw [Nat.pow_succ, Nat.mul_comm] at h
    exact Nat.div_lt_of_lt_mul h
   have := ih hq
   omega
theorem dg_lt {B n : Nat} (hB : 2 ≤ B) : n < B ^ (dg B n).length := by
 have := (vl_bound (dg_Dg hB (n := n))).2
 rw [vl_dg hB] at this
 omega
theorem rd_vl {B : Nat} (hB : 2 ≤ B) {l : List Int} (h : Dg B l) (i : Nat) : rd 0 l i = vl B l / ((B ^ i : Nat) : Int) % (B : Int) := by
 induction l generalizing i with
 | nil => simp [rd, vl]
 | cons x l ih =>
  obtain ⟨hx, hl⟩ := Dg.cons.1 h
  cases i with
  | zero =>
   simp only [vl, Nat.pow_zero, Int.natCast_one, Int.ediv_one, Int.add_mul_emod_self_left]
   rw [Int.emod_eq_of_lt hx.1 hx.2]
   rfl
  | succ i =>
   have := ih hl i
   rw [vl, Nat.pow_succ', Int.natCast_mul, ← Int.ediv_ediv_of_nonneg (by omega), Int.add_mul_ediv_left _ _ (by omega), Int.ediv_eq_zero_of_lt hx.1 hx.2, Int.zero_add, ← this]
   rfl
theorem rd_dg {B n : Nat} (hB : 2 ≤ B) (i : Nat) : rd 0 (dg B n) i = ((n / B ^ i % B : Nat) : Int) := by
 rw [rd_vl hB (dg_Dg hB), vl_dg hB]
 rw [Int.natCast_emod, Int.natCast_ediv]
theorem cut_dg {B : Nat} (hB : 2 ≤ B) {l : List Int} (h : Dg B l) {k : Nat} (hk : k ≤ l.length) (hz : ∀ i : Nat, k ≤ i → i < l.length → rd 0 l i = 0) (hl : k = 0 ∨ rd 0 l (k - 1 : Nat) ≠ 0) : l.take k = dg B (vl B l).toNat := by
 have hd : vl B (l.drop k) = 0 := by
  have : l.drop k = List.replicate (l.length - k) 0 := by
   refine List.ext_getElem (by simp) fun i h1 h2 => ?_
   rw [List.getElem_drop, List.getElem_replicate]
   have := hz (k + i) (by omega) (by simp at h1; omega)
   rwa [rd_eq (k + i) rfl (by simp at h1; omega)] at this
  rw [this, vl_rep]
 have hv : vl B (l.take k) = vl B l := by rw [vl_split k hk, hd]; simp
 rw [← hv]
 refine dg_of hB (h.take k) ?_
 intro hc
 rcases hl with rfl | hl
 ·simp at hc
 ·have hk0 : k ≠ 0 := fun h0 => by subst h0; simp at hc
  rw [List.getLast?_eq_getElem?, List.length_take, Nat.min_eq_left hk, List.getElem?_take, if_pos (by omega)] at hc
  apply hl
  rw [rd_eq (k - 1) rfl (by omega)]
  rw [List.getElem?_eq_getElem (by omega)] at hc
  exact Option.some.inj hc
structure KnP (B M v1 v2 v3 u0 u1 u2 u3 : Int) : Prop where
 hB : 2 ≤ B
 hM : 0 < M
 v1l : B ≤ 2 * v1
 v1h : v1 < B
 v2l : 0 ≤ v2
 v2h : v2 < B
 v3l : 0 ≤ v3
 v3h : v3 < M
 u0l : 0 ≤ u0
 u1l : 0 ≤ u1
 u1h : u1 < B
 u2l : 0 ≤ u2
 u2h : u2 < B
 u3l : 0 ≤ u3
 u3h : u3 < M
 lt : ((u0 * B + u1) * B + u2) * M + u3 < B * ((v1 * B + v2) * M + v3)
section
variable {B M v1 v2 v3 u0 u1 u2 u3 q r : Int}
theorem KnP.u0le (h : KnP B M v1 v2 v3 u0 u1 u2 u3) : u0 ≤ v1 := by
 obtain ⟨hB, hM, v1l, v1h, v2l, v2h, v3l, v3h, u0l, u1l, u1h, u2l, u2h, u3l, u3h, lt⟩ := h
 rcases Int.lt_or_le v1 u0 with hc | hc
 ·exfalso
  have e1 : (v1 + 1) * (B * B * M) ≤ u0 * (B * B * M) := Int.mul_le_mul_of_nonneg_right (by omega) (Int.mul_nonneg (Int.mul_nonneg (by omega) (by omega)) (by omega))
  have e2 : (v2 + 1) * (B * M) ≤ B * (B * M) := Int.mul_le_mul_of_nonneg_right (by omega) (Int.mul_nonneg (by omega) (by omega))
  have e3 : B * v3 ≤ B * M := Int.mul_le_mul_of_nonneg_left (by omega) (by omega)
  have e4 : 0 ≤ u1 * B * M := Int.mul_nonneg (Int.mul_nonneg u1l (by omega)) (by omega)
  have e5 : 0 ≤ u2 * M := Int.mul_nonneg u2l (by omega)
  grind
 ·exact hc
theorem KnP.big (h : KnP B M v1 v2 v3 u0 u1 u2 u3) (hq : 0 ≤ q) (hi : q * v1 + r = u0 * B + u1) (ht : B ≤ q ∨ r * B + u2 < q * v2) : ((u0 * B + u1) * B + u2) * M + u3 < q * ((v1 * B + v2) * M + v3) := by
 obtain ⟨hB, hM, v1l, v1h, v2l, v2h, v3l, v3h, u0l, u1l, u1h, u2l, u2h, u3l, u3h, lt⟩ := h
 rcases ht with ht | ht
 ·have hV : 0 ≤ (v1 * B + v2) * M + v3 := Int.add_nonneg (Int.mul_nonneg (Int.add_nonneg (Int.mul_nonneg (by omega) (by omega)) v2l) (by omega)) v3l
  exact Int.lt_of_lt_of_le lt (Int.mul_le_mul_of_nonneg_right ht hV)
 ·have e1 : (r * B + u2 + 1) * M ≤ (q * v2) * M := Int.mul_le_mul_of_nonneg_right (by omega) (by omega)
  have e2 : 0 ≤ q * v3 := Int.mul_nonneg hq v3l
  have e3 : (u0 * B + u1) * (B * M) = (q * v1 + r) * (B * M) := by rw [hi]
  grind
theorem KnP.near (h : KnP B M v1 v2 v3 u0 u1 u2 u3) (hq : 0 ≤ q) (hr : 0 ≤ r) (hi : q * v1 + r = u0 * B + u1) (ht : (q < B ∧ q * v2 ≤ r * B + u2) ∨ B ≤ r) :
  q < B ∧ (q - 1) * ((v1 * B + v2) * M + v3) ≤ ((u0 * B + u1) * B + u2) * M + u3 := by
 have hu := h.u0le
 obtain ⟨hB, hM, v1l, v1h, v2l, v2h, v3l, v3h, u0l, u1l, u1h, u2l, u2h, u3l, u3h, lt⟩ := h
 have hqB : q < B ∧ q * v2 ≤ r * B + u2 := by
  rcases ht with ht | ht
  ·exact ht
  ·have h1 : u0 * B ≤ v1 * B := Int.mul_le_mul_of_nonneg_right hu (by omega)
   have h2 : q < B := by
    rcases Int.lt_or_le q B with hc | hc
    ·exact hc
    ·exfalso
     have : B * v1 ≤ q * v1 := Int.mul_le_mul_of_nonneg_right hc (by omega)
     have := Int.mul_comm B v1
     omega
   refine ⟨h2, ?_⟩
   have h3 : q * v2 ≤ q * B := Int.mul_le_mul_of_nonneg_left (by omega) hq
   have h4 : q * B ≤ r * B := Int.mul_le_mul_of_nonneg_right (by omega) (by omega)
   omega
 refine ⟨hqB.1, ?_⟩
 have hU : 0 ≤ ((u0 * B + u1) * B + u2) * M + u3 := Int.add_nonneg (Int.mul_nonneg (Int.add_nonneg (Int.mul_nonneg (Int.add_nonneg (Int.mul_nonneg u0l (by omega)) u1l) (by omega)) u2l) (by omega)) u3l
 rcases Int.lt_or_le q 1 with hc | hc
 ·obtain rfl : q = 0 := by omega
  have hV : 0 ≤ (v1 * B + v2) * M + v3 := Int.add_nonneg (Int.mul_nonneg (Int.add_nonneg (Int.mul_nonneg (by omega) (by omega)) v2l) (by omega)) v3l
  omega
 ·have e1 : (q - 1) * v3 ≤ (q - 1) * M := Int.mul_le_mul_of_nonneg_left (by omega) (by omega)
  have e2 : (q * v2) * M ≤ (r * B + u2) * M := Int.mul_le_mul_of_nonneg_right hqB.2 (by omega)
  have e3 : (u0 * B + u1) * (B * M) = (q * v1 + r) * (B * M) := by rw [hi]
  have e4 : B * M ≤ v1 * B * M := by
   have : 1 * (B * M) ≤ v1 * (B * M) := Int.mul_le_mul_of_nonneg_right (by omega) (Int.mul_nonneg (by omega) (by omega))
   rw [Int.one_mul, ← Int.mul_assoc] at this
   exact this
  have e5 : q * M ≤ B * M := Int.mul_le_mul_of_nonneg_right (by omega) (by omega)
  have e6 : 0 ≤ v2 * M := Int.mul_nonneg v2l (by omega)
  grind
end
abbrev d16 (n : Nat) : List Int := dg 65536 n
abbrev d32 (n : Nat) : List Int := dg 4294967296 n
theorem b16 : (2 : Nat) ≤ 65536 := by omega
theorem b32 : (2 : Nat) ≤ 4294967296 := by omega
def Sz (n : Nat) : Prop := (d16 n).length ≤ 1000000
theorem d16_mono {x y : Nat} (h : x ≤ y) : (d16 x).length ≤ (d16 y).length := dg_len b16 (Nat.lt_of_le_of_lt h (dg_lt b16))
theorem d16_mul (x y : Nat) : (d16 (x * y)).length ≤ (d16 x).length + (d16 y).length := dg_len b16 (by
 rw [Nat.pow_add]
 exact Nat.mul_lt_mul'' (dg_lt b16) (dg_lt b16))
theorem d16_add (x y : Nat) : (d16 (x + y)).length ≤ max (d16 x).length (d16 y).length + 1 := dg_len b16 (by
 have h1 : x < 65536 ^ max (d16 x).length (d16 y).length := Nat.lt_of_lt_of_le (dg_lt b16) (Nat.pow_le_pow_right (by omega) (Nat.le_max_left ..))
 have h2 : y < 65536 ^ max (d16 x).length (d16 y).length := Nat.lt_of_lt_of_le (dg_lt b16) (Nat.pow_le_pow_right (by omega) (Nat.le_max_right ..))
 rw [Nat.pow_succ]
 generalize 65536 ^ max (d16 x).length (d16 y).length = M at h1 h2 ⊢
 omega)
theorem d32_len (n : Nat) : (d32 n).length ≤ (d16 n).length := dg_len b32 (Nat.lt_of_lt_of_le (dg_lt b16) (Nat.pow_le_pow_left (by omega) _))
theorem Sz.le {x y : Nat} (h : Sz y) (hx : x ≤ y) : Sz x := Nat.le_trans (d16_mono hx) h
theorem sl_zero {α : Type} {l : List α} {x : Int} : sl l 0 x = l.take x.toNat := by simp [sl]
theorem r01_Cut_eq {l : List Int} (h : Dg 65536 l) (hl : l.length ≤ 10000000) : r01_Cut l = some (d16 (vl 65536 l).toNat) := by
 rw [← Tot.eq_iff]
 unfold r01_Cut
 refine Tot.loop (fun x => 0 ≤ x ∧ x ≤ (l.length : Int) ∧ ∀ i : Nat, x ≤ (i : Int) → i < l.length → rd 0 l i = 0) (fun x => x.toNat) (fun x hx => ?_) ⟨by omega, by omega, fun i _ _ => by omega⟩
 obtain ⟨h0, h1, h2⟩ := hx
 have hw : IntKind.i64.wrap (x - 1) = x - 1 := w64 (by omega) (by omega)
 simp only [r01_Cut_b1, r01_Cut_j1, hw, cond_some, Tot.cond_iff, Tot.ass_iff, Tot.bnd_iff, Tot.some_iff, Tot.map_iff, Tot.bind_iff, Nx.inl_iff, Nx.inr_iff, decide_eq_true_eq, decide_eq_false_iff_not]
 refine ⟨fun hx => by omega, fun hc => ?_, fun hc => ?_⟩
 ·simp only [Bool.and_eq_true, Bool.or_eq_true, Bool.not_eq_true', Bool.and_eq_false_iff, Bool.or_eq_false_iff, Bool.not_eq_false', beq_iff_eq, bne_iff_ne, beq_eq_false_iff_ne, bne_eq_false_iff_eq, decide_eq_true_eq, decide_eq_false_iff_not] at hc
  refine ⟨⟨by omega, by omega, fun i hi hil => ?_⟩, by omega⟩
  by_cases hix : (i : Int) = x - 1
  ·rw [hix]; exact hc.2
  ·exact h2 i (by omega) hil
 ·simp only [Bool.and_eq_true, Bool.or_eq_true, Bool.not_eq_true', Bool.and_eq_false_iff, Bool.or_eq_false_iff, Bool.not_eq_false', beq_iff_eq, bne_iff_ne, beq_eq_false_iff_ne, bne_eq_false_iff_eq, decide_eq_true_eq, decide_eq_false_iff_not] at hc
  refine ⟨⟨by omega, h0, h1⟩, ?_, ?_⟩
  ·rw [sl_zero]; simp only [List.length_nil, List.length_take]; unfold limA; omega
  ·rw [sl_zero, List.nil_append]
   refine cut_dg b16 h (k := x.toNat) (by omega) (fun i hi hil => h2 i (by omega) hil) ?_
   rcases hc with hc | hc
   ·exact .inl (by omega)
   ·by_cases hx0 : x = 0
    ·left; omega
    ·right
     have : ((x.toNat - 1 : Nat) : Int) = x - 1 := by omega
     rw [this]; exact hc
theorem r01_Of_eq {n : Nat} (h : n ≤ 18446744073709551615) : r01_Of (n : Int) = some (d16 n) := by
 rw [← Tot.eq_iff]
 unfold r01_Of
 refine Tot.loop (fun x => ∃ m : Nat, x.1 = (m : Int) ∧ m ≤ n ∧ x.2 ++ d16 m = d16 n) (fun x => x.1.toNat) (fun x hx => ?_) ⟨n, rfl, Nat.le_refl _, rfl⟩
 obtain ⟨a, l⟩ := x
 obtain ⟨m, h1, h2, h3⟩ := hx
 simp only at h1 h3
 subst h1
 simp only [r01_Of_b1, r01_Of_j1, cond_some, Tot.cond_iff, Tot.ass_iff, Tot.bnd_iff, Tot.some_iff, Tot.map_iff, Tot.bind_iff, Nx.inl_iff, Nx.inr_iff, decide_eq_true_eq, decide_eq_false_iff_not]
 have hw1 : IntKind.i64.wrap ((m : Int).tmod 65536) = ((m % 65536 : Nat) : Int) := by
  rw [Int.tmod_eq_emod_of_nonneg (by omega)]
  rw [w64 (by omega) (by omega)]
  omega
 have hw2 : IntKind.u64.wrap ((m : Int).tdiv 65536) = ((m / 65536 : Nat) : Int) := by
  rw [Int.tdiv_eq_ediv_of_nonneg (by omega)]
  rw [IntWalk.u64_in _ (by omega)]
  omega
 rw [hw1, hw2]
 refine ⟨fun hm => ⟨by omega, ?_, by omega, ⟨m / 65536, rfl, by omega, ?_⟩, by omega⟩, fun hm => ?_⟩
 ·have hl : (l ++ d16 m).length ≤ 4 := by rw [h3]; exact dg_len b16 (by omega)
  rw [List.length_append, d16, dg_pos b16 (by omega)] at hl
  simp only [List.length_cons, List.length_nil] at hl ⊢
  unfold limA
  omega
 ·rw [← h3, d16, d16, dg_pos b16 (show 0 < m by omega), List.append_assoc]
  rfl
 ·have hm0 : m = 0 := by omega
  subst hm0
  rw [← h3, d16, dg_zero, List.append_nil]
def dgt (B x i : Nat) : Nat := x / B ^ i % B
theorem dgt_lt {B x i : Nat} (hB : 0 < B) : dgt B x i < B := Nat.mod_lt _ hB
theorem rd_dgt {B x : Nat} (hB : 2 ≤ B) (i : Nat) : rd 0 (dg B x) (i : Int) = ((dgt B x i : Nat) : Int) := rd_dg hB i
theorem div_up {B x i : Nat} : x / B ^ i = B * (x / B ^ (i + 1)) + dgt B x i := by
 have := Nat.div_add_mod (x / B ^ i) B
 rw [Nat.div_div_eq_div_mul, ← Nat.pow_succ] at this
 exact this.symm
theorem mod_up {B x i : Nat} : x % B ^ (i + 1) = x % B ^ i + B ^ i * dgt B x i := Nat.mod_pow_succ
theorem cmp_lt {B i x y : Nat} (h : x / B ^ (i + 1) = y / B ^ (i + 1)) (hd : dgt B x i < dgt B y i) : x < y := by
 rcases Nat.lt_or_ge x y with hc | hc
 ·exact hc
 ·have h1 : y / B ^ i ≤ x / B ^ i := Nat.div_le_div_right hc
  rw [div_up (x := x), div_up (x := y), h] at h1
  omega
theorem cmp_eq {B i x y : Nat} (h : x / B ^ (i + 1) = y / B ^ (i + 1)) (hd : dgt B x i = dgt B y i) : x / B ^ i = y / B ^ i := by
 rw [div_up (x := x), div_up (x := y), h, hd]
def cmpN (x y : Nat) : Int := if x < y then -1 else if y < x then 1 else 0
theorem r01_digit_eq (l : List Int) {i : Int} (h : 0 ≤ i) : r01_digit l i = some (rd 0 l i) := by
 rw [← Tot.eq_iff]
 simp only [r01_digit, cond_some, Tot.cond_iff, Tot.ass_iff, Tot.bnd_iff, Tot.some_iff, Tot.map_iff, Tot.bind_iff, Nx.inl_iff, Nx.inr_iff, decide_eq_true_eq, decide_eq_false_iff_not]
 refine ⟨fun hc => ⟨⟨h, hc⟩, by trivial⟩, fun hc => ?_⟩
 unfold rd
 rw [List.getD_eq_getElem?_getD, List.getElem?_eq_none (by omega)]
 rfl
theorem dg_div_len {B x k : Nat} (hB : 2 ≤ B) (h : (dg B x).length ≤ k) : x / B ^ k = 0 := Nat.div_eq_of_lt (Nat.lt_of_lt_of_le (dg_lt hB) (Nat.pow_le_pow_right (by omega) h))
theorem dg_mod_len {B x k : Nat} (hB : 2 ≤ B) (h : (dg B x).length ≤ k) : x % B ^ k = x := Nat.mod_eq_of_lt (Nat.lt_of_lt_of_le (dg_lt hB) (Nat.pow_le_pow_right (by omega) h))
theorem r01_Cmp_eq {x y : Nat} (hx : (d16 x).length ≤ 10000000) (hy : (d16 y).length ≤ 10000000) : r01_Cmp (d16 x) (d16 y) = some (cmpN x y) := by
 have key : ∀ n : Nat, (d16 x).length ≤ n → (d16 y).length ≤ n → n ≤ 10000000 → r01_Cmp_j1 (d16 x) (d16 y) (n : Int) = some (cmpN x y) := by
  intro n h1 h2 h3
  rw [← Tot.eq_iff]
  have hw : IntKind.i64.wrap ((n : Int) - 1) = (n : Int) - 1 := w64 (by omega) (by omega)
  simp only [r01_Cmp_j1, hw, cond_some, Tot.cond_iff, Tot.ass_iff, Tot.bnd_iff, Tot.some_iff, Tot.map_iff, Tot.bind_iff, Nx.inl_iff, Nx.inr_iff, decide_eq_true_eq, decide_eq_false_iff_not]
  refine Tot.loop (fun i => ∃ k : Nat, i = (k : Int) - 1 ∧ k ≤ n ∧ x / 65536 ^ k = y / 65536 ^ k) (fun i => (i + 1).toNat) (fun i hi => ?_) ⟨n, rfl, Nat.le_refl _, by rw [dg_div_len b16 h1, dg_div_len b16 h2]⟩
  obtain ⟨k, rfl, hk, he⟩ := hi
  rcases Nat.eq_zero_or_pos k with hk0 | hk0
  ·subst hk0
   simp only [r01_Cmp_b1, r01_Cmp_j2, cond_some, Tot.cond_iff, Tot.ass_iff, Tot.bnd_iff, Tot.some_iff, Tot.map_iff, Tot.bind_iff, Nx.inl_iff, Nx.inr_iff, decide_eq_true_eq, decide_eq_false_iff_not]
   refine ⟨fun hc => absurd hc (by omega), fun _ => ?_⟩
   simp only [Nat.pow_zero, Nat.div_one] at he
   simp [cmpN, he]
  ·obtain ⟨j, rfl⟩ : ∃ j, k = j + 1 := ⟨k - 1, by omega⟩
   have hj : (((j + 1 : Nat) : Int) - 1) = (j : Int) := by omega
   have hw2 : IntKind.i64.wrap ((j : Int) - 1) = (j : Int) - 1 := w64 (by omega) (by omega)
   rw [hj]
   simp only [r01_Cmp_b1, r01_Cmp_j2, r01_digit_eq _ (show (0 : Int) ≤ (j : Int) by omega), rd_dgt b16, hw2, cond_some, Tot.cond_iff, Tot.ass_iff, Tot.bnd_iff, Tot.some_iff, Tot.map_iff, Tot.bind_iff, Nx.inl_iff, Nx.inr_iff, decide_eq_true_eq, decide_eq_false_iff_not]
   refine ⟨fun _ => ⟨fun hc => ?_, fun hc => ⟨fun hd => ?_, fun hd => ⟨⟨j, rfl, by omega, cmp_eq he (by omega)⟩, by omega⟩⟩⟩, fun hc => absurd hc (by omega)⟩
   ·have := cmp_lt he (by omega)
    simp [cmpN, this]
   ·have := cmp_lt he.symm (by omega)
    simp only [cmpN]
    rw [if_neg (by omega), if_pos this]
 rw [← Tot.eq_iff]
 simp only [r01_Cmp, cond_some, Tot.cond_iff, Tot.ass_iff, Tot.bnd_iff, Tot.some_iff, Tot.map_iff, Tot.bind_iff, Nx.inl_iff, Nx.inr_iff, decide_eq_true_eq, decide_eq_false_iff_not]
 refine ⟨fun hc => ?_, fun hc => ?_⟩
 ·rw [key _ (by omega) (Nat.le_refl _) hy]; exact Tot.some_iff.2 rfl
 ·rw [key _ (Nat.le_refl _) (by omega) hx]; exact Tot.some_iff.2 rfl
theorem vl_snoc {B : Nat} {l : List Int} {d : Int} : vl B (l ++ [d]) = vl B l + ((B ^ l.length : Nat) : Int) * d := by
 rw [vl_append]; simp [vl]
theorem Dg.snoc {B : Nat} {l : List Int} {d : Int} (h : Dg B l) (h0 : 0 ≤ d) (h1 : d < (B : Int)) : Dg B (l ++ [d]) := Dg.append.2 ⟨h, Dg.cons.2 ⟨⟨h0, h1⟩, Dg.nil⟩⟩
theorem cast_up {B x i : Nat} : ((x % B ^ (i + 1) : Nat) : Int) = ((x % B ^ i : Nat) : Int) + ((B ^ i : Nat) : Int) * ((dgt B x i : Nat) : Int) := by
 rw [mod_up, Int.natCast_add, Int.natCast_mul]
theorem r01_Sub_eq {x y : Nat} (hx : (d16 x).length ≤ 9000000) (hyx : y ≤ x) : r01_Sub (d16 x) (d16 y) = some (d16 (x - y)) := by
 rw [← Tot.eq_iff]
 unfold r01_Sub
 refine Tot.loop (fun s => ∃ i : Nat, s.2.2 = (i : Int) ∧ i ≤ (d16 x).length ∧ s.1.length = i ∧ Dg 65536 s.1 ∧ (s.2.1 = 0 ∨ s.2.1 = 1) ∧ vl 65536 s.1 = ((x % 65536 ^ i : Nat) : Int) - ((y % 65536 ^ i : Nat) : Int) + s.2.1 * ((65536 ^ i : Nat) : Int))
  (fun s => (((d16 x).length : Int) - s.2.2).toNat) (fun s hs => ?_) ⟨0, rfl, by omega, rfl, Dg.nil, .inl rfl, by simp [vl, Nat.mod_one]⟩
 obtain ⟨l, u, i0⟩ := s
 obtain ⟨i, h1, h2, h3, h4, h5, h6⟩ := hs
 simp only at h1 h3 h4 h5 h6
 subst h1
 have hdx := dgt_lt (B := 65536) (x := x) (i := i) (by omega)
 have hdy := dgt_lt (B := 65536) (x := y) (i := i) (by omega)
 have hw1 : IntKind.i64.wrap (((dgt 65536 x i : Nat) : Int) - ((dgt 65536 y i : Nat) : Int)) = ((dgt 65536 x i : Nat) : Int) - ((dgt 65536 y i : Nat) : Int) := w64 (by omega) (by omega)
 have hw2 : IntKind.i64.wrap (((dgt 65536 x i : Nat) : Int) - ((dgt 65536 y i : Nat) : Int) - u) = ((dgt 65536 x i : Nat) : Int) - ((dgt 65536 y i : Nat) : Int) - u := w64 (by omega) (by omega)
 have hw3 : IntKind.i64.wrap ((i : Int) + 1) = (i : Int) + 1 := w64 (by omega) (by omega)
 have hw4 : IntKind.i64.wrap (((dgt 65536 x i : Nat) : Int) - ((dgt 65536 y i : Nat) : Int) - u + 65536) = ((dgt 65536 x i : Nat) : Int) - ((dgt 65536 y i : Nat) : Int) - u + 65536 := w64 (by omega) (by omega)
 have step : ∀ (d u' : Int), ((dgt 65536 x i : Nat) : Int) - ((dgt 65536 y i : Nat) : Int) - u = d - u' * 65536 → vl 65536 (l ++ [d]) = ((x % 65536 ^ (i + 1) : Nat) : Int) - ((y % 65536 ^ (i + 1) : Nat) : Int) + u' * ((65536 ^ (i + 1) : Nat) : Int) := by
  intro d u' hd
  rw [vl_snoc, h6, h3, cast_up, cast_up, Nat.pow_succ, Int.natCast_mul]
  generalize ((65536 ^ i : Nat) : Int) = M
  have : d = ((dgt 65536 x i : Nat) : Int) - ((dgt 65536 y i : Nat) : Int) - u + u' * 65536 := by omega
  rw [this, show ((65536 : Nat) : Int) = 65536 from rfl]
  grind
 simp only [r01_Sub_b1, r01_Sub_j1, r01_Sub_j2, r01_digit_eq _ (show (0 : Int) ≤ (i : Int) by omega), rd_dgt b16, hw1, hw2, hw3, hw4, cond_some, Tot.cond_iff, Tot.ass_iff, Tot.bnd_iff, Tot.some_iff, Tot.map_iff, Tot.bind_iff, Nx.inl_iff, Nx.inr_iff, decide_eq_true_eq, decide_eq_false_iff_not]
 have hlim : (((l.length + 1 : Nat) : Nat) : Int) ≤ limA := by unfold limA; omega
 refine ⟨fun hlt => ⟨fun hneg => ⟨by simpa using hlim, ⟨i + 1, by simp, by omega, by simp [h3], h4.snoc ?_ ?_, by simp, step _ 1 (by omega)⟩, ?_⟩,
  fun hneg => ⟨by simpa using hlim, ⟨i + 1, by simp, by omega, by simp [h3], h4.snoc ?_ ?_, by simp, step _ 0 (by omega)⟩, ?_⟩⟩, fun hge => ?_⟩
 ·omega
 ·omega
 ·omega
 ·omega
 ·omega
 ·omega
 have hi : i = (d16 x).length := by omega
 have hly : (d16 y).length ≤ i := by rw [hi]; exact d16_mono hyx
 rw [r01_Cut_eq h4 (by omega)]
 rw [dg_mod_len (x := x) (k := i) b16 (show (d16 x).length ≤ i by omega), dg_mod_len b16 hly] at h6
 have hb := (vl_bound h4).2
 rw [h3] at hb
 have hu : u = 0 := by
  rcases h5 with h5 | h5
  ·exact h5
  ·exfalso; rw [h5] at h6; omega
 rw [hu] at h6
 refine Tot.some_iff.2 ?_
 congr 1
 omega
theorem tdivmod {a b : Int} (h0 : 0 ≤ a) : a.tdiv b = a / b ∧ a.tmod b = a % b := ⟨Int.tdiv_eq_ediv_of_nonneg h0, Int.tmod_eq_emod_of_nonneg h0⟩
theorem r01_Add_eq {x y : Nat} (hx : (d16 x).length ≤ 9000000) (hy : (d16 y).length ≤ 9000000) : r01_Add (d16 x) (d16 y) = some (d16 (x + y)) := by
 rw [← Tot.eq_iff]
 unfold r01_Add
 obtain ⟨m, hm⟩ : ∃ m, m = max (d16 x).length (d16 y).length := ⟨_, rfl⟩
 refine Tot.loop (fun s => ∃ i : Nat, s.2.2 = (i : Int) ∧ i ≤ m + 1 ∧ s.1.length = i ∧ Dg 65536 s.1 ∧ (s.2.1 = 0 ∨ s.2.1 = 1) ∧ (i = m + 1 → s.2.1 = 0) ∧ vl 65536 s.1 + s.2.1 * ((65536 ^ i : Nat) : Int) = ((x % 65536 ^ i : Nat) : Int) + ((y % 65536 ^ i : Nat) : Int))
  (fun s => ((m : Int) + 1 - s.2.2).toNat) (fun s hs => ?_) ⟨0, rfl, by omega, rfl, Dg.nil, .inl rfl, fun _ => rfl, by simp [vl, Nat.mod_one]⟩
 obtain ⟨l, u, i0⟩ := s
 obtain ⟨i, h1, h2, h3, h4, h5, h5', h6⟩ := hs
 simp only at h1 h3 h4 h5 h5' h6
 subst h1
 have hdx := dgt_lt (B := 65536) (x := x) (i := i) (by omega)
 have hdy := dgt_lt (B := 65536) (x := y) (i := i) (by omega)
 have hw1 : IntKind.i64.wrap (((dgt 65536 x i : Nat) : Int) + ((dgt 65536 y i : Nat) : Int)) = ((dgt 65536 x i : Nat) : Int) + ((dgt 65536 y i : Nat) : Int) := w64 (by omega) (by omega)
 have hw2 : IntKind.i64.wrap (((dgt 65536 x i : Nat) : Int) + ((dgt 65536 y i : Nat) : Int) + u) = ((dgt 65536 x i : Nat) : Int) + ((dgt 65536 y i : Nat) : Int) + u := w64 (by omega) (by omega)
 have hw3 : IntKind.i64.wrap ((i : Int) + 1) = (i : Int) + 1 := w64 (by omega) (by omega)
 obtain ⟨t1, t2⟩ := tdivmod (a := ((dgt 65536 x i : Nat) : Int) + ((dgt 65536 y i : Nat) : Int) + u) (b := 65536) (by omega)
 have hw4 : IntKind.i64.wrap ((((dgt 65536 x i : Nat) : Int) + ((dgt 65536 y i : Nat) : Int) + u) / 65536) = (((dgt 65536 x i : Nat) : Int) + ((dgt 65536 y i : Nat) : Int) + u) / 65536 := w64 (by omega) (by omega)
 simp only [r01_Add_b1, r01_Add_j1, r01_digit_eq _ (show (0 : Int) ≤ (i : Int) by omega), rd_dgt b16, hw1, hw2, hw3, t1, t2, hw4, cond_some, Tot.cond_iff, Tot.ass_iff, Tot.bnd_iff, Tot.some_iff, Tot.map_iff, Tot.bind_iff, Nx.inl_iff, Nx.inr_iff, decide_eq_true_eq, decide_eq_false_iff_not]
 refine ⟨fun hc => ?_, fun hc => ?_⟩
 ·have hi : i ≤ m := by
   simp only [Bool.and_eq_true, Bool.or_eq_true, Bool.not_eq_true', Bool.and_eq_false_iff, Bool.or_eq_false_iff, Bool.not_eq_false', beq_iff_eq, bne_iff_ne, beq_eq_false_iff_ne, bne_eq_false_iff_eq, decide_eq_true_eq, decide_eq_false_iff_not] at hc
   rcases Nat.lt_or_ge m i with hmi | hmi
   ·have := h5' (by omega)
    omega
   ·exact hmi
  refine ⟨by simp, by simp only [List.length_singleton]; unfold limA; omega, by simp, ⟨i + 1, by simp, by omega, by simp [h3], h4.snoc (by omega) (by omega), by omega, fun him => ?_, ?_⟩, by omega⟩
  ·have e1 : dgt 65536 x i = 0 := by unfold dgt; rw [dg_div_len (x := x) (k := i) b16 (show (d16 x).length ≤ i by omega)]
   have e2 : dgt 65536 y i = 0 := by unfold dgt; rw [dg_div_len (x := y) (k := i) b16 (show (d16 y).length ≤ i by omega)]
   rw [e1, e2]
   omega
  ·rw [vl_snoc, h3, cast_up, cast_up, Nat.pow_succ, Int.natCast_mul]
   have hs : (((dgt 65536 x i : Nat) : Int) + ((dgt 65536 y i : Nat) : Int) + u) = (((dgt 65536 x i : Nat) : Int) + ((dgt 65536 y i : Nat) : Int) + u) / 65536 * 65536 + (((dgt 65536 x i : Nat) : Int) + ((dgt 65536 y i : Nat) : Int) + u) % 65536 := by omega
   generalize (((dgt 65536 x i : Nat) : Int) + ((dgt 65536 y i : Nat) : Int) + u) / 65536 = q at hs ⊢
   generalize (((dgt 65536 x i : Nat) : Int) + ((dgt 65536 y i : Nat) : Int) + u) % 65536 = r at hs ⊢
   generalize ((65536 ^ i : Nat) : Int) = M at h6 ⊢
   have : M * (((dgt 65536 x i : Nat) : Int) + ((dgt 65536 y i : Nat) : Int) + u) = M * (q * 65536 + r) := by rw [hs]
   grind
 ·simp only [Bool.and_eq_true, Bool.or_eq_true, Bool.not_eq_true', Bool.and_eq_false_iff, Bool.or_eq_false_iff, Bool.not_eq_false', beq_iff_eq, bne_iff_ne, beq_eq_false_iff_ne, bne_eq_false_iff_eq, decide_eq_true_eq, decide_eq_false_iff_not] at hc
  have hi : (d16 x).length ≤ i ∧ (d16 y).length ≤ i := by omega
  rw [dg_mod_len b16 hi.1, dg_mod_len b16 hi.2] at h6
  rw [r01_Cut_eq h4 (by omega)]
  have hu : u = 0 := by omega
  rw [hu] at h6
  refine Tot.some_iff.2 ?_
  congr 1
  omega
theorem u64i {x : Int} (h0 : 0 ≤ x) (h1 : x ≤ 18446744073709551615) : IntKind.u64.wrap x = x := IntWalk.u64_in _ (by omega)
theorem u32i {x : Int} (h0 : 0 ≤ x) (h1 : x ≤ 4294967295) : IntKind.u32.wrap x = x := IntWalk.u32_in _ (by omega)
theorem wr_set {α : Type} {l : List α} {k : Nat} {y : α} : wr l (k : Int) y = l.set k y := by simp [wr]
theorem vl_wr {B : Nat} {l : List Int} {k : Nat} {y : Int} (hk : k < l.length) : vl B (wr l (k : Int) y) = vl B l + ((B ^ k : Nat) : Int) * (y - rd 0 l (k : Int)) := by
 rw [wr_set, vl_set hk]
theorem Dg.wr {B : Nat} {l : List Int} (h : Dg B l) {k : Nat} {y : Int} (h0 : 0 ≤ y) (h1 : y < (B : Int)) : Dg B (wr l (k : Int) y) := by rw [wr_set]; exact h.set ⟨h0, h1⟩
theorem r01_Mul_eq {x y : Nat} (hx : (d16 x).length ≤ 3000000) (hy : (d16 y).length ≤ 3000000) : r01_Mul (d16 x) (d16 y) = some (d16 (x * y)) := by
 obtain ⟨m, hm⟩ : ∃ m, m = (d16 x).length := ⟨_, rfl⟩
 obtain ⟨n, hn⟩ : ∃ n, n = (d16 y).length := ⟨_, rfl⟩
 have hmx : (d16 x).length ≤ m := by omega
 have hny : (d16 y).length ≤ n := by omega
 have hxm : x < 65536 ^ m := by rw [hm]; exact dg_lt b16
 have hyn : y < 65536 ^ n := by rw [hn]; exact dg_lt b16
 have inner : ∀ (i : Nat) (d : List Int), i < m → d.length = m + n + 1 → Dg 65536 d → vl 65536 d = (((x % 65536 ^ i) * y : Nat) : Int) →
   Tot (loopM (fun z : (List Int) × Int × Int => r01_Mul_b2 (d16 x) (d16 y) (i : Int) z.1 z.2.1 z.2.2) (d, (0 : Int), (0 : Int)))
    (fun r => ∃ d', r = .inl (d', (i : Int) + 1) ∧ d'.length = m + n + 1 ∧ Dg 65536 d' ∧ vl 65536 d' = (((x % 65536 ^ (i + 1)) * y : Nat) : Int)) := by
  intro i d hi hl hd hv
  have hdx := dgt_lt (B := 65536) (x := x) (i := i) (by omega)
  have hw0 : IntKind.i64.wrap ((i : Int) + 1) = (i : Int) + 1 := w64 (by omega) (by omega)
  have hbound : ∀ (k : Nat) (d' : List Int) (o : Int), Dg 65536 d' → 0 < o → vl 65536 d' + o * ((65536 ^ (i + k) : Nat) : Int) = (((x % 65536 ^ i) * y : Nat) : Int) + ((65536 ^ i * (dgt 65536 x i * (y % 65536 ^ k)) : Nat) : Int) → k ≤ n := by
   intro k d' o hd' ho hv'
   have h0 := (vl_bound hd').1
   have h1 : 1 * ((65536 ^ (i + k) : Nat) : Int) ≤ o * ((65536 ^ (i + k) : Nat) : Int) := Int.mul_le_mul_of_nonneg_right (by omega) (Int.natCast_nonneg _)
   have h2 : 65536 ^ (i + k) ≤ (x % 65536 ^ i) * y + 65536 ^ i * (dgt 65536 x i * (y % 65536 ^ k)) := by omega
   have h3 : 65536 ^ i * (dgt 65536 x i * (y % 65536 ^ k)) ≤ 65536 ^ i * (dgt 65536 x i * y) := Nat.mul_le_mul_left _ (Nat.mul_le_mul_left _ (Nat.mod_le ..))
   have h4 : (x % 65536 ^ i) * y + 65536 ^ i * (dgt 65536 x i * y) = (x % 65536 ^ (i + 1)) * y := by rw [mod_up, Nat.add_mul, Nat.mul_assoc]
   have h5 : (x % 65536 ^ (i + 1)) * y ≤ 65536 ^ (i + 1) * y := Nat.mul_le_mul_right _ (Nat.le_of_lt (Nat.mod_lt _ (Nat.pow_pos (by omega))))
   have h6 : 65536 ^ (i + 1) * y < 65536 ^ (i + 1) * 65536 ^ n := Nat.mul_lt_mul_of_pos_left hyn (Nat.pow_pos (by omega))
   rw [← Nat.pow_add] at h6
   have h7 : 65536 ^ (i + k) < 65536 ^ (i + 1 + n) := by omega
   have := (Nat.pow_lt_pow_iff_right (show 1 < 65536 by omega)).1 h7
   omega
  refine Tot.loop (fun s => ∃ k : Nat, s.2.2 = (k : Int) ∧ k ≤ n + 1 ∧ s.1.length = m + n + 1 ∧ Dg 65536 s.1 ∧ 0 ≤ s.2.1 ∧ s.2.1 < 65536 ∧ vl 65536 s.1 + s.2.1 * ((65536 ^ (i + k) : Nat) : Int) = (((x % 65536 ^ i) * y : Nat) : Int) + ((65536 ^ i * (dgt 65536 x i * (y % 65536 ^ k)) : Nat) : Int))
   (fun s => ((n : Int) + 1 - s.2.2).toNat) (fun s hs => ?_) ⟨0, rfl, by omega, hl, hd, by simp, by simp, by simp [hv, Nat.mod_one]⟩
  obtain ⟨d, o, k0⟩ := s
  obtain ⟨k, h1, h2, h3, h4, h5, h6, h7⟩ := hs
  simp only at h1 h3 h4 h5 h6 h7
  subst h1
  have hdy := dgt_lt (B := 65536) (x := y) (i := k) (by omega)
  have hw1 : IntKind.i64.wrap ((i : Int) + (k : Int)) = ((i + k : Nat) : Int) := by rw [w64 (by omega) (by omega)]; omega
  have hdd := h4.rd (by omega) ((i + k : Nat) : Int)
  have hprod : 0 ≤ ((dgt 65536 x i : Nat) : Int) * ((dgt 65536 y k : Nat) : Int) ∧ ((dgt 65536 x i : Nat) : Int) * ((dgt 65536 y k : Nat) : Int) ≤ 4294836225 := by
   have := Nat.mul_le_mul (show dgt 65536 x i ≤ 65535 by omega) (show dgt 65536 y k ≤ 65535 by omega)
   rw [← Int.natCast_mul]
   omega
  have hw2 : IntKind.i64.wrap (((dgt 65536 x i : Nat) : Int) * ((dgt 65536 y k : Nat) : Int)) = ((dgt 65536 x i : Nat) : Int) * ((dgt 65536 y k : Nat) : Int) := w64 (by omega) (by omega)
  have hw3 : IntKind.i64.wrap (rd 0 d ((i + k : Nat) : Int) + ((dgt 65536 x i : Nat) : Int) * ((dgt 65536 y k : Nat) : Int)) = rd 0 d ((i + k : Nat) : Int) + ((dgt 65536 x i : Nat) : Int) * ((dgt 65536 y k : Nat) : Int) := w64 (by omega) (by omega)
  obtain ⟨t, ht⟩ : ∃ t, t = rd 0 d ((i + k : Nat) : Int) + ((dgt 65536 x i : Nat) : Int) * ((dgt 65536 y k : Nat) : Int) + o := ⟨_, rfl⟩
  have hw4 : IntKind.i64.wrap t = t := w64 (by omega) (by omega)
  obtain ⟨t1, t2⟩ := tdivmod (a := t) (b := 65536) (by omega)
  have hw5 : IntKind.i64.wrap (t / 65536) = t / 65536 := w64 (by omega) (by omega)
  have hw6 : IntKind.i64.wrap ((k : Int) + 1) = (k : Int) + 1 := w64 (by omega) (by omega)
  simp only [r01_Mul_b2, r01_Mul_j3, r01_Mul_j2, r01_digit_eq _ (show (0 : Int) ≤ (k : Int) by omega), rd_dgt b16, hw0, hw1, hw2, hw3, ← ht, hw4, t1, t2, hw5, hw6, cond_some, Tot.cond_iff, Tot.ass_iff, Tot.bnd_iff, Tot.some_iff, Tot.map_iff, Tot.bind_iff, Nx.inl_iff, Nx.inr_iff, decide_eq_true_eq, decide_eq_false_iff_not]
  refine ⟨fun hc => ?_, fun hc => ?_⟩
  ·have hk : k ≤ n := by
    simp only [Bool.and_eq_true, Bool.or_eq_true, Bool.not_eq_true', Bool.and_eq_false_iff, Bool.or_eq_false_iff, Bool.not_eq_false', beq_iff_eq, bne_iff_ne, beq_eq_false_iff_ne, bne_eq_false_iff_eq, decide_eq_true_eq, decide_eq_false_iff_not] at hc
    rcases hc with hc | hc
    ·omega
    ·exact hbound k d o h4 hc h7
   have hik : i + k < d.length := by omega
   refine ⟨⟨by omega, by omega⟩, ⟨by omega, by omega⟩, by simp, ⟨by omega, by omega⟩, by simp, ⟨k + 1, by simp, by omega, by rw [wr_length]; exact h3, h4.wr (by omega) (by omega), by omega, by omega, ?_⟩, by omega⟩
   rw [vl_wr hik, mod_up (x := y), show i + (k + 1) = (i + k) + 1 from by omega, Nat.pow_succ]
   have hs : t = t / 65536 * 65536 + t % 65536 := by omega
   have e1 : 65536 ^ i * (dgt 65536 x i * (y % 65536 ^ k + 65536 ^ k * dgt 65536 y k)) = 65536 ^ i * (dgt 65536 x i * (y % 65536 ^ k)) + 65536 ^ (i + k) * (dgt 65536 x i * dgt 65536 y k) := by
    rw [Nat.pow_add]; grind
   rw [e1]
   simp only [Int.natCast_add, Int.natCast_mul] at h7 ⊢
   generalize t / 65536 = q at hs ⊢
   generalize t % 65536 = r at hs ⊢
   generalize ((65536 ^ (i + k) : Nat) : Int) = M at h7 ⊢
   have hM : M * t = M * (q * 65536 + r) := by rw [hs]
   rw [ht] at hM
   rw [show ((65536 : Nat) : Int) = 65536 from rfl]
   grind
  ·simp only [Bool.and_eq_true, Bool.or_eq_true, Bool.not_eq_true', Bool.and_eq_false_iff, Bool.or_eq_false_iff, Bool.not_eq_false', beq_iff_eq, bne_iff_ne, beq_eq_false_iff_ne, bne_eq_false_iff_eq, decide_eq_true_eq, decide_eq_false_iff_not] at hc
   have ho : o = 0 := by omega
   refine ⟨d, by simp, h3, h4, ?_⟩
   rw [ho, dg_mod_len (x := y) (k := k) b16 (show (d16 y).length ≤ k by omega)] at h7
   rw [mod_up, Nat.add_mul, Nat.mul_assoc]
   rw [Int.natCast_add]
   omega
 rw [← Tot.eq_iff]
 have hw1 : IntKind.i64.wrap (((d16 x).length : Int) + ((d16 y).length : Int)) = ((m + n : Nat) : Int) := by rw [w64 (by omega) (by omega)]; omega
 have hw2 : IntKind.i64.wrap (((m + n : Nat) : Int) + 1) = ((m + n + 1 : Nat) : Int) := by rw [w64 (by omega) (by omega)]; omega
 simp only [r01_Mul, hw1, hw2, cond_some, Tot.cond_iff, Tot.ass_iff, Tot.bnd_iff, Tot.some_iff, Tot.map_iff, Tot.bind_iff, Nx.inl_iff, Nx.inr_iff, decide_eq_true_eq, decide_eq_false_iff_not]
 refine ⟨⟨by omega, Int.le_refl _, by unfold lim; omega⟩, ?_⟩
 refine Tot.loop (fun s => ∃ i : Nat, s.2 = (i : Int) ∧ i ≤ m ∧ s.1.length = m + n + 1 ∧ Dg 65536 s.1 ∧ vl 65536 s.1 = (((x % 65536 ^ i) * y : Nat) : Int))
  (fun s => ((m : Int) - s.2).toNat) (fun s hs => ?_) ⟨0, rfl, by omega, by rw [List.length_replicate]; omega, Dg.rep (by omega), by simp [vl_rep, Nat.mod_one]⟩
 obtain ⟨d, i0⟩ := s
 obtain ⟨i, h1, h2, h3, h4, h5⟩ := hs
 simp only at h1 h3 h4 h5
 subst h1
 simp only [r01_Mul_b1, r01_Mul_j1, cond_some, Tot.cond_iff, Tot.ass_iff, Tot.bnd_iff, Tot.some_iff, Tot.map_iff, Tot.bind_iff, Nx.inl_iff, Nx.inr_iff, decide_eq_true_eq, decide_eq_false_iff_not]
 refine ⟨fun hc => ?_, fun hc => ?_⟩
 ·refine (inner i d (by omega) h3 h4 h5).mono fun r hr => ?_
  obtain ⟨d', rfl, k1, k2, k3⟩ := hr
  exact ⟨⟨i + 1, by simp, by omega, k1, k2, k3⟩, by simp only; omega⟩
 ·have hi : i = m := by omega
  rw [r01_Cut_eq h4 (by omega)]
  rw [dg_mod_len (x := x) (k := i) b16 (show (d16 x).length ≤ i by omega)] at h5
  refine Tot.some_iff.2 ?_
  rw [h5, Int.toNat_natCast]
theorem vl_cons_dg {B r : Nat} {a : Int} (hB : 2 ≤ B) : vl B ([a] ++ dg B r) = a + (B : Int) * (r : Int) := by
 show a + (B : Int) * vl B (dg B r) = _
 rw [vl_dg hB]
theorem r01_Div_eq {x y : Nat} (hx : (d16 x).length ≤ 2000000) (hy : (d16 y).length ≤ 2000000) (hy0 : 0 < y) : r01_Div (d16 x) (d16 y) = some (d16 (x / y), d16 (x % y)) := by
 obtain ⟨m, hm⟩ : ∃ m, m = (d16 x).length := ⟨_, rfl⟩
 have hs16 : ∀ a : Nat, a ≤ 65535 → (d16 a).length ≤ 1 := fun a ha => dg_len b16 (by omega)
 have search : ∀ (i : Nat) (q : List Int) (R : Nat), i < m → q.length = m → Dg 65536 q → R < 65536 * y → (d16 R).length ≤ 2000001 →
   Tot (loopM (fun z : Int × Int => r01_Div_b2 (d16 y) q (i : Int) (d16 R) z.1 z.2) ((0 : Int), (65535 : Int)))
    (fun r => r = .inl (wr q (i : Int) ((R / y : Nat) : Int), d16 (R % y), (i : Int) - 1)) := by
  intro i q R hi hq hdq hR hRl
  have hRy : R / y < 65536 := Nat.div_lt_of_lt_mul (by rw [Nat.mul_comm]; exact hR)
  refine Tot.loop (fun s => ∃ lo hi : Nat, s = ((lo : Int), (hi : Int)) ∧ lo ≤ R / y ∧ R / y ≤ hi ∧ hi ≤ 65535) (fun s => (s.2 - s.1).toNat) (fun s hs => ?_) ⟨0, 65535, rfl, Nat.zero_le _, by omega, by omega⟩
  obtain ⟨lo, hi', rfl, h1, h2, h3⟩ := hs
  have hw1 : IntKind.i64.wrap ((lo : Int) + (hi' : Int)) = (lo : Int) + (hi' : Int) := w64 (by omega) (by omega)
  have hw2 : IntKind.i64.wrap ((lo : Int) + (hi' : Int) + 1) = (lo : Int) + (hi' : Int) + 1 := w64 (by omega) (by omega)
  obtain ⟨t1, t2⟩ := tdivmod (a := (lo : Int) + (hi' : Int) + 1) (b := 2) (by omega)
  have hw3 : IntKind.i64.wrap (((lo : Int) + (hi' : Int) + 1) / 2) = (((lo + hi' + 1) / 2 : Nat) : Int) := by rw [w64 (by omega) (by omega)]; omega
  have hw4 : IntKind.u64.wrap (((lo + hi' + 1) / 2 : Nat) : Int) = (((lo + hi' + 1) / 2 : Nat) : Int) := u64i (by omega) (by omega)
  have hw5 : IntKind.u64.wrap (lo : Int) = (lo : Int) := u64i (by omega) (by omega)
  have hw6 : IntKind.i64.wrap ((i : Int) - 1) = (i : Int) - 1 := w64 (by omega) (by omega)
  have hw7 : IntKind.i64.wrap ((((lo + hi' + 1) / 2 : Nat) : Int) - 1) = (((lo + hi' + 1) / 2 : Nat) : Int) - 1 := w64 (by omega) (by omega)
  obtain ⟨mid, hmid⟩ : ∃ mid, mid = (lo + hi' + 1) / 2 := ⟨_, rfl⟩
  have hml : (d16 (y * mid)).length ≤ 2000001 := by
   have := d16_mul y mid
   have := hs16 mid (by omega)
   omega
  have hmm : r01_Mul (d16 y) (d16 mid) = some (d16 (y * mid)) := r01_Mul_eq (by omega) (by have := hs16 mid (by omega); omega)
  have hmo : r01_Of (mid : Int) = some (d16 mid) := r01_Of_eq (by omega)
  have hmc : r01_Cmp (d16 (y * mid)) (d16 R) = some (cmpN (y * mid) R) := r01_Cmp_eq (by omega) (by omega)
  have hlm : r01_Mul (d16 y) (d16 lo) = some (d16 (y * lo)) := r01_Mul_eq (by omega) (by have := hs16 lo (by omega); omega)
  have hlo : r01_Of (lo : Int) = some (d16 lo) := r01_Of_eq (by omega)
  have hle : y * lo ≤ R := Nat.le_trans (Nat.mul_le_mul_left y h1) (Nat.mul_div_le R y)
  have hls : r01_Sub (d16 R) (d16 (y * lo)) = some (d16 (R - y * lo)) := r01_Sub_eq (by omega) hle
  simp only [r01_Div_b2, r01_Div_j3, r01_Div_j2, hw1, hw2, t1, hw3, ← hmid, hw5, hw6] at hw4 hw7 ⊢
  simp only [hw4, hw7, hmo, hmm, hmc, hlo, hlm, hls, Option.bind_some, cond_some, Tot.cond_iff, Tot.ass_iff, Tot.bnd_iff, Tot.some_iff, Tot.map_iff, Tot.bind_iff, Nx.inl_iff, Nx.inr_iff, decide_eq_true_eq, decide_eq_false_iff_not]
  refine ⟨fun hc => ⟨by simp, fun hcmp => ⟨⟨mid, hi', rfl, ?_, h2, h3⟩, by omega⟩, fun hcmp => ⟨⟨lo, mid - 1, by rw [show ((mid - 1 : Nat) : Int) = (mid : Int) - 1 from by omega], h1, ?_, by omega⟩, by omega⟩⟩, fun hc => ⟨⟨by omega, by omega⟩, ?_⟩⟩
  ·have : y * mid ≤ R := by
    unfold cmpN at hcmp
    split at hcmp
    ·omega
    ·split at hcmp
     ·omega
     ·omega
   exact (Nat.le_div_iff_mul_le hy0).2 (by rw [Nat.mul_comm]; exact this)
  ·have : R < y * mid := by
    unfold cmpN at hcmp
    split at hcmp
    ·omega
    ·split at hcmp
     ·assumption
     ·omega
   have := (Nat.div_lt_iff_lt_mul hy0).2 (show R < mid * y by rw [Nat.mul_comm]; exact this)
   omega
  ·have : lo = R / y := by omega
   subst this
   have e : R - y * (R / y) = R % y := by have := Nat.mod_add_div R y; omega
   rw [e]
 rw [← Tot.eq_iff]
 have hw1 : IntKind.i64.wrap (((d16 x).length : Int) - 1) = (m : Int) - 1 := by rw [w64 (by omega) (by omega)]; omega
 simp only [r01_Div, hw1, cond_some, Tot.cond_iff, Tot.ass_iff, Tot.bnd_iff, Tot.some_iff, Tot.map_iff, Tot.bind_iff, Nx.inl_iff, Nx.inr_iff, decide_eq_true_eq, decide_eq_false_iff_not]
 refine ⟨⟨by omega, Int.le_refl _, by unfold lim; omega⟩, ?_⟩
 refine Tot.loop (fun s => ∃ k : Nat, s.2.2 = (k : Int) - 1 ∧ k ≤ m ∧ s.1.length = m ∧ Dg 65536 s.1 ∧ s.2.1 = d16 (x / 65536 ^ k % y) ∧ vl 65536 s.1 = ((65536 ^ k * (x / 65536 ^ k / y) : Nat) : Int) ∧ ∀ j : Nat, j < k → rd 0 s.1 (j : Int) = 0)
  (fun s => (s.2.2 + 1).toNat) (fun s hs => ?_) ⟨m, rfl, Nat.le_refl _, by simp [hm], Dg.rep (by omega), ?_, ?_, fun j _ => ?_⟩
 rotate_left
 ·rw [dg_div_len (x := x) (k := m) b16 (show (d16 x).length ≤ m by omega)]; simp [dg_zero]
 ·rw [dg_div_len (x := x) (k := m) b16 (show (d16 x).length ≤ m by omega)]; simp [vl_rep]
 ·simp [rd, List.getD_eq_getElem?_getD, List.getElem?_replicate]; split <;> rfl
 obtain ⟨q, rest, i0⟩ := s
 obtain ⟨k, h1, h2, h3, h4, h5, h6, h7⟩ := hs
 simp only at h1 h3 h4 h5 h6 h7
 subst h1 h5
 rcases Nat.eq_zero_or_pos k with hk | hk
 ·subst hk
  simp only [r01_Div_b1, r01_Div_j1, cond_some, Tot.cond_iff, Tot.ass_iff, Tot.bnd_iff, Tot.some_iff, Tot.map_iff, Tot.bind_iff, Nx.inl_iff, Nx.inr_iff, decide_eq_true_eq, decide_eq_false_iff_not]
  refine ⟨fun hc => absurd hc (by omega), fun _ => ?_⟩
  simp only [Nat.pow_zero, Nat.div_one, Nat.one_mul] at h6 ⊢
  rw [r01_Cut_eq h4 (by omega), h6, Int.toNat_natCast]
  exact Tot.some_iff.2 rfl
 ·obtain ⟨i, rfl⟩ : ∃ i, k = i + 1 := ⟨k - 1, by omega⟩
  have hi1 : (((i + 1 : Nat) : Int) - 1) = (i : Int) := by omega
  rw [hi1]
  have hdx := dgt_lt (B := 65536) (x := x) (i := i) (by omega)
  obtain ⟨r, hr⟩ : ∃ r, r = x / 65536 ^ (i + 1) % y := ⟨_, rfl⟩
  have hry : r < y := by rw [hr]; exact Nat.mod_lt _ hy0
  have hrl : (d16 r).length ≤ 2000000 := Nat.le_trans (d16_mono (Nat.le_of_lt hry)) hy
  rw [← hr]
  have hcut : r01_Cut ([((dgt 65536 x i : Nat) : Int)] ++ d16 r) = some (d16 (dgt 65536 x i + 65536 * r)) := by
   rw [r01_Cut_eq (Dg.append.2 ⟨Dg.cons.2 ⟨⟨by omega, by omega⟩, Dg.nil⟩, dg_Dg b16⟩) (by have hrl2 : (dg 65536 r).length ≤ 2000000 := hrl; simp only [List.length_append, List.length_singleton]; omega), vl_cons_dg b16]
   have : (((dgt 65536 x i : Nat) : Int) + ((65536 : Nat) : Int) * (r : Int)).toNat = dgt 65536 x i + 65536 * r := by omega
   rw [this]
  have hRl : (d16 (dgt 65536 x i + 65536 * r)).length ≤ 2000001 := by
   have h1 : dgt 65536 x i + 65536 * r ≤ 65536 * y := by omega
   have h2 := d16_mono h1
   have h3 := d16_mul 65536 y
   have h4 : (d16 65536).length ≤ 2 := dg_len b16 (by omega)
   have h5 : dgt 65536 x i + 65536 * r < 65536 ^ ((d16 y).length + 1) := by
    rw [Nat.pow_succ, Nat.mul_comm]
    have : y < 65536 ^ (d16 y).length := dg_lt b16
    have : 65536 * (y + 1) ≤ 65536 * 65536 ^ (d16 y).length := Nat.mul_le_mul_left _ this
    omega
   exact Nat.le_trans (dg_len b16 h5) (by omega)
  simp only [r01_Div_b1, rd_dgt b16, hcut, Option.bind_some, cond_some, Tot.cond_iff, Tot.ass_iff, Tot.bnd_iff, Tot.some_iff, Tot.map_iff, Tot.bind_iff, Nx.inl_iff, Nx.inr_iff, decide_eq_true_eq, decide_eq_false_iff_not]
  refine ⟨fun _ => ⟨⟨by omega, by omega⟩, by simp only [List.length_singleton]; unfold limA; omega, ?_⟩, fun hc => absurd hc (by omega)⟩
  refine (search i q (dgt 65536 x i + 65536 * r) (by omega) h3 h4 (by omega) hRl).mono fun s hs => ?_
  subst hs
  have hRy : (dgt 65536 x i + 65536 * r) / y < 65536 := Nat.div_lt_of_lt_mul (by rw [Nat.mul_comm]; omega)
  have hxe : x / 65536 ^ i = (dgt 65536 x i + 65536 * r) + y * (65536 * (x / 65536 ^ (i + 1) / y)) := by
   rw [div_up, hr]
   have := Nat.mod_add_div (x / 65536 ^ (i + 1)) y
   have e : y * (65536 * (x / 65536 ^ (i + 1) / y)) = 65536 * (y * (x / 65536 ^ (i + 1) / y)) := Nat.mul_left_comm ..
   rw [e]
   omega
  refine ⟨⟨i, rfl, by omega, by rw [wr_length]; exact h3, h4.wr (Int.natCast_nonneg _) (by exact_mod_cast hRy), ?_, ?_, fun j hj => ?_⟩, by simp only; omega⟩
  ·simp only
   rw [hxe, Nat.add_mul_mod_self_left]
  ·simp only
   rw [vl_wr (by omega), h6, h7 i (by omega), hxe, Nat.add_mul_div_left _ _ hy0, Nat.pow_succ, Nat.mul_add]
   simp only [Int.natCast_add, Int.natCast_mul]
   rw [show ((65536 : Nat) : Int) = 65536 from rfl]
   grind
  ·simp only
   rw [rd_wr (by omega) (by omega) (by omega), if_neg (by omega)]
   exact h7 j (by omega)
theorem r03_Gcd_eq {x y : Nat} (hx : (d16 x).length ≤ 2000000) (hy : (d16 y).length ≤ 2000000) : r03_Gcd (d16 x) (d16 y) = some (d16 (Nat.gcd x y)) := by
 rw [← Tot.eq_iff]
 unfold r03_Gcd
 refine Tot.loop (fun s => ∃ a b : Nat, s = (d16 a, d16 b) ∧ (d16 a).length ≤ 2000000 ∧ (d16 b).length ≤ 2000000 ∧ Nat.gcd a b = Nat.gcd x y) (fun s => (vl 65536 s.2).toNat) (fun s hs => ?_) ⟨x, y, rfl, hx, hy, rfl⟩
 obtain ⟨a, b, rfl, h1, h2, h3⟩ := hs
 simp only [r03_Gcd_b1, r03_Gcd_j1, cond_some, Tot.cond_iff, Tot.ass_iff, Tot.bnd_iff, Tot.some_iff, Tot.map_iff, Tot.bind_iff, Nx.inl_iff, Nx.inr_iff, decide_eq_true_eq, decide_eq_false_iff_not]
 refine ⟨fun hc => ?_, fun hc => ?_⟩
 ·have hb : 0 < b := by
   rcases Nat.eq_zero_or_pos b with h0 | h0
   ·subst h0; rw [d16, dg_zero] at hc; simp at hc
   ·exact h0
  rw [r01_Div_eq h1 h2 hb]
  have hlt := Nat.mod_lt a hb
  refine Tot.some_iff.2 ⟨⟨b, a % b, rfl, h2, Nat.le_trans (d16_mono (Nat.le_of_lt hlt)) h2, by rw [Nat.gcd_comm b, ← Nat.gcd_rec, Nat.gcd_comm, h3]⟩, ?_⟩
  simp only [d16, vl_dg b16]
  omega
 ·have hb : b = 0 := (dg_nil b16).1 (List.eq_nil_of_length_eq_zero (by simp only [d16] at hc ⊢; omega))
  subst hb
  rw [Nat.gcd_zero_right] at h3
  rw [h3]
theorem pow32 (i : Nat) : 65536 ^ (2 * i) = 4294967296 ^ i := by
 rw [Nat.pow_mul]
theorem dg_top {B n : Nat} (hB : 2 ≤ B) (h : dg B n ≠ []) : rd 0 (dg B n) (((dg B n).length - 1 : Nat) : Int) ≠ 0 := by
 have h1 := dg_last hB (n := n)
 have hp := List.length_pos_iff.2 h
 rw [List.getLast?_eq_getElem?, List.getElem?_eq_getElem (by omega)] at h1
 rw [rd_eq ((dg B n).length - 1) rfl (by omega)]
 exact fun hc => h1 (by rw [hc])
theorem r03_Out_eq {x : Nat} (hl : (d16 x).length ≤ 4000000) : r03_Out (d16 x) = some (d32 x) := by
 rw [← Tot.eq_iff]
 unfold r03_Out
 refine Tot.loop (fun s => ∃ j : Nat, s.2 = ((2 * j : Nat) : Int) ∧ 2 * j ≤ (d16 x).length + 1 ∧ s.1.length = j ∧ Dg 4294967296 s.1 ∧ vl 4294967296 s.1 = ((x % 4294967296 ^ j : Nat) : Int) ∧ ((d16 x).length ≤ 2 * j → s.1.getLast? ≠ some 0))
  (fun s => (((d16 x).length : Int) + 1 - s.2).toNat) (fun s hs => ?_) ⟨0, rfl, by omega, rfl, Dg.nil, by simp [vl, Nat.mod_one], fun _ => by simp⟩
 obtain ⟨l, i0⟩ := s
 obtain ⟨j, h1, h2, h3, h4, h5, h6⟩ := hs
 simp only at h1 h3 h4 h5 h6
 subst h1
 have hd0 := dgt_lt (B := 65536) (x := x) (i := 2 * j) (by omega)
 have hd1 := dgt_lt (B := 65536) (x := x) (i := 2 * j + 1) (by omega)
 have hw1 : IntKind.i64.wrap (((2 * j : Nat) : Int) + 1) = ((2 * j + 1 : Nat) : Int) := by rw [w64 (by omega) (by omega)]; omega
 have hw2 : IntKind.i64.wrap (((2 * j : Nat) : Int) + 2) = ((2 * (j + 1) : Nat) : Int) := by rw [w64 (by omega) (by omega)]; omega
 have hw3 : IntKind.u32.wrap ((dgt 65536 x (2 * j) : Nat) : Int) = ((dgt 65536 x (2 * j) : Nat) : Int) := u32i (by omega) (by omega)
 have hw4 : IntKind.u32.wrap ((dgt 65536 x (2 * j + 1) : Nat) : Int) = ((dgt 65536 x (2 * j + 1) : Nat) : Int) := u32i (by omega) (by omega)
 have hw5 : IntKind.u32.wrap (((dgt 65536 x (2 * j + 1) : Nat) : Int) * 65536) = ((dgt 65536 x (2 * j + 1) : Nat) : Int) * 65536 := u32i (by omega) (by omega)
 have hw6 : IntKind.u32.wrap (((dgt 65536 x (2 * j) : Nat) : Int) + ((dgt 65536 x (2 * j + 1) : Nat) : Int) * 65536) = ((dgt 65536 x (2 * j) : Nat) : Int) + ((dgt 65536 x (2 * j + 1) : Nat) : Int) * 65536 := u32i (by omega) (by omega)
 have htop : (d16 x).length ≠ 0 → dgt 65536 x ((d16 x).length - 1) ≠ 0 := fun hn => by
  have := dg_top b16 (n := x) (fun hc => hn (by rw [d16, hc]; rfl))
  rw [rd_dgt b16] at this
  exact fun hc => this (by rw [d16] at hc; rw [hc]; rfl)
 have e : 4294967296 ^ (j + 1) = 65536 ^ (2 * j + 1 + 1) := by rw [show 2 * j + 1 + 1 = 2 * (j + 1) from by omega, pow32]
 have hval : ((x % 4294967296 ^ (j + 1) : Nat) : Int) = ((x % 4294967296 ^ j : Nat) : Int) + ((4294967296 ^ j : Nat) : Int) * (((dgt 65536 x (2 * j) : Nat) : Int) + ((dgt 65536 x (2 * j + 1) : Nat) : Int) * 65536) := by
  rw [e, mod_up, mod_up, Nat.pow_succ 65536 (2 * j), pow32]
  simp only [Int.natCast_add, Int.natCast_mul, Int.mul_add]
  rw [show ((65536 : Nat) : Int) = 65536 from rfl]
  grind
 simp only [r03_Out_b1, r03_Out_j1, r03_Out_j2, rd_dgt b16, hw1, hw2, hw3, hw4, hw5, hw6, cond_some, Tot.cond_iff, Tot.ass_iff, Tot.bnd_iff, Tot.some_iff, Tot.map_iff, Tot.bind_iff, Nx.inl_iff, Nx.inr_iff, decide_eq_true_eq, decide_eq_false_iff_not]
 refine ⟨fun hc => ⟨⟨by omega, hc⟩, fun hc2 => ⟨⟨by omega, hc2⟩, by simp only [List.length_singleton]; unfold limA; omega, ⟨j + 1, rfl, by omega, by simp [h3], h4.snoc (by omega) (by omega), ?_, fun hle => ?_⟩, by omega⟩,
  fun hc2 => ⟨by simp only [List.length_singleton]; unfold limA; omega, ⟨j + 1, rfl, by omega, by simp [h3], h4.snoc (by omega) (by omega), ?_, fun hle => ?_⟩, by omega⟩⟩, fun hc => ?_⟩
 ·rw [vl_snoc, h5, h3, hval]
 ·have hlen : (d16 x).length = 2 * j + 2 := by omega
  have := htop (by omega)
  rw [hlen, show 2 * j + 2 - 1 = 2 * j + 1 from by omega] at this
  rw [List.getLast?_append]
  simp
  omega
 ·have hlen : (d16 x).length = 2 * j + 1 := by omega
  have hz : dgt 65536 x (2 * j + 1) = 0 := by unfold dgt; rw [dg_div_len (x := x) (k := 2 * j + 1) b16 (show (d16 x).length ≤ 2 * j + 1 by omega)]
  rw [vl_snoc, h5, h3, hval, hz]
  simp
 ·have hlen : (d16 x).length = 2 * j + 1 := by omega
  have := htop (by omega)
  rw [hlen, show 2 * j + 1 - 1 = 2 * j from by omega] at this
  rw [List.getLast?_append]
  simp
  omega
 ·have hx : x % 4294967296 ^ j = x := by
   refine Nat.mod_eq_of_lt ?_
   rw [← pow32]
   exact Nat.lt_of_lt_of_le (dg_lt b16) (Nat.pow_le_pow_right (by omega) (show (d16 x).length ≤ 2 * j by omega))
  rw [hx] at h5
  have := dg_of b32 h4 (h6 (by omega))
  rw [h5, Int.toNat_natCast] at this
  exact this
theorem r03_Same_eq (a b : List Int) (ha : a.length ≤ 100000000) : r03_Same a b = some (decide (a = b)) := by
 suffices hh : Tot (r03_Same a b) (fun r => r = true ↔ a = b) by
  rw [hh.dec]
  congr 1
  by_cases h : a = b <;> simp [h]
 simp only [r03_Same, cond_some, Tot.cond_iff, Tot.ass_iff, Tot.bnd_iff, Tot.some_iff, Tot.map_iff, Tot.bind_iff, Nx.inl_iff, Nx.inr_iff, decide_eq_true_eq, decide_eq_false_iff_not]
 refine ⟨fun h => ?_, fun h => ?_⟩
 ·simp only [Bool.and_eq_true, Bool.or_eq_true, Bool.not_eq_true', Bool.and_eq_false_iff, Bool.or_eq_false_iff, Bool.not_eq_false', beq_iff_eq, bne_iff_ne, beq_eq_false_iff_ne, bne_eq_false_iff_eq, decide_eq_true_eq, decide_eq_false_iff_not] at h
  simp only [Bool.false_eq_true, false_iff]
  intro hc; rw [hc] at h; exact h rfl
 ·simp only [Bool.and_eq_true, Bool.or_eq_true, Bool.not_eq_true', Bool.and_eq_false_iff, Bool.or_eq_false_iff, Bool.not_eq_false', beq_iff_eq, bne_iff_ne, beq_eq_false_iff_ne, bne_eq_false_iff_eq, decide_eq_true_eq, decide_eq_false_iff_not] at h
  refine Tot.loop (fun x => 0 ≤ x ∧ x ≤ (a.length : Int) ∧ ∀ k : Int, 0 ≤ k → k < x → rd 0 a k = rd 0 b k) (fun x => ((a.length : Int) - x).toNat) (fun x hx => ?_) ⟨by omega, by omega, fun k _ _ => by omega⟩
  obtain ⟨h0, h1, h2⟩ := hx
  have hw1 : IntKind.i64.wrap (x + 1) = x + 1 := w64 (by omega) (by omega)
  simp only [r03_Same_b1, r03_Same_j1, hw1, cond_some, Tot.cond_iff, Tot.ass_iff, Tot.bnd_iff, Tot.some_iff, Tot.map_iff, Tot.bind_iff, Nx.inl_iff, Nx.inr_iff, decide_eq_true_eq, decide_eq_false_iff_not]
  refine ⟨fun hlt => ⟨⟨h0, hlt⟩, ⟨h0, by omega⟩, fun he => ?_, fun he => ⟨⟨by omega, by omega, fun k c d => ?_⟩, by omega⟩⟩, fun hge => ?_⟩
  ·simp only [Bool.and_eq_true, Bool.or_eq_true, Bool.not_eq_true', Bool.and_eq_false_iff, Bool.or_eq_false_iff, Bool.not_eq_false', beq_iff_eq, bne_iff_ne, beq_eq_false_iff_ne, bne_eq_false_iff_eq, decide_eq_true_eq, decide_eq_false_iff_not] at he
   simp only [Bool.false_eq_true, false_iff]
   intro hc; rw [hc] at he; exact he rfl
  ·simp only [Bool.and_eq_true, Bool.or_eq_true, Bool.not_eq_true', Bool.and_eq_false_iff, Bool.or_eq_false_iff, Bool.not_eq_false', beq_iff_eq, bne_iff_ne, beq_eq_false_iff_ne, bne_eq_false_iff_eq, decide_eq_true_eq, decide_eq_false_iff_not] at he
   by_cases hkx : k = x
   ·rw [hkx]; exact he
   ·exact h2 k c (by omega)
  ·simp only [true_iff]
   refine List.ext_getElem (by omega) fun k hk1 hk2 => ?_
   have := h2 k (by omega) (by omega)
   rwa [rd_eq k rfl hk1, rd_eq k rfl hk2] at this
theorem orS {c a : Int} {s : Nat} (hs : s ≤ 64) (c0 : 0 ≤ c) (c1 : c < ((2 ^ s : Nat) : Int)) (a0 : 0 ≤ a) (a1 : a * ((2 ^ s : Nat) : Int) < 18446744073709551616) :
  ((BitVec.ofInt 64 c ||| BitVec.ofInt 64 (a * ((2 ^ s : Nat) : Int))).toNat : Int) = c + a * ((2 ^ s : Nat) : Int) := by
 obtain ⟨c, rfl⟩ := Int.eq_ofNat_of_zero_le c0
 obtain ⟨a, rfl⟩ := Int.eq_ofNat_of_zero_le a0
 have h64 : 2 ^ s ≤ 2 ^ 64 := Nat.pow_le_pow_right (by omega) hs
 have hc : c < 2 ^ s := by omega
 have ha : a * 2 ^ s < 2 ^ 64 := by
  have : ((a * 2 ^ s : Nat) : Int) < 18446744073709551616 := by rw [Int.natCast_mul]; exact a1
  omega
 rw [← Int.natCast_mul, BitVec.ofInt_natCast, BitVec.ofInt_natCast, BitVec.toNat_or, BitVec.toNat_ofNat, BitVec.toNat_ofNat, Nat.mod_eq_of_lt (by omega), Nat.mod_eq_of_lt ha, Nat.or_comm, Nat.mul_comm, ← Nat.two_pow_add_eq_or_of_lt hc]
 omega
theorem or32 {h l : Int} (h0 : 0 ≤ h) (h1 : h < 4294967296) (l0 : 0 ≤ l) (l1 : l < 4294967296) :
  ((BitVec.ofInt IntKind.u64.bits (IntKind.u64.wrap (h * 2 ^ (min (32 : Int).toNat IntKind.u64.bits))) ||| BitVec.ofInt IntKind.u64.bits (IntKind.u64.wrap l)).toNat : Int) = l + 4294967296 * h := by
 have e : (min (32 : Int).toNat IntKind.u64.bits) = 32 := by decide
 have e2 : IntKind.u64.bits = 64 := by decide
 rw [e, e2, u64i l0 (by omega), u64i (x := h * 2 ^ 32) (by omega) (by omega)]
 have := orS (c := l) (a := h) (s := 32) (by omega) l0 (by omega) h0 (by omega)
 rw [BitVec.or_comm]
 rw [show ((2 ^ 32 : Nat) : Int) = 4294967296 from by decide] at this
 rw [show (2 ^ 32 : Int) = 4294967296 from by decide, this]
 omega
theorem and32 {x : Int} (h0 : 0 ≤ x) (h1 : x < 18446744073709551616) :
  ((BitVec.ofInt IntKind.u64.bits x &&& BitVec.ofInt IntKind.u64.bits (4294967295 : Int)).toNat : Int) = x % 4294967296 := by
 obtain ⟨x, rfl⟩ := Int.eq_ofNat_of_zero_le h0
 rw [show IntKind.u64.bits = 64 from by decide, show (4294967295 : Int) = ((4294967295 : Nat) : Int) from rfl, BitVec.ofInt_natCast, BitVec.ofInt_natCast, BitVec.toNat_and, BitVec.toNat_ofNat, BitVec.toNat_ofNat, Nat.mod_eq_of_lt (by omega)]
 rw [show 4294967295 % 2 ^ 64 = 2 ^ 32 - 1 from by decide, Nat.and_two_pow_sub_one_eq_mod]
 omega
theorem fd32 {x : Int} : x.fdiv (2 ^ (min (32 : Int).toNat IntKind.u64.bits)) = x / 4294967296 := by
 rw [show (min (32 : Int).toNat IntKind.u64.bits) = 32 from by decide, show (2 ^ 32 : Int) = 4294967296 from by decide, Int.fdiv_eq_ediv_of_nonneg _ (by omega)]
theorem fd63 {x : Int} : x.fdiv (2 ^ (min (63 : Int).toNat IntKind.u64.bits)) = x / 9223372036854775808 := by
 rw [show (min (63 : Int).toNat IntKind.u64.bits) = 63 from by decide, show (2 ^ 63 : Int) = 9223372036854775808 from by decide, Int.fdiv_eq_ediv_of_nonneg _ (by omega)]
theorem u32m {x : Int} : IntKind.u32.wrap x = x % 4294967296 := by
 unfold IntKind.wrap
 simp [IntKind.bits, IntKind.signed]
theorem slices_Clone_api_Nat_uint32_eq {l : List Int} (hl : l.length ≤ 100000000) : slices_Clone_api_Nat_uint32 l = some l := by
 rw [← Tot.eq_iff]
 simp only [slices_Clone_api_Nat_uint32, cond_some, Tot.cond_iff, Tot.ass_iff, Tot.bnd_iff, Tot.some_iff, Tot.map_iff, Tot.bind_iff, Nx.inl_iff, Nx.inr_iff, decide_eq_true_eq, decide_eq_false_iff_not]
 simp only [List.length_nil, List.nil_append, and_true]
 unfold limA; omega
theorem nat_Cut_eq {l : List Int} (h : Dg 4294967296 l) (hl : l.length ≤ 10000000) : nat_Cut l = some (d32 (vl 4294967296 l).toNat) := by
 rw [← Tot.eq_iff]
 unfold nat_Cut
 refine Tot.loop (fun x => 0 ≤ x ∧ x ≤ (l.length : Int) ∧ ∀ i : Nat, x ≤ (i : Int) → i < l.length → rd 0 l i = 0) (fun x => x.toNat) (fun x hx => ?_) ⟨by omega, by omega, fun i _ _ => by omega⟩
 obtain ⟨h0, h1, h2⟩ := hx
 have hw : IntKind.i64.wrap (x - 1) = x - 1 := w64 (by omega) (by omega)
 have hcl : slices_Clone_api_Nat_uint32 (sl l 0 x) = some (sl l 0 x) := slices_Clone_api_Nat_uint32_eq (by rw [sl_zero, List.length_take]; omega)
 simp only [nat_Cut_b1, nat_Cut_j1, hw, hcl, Option.bind_some, cond_some, Tot.cond_iff, Tot.ass_iff, Tot.bnd_iff, Tot.some_iff, Tot.map_iff, Tot.bind_iff, Nx.inl_iff, Nx.inr_iff, decide_eq_true_eq, decide_eq_false_iff_not]
 refine ⟨fun hx => by omega, fun hc => ?_, fun hc => ?_⟩
 ·simp only [Bool.and_eq_true, Bool.or_eq_true, Bool.not_eq_true', Bool.and_eq_false_iff, Bool.or_eq_false_iff, Bool.not_eq_false', beq_iff_eq, bne_iff_ne, beq_eq_false_iff_ne, bne_eq_false_iff_eq, decide_eq_true_eq, decide_eq_false_iff_not] at hc
  refine ⟨⟨by omega, by omega, fun i hi hil => ?_⟩, by omega⟩
  by_cases hix : (i : Int) = x - 1
  ·rw [hix]; exact hc.2
  ·exact h2 i (by omega) hil
 ·simp only [Bool.and_eq_true, Bool.or_eq_true, Bool.not_eq_true', Bool.and_eq_false_iff, Bool.or_eq_false_iff, Bool.not_eq_false', beq_iff_eq, bne_iff_ne, beq_eq_false_iff_ne, bne_eq_false_iff_eq, decide_eq_true_eq, decide_eq_false_iff_not] at hc
  refine ⟨⟨by omega, h0, h1⟩, ?_⟩
  rw [sl_zero]
  refine cut_dg b32 h (k := x.toNat) (by omega) (fun i hi hil => h2 i (by omega) hil) ?_
  rcases hc with hc | hc
  ·exact .inl (by omega)
  ·by_cases hx0 : x = 0
   ·left; omega
   ·right
    have : ((x.toNat - 1 : Nat) : Int) = x - 1 := by omega
    rw [this]; exact hc
theorem nat_Cut_d32 {x : Nat} (hl : (d32 x).length ≤ 10000000) : nat_Cut (d32 x) = some (d32 x) := by
 rw [nat_Cut_eq (dg_Dg b32) hl, vl_dg b32, Int.toNat_natCast]
theorem nat_Of_eq {n : Nat} (h : n ≤ 18446744073709551615) : nat_Of (n : Int) = some (d32 n) := by
 rw [← Tot.eq_iff]
 have hd : Dg 4294967296 [IntKind.u32.wrap (n : Int), IntKind.u32.wrap ((n : Int).fdiv (2 ^ (min (32 : Int).toNat IntKind.u64.bits)))] := by
  rw [u32m, u32m]
  exact Dg.cons.2 ⟨by omega, Dg.cons.2 ⟨by omega, Dg.nil⟩⟩
 simp only [nat_Of, nat_Cut_eq hd (by simp), Option.bind_some, cond_some, Tot.cond_iff, Tot.ass_iff, Tot.bnd_iff, Tot.some_iff, Tot.map_iff, Tot.bind_iff, Nx.inl_iff, Nx.inr_iff, decide_eq_true_eq, decide_eq_false_iff_not]
 refine ⟨by omega, ?_⟩
 congr 1
 rw [fd32, u32m, u32m]
 simp only [vl]
 omega
theorem nat_at_eq (l : List Int) {i : Int} (h : 0 ≤ i) : nat_at l i = some (rd 0 l i) := by
 rw [← Tot.eq_iff]
 simp only [nat_at, cond_some, Tot.cond_iff, Tot.ass_iff, Tot.bnd_iff, Tot.some_iff, Tot.map_iff, Tot.bind_iff, Nx.inl_iff, Nx.inr_iff, decide_eq_true_eq, decide_eq_false_iff_not]
 refine ⟨fun hc => ⟨⟨h, hc⟩, by trivial⟩, fun hc => ?_⟩
 unfold rd
 rw [List.getD_eq_getElem?_getD, List.getElem?_eq_none (by omega)]
 rfl
theorem cmp_Compare_uint32_eq (x y : Int) : cmp_Compare_uint32 x y = some (if x < y then -1 else if y < x then 1 else 0) := by
 simp only [cmp_Compare_uint32, cmp_isNaN_uint32, bne_self_eq_false, bnd, Option.bind_some, cond_false, gt_iff_lt]
 by_cases h1 : x < y
 ·simp [h1]
 ·by_cases h2 : y < x <;> simp [h1, h2]
def Is (a : List Int) (x : Nat) : Prop := Dg 4294967296 a ∧ vl 4294967296 a = (x : Int)
theorem Is.d32 (x : Nat) : Is (Tom.d32 x) x := ⟨dg_Dg b32, vl_dg b32⟩
theorem Is.lt {a : List Int} {x : Nat} (h : Is a x) : x < 4294967296 ^ a.length := by have := (vl_bound h.1).2; rw [h.2] at this; exact_mod_cast this
theorem Is.len {a : List Int} {x : Nat} (h : Is a x) : (Tom.d32 x).length ≤ a.length := dg_len b32 h.lt
theorem Is.rd {a : List Int} {x : Nat} (h : Is a x) (i : Nat) : rd 0 a (i : Int) = ((dgt 4294967296 x i : Nat) : Int) := by
 rw [rd_vl b32 h.1, h.2]; unfold dgt; simp
theorem nat_Cmp_is {va vb : List Int} {x y : Nat} (iva : Is va x) (ivb : Is vb y) (hx : va.length ≤ 10000000) (hy : vb.length ≤ 10000000) : nat_Cmp va vb = some (cmpN x y) := by
 obtain ⟨n, hn⟩ : ∃ n, n = max va.length vb.length := ⟨_, rfl⟩
 have h1 : va.length ≤ n := by omega
 have h2 : vb.length ≤ n := by omega
 rw [← Tot.eq_iff]
 have hm : (if (vb.length : Int) > (va.length : Int) then (vb.length : Int) else (va.length : Int)) = (n : Int) := by split <;> omega
 have hw : IntKind.i64.wrap ((n : Int) - 1) = (n : Int) - 1 := w64 (by omega) (by omega)
 simp only [nat_Cmp, hm, hw, cond_some, Tot.cond_iff, Tot.ass_iff, Tot.bnd_iff, Tot.some_iff, Tot.map_iff, Tot.bind_iff, Nx.inl_iff, Nx.inr_iff, decide_eq_true_eq, decide_eq_false_iff_not]
 refine Tot.loop (fun i => ∃ k : Nat, i = (k : Int) - 1 ∧ k ≤ n ∧ x / 4294967296 ^ k = y / 4294967296 ^ k) (fun i => (i + 1).toNat) (fun i hi => ?_) ⟨n, rfl, Nat.le_refl _, by rw [dg_div_len b32 (Nat.le_trans iva.len h1), dg_div_len b32 (Nat.le_trans ivb.len h2)]⟩
 obtain ⟨k, rfl, hk, he⟩ := hi
 rcases Nat.eq_zero_or_pos k with hk0 | hk0
 ·subst hk0
  simp only [nat_Cmp_b1, nat_Cmp_j1, cond_some, Tot.cond_iff, Tot.ass_iff, Tot.bnd_iff, Tot.some_iff, Tot.map_iff, Tot.bind_iff, Nx.inl_iff, Nx.inr_iff, decide_eq_true_eq, decide_eq_false_iff_not]
  refine ⟨fun hc => absurd hc (by omega), fun _ => ?_⟩
  simp only [Nat.pow_zero, Nat.div_one] at he
  simp [cmpN, he]
 ·obtain ⟨j, rfl⟩ : ∃ j, k = j + 1 := ⟨k - 1, by omega⟩
  have hj : (((j + 1 : Nat) : Int) - 1) = (j : Int) := by omega
  have hw2 : IntKind.i64.wrap ((j : Int) - 1) = (j : Int) - 1 := w64 (by omega) (by omega)
  rw [hj]
  simp only [nat_Cmp_b1, nat_Cmp_j1, nat_at_eq _ (show (0 : Int) ≤ (j : Int) by omega), iva.rd, ivb.rd, hw2, cmp_Compare_uint32_eq, Option.bind_some, cond_some, Tot.cond_iff, Tot.ass_iff, Tot.bnd_iff, Tot.some_iff, Tot.map_iff, Tot.bind_iff, Nx.inl_iff, Nx.inr_iff, decide_eq_true_eq, decide_eq_false_iff_not]
  refine ⟨fun _ => ⟨fun hc => ?_, fun hc => ?_⟩, fun hc => absurd hc (by omega)⟩
  ·rcases Nat.lt_trichotomy (dgt 4294967296 x j) (dgt 4294967296 y j) with hd | hd | hd
   ·have := cmp_lt he hd
    rw [if_pos (by omega)]
    simp [cmpN, this]
   ·rw [hd] at hc
    simp at hc
   ·have := cmp_lt he.symm hd
    rw [if_neg (by omega), if_pos (by omega)]
    simp only [cmpN]
    rw [if_neg (by omega), if_pos this]
  ·have hd : dgt 4294967296 x j = dgt 4294967296 y j := by
    simp only [Bool.and_eq_true, Bool.or_eq_true, Bool.not_eq_true', Bool.and_eq_false_iff, Bool.or_eq_false_iff, Bool.not_eq_false', beq_iff_eq, bne_iff_ne, beq_eq_false_iff_ne, bne_eq_false_iff_eq, decide_eq_true_eq, decide_eq_false_iff_not] at hc
    split at hc
    ·omega
    ·split at hc
     ·omega
     ·omega
   exact ⟨⟨j, rfl, by omega, cmp_eq he hd⟩, by omega⟩
theorem nat_Cmp_eq {x y : Nat} (hx : (d32 x).length ≤ 10000000) (hy : (d32 y).length ≤ 10000000) : nat_Cmp (d32 x) (d32 y) = some (cmpN x y) := nat_Cmp_is (Is.d32 x) (Is.d32 y) hx hy
theorem nat_plus_is {va vb : List Int} {x y : Nat} (iva : Is va x) (ivb : Is vb y) (hx : va.length ≤ 9000000) (hy : vb.length ≤ 9000000) : nat_plus va vb = some (d32 (x + y)) := by
 rw [← Tot.eq_iff]
 obtain ⟨m, hm⟩ : ∃ m, m = max va.length vb.length := ⟨_, rfl⟩
 have hmm : (if (vb.length : Int) > (va.length : Int) then (vb.length : Int) else (va.length : Int)) = (m : Int) := by split <;> omega
 have hw : IntKind.i64.wrap ((m : Int) + 1) = (m : Int) + 1 := w64 (by omega) (by omega)
 simp only [nat_plus, hmm, hw, cond_some, Tot.cond_iff, Tot.ass_iff, Tot.bnd_iff, Tot.some_iff, Tot.map_iff, Tot.bind_iff, Nx.inl_iff, Nx.inr_iff, decide_eq_true_eq, decide_eq_false_iff_not]
 refine Tot.loop (fun s => ∃ i : Nat, s.2.2 = (i : Int) ∧ i ≤ m + 1 ∧ s.1.length = i ∧ Dg 4294967296 s.1 ∧ (s.2.1 = 0 ∨ s.2.1 = 1) ∧ (i = m + 1 → s.2.1 = 0) ∧ vl 4294967296 s.1 + s.2.1 * ((4294967296 ^ i : Nat) : Int) = ((x % 4294967296 ^ i : Nat) : Int) + ((y % 4294967296 ^ i : Nat) : Int))
  (fun s => ((m : Int) + 1 - s.2.2).toNat) (fun s hs => ?_) ⟨0, rfl, by omega, rfl, Dg.nil, .inl rfl, fun _ => rfl, by simp [vl, Nat.mod_one]⟩
 obtain ⟨l, u, i0⟩ := s
 obtain ⟨i, h1, h2, h3, h4, h5, h5', h6⟩ := hs
 simp only at h1 h3 h4 h5 h5' h6
 subst h1
 have hdx := dgt_lt (B := 4294967296) (x := x) (i := i) (by omega)
 have hdy := dgt_lt (B := 4294967296) (x := y) (i := i) (by omega)
 obtain ⟨a, ha⟩ : ∃ a : Int, a = ((dgt 4294967296 x i : Nat) : Int) := ⟨_, rfl⟩
 obtain ⟨b, hb⟩ : ∃ b : Int, b = ((dgt 4294967296 y i : Nat) : Int) := ⟨_, rfl⟩
 have hw1 : IntKind.u64.wrap a = a := u64i (by omega) (by omega)
 have hw2 : IntKind.u64.wrap b = b := u64i (by omega) (by omega)
 have hw3 : IntKind.u64.wrap (a + b) = a + b := u64i (by omega) (by omega)
 have hw4 : IntKind.u64.wrap (u + (a + b)) = u + (a + b) := u64i (by omega) (by omega)
 have hw5 : IntKind.i64.wrap ((i : Int) + 1) = (i : Int) + 1 := w64 (by omega) (by omega)
 simp only [nat_plus_b1, nat_plus_j1, nat_at_eq _ (show (0 : Int) ≤ (i : Int) by omega), iva.rd, ivb.rd, ← ha, ← hb, hw1, hw2, hw3, hw4, hw5, fd32, u32m, cond_some, Tot.cond_iff, Tot.ass_iff, Tot.bnd_iff, Tot.some_iff, Tot.map_iff, Tot.bind_iff, Nx.inl_iff, Nx.inr_iff, decide_eq_true_eq, decide_eq_false_iff_not]
 refine ⟨fun hc => ?_, fun hc => ?_⟩
 ·refine ⟨by simp only [List.length_singleton]; unfold limA; omega, by omega, ⟨i + 1, by simp, by omega, by simp [h3], h4.snoc (by omega) (by omega), by omega, fun him => ?_, ?_⟩, by omega⟩
  ·have e1 : dgt 4294967296 x i = 0 := by unfold dgt; rw [dg_div_len (x := x) (k := i) b32 (Nat.le_trans iva.len (show va.length ≤ i by omega))]
   have e2 : dgt 4294967296 y i = 0 := by unfold dgt; rw [dg_div_len (x := y) (k := i) b32 (Nat.le_trans ivb.len (show vb.length ≤ i by omega))]
   rw [ha, hb, e1, e2]
   omega
  ·rw [vl_snoc, h3, cast_up, cast_up, Nat.pow_succ, Int.natCast_mul, ← ha, ← hb]
   have hs : u + (a + b) = (u + (a + b)) / 4294967296 * 4294967296 + (u + (a + b)) % 4294967296 := by omega
   generalize (u + (a + b)) / 4294967296 = q at hs ⊢
   generalize (u + (a + b)) % 4294967296 = r at hs ⊢
   generalize ((4294967296 ^ i : Nat) : Int) = M at h6 ⊢
   have : M * (u + (a + b)) = M * (q * 4294967296 + r) := by rw [hs]
   grind
 ·have hi : va.length ≤ i ∧ vb.length ≤ i := by omega
  rw [dg_mod_len b32 (Nat.le_trans iva.len hi.1), dg_mod_len b32 (Nat.le_trans ivb.len hi.2)] at h6
  rw [nat_Cut_eq h4 (by omega)]
  have hu : u = 0 := h5' (by omega)
  rw [hu] at h6
  refine Tot.some_iff.2 ?_
  congr 1
  omega
theorem nat_plus_eq {x y : Nat} (hx : (d32 x).length ≤ 9000000) (hy : (d32 y).length ≤ 9000000) : nat_plus (d32 x) (d32 y) = some (d32 (x + y)) := nat_plus_is (Is.d32 x) (Is.d32 y) hx hy
theorem d32_mono {x y : Nat} (h : x ≤ y) : (d32 x).length ≤ (d32 y).length := dg_len b32 (Nat.lt_of_le_of_lt h (dg_lt b32))
def sumN (l : List Nat) : Nat := l.foldl (· + ·) 0
theorem fd63w {x : Int} (h0 : -4294967296 ≤ x) (h1 : x < 4294967296) : IntKind.u64.wrap x / 9223372036854775808 = if x < 0 then 1 else 0 := by
 have : IntKind.u64.wrap x = x % 18446744073709551616 := by
  unfold IntKind.wrap
  simp [IntKind.bits, IntKind.signed]
 rw [this]
 split <;> omega
theorem u32u64 {x : Int} : IntKind.u32.wrap (IntKind.u64.wrap x) = x % 4294967296 := by
 have : IntKind.u64.wrap x = x % 18446744073709551616 := by
  unfold IntKind.wrap
  simp [IntKind.bits, IntKind.signed]
 rw [this, u32m]
 omega
theorem u64_sub {x y : Int} : IntKind.u64.wrap (IntKind.u64.wrap x - y) = IntKind.u64.wrap (x - y) := by
 have h : ∀ z : Int, IntKind.u64.wrap z = z % 18446744073709551616 := fun z => by
  unfold IntKind.wrap
  simp [IntKind.bits, IntKind.signed]
 rw [h, h, h]
 omega
theorem mul_digits {a b : Int} (a0 : 0 ≤ a) (a1 : a < 4294967296) (b0 : 0 ≤ b) (b1 : b < 4294967296) : 0 ≤ a * b ∧ a * b ≤ 18446744065119617025 := by
 refine ⟨Int.mul_nonneg a0 b0, ?_⟩
 have h1 : a * b ≤ 4294967295 * b := Int.mul_le_mul_of_nonneg_right (by omega) b0
 omega
theorem nat_times_is {va vb : List Int} {x y : Nat} (iva : Is va x) (ivb : Is vb y) (hx : va.length ≤ 3000000) (hy : vb.length ≤ 3000000) : nat_times va vb = some (d32 (x * y)) := by
 obtain ⟨m, hm⟩ : ∃ m, m = va.length := ⟨_, rfl⟩
 obtain ⟨n, hn⟩ : ∃ n, n = vb.length := ⟨_, rfl⟩
 have hmx : (Tom.d32 x).length ≤ m := by have := iva.len; omega
 have hny : (Tom.d32 y).length ≤ n := by have := ivb.len; omega
 have inner : ∀ (i : Nat) (l : List Int), i < m → l.length = m + n → Dg 4294967296 l → vl 4294967296 l = (((x % 4294967296 ^ i) * y : Nat) : Int) → (∀ j : Nat, i + n ≤ j → rd 0 l (j : Int) = 0) →
   Tot (loopM (fun z : (List Int) × Int × Int => nat_times_b2 vb (i : Int) ((dgt 4294967296 x i : Nat) : Int) z.1 z.2.1 z.2.2) (l, (0 : Int), (0 : Int)))
    (fun r => ∃ l', r = .inl (l', (i : Int) + 1) ∧ l'.length = m + n ∧ Dg 4294967296 l' ∧ vl 4294967296 l' = (((x % 4294967296 ^ (i + 1)) * y : Nat) : Int) ∧ ∀ j : Nat, i + 1 + n ≤ j → rd 0 l' (j : Int) = 0) := by
  intro i l hi hl hd hv hz
  have hdx := dgt_lt (B := 4294967296) (x := x) (i := i) (by omega)
  have hw0 : IntKind.i64.wrap ((i : Int) + 1) = (i : Int) + 1 := w64 (by omega) (by omega)
  have hwn : IntKind.i64.wrap ((i : Int) + (vb.length : Int)) = ((i + n : Nat) : Int) := by rw [w64 (by omega) (by omega)]; omega
  refine Tot.loop (fun s => ∃ k : Nat, s.2.2 = (k : Int) ∧ k ≤ n ∧ s.1.length = m + n ∧ Dg 4294967296 s.1 ∧ 0 ≤ s.2.1 ∧ s.2.1 < 4294967296 ∧ vl 4294967296 s.1 + s.2.1 * ((4294967296 ^ (i + k) : Nat) : Int) = (((x % 4294967296 ^ i) * y : Nat) : Int) + ((4294967296 ^ i * (dgt 4294967296 x i * (y % 4294967296 ^ k)) : Nat) : Int) ∧ ∀ j : Nat, i + n ≤ j → rd 0 s.1 (j : Int) = 0)
   (fun s => ((n : Int) - s.2.2).toNat) (fun s hs => ?_) ⟨0, rfl, by omega, hl, hd, by simp, by simp, by simp [hv, Nat.mod_one], hz⟩
  obtain ⟨l, o, k0⟩ := s
  obtain ⟨k, h1, h2, h3, h4, h5, h6, h7, h8⟩ := hs
  simp only at h1 h3 h4 h5 h6 h7 h8
  subst h1
  obtain ⟨a, ha⟩ : ∃ a : Int, a = ((dgt 4294967296 x i : Nat) : Int) := ⟨_, rfl⟩
  obtain ⟨b, hb⟩ : ∃ b : Int, b = ((dgt 4294967296 y k : Nat) : Int) := ⟨_, rfl⟩
  have hdy := dgt_lt (B := 4294967296) (x := y) (i := k) (by omega)
  have hik : IntKind.i64.wrap ((i : Int) + (k : Int)) = ((i + k : Nat) : Int) := by rw [w64 (by omega) (by omega)]; omega
  obtain ⟨c, hc'⟩ : ∃ c : Int, c = rd 0 l ((i + k : Nat) : Int) := ⟨_, rfl⟩
  have hcb := h4.rd (by omega) ((i + k : Nat) : Int)
  rw [← hc'] at hcb
  have hp := mul_digits (a := a) (b := b) (by omega) (by omega) (by omega) (by omega)
  have hw1 : IntKind.u64.wrap a = a := u64i (by omega) (by omega)
  have hw2 : IntKind.u64.wrap b = b := u64i (by omega) (by omega)
  have hw3 : IntKind.u64.wrap (a * b) = a * b := u64i (by omega) (by omega)
  have hw4 : IntKind.u64.wrap c = c := u64i (by omega) (by omega)
  have hw5 : IntKind.u64.wrap (a * b + c) = a * b + c := u64i (by omega) (by omega)
  have hw6 : IntKind.u64.wrap (o + (a * b + c)) = o + (a * b + c) := u64i (by omega) (by omega)
  have hw7 : IntKind.i64.wrap ((k : Int) + 1) = (k : Int) + 1 := w64 (by omega) (by omega)
  simp only [nat_times_b2, nat_times_j3, nat_times_j2, iva.rd, ivb.rd, hik, ← ha, ← hb, ← hc', hw1, hw2, hw3, hw4, hw5, hw6, hw7, hw0, hwn, fd32, u32m, cond_some, Tot.cond_iff, Tot.ass_iff, Tot.bnd_iff, Tot.some_iff, Tot.map_iff, Tot.bind_iff, Nx.inl_iff, Nx.inr_iff, decide_eq_true_eq, decide_eq_false_iff_not]
  refine ⟨fun hk => ⟨⟨by omega, hk⟩, ⟨by omega, by omega⟩, ⟨by omega, by omega⟩, by omega, ⟨k + 1, by simp, by omega, by rw [wr_length]; exact h3, h4.wr (by omega) (by omega), by omega, by omega, ?_, fun j hj => ?_⟩, by omega⟩, fun hk => ⟨⟨by omega, by omega⟩, ?_⟩⟩
  ·rw [vl_wr (by omega), ← hc', mod_up, show i + (k + 1) = (i + k) + 1 from by omega, Nat.pow_succ 4294967296 (i + k), Nat.pow_add]
   rw [Nat.pow_add] at h7
   simp only [Int.natCast_add, Int.natCast_mul, ← ha, ← hb] at h7 ⊢
   generalize ((4294967296 ^ i : Nat) : Int) = M at h7 ⊢
   generalize ((4294967296 ^ k : Nat) : Int) = K at h7 ⊢
   rw [show ((4294967296 : Nat) : Int) = 4294967296 from rfl]
   have hs : (o + (a * b + c)) % 4294967296 = (o + (a * b + c)) - 4294967296 * ((o + (a * b + c)) / 4294967296) := by omega
   rw [hs]
   generalize (o + (a * b + c)) / 4294967296 = q
   grind
  ·rw [rd_wr (by omega) (by omega) (by omega), if_neg (by omega)]
   exact h8 j hj
  ·have hkn : k = n := by omega
   subst hkn
   rw [dg_mod_len b32 hny] at h7
   refine ⟨_, rfl, by rw [wr_length]; exact h3, h4.wr (by omega) (by omega), ?_, fun j hj => ?_⟩
   ·rw [vl_wr (by omega), h8 (i + k) (Nat.le_refl _), mod_up, Nat.add_mul]
    rw [show o % 4294967296 = o from by omega]
    simp only [Int.natCast_add, Int.natCast_mul] at h7 ⊢
    generalize ((4294967296 ^ (i + k) : Nat) : Int) = M at h7 ⊢
    grind
   ·rw [rd_wr (by omega) (by omega) (by omega), if_neg (by omega)]
    exact h8 j (by omega)
 rw [← Tot.eq_iff]
 have hw1 : IntKind.i64.wrap ((va.length : Int) + (vb.length : Int)) = ((m + n : Nat) : Int) := by rw [w64 (by omega) (by omega)]; omega
 simp only [nat_times, hw1, cond_some, Tot.cond_iff, Tot.ass_iff, Tot.bnd_iff, Tot.some_iff, Tot.map_iff, Tot.bind_iff, Nx.inl_iff, Nx.inr_iff, decide_eq_true_eq, decide_eq_false_iff_not]
 refine ⟨⟨by omega, Int.le_refl _, by unfold lim; omega⟩, ?_⟩
 refine Tot.loop (fun s => ∃ i : Nat, s.2 = (i : Int) ∧ i ≤ m ∧ s.1.length = m + n ∧ Dg 4294967296 s.1 ∧ vl 4294967296 s.1 = (((x % 4294967296 ^ i) * y : Nat) : Int) ∧ ∀ j : Nat, i + n ≤ j → rd 0 s.1 (j : Int) = 0)
  (fun s => ((m : Int) - s.2).toNat) (fun s hs => ?_) ⟨0, rfl, by omega, by rw [List.length_replicate]; omega, Dg.rep (by omega), by simp [vl_rep, Nat.mod_one], fun j _ => by simp [rd, List.getD_eq_getElem?_getD, List.getElem?_replicate]; split <;> rfl⟩
 obtain ⟨l, i0⟩ := s
 obtain ⟨i, h1, h2, h3, h4, h5, h6⟩ := hs
 simp only at h1 h3 h4 h5 h6
 subst h1
 simp only [nat_times_b1, nat_times_j1, iva.rd, ivb.rd, cond_some, Tot.cond_iff, Tot.ass_iff, Tot.bnd_iff, Tot.some_iff, Tot.map_iff, Tot.bind_iff, Nx.inl_iff, Nx.inr_iff, decide_eq_true_eq, decide_eq_false_iff_not]
 refine ⟨fun hc => ⟨⟨by omega, hc⟩, ?_⟩, fun hc => ?_⟩
 ·refine (inner i l (by omega) h3 h4 h5 h6).mono fun r hr => ?_
  obtain ⟨l', rfl, k1, k2, k3, k4⟩ := hr
  exact ⟨⟨i + 1, by simp, by omega, k1, k2, k3, k4⟩, by simp only; omega⟩
 ·have hi : i = m := by omega
  rw [nat_Cut_eq h4 (by omega)]
  rw [dg_mod_len (x := x) (k := i) b32 (show (Tom.d32 x).length ≤ i by omega)] at h5
  refine Tot.some_iff.2 ?_
  rw [h5, Int.toNat_natCast]
theorem nat_times_eq {x y : Nat} (hx : (d32 x).length ≤ 3000000) (hy : (d32 y).length ≤ 3000000) : nat_times (d32 x) (d32 y) = some (d32 (x * y)) := nat_times_is (Is.d32 x) (Is.d32 y) hx hy
theorem nat_Mul_two {x y : Nat} (hx : (d32 x).length ≤ 2000000) (hy : (d32 y).length ≤ 2000000) : nat_Mul [d32 x, d32 y] = some (d32 (x * y)) := by
 rw [← Tot.eq_iff]
 have h1 : nat_Of (1 : Int) = some (d32 1) := nat_Of_eq (n := 1) (by omega)
 have hl1 : (d32 1).length ≤ 1 := dg_len b32 (by omega)
 simp only [nat_Mul, h1, Option.bind_some]
 refine Tot.loop (fun s => s = (d32 1, 0) ∨ s = (d32 x, 1) ∨ s = (d32 (x * y), 2)) (fun s => ((2 : Int) - s.2).toNat) (fun s hs => ?_) (.inl rfl)
 have hw1 : IntKind.i64.wrap (1 : Int) = 1 := by decide
 have hw2 : IntKind.i64.wrap (2 : Int) = 2 := by decide
 have r0 : rd ([] : List Int) [d32 x, d32 y] 0 = d32 x := rfl
 have r1 : rd ([] : List Int) [d32 x, d32 y] 1 = d32 y := rfl
 rcases hs with rfl | rfl | rfl
 ·have ht : nat_times (d32 1) (d32 x) = some (d32 x) := by rw [nat_times_eq (by omega) (by omega), Nat.one_mul]
  simp [nat_Mul_b1, nat_Mul_j1, r0, ht, hw1, Nx, Tot.some_iff, Tot.ass_iff, Tot.bnd_iff]
 ·have ht : nat_times (d32 x) (d32 y) = some (d32 (x * y)) := nat_times_eq (by omega) (by omega)
  simp [nat_Mul_b1, nat_Mul_j1, r1, ht, hw2, Nx, Tot.some_iff, Tot.ass_iff, Tot.bnd_iff]
 ·simp [nat_Mul_b1, nat_Mul_j1, Nx, Tot.some_iff]
theorem rd_rep0 {n : Nat} (j : Int) : rd (0 : Int) (List.replicate n 0) j = 0 := by
 simp [rd, List.getD_eq_getElem?_getD, List.getElem?_replicate]; split <;> rfl
theorem nat_short_eq {x d : Nat} (hx : (d32 x).length ≤ 3000000) (d0 : 0 < d) (d1 : d < 4294967296) : nat_short (d32 x) (d : Int) = some (d32 (x / d), ((x % d : Nat) : Int)) := by
 obtain ⟨m, hm⟩ : ∃ m, m = (d32 x).length := ⟨_, rfl⟩
 rw [← Tot.eq_iff]
 have hw1 : IntKind.i64.wrap (((d32 x).length : Int) - 1) = (m : Int) - 1 := by rw [w64 (by omega) (by omega)]; omega
 have hwd : IntKind.u64.wrap (d : Int) = (d : Int) := u64i (by omega) (by omega)
 simp only [nat_short, hw1, cond_some, Tot.cond_iff, Tot.ass_iff, Tot.bnd_iff, Tot.some_iff, Tot.map_iff, Tot.bind_iff, Nx.inl_iff, Nx.inr_iff, decide_eq_true_eq, decide_eq_false_iff_not]
 refine ⟨⟨by omega, Int.le_refl _, by unfold lim; omega⟩, ?_⟩
 refine Tot.loop (fun s => ∃ k : Nat, s.2.2 = (k : Int) - 1 ∧ k ≤ m ∧ s.1.length = m ∧ Dg 4294967296 s.1 ∧ s.2.1 = ((x / 4294967296 ^ k % d : Nat) : Int) ∧ vl 4294967296 s.1 = ((4294967296 ^ k * (x / 4294967296 ^ k / d) : Nat) : Int) ∧ ∀ j : Nat, j < k → rd 0 s.1 (j : Int) = 0)
  (fun s => (s.2.2 + 1).toNat) (fun s hs => ?_) ⟨m, rfl, Nat.le_refl _, by simp [hm], Dg.rep (by omega), ?_, ?_, fun j _ => rd_rep0 _⟩
 rotate_left
 ·rw [dg_div_len (x := x) (k := m) b32 (show (d32 x).length ≤ m by omega)]; simp
 ·rw [dg_div_len (x := x) (k := m) b32 (show (d32 x).length ≤ m by omega)]; simp [vl_rep]
 obtain ⟨q, rest, i0⟩ := s
 obtain ⟨k, h1, h2, h3, h4, h5, h6, h7⟩ := hs
 simp only at h1 h3 h4 h5 h6 h7
 subst h1 h5
 have hwr : IntKind.u32.wrap ((x / 4294967296 ^ k % d : Nat) : Int) = ((x / 4294967296 ^ k % d : Nat) : Int) := by
  have := Nat.mod_lt (x / 4294967296 ^ k) d0
  exact u32i (by omega) (by omega)
 rcases Nat.eq_zero_or_pos k with hk | hk
 ·subst hk
  simp only [nat_short_b1, nat_short_j1, hwr, cond_some, Tot.cond_iff, Tot.ass_iff, Tot.bnd_iff, Tot.some_iff, Tot.map_iff, Tot.bind_iff, Nx.inl_iff, Nx.inr_iff, decide_eq_true_eq, decide_eq_false_iff_not]
  refine ⟨fun hc => absurd hc (by omega), fun _ => ?_⟩
  simp only [Nat.pow_zero, Nat.div_one, Nat.one_mul] at h6 ⊢
  rw [nat_Cut_eq h4 (by omega), h6, Int.toNat_natCast]
  exact Tot.some_iff.2 rfl
 ·obtain ⟨i, rfl⟩ : ∃ i, k = i + 1 := ⟨k - 1, by omega⟩
  have hi1 : (((i + 1 : Nat) : Int) - 1) = (i : Int) := by omega
  rw [hi1]
  have hdx := dgt_lt (B := 4294967296) (x := x) (i := i) (by omega)
  obtain ⟨r, hr⟩ : ∃ r, r = x / 4294967296 ^ (i + 1) % d := ⟨_, rfl⟩
  have hrd : r < d := by rw [hr]; exact Nat.mod_lt _ d0
  rw [← hr] at hwr ⊢
  obtain ⟨t, ht⟩ : ∃ t, t = dgt 4294967296 x i + 4294967296 * r := ⟨_, rfl⟩
  have htd : t / d < 4294967296 := Nat.div_lt_of_lt_mul (by rw [Nat.mul_comm]; omega)
  have htm : t % d < d := Nat.mod_lt _ d0
  have ht64 : t ≤ 18446744073709551615 := by omega
  have hor := or32 (h := (r : Int)) (l := ((dgt 4294967296 x i : Nat) : Int)) (by omega) (by omega) (by omega) (by omega)
  rw [show ((dgt 4294967296 x i : Nat) : Int) + 4294967296 * (r : Int) = (t : Int) from by omega] at hor
  have hw2 : IntKind.u64.wrap (t : Int) = (t : Int) := u64i (by omega) (by omega)
  obtain ⟨e1, e2⟩ := tdivmod (a := (t : Int)) (b := (d : Int)) (by omega)
  have hw3 : IntKind.u64.wrap ((t : Int) / (d : Int)) = ((t / d : Nat) : Int) := by
   rw [show (t : Int) / (d : Int) = ((t / d : Nat) : Int) from rfl]
   generalize t / d = Q at htd ⊢
   exact u64i (by omega) (by omega)
  have hw4 : IntKind.u32.wrap ((t / d : Nat) : Int) = ((t / d : Nat) : Int) := by
   generalize t / d = Q at htd ⊢
   exact u32i (by omega) (by omega)
  have hw5 : IntKind.i64.wrap ((i : Int) - 1) = (i : Int) - 1 := w64 (by omega) (by omega)
  simp only [nat_short_b1, rd_dgt b32, hor, hw2, hwd, e1, e2, hw3, hw4, hw5, cond_some, Tot.cond_iff, Tot.ass_iff, Tot.bnd_iff, Tot.some_iff, Tot.map_iff, Tot.bind_iff, Nx.inl_iff, Nx.inr_iff, decide_eq_true_eq, decide_eq_false_iff_not]
  have hxe : x / 4294967296 ^ i = t + d * (4294967296 * (x / 4294967296 ^ (i + 1) / d)) := by
   rw [div_up, ht, hr]
   have := Nat.mod_add_div (x / 4294967296 ^ (i + 1)) d
   have e : d * (4294967296 * (x / 4294967296 ^ (i + 1) / d)) = 4294967296 * (d * (x / 4294967296 ^ (i + 1) / d)) := Nat.mul_left_comm ..
   rw [e]
   omega
  refine ⟨fun _ => ⟨by omega, ⟨by omega, by omega⟩, by omega, ⟨by omega, by omega⟩, by omega, ⟨i, rfl, by omega, by rw [wr_length]; exact h3, h4.wr (Int.natCast_nonneg _) (by exact_mod_cast htd), ?_, ?_, fun j hj => ?_⟩, by omega⟩, fun hc => absurd hc (by omega)⟩
  ·rw [hxe, Nat.add_mul_mod_self_left]
   rfl
  ·rw [vl_wr (by omega), h6, h7 i (by omega), hxe, Nat.add_mul_div_left _ _ d0, Nat.pow_succ, Nat.mul_add]
   simp only [Int.natCast_add, Int.natCast_mul]
   rw [show ((4294967296 : Nat) : Int) = 4294967296 from rfl]
   grind
  ·rw [rd_wr (by omega) (by omega) (by omega), if_neg (by omega)]
   exact h7 j (by omega)
theorem nat_shifted_tot {x s : Nat} (hx : (d32 x).length ≤ 3000000) (hs : s < 32) : Tot (nat_shifted (d32 x) (s : Int)) (fun l => l.length = (d32 x).length + 1 ∧ Dg 4294967296 l ∧ vl 4294967296 l = ((x * 2 ^ s : Nat) : Int)) := by
 obtain ⟨m, hm⟩ : ∃ m, m = (d32 x).length := ⟨_, rfl⟩
 have hw1 : IntKind.i64.wrap (((d32 x).length : Int) + 1) = ((m + 1 : Nat) : Int) := by rw [w64 (by omega) (by omega)]; omega
 have h2s : 2 ^ s ≤ 2 ^ 31 := Nat.pow_le_pow_right (by omega) (by omega)
 have h2p : 0 < 2 ^ s := Nat.pow_pos (by omega)
 simp only [nat_shifted, hw1, cond_some, Tot.cond_iff, Tot.ass_iff, Tot.bnd_iff, Tot.some_iff, Tot.map_iff, Tot.bind_iff, Nx.inl_iff, Nx.inr_iff, decide_eq_true_eq, decide_eq_false_iff_not]
 refine ⟨⟨by omega, Int.le_refl _, by unfold lim; omega⟩, ?_⟩
 rw [Int.toNat_natCast]
 refine Tot.loop (fun z => ∃ i : Nat, z.2.2 = (i : Int) ∧ i ≤ m + 1 ∧ z.1.length = m + 1 ∧ Dg 4294967296 z.1 ∧ 0 ≤ z.2.1 ∧ z.2.1 < ((2 ^ s : Nat) : Int) ∧ vl 4294967296 z.1 + z.2.1 * ((4294967296 ^ i : Nat) : Int) = ((x % 4294967296 ^ i * 2 ^ s : Nat) : Int) ∧ (i = m + 1 → z.2.1 = 0) ∧ ∀ j : Nat, i ≤ j → rd 0 z.1 (j : Int) = 0)
  (fun z => ((m : Int) + 1 - z.2.2).toNat) (fun z hz => ?_) ⟨0, rfl, by omega, List.length_replicate, Dg.rep (by omega), Int.le_refl _, by show (0 : Int) < ((2 ^ s : Nat) : Int); omega, by simp only [vl_rep, Nat.pow_zero, Nat.mod_one, Nat.zero_mul]; rfl, fun h => by omega, fun j _ => rd_rep0 _⟩
 obtain ⟨l, o, i0⟩ := z
 obtain ⟨i, h1, h2, h3, h4, h5, h6, h7, h8, h9⟩ := hz
 simp only at h1 h3 h4 h5 h6 h7 h8 h9
 subst h1
 have hdx := dgt_lt (B := 4294967296) (x := x) (i := i) (by omega)
 obtain ⟨a, ha⟩ : ∃ a, a = dgt 4294967296 x i := ⟨_, rfl⟩
 rw [← ha] at hdx
 have hmin : min (s : Int).toNat IntKind.u64.bits = s := by rw [Int.toNat_natCast, show IntKind.u64.bits = 64 from by decide]; omega
 have hpw : (2 : Int) ^ s = ((2 ^ s : Nat) : Int) := by rw [Int.natCast_pow]; rfl
 have hab : a * 2 ^ s ≤ 4294967295 * 2 ^ s := Nat.mul_le_mul_right _ (by omega)
 have hw2 : IntKind.u64.wrap (a : Int) = (a : Int) := u64i (by omega) (by omega)
 have hw3 : IntKind.u64.wrap ((a : Int) * ((2 ^ s : Nat) : Int)) = (a : Int) * ((2 ^ s : Nat) : Int) := by
  rw [← Int.natCast_mul]; exact u64i (by omega) (by omega)
 have hor := orS (c := o) (a := (a : Int)) (s := s) (by omega) h5 h6 (by omega) (by rw [← Int.natCast_mul]; omega)
 obtain ⟨t, ht⟩ : ∃ t : Int, t = o + (a : Int) * ((2 ^ s : Nat) : Int) := ⟨_, rfl⟩
 rw [← ht] at hor
 have htb : 0 ≤ t ∧ t < 4294967296 * ((2 ^ s : Nat) : Int) := by
  rw [← Int.natCast_mul] at ht
  have : ((a * 2 ^ s : Nat) : Int) ≤ 4294967295 * ((2 ^ s : Nat) : Int) := by omega
  omega
 have hw4 : IntKind.u64.wrap t = t := u64i (by omega) (by omega)
 have hw5 : IntKind.i64.wrap ((i : Int) + 1) = (i : Int) + 1 := w64 (by omega) (by omega)
 have hor' : ((BitVec.ofInt IntKind.u64.bits o ||| BitVec.ofInt IntKind.u64.bits ((a : Int) * ((2 ^ s : Nat) : Int))).toNat : Int) = t := hor
 have hlr : ((List.replicate (m + 1) (0 : Int)).length : Int) = (m : Int) + 1 := by rw [List.length_replicate]; omega
 simp only [nat_shifted_b1, nat_shifted_j1, nat_at_eq _ (show (0 : Int) ≤ (i : Int) by omega), rd_dgt b32, ← ha, hmin, hpw, hw2, hw3, hor', hw4, hw5, fd32, u32m, hlr, cond_some, Tot.cond_iff, Tot.ass_iff, Tot.bnd_iff, Tot.some_iff, Tot.map_iff, Tot.bind_iff, Nx.inl_iff, Nx.inr_iff, decide_eq_true_eq, decide_eq_false_iff_not]
 refine ⟨fun hc => ⟨by omega, ⟨by omega, by omega⟩, by omega, ⟨i + 1, by simp, by omega, by rw [wr_length]; exact h3, h4.wr (by omega) (by omega), by omega, by omega, ?_, fun him => ?_, fun j hj => ?_⟩, by omega⟩, fun hc => ?_⟩
 ·rw [vl_wr (by omega), h9 i (Nat.le_refl _), mod_up, ← ha, Nat.add_mul, Nat.pow_succ 4294967296 i]
  simp only [Int.natCast_add, Int.natCast_mul] at h7 ⊢
  generalize ((4294967296 ^ i : Nat) : Int) = M at h7 ⊢
  rw [show ((4294967296 : Nat) : Int) = 4294967296 from rfl]
  have hs : t % 4294967296 = t - 4294967296 * (t / 4294967296) := by omega
  rw [hs]
  generalize t / 4294967296 = q
  generalize ((2 ^ s : Nat) : Int) = S at ht h7 ⊢
  grind
 ·have hz : a = 0 := by rw [ha]; unfold dgt; rw [dg_div_len (x := x) (k := i) b32 (show (d32 x).length ≤ i by omega)]
  rw [hz] at ht
  omega
 ·rw [rd_wr (by omega) (by omega) (by omega), if_neg (by omega)]
  exact h9 j (by omega)
 ·have hi : i = m + 1 := by omega
  rw [h8 hi, dg_mod_len (x := x) (k := i) b32 (show (d32 x).length ≤ i by omega)] at h7
  exact ⟨by omega, h4, by omega⟩
theorem rd_num {l : List Int} {U : Nat} (h : Dg 4294967296 l) (hU : vl 4294967296 l = (U : Int)) (i : Nat) : rd 0 l (i : Int) = ((dgt 4294967296 U i : Nat) : Int) := by
 rw [rd_vl b32 h, hU]
 unfold dgt
 simp only [Int.natCast_emod, Int.natCast_ediv]
theorem dgt_div {U i j : Nat} : dgt 4294967296 (U / 4294967296 ^ j) i = dgt 4294967296 U (j + i) := by
 unfold dgt
 rw [Nat.div_div_eq_div_mul, ← Nat.pow_add]
theorem top3 {W k : Nat} (h : W < 4294967296 ^ (k + 3)) : (W : Int) = ((((dgt 4294967296 W (k + 2) : Nat) : Int) * 4294967296 + ((dgt 4294967296 W (k + 1) : Nat) : Int)) * 4294967296 + ((dgt 4294967296 W k : Nat) : Int)) * ((4294967296 ^ k : Nat) : Int) + ((W % 4294967296 ^ k : Nat) : Int) := by
 have e : W % 4294967296 ^ (k + 2 + 1) = W := Nat.mod_eq_of_lt h
 rw [mod_up, show k + 2 = k + 1 + 1 from rfl, mod_up, mod_up] at e
 simp only [Nat.pow_succ] at e
 have e2 : ((W % 4294967296 ^ k + 4294967296 ^ k * dgt 4294967296 W k + 4294967296 ^ k * 4294967296 * dgt 4294967296 W (k + 1) + 4294967296 ^ k * 4294967296 * 4294967296 * dgt 4294967296 W (k + 1 + 1) : Nat) : Int) = (W : Int) := by rw [e]
 rw [← e2]
 simp only [Int.natCast_add, Int.natCast_mul]
 rw [show ((4294967296 : Nat) : Int) = 4294967296 from rfl, show k + 2 = k + 1 + 1 from rfl]
 grind
theorem top2 {W k : Nat} (h : W < 4294967296 ^ (k + 2)) : (W : Int) = (((dgt 4294967296 W (k + 1) : Nat) : Int) * 4294967296 + ((dgt 4294967296 W k : Nat) : Int)) * ((4294967296 ^ k : Nat) : Int) + ((W % 4294967296 ^ k : Nat) : Int) := by
 have e : W % 4294967296 ^ (k + 1 + 1) = W := Nat.mod_eq_of_lt h
 rw [mod_up, mod_up, Nat.pow_succ] at e
 have e2 : ((W % 4294967296 ^ k + 4294967296 ^ k * dgt 4294967296 W k + 4294967296 ^ k * 4294967296 * dgt 4294967296 W (k + 1) : Nat) : Int) = (W : Int) := by rw [e]
 rw [← e2]
 simp only [Int.natCast_add, Int.natCast_mul]
 rw [show ((4294967296 : Nat) : Int) = 4294967296 from rfl]
 grind
theorem nat_guess_tot {u : List Int} {U Y n j : Nat} (hu : Dg 4294967296 u) (hU : vl 4294967296 u = (U : Int)) (hv : (d32 Y).length = n) (hn : 2 ≤ n) (htop : 4294967296 ≤ 2 * dgt 4294967296 Y (n - 1)) (hj : j + n < u.length) (hlen : u.length ≤ 5000000) (hlt : U < Y * 4294967296 ^ (j + 1)) :
  Tot (nat_guess u (d32 Y) (j : Int)) (fun q => ∃ g : Nat, q = (g : Int) ∧ g < 4294967296 ∧ U / 4294967296 ^ j / Y ≤ g ∧ g ≤ U / 4294967296 ^ j / Y + 1) := by
 obtain ⟨k, rfl⟩ : ∃ k, n = k + 2 := ⟨n - 2, by omega⟩
 obtain ⟨W, hW⟩ : ∃ W, W = U / 4294967296 ^ j := ⟨_, rfl⟩
 have hYlt : Y < 4294967296 ^ (k + 2) := by rw [← hv]; exact dg_lt b32
 have hWlt : W < 4294967296 * Y := by
  rw [hW]
  refine Nat.div_lt_of_lt_mul ?_
  rw [Nat.pow_succ] at hlt
  calc U < Y * (4294967296 ^ j * 4294967296) := hlt
   _ = 4294967296 ^ j * (4294967296 * Y) := by rw [Nat.mul_comm Y, Nat.mul_assoc]
 have hW3 : W < 4294967296 ^ (k + 3) := by
  rw [Nat.pow_succ]
  have : 4294967296 * Y ≤ 4294967296 * 4294967296 ^ (k + 2) := Nat.mul_le_mul_left _ (Nat.le_of_lt hYlt)
  omega
 have eY := top2 hYlt
 have eW := top3 hW3
 have hY0 : 0 < Y := by
  rcases Nat.eq_zero_or_pos Y with h | h
  ·rw [h, Nat.mul_zero] at hWlt; omega
  ·exact h
 rw [show k + 2 - 1 = k + 1 from rfl] at htop
 obtain ⟨v1, h1⟩ : ∃ v1 : Int, v1 = ((dgt 4294967296 Y (k + 1) : Nat) : Int) := ⟨_, rfl⟩
 obtain ⟨v2, h2⟩ : ∃ v2 : Int, v2 = ((dgt 4294967296 Y k : Nat) : Int) := ⟨_, rfl⟩
 obtain ⟨v3, h3⟩ : ∃ v3 : Int, v3 = ((Y % 4294967296 ^ k : Nat) : Int) := ⟨_, rfl⟩
 obtain ⟨u0, g0⟩ : ∃ u0 : Int, u0 = ((dgt 4294967296 W (k + 2) : Nat) : Int) := ⟨_, rfl⟩
 obtain ⟨u1, g1⟩ : ∃ u1 : Int, u1 = ((dgt 4294967296 W (k + 1) : Nat) : Int) := ⟨_, rfl⟩
 obtain ⟨u2, g2⟩ : ∃ u2 : Int, u2 = ((dgt 4294967296 W k : Nat) : Int) := ⟨_, rfl⟩
 obtain ⟨u3, g3⟩ : ∃ u3 : Int, u3 = ((W % 4294967296 ^ k : Nat) : Int) := ⟨_, rfl⟩
 obtain ⟨M, hM⟩ : ∃ M : Int, M = ((4294967296 ^ k : Nat) : Int) := ⟨_, rfl⟩
 have hMp : 0 < M := by rw [hM]; exact_mod_cast Nat.pow_pos (show 0 < 4294967296 by omega)
 have d1 := dgt_lt (B := 4294967296) (x := Y) (i := k + 1) (by omega)
 have d2 := dgt_lt (B := 4294967296) (x := Y) (i := k) (by omega)
 have d3 : Y % 4294967296 ^ k < 4294967296 ^ k := Nat.mod_lt _ (Nat.pow_pos (by omega))
 have f0 := dgt_lt (B := 4294967296) (x := W) (i := k + 2) (by omega)
 have f1 := dgt_lt (B := 4294967296) (x := W) (i := k + 1) (by omega)
 have f2 := dgt_lt (B := 4294967296) (x := W) (i := k) (by omega)
 have f3 : W % 4294967296 ^ k < 4294967296 ^ k := Nat.mod_lt _ (Nat.pow_pos (by omega))
 rw [← h1, ← h2, ← h3, ← hM] at eY
 rw [← g0, ← g1, ← g2, ← g3, ← hM] at eW
 have hWlt' : (W : Int) < 4294967296 * (Y : Int) := by omega
 have kn : KnP 4294967296 M v1 v2 v3 u0 u1 u2 u3 := by
  refine ⟨by omega, hMp, by omega, by omega, by omega, by omega, by omega, by rw [h3, hM]; exact_mod_cast d3, by omega, by omega, by omega, by omega, by omega, by omega, by rw [g3, hM]; exact_mod_cast f3, ?_⟩
  rw [← eY, ← eW]
  exact hWlt'
 have r0 : rd 0 u ((j + (k + 2) : Nat) : Int) = u0 := by rw [rd_num hu hU, g0, hW, dgt_div]
 have r1 : rd 0 u ((j + (k + 1) : Nat) : Int) = u1 := by rw [rd_num hu hU, g1, hW, dgt_div]
 have r2 : rd 0 u ((j + k : Nat) : Int) = u2 := by rw [rd_num hu hU, g2, hW, dgt_div]
 have s1 : rd 0 (d32 Y) ((k + 1 : Nat) : Int) = v1 := by rw [rd_dgt b32, h1]
 have s2 : rd 0 (d32 Y) (k : Int) = v2 := by rw [rd_dgt b32, h2]
 have w1 : IntKind.i64.wrap ((j : Int) + ((d32 Y).length : Int)) = ((j + (k + 2) : Nat) : Int) := by rw [w64 (by omega) (by omega)]; omega
 have w2 : IntKind.i64.wrap (((j + (k + 2) : Nat) : Int) - 1) = ((j + (k + 1) : Nat) : Int) := by rw [w64 (by omega) (by omega)]; omega
 have w3 : IntKind.i64.wrap (((j + (k + 2) : Nat) : Int) - 2) = ((j + k : Nat) : Int) := by rw [w64 (by omega) (by omega)]; omega
 have w4 : IntKind.i64.wrap (((d32 Y).length : Int) - 1) = ((k + 1 : Nat) : Int) := by rw [w64 (by omega) (by omega)]; omega
 have w5 : IntKind.i64.wrap (((d32 Y).length : Int) - 2) = (k : Int) := by rw [w64 (by omega) (by omega)]; omega
 have x0 : IntKind.u64.wrap u0 = u0 := u64i (by omega) (by omega)
 have xv1 : IntKind.u64.wrap v1 = v1 := u64i (by omega) (by omega)
 have xv2 : IntKind.u64.wrap v2 = v2 := u64i (by omega) (by omega)
 have o1 := or32 (h := u0) (l := u1) (by omega) (by omega) (by omega) (by omega)
 have x1 : IntKind.u64.wrap (u1 + 4294967296 * u0) = u1 + 4294967296 * u0 := u64i (by omega) (by omega)
 obtain ⟨e1, e2⟩ := tdivmod (a := u1 + 4294967296 * u0) (b := v1) (by omega)
 have hv1 : 0 < v1 := by omega
 obtain ⟨Q, hQ⟩ : ∃ Q, Q = (u1 + 4294967296 * u0) / v1 := ⟨_, rfl⟩
 obtain ⟨R, hR⟩ : ∃ R, R = (u1 + 4294967296 * u0) % v1 := ⟨_, rfl⟩
 have hQ0 : 0 ≤ Q := by rw [hQ]; exact Int.ediv_nonneg (by omega) (by omega)
 have hQ1 : Q ≤ u1 + 4294967296 * u0 := by rw [hQ]; exact Int.ediv_le_self _ (by omega)
 have hR0 : 0 ≤ R := by rw [hR]; exact Int.emod_nonneg _ (by omega)
 have hR1 : R < v1 := by rw [hR]; exact Int.emod_lt_of_pos _ hv1
 have hQR : Q * v1 + R = u0 * 4294967296 + u1 := by
  have := Int.mul_ediv_add_emod (u1 + 4294967296 * u0) v1
  rw [← hQ, ← hR] at this
  rw [Int.mul_comm Q]
  omega
 have hQW : (W : Int) < (Q + 1) * (Y : Int) := by
  have a1 : (u0 * 4294967296 + u1 + 1) ≤ (Q + 1) * v1 := by
   have : (Q + 1) * v1 = Q * v1 + v1 := by rw [Int.add_mul, Int.one_mul]
   omega
  have a2 : (u0 * 4294967296 + u1 + 1) * (4294967296 * M) ≤ ((Q + 1) * v1) * (4294967296 * M) := Int.mul_le_mul_of_nonneg_right a1 (Int.mul_nonneg (by omega) (by omega))
  have a3 : (u2 + 1) * M ≤ 4294967296 * M := Int.mul_le_mul_of_nonneg_right (by omega) (by omega)
  have a4 : 0 ≤ (Q + 1) * (v2 * M + v3) := Int.mul_nonneg (by omega) (Int.add_nonneg (Int.mul_nonneg (by omega) (by omega)) (by omega))
  have a5 : u3 < M := by rw [g3, hM]; exact_mod_cast f3
  rw [eW, eY]
  grind
 have xQ : IntKind.u64.wrap Q = Q := u64i (by omega) (by omega)
 have good : ∀ g : Int, 0 ≤ g → (W : Int) < (g + 1) * (Y : Int) → (g < 4294967296 ∧ (g - 1) * ((v1 * 4294967296 + v2) * M + v3) ≤ ((u0 * 4294967296 + u1) * 4294967296 + u2) * M + u3) → ∃ g' : Nat, g = (g' : Int) ∧ g' < 4294967296 ∧ W / Y ≤ g' ∧ g' ≤ W / Y + 1 := by
  rintro g g0' hg ⟨hg1, hg2⟩
  rw [← eY, ← eW] at hg2
  obtain ⟨g, rfl⟩ := Int.eq_ofNat_of_zero_le g0'
  refine ⟨g, rfl, by omega, ?_, ?_⟩
  ·have : W < (g + 1) * Y := by exact_mod_cast hg
   have := Nat.div_lt_of_lt_mul (show W < Y * (g + 1) by rw [Nat.mul_comm]; exact this)
   omega
  ·rcases Nat.eq_zero_or_pos g with h | h
   ·rw [h]; exact Nat.zero_le _
   ·obtain ⟨g, rfl⟩ : ∃ g', g = g' + 1 := ⟨g - 1, by omega⟩
    have e : ((g + 1 : Nat) : Int) - 1 = (g : Int) := by omega
    rw [e] at hg2
    have : g * Y ≤ W := by exact_mod_cast hg2
    have := (Nat.le_div_iff_mul_le hY0).2 this
    omega
 rw [← hW]
 simp only [nat_guess, w1, w2, w4, r0, r1, s1, x0, xv1, o1, x1, e1, e2, ← hQ, ← hR, xQ, cond_some, Tot.cond_iff, Tot.ass_iff, Tot.bnd_iff, Tot.some_iff, Tot.map_iff, Tot.bind_iff, Nx.inl_iff, Nx.inr_iff, decide_eq_true_eq, decide_eq_false_iff_not]
 refine ⟨⟨by omega, by omega⟩, by omega, ⟨by omega, by omega⟩, ⟨by omega, by omega⟩, by omega, ?_⟩
 refine Tot.loop (fun z => 0 ≤ z.1 ∧ z.1 ≤ 18446744073709551615 ∧ 0 ≤ z.2 ∧ z.2 < 4294967296 ∧ z.1 * v1 + z.2 = u0 * 4294967296 + u1 ∧ (W : Int) < (z.1 + 1) * (Y : Int)) (fun z => z.1.toNat) (fun z hz => ?_) ⟨hQ0, by omega, hR0, by omega, hQR, hQW⟩
 obtain ⟨q, r⟩ := z
 obtain ⟨z1, z2, z3, z4, z5, z6⟩ := hz
 simp only at z1 z2 z3 z4 z5 z6
 have o2 := or32 (h := r) (l := u2) z3 z4 (by omega) (by omega)
 have x2 : IntKind.u64.wrap (u2 + 4294967296 * r) = u2 + 4294967296 * r := u64i (by omega) (by omega)
 have x4 : IntKind.u64.wrap (r + v1) = r + v1 := u64i (by omega) (by omega)
 have htest : ((decide (q ≥ (4294967296 : Int))) || (decide (IntKind.u64.wrap (q * v2) > u2 + 4294967296 * r))) = true ↔ (4294967296 ≤ q ∨ r * 4294967296 + u2 < q * v2) := by
  rw [Bool.or_eq_true, decide_eq_true_eq, decide_eq_true_eq]
  by_cases hq : 4294967296 ≤ q
  ·simp [hq]
  ·have hp := mul_digits (a := q) (b := v2) z1 (by omega) (by omega) (by omega)
   rw [u64i hp.1 (by omega)]
   omega
 simp only [nat_guess_b1, nat_guess_j1, w1, w3, w4, w5, r2, s1, s2, xv1, xv2, o2, x2, x4, cond_some, Tot.cond_iff, Tot.ass_iff, Tot.bnd_iff, Tot.some_iff, Tot.map_iff, Tot.bind_iff, Nx.inl_iff, Nx.inr_iff, decide_eq_true_eq, decide_eq_false_iff_not]
 refine ⟨fun _ => ⟨by omega, by omega⟩, fun _ => by omega, fun _ => ⟨by omega, by omega⟩, fun hb => ?_, fun hb => ?_⟩
 ·have hb' := htest.1 (by simpa using hb)
  have hbig := kn.big z1 z5 hb'
  rw [← eY, ← eW] at hbig
  have hq1 : 1 ≤ q := by
   rcases hb' with hb' | hb'
   ·omega
   ·rcases Int.lt_or_le q 1 with hc | hc
    ·have : q = 0 := by omega
     rw [this] at hb'; omega
    ·exact hc
  have x5 : IntKind.u64.wrap (q - 1) = q - 1 := u64i (by omega) (by omega)
  have z5' : (q - 1) * v1 + (r + v1) = u0 * 4294967296 + u1 := by rw [Int.sub_mul, Int.one_mul]; omega
  have z6' : (W : Int) < (q - 1 + 1) * (Y : Int) := by rw [show q - 1 + 1 = q from by omega]; exact hbig
  rw [x5]
  refine ⟨⟨by omega, by omega⟩, fun hge => ?_, fun hlt' => ⟨⟨by omega, by omega, by omega, by omega, z5', z6'⟩, by omega⟩⟩
  exact good _ (by omega) z6' (kn.near (by omega) (by omega) z5' (.inr (by omega)))
 ·have hb' : ¬ (4294967296 ≤ q ∨ r * 4294967296 + u2 < q * v2) := fun hc => by
   have := htest.2 hc
   rw [this] at hb
   simp at hb
  exact good _ z1 z6 (kn.near z1 z3 z5 (.inl (by omega)))
theorem dgt_out {Y n i : Nat} (h : (d32 Y).length ≤ i) : dgt 4294967296 Y i = 0 := by
 unfold dgt; rw [dg_div_len (x := Y) (k := i) b32 (show (d32 Y).length ≤ i from h)]
theorem nat_away_tot {u : List Int} {U : Int} {Y n j g : Nat} (hu : Dg 4294967296 u) (hU : vl 4294967296 u = U) (hv : (d32 Y).length = n) (hj : j + n < u.length) (hlen : u.length ≤ 5000000) (hg : g < 4294967296) :
  Tot (nat_away u (d32 Y) (j : Int) (g : Int)) (fun r => r.2.length = u.length ∧ Dg 4294967296 r.2 ∧ vl 4294967296 r.2 = U - ((4294967296 ^ j * (g * Y) : Nat) : Int) + (if r.1 = true then 1 else 0) * ((4294967296 ^ (j + (n + 1)) : Nat) : Int) ∧ ∀ k : Nat, j + (n + 1) ≤ k → rd 0 r.2 (k : Int) = rd 0 u (k : Int)) := by
 have w1 : IntKind.i64.wrap (((d32 Y).length : Int) + 1) = ((n + 1 : Nat) : Int) := by rw [w64 (by omega) (by omega)]; omega
 simp only [nat_away, w1, cond_some, Tot.cond_iff, Tot.ass_iff, Tot.bnd_iff, Tot.some_iff, Tot.map_iff, Tot.bind_iff, Nx.inl_iff, Nx.inr_iff, decide_eq_true_eq, decide_eq_false_iff_not]
 refine Tot.loop (fun z => ∃ i : Nat, z.2.2.2 = (i : Int) ∧ i ≤ n + 1 ∧ z.1.length = u.length ∧ Dg 4294967296 z.1 ∧ 0 ≤ z.2.1 ∧ z.2.1 < 4294967296 ∧ (z.2.2.1 = 0 ∨ z.2.2.1 = 1) ∧ (i = n + 1 → z.2.1 = 0) ∧
   vl 4294967296 z.1 = U - ((4294967296 ^ j * (g * (Y % 4294967296 ^ i)) : Nat) : Int) + (z.2.1 + z.2.2.1) * ((4294967296 ^ (j + i) : Nat) : Int) ∧ ∀ k : Nat, j + i ≤ k → rd 0 z.1 (k : Int) = rd 0 u (k : Int))
  (fun z => ((n : Int) + 1 - z.2.2.2).toNat) (fun z hz => ?_) ⟨0, rfl, by omega, rfl, hu, Int.le_refl _, by show (0 : Int) < 4294967296; omega, .inl rfl, fun h => by omega, by simp [hU, Nat.mod_one], fun k _ => rfl⟩
 obtain ⟨l, c, b, i0⟩ := z
 obtain ⟨i, h1, h2, h3, h4, h5, h6, h7, h8, h9, h10⟩ := hz
 simp only at h1 h3 h4 h5 h6 h7 h8 h9 h10
 subst h1
 obtain ⟨d, hd⟩ : ∃ d : Int, d = ((dgt 4294967296 Y i : Nat) : Int) := ⟨_, rfl⟩
 have hdb := dgt_lt (B := 4294967296) (x := Y) (i := i) (by omega)
 obtain ⟨a, ha⟩ : ∃ a : Int, a = rd 0 l ((j + i : Nat) : Int) := ⟨_, rfl⟩
 have hab := h4.rd (by omega) ((j + i : Nat) : Int)
 rw [← ha] at hab
 have hp := mul_digits (a := (g : Int)) (b := d) (by omega) (by omega) (by omega) (by omega)
 have hji : IntKind.i64.wrap ((j : Int) + (i : Int)) = ((j + i : Nat) : Int) := by rw [w64 (by omega) (by omega)]; omega
 have x1 : IntKind.u64.wrap d = d := u64i (by omega) (by omega)
 have x2 : IntKind.u64.wrap ((g : Int) * d) = (g : Int) * d := u64i hp.1 (by omega)
 obtain ⟨t, ht⟩ : ∃ t : Int, t = c + (g : Int) * d := ⟨_, rfl⟩
 have htb : 0 ≤ t ∧ t ≤ 18446744069414584320 := by omega
 have x3 : IntKind.u64.wrap t = t := u64i (by omega) (by omega)
 have x4 : IntKind.u64.wrap a = a := u64i (by omega) (by omega)
 have o1 := and32 (x := t) (by omega) (by omega)
 have x5 : IntKind.u64.wrap (t % 4294967296) = t % 4294967296 := u64i (by omega) (by omega)
 have x6 : IntKind.i64.wrap ((i : Int) + 1) = (i : Int) + 1 := w64 (by omega) (by omega)
 simp only [nat_away_b1, nat_away_j1, nat_at_eq _ (show (0 : Int) ≤ (i : Int) by omega), rd_dgt b32, hji, ← ha, ← hd, x1, x2, ← ht, x3, x4, o1, x5, x6, u64_sub, fd63, fd32, u32u64, fd63w (x := a - t % 4294967296 - b) (by omega) (by omega), cond_some, Tot.cond_iff, Tot.ass_iff, Tot.bnd_iff, Tot.some_iff, Tot.map_iff, Tot.bind_iff, Nx.inl_iff, Nx.inr_iff, decide_eq_true_eq, decide_eq_false_iff_not]
 refine ⟨fun hc => ⟨⟨by omega, by omega⟩, ⟨by omega, by omega⟩, by omega, by omega, ⟨i + 1, by simp, by omega, by rw [wr_length]; exact h3, h4.wr (by omega) (by omega), by omega, by omega, by split <;> simp, fun hin => ?_, ?_, fun k hk => ?_⟩, by omega⟩, fun hc => ⟨h3, h4, ?_, fun k hk => h10 k (by omega)⟩⟩
 ·have hz : d = 0 := by rw [hd, dgt_out (n := n) (by omega)]; rfl
  rw [hz, Int.mul_zero] at ht
  omega
 ·rw [vl_wr (by omega), ← ha, h9, mod_up, show j + (i + 1) = j + i + 1 from rfl, Nat.pow_succ 4294967296 (j + i)]
  have hs : (a - t % 4294967296 - b) % 4294967296 = (a - t % 4294967296 - b) + (if a - t % 4294967296 - b < 0 then 1 else 0) * 4294967296 := by split <;> omega
  rw [hs]
  generalize (if a - t % 4294967296 - b < 0 then (1 : Int) else 0) = L
  have hs2 : t % 4294967296 = t - 4294967296 * (t / 4294967296) := by omega
  rw [hs2, ht]
  generalize (c + (g : Int) * d) / 4294967296 = q
  rw [Nat.pow_add]
  simp only [Int.natCast_add, Int.natCast_mul, ← hd]
  generalize ((4294967296 ^ i : Nat) : Int) = I
  generalize ((4294967296 ^ j : Nat) : Int) = J
  rw [show ((4294967296 : Nat) : Int) = 4294967296 from rfl]
  grind
 ·rw [rd_wr (by omega) (by omega) (by omega), if_neg (by omega)]
  exact h10 k (by omega)
 ·have hin : i = n + 1 := by omega
  subst hin
  have hY : Y % 4294967296 ^ (n + 1) = Y := dg_mod_len (x := Y) b32 (show (d32 Y).length ≤ n + 1 by omega)
  rw [hY, h8 rfl] at h9
  rw [h9]
  rcases h7 with h7 | h7 <;> simp [h7]
theorem nat_back_tot {u : List Int} {U : Int} {Y n j : Nat} (hu : Dg 4294967296 u) (hU : vl 4294967296 u = U) (hv : (d32 Y).length = n) (hj : j + n < u.length) (hlen : u.length ≤ 5000000) :
  Tot (nat_back u (d32 Y) (j : Int)) (fun r => r.length = u.length ∧ Dg 4294967296 r ∧ (∃ c : Int, (c = 0 ∨ c = 1) ∧ vl 4294967296 r = U + ((4294967296 ^ j * Y : Nat) : Int) - c * ((4294967296 ^ (j + (n + 1)) : Nat) : Int)) ∧ ∀ k : Nat, j + (n + 1) ≤ k → rd 0 r (k : Int) = rd 0 u (k : Int)) := by
 have w1 : IntKind.i64.wrap (((d32 Y).length : Int) + 1) = ((n + 1 : Nat) : Int) := by rw [w64 (by omega) (by omega)]; omega
 simp only [nat_back, w1, cond_some, Tot.cond_iff, Tot.ass_iff, Tot.bnd_iff, Tot.some_iff, Tot.map_iff, Tot.bind_iff, Nx.inl_iff, Nx.inr_iff, decide_eq_true_eq, decide_eq_false_iff_not]
 refine Tot.loop (fun z => ∃ i : Nat, z.2.2 = (i : Int) ∧ i ≤ n + 1 ∧ z.1.length = u.length ∧ Dg 4294967296 z.1 ∧ (z.2.1 = 0 ∨ z.2.1 = 1) ∧
   vl 4294967296 z.1 = U + ((4294967296 ^ j * (Y % 4294967296 ^ i) : Nat) : Int) - z.2.1 * ((4294967296 ^ (j + i) : Nat) : Int) ∧ ∀ k : Nat, j + i ≤ k → rd 0 z.1 (k : Int) = rd 0 u (k : Int))
  (fun z => ((n : Int) + 1 - z.2.2).toNat) (fun z hz => ?_) ⟨0, rfl, by omega, rfl, hu, .inl rfl, by simp [hU, Nat.mod_one], fun k _ => rfl⟩
 obtain ⟨l, c, i0⟩ := z
 obtain ⟨i, h1, h2, h3, h4, h7, h9, h10⟩ := hz
 simp only at h1 h3 h4 h7 h9 h10
 subst h1
 obtain ⟨d, hd⟩ : ∃ d : Int, d = ((dgt 4294967296 Y i : Nat) : Int) := ⟨_, rfl⟩
 have hdb := dgt_lt (B := 4294967296) (x := Y) (i := i) (by omega)
 obtain ⟨a, ha⟩ : ∃ a : Int, a = rd 0 l ((j + i : Nat) : Int) := ⟨_, rfl⟩
 have hab := h4.rd (by omega) ((j + i : Nat) : Int)
 rw [← ha] at hab
 have hji : IntKind.i64.wrap ((j : Int) + (i : Int)) = ((j + i : Nat) : Int) := by rw [w64 (by omega) (by omega)]; omega
 have x1 : IntKind.u64.wrap d = d := u64i (by omega) (by omega)
 have x2 : IntKind.u64.wrap a = a := u64i (by omega) (by omega)
 have x3 : IntKind.u64.wrap (a + d) = a + d := u64i (by omega) (by omega)
 obtain ⟨t, ht⟩ : ∃ t : Int, t = c + (a + d) := ⟨_, rfl⟩
 have x4 : IntKind.u64.wrap t = t := u64i (by omega) (by omega)
 have x6 : IntKind.i64.wrap ((i : Int) + 1) = (i : Int) + 1 := w64 (by omega) (by omega)
 simp only [nat_back_b1, nat_at_eq _ (show (0 : Int) ≤ (i : Int) by omega), rd_dgt b32, hji, ← ha, ← hd, x1, x2, x3, ← ht, x4, x6, fd32, u32m, cond_some, Tot.cond_iff, Tot.ass_iff, Tot.bnd_iff, Tot.some_iff, Tot.map_iff, Tot.bind_iff, Nx.inl_iff, Nx.inr_iff, decide_eq_true_eq, decide_eq_false_iff_not]
 refine ⟨fun hc => ⟨⟨by omega, by omega⟩, ⟨by omega, by omega⟩, by omega, ⟨i + 1, by simp, by omega, by rw [wr_length]; exact h3, h4.wr (by omega) (by omega), by omega, ?_, fun k hk => ?_⟩, by omega⟩, fun hc => ⟨h3, h4, ?_, fun k hk => h10 k (by omega)⟩⟩
 ·rw [vl_wr (by omega), ← ha, h9, mod_up, show j + (i + 1) = j + i + 1 from rfl, Nat.pow_succ 4294967296 (j + i)]
  have hs2 : t % 4294967296 = t - 4294967296 * (t / 4294967296) := by omega
  rw [hs2]
  generalize t / 4294967296 = q
  rw [ht, Nat.pow_add]
  simp only [Int.natCast_add, Int.natCast_mul, ← hd]
  generalize ((4294967296 ^ i : Nat) : Int) = I
  generalize ((4294967296 ^ j : Nat) : Int) = J
  rw [show ((4294967296 : Nat) : Int) = 4294967296 from rfl]
  grind
 ·rw [rd_wr (by omega) (by omega) (by omega), if_neg (by omega)]
  exact h10 k (by omega)
 ·have hin : i = n + 1 := by omega
  subst hin
  have hY : Y % 4294967296 ^ (n + 1) = Y := dg_mod_len (x := Y) b32 (show (d32 Y).length ≤ n + 1 by omega)
  rw [hY] at h9
  exact ⟨c, h7, h9⟩
theorem vl_zeros {B : Nat} : ∀ {l : List Int}, (∀ k : Nat, rd 0 l (k : Int) = 0) → vl B l = 0
 | [], _ => rfl
 | a :: l, h => by
  have h0 : a = 0 := h 0
  have ht : vl B l = 0 := vl_zeros fun k => by
   have := h (k + 1)
   simpa [rd] using this
  show a + (B : Int) * vl B l = 0
  rw [h0, ht]; simp
theorem vl_small {B : Nat} (hB : 0 < B) {l : List Int} (h : Dg B l) {t : Nat} (hz : ∀ k : Nat, t ≤ k → rd 0 l (k : Int) = 0) : 0 ≤ vl B l ∧ vl B l < ((B ^ t : Nat) : Int) := by
 refine ⟨(vl_bound h).1, ?_⟩
 rcases Nat.lt_or_ge l.length t with hl | hl
 ·refine Int.lt_of_lt_of_le (vl_bound h).2 ?_
  exact_mod_cast Nat.pow_le_pow_right hB (Nat.le_of_lt hl)
 ·rw [vl_split t hl]
  have e : vl B (l.drop t) = 0 := vl_zeros fun k => by
   have := hz (t + k) (by omega)
   have e2 : rd 0 (l.drop t) (k : Int) = rd 0 l ((t + k : Nat) : Int) := by
    unfold rd
    simp only [Int.toNat_natCast, List.getD_eq_getElem?_getD, List.getElem?_drop]
   rw [e2]; exact this
  rw [e]
  have := (vl_bound (h.take t)).2
  rw [List.length_take, Nat.min_eq_left hl] at this
  simpa using this
theorem leading {v : Nat} (h0 : 0 < v) (h1 : v < 4294967296) : ∃ s : Nat, s < 32 ∧ math_bits_LeadingZeros32 (v : Int) = some (s : Int) ∧ 2147483648 ≤ v * 2 ^ s ∧ v * 2 ^ s < 4294967296 := by
 have hb := Lib.bitLenAux_bounds 64 v (by omega) (by omega)
 have hL : Lib.bitLen v = Lib.bitLenAux 64 v := rfl
 rw [← hL] at hb
 have hle : Lib.bitLen v ≤ 32 := by
  rcases Nat.lt_or_ge 32 (Lib.bitLen v) with hc | hc
  ·have : 2 ^ 32 ≤ 2 ^ (Lib.bitLen v - 1) := Nat.pow_le_pow_right (by omega) (by omega)
   omega
  ·exact hc
 obtain ⟨s, hs⟩ : ∃ s, s = 32 - Lib.bitLen v := ⟨_, rfl⟩
 refine ⟨s, by omega, ?_, ?_, ?_⟩
 ·rw [← Tot.eq_iff]
  have hw : IntKind.i64.wrap ((32 : Int) - (Lib.bitLen v : Int)) = (s : Int) := by rw [w64 (by omega) (by omega)]; omega
  simp only [math_bits_LeadingZeros32, math_bits_Len32, Int.toNat_natCast, hw, cond_some, Tot.cond_iff, Tot.ass_iff, Tot.bnd_iff, Tot.some_iff, Tot.map_iff, Tot.bind_iff, Nx.inl_iff, Nx.inr_iff, decide_eq_true_eq, decide_eq_false_iff_not]
  exact ⟨⟨by omega, by omega⟩, trivial⟩
 ·have : 2 ^ (Lib.bitLen v - 1) * 2 ^ s ≤ v * 2 ^ s := Nat.mul_le_mul_right _ hb.2.1
  rw [← Nat.pow_add, show Lib.bitLen v - 1 + s = 31 from by omega] at this
  omega
 ·have : v * 2 ^ s < 2 ^ Lib.bitLen v * 2 ^ s := Nat.mul_lt_mul_of_pos_right hb.2.2 (Nat.pow_pos (by omega))
  rw [← Nat.pow_add, show Lib.bitLen v + s = 32 from by omega] at this
  omega
theorem down_digit {U s : Nat} (hs : s < 32) : (U % 4294967296 + 4294967296 * (U / 4294967296 % 4294967296)) / 2 ^ s % 4294967296 = U / 2 ^ s % 4294967296 := by
 have e : 4294967296 = 2 ^ s * 2 ^ (32 - s) := by rw [← Nat.pow_add, show s + (32 - s) = 32 from by omega]
 obtain ⟨t, ht⟩ : ∃ t, t = U % 4294967296 + 4294967296 * (U / 4294967296 % 4294967296) := ⟨_, rfl⟩
 have hU : U = t + 4294967296 * (4294967296 * (U / 4294967296 / 4294967296)) := by omega
 rw [← ht]
 conv => rhs; rw [hU]
 generalize U / 4294967296 / 4294967296 = w
 have e2 : t + 4294967296 * (4294967296 * w) = t + 2 ^ s * (2 ^ (32 - s) * (4294967296 * w)) := by
  rw [← Nat.mul_assoc (2 ^ s), ← e]
 rw [e2, Nat.add_mul_div_left _ _ (Nat.pow_pos (by omega)), show 2 ^ (32 - s) * (4294967296 * w) = 4294967296 * (2 ^ (32 - s) * w) from Nat.mul_left_comm .., Nat.add_mul_mod_self_left]
theorem nat_down_eq {l : List Int} {U s : Nat} (h : Dg 4294967296 l) (hU : vl 4294967296 l = (U : Int)) (hl : l.length ≤ 5000000) (hs : s < 32) : nat_down l (s : Int) = some (d32 (U / 2 ^ s)) := by
 rw [← Tot.eq_iff]
 obtain ⟨m, hm⟩ : ∃ m, m = l.length := ⟨_, rfl⟩
 have h2s : 2 ^ s ≤ 2 ^ 31 := Nat.pow_le_pow_right (by omega) (by omega)
 have h2p : 0 < 2 ^ s := Nat.pow_pos (by omega)
 simp only [nat_down, cond_some, Tot.cond_iff, Tot.ass_iff, Tot.bnd_iff, Tot.some_iff, Tot.map_iff, Tot.bind_iff, Nx.inl_iff, Nx.inr_iff, decide_eq_true_eq, decide_eq_false_iff_not]
 refine ⟨⟨by omega, Int.le_refl _, by unfold lim; omega⟩, ?_⟩
 rw [Int.toNat_natCast, ← hm]
 refine Tot.loop (fun z => ∃ i : Nat, z.2 = (i : Int) ∧ i ≤ m ∧ z.1.length = m ∧ Dg 4294967296 z.1 ∧ vl 4294967296 z.1 = ((U / 2 ^ s % 4294967296 ^ i : Nat) : Int) ∧ ∀ j : Nat, i ≤ j → rd 0 z.1 (j : Int) = 0)
  (fun z => ((m : Int) - z.2).toNat) (fun z hz => ?_) ⟨0, rfl, by omega, List.length_replicate, Dg.rep (by omega), by simp only [vl_rep, Nat.pow_zero, Nat.mod_one]; rfl, fun j _ => rd_rep0 _⟩
 obtain ⟨q, i0⟩ := z
 obtain ⟨i, h1, h2, h3, h4, h5, h6⟩ := hz
 simp only at h1 h3 h4 h5 h6
 subst h1
 have hi1 : IntKind.i64.wrap ((i : Int) + 1) = ((i + 1 : Nat) : Int) := by rw [w64 (by omega) (by omega)]; omega
 have d0 := dgt_lt (B := 4294967296) (x := U) (i := i) (by omega)
 have d1 := dgt_lt (B := 4294967296) (x := U) (i := i + 1) (by omega)
 obtain ⟨a, ha⟩ : ∃ a, a = dgt 4294967296 U i := ⟨_, rfl⟩
 obtain ⟨b, hb⟩ : ∃ b, b = dgt 4294967296 U (i + 1) := ⟨_, rfl⟩
 rw [← ha] at d0
 rw [← hb] at d1
 have o1 := or32 (h := (b : Int)) (l := (a : Int)) (by omega) (by omega) (by omega) (by omega)
 have x1 : IntKind.u64.wrap (b : Int) = (b : Int) := u64i (by omega) (by omega)
 have x2 : IntKind.u64.wrap ((a : Int) + 4294967296 * (b : Int)) = ((a + 4294967296 * b : Nat) : Int) := by rw [u64i (by omega) (by omega)]; omega
 have hmin : min (s : Int).toNat IntKind.u64.bits = s := by rw [Int.toNat_natCast, show IntKind.u64.bits = 64 from by decide]; omega
 have hpw : (2 : Int) ^ s = ((2 ^ s : Nat) : Int) := by rw [Int.natCast_pow]; rfl
 have hfd : Int.fdiv ((a + 4294967296 * b : Nat) : Int) ((2 ^ s : Nat) : Int) = (((a + 4294967296 * b) / 2 ^ s : Nat) : Int) := by
  rw [Int.fdiv_eq_ediv_of_nonneg _ (Int.natCast_nonneg _)]; rfl
 have hdig : (((a + 4294967296 * b) / 2 ^ s : Nat) : Int) % 4294967296 = ((dgt 4294967296 (U / 2 ^ s) i : Nat) : Int) := by
  have e := down_digit (U := U / 4294967296 ^ i) hs
  have e2 : dgt 4294967296 (U / 2 ^ s) i = U / 4294967296 ^ i / 2 ^ s % 4294967296 := by
   unfold dgt; rw [Nat.div_div_eq_div_mul, Nat.mul_comm, ← Nat.div_div_eq_div_mul]
  have e3 : b = U / 4294967296 ^ i / 4294967296 % 4294967296 := by
   rw [hb]; unfold dgt; rw [Nat.pow_succ, Nat.div_div_eq_div_mul]
  have e4 : a = U / 4294967296 ^ i % 4294967296 := ha
  rw [e2, ← e, ← e3, ← e4]
  rfl
 have hdl := dgt_lt (B := 4294967296) (x := U / 2 ^ s) (i := i) (by omega)
 simp only [nat_down_b1, nat_down_j1, hi1, nat_at_eq _ (show (0 : Int) ≤ ((i + 1 : Nat) : Int) by omega), rd_num h hU, ← ha, ← hb, x1, o1, x2, hmin, hpw, hfd, u32m, hdig, cond_some, Tot.cond_iff, Tot.ass_iff, Tot.bnd_iff, Tot.some_iff, Tot.map_iff, Tot.bind_iff, Nx.inl_iff, Nx.inr_iff, decide_eq_true_eq, decide_eq_false_iff_not]
 refine ⟨fun hc => ⟨by omega, ⟨by omega, by omega⟩, by omega, ⟨by omega, by omega⟩, ⟨i + 1, by simp, by omega, by rw [wr_length]; exact h3, h4.wr (by omega) (by omega), ?_, fun j hj => ?_⟩, by omega⟩, fun hc => ?_⟩
 ·rw [vl_wr (by omega), h6 i (Nat.le_refl _), h5, cast_up]
  simp
 ·rw [rd_wr (by omega) (by omega) (by omega), if_neg (by omega)]
  exact h6 j (by omega)
 ·have hi : i = m := by omega
  have hUl : U < 4294967296 ^ i := by
   have := (vl_bound h).2
   rw [hU, ← hm, ← hi] at this
   exact_mod_cast this
  have hq : U / 2 ^ s % 4294967296 ^ i = U / 2 ^ s := Nat.mod_eq_of_lt (Nat.lt_of_le_of_lt (Nat.div_le_self ..) hUl)
  rw [hq] at h5
  rw [nat_Cut_eq h4 (by omega), h5, Int.toNat_natCast]
  exact Tot.some_iff.2 rfl
theorem d32_nil {x : Nat} (h : (d32 x).length = 0) : x = 0 := (dg_nil b32).1 (List.eq_nil_of_length_eq_zero h)
theorem d32_zero : d32 0 = [] := dg_zero
theorem div_step {u q : List Int} {U V n i s : Nat} (hu : Dg 4294967296 u) (hU : vl 4294967296 u = (U : Int)) (hv : (d32 V).length = n) (hn : 2 ≤ n) (htop : 4294967296 ≤ 2 * dgt 4294967296 V (n - 1)) (hj : i + n < u.length) (hlen : u.length ≤ 5000000) (hlt : U < V * 4294967296 ^ (i + 1))
  (hqi : i < q.length) (hq : q.length ≤ 5000000) :
  Tot (nat_Div_b1 (s : Int) (d32 V) u q (i : Int)) (fun r => ∃ u', r = .inl (u', wr q (i : Int) ((U / 4294967296 ^ i / V : Nat) : Int), (i : Int) - 1) ∧ u'.length = u.length ∧ Dg 4294967296 u' ∧ vl 4294967296 u' = ((U - 4294967296 ^ i * (U / 4294967296 ^ i / V * V) : Nat) : Int) ∧ U / 4294967296 ^ i / V < 4294967296) := by
 have hV0 : 0 < V := by
  rcases Nat.eq_zero_or_pos V with h | h
  ·rw [h, Nat.zero_mul] at hlt; omega
  ·exact h
 obtain ⟨W, hW⟩ : ∃ W, W = U / 4294967296 ^ i := ⟨_, rfl⟩
 obtain ⟨lo, hlo⟩ : ∃ lo, lo = U % 4294967296 ^ i := ⟨_, rfl⟩
 obtain ⟨D, hD⟩ : ∃ D, D = W / V := ⟨_, rfl⟩
 have hPp : 0 < 4294967296 ^ i := Nat.pow_pos (by omega)
 have hUe : U = 4294967296 ^ i * W + lo := by rw [hW, hlo]; exact (Nat.div_add_mod ..).symm
 have hlob : lo < 4294967296 ^ i := by rw [hlo]; exact Nat.mod_lt _ hPp
 have hDV : D * V ≤ W := by rw [hD]; exact Nat.div_mul_le_self ..
 have hDV2 : W < (D + 1) * V := by
  rw [hD]
  have := Nat.lt_mul_div_succ W hV0
  rwa [Nat.mul_comm] at this
 have hVn : V < 4294967296 ^ n := by rw [← hv]; exact dg_lt b32
 have hUn : U < 4294967296 ^ (i + (n + 1)) := by
  refine Nat.lt_of_lt_of_le hlt ?_
  rw [show i + (n + 1) = n + (i + 1) from by omega, Nat.pow_add 4294967296 n]
  exact Nat.mul_le_mul_right _ (Nat.le_of_lt hVn)
 have huz : ∀ k : Nat, i + (n + 1) ≤ k → rd 0 u (k : Int) = 0 := fun k hk => by
  rw [rd_num hu hU]
  unfold dgt
  rw [Nat.div_eq_of_lt (Nat.lt_of_lt_of_le hUn (Nat.pow_le_pow_right (by omega) hk))]
  rfl
 have hBP : 4294967296 ^ i * (D * V) ≤ U := by
  rw [hUe]
  have := Nat.mul_le_mul_left (4294967296 ^ i) hDV
  omega
 have fin : ((U - 4294967296 ^ i * (D * V) : Nat) : Int) = (U : Int) - ((4294967296 ^ i * (D * V) : Nat) : Int) := by omega
 have hc : decide ((i : Int) ≥ 0) = true := by simp
 have w1 : IntKind.i64.wrap ((i : Int) - 1) = (i : Int) - 1 := w64 (by omega) (by omega)
 simp only [nat_Div_b1, hc, cond_true, Tot.bind_iff]
 rw [← hW, ← hD]
 refine (nat_guess_tot hu hU hv hn htop hj hlen hlt).mono fun x19 hx => ?_
 obtain ⟨g, rfl, hg, hg1, hg2⟩ := hx
 rw [← hW, ← hD] at hg1 hg2
 refine (nat_away_tot hu hU hv hj hlen hg).mono fun r hr => ?_
 obtain ⟨flag, ua⟩ := r
 obtain ⟨a1, a2, a3, a4⟩ := hr
 simp only at a1 a2 a3 a4
 have hz := vl_small (by omega) a2 fun k hk => by rw [a4 k hk]; exact huz k hk
 rw [a3] at hz
 have eg : ((4294967296 ^ i * (g * V) : Nat) : Int) = ((4294967296 ^ i : Nat) : Int) * (((g * V : Nat) : Int)) := by rw [Int.natCast_mul]
 cases flag with
 | true =>
  simp only [if_true, Int.one_mul] at hz a3
  have hgD : g = D + 1 := by
   rcases Nat.lt_or_ge D g with h | h
   ·omega
   ·exfalso
    have hge : g = D := by omega
    rw [hge] at hz
    omega
  have x25 : IntKind.u64.wrap ((g : Int) - 1) = (D : Int) := by rw [u64i (by omega) (by omega)]; omega
  have hDB : D < 4294967296 := by omega
  have x32 : IntKind.u32.wrap (D : Int) = (D : Int) := u32i (by omega) (by omega)
  simp only [cond_true, x25, Tot.bnd_iff, Tot.bind_iff]
  refine (nat_back_tot a2 a3 hv (by rw [a1]; exact hj) (by rw [a1]; exact hlen)).mono fun ub hb => ?_
  obtain ⟨b1, b2, ⟨c, hc01, b3⟩, b4⟩ := hb
  have hzb := vl_small (by omega) b2 fun k hk => by rw [b4 k hk, a4 k hk]; exact huz k hk
  rw [b3] at hzb
  have egg : ((4294967296 ^ i * (g * V) : Nat) : Int) = ((4294967296 ^ i * (D * V) : Nat) : Int) + ((4294967296 ^ i * V : Nat) : Int) := by
   rw [hgD, Nat.add_mul, Nat.one_mul, Nat.mul_add, Int.natCast_add]
  have hc1 : c = 1 := by
   rcases hc01 with h | h
   ·exfalso
    rw [h, egg] at hzb
    omega
   ·exact h
  simp only [nat_Div_j2, x32, w1, cond_some, Tot.cond_iff, Tot.ass_iff, Tot.bnd_iff, Tot.some_iff, Tot.map_iff, Tot.bind_iff, Nx.inl_iff, Nx.inr_iff, decide_eq_true_eq, decide_eq_false_iff_not]
  refine ⟨⟨by omega, by omega⟩, ub, rfl, by rw [b1, a1], b2, ?_, hDB⟩
  rw [b3, hc1, egg, fin]
  omega
 | false =>
  simp only [Bool.false_eq_true, if_false, Int.zero_mul, Int.add_zero] at hz a3
  have hgD : g = D := by
   rcases Nat.lt_or_ge D g with h | h
   ·exfalso
    have h2 : g = D + 1 := by omega
    have h3 : 4294967296 ^ i * (W + 1) ≤ 4294967296 ^ i * (g * V) := Nat.mul_le_mul_left _ (by rw [h2]; exact hDV2)
    rw [Nat.mul_add, Nat.mul_one] at h3
    omega
   ·omega
  subst hgD
  have x32 : IntKind.u32.wrap (g : Int) = (g : Int) := u32i (by omega) (by omega)
  simp only [cond_false, nat_Div_j2, x32, w1, cond_some, Tot.cond_iff, Tot.ass_iff, Tot.bnd_iff, Tot.some_iff, Tot.map_iff, Tot.bind_iff, Nx.inl_iff, Nx.inr_iff, decide_eq_true_eq, decide_eq_false_iff_not]
  refine ⟨⟨by omega, by omega⟩, ua, rfl, a1, a2, ?_, hg⟩
  rw [a3, fin]
theorem shift_top {y n s : Nat} (hn : (d32 y).length = n + 1) (hs : s < 32) (hlo : 2147483648 ≤ dgt 4294967296 y n * 2 ^ s) (hhi : dgt 4294967296 y n * 2 ^ s < 4294967296) :
  (d32 (y * 2 ^ s)).length = n + 1 ∧ 4294967296 ≤ 2 * dgt 4294967296 (y * 2 ^ s) n := by
 have hyl : y < 4294967296 ^ (n + 1) := by rw [← hn]; exact dg_lt b32
 obtain ⟨v, hv⟩ : ∃ v, v = dgt 4294967296 y n := ⟨_, rfl⟩
 have hvy : y / 4294967296 ^ n = v := by
  rw [hv]; unfold dgt
  refine (Nat.mod_eq_of_lt ?_).symm
  rw [Nat.pow_succ] at hyl
  exact Nat.div_lt_of_lt_mul hyl
 obtain ⟨P, hP⟩ : ∃ P, P = 4294967296 ^ n := ⟨_, rfl⟩
 have hPp : 0 < P := by rw [hP]; exact Nat.pow_pos (by omega)
 obtain ⟨S, hS⟩ : ∃ S, S = 2 ^ s := ⟨_, rfl⟩
 have hSp : 0 < S := by rw [hS]; exact Nat.pow_pos (by omega)
 have e : 4294967296 = S * 2 ^ (32 - s) := by rw [hS, ← Nat.pow_add, show s + (32 - s) = 32 from by omega]
 rw [← hv, ← hS] at hlo hhi
 rw [← hS]
 rw [← hP] at hvy
 have h1 : P * v ≤ y := by rw [← hvy]; exact Nat.mul_div_le ..
 have h2 : y < P * (v + 1) := by rw [← hvy]; exact Nat.lt_mul_div_succ y hPp
 have hvS : (v + 1) * S ≤ 4294967296 := by
  have : v < 2 ^ (32 - s) := by
   rcases Nat.lt_or_ge v (2 ^ (32 - s)) with h | h
   ·exact h
   ·have := Nat.mul_le_mul_right S h
    rw [Nat.mul_comm _ S, ← e] at this
    omega
  have := Nat.mul_le_mul_right S this
  rw [Nat.mul_comm (2 ^ (32 - s)) S, ← e] at this
  exact this
 have k1 : P * (v * S) ≤ y * S := by rw [← Nat.mul_assoc]; exact Nat.mul_le_mul_right _ h1
 have k2 : y * S < P * 4294967296 := by
  have : y * S < P * (v + 1) * S := Nat.mul_lt_mul_of_pos_right h2 hSp
  rw [Nat.mul_assoc] at this
  exact Nat.lt_of_lt_of_le this (Nat.mul_le_mul_left _ hvS)
 have hdiv : y * S / P < 4294967296 := Nat.div_lt_of_lt_mul k2
 have hge : v * S ≤ y * S / P := (Nat.le_div_iff_mul_le hPp).2 (by rw [Nat.mul_comm]; exact k1)
 have hd : dgt 4294967296 (y * S) n = y * S / P := by
  unfold dgt; rw [← hP]; exact Nat.mod_eq_of_lt hdiv
 refine ⟨?_, by rw [hd]; omega⟩
 refine Nat.le_antisymm (dg_len b32 (by rw [Nat.pow_succ, ← hP]; exact k2)) ?_
 rcases Nat.lt_or_ge n (d32 (y * S)).length with h | h
 ·exact h
 ·exfalso
  have h3 : y * S < P := by
   rw [hP]
   exact Nat.lt_of_lt_of_le (dg_lt b32) (Nat.pow_le_pow_right (by omega) (show (dg 4294967296 (y * S)).length ≤ n from h))
  rw [Nat.div_eq_of_lt h3] at hge
  omega
theorem nat_Div_eq {x y : Nat} (hx : (d32 x).length ≤ 2000000) (hy : (d32 y).length ≤ 2000000) (hy0 : 0 < y) : nat_Div (d32 x) (d32 y) = some (d32 (x / y), d32 (x % y), true) := by
 rw [← Tot.eq_iff]
 have hyl : (d32 y).length ≠ 0 := fun hc => by have := d32_nil hc; omega
 simp only [nat_Div, nat_Cut_d32 (x := x) (by omega), nat_Cut_d32 (x := y) (by omega), nat_Cmp_eq (x := x) (y := y) (by omega) (by omega), Option.bind_some]
 have e0 : (((d32 y).length : Int) == 0) = false := by simp; exact fun hc => hyl (by rw [hc]; rfl)
 rw [e0, cond_false]
 by_cases hxy : x < y
 ·have e1 : decide (cmpN x y < 0) = true := by simp [cmpN, hxy]
  rw [e1, cond_true, Nat.div_eq_of_lt hxy, Nat.mod_eq_of_lt hxy, d32_zero]
  exact Tot.some_iff.2 rfl
 have e1 : decide (cmpN x y < 0) = false := by
  unfold cmpN; rw [if_neg hxy]; split <;> simp
 rw [e1, cond_false]
 by_cases h1 : (d32 y).length = 1
 ·have e2 : (((d32 y).length : Int) == 1) = true := by rw [h1]; rfl
  have hyb : y < 4294967296 := by
   have : y < 4294967296 ^ (d32 y).length := dg_lt b32
   rw [h1] at this
   simpa using this
  have hr : rd 0 (d32 y) ((0 : Nat) : Int) = (y : Int) := by
   rw [rd_dgt b32]; unfold dgt
   rw [Nat.pow_zero, Nat.div_one, Nat.mod_eq_of_lt hyb]
  have hr' : rd 0 (d32 y) 0 = (y : Int) := hr
  have hmod := Nat.mod_lt x hy0
  have hw : IntKind.u64.wrap ((x % y : Nat) : Int) = ((x % y : Nat) : Int) := by
   generalize x % y = r at hmod ⊢
   exact u64i (by omega) (by omega)
  rw [e2, cond_true]
  simp only [hr', nat_short_eq (x := x) (by omega) hy0 hyb, Option.bind_some, hw, nat_Of_eq (n := x % y) (by generalize x % y = r at hmod ⊢; omega), Tot.ass_iff, Tot.some_iff]
  exact ⟨⟨by omega, by omega⟩, trivial⟩
 have e2 : (((d32 y).length : Int) == 1) = false := by simp; omega
 rw [e2, cond_false]
 obtain ⟨n, hn⟩ : ∃ n, (d32 y).length = n + 1 := ⟨(d32 y).length - 1, by omega⟩
 obtain ⟨m, hm⟩ : ∃ m, m = (d32 x).length := ⟨_, rfl⟩
 have hnm : n + 1 ≤ m := by rw [← hn, hm]; exact d32_mono (by omega)
 have htop0 : dgt 4294967296 y n ≠ 0 := fun hc => by
  have := dg_top b32 (n := y) (fun h => hyl (by rw [d32, h]; rfl))
  rw [show (dg 4294967296 y).length - 1 = n from by have : (dg 4294967296 y).length = n + 1 := hn; omega, rd_dgt b32, hc] at this
  exact this rfl
 have htl := dgt_lt (B := 4294967296) (x := y) (i := n) (by omega)
 obtain ⟨s, hs, hlead, hlo, hhi⟩ := leading (v := dgt 4294967296 y n) (by omega) htl
 obtain ⟨hVl, hVt⟩ := shift_top hn hs hlo hhi
 obtain ⟨V, hV⟩ : ∃ V, V = y * 2 ^ s := ⟨_, rfl⟩
 rw [← hV] at hVl hVt
 have hSp : 0 < 2 ^ s := Nat.pow_pos (by omega)
 have hS31 : 2 ^ s ≤ 2147483648 := Nat.pow_le_pow_right (show 0 < 2 by omega) (show s ≤ 31 by omega)
 have w1 : IntKind.i64.wrap (((d32 y).length : Int) - 1) = (n : Int) := by rw [w64 (by omega) (by omega)]; omega
 have w2 : IntKind.i64.wrap (((d32 x).length : Int) - ((d32 y).length : Int)) = ((m - (n + 1) : Nat) : Int) := by rw [w64 (by omega) (by omega)]; omega
 have w3 : IntKind.i64.wrap (((m - (n + 1) : Nat) : Int) + 1) = ((m - n : Nat) : Int) := by rw [w64 (by omega) (by omega)]; omega
 have w4 : IntKind.i64.wrap (((m - n : Nat) : Int) - 1) = ((m - n : Nat) : Int) - 1 := w64 (by omega) (by omega)
 simp only [w1, w2, w3, rd_dgt b32, hlead, Option.bind_some, Tot.ass_iff, Tot.bind_iff]
 refine ⟨⟨by omega, by omega⟩, ?_⟩
 refine (nat_shifted_tot (x := x) (by omega) hs).mono fun u hu => ?_
 refine (nat_shifted_tot (x := y) (by omega) hs).mono fun v hv => ?_
 rw [nat_Cut_eq hv.2.1 (by rw [hv.1]; omega), hv.2.2, Int.toNat_natCast, ← hV]
 refine Tot.some_iff.2 ?_
 simp only [Tot.ass_iff, Tot.bnd_iff, Int.toNat_natCast, List.length_replicate, w4]
 refine ⟨⟨by omega, Int.le_refl _, by unfold lim; omega⟩, ?_⟩
 obtain ⟨X, hX⟩ : ∃ X, X = x * 2 ^ s := ⟨_, rfl⟩
 have hV0 : 0 < V := by rw [hV]; exact Nat.mul_pos hy0 hSp
 have hstart : X < V * 4294967296 ^ (m - n) := by
  have h1 : x < 4294967296 ^ m := by rw [hm]; exact dg_lt b32
  have h2 : X < 4294967296 ^ m * 2147483648 := by
   rw [hX]
   exact Nat.lt_of_lt_of_le (Nat.mul_lt_mul_of_pos_right h1 hSp) (Nat.mul_le_mul_left _ hS31)
  have h3 : 4294967296 ^ n * 2147483648 ≤ V := by
   have : dgt 4294967296 V n ≤ V / 4294967296 ^ n := Nat.mod_le ..
   have h4 : 2147483648 ≤ V / 4294967296 ^ n := by omega
   have := (Nat.le_div_iff_mul_le (Nat.pow_pos (by omega))).1 h4
   rwa [Nat.mul_comm] at this
  have h4 := Nat.mul_le_mul_right (4294967296 ^ (m - n)) h3
  have h5 : 4294967296 ^ m = 4294967296 ^ n * 4294967296 ^ (m - n) := by rw [← Nat.pow_add, show n + (m - n) = m from by omega]
  rw [h5] at h2
  have h6 : 4294967296 ^ n * 2147483648 * 4294967296 ^ (m - n) = 4294967296 ^ n * 4294967296 ^ (m - n) * 2147483648 := Nat.mul_right_comm ..
  omega
 refine Tot.loop (fun z => ∃ (k U Q : Nat), z.2.2 = (k : Int) - 1 ∧ k ≤ m - n ∧ z.1.length = m + 1 ∧ Dg 4294967296 z.1 ∧ vl 4294967296 z.1 = (U : Int) ∧ z.2.1.length = m - n ∧ Dg 4294967296 z.2.1 ∧ vl 4294967296 z.2.1 = (Q : Int) ∧ U + V * Q = X ∧ U < V * 4294967296 ^ k ∧ ∀ j : Nat, j < k → rd 0 z.2.1 (j : Int) = 0)
  (fun z => (z.2.2 + 1).toNat) (fun z hz => ?_) ⟨m - n, X, 0, rfl, Nat.le_refl _, by rw [hm]; exact hu.1, hu.2.1, by rw [hX]; exact hu.2.2, List.length_replicate, Dg.rep (by omega), by rw [vl_rep]; rfl, by omega, hstart, fun j _ => rd_rep0 _⟩
 obtain ⟨ul, q, i0⟩ := z
 obtain ⟨k, U, Q, z1, z2, z3, z4, z5, z6, z7, z8, z9, z10, z11⟩ := hz
 simp only at z1 z3 z4 z5 z6 z7 z8 z11
 subst z1
 rcases Nat.eq_zero_or_pos k with hk | hk
 ·subst hk
  rw [Nat.pow_zero, Nat.mul_one] at z10
  have hc : decide (((0 : Nat) : Int) - 1 ≥ 0) = false := by decide
  have hQ : Q = x / y := by
   have : (U + V * Q) / V = Q := by rw [Nat.add_mul_div_left _ _ hV0, Nat.div_eq_of_lt z10]; omega
   rw [z9, hX, hV, Nat.mul_div_mul_right _ _ hSp] at this
   exact this.symm
  have hU2 : U / 2 ^ s = x % y := by
   have : (U + V * Q) % V = U := by rw [Nat.add_mul_mod_self_left, Nat.mod_eq_of_lt z10]
   rw [z9, hX, hV, Nat.mul_mod_mul_right] at this
   rw [← this, Nat.mul_div_cancel _ hSp]
  have hdown := nat_down_eq z4 z5 (by omega) hs
  rw [hU2] at hdown
  have hcut : nat_Cut q = some (d32 (x / y)) := by rw [nat_Cut_eq z7 (by omega), z8, Int.toNat_natCast, hQ]
  simp only [nat_Div_b1, nat_Div_j1, hc, cond_false, hcut, hdown, Option.bind_some, Option.map_some, Tot.some_iff]
  exact Nx.inr_iff.2 rfl
 ·obtain ⟨i, rfl⟩ : ∃ i, k = i + 1 := ⟨k - 1, by omega⟩
  have hi1 : (((i + 1 : Nat) : Int) - 1) = (i : Int) := by omega
  simp only [hi1]
  refine (div_step (s := s) (q := q) z4 z5 hVl (by omega) (by rw [show n + 1 - 1 = n from rfl]; exact hVt) (by omega) (by omega) z10 (by omega) (by omega)).mono fun r hr => ?_
  obtain ⟨u', rfl, r1, r2, r3, r4⟩ := hr
  obtain ⟨D, hD⟩ : ∃ D, D = U / 4294967296 ^ i / V := ⟨_, rfl⟩
  rw [← hD] at r3 r4 ⊢
  have hPp : 0 < 4294967296 ^ i := Nat.pow_pos (by omega)
  have hDV : D * V ≤ U / 4294967296 ^ i := by rw [hD]; exact Nat.div_mul_le_self ..
  have hDV2 : U / 4294967296 ^ i < V * (D + 1) := by rw [hD]; exact Nat.lt_mul_div_succ _ hV0
  have hPU : 4294967296 ^ i * (D * V) ≤ U := Nat.le_trans (Nat.mul_le_mul_left _ hDV) (Nat.mul_div_le ..)
  have hU' : U - 4294967296 ^ i * (D * V) < V * 4294967296 ^ i := by
   have h1 : U < 4294967296 ^ i * (U / 4294967296 ^ i + 1) := Nat.lt_mul_div_succ U hPp
   have h2 : 4294967296 ^ i * (U / 4294967296 ^ i + 1) ≤ 4294967296 ^ i * (V * (D + 1)) := Nat.mul_le_mul_left _ hDV2
   have h3 : 4294967296 ^ i * (V * (D + 1)) = 4294967296 ^ i * (D * V) + V * 4294967296 ^ i := by
    rw [Nat.mul_add_one, Nat.mul_add, Nat.mul_comm V D, Nat.mul_comm V (4294967296 ^ i)]
   omega
  refine Nx.inl_iff.2 ⟨⟨i, U - 4294967296 ^ i * (D * V), Q + 4294967296 ^ i * D, rfl, by omega, by rw [r1]; exact z3, r2, r3, by rw [wr_length]; exact z6, z7.wr (Int.natCast_nonneg _) (by omega), ?_, ?_, hU', fun j hj => ?_⟩, by simp only; omega⟩
  ·simp only
   rw [vl_wr (by omega), z11 i (by omega), z8]
   simp only [Int.natCast_add, Int.natCast_mul]
   rw [Int.sub_zero]
  ·rw [Nat.mul_add, show V * (4294967296 ^ i * D) = 4294967296 ^ i * (D * V) from by rw [Nat.mul_comm D V, Nat.mul_left_comm]]
   generalize 4294967296 ^ i * (D * V) = T at hPU ⊢
   generalize V * Q = T2 at z9 ⊢
   omega
  ·simp only
   rw [rd_wr (by omega) (by omega) (by omega), if_neg (by omega)]
   exact z11 j (by omega)
theorem nat_Div_zero {x : Nat} (hx : (d32 x).length ≤ 2000000) : nat_Div (d32 x) [] = some ([], [], false) := by
 have h0 : nat_Cut [] = some [] := by have := nat_Cut_d32 (x := 0) (by rw [d32_zero]; simp); rwa [d32_zero] at this
 rw [← Tot.eq_iff]
 simp [nat_Div, nat_Cut_d32 (x := x) (by omega), h0, Tot.some_iff]
theorem nat_Gcd_eq {x y : Nat} (hx : (d32 x).length ≤ 2000000) (hy : (d32 y).length ≤ 2000000) : nat_Gcd (d32 x) (d32 y) = some (d32 (Nat.gcd x y)) := by
 rw [← Tot.eq_iff]
 simp only [nat_Gcd, nat_Cut_d32 (x := x) (by omega), nat_Cut_d32 (x := y) (by omega), Option.bind_some]
 refine Tot.loop (fun s => ∃ a b : Nat, s = (d32 a, d32 b) ∧ (d32 a).length ≤ 2000000 ∧ (d32 b).length ≤ 2000000 ∧ Nat.gcd a b = Nat.gcd x y) (fun s => (vl 4294967296 s.2).toNat) (fun s hs => ?_) ⟨x, y, rfl, hx, hy, rfl⟩
 obtain ⟨a, b, rfl, h1, h2, h3⟩ := hs
 simp only [nat_Gcd_b1, nat_Gcd_j1, cond_some, Tot.cond_iff, Tot.ass_iff, Tot.bnd_iff, Tot.some_iff, Tot.map_iff, Tot.bind_iff, Nx.inl_iff, Nx.inr_iff, decide_eq_true_eq, decide_eq_false_iff_not]
 refine ⟨fun hc => ?_, fun hc => ?_⟩
 ·have hb : 0 < b := by
   rcases Nat.eq_zero_or_pos b with h0 | h0
   ·subst h0; rw [d32_zero] at hc; simp at hc
   ·exact h0
  rw [nat_Div_eq h1 h2 hb]
  have hlt := Nat.mod_lt a hb
  refine Tot.some_iff.2 ⟨⟨b, a % b, rfl, h2, Nat.le_trans (d32_mono (Nat.le_of_lt hlt)) h2, by rw [Nat.gcd_comm b, ← Nat.gcd_rec, Nat.gcd_comm, h3]⟩, ?_⟩
  simp only [d32, vl_dg b32]
  omega
 ·have hb : b = 0 := d32_nil (by omega)
  subst hb
  rw [Nat.gcd_zero_right] at h3
  rw [h3]
theorem d16_zero : d16 0 = [] := dg_zero
theorem nat_Add_two {x y : Nat} (hx : (d32 x).length ≤ 2000000) (hy : (d32 y).length ≤ 2000000) : nat_Add [d32 x, d32 y] = some (d32 (x + y)) := by
 rw [← Tot.eq_iff]
 simp only [nat_Add]
 refine Tot.loop (fun s => s = (d32 0, 0) ∨ s = (d32 x, 1) ∨ s = (d32 (x + y), 2)) (fun s => ((2 : Int) - s.2).toNat) (fun s hs => ?_) (.inl (by rw [d32_zero]))
 have hw1 : IntKind.i64.wrap (1 : Int) = 1 := by decide
 have hw2 : IntKind.i64.wrap (2 : Int) = 2 := by decide
 have r0 : rd ([] : List Int) [d32 x, d32 y] 0 = d32 x := rfl
 have r1 : rd ([] : List Int) [d32 x, d32 y] 1 = d32 y := rfl
 rcases hs with rfl | rfl | rfl
 ·have ht : nat_plus (d32 0) (d32 x) = some (d32 x) := by rw [nat_plus_eq (by rw [d32_zero]; simp) (by omega), Nat.zero_add]
  simp [nat_Add_b1, nat_Add_j1, r0, ht, hw1, Nx, Tot.some_iff, Tot.ass_iff, Tot.bnd_iff]
 ·have ht : nat_plus (d32 x) (d32 y) = some (d32 (x + y)) := nat_plus_eq (by omega) (by omega)
  simp [nat_Add_b1, nat_Add_j1, r1, ht, hw2, Nx, Tot.some_iff, Tot.ass_iff, Tot.bnd_iff]
 ·simp [nat_Add_b1, nat_Add_j1, Nx, Tot.some_iff]
abbrev FP := Nat × Nat
def q16 (p : FP) : List Int × List Int := (d16 p.1, d16 p.2)
def q32 (p : FP) : List Int × List Int := (d32 p.1, d32 p.2)
def lowP (a b : Nat) : FP := (a / Nat.gcd a b, b / Nat.gcd a b)
def addP (p q : FP) : FP := lowP (p.1 * q.2 + q.1 * p.2) (p.2 * q.2)
def subP (p q : FP) : FP := lowP (p.1 * q.2 - q.1 * p.2) (p.2 * q.2)
def mulP (p q : FP) : FP := lowP (p.1 * q.1) (p.2 * q.2)
def divP (p q : FP) : FP := lowP (p.1 * q.2) (p.2 * q.1)
def cmpP (p q : FP) : Int := cmpN (p.1 * q.2) (q.1 * p.2)
def S16 (k : Nat) (p : FP) : Prop := (d16 p.1).length ≤ k ∧ (d16 p.2).length ≤ k
theorem d32_le16 (x : Nat) : (d32 x).length ≤ (d16 x).length := d32_len x
theorem low_size {a b k : Nat} (ha : (d16 a).length ≤ k) (hb : (d16 b).length ≤ k) : S16 k (lowP a b) :=
 ⟨Nat.le_trans (d16_mono (Nat.div_le_self ..)) ha, Nat.le_trans (d16_mono (Nat.div_le_self ..)) hb⟩
theorem gcd_size {a b k : Nat} (ha : (d16 a).length ≤ k) (hb : (d16 b).length ≤ k) : (d16 (Nat.gcd a b)).length ≤ k := by
 rcases Nat.eq_zero_or_pos b with h | h
 ·rw [h, Nat.gcd_zero_right]; exact ha
 ·exact Nat.le_trans (d16_mono (Nat.gcd_le_right a h)) hb
theorem r04_Low_eq {a b : Nat} (ha : (d16 a).length ≤ 2000000) (hb : (d16 b).length ≤ 2000000) (h0 : 0 < Nat.gcd a b) : r04_Low (d16 a, d16 b) = some (q16 (lowP a b)) := by
 have hg := gcd_size ha hb
 simp only [r04_Low, bnd, r03_Gcd_eq ha hb, Option.bind_some, r01_Div_eq ha hg h0, r01_Div_eq hb hg h0]
 rfl
theorem r04_Of_eq {a b : Nat} (ha : a ≤ 18446744073709551615) (hb : b ≤ 18446744073709551615) (h0 : 0 < Nat.gcd a b) : r04_Of (a : Int) (b : Int) = some (q16 (lowP a b)) := by
 have h1 : (d16 a).length ≤ 4 := dg_len b16 (by omega)
 have h2 : (d16 b).length ≤ 4 := dg_len b16 (by omega)
 simp only [r04_Of, bnd, r01_Of_eq ha, r01_Of_eq hb, Option.bind_some, r04_Low_eq (a := a) (b := b) (by omega) (by omega) h0]
theorem r04_Int_eq {a : Nat} (ha : a ≤ 18446744073709551615) : r04_Int (a : Int) = some (q16 (a, 1)) := by
 have h1 : r01_Of (1 : Int) = some (d16 1) := r01_Of_eq (n := 1) (by omega)
 simp only [r04_Int, bnd, r01_Of_eq ha, h1, Option.bind_some]
 rfl
section
variable {p q : FP} {k : Nat} (hp : S16 k p) (hq : S16 k q) (hk : k ≤ 400000)
include hp hq hk
theorem r04_Add_eq (h0 : 0 < Nat.gcd (p.1 * q.2 + q.1 * p.2) (p.2 * q.2)) : r04_Add (q16 p) (q16 q) = some (q16 (addP p q)) := by
 obtain ⟨p1, p2⟩ := hp
 obtain ⟨q1, q2⟩ := hq
 have m1 := d16_mul p.1 q.2
 have m2 := d16_mul q.1 p.2
 have m3 := d16_mul p.2 q.2
 have m4 := d16_add (p.1 * q.2) (q.1 * p.2)
 simp only [r04_Add, q16, bnd, r01_Mul_eq (x := p.1) (y := q.2) (by omega) (by omega), r01_Mul_eq (x := q.1) (y := p.2) (by omega) (by omega), r01_Mul_eq (x := p.2) (y := q.2) (by omega) (by omega), Option.bind_some,
  r01_Add_eq (x := p.1 * q.2) (y := q.1 * p.2) (by omega) (by omega), r04_Low_eq (a := p.1 * q.2 + q.1 * p.2) (b := p.2 * q.2) (by omega) (by omega) h0]
 rfl
omit hp hq in
theorem ratio_Make_eq {a b : Nat} (ha : (d16 a).length ≤ 2 * k + 1) (hb : (d16 b).length ≤ 2 * k + 1) (h0 : 0 < b) : ratio_Make (d32 a) (d32 b) = some (q32 (lowP a b), true) := by
 have l1 := d32_le16 a
 have l2 := d32_le16 b
 have hg0 : 0 < Nat.gcd a b := Nat.gcd_pos_of_pos_right _ h0
 have hgl : (d32 (Nat.gcd a b)).length ≤ (d32 b).length := d32_mono (Nat.gcd_le_right a h0)
 have hb0 : 0 < b / Nat.gcd a b := Nat.div_pos (Nat.gcd_le_right a h0) hg0
 have hn : ((d32 (b / Nat.gcd a b)).length : Int) ≠ 0 := fun hc => by
  have := d32_nil (x := b / Nat.gcd a b) (by omega)
  omega
 have e : (((d32 (b / Nat.gcd a b)).length : Int) == 0) = false := by simpa using hn
 simp only [ratio_Make, bnd, nat_Gcd_eq (x := a) (y := b) (by omega) (by omega), nat_Div_eq (x := a) (y := Nat.gcd a b) (by omega) (by omega) hg0, nat_Div_eq (x := b) (y := Nat.gcd a b) (by omega) (by omega) hg0, Option.bind_some, e, Bool.not_true, Bool.or_self, cond_false]
 rfl
theorem ratio_plus_eq (hp0 : 0 < p.2) (hq0 : 0 < q.2) : ratio_plus (q32 p) (q32 q) = some (q32 (addP p q)) := by
 have hpk := hp
 have hqk := hq
 obtain ⟨p1, p2⟩ := hp
 obtain ⟨q1, q2⟩ := hq
 have m1 := d16_mul p.1 q.2
 have m2 := d16_mul q.1 p.2
 have m3 := d16_mul p.2 q.2
 have m4 := d16_add (p.1 * q.2) (q.1 * p.2)
 have a1 := d32_le16 p.1
 have a2 := d32_le16 p.2
 have a3 := d32_le16 q.1
 have a4 := d32_le16 q.2
 have b1 := d32_le16 (p.1 * q.2)
 have b2 := d32_le16 (q.1 * p.2)
 simp only [ratio_plus, q32, bnd, nat_Mul_two (x := p.1) (y := q.2) (by omega) (by omega), nat_Mul_two (x := q.1) (y := p.2) (by omega) (by omega), nat_Mul_two (x := p.2) (y := q.2) (by omega) (by omega), Option.bind_some,
  nat_Add_two (x := p.1 * q.2) (y := q.1 * p.2) (by omega) (by omega), ratio_Make_eq hk (a := p.1 * q.2 + q.1 * p.2) (b := p.2 * q.2) (by omega) (by omega) (Nat.mul_pos hp0 hq0)]
 rfl
end
theorem low_val {a b : Nat} : (lowP a b).1 * b = a * (lowP a b).2 := by
 unfold lowP
 simp only
 rw [← Nat.mul_div_assoc _ (Nat.gcd_dvd_right a b), Nat.mul_comm (a / _), ← Nat.mul_div_assoc _ (Nat.gcd_dvd_left a b), Nat.mul_comm b a]
theorem low_cop {a b : Nat} (h : 0 < Nat.gcd a b) : Nat.gcd (lowP a b).1 (lowP a b).2 = 1 := by
 unfold lowP
 simp only
 rw [Nat.gcd_div (Nat.gcd_dvd_left a b) (Nat.gcd_dvd_right a b), Nat.div_self h]
theorem low_pos {a b : Nat} (h : 0 < b) : 0 < (lowP a b).2 := Nat.div_pos (Nat.gcd_le_right a h) (Nat.gcd_pos_of_pos_right _ h)
theorem low_uniq {x y a b : Nat} (hc : Nat.gcd x y = 1) (hb : 0 < b) (h : x * b = a * y) : (x, y) = lowP a b := by
 have hg : 0 < Nat.gcd a b := Nat.gcd_pos_of_pos_right _ hb
 have hc2 := low_cop hg
 have hv := low_val (a := a) (b := b)
 obtain ⟨u, hu⟩ : ∃ u, u = (lowP a b).1 := ⟨_, rfl⟩
 obtain ⟨v, hvv⟩ : ∃ v, v = (lowP a b).2 := ⟨_, rfl⟩
 rw [← hu, ← hvv] at hc2 hv
 have hv0 : 0 < v := by rw [hvv]; exact low_pos hb
 have hxv : x * v = u * y := by
  have e : b * (x * v) = b * (u * y) := by
   calc b * (x * v) = (x * b) * v := by rw [Nat.mul_left_comm, Nat.mul_assoc]
    _ = a * y * v := by rw [h]
    _ = (a * v) * y := by rw [Nat.mul_right_comm]
    _ = u * b * y := by rw [← hv]
    _ = b * (u * y) := by rw [Nat.mul_comm u b, Nat.mul_assoc]
  exact Nat.eq_of_mul_eq_mul_left hb e
 have h1 : x ∣ u := Nat.Coprime.dvd_of_dvd_mul_right (show Nat.Coprime x y from hc) (by rw [← hxv]; exact Nat.dvd_mul_right ..)
 have h2 : u ∣ x := Nat.Coprime.dvd_of_dvd_mul_right (show Nat.Coprime u v from hc2) (by rw [hxv]; exact Nat.dvd_mul_right ..)
 have hxu : x = u := Nat.dvd_antisymm h1 h2
 have h3 : y ∣ v := Nat.Coprime.dvd_of_dvd_mul_left (show Nat.Coprime y x from (Nat.gcd_comm ..).trans hc) (by rw [hxv]; exact Nat.dvd_mul_left ..)
 have h4 : v ∣ y := Nat.Coprime.dvd_of_dvd_mul_left (show Nat.Coprime v u from (Nat.gcd_comm ..).trans hc2) (by rw [← hxv]; exact Nat.dvd_mul_left ..)
 have hyv : y = v := Nat.dvd_antisymm h3 h4
 rw [hxu, hyv, hu, hvv]
def gcdF (S : Nat) (l : List Nat) : Nat := l.foldl Nat.gcd S
theorem rd_map {α β : Type} {z : β} {l : List α} {f : α → β} {i : Nat} (hi : i < l.length) : rd z (l.map f) (i : Int) = f l[i] := by
 rw [rd_eq i rfl (by rw [List.length_map]; exact hi), List.getElem_map]
def comF (d : Nat) (l : List FP) : Nat := l.foldl (fun d p => Nat.lcm d p.2) d
def comD (l : List FP) : Nat := comF 1 l
def upL (l : List FP) : List Nat := l.map fun p => comD l / p.2 * p.1
def sumP (l : List FP) : FP := l.foldl addP (0, 1)
theorem add_ok {p q : FP} (hp : 0 < p.2) (hq : 0 < q.2) : 0 < (addP p q).2 ∧ Nat.gcd (addP p q).1 (addP p q).2 = 1 :=
 ⟨low_pos (Nat.mul_pos hp hq), low_cop (Nat.gcd_pos_of_pos_right _ (Nat.mul_pos hp hq))⟩
def rv (p : FP) : Rat := (p.1 : Rat) / (p.2 : Rat)
def Lo (p : FP) : Prop := 0 < p.2 ∧ Nat.gcd p.1 p.2 = 1
theorem ncast_pos {n : Nat} (h : 0 < n) : (0 : Rat) < (n : Rat) := by exact_mod_cast h
theorem ncast_ne {n : Nat} (h : 0 < n) : (n : Rat) ≠ 0 := by have := ncast_pos h; grind
theorem rv_eq {p : FP} {a b : Nat} (hp : 0 < p.2) (hb : 0 < b) (h : p.1 * b = a * p.2) : rv p = (a : Rat) / (b : Rat) := by
 have h1 : (p.1 : Rat) * (b : Rat) = (a : Rat) * (p.2 : Rat) := by exact_mod_cast h
 have := ncast_ne hp
 have := ncast_ne hb
 unfold rv
 grind
theorem rv_low {a b : Nat} (hb : 0 < b) : rv (lowP a b) = (a : Rat) / (b : Rat) := rv_eq (low_pos hb) hb low_val
theorem Lo_low {a b : Nat} (hb : 0 < b) : Lo (lowP a b) := ⟨low_pos hb, low_cop (Nat.gcd_pos_of_pos_right _ hb)⟩
theorem rv_inj {p q : FP} (hp : Lo p) (hq : Lo q) (h : rv p = rv q) : p = q := by
 have h1 := ncast_ne hp.1
 have h2 := ncast_ne hq.1
 have h3 : (p.1 : Rat) * (q.2 : Rat) = (q.1 : Rat) * (p.2 : Rat) := by unfold rv at h; grind
 have h4 : p.1 * q.2 = q.1 * p.2 := by exact_mod_cast h3
 have e1 : p = lowP q.1 q.2 := low_uniq hp.2 hq.1 h4
 have e2 : q = lowP q.1 q.2 := low_uniq hq.2 hq.1 rfl
 rw [e1]; exact e2.symm
theorem rv_add {p q : FP} (hp : 0 < p.2) (hq : 0 < q.2) : rv (addP p q) = rv p + rv q := by
 have h1 := ncast_ne hp
 have h2 := ncast_ne hq
 unfold addP
 rw [rv_low (Nat.mul_pos hp hq)]
 unfold rv
 push_cast
 grind
theorem rv_mul {p q : FP} (hp : 0 < p.2) (hq : 0 < q.2) : rv (mulP p q) = rv p * rv q := by
 have h1 := ncast_ne hp
 have h2 := ncast_ne hq
 unfold mulP
 rw [rv_low (Nat.mul_pos hp hq)]
 unfold rv
 push_cast
 grind
theorem nat_Cut_is {a : List Int} {x : Nat} (h : Is a x) (hl : a.length ≤ 10000000) : nat_Cut a = some (d32 x) := by
 rw [nat_Cut_eq h.1 hl, h.2, Int.toNat_natCast]
section
variable {a b : List Int} {x y : Nat} (ha : Is a x) (hb : Is b y) (la : a.length ≤ 1000000) (lb : b.length ≤ 1000000)
include ha hb la lb
theorem nat_Gcd_is : nat_Gcd a b = some (d32 (Nat.gcd x y)) := by
 have h1 := ha.len
 have h2 := hb.len
 have e : nat_Gcd a b = nat_Gcd (d32 x) (d32 y) := by
  unfold nat_Gcd
  rw [nat_Cut_is ha (by omega), nat_Cut_is hb (by omega), nat_Cut_d32 (x := x) (by omega), nat_Cut_d32 (x := y) (by omega)]
 rw [e]
 exact nat_Gcd_eq (by omega) (by omega)
theorem nat_Div_is : nat_Div a b = some (if y = 0 then ([], [], false) else (d32 (x / y), d32 (x % y), true)) := by
 have h1 := ha.len
 have h2 := hb.len
 have e : nat_Div a b = nat_Div (d32 x) (d32 y) := by
  unfold nat_Div
  rw [nat_Cut_is ha (by omega), nat_Cut_is hb (by omega), nat_Cut_d32 (x := x) (by omega), nat_Cut_d32 (x := y) (by omega)]
 rw [e]
 by_cases hy : y = 0
 ·rw [if_pos hy, hy, d32_zero]
  exact nat_Div_zero (by omega)
 ·rw [if_neg hy]
  exact nat_Div_eq (by omega) (by omega) (by omega)
end
theorem d32_le16' {x : Nat} : (d32 x).length ≤ (d16 x).length := d32_len x
theorem gcd_size' {a b k : Nat} (ha : (d16 a).length ≤ k) (hb : (d16 b).length ≤ k) : (d16 (Nat.gcd a b)).length ≤ k := by
 rcases Nat.eq_zero_or_pos b with h | h
 ·rw [h, Nat.gcd_zero_right]; exact ha
 ·exact Nat.le_trans (d16_mono (Nat.gcd_le_right a h)) hb
def IsL (l : List (List Int × Nat)) : Prop := ∀ q ∈ l, Is q.1 q.2 ∧ q.1.length ≤ 10000
theorem IsL.take {l : List (List Int × Nat)} (h : IsL l) (i : Nat) : IsL (l.take i) := fun q hq => h q (List.mem_of_mem_take hq)
def NBits (x n : Nat) : Prop := x < 2 ^ n ∧ (n = 0 ∨ 2 ^ (n - 1) ≤ x)
def padr : Nat → Nat → List UInt8
 | 0, _ => []
 | k + 1, r => padr k (r / 10) ++ [UInt8.ofNat (48 + r % 10)]
def cat (l : List ByteArray) : List UInt8 := (l.reverse.map (·.data.toList)).flatten
def pv (l : List UInt8) : Nat := l.foldl (fun v c => 10 * v + (c.toNat - 48)) 0
abbrev isD (c : UInt8) : Prop := 48 ≤ c.toNat ∧ c.toNat ≤ 57
def Num (l : List UInt8) : Prop := l ≠ [] ∧ (l.getD 0 0 = 48 → l = [48]) ∧ ∀ c ∈ l, isD c
instance (l : List UInt8) : Decidable (Num l) := by unfold Num; infer_instance
theorem len16 {a : List Int} {x : Nat} (h : Is a x) : (d16 x).length ≤ 2 * a.length := by
 refine dg_len b16 ?_
 have := h.lt
 rw [Nat.pow_mul]
 exact this
theorem loop_fold' {α β σ ρ : Type} (enc : β → σ) (xs : List α) (f : σ × Int → Option ((σ × Int) ⊕ ρ)) (g : β → α → β) (I : Nat → β → Prop) {b0 : β} (h0 : I 0 b0)
  (hstep : ∀ (i : Nat) (hi : i < xs.length) (b : β), I i b → f (enc b, (i : Int)) = some (.inl (enc (g b xs[i]), (i : Int) + 1)) ∧ I (i + 1) (g b xs[i])) {Q : ρ → Prop}
  (hend : I xs.length (xs.foldl g b0) → Tot (f (enc (xs.foldl g b0), (xs.length : Int))) (fun z => ∃ r, z = .inr r ∧ Q r)) : Tot (loopM f (enc b0, 0)) Q := by
 refine Tot.loop (fun x => ∃ (i : Nat) (b : β), x.2 = (i : Int) ∧ i ≤ xs.length ∧ x.1 = enc b ∧ b = (xs.take i).foldl g b0 ∧ I i b) (fun x => ((xs.length : Int) - x.2).toNat) (fun x hx => ?_) ⟨0, b0, rfl, Nat.zero_le _, rfl, rfl, h0⟩
 obtain ⟨s, i0⟩ := x
 obtain ⟨i, b, h1, h2, h3, h4, h5⟩ := hx
 simp only at h1 h3
 subst h1 h3
 rcases Nat.lt_or_ge i xs.length with hi | hi
 ·obtain ⟨k1, k2⟩ := hstep i hi b h5
  rw [k1]
  refine Tot.some_iff.2 (Nx.inl_iff.2 ⟨⟨i + 1, g b xs[i], by simp, hi, rfl, ?_, k2⟩, by simp only; omega⟩)
  rw [List.take_succ_eq_append_getElem hi, List.foldl_append, ← h4]
  rfl
 ·have hin : i = xs.length := by omega
  subst hin
  rw [List.take_length] at h4
  subst h4
  refine (hend h5).mono fun z hz => ?_
  obtain ⟨r, rfl, hr⟩ := hz
  exact Nx.inr_iff.2 hr
theorem add_size {p q : FP} {k m : Nat} (hp : S16 k p) (hq : S16 m q) : S16 (k + m + 1) (addP p q) := by
 obtain ⟨p1, p2⟩ := hp
 obtain ⟨q1, q2⟩ := hq
 have m1 := d16_mul p.1 q.2
 have m2 := d16_mul q.1 p.2
 have m3 := d16_mul p.2 q.2
 have m4 := d16_add (p.1 * q.2) (q.1 * p.2)
 exact low_size (by omega) (by omega)
theorem S16.mono {k m : Nat} {p : FP} (h : S16 k p) (hk : k ≤ m) : S16 m p := ⟨Nat.le_trans h.1 hk, Nat.le_trans h.2 hk⟩
theorem d16_one : (d16 1).length ≤ 1 := dg_len b16 (by omega)
theorem S16_zero : S16 1 (0, 1) := ⟨by rw [d16_zero]; simp, d16_one⟩
theorem r04_Same_eq {p q : FP} (hp : S16 100000 p) (hq : S16 1000000 q) : r04_Same (q32 p) (q16 q) = some (decide (d32 p.1 = d32 q.1) && decide (d32 p.2 = d32 q.2)) := by
 obtain ⟨h1, h2⟩ := hq
 have a1 := d32_le16 p.1
 have a2 := d32_le16 p.2
 obtain ⟨k1, k2⟩ := hp
 rw [← Tot.eq_iff]
 unfold r04_Same
 show Tot ((r03_Out (d16 q.1)).bind fun y1 => (r03_Same (d32 p.1) y1).bind fun y2 => (bif y2 then r03_Out (d16 q.2) else some ([] : List Int)).bind fun y3 => (bif y2 then r03_Same (d32 p.2) y3 else some false).bind fun y4 => bnd (y2 && y4) fun x5 => some x5) _
 rw [r03_Out_eq (by omega), Option.bind_some, r03_Same_eq (d32 p.1) _ (by omega), Option.bind_some]
 cases decide (d32 p.1 = d32 q.1) with
 | false => exact Tot.some_iff.2 rfl
 | true =>
  rw [cond_true, r03_Out_eq (by omega), Option.bind_some, cond_true, r03_Same_eq (d32 p.2) _ (by omega), Option.bind_some]
  exact Tot.some_iff.2 rfl
theorem r04_Same_refl {p : FP} (hp : S16 100000 p) : r04_Same (q32 p) (q16 p) = some true := by
 rw [r04_Same_eq hp (hp.mono (by omega)), decide_eq_true rfl, decide_eq_true rfl]; rfl
theorem mul_size {p q : FP} {k m : Nat} (hp : S16 k p) (hq : S16 m q) : S16 (k + m) (mulP p q) := by
 obtain ⟨p1, p2⟩ := hp
 obtain ⟨q1, q2⟩ := hq
 have m1 := d16_mul p.1 q.1
 have m3 := d16_mul p.2 q.2
 exact low_size (by omega) (by omega)
theorem S16_is {a b : List Int} {x y : Nat} {k : Nat} (ha : Is a x) (hb : Is b y) (la : a.length ≤ k) (lb : b.length ≤ k) : S16 (2 * k) (x, y) := by
 have h1 := len16 ha
 have h2 := len16 hb
 exact ⟨by show (d16 x).length ≤ _; omega, by show (d16 y).length ≤ _; omega⟩
section
variable {n d : List Int} {a b : Nat} (hn : Is n a) (hd : Is d b) (ln : n.length ≤ 1000) (ld : d.length ≤ 1000)
include hn hd ln ld
theorem ratio_Make_is : ratio_Make n d = some (if b = 0 then (([], []), false) else (q32 (lowP a b), true)) := by
 obtain ⟨sa, sb⟩ := S16_is hn hd ln ld
 simp only at sa sb
 have hg := nat_Gcd_is hn hd (by omega) (by omega)
 have hgl := gcd_size' sa sb
 have hgl2 := d32_le16' (x := Nat.gcd a b)
 have d1 := nat_Div_is hd (Is.d32 (Nat.gcd a b)) (by omega) (by omega)
 have d2 := nat_Div_is hn (Is.d32 (Nat.gcd a b)) (by omega) (by omega)
 unfold ratio_Make
 show ((nat_Gcd n d).bind fun y2 => (nat_Div d y2).bind fun y3 => bif (!y3.2.2) || ((y3.1.length : Int) == 0) then some ((([] : List Int), ([] : List Int)), false) else (nat_Div n y2).bind fun y5 => some ((y5.1, y3.1), true)) = _
 rw [hg, Option.bind_some, d1, Option.bind_some, d2]
 by_cases hb0 : b = 0
 ·subst hb0
  rw [if_pos rfl, Nat.gcd_zero_right]
  by_cases ha0 : a = 0
  ·rw [if_pos ha0]; rfl
  ·rw [if_neg ha0, Nat.zero_div, d32_zero]; rfl
 ·have hg0 : 0 < Nat.gcd a b := Nat.gcd_pos_of_pos_right _ (by omega)
  have hq0 : 0 < b / Nat.gcd a b := Nat.div_pos (Nat.gcd_le_right a (by omega)) hg0
  have e : (((d32 (b / Nat.gcd a b)).length : Int) == 0) = false := by
   rw [beq_eq_false_iff_ne]; intro hc
   have := d32_nil (x := b / Nat.gcd a b) (by omega)
   omega
  rw [if_neg hb0, if_neg (by omega), if_neg (by omega)]
  simp only [e, Bool.not_true, Bool.or_self, cond_false, Option.bind_some]
  rfl
end
theorem ratio_Of_eq {n d : Nat} (hn : n ≤ 18446744073709551615) (hd : d ≤ 18446744073709551615) : ratio_Of (n : Int) (d : Int) = some (if d = 0 then (([], []), false) else (q32 (lowP n d), true)) := by
 have l1 : (d32 n).length ≤ 2 := dg_len b32 (by omega)
 have l2 : (d32 d).length ≤ 2 := dg_len b32 (by omega)
 unfold ratio_Of
 simp only [bnd, nat_Of_eq hn, nat_Of_eq hd, Option.bind_some, ratio_Make_is (Is.d32 n) (Is.d32 d) (by omega) (by omega)]
theorem exOf1 : nat_Of (1 : Int) = some (d32 1) := nat_Of_eq (n := 1) (by omega)
theorem exZero : ratio_Zero = some (q32 (0, 1)) := by
 unfold ratio_Zero
 rw [exOf1]
 show some (([] : List Int), d32 1) = some (d32 0, d32 1)
 rw [d32_zero]
theorem ex_one : ratio_one = some (q32 (1, 1)) := by
 unfold ratio_one
 rw [exOf1]
 rfl
theorem s16 {a b : Nat} (ha : a < 65536) (hb : b < 65536) : S16 1 (a, b) := ⟨dg_len b16 (by simp only; omega), dg_len b16 (by simp only; omega)⟩
theorem ratio_Add_eq {l : List FP} {k : Nat} (hl : l.length ≤ 10) (hk : k ≤ 1000) (hs : ∀ p ∈ l, S16 k p ∧ 0 < p.2) : ratio_Add (l.map q32) = some (q32 (sumP l)) ∧ S16 ((k + 1) * l.length + 1) (sumP l) := by
 have hint : Tot (ratio_Add (l.map q32)) (fun r => r = q32 (sumP l) ∧ S16 ((k + 1) * l.length + 1) (sumP l)) := by
  simp only [ratio_Add, bnd, exZero, Option.bind_some]
  refine loop_fold' q32 l _ addP (fun i b => S16 ((k + 1) * i + 1) b ∧ 0 < b.2) ⟨S16_zero, by show 0 < 1; omega⟩ (fun i hi b hb => ?_) (fun hb => ?_)
  ·obtain ⟨hp, hp0⟩ := hs l[i] (List.getElem_mem hi)
   have hw : IntKind.i64.wrap ((i : Int) + 1) = (i : Int) + 1 := w64 (by omega) (by omega)
   have hik : (k + 1) * i ≤ 1001 * 10 := Nat.mul_le_mul (by omega) (by omega)
   have ha := ratio_plus_eq (hb.1.mono (show (k + 1) * i + 1 ≤ 100000 by omega)) (hp.mono (show k ≤ 100000 by omega)) (by omega) hb.2 hp0
   have hok := add_ok hb.2 hp0
   refine ⟨?_, (add_size hb.1 hp).mono (by rw [Nat.mul_succ]; omega), hok.1⟩
   rw [← Tot.eq_iff]
   simp only [ratio_Add_b1, rd_map hi, ha, Option.bind_some, hw, List.length_map, cond_some, Tot.cond_iff, Tot.ass_iff, Tot.bnd_iff, Tot.some_iff, Tot.map_iff, Tot.bind_iff, Nx.inl_iff, Nx.inr_iff, decide_eq_true_eq, decide_eq_false_iff_not]
   exact ⟨fun _ => ⟨by omega, trivial⟩, fun hc => absurd (by omega) hc⟩
  ·simp only [ratio_Add_b1, ratio_Add_j1, List.length_map, cond_some, Tot.cond_iff, Tot.ass_iff, Tot.bnd_iff, Tot.some_iff, Tot.map_iff, Tot.bind_iff, Nx.inl_iff, Nx.inr_iff, decide_eq_true_eq, decide_eq_false_iff_not]
   exact ⟨fun hc => absurd hc (by omega), fun _ => ⟨_, rfl, rfl, hb.1⟩⟩
 obtain ⟨r, h1, h2, h3⟩ := hint
 rw [h2] at h1
 exact ⟨h1, h3⟩
def prodP (l : List FP) : FP := l.foldl mulP (1, 1)
theorem ratio_times_eq {p q : FP} {k : Nat} (hp : S16 k p) (hq : S16 k q) (hk : k ≤ 400000) (hp0 : 0 < p.2) (hq0 : 0 < q.2) :
  nat_Mul [(q32 p).1, (q32 q).1] = some (d32 (p.1 * q.1)) ∧ nat_Mul [(q32 p).2, (q32 q).2] = some (d32 (p.2 * q.2)) ∧ ratio_Make (d32 (p.1 * q.1)) (d32 (p.2 * q.2)) = some (q32 (mulP p q), true) := by
 obtain ⟨p1, p2⟩ := hp
 obtain ⟨q1, q2⟩ := hq
 have m1 := d16_mul p.1 q.1
 have m2 := d16_mul p.2 q.2
 have a1 := d32_le16 p.1
 have a2 := d32_le16 p.2
 have a3 := d32_le16 q.1
 have a4 := d32_le16 q.2
 exact ⟨nat_Mul_two (by omega) (by omega), nat_Mul_two (by omega) (by omega), ratio_Make_eq hk (by omega) (by omega) (Nat.mul_pos hp0 hq0)⟩
theorem ratio_Mul_eq {l : List FP} {k : Nat} (hl : l.length ≤ 10) (hk : k ≤ 1000) (hs : ∀ p ∈ l, S16 k p ∧ 0 < p.2) : ratio_Mul (l.map q32) = some (q32 (prodP l)) ∧ S16 (k * l.length + 1) (prodP l) := by
 have hint : Tot (ratio_Mul (l.map q32)) (fun r => r = q32 (prodP l) ∧ S16 (k * l.length + 1) (prodP l)) := by
  simp only [ratio_Mul, bnd, ex_one, Option.bind_some]
  refine loop_fold' q32 l _ mulP (fun i b => S16 (k * i + 1) b ∧ 0 < b.2) ⟨s16 (by omega) (by omega), by show 0 < 1; omega⟩ (fun i hi b hb => ?_) (fun hb => ?_)
  ·obtain ⟨hp, hp0⟩ := hs l[i] (List.getElem_mem hi)
   have hw : IntKind.i64.wrap ((i : Int) + 1) = (i : Int) + 1 := w64 (by omega) (by omega)
   have hik : k * i ≤ 1000 * 10 := Nat.mul_le_mul (by omega) (by omega)
   obtain ⟨t1, t2, t3⟩ := ratio_times_eq (hb.1.mono (show k * i + 1 ≤ 100000 by omega)) (hp.mono (show k ≤ 100000 by omega)) (by omega) hb.2 hp0
   refine ⟨?_, (mul_size hb.1 hp).mono (by rw [Nat.mul_succ]; omega), low_pos (Nat.mul_pos hb.2 hp0)⟩
   rw [← Tot.eq_iff]
   simp only [ratio_Mul_b1, rd_map hi, t1, t2, t3, Option.bind_some, hw, List.length_map, cond_some, Tot.cond_iff, Tot.ass_iff, Tot.bnd_iff, Tot.some_iff, Tot.map_iff, Tot.bind_iff, Nx.inl_iff, Nx.inr_iff, decide_eq_true_eq, decide_eq_false_iff_not]
   exact ⟨fun _ => ⟨by omega, trivial⟩, fun hc => absurd (by omega) hc⟩
  ·simp only [ratio_Mul_b1, ratio_Mul_j1, List.length_map, cond_some, Tot.cond_iff, Tot.ass_iff, Tot.bnd_iff, Tot.some_iff, Tot.map_iff, Tot.bind_iff, Nx.inl_iff, Nx.inr_iff, decide_eq_true_eq, decide_eq_false_iff_not]
   exact ⟨fun hc => absurd hc (by omega), fun _ => ⟨_, rfl, rfl, hb.1⟩⟩
 obtain ⟨r, h1, h2, h3⟩ := hint
 rw [h2] at h1
 exact ⟨h1, h3⟩
def Sh (l : List FP) : Prop := ∀ p ∈ l, S16 12 p ∧ 0 < p.2
theorem Lo.add {p q : FP} (hp : 0 < p.2) (hq : 0 < q.2) : Lo (addP p q) := Lo_low (Nat.mul_pos hp hq)
theorem Lo.mul {p q : FP} (hp : 0 < p.2) (hq : 0 < q.2) : Lo (mulP p q) := Lo_low (Nat.mul_pos hp hq)
theorem r04_Mul_eq {p q : FP} {k : Nat} (hp : S16 k p) (hq : S16 k q) (hk : k ≤ 400000) (h0 : 0 < Nat.gcd (p.1 * q.1) (p.2 * q.2)) : r04_Mul (q16 p) (q16 q) = some (q16 (mulP p q)) := by
 obtain ⟨p1, p2⟩ := hp
 obtain ⟨q1, q2⟩ := hq
 have m1 := d16_mul p.1 q.1
 have m2 := d16_mul p.2 q.2
 simp only [r04_Mul, q16, bnd, r01_Mul_eq (x := p.1) (y := q.1) (by omega) (by omega), r01_Mul_eq (x := p.2) (y := q.2) (by omega) (by omega), Option.bind_some,
  r04_Low_eq (a := p.1 * q.1) (b := p.2 * q.2) (by omega) (by omega) h0]
 rfl
def fq (v : Rat) : FP := (v.num.toNat, v.den)
theorem fq_lo (v : Rat) (h : 0 ≤ v) : Lo (fq v) := by
 refine ⟨v.den_pos, ?_⟩
 have := v.reduced
 have hn : v.num.natAbs = v.num.toNat := by have := Rat.num_nonneg.2 h; omega
 show Nat.gcd v.num.toNat v.den = 1
 rw [← hn]; exact this
theorem rv_fq {v : Rat} (h : 0 ≤ v) : rv (fq v) = v := by
 have hn := Rat.num_nonneg.2 h
 unfold rv fq
 simp only
 have e : ((v.num.toNat : Nat) : Rat) = ((v.num : Int) : Rat) := by
  have : ((v.num.toNat : Nat) : Int) = v.num := Int.toNat_of_nonneg hn
  exact_mod_cast this
 rw [e]
 have h2 := Rat.num_divInt_den v
 rw [Rat.divInt_eq_div] at h2
 exact_mod_cast h2
theorem rv_nonneg (p : FP) (h : 0 < p.2) : 0 ≤ rv p := by
 unfold rv
 have h1 := ncast_pos h
 have h2 : (0 : Rat) ≤ (p.1 : Rat) := by exact_mod_cast Nat.zero_le _
 refine Rat.not_lt.1 fun h3 => ?_
 rw [Rat.div_lt_iff h1] at h3
 grind
theorem fq_eq {p : FP} (hp : Lo p) {v : Rat} (h : rv p = v) : p = fq v := by
 have h0 : 0 ≤ v := h ▸ rv_nonneg p hp.1
 exact rv_inj hp (fq_lo v h0) (by rw [rv_fq h0, h])
theorem fq_add {a b : Rat} (ha : 0 ≤ a) (hb : 0 ≤ b) : addP (fq a) (fq b) = fq (a + b) :=
 fq_eq (Lo.add (fq_lo a ha).1 (fq_lo b hb).1) (by rw [rv_add (fq_lo a ha).1 (fq_lo b hb).1, rv_fq ha, rv_fq hb])
theorem fq_mul {a b : Rat} (ha : 0 ≤ a) (hb : 0 ≤ b) : mulP (fq a) (fq b) = fq (a * b) :=
 fq_eq (Lo.mul (fq_lo a ha).1 (fq_lo b hb).1) (by rw [rv_mul (fq_lo a ha).1 (fq_lo b hb).1, rv_fq ha, rv_fq hb])
theorem fq_low {a b : Nat} (hb : 0 < b) : lowP a b = fq ((a : Rat) / (b : Rat)) := fq_eq (Lo_low hb) (rv_low hb)
theorem fq_zero : fq 0 = (0, 1) := rfl
theorem fq_nat (n : Nat) : fq (n : Rat) = (n, 1) := (fq_eq (p := (n, 1)) ⟨Nat.one_pos, Nat.gcd_one_right n⟩ (by unfold rv; simp; grind)).symm
theorem fq_one : fq 1 = (1, 1) := rfl
def Bd (D B : Nat) (v : Rat) : Prop := ∃ n : Nat, n ≤ B ∧ v * (D : Rat) = (n : Rat)
theorem Bd.nonneg {D B : Nat} {v : Rat} (hD : 0 < D) (h : Bd D B v) : 0 ≤ v := by
 obtain ⟨n, _, e⟩ := h
 have h1 := ncast_pos hD
 have h2 : (0 : Rat) ≤ (n : Rat) := by exact_mod_cast Nat.zero_le _
 rcases (Rat.le_total : 0 ≤ v ∨ v ≤ 0) with h | h
 ·exact h
 ·rw [← e] at h2
  have := Rat.mul_le_mul_of_nonneg_right h (Rat.le_of_lt h1)
  have hz : v * (D : Rat) = 0 := by grind
  rcases Rat.mul_eq_zero.1 hz with h | h
  ·grind
  ·grind
theorem Bd.fq {D B : Nat} {v : Rat} (hD : 0 < D) (h : Bd D B v) : (fq v).1 ≤ B ∧ (fq v).2 ≤ D := by
 have h0 := h.nonneg hD
 obtain ⟨n, hn, e⟩ := h
 have hl := fq_lo v h0
 have hr := rv_fq h0
 have e1 := ncast_ne hl.1
 have key : ((Go.Tom.fq v).1 : Rat) * (D : Rat) = (n : Rat) * ((Go.Tom.fq v).2 : Rat) := by
  have : ((Go.Tom.fq v).1 : Rat) = v * ((Go.Tom.fq v).2 : Rat) := by
   unfold rv at hr
   grind
  rw [this]; grind
 have key' : (Go.Tom.fq v).1 * D = n * (Go.Tom.fq v).2 := by exact_mod_cast key
 have d2 : (Go.Tom.fq v).2 ∣ D := Nat.Coprime.dvd_of_dvd_mul_left (Nat.Coprime.symm hl.2) (key' ▸ Nat.dvd_mul_left ..)
 have d1 : (Go.Tom.fq v).1 ∣ n := Nat.Coprime.dvd_of_dvd_mul_right hl.2 (key' ▸ Nat.dvd_mul_right ..)
 refine ⟨?_, Nat.le_of_dvd hD d2⟩
 rcases Nat.eq_zero_or_pos n with h | h
 ·subst h
  have : (Go.Tom.fq v).1 * D = 0 := by rw [key', Nat.zero_mul]
  rcases Nat.mul_eq_zero.1 this with h | h <;> omega
 ·exact Nat.le_trans (Nat.le_of_dvd h d1) hn
theorem Bd.size {D B k : Nat} {v : Rat} (hD : 0 < D) (h : Bd D B v) (h1 : D < 65536 ^ k) (h2 : B < 65536 ^ k) : S16 k (Go.Tom.fq v) := by
 obtain ⟨a, b⟩ := h.fq hD
 exact ⟨dg_len b16 (by omega), dg_len b16 (by omega)⟩
theorem Bd.zero {D B : Nat} : Bd D B 0 := ⟨0, Nat.zero_le _, by grind⟩
theorem Bd.add {D B C : Nat} {v w : Rat} (h : Bd D B v) (h' : Bd D C w) : Bd D (B + C) (v + w) := by
 obtain ⟨n, a, e⟩ := h
 obtain ⟨m, b, f⟩ := h'
 exact ⟨n + m, by omega, by push_cast; rw [← e, ← f]; grind⟩
theorem Bd.mono {D B C : Nat} {v : Rat} (h : Bd D B v) (hl : B ≤ C) : Bd D C v := by
 obtain ⟨n, a, e⟩ := h
 exact ⟨n, by omega, e⟩
theorem Bd.up {D B k : Nat} {v : Rat} (h : Bd D B v) : Bd (D * k) (B * k) v := by
 obtain ⟨n, a, e⟩ := h
 exact ⟨n * k, Nat.mul_le_mul_right _ a, by push_cast; rw [← e]; grind⟩
theorem Bd.part {D B a b : Nat} {v : Rat} (h : Bd D B v) (hb : 0 < b) (hab : a ≤ b) : Bd (D * b) (B * b) ((a : Rat) / (b : Rat) * v) := by
 obtain ⟨n, c, e⟩ := h
 have := ncast_ne hb
 exact ⟨n * a, Nat.mul_le_mul c hab, by push_cast; rw [← e]; grind⟩
def RR (n : Int) (l : List (Int × Int)) (x y : Int) : Prop := (x, y) ∈ l ∧ 0 ≤ x ∧ x < n ∧ 0 ≤ y ∧ y < n
def Closed (n : Int) (l : List (Int × Int)) (a : Int) (out : List Bool) (p : List (Int × Int)) : Prop := ∀ x y, (x, y) ∈ p → 0 ≤ x → x < n → 0 ≤ y → y < n → (x = a ∨ rd false out x = true) → rd false out y = true
def Sound (n : Int) (l : List (Int × Int)) (a : Int) (out : List Bool) : Prop := ∀ b : Int, 0 ≤ b → b < n → rd false out b = true → Relation.TransGen (RR n l) a b
theorem count_wr {out : List Bool} {i : Int} (h0 : 0 ≤ i) (h1 : i < (out.length : Int)) (h : rd false out i = false) : (wr out i true).count false + 1 = out.count false := by
 have hlt : i.toNat < out.length := by omega
 have hget : out[i.toNat] = false := by rw [← rd_eq (z := false) (i := i) i.toNat (by omega) hlt]; exact h
 unfold wr
 rw [List.count_set hlt, hget]
 have hpos : 0 < out.count false := List.count_pos_iff.2 (by rw [← hget]; exact List.getElem_mem _)
 simp
 omega
theorem r13_Reach_tot (n : Int) (l : List (Int × Int)) (a : Int) (hn : 0 ≤ n) (hn2 : n ≤ 100000) (hl : l.length ≤ 100000) :
  Tot (r13_Reach n l a) (fun out => (out.length : Int) = n ∧ ∀ b : Int, 0 ≤ b → b < n → (rd false out b = true ↔ Relation.TransGen (RR n l) a b)) := by
 unfold r13_Reach
 simp only [cond_some, Tot.cond_iff, Tot.ass_iff, Tot.bnd_iff, Tot.some_iff, Tot.map_iff, Tot.bind_iff, Nx.inl_iff, Nx.inr_iff, decide_eq_true_eq, decide_eq_false_iff_not]
 refine ⟨⟨hn, Int.le_refl _, by unfold lim; omega⟩, ?_⟩
 refine Tot.loop (fun x => (x.1.length : Int) = n ∧ Sound n l a x.1 ∧ (x.2 = false → Closed n l a x.1 l)) (fun x => 2 * x.1.count false + (if x.2 = true then 1 else 0)) (fun x hx => ?_) ⟨by simp; omega, fun b h0 h1 hb => ?_, by simp⟩
 rotate_left
 ·exfalso
  rw [rd_eq b.toNat (by omega) (by simp; omega)] at hb
  simp at hb
 obtain ⟨out, ag⟩ := x
 simp only at hx
 obtain ⟨hlen, hs, hcl⟩ := hx
 simp only [r13_Reach_b1, r13_Reach_j1, cond_some, Tot.cond_iff, Tot.ass_iff, Tot.bnd_iff, Tot.some_iff, Tot.map_iff, Tot.bind_iff, Nx.inl_iff, Nx.inr_iff, decide_eq_true_eq, decide_eq_false_iff_not]
 refine ⟨fun hag => ?_, fun hag => ?_⟩
 ·subst hag
  refine Tot.loop (fun y => (y.1.length : Int) = n ∧ Sound n l a y.1 ∧ 0 ≤ y.2.2 ∧ y.2.2 ≤ (l.length : Int) ∧ y.1.count false ≤ out.count false ∧ (y.2.1 = true → y.1.count false < out.count false) ∧ (y.2.1 = false → Closed n l a y.1 (l.take y.2.2.toNat))) (fun y => ((l.length : Int) - y.2.2).toNat) (fun y hy => ?_)
   ⟨hlen, hs, by simp, by simp, Nat.le_refl _, by simp, fun _ x y hxy => by simp at hxy⟩
  obtain ⟨o, g, y⟩ := y
  simp only at hy
  obtain ⟨k1, k2, k3, k4, k5, k6, k7⟩ := hy
  have hw1 : IntKind.i64.wrap (y + 1) = y + 1 := w64 (by omega) (by omega)
  simp only [r13_Reach_b2, r13_Reach_j2, r13_Reach_j3, hw1, cond_some, Tot.cond_iff, Tot.ass_iff, Tot.bnd_iff, Tot.some_iff, Tot.map_iff, Tot.bind_iff, Nx.inl_iff, Nx.inr_iff, decide_eq_true_eq, decide_eq_false_iff_not]
  refine ⟨fun hylt => ⟨⟨k3, hylt⟩, ?_⟩, fun hyge => ?_⟩
  ·have htk := take_rd (z := z_r13_Arrow) k3 hylt
   have hmem := rd_mem (z := z_r13_Arrow) k3 hylt
   generalize rd z_r13_Arrow l y = e at *
   obtain ⟨u, v⟩ := e
   simp only at *
   have hm : ((l.length : Int) - (y + 1)).toNat < ((l.length : Int) - y).toNat := by omega
   have hcl1 : (g = false → (0 ≤ u → u < n → 0 ≤ v → v < n → (u = a ∨ rd false o u = true) → rd false o v = true)) → g = false → Closed n l a o (l.take (y + 1).toNat) := fun hh hg x z hxz => by
    rw [htk, List.mem_append] at hxz
    rcases hxz with hxz | hxz
    ·exact k7 hg x z hxz
    ·simp only [List.mem_singleton, Prod.mk.injEq] at hxz
     obtain ⟨rfl, rfl⟩ := hxz
     exact hh hg
   refine ⟨fun hb => ?_, fun hb => ⟨⟨k1, k2, by omega, by omega, k5, k6, hcl1 fun hg a1 a2 a3 a4 _ => ?_⟩, hm⟩, fun hb => ⟨fun hb2 => ?_, fun hb3 => ?_, fun hb3 => ⟨⟨k1, k2, by omega, by omega, k5, k6, hcl1 fun hg a1 a2 a3 a4 a5 => ?_⟩, hm⟩⟩⟩
   ·simp only [Bool.and_eq_true, Bool.or_eq_true, Bool.not_eq_true', Bool.and_eq_false_iff, Bool.or_eq_false_iff, Bool.not_eq_false', beq_iff_eq, bne_iff_ne, beq_eq_false_iff_ne, bne_eq_false_iff_eq, decide_eq_true_eq, decide_eq_false_iff_not] at hb; omega
   ·simp only [Bool.and_eq_true, Bool.or_eq_true, Bool.not_eq_true', Bool.and_eq_false_iff, Bool.or_eq_false_iff, Bool.not_eq_false', beq_iff_eq, bne_iff_ne, beq_eq_false_iff_ne, bne_eq_false_iff_eq, decide_eq_true_eq, decide_eq_false_iff_not] at hb
    rcases hb with hb | hb
    ·omega
    ·exact hb
   ·simp only [Bool.and_eq_true, Bool.or_eq_true, Bool.not_eq_true', Bool.and_eq_false_iff, Bool.or_eq_false_iff, Bool.not_eq_false', beq_iff_eq, bne_iff_ne, beq_eq_false_iff_ne, bne_eq_false_iff_eq, decide_eq_true_eq, decide_eq_false_iff_not] at hb; omega
   ·simp only [Bool.and_eq_true, Bool.or_eq_true, Bool.not_eq_true', Bool.and_eq_false_iff, Bool.or_eq_false_iff, Bool.not_eq_false', beq_iff_eq, bne_iff_ne, beq_eq_false_iff_ne, bne_eq_false_iff_eq, decide_eq_true_eq, decide_eq_false_iff_not] at hb hb3
    have hv0 : 0 ≤ v := by omega
    have hvn : v < n := by omega
    have hu0 : 0 ≤ u := by omega
    have hun : u < n := by omega
    have hcw := count_wr (out := o) hv0 (by omega) (by simpa using hb.2)
    have hRR : RR n l u v := ⟨hmem, hu0, hun, hv0, hvn⟩
    refine ⟨⟨hv0, by omega⟩, ⟨⟨by rw [wr_length]; exact k1, fun b b0 bn hbb => ?_, by omega, by omega, by omega, fun _ => by omega, by simp⟩, hm⟩⟩
    rw [rd_wr hv0 (by omega) b0] at hbb
    split at hbb
    ·rename_i hbv
     subst hbv
     rcases hb3 with rfl | hb3
     ·exact .single hRR
     ·exact .tail (k2 u hu0 hun hb3) hRR
    ·exact k2 b b0 bn hbb
   ·simp only [Bool.and_eq_true, Bool.or_eq_true, Bool.not_eq_true', Bool.and_eq_false_iff, Bool.or_eq_false_iff, Bool.not_eq_false', beq_iff_eq, bne_iff_ne, beq_eq_false_iff_ne, bne_eq_false_iff_eq, decide_eq_true_eq, decide_eq_false_iff_not] at hb3
    rcases a5 with rfl | a5
    ·exact absurd rfl hb3.1
    ·rw [hb3.2] at a5; simp at a5
  ·have hy : y = (l.length : Int) := by omega
   subst hy
   simp only [Int.toNat_natCast, List.take_length] at k7
   refine ⟨⟨k1, k2, k7⟩, ?_⟩
   cases g with
   | true => have := k6 rfl; simp; omega
   | false => simp; omega
 ·refine ⟨hlen, fun b h0 h1 => ⟨hs b h0 h1, fun ht => ?_⟩⟩
  have hcl := hcl hag
  induction ht with
  | single hr => obtain ⟨r1, r2, r3, r4, r5⟩ := hr; exact hcl _ _ r1 r2 r3 r4 r5 (.inl rfl)
  | tail hab hr ih => obtain ⟨r1, r2, r3, r4, r5⟩ := hr; exact hcl _ _ r1 r2 r3 r4 r5 (.inr (ih r2 r3))
def RingP (n : Int) (l : List (Int × Int)) : Prop := ∃ i : Int, 0 ≤ i ∧ i < n ∧ Relation.TransGen (RR n l) i i
theorem r13_Ring_tot (n : Int) (l : List (Int × Int)) (hn : 0 ≤ n) (hn2 : n ≤ 100000) (hl : l.length ≤ 100000) : Tot (r13_Ring n l) (fun b => b = true ↔ RingP n l) := by
 unfold r13_Ring
 refine Tot.loop (fun x => 0 ≤ x ∧ x ≤ n ∧ ∀ k : Int, 0 ≤ k → k < x → ¬ Relation.TransGen (RR n l) k k) (fun x => (n - x).toNat) (fun x hx => ?_) ⟨by omega, by omega, fun k _ _ => by omega⟩
 obtain ⟨h0, h1, h2⟩ := hx
 have hw1 : IntKind.i64.wrap (x + 1) = x + 1 := w64 (by omega) (by omega)
 simp only [r13_Ring_b1, r13_Ring_j1, hw1, cond_some, Tot.cond_iff, Tot.ass_iff, Tot.bnd_iff, Tot.some_iff, Tot.map_iff, Tot.bind_iff, Nx.inl_iff, Nx.inr_iff, decide_eq_true_eq, decide_eq_false_iff_not]
 refine ⟨fun hlt => ?_, fun hge => ?_⟩
 ·refine (r13_Reach_tot n l x hn hn2 hl).mono fun out hout => ?_
  obtain ⟨o1, o2⟩ := hout
  refine ⟨by omega, fun hr => ?_, fun hr => ⟨⟨by omega, by omega, fun k a b => ?_⟩, by omega⟩⟩
  ·simp only [true_iff]
   exact ⟨x, h0, hlt, (o2 x h0 hlt).1 hr⟩
  ·by_cases hkx : k = x
   ·rw [hkx]
    intro hc
    rw [(o2 x h0 hlt).2 hc] at hr
    simp at hr
   ·exact h2 k a (by omega)
 ·simp only [Bool.false_eq_true, false_iff]
  rintro ⟨i, a, b, c⟩
  exact h2 i a (by omega) c
theorem rank_of {n : Int} {l : List (Int × Int)} (h : ¬ RingP n l) : ∃ rank : Int → Nat, (∀ x, rank x ≤ n.toNat) ∧ ∀ x y, RR n l x y → rank y < rank x := by
 classical
 have hcnt : ∀ (p q : Int → Bool) (m : Nat), (∀ k : Int, 0 ≤ k → k < (m : Int) → p k = true → q k = true) → cnt p m ≤ cnt q m ∧ ((∃ k : Int, 0 ≤ k ∧ k < (m : Int) ∧ q k = true ∧ p k = false) → cnt p m < cnt q m) := by
  intro p q m
  induction m with
  | zero => intro _; exact ⟨Nat.le_refl _, fun ⟨k, a, b, _⟩ => by omega⟩
  | succ m ih =>
   intro hpq
   obtain ⟨i1, i2⟩ := ih fun k a b => hpq k a (by omega)
   have hm := hpq m (by omega) (by omega)
   simp only [cnt]
   refine ⟨by cases hp : p m <;> cases hq : q m <;> simp [hp, hq] at hm ⊢ <;> omega, fun ⟨k, a, b, c, d⟩ => ?_⟩
   by_cases hk : k = m
   ·rw [hk] at c d; rw [c, d]; simp; omega
   ·have := i2 ⟨k, a, by omega, c, d⟩
    cases hp : p m <;> cases hq : q m <;> simp [hp, hq] at hm ⊢ <;> omega
 refine ⟨fun x => cnt (fun k => decide (Relation.TransGen (RR n l) x k)) n.toNat, fun x => cnt_le, fun x y hxy => ?_⟩
 refine (hcnt _ _ n.toNat fun k a b hk => ?_).2 ⟨y, hxy.2.2.2.1, by have := hxy.2.2.2.2; have := hxy.2.2.2.1; omega, ?_, ?_⟩
 ·simp only [decide_eq_true_eq] at hk ⊢
  exact Relation.TransGen.trans (.single hxy) hk
 ·simp only [decide_eq_true_eq]
  exact .single hxy
 ·simp only [decide_eq_false_iff_not]
  exact fun hc => h ⟨y, hxy.2.2.2.1, hxy.2.2.2.2, hc⟩
theorem slices_Index_int_tot (l : List Int) (v : Int) (hl : l.length ≤ 100000) : Tot (slices_Index_int_int l v) (fun r => (r = -1 ∧ v ∉ l) ∨ (0 ≤ r ∧ r < (l.length : Int) ∧ rd 0 l r = v ∧ v ∈ l ∧ ∀ k : Int, 0 ≤ k → k < r → rd 0 l k ≠ v)) := by
 unfold slices_Index_int_int
 refine Tot.loop (fun x => 0 ≤ x ∧ x ≤ (l.length : Int) ∧ ∀ k : Int, 0 ≤ k → k < x → rd 0 l k ≠ v) (fun x => ((l.length : Int) - x).toNat) (fun x hx => ?_) ⟨by omega, by omega, fun k _ _ => by omega⟩
 obtain ⟨h0, h1, h2⟩ := hx
 have hw1 : IntKind.i64.wrap (x + 1) = x + 1 := w64 (by omega) (by omega)
 simp only [slices_Index_int_int_b1, slices_Index_int_int_j1, hw1, cond_some, Tot.cond_iff, Tot.ass_iff, Tot.bnd_iff, Tot.some_iff, Tot.map_iff, Tot.bind_iff, Nx.inl_iff, Nx.inr_iff, decide_eq_true_eq, decide_eq_false_iff_not]
 refine ⟨fun hlt => ⟨⟨h0, hlt⟩, fun he => ?_, fun he => ⟨⟨by omega, by omega, fun k a b => ?_⟩, by omega⟩⟩, fun hge => .inl ⟨by trivial, fun hv => ?_⟩⟩
 ·simp only [Bool.and_eq_true, Bool.or_eq_true, Bool.not_eq_true', Bool.and_eq_false_iff, Bool.or_eq_false_iff, Bool.not_eq_false', beq_iff_eq, bne_iff_ne, beq_eq_false_iff_ne, bne_eq_false_iff_eq, decide_eq_true_eq, decide_eq_false_iff_not] at he
  exact .inr ⟨h0, hlt, he.symm, by rw [he]; exact rd_mem h0 hlt, h2⟩
 ·simp only [Bool.and_eq_true, Bool.or_eq_true, Bool.not_eq_true', Bool.and_eq_false_iff, Bool.or_eq_false_iff, Bool.not_eq_false', beq_iff_eq, bne_iff_ne, beq_eq_false_iff_ne, bne_eq_false_iff_eq, decide_eq_true_eq, decide_eq_false_iff_not] at he
  by_cases hkx : k = x
  ·rw [hkx]; exact fun hc => he hc.symm
  ·exact h2 k a (by omega)
 ·obtain ⟨j, hj, rfl⟩ := List.getElem_of_mem hv
  exact h2 j (by omega) (by omega) (rd_eq j rfl hj)
def ThrP (s : D_api_State) (i : Int) : Prop := 0 ≤ i ∧ i < (s.2.2.1.length : Int) ∧ (rd z_api_Thread s.2.2.1 i).1 ≠ 0
def CoinP (s : D_api_State) (i : Int) : Prop := 0 ≤ i ∧ i < (s.1.length : Int) ∧ rd false s.1 i = true
def LockP (s : D_api_State) (i : Int) : Prop := 0 ≤ i ∧ i < (s.2.2.2.1.length : Int) ∧ (rd z_api_Lock s.2.2.2.1 i).1 = true
def IsP (s : D_api_State) (i st what : Int) : Prop := ThrP s i ∧ (rd z_api_Thread s.2.2.1 i).1 = st ∧ (rd z_api_Thread s.2.2.1 i).2.1 = what
def TicketOk (s : D_api_State) (t : D_api_Ticket) : Prop :=
 if t.1 = true then CoinP s t.2.1 ∧ 1 ≤ t.2.2.1 ∧ t.2.2.1 ≤ 1048576 ∧ ((t.2.2.2.1 = 0 ∧ t.2.2.2.2.1 = 0) ∨ (t.2.2.2.1 = 1 ∧ ThrP s t.2.2.2.2.1) ∨ (t.2.2.2.1 = 2 ∧ t.2.2.2.2.1 ≠ 0 ∧ CoinP s t.2.2.2.2.1))
 else t = (false, 0, 0, 0, 0, false)
def TicketsOk (s : D_api_State) : Prop :=
 (∀ k : Int, 0 ≤ k → k < (s.2.1.length : Int) → TicketOk s (rd z_api_Ticket s.2.1 k)) ∧ s.2.1.length ≤ 96 ∧ (s.2.1.length = 0 ∨ (rd z_api_Ticket s.2.1 ((s.2.1.length : Int) - 1)).1 = true)
theorem r14_Thread_tot (s : D_api_State) (i : Int) : Tot (r14_Thread s i) (fun b => b = true ↔ ThrP s i) := by
 simp only [r14_Thread, Tot.ass_iff, Tot.bnd_iff, Tot.some_iff, ThrP, Bool.and_eq_true, decide_eq_true_eq, bne_iff_ne]
 grind
theorem r14_Coin_tot (s : D_api_State) (i : Int) : Tot (r14_Coin s i) (fun b => b = true ↔ CoinP s i) := by
 simp only [r14_Coin, Tot.ass_iff, Tot.bnd_iff, Tot.some_iff, CoinP, Bool.and_eq_true, decide_eq_true_eq, bne_iff_ne]
 grind
theorem r14_Lock_tot (s : D_api_State) (i : Int) : Tot (r14_Lock s i) (fun b => b = true ↔ LockP s i) := by
 simp only [r14_Lock, Tot.ass_iff, Tot.bnd_iff, Tot.some_iff, LockP, Bool.and_eq_true, decide_eq_true_eq, bne_iff_ne]
 grind
theorem r14_Is_tot (s : D_api_State) (i st what : Int) : Tot (r14_Is s i st what) (fun b => b = true ↔ IsP s i st what) := by
 simp only [r14_Is, Tot.ass_iff, Tot.bnd_iff, Tot.some_iff, Tot.bind_iff]
 refine (r14_Thread_tot s i).mono fun b hb => ?_
 simp only [IsP, ThrP, Bool.and_eq_true, beq_iff_eq] at *
 grind
theorem r14_Thread_eq (s : D_api_State) (i : Int) : r14_Thread s i = some (@decide (ThrP s i) (Classical.propDecidable _)) := (r14_Thread_tot s i).dec
theorem r14_Coin_eq (s : D_api_State) (i : Int) : r14_Coin s i = some (@decide (CoinP s i) (Classical.propDecidable _)) := (r14_Coin_tot s i).dec
theorem r14_Lock_eq (s : D_api_State) (i : Int) : r14_Lock s i = some (@decide (LockP s i) (Classical.propDecidable _)) := (r14_Lock_tot s i).dec
theorem r14_Is_eq (s : D_api_State) (i st what : Int) : r14_Is s i st what = some (@decide (IsP s i st what) (Classical.propDecidable _)) := (r14_Is_tot s i st what).dec
theorem r14_tickets_tot (s : D_api_State) (hn : s.2.1.length ≤ 1000) : Tot (r14_tickets s) (fun b => b = true ↔ TicketsOk s) := by
 unfold r14_tickets
 refine Tot.loop (fun x => 0 ≤ x ∧ x ≤ (s.2.1.length : Int) ∧ ∀ k : Int, 0 ≤ k → k < x → TicketOk s (rd z_api_Ticket s.2.1 k)) (fun x => ((s.2.1.length : Int) - x).toNat) (fun x hx => ?_) ⟨by omega, by omega, fun k _ _ => by omega⟩
 obtain ⟨h0, h1, h2⟩ := hx
 have hw : IntKind.i64.wrap (x + 1) = x + 1 := w64 (by omega) (by omega)
 have hz : IntKind.i64.wrap ((s.2.1.length : Int) - 1) = (s.2.1.length : Int) - 1 := w64 (by omega) (by omega)
 simp only [r14_tickets_b1, r14_tickets_j1, r14_tickets_j2, r14_Thread_eq, r14_Coin_eq, cond_some, hw, hz, Tot.cond_iff, Tot.ass_iff, Tot.bnd_iff, Tot.some_iff, Tot.map_iff, Tot.bind_iff, Nx.inl_iff, Nx.inr_iff, decide_eq_true_eq, decide_eq_false_iff_not]
 refine ⟨fun hlt => ⟨⟨h0, hlt⟩, ?_⟩, fun hge => ?_⟩
 ·have hT : TicketsOk s → TicketOk s (rd z_api_Ticket s.2.1 x) := fun h => h.1 x h0 hlt
  have hk : TicketOk s (rd z_api_Ticket s.2.1 x) → ∀ k : Int, 0 ≤ k → k < x + 1 → TicketOk s (rd z_api_Ticket s.2.1 k) := fun h k a b => by
   by_cases hkx : k = x
   ·rw [hkx]; exact h
   ·exact h2 k a (by omega)
  have hm : ((s.2.1.length : Int) - (x + 1)).toNat < ((s.2.1.length : Int) - x).toNat := by omega
  generalize rd z_api_Ticket s.2.1 x = t at *
  obtain ⟨u, c, a, k, to, on⟩ := t
  simp only [TicketOk, Ty.beq] at *
  grind
 ·unfold TicketsOk
  grind
def ThreadOk (s : D_api_State) (i : Int) (t : D_api_Thread) : Prop :=
 if t.1 = 0 then t = (0, 0, 0, 0, 0) else
  ((0 < t.1 ∧ t.1 < 6 ∧ t.1 ≠ 4 ∧ t.2.1 = -1) ∨ (t.1 = 4 ∧ t.2.1 ≠ i ∧ ThrP s t.2.1) ∨ (t.1 = 6 ∧ LockP s t.2.1)) ∧
  (t.2.2.1 = -1 ∨ (t.1 ≠ 5 ∧ IsP s t.2.2.1 4 i)) ∧ ((t.2.2.2.1 = 1 ∧ t.2.2.2.2 = 1) ∨ (1 ≤ t.2.2.2.2 ∧ t.2.2.2.2 < t.2.2.2.1 ∧ t.2.2.2.1 ≤ s.2.2.2.2.2))
def runs (s : D_api_State) (k : Int) : Bool := (rd z_api_Thread s.2.2.1 k).1 == 3
def ThreadsOk (s : D_api_State) : Prop :=
 (∀ k : Int, 0 ≤ k → k < (s.2.2.1.length : Int) → ThreadOk s k (rd z_api_Thread s.2.2.1 k)) ∧ cnt (runs s) s.2.2.1.length < 2 ∧ s.2.2.1.length ≤ 32 ∧ (s.2.2.1.length = 0 ∨ (rd z_api_Thread s.2.2.1 ((s.2.2.1.length : Int) - 1)).1 ≠ 0)
theorem r14_threads_tot (s : D_api_State) (hn : s.2.2.1.length ≤ 1000) : Tot (r14_threads s) (fun b => b = true ↔ ThreadsOk s) := by
 unfold r14_threads
 refine Tot.loop (fun x => 0 ≤ x.2 ∧ x.2 ≤ (s.2.2.1.length : Int) ∧ x.1 = (cnt (runs s) x.2.toNat : Int) ∧ ∀ k : Int, 0 ≤ k → k < x.2 → ThreadOk s k (rd z_api_Thread s.2.2.1 k)) (fun x => ((s.2.2.1.length : Int) - x.2).toNat) (fun x hx => ?_) ⟨by omega, by simp, by simp [cnt], fun k _ _ => by simp at *; omega⟩
 obtain ⟨r, x⟩ := x
 simp only at hx
 obtain ⟨h0, h1, hr, h2⟩ := hx
 subst hr
 have hw : IntKind.i64.wrap (x + 1) = x + 1 := w64 (by omega) (by omega)
 have hcx := cnt_le (p := runs s) (n := x.toNat)
 have hw2 : IntKind.i64.wrap (((cnt (runs s) x.toNat : Nat) : Int) + 1) = (cnt (runs s) x.toNat : Int) + 1 := w64 (by omega) (by omega)
 have hz : IntKind.i64.wrap ((s.2.2.1.length : Int) - 1) = (s.2.2.1.length : Int) - 1 := w64 (by omega) (by omega)
 simp only [r14_threads_b1, r14_threads_j1, r14_threads_j2, r14_threads_j3, r14_Thread_eq, r14_Lock_eq, r14_Is_eq, hw, hw2, hz, cond_some, Tot.cond_iff, Tot.ass_iff, Tot.bnd_iff, Tot.some_iff, Tot.map_iff, Tot.bind_iff, Nx.inl_iff, Nx.inr_iff, decide_eq_true_eq, decide_eq_false_iff_not]
 refine ⟨fun hlt => ⟨⟨h0, hlt⟩, ?_⟩, fun hge => ?_⟩
 ·have hT : ThreadsOk s → ThreadOk s x (rd z_api_Thread s.2.2.1 x) := fun h => h.1 x h0 hlt
  have hk : ThreadOk s x (rd z_api_Thread s.2.2.1 x) → ∀ k : Int, 0 ≤ k → k < x + 1 → ThreadOk s k (rd z_api_Thread s.2.2.1 k) := fun h k a b => by
   by_cases hkx : k = x
   ·rw [hkx]; exact h
   ·exact h2 k a (by omega)
  have hm : ((s.2.2.1.length : Int) - (x + 1)).toNat < ((s.2.2.1.length : Int) - x).toNat := by omega
  have hc : ((cnt (runs s) (x + 1).toNat : Nat) : Int) = cnt (runs s) x.toNat + (if (rd z_api_Thread s.2.2.1 x).1 = 3 then 1 else 0) := by
   rw [cnt_step h0]
   by_cases h3 : (rd z_api_Thread s.2.2.1 x).1 = 3
   ·have h4 : runs s x = true := by simp [runs, h3]
    rw [h4]; simp [h3]
   ·have h4 : runs s x = false := by simp [runs, h3]
    rw [h4]; simp [h3]
  have e1 : x + 1 ≤ (s.2.2.1.length : Int) := by omega
  have e0 : 0 ≤ x + 1 := by omega
  generalize rd z_api_Thread s.2.2.1 x = t at *
  obtain ⟨st, fo, cl, q, u⟩ := t
  generalize (∀ k : Int, 0 ≤ k → k < x + 1 → ThreadOk s k (rd z_api_Thread s.2.2.1 k)) = B at *
  have hA : ThreadOk s x (st, fo, cl, q, u) ↔ if st = 0 then st = 0 ∧ fo = 0 ∧ cl = 0 ∧ q = 0 ∧ u = 0 else
   ((0 < st ∧ st < 6 ∧ st ≠ 4 ∧ fo = -1) ∨ (st = 4 ∧ fo ≠ x ∧ ThrP s fo) ∨ (st = 6 ∧ LockP s fo)) ∧
   (cl = -1 ∨ (st ≠ 5 ∧ IsP s cl 4 x)) ∧ ((q = 1 ∧ u = 1) ∨ (1 ≤ u ∧ u < q ∧ q ≤ s.2.2.2.2.2)) := by simp [ThreadOk]
  generalize ThreadOk s x (st, fo, cl, q, u) = A at *
  generalize ThreadsOk s = AA at *
  generalize ThrP s fo = C1 at *
  generalize LockP s fo = C2 at *
  generalize IsP s cl 4 x = C3 at *
  generalize s.2.2.2.2.2 = qu at *
  simp only [Ty.beq] at *
  clear h2 hw hw2 hz hcx hn h1
  by_cases hs0 : st = 0
  ·simp only [hs0, if_true] at hA
   subst hs0
   simp
   grind
  ·simp only [hs0, if_false] at hA
   have hs0' : (st == 0) = false := by simpa using hs0
   simp only [hs0', Bool.false_eq_true, false_implies, true_implies, true_and]
   have key : ∀ b : Bool, (b = true ↔ ¬ A) → ∀ Y : Prop, (A → Y) → (b = true → (False ↔ AA)) ∧ (b = false → Y) := fun b hb Y hY => ⟨fun h1 => by
    have := hb.1 h1
    simp only [false_iff]
    exact fun hc => this (hT hc), fun h1 => hY (Classical.byContradiction fun hc => by rw [hb.2 hc] at h1; simp at h1)⟩
   refine ⟨fun h3 => key _ ?_ _ fun hAA => ?_, fun h3 => key _ ?_ _ fun hAA => ?_⟩
   ·rw [hA]; grind
   ·rw [beq_iff_eq] at h3
    simp only [h3, if_true] at hc
    exact ⟨⟨e0, by omega, by omega, hk hAA⟩, hm⟩
   ·rw [hA]; grind
   ·rw [beq_eq_false_iff_ne] at h3
    simp only [h3, if_false] at hc
    exact ⟨⟨e0, by omega, by omega, hk hAA⟩, hm⟩
 ·have hx : x = (s.2.2.1.length : Int) := by omega
  subst hx
  simp only [Int.toNat_natCast]
  unfold ThreadsOk
  grind
def LockOk (s : D_api_State) (i : Int) (l : D_api_Lock) : Prop :=
 if l.1 = true then (l.2 = -1 ∨ ThrP s l.2) ∧ ∀ k : Int, 0 ≤ k → k < (s.2.2.1.length : Int) → IsP s k 6 i → l.2 ≠ -1 ∧ l.2 ≠ k else l.2 = 0
def LocksOk (s : D_api_State) : Prop :=
 (∀ k : Int, 0 ≤ k → k < (s.2.2.2.1.length : Int) → LockOk s k (rd z_api_Lock s.2.2.2.1 k)) ∧ s.2.2.2.1.length ≤ 8 ∧ (s.2.2.2.1.length = 0 ∨ (rd z_api_Lock s.2.2.2.1 ((s.2.2.2.1.length : Int) - 1)).1 = true)
theorem r14_locks_tot (s : D_api_State) (hn : s.2.2.2.1.length ≤ 1000) (hn2 : s.2.2.1.length ≤ 1000) : Tot (r14_locks s) (fun b => b = true ↔ LocksOk s) := by
 unfold r14_locks
 refine Tot.loop (fun x => 0 ≤ x ∧ x ≤ (s.2.2.2.1.length : Int) ∧ ∀ k : Int, 0 ≤ k → k < x → LockOk s k (rd z_api_Lock s.2.2.2.1 k)) (fun x => ((s.2.2.2.1.length : Int) - x).toNat) (fun x hx => ?_) ⟨by omega, by omega, fun k _ _ => by omega⟩
 obtain ⟨h0, h1, h2⟩ := hx
 have hw : IntKind.i64.wrap (x + 1) = x + 1 := w64 (by omega) (by omega)
 have hz : IntKind.i64.wrap ((s.2.2.2.1.length : Int) - 1) = (s.2.2.2.1.length : Int) - 1 := w64 (by omega) (by omega)
 simp only [r14_locks_b1, r14_locks_j1, r14_locks_j2, r14_Thread_eq, hw, hz, cond_some, Tot.cond_iff, Tot.ass_iff, Tot.bnd_iff, Tot.some_iff, Tot.map_iff, Tot.bind_iff, Nx.inl_iff, Nx.inr_iff, decide_eq_true_eq, decide_eq_false_iff_not]
 refine ⟨fun hlt => ⟨⟨h0, hlt⟩, ?_⟩, fun hge => ?_⟩
 ·have hT : LocksOk s → LockOk s x (rd z_api_Lock s.2.2.2.1 x) := fun h => h.1 x h0 hlt
  have hk : LockOk s x (rd z_api_Lock s.2.2.2.1 x) → ∀ k : Int, 0 ≤ k → k < x + 1 → LockOk s k (rd z_api_Lock s.2.2.2.1 k) := fun h k a b => by
   by_cases hkx : k = x
   ·rw [hkx]; exact h
   ·exact h2 k a (by omega)
  have hm : ((s.2.2.2.1.length : Int) - (x + 1)).toNat < ((s.2.2.2.1.length : Int) - x).toNat := by omega
  have e1 : x + 1 ≤ (s.2.2.2.1.length : Int) := by omega
  have e0 : 0 ≤ x + 1 := by omega
  generalize rd z_api_Lock s.2.2.2.1 x = t at *
  obtain ⟨us, ho⟩ := t
  simp only at *
  refine ⟨fun hu => ?_, fun hu => ⟨fun hb => ?_, fun hb => ?_⟩⟩
  ·simp only [LockOk] at *
   grind
  ·simp only [LockOk] at *
   grind
  ·have hus : us = true := by simpa using hu
   subst hus
   have hh : ho = -1 ∨ ThrP s ho := by
    simp only [Bool.and_eq_false_iff, Bool.not_eq_false', bne_eq_false_iff_eq] at hb
    by_cases hho : ho = -1
    ·exact .inl hho
    ·have h3 : (ho != -1) = true := by simpa using hho
     rcases hb with hb | hb
     ·exact absurd hb hho
     ·rw [h3] at hb
      exact .inr (by simpa using hb)
   refine Tot.loop (fun y => 0 ≤ y ∧ y ≤ (s.2.2.1.length : Int) ∧ ∀ k : Int, 0 ≤ k → k < y → IsP s k 6 x → ho ≠ -1 ∧ ho ≠ k) (fun y => ((s.2.2.1.length : Int) - y).toNat) (fun y hy => ?_) ⟨by omega, by omega, fun k _ _ => by omega⟩
   obtain ⟨g0, g1, g2⟩ := hy
   have hw3 : IntKind.i64.wrap (y + 1) = y + 1 := w64 (by omega) (by omega)
   simp only [r14_locks_b2, r14_locks_j2, r14_locks_j3, r14_Is_eq, hw, hw3, cond_some, Tot.cond_iff, Tot.ass_iff, Tot.bnd_iff, Tot.some_iff, Tot.map_iff, Tot.bind_iff, Nx.inl_iff, Nx.inr_iff, decide_eq_true_eq, decide_eq_false_iff_not]
   refine ⟨fun hylt => ⟨fun hbad => ?_, fun hgood => ⟨⟨by omega, by omega, fun k a b his => ?_⟩, by omega⟩⟩, fun hyge => ⟨⟨e0, e1, hk ?_⟩, hm⟩⟩
   ·simp only [LockOk] at *
    have hnot : ¬ LocksOk s := fun hc => by
     have := (hT hc)
     simp only [if_true] at this
     have := this.2 y g0 hylt
     grind
    simp [hnot]
   ·by_cases hky : k = y
    ·subst hky
     simp [his] at hgood
     exact hgood
    ·exact g2 k a (by omega) his
   ·simp only [LockOk, if_true]
    exact ⟨hh, fun k a b his => g2 k a (by omega) his⟩
 ·unfold LocksOk
  grind
def QueuesP (s : D_api_State) (i : Int) : Prop :=
 if (rd z_api_Thread s.2.2.1 i).1 = 4 then (rd z_api_Thread s.2.2.1 (rd z_api_Thread s.2.2.1 i).2.1).2.2.1 ≠ i else (rd z_api_Thread s.2.2.1 i).1 = 6
theorem r14_Queues_tot (s : D_api_State) (i : Int) (h0 : 0 ≤ i) (h1 : i < (s.2.2.1.length : Int)) (h4 : (rd z_api_Thread s.2.2.1 i).1 = 4 → ThrP s (rd z_api_Thread s.2.2.1 i).2.1) : Tot (r14_Queues s i) (fun b => b = true ↔ QueuesP s i) := by
 unfold ThrP at h4
 unfold QueuesP
 simp only [r14_Queues, cond_some, Tot.cond_iff, Tot.ass_iff, Tot.bnd_iff, Tot.some_iff, Tot.map_iff, Tot.bind_iff, Nx.inl_iff, Nx.inr_iff, decide_eq_true_eq, decide_eq_false_iff_not]
 grind
def inQ (s : D_api_State) (i k : Int) : Bool := rd 0 s.2.2.2.2.1 k == i
def qn (s : D_api_State) (i : Int) : Nat := cnt (inQ s i) s.2.2.2.2.1.length
def QueueOk (s : D_api_State) : Prop :=
 (∀ i : Int, 0 ≤ i → i < (s.2.2.1.length : Int) → (QueuesP s i ↔ qn s i = 1) ∧ qn s i ≤ 1 ∧ (qn s i = 1 → (rd z_api_Thread s.2.2.1 i).1 = 4 → (rd z_api_Thread s.2.2.1 (rd z_api_Thread s.2.2.1 i).2.1).1 ≠ 5)) ∧
 ∀ k : Int, 0 ≤ k → k < (s.2.2.2.2.1.length : Int) → 0 ≤ rd 0 s.2.2.2.2.1 k ∧ rd 0 s.2.2.2.2.1 k < (s.2.2.1.length : Int)
theorem r14_queue_tot (s : D_api_State) (hn : s.2.2.1.length ≤ 1000) (hq : s.2.2.2.2.1.length ≤ 1000) (h4 : ∀ i : Int, 0 ≤ i → i < (s.2.2.1.length : Int) → (rd z_api_Thread s.2.2.1 i).1 = 4 → ThrP s (rd z_api_Thread s.2.2.1 i).2.1) :
  Tot (r14_queue s) (fun b => b = true ↔ QueueOk s) := by
 unfold r14_queue
 let I1 : Int → Prop := fun i => (QueuesP s i ↔ qn s i = 1) ∧ qn s i ≤ 1 ∧ (qn s i = 1 → (rd z_api_Thread s.2.2.1 i).1 = 4 → (rd z_api_Thread s.2.2.1 (rd z_api_Thread s.2.2.1 i).2.1).1 ≠ 5)
 refine Tot.loop (fun x => 0 ≤ x ∧ x ≤ (s.2.2.1.length : Int) ∧ ∀ k : Int, 0 ≤ k → k < x → I1 k) (fun x => ((s.2.2.1.length : Int) - x).toNat) (fun x hx => ?_) ⟨by omega, by omega, fun k _ _ => by omega⟩
 obtain ⟨h0, h1, h2⟩ := hx
 have hw : IntKind.i64.wrap (x + 1) = x + 1 := w64 (by omega) (by omega)
 simp only [r14_queue_b2, cond_some, Tot.cond_iff, Tot.ass_iff, Tot.bnd_iff, Tot.some_iff, Tot.map_iff, Tot.bind_iff, Nx.inl_iff, Nx.inr_iff, decide_eq_true_eq, decide_eq_false_iff_not]
 refine ⟨fun hlt => ?_, fun hge => ?_⟩
 ·refine Tot.loop (fun y => 0 ≤ y.2 ∧ y.2 ≤ (s.2.2.2.2.1.length : Int) ∧ y.1 = (cnt (inQ s x) y.2.toNat : Int)) (fun y => ((s.2.2.2.2.1.length : Int) - y.2).toNat) (fun y hy => ?_) ⟨by omega, by simp, by simp [cnt]⟩
  obtain ⟨c, y⟩ := y
  simp only at hy
  obtain ⟨g0, g1, rfl⟩ := hy
  have hcy := cnt_le (p := inQ s x) (n := y.toNat)
  have hw1 : IntKind.i64.wrap (y + 1) = y + 1 := w64 (by omega) (by omega)
  have hw2 : IntKind.i64.wrap (((cnt (inQ s x) y.toNat : Nat) : Int) + 1) = (cnt (inQ s x) y.toNat : Int) + 1 := w64 (by omega) (by omega)
  simp only [r14_queue_b3, r14_queue_j3, r14_queue_j4, r14_queue_j5, hw, hw1, hw2, (r14_Queues_tot s x h0 hlt (h4 x h0 hlt)).dec, cond_some, Tot.cond_iff, Tot.ass_iff, Tot.bnd_iff, Tot.some_iff, Tot.map_iff, Tot.bind_iff, Nx.inl_iff, Nx.inr_iff, decide_eq_true_eq, decide_eq_false_iff_not]
  refine ⟨fun hylt => ⟨⟨g0, hylt⟩, ?_⟩, fun hyge => ?_⟩
  ·have hc : ((cnt (inQ s x) (y + 1).toNat : Nat) : Int) = cnt (inQ s x) y.toNat + (if rd 0 s.2.2.2.2.1 y = x then 1 else 0) := by
    rw [cnt_step g0]
    by_cases h3 : rd 0 s.2.2.2.2.1 y = x
    ·have h5 : inQ s x y = true := by simp [inQ, h3]
     rw [h5]; simp [h3]
    ·have h5 : inQ s x y = false := by simp [inQ, h3]
     rw [h5]; simp [h3]
   refine ⟨fun he => ?_, fun he => ?_⟩
   ·rw [beq_iff_eq] at he
    simp only [he, if_true] at hc
    exact ⟨⟨by omega, by omega, by omega⟩, by omega⟩
   ·rw [beq_eq_false_iff_ne] at he
    simp only [he, if_false] at hc
    exact ⟨⟨by omega, by omega, by omega⟩, by omega⟩
  ·have hy : y = (s.2.2.2.2.1.length : Int) := by omega
   subst hy
   have hqn : cnt (inQ s x) s.2.2.2.2.1.length = qn s x := rfl
   simp only [Int.toNat_natCast, hqn]
   have hQ : QueueOk s → I1 x := fun h => h.1 x h0 hlt
   have hI : I1 x → ∀ k : Int, 0 ≤ k → k < x + 1 → I1 k := fun h k a b => by
    by_cases hkx : k = x
    ·rw [hkx]; exact h
    ·exact h2 k a (by omega)
   have e1 : x + 1 ≤ (s.2.2.1.length : Int) := by omega
   have e0 : 0 ≤ x + 1 := by omega
   have hm : ((s.2.2.1.length : Int) - (x + 1)).toNat < ((s.2.2.1.length : Int) - x).toNat := by omega
   have hI1 : I1 x ↔ (QueuesP s x ↔ qn s x = 1) ∧ qn s x ≤ 1 ∧ (qn s x = 1 → (rd z_api_Thread s.2.2.1 x).1 = 4 → (rd z_api_Thread s.2.2.1 (rd z_api_Thread s.2.2.1 x).2.1).1 ≠ 5) := Iff.rfl
   generalize (∀ k : Int, 0 ≤ k → k < x + 1 → I1 k) = B at *
   generalize I1 x = A at *
   have h44 := h4 x h0 hlt
   unfold ThrP at h44
   generalize QueueOk s = QQ at *
   generalize QueuesP s x = QP at *
   generalize qn s x = q at *
   clear h2 h4 hw hw1 hw2 hcy
   refine ⟨fun hb => ?_, fun hb => ⟨fun _ => ⟨h0, hlt⟩, fun _ => ⟨h0, hlt⟩, fun hb2 => ?_, fun hb2 => ?_, fun hb2 => ?_⟩⟩
   ·have : ¬ A := by rw [hI1]; grind
    simp only [Bool.false_eq_true, false_iff]
    exact fun hc => this (hQ hc)
   ·simp only [Bool.and_eq_true, Bool.or_eq_true, Bool.not_eq_true', Bool.and_eq_false_iff, Bool.or_eq_false_iff, Bool.not_eq_false', beq_iff_eq, bne_iff_ne, beq_eq_false_iff_ne, bne_eq_false_iff_eq, decide_eq_true_eq, decide_eq_false_iff_not] at hb2
    exact ⟨(h44 hb2.2).1, (h44 hb2.2).2.1⟩
   ·have : ¬ A := by rw [hI1]; grind
    simp only [Bool.false_eq_true, false_iff]
    exact fun hc => this (hQ hc)
   ·refine ⟨⟨e0, e1, hI ?_⟩, hm⟩
    rw [hI1]; grind
 ·have hx : x = (s.2.2.1.length : Int) := by omega
  subst hx
  unfold r14_queue_j1
  refine Tot.loop (fun y => 0 ≤ y ∧ y ≤ (s.2.2.2.2.1.length : Int) ∧ ∀ k : Int, 0 ≤ k → k < y → 0 ≤ rd 0 s.2.2.2.2.1 k ∧ rd 0 s.2.2.2.2.1 k < (s.2.2.1.length : Int)) (fun y => ((s.2.2.2.2.1.length : Int) - y).toNat) (fun y hy => ?_) ⟨by omega, by omega, fun k _ _ => by omega⟩
  obtain ⟨g0, g1, g2⟩ := hy
  have hw1 : IntKind.i64.wrap (y + 1) = y + 1 := w64 (by omega) (by omega)
  simp only [r14_queue_b1, r14_queue_j2, hw1, cond_some, Tot.cond_iff, Tot.ass_iff, Tot.bnd_iff, Tot.some_iff, Tot.map_iff, Tot.bind_iff, Nx.inl_iff, Nx.inr_iff, decide_eq_true_eq, decide_eq_false_iff_not]
  refine ⟨fun hylt => ⟨⟨g0, hylt⟩, fun _ => ⟨g0, hylt⟩, fun hb => ?_, fun hb => ?_⟩, fun hyge => ?_⟩
  ·simp only [Bool.and_eq_true, Bool.or_eq_true, Bool.not_eq_true', Bool.and_eq_false_iff, Bool.or_eq_false_iff, Bool.not_eq_false', beq_iff_eq, bne_iff_ne, beq_eq_false_iff_ne, bne_eq_false_iff_eq, decide_eq_true_eq, decide_eq_false_iff_not] at hb
   simp only [Bool.false_eq_true, false_iff]
   intro hc
   have := hc.2 y g0 hylt
   omega
  ·simp only [Bool.and_eq_true, Bool.or_eq_true, Bool.not_eq_true', Bool.and_eq_false_iff, Bool.or_eq_false_iff, Bool.not_eq_false', beq_iff_eq, bne_iff_ne, beq_eq_false_iff_ne, bne_eq_false_iff_eq, decide_eq_true_eq, decide_eq_false_iff_not] at hb
   refine ⟨⟨by omega, by omega, fun k a b => ?_⟩, by omega⟩
   by_cases hky : k = y
   ·rw [hky]; omega
   ·exact g2 k a (by omega)
  ·simp only [true_iff]
   exact ⟨h2, fun k a b => g2 k a (by omega)⟩
def coinArr (t : D_api_Ticket) : List (Int × Int) := if t.1 = true ∧ t.2.2.2.1 = 2 then [(t.2.1, t.2.2.2.2.1)] else []
def coinArrows (s : D_api_State) : List (Int × Int) := buildL (fun k => coinArr (rd z_api_Ticket s.2.1 k)) s.2.1.length
theorem coinArr_len (t : D_api_Ticket) : (coinArr t).length ≤ 1 := by unfold coinArr; split <;> simp
theorem r14_CoinArrows_eq (s : D_api_State) (hn : s.2.1.length ≤ 100000) : r14_CoinArrows s = some (coinArrows s) := by
 rw [← Tot.eq_iff]
 unfold r14_CoinArrows
 refine Tot.loop (fun x => 0 ≤ x.2 ∧ x.2 ≤ (s.2.1.length : Int) ∧ x.1 = buildL (fun k => coinArr (rd z_api_Ticket s.2.1 k)) x.2.toNat) (fun x => ((s.2.1.length : Int) - x.2).toNat) (fun x hx => ?_) ⟨by omega, by simp, rfl⟩
 obtain ⟨acc, x⟩ := x
 simp only at hx
 obtain ⟨h0, h1, rfl⟩ := hx
 have hw1 : IntKind.i64.wrap (x + 1) = x + 1 := w64 (by omega) (by omega)
 have hlen := buildL_len (f := fun k => coinArr (rd z_api_Ticket s.2.1 k)) (c := 1) (fun k => coinArr_len _) (n := x.toNat)
 simp only [r14_CoinArrows_b1, r14_CoinArrows_j1, r14_CoinArrows_j2, hw1, cond_some, Tot.cond_iff, Tot.ass_iff, Tot.bnd_iff, Tot.some_iff, Tot.map_iff, Tot.bind_iff, Nx.inl_iff, Nx.inr_iff, decide_eq_true_eq, decide_eq_false_iff_not]
 refine ⟨fun hlt => ⟨⟨h0, hlt⟩, fun hb => ⟨?_, ⟨by omega, by omega, ?_⟩, by omega⟩, fun hb => ⟨⟨by omega, by omega, ?_⟩, by omega⟩⟩, fun hge => ?_⟩
 ·simp only [List.length_singleton]; unfold limA; omega
 ·simp only [Bool.and_eq_true, Bool.or_eq_true, Bool.not_eq_true', Bool.and_eq_false_iff, Bool.or_eq_false_iff, Bool.not_eq_false', beq_iff_eq, bne_iff_ne, beq_eq_false_iff_ne, bne_eq_false_iff_eq, decide_eq_true_eq, decide_eq_false_iff_not] at hb
  rw [buildL_step h0]
  simp [coinArr, hb]
 ·simp only [Bool.and_eq_true, Bool.or_eq_true, Bool.not_eq_true', Bool.and_eq_false_iff, Bool.or_eq_false_iff, Bool.not_eq_false', beq_iff_eq, bne_iff_ne, beq_eq_false_iff_ne, bne_eq_false_iff_eq, decide_eq_true_eq, decide_eq_false_iff_not] at hb
  rw [buildL_step h0]
  have : coinArr (rd z_api_Ticket s.2.1 x) = [] := by unfold coinArr; rw [if_neg]; grind
  rw [this, List.append_nil]
 ·have hx : x = (s.2.1.length : Int) := by omega
  subst hx
  simp [coinArrows]
def thrArr (s : D_api_State) (k : Int) (t : D_api_Thread) : List (Int × Int) := if t.1 = 4 then [(k, t.2.1)] else if t.1 = 6 then [(k, (rd z_api_Lock s.2.2.2.1 t.2.1).2)] else []
def thrArrows (s : D_api_State) : List (Int × Int) := buildL (fun k => thrArr s k (rd z_api_Thread s.2.2.1 k)) s.2.2.1.length
theorem thrArr_len (s : D_api_State) (k : Int) (t : D_api_Thread) : (thrArr s k t).length ≤ 1 := by unfold thrArr; split <;> (try split) <;> simp
theorem r14_ThreadArrows_eq (s : D_api_State) (hn : s.2.2.1.length ≤ 100000) (h6 : ∀ k : Int, 0 ≤ k → k < (s.2.2.1.length : Int) → (rd z_api_Thread s.2.2.1 k).1 = 6 → LockP s (rd z_api_Thread s.2.2.1 k).2.1) : r14_ThreadArrows s = some (thrArrows s) := by
 rw [← Tot.eq_iff]
 unfold r14_ThreadArrows
 refine Tot.loop (fun x => 0 ≤ x.2 ∧ x.2 ≤ (s.2.2.1.length : Int) ∧ x.1 = buildL (fun k => thrArr s k (rd z_api_Thread s.2.2.1 k)) x.2.toNat) (fun x => ((s.2.2.1.length : Int) - x.2).toNat) (fun x hx => ?_) ⟨by omega, by simp, rfl⟩
 obtain ⟨acc, x⟩ := x
 simp only at hx
 obtain ⟨h0, h1, rfl⟩ := hx
 have hw1 : IntKind.i64.wrap (x + 1) = x + 1 := w64 (by omega) (by omega)
 have hlen := buildL_len (f := fun k => thrArr s k (rd z_api_Thread s.2.2.1 k)) (c := 1) (fun k => thrArr_len _ _ _) (n := x.toNat)
 simp only [r14_ThreadArrows_b1, r14_ThreadArrows_j1, r14_ThreadArrows_j2, r14_ThreadArrows_j3, hw1, cond_some, Tot.cond_iff, Tot.ass_iff, Tot.bnd_iff, Tot.some_iff, Tot.map_iff, Tot.bind_iff, Nx.inl_iff, Nx.inr_iff, decide_eq_true_eq, decide_eq_false_iff_not]
 refine ⟨fun hlt => ⟨⟨h0, hlt⟩, fun hb => ⟨?_, fun hb2 => ?_, fun hb2 => ⟨⟨by omega, by omega, ?_⟩, by omega⟩⟩, fun hb => ⟨fun hb2 => ⟨?_, ?_, ⟨by omega, by omega, ?_⟩, by omega⟩, fun hb2 => ⟨⟨by omega, by omega, ?_⟩, by omega⟩⟩⟩, fun hge => ?_⟩
 ·simp only [List.length_singleton]; unfold limA; omega
 ·simp only [Bool.and_eq_true, Bool.or_eq_true, Bool.not_eq_true', Bool.and_eq_false_iff, Bool.or_eq_false_iff, Bool.not_eq_false', beq_iff_eq, bne_iff_ne, beq_eq_false_iff_ne, bne_eq_false_iff_eq, decide_eq_true_eq, decide_eq_false_iff_not] at hb hb2; omega
 ·simp only [Bool.and_eq_true, Bool.or_eq_true, Bool.not_eq_true', Bool.and_eq_false_iff, Bool.or_eq_false_iff, Bool.not_eq_false', beq_iff_eq, bne_iff_ne, beq_eq_false_iff_ne, bne_eq_false_iff_eq, decide_eq_true_eq, decide_eq_false_iff_not] at hb
  rw [buildL_step h0]
  simp [thrArr, hb]
 ·simp only [Bool.and_eq_true, Bool.or_eq_true, Bool.not_eq_true', Bool.and_eq_false_iff, Bool.or_eq_false_iff, Bool.not_eq_false', beq_iff_eq, bne_iff_ne, beq_eq_false_iff_ne, bne_eq_false_iff_eq, decide_eq_true_eq, decide_eq_false_iff_not] at hb2
  have := h6 x h0 hlt hb2
  exact ⟨this.1, this.2.1⟩
 ·simp only [List.length_singleton]; unfold limA; omega
 ·simp only [Bool.and_eq_true, Bool.or_eq_true, Bool.not_eq_true', Bool.and_eq_false_iff, Bool.or_eq_false_iff, Bool.not_eq_false', beq_iff_eq, bne_iff_ne, beq_eq_false_iff_ne, bne_eq_false_iff_eq, decide_eq_true_eq, decide_eq_false_iff_not] at hb2
  rw [buildL_step h0]
  simp [thrArr, hb2]
 ·simp only [Bool.and_eq_true, Bool.or_eq_true, Bool.not_eq_true', Bool.and_eq_false_iff, Bool.or_eq_false_iff, Bool.not_eq_false', beq_iff_eq, bne_iff_ne, beq_eq_false_iff_ne, bne_eq_false_iff_eq, decide_eq_true_eq, decide_eq_false_iff_not] at hb hb2
  rw [buildL_step h0]
  simp [thrArr, hb, hb2]
 ·have hx : x = (s.2.2.1.length : Int) := by omega
  subst hx
  simp [thrArrows]
def SmallP (s : D_api_State) : Prop := s.1.length ≤ 40 ∧ s.2.1.length ≤ 200 ∧ s.2.2.1.length ≤ 80 ∧ s.2.2.2.1.length ≤ 40 ∧ s.2.2.2.2.1.length ≤ 100
theorem r14_Small_tot (s : D_api_State) : Tot (r14_Small s) (fun b => b = true ↔ SmallP s) := by
 simp only [r14_Small, SmallP, cond_some, Tot.cond_iff, Tot.ass_iff, Tot.bnd_iff, Tot.some_iff, Tot.map_iff, Tot.bind_iff, Nx.inl_iff, Nx.inr_iff, decide_eq_true_eq, decide_eq_false_iff_not, Bool.and_eq_true]
 omega
structure FineP (s : D_api_State) : Prop where
 q1 : 1 ≤ s.2.2.2.2.2
 q2 : s.2.2.2.2.2 ≤ 1000
 c1 : 1 ≤ s.1.length
 c2 : s.1.length ≤ 16
 first : rd false s.1 0 = true
 last : rd false s.1 ((s.1.length : Int) - 1) = true
 tickets : TicketsOk s
 threads : ThreadsOk s
 locks : LocksOk s
 queue : QueueOk s
 coinRing : ¬ RingP s.1.length (coinArrows s)
 thrRing : ¬ RingP s.2.2.1.length (thrArrows s)
theorem ThreadsOk.calls {s : D_api_State} (h : ThreadsOk s) (i : Int) (h0 : 0 ≤ i) (h1 : i < (s.2.2.1.length : Int)) (h4 : (rd z_api_Thread s.2.2.1 i).1 = 4) : (rd z_api_Thread s.2.2.1 i).2.1 ≠ i ∧ ThrP s (rd z_api_Thread s.2.2.1 i).2.1 := by
 have := h.1 i h0 h1
 unfold ThreadOk at this
 rw [if_neg (by omega)] at this
 obtain ⟨h | h | h, _⟩ := this
 ·omega
 ·exact h.2
 ·omega
theorem ThreadsOk.waits {s : D_api_State} (h : ThreadsOk s) (i : Int) (h0 : 0 ≤ i) (h1 : i < (s.2.2.1.length : Int)) (h4 : (rd z_api_Thread s.2.2.1 i).1 = 6) : LockP s (rd z_api_Thread s.2.2.1 i).2.1 := by
 have := h.1 i h0 h1
 unfold ThreadOk at this
 rw [if_neg (by omega)] at this
 obtain ⟨h | h | h, _⟩ := this
 ·omega
 ·omega
 ·exact h.2
theorem r14_Fine_tot (s : D_api_State) (hs : SmallP s) : Tot (r14_Fine s) (fun b => b = true ↔ FineP s) := by
 obtain ⟨s1, s2, s3, s4, s5⟩ := hs
 have hz : IntKind.i64.wrap ((s.1.length : Int) - 1) = (s.1.length : Int) - 1 := w64 (by omega) (by omega)
 have hca := buildL_len (f := fun k => coinArr (rd z_api_Ticket s.2.1 k)) (c := 1) (fun k => coinArr_len _) (n := s.2.1.length)
 have hta := buildL_len (f := fun k => thrArr s k (rd z_api_Thread s.2.2.1 k)) (c := 1) (fun k => thrArr_len _ _ _) (n := s.2.2.1.length)
 have hR := (r13_Ring_tot (s.1.length : Int) (coinArrows s) (by omega) (by omega) (by show (buildL _ _).length ≤ _; omega)).dec
 have hR2 := (r13_Ring_tot (s.2.2.1.length : Int) (thrArrows s) (by omega) (by omega) (by show (buildL _ _).length ≤ _; omega)).dec
 simp only [r14_Fine, hz, (r14_tickets_tot s (by omega)).dec, (r14_threads_tot s (by omega)).dec, (r14_locks_tot s (by omega) (by omega)).dec, r14_CoinArrows_eq s (by omega), hR, cond_some, Tot.cond_iff, Tot.ass_iff, Tot.bnd_iff, Tot.some_iff, Tot.map_iff, Tot.bind_iff, Nx.inl_iff, Nx.inr_iff, decide_eq_true_eq, decide_eq_false_iff_not]
 refine ⟨fun h => ?_, fun h => ?_, fun h => ?_, fun h => ?_⟩
 ·simp only [Bool.and_eq_true, Bool.or_eq_true, Bool.not_eq_true', Bool.and_eq_false_iff, Bool.or_eq_false_iff, Bool.not_eq_false', beq_iff_eq, bne_iff_ne, beq_eq_false_iff_ne, bne_eq_false_iff_eq, decide_eq_true_eq, decide_eq_false_iff_not] at h; omega
 ·simp only [Bool.and_eq_true, Bool.or_eq_true, Bool.not_eq_true', Bool.and_eq_false_iff, Bool.or_eq_false_iff, Bool.not_eq_false', beq_iff_eq, bne_iff_ne, beq_eq_false_iff_ne, bne_eq_false_iff_eq, decide_eq_true_eq, decide_eq_false_iff_not] at h; omega
 ·simp only [Bool.false_eq_true, false_iff]
  intro hf
  obtain ⟨a, b, c, d, e, f, _⟩ := hf
  simp only [Bool.and_eq_true, Bool.or_eq_true, Bool.not_eq_true', Bool.and_eq_false_iff, Bool.or_eq_false_iff, Bool.not_eq_false', beq_iff_eq, bne_iff_ne, beq_eq_false_iff_ne, bne_eq_false_iff_eq, decide_eq_true_eq, decide_eq_false_iff_not] at h
  rcases h with ((((h | h) | h) | h) | h) | h
  ·omega
  ·omega
  ·omega
  ·omega
  ·rw [e] at h; simp at h
  ·rw [f] at h; simp at h
 ·simp only [Bool.and_eq_true, Bool.or_eq_true, Bool.not_eq_true', Bool.and_eq_false_iff, Bool.or_eq_false_iff, Bool.not_eq_false', beq_iff_eq, bne_iff_ne, beq_eq_false_iff_ne, bne_eq_false_iff_eq, decide_eq_true_eq, decide_eq_false_iff_not] at h
  by_cases hT : TicketsOk s
  ·by_cases hTh : ThreadsOk s
   ·by_cases hL : LocksOk s
    ·have hq := (r14_queue_tot s (by omega) (by omega) fun i h0 h1 h4 => (hTh.calls i h0 h1 h4).2).dec
     rw [hq, r14_ThreadArrows_eq s (by omega) fun k h0 h1 h6 => hTh.waits k h0 h1 h6]
     by_cases hQ : QueueOk s
     ·by_cases hC : RingP s.1.length (coinArrows s)
      ·simp [hT, hTh, hL, hQ, hC, Tot.some_iff]
       exact fun hf => hf.coinRing hC
      ·simp only [hT, hTh, hL, hQ, hC, hR2, Tot.some_iff, decide_true, decide_false, cond_true, cond_false, Bool.not_true, Bool.not_false, Bool.or_false, Bool.false_eq_true, Bool.true_eq_false, false_implies, true_implies, true_and, and_true, Bool.true_and, Bool.not_eq_true', decide_eq_false_iff_not]
       refine ⟨fun hr => ⟨by omega, by omega, by omega, by omega, h.1.2, h.2, hT, hTh, hL, hQ, hC, hr⟩, fun hf => hf.thrRing⟩
     ·simp [hT, hTh, hL, hQ, Tot.some_iff]
      exact fun hf => hQ hf.queue
    ·simp [hT, hTh, hL, Tot.some_iff]
     exact fun hf => hL hf.locks
   ·simp [hT, hTh, Tot.some_iff]
    exact fun hf => hTh hf.threads
  ·simp [hT, Tot.some_iff]
   exact fun hf => hT hf.tickets
instance (s : D_api_State) (i : Int) : Decidable (ThrP s i) := by unfold ThrP; infer_instance
instance (s : D_api_State) (i : Int) : Decidable (LockP s i) := by unfold LockP; infer_instance
instance (s : D_api_State) (i : Int) : Decidable (CoinP s i) := by unfold CoinP; infer_instance
def thrOf (s : D_api_State) (i : Int) : D_api_Thread × Bool := if ThrP s i then (rd z_api_Thread s.2.2.1 i, true) else ((0, 0, 0, 0, 0), false)
def lockOf (s : D_api_State) (i : Int) : D_api_Lock × Bool := if LockP s i then (rd z_api_Lock s.2.2.2.1 i, true) else ((false, 0), false)
theorem state_Thread_eq (s : D_api_State) (i : Int) : state_Thread s i = some (thrOf s i) := by
 rw [← Tot.eq_iff]
 simp only [state_Thread, state_get_api_Thread, state_threadUsed, thrOf, ThrP, cond_some, Tot.cond_iff, Tot.ass_iff, Tot.bnd_iff, Tot.some_iff, Tot.map_iff, Tot.bind_iff, Nx.inl_iff, Nx.inr_iff, decide_eq_true_eq, decide_eq_false_iff_not]
 grind
theorem state_Lock_eq (s : D_api_State) (i : Int) : state_Lock s i = some (lockOf s i) := by
 rw [← Tot.eq_iff]
 simp only [state_Lock, state_get_api_Lock, state_lockUsed, lockOf, LockP, cond_some, Tot.cond_iff, Tot.ass_iff, Tot.bnd_iff, Tot.some_iff, Tot.map_iff, Tot.bind_iff, Nx.inl_iff, Nx.inr_iff, decide_eq_true_eq, decide_eq_false_iff_not]
 grind
def nxt (s : D_api_State) (i : Int) : Int :=
 if (thrOf s i).1.1 = 4 then (thrOf s i).1.2.1 else if (thrOf s i).1.1 = 6 then (lockOf s (thrOf s i).1.2.1).1.2 else -1
theorem chain_Next_eq (s : D_api_State) (i : Int) : chain_Next s i = some (nxt s i) := by
 rw [← Tot.eq_iff]
 simp only [chain_Next, state_Thread_eq, state_Lock_eq, nxt, cond_some, Tot.cond_iff, Tot.ass_iff, Tot.bnd_iff, Tot.some_iff, Tot.map_iff, Tot.bind_iff, Nx.inl_iff, Nx.inr_iff, decide_eq_true_eq, decide_eq_false_iff_not]
 grind
theorem nxt_none {s : D_api_State} {i : Int} (h : ¬ ThrP s i) : nxt s i = -1 := by simp [nxt, thrOf, h]
def Chn (s : D_api_State) : Prop := ∃ rank : Int → Nat, (∀ x, rank x ≤ 32) ∧ ∀ i, ThrP s i → nxt s i = -1 ∨ (ThrP s (nxt s i) ∧ rank (nxt s i) < rank i)
theorem mem_thrArrows {s : D_api_State} {x y : Int} : (x, y) ∈ thrArrows s ↔ ThrP s x ∧ (((rd z_api_Thread s.2.2.1 x).1 = 4 ∧ y = (rd z_api_Thread s.2.2.1 x).2.1) ∨ ((rd z_api_Thread s.2.2.1 x).1 = 6 ∧ y = (rd z_api_Lock s.2.2.2.1 (rd z_api_Thread s.2.2.1 x).2.1).2)) := by
 unfold thrArrows ThrP
 rw [mem_buildL]
 constructor
 ·rintro ⟨k, h0, h1, hm⟩
  unfold thrArr at hm
  split at hm
  ·simp only [List.mem_singleton, Prod.mk.injEq] at hm
   obtain ⟨rfl, rfl⟩ := hm
   exact ⟨⟨h0, h1, by omega⟩, by grind⟩
  ·split at hm
   ·simp only [List.mem_singleton, Prod.mk.injEq] at hm
    obtain ⟨rfl, rfl⟩ := hm
    exact ⟨⟨h0, h1, by omega⟩, by grind⟩
   ·simp at hm
 ·rintro ⟨⟨h0, h1, h2⟩, h⟩
  refine ⟨x, h0, h1, ?_⟩
  unfold thrArr
  rcases h with ⟨h, rfl⟩ | ⟨h, rfl⟩
  ·rw [if_pos h]; simp
  ·rw [if_neg (by omega), if_pos h]; simp
theorem FineP.nxt_thr {s : D_api_State} (h : FineP s) {i : Int} (hi : ThrP s i) : nxt s i = -1 ∨ ThrP s (nxt s i) := by
 unfold nxt
 simp only [thrOf, if_pos hi]
 obtain ⟨h0, h1, h2⟩ := hi
 split
 ·rename_i h4; exact .inr (h.threads.calls i h0 h1 h4).2
 ·split
  ·rename_i h6
   have hl := h.threads.waits i h0 h1 h6
   have hlo := hl
   unfold lockOf
   rw [if_pos hl]
   obtain ⟨l0, l1, l2⟩ := hl
   have := h.locks.1 _ l0 l1
   unfold LockOk at this
   rw [if_pos l2] at this
   rcases this.1 with g | g
   ·exact .inl g
   ·exact .inr g
  ·exact .inl rfl
theorem FineP.nxt_arr {s : D_api_State} (h : FineP s) {x y : Int} (hxy : (x, y) ∈ thrArrows s) : ThrP s x ∧ y = nxt s x := by
 obtain ⟨hx, hh⟩ := mem_thrArrows.1 hxy
 refine ⟨hx, ?_⟩
 unfold nxt
 simp only [thrOf, if_pos hx]
 rcases hh with ⟨h4, rfl⟩ | ⟨h6, rfl⟩
 ·rw [if_pos h4]
 ·rw [if_neg (by omega), if_pos h6]
  have hl := h.threads.waits x hx.1 hx.2.1 h6
  rw [lockOf, if_pos hl]
theorem FineP.arr_nxt {s : D_api_State} (h : FineP s) {x : Int} (hx : ThrP s x) (hn : nxt s x ≠ -1) : (x, nxt s x) ∈ thrArrows s := by
 rw [mem_thrArrows]
 refine ⟨hx, ?_⟩
 unfold nxt at hn ⊢
 simp only [thrOf, if_pos hx] at hn ⊢
 by_cases h4 : (rd z_api_Thread s.2.2.1 x).1 = 4
 ·left; simp [h4]
 ·by_cases h6 : (rd z_api_Thread s.2.2.1 x).1 = 6
  ·right
   have hl := h.threads.waits x hx.1 hx.2.1 h6
   simp [h6, lockOf, hl]
  ·simp [h4, h6] at hn
theorem FineP.rr {s : D_api_State} (h : FineP s) {x y : Int} : RR s.2.2.1.length (thrArrows s) x y ↔ ThrP s x ∧ ThrP s y ∧ y = nxt s x := by
 constructor
 ·rintro ⟨h1, h2, h3, h4, h5⟩
  obtain ⟨k1, rfl⟩ := h.nxt_arr h1
  rcases h.nxt_thr k1 with k | k
  ·omega
  ·exact ⟨k1, k, rfl⟩
 ·rintro ⟨h1, h2, rfl⟩
  exact ⟨h.arr_nxt h1 (by have := h2.1; omega), h1.1, h1.2.1, h2.1, h2.2.1⟩
theorem FineP.chn {s : D_api_State} (h : FineP s) : Chn s := by
 obtain ⟨rank, hr, hd⟩ := rank_of h.thrRing
 refine ⟨rank, fun x => ?_, fun i hi => ?_⟩
 ·have := hr x
  have := h.threads.2.2.1
  simp only [Int.toNat_natCast] at *
  omega
 ·rcases h.nxt_thr hi with k | k
  ·exact .inl k
  ·exact .inr ⟨k, hd _ _ (h.rr.2 ⟨hi, k, rfl⟩)⟩
def tailF (s : D_api_State) : Nat → Int → List Int
 | 0, _ => []
 | k + 1, i => if nxt s i = -1 then [i] else i :: tailF s k (nxt s i)
def tl (s : D_api_State) (i : Int) : List Int := if ThrP s i then tailF s 33 i else []
theorem tail_stable {s : D_api_State} {rank : Int → Nat} (hr : ∀ i, ThrP s i → nxt s i = -1 ∨ (ThrP s (nxt s i) ∧ rank (nxt s i) < rank i)) : ∀ (k m : Nat) (i : Int), ThrP s i → rank i < k → k ≤ m → tailF s k i = tailF s m i
 | 0, m, i, _, h, _ => by omega
 | k + 1, m, i, hi, h, hm => by
  obtain ⟨m, rfl⟩ : ∃ m', m = m' + 1 := ⟨m - 1, by omega⟩
  simp only [tailF]
  split
  ·rfl
  ·rcases hr i hi with hn | ⟨hn, hlt⟩
   ·contradiction
   ·rw [tail_stable hr k m _ hn (by omega) (by omega)]
theorem tl_eq {s : D_api_State} (h : Chn s) {i : Int} (hi : ThrP s i) : tl s i = if nxt s i = -1 then [i] else i :: tl s (nxt s i) := by
 obtain ⟨rank, hb, hr⟩ := h
 unfold tl
 rw [if_pos hi]
 have : tailF s 33 i = if nxt s i = -1 then [i] else i :: tailF s 32 (nxt s i) := rfl
 rw [this]
 split
 ·rfl
 ·rcases hr i hi with hn | ⟨hn, hlt⟩
  ·contradiction
  ·rw [if_pos hn, tail_stable hr 32 33 _ hn (by have := hb i; omega) (by omega)]
theorem tl_ind {s : D_api_State} (h : Chn s) {C : Int → Prop} (hC : ∀ i, ThrP s i → (nxt s i ≠ -1 → ThrP s (nxt s i) ∧ C (nxt s i)) → C i) {i : Int} (hi : ThrP s i) : C i := by
 obtain ⟨rank, hb, hr⟩ := h
 have key : ∀ n i, rank i < n → ThrP s i → C i := by
  intro n
  induction n with
  | zero => intro i h; omega
  | succ n ih =>
   intro i hlt hi
   refine hC i hi fun hn => ?_
   rcases hr i hi with hn' | ⟨hn', hlt'⟩
   ·contradiction
   ·exact ⟨hn', ih _ (by omega) hn'⟩
 exact key _ i (Nat.lt_succ_self _) hi
theorem tl_len {s : D_api_State} (h : Chn s) (i : Int) : (tl s i).length ≤ 33 := by
 unfold tl
 split
 ·have : ∀ k i, (tailF s k i).length ≤ k := by
   intro k
   induction k with
   | zero => intro i; simp [tailF]
   | succ k ih =>
    intro i; simp only [tailF]; split
    ·simp
    ·have := ih (nxt s i); simp; omega
  exact this 33 i
 ·simp
theorem chain_Tail_eq {s : D_api_State} (h : Chn s) (i : Int) : chain_Tail s i = some (tl s i) := by
 rw [← Tot.eq_iff]
 simp only [chain_Tail, state_Thread_eq, cond_some, Tot.cond_iff, Tot.ass_iff, Tot.bnd_iff, Tot.some_iff, Tot.map_iff, Tot.bind_iff, Nx.inl_iff, Nx.inr_iff, decide_eq_true_eq, decide_eq_false_iff_not]
 by_cases hi : ThrP s i
 rotate_left
 ·simp [thrOf, hi, tl]
 simp only [thrOf, if_pos hi, Bool.not_true, Bool.false_eq_true, false_implies, true_implies, true_and]
 have hne : ∀ {j}, ThrP s j → j ≠ -1 := fun hj => by have := hj.1; omega
 obtain ⟨rank, hb, hr⟩ := id h
 refine Tot.loop (fun x => (x.1 = -1 ∨ ThrP s x.1) ∧ x.2 ++ (if x.1 = -1 then [] else tl s x.1) = tl s i) (fun x => if x.1 = -1 then 0 else rank x.1 + 1) (fun x hx => ?_) ⟨.inr hi, by simp [hne hi]⟩
 obtain ⟨j, acc⟩ := x
 simp only at hx
 obtain ⟨h1, h2⟩ := hx
 have hlen := congrArg List.length h2
 have := tl_len h i
 rw [List.length_append] at hlen
 simp only [chain_Tail_b1, chain_Tail_j1, chain_Next_eq, cond_some, Tot.cond_iff, Tot.ass_iff, Tot.bnd_iff, Tot.some_iff, Tot.map_iff, Tot.bind_iff, Nx.inl_iff, Nx.inr_iff, decide_eq_true_eq, decide_eq_false_iff_not]
 refine ⟨fun hj => ?_, fun hj => ?_⟩
 ·simp only [Bool.and_eq_true, Bool.or_eq_true, Bool.not_eq_true', Bool.and_eq_false_iff, Bool.or_eq_false_iff, Bool.not_eq_false', beq_iff_eq, bne_iff_ne, beq_eq_false_iff_ne, bne_eq_false_iff_eq, decide_eq_true_eq, decide_eq_false_iff_not] at hj
  have hjt : ThrP s j := by
   rcases h1 with h1 | h1
   ·contradiction
   ·exact h1
  have ht := tl_eq h hjt
  simp only [hj, if_false] at h2 hlen
  refine ⟨by simp only [List.length_singleton]; unfold limA; rw [ht] at hlen; split at hlen <;> simp at hlen <;> omega, ⟨?_, ?_⟩, ?_⟩
  ·rcases hr j hjt with hn | ⟨hn, _⟩
   ·exact .inl hn
   ·exact .inr hn
  ·rw [← h2, ht]
   split <;> simp
  ·simp only [hj, if_false]
   rcases hr j hjt with hn | ⟨hn, hlt⟩
   ·simp [hn]
   ·simp only [hne hn, if_false]; omega
 ·simp only [Bool.and_eq_true, Bool.or_eq_true, Bool.not_eq_true', Bool.and_eq_false_iff, Bool.or_eq_false_iff, Bool.not_eq_false', beq_iff_eq, bne_iff_ne, beq_eq_false_iff_ne, bne_eq_false_iff_eq, decide_eq_true_eq, decide_eq_false_iff_not] at hj
  subst hj
  simpa using h2
def endOf (l : List Int) : Int := if l.length = 0 then -1 else rd 0 l ((l.length : Int) - 1)
theorem end_bits {l : List Int} (h : l.length ≤ 1000) : IntKind.i64.wrap ((l.length : Int) - 1) = (l.length : Int) - 1 := w64 (by omega) (by omega)
theorem endOf_cons {a : Int} {l : List Int} (h : l ≠ []) : endOf (a :: l) = endOf l := by
 have hl : 0 < l.length := List.length_pos_iff.2 h
 unfold endOf
 rw [if_neg (by simp), if_neg (by omega), rd_eq l.length (by simp) (by simp), rd_eq (l.length - 1) (by omega) (by omega)]
 rw [List.getElem_cons]
 rw [dif_neg (by omega)]
theorem tl_ne {s : D_api_State} (h : Chn s) {i : Int} (hi : ThrP s i) : tl s i ≠ [] := by
 rw [tl_eq h hi]; split <;> simp
theorem end_thr {s : D_api_State} (h : Chn s) {i : Int} (hi : ThrP s i) : ThrP s (endOf (tl s i)) ∧ nxt s (endOf (tl s i)) = -1 := by
 refine tl_ind h (C := fun i => ThrP s (endOf (tl s i)) ∧ nxt s (endOf (tl s i)) = -1) (fun i hi ih => ?_) hi
 rw [tl_eq h hi]
 split
 ·rename_i hn
  have : endOf [i] = i := by simp [endOf, rd]
  rw [this]; exact ⟨hi, hn⟩
 ·rename_i hn
  obtain ⟨hn1, ih⟩ := ih hn
  rw [endOf_cons (tl_ne h hn1)]
  exact ih
theorem end_neg {s : D_api_State} {i : Int} (hi : ¬ ThrP s i) : endOf (tl s i) = -1 := by simp [tl, hi, endOf]
theorem mem_tl_thr {s : D_api_State} (h : Chn s) {i k : Int} (hk : i ∈ tl s k) : ThrP s k ∧ ThrP s i := by
 by_cases hkt : ThrP s k
 ·refine ⟨hkt, ?_⟩
  revert hk
  refine tl_ind h (C := fun k => i ∈ tl s k → ThrP s i) (fun k hkt ih => ?_) hkt
  rw [tl_eq h hkt]
  split
  ·intro hm; simp only [List.mem_singleton] at hm; subst hm; exact hkt
  ·rename_i hn
   intro hm
   rcases List.mem_cons.1 hm with rfl | hm
   ·exact hkt
   ·exact (ih hn).2 hm
 ·simp [tl, hkt] at hk
def livesB (s : D_api_State) (i : Int) : Bool := (thrOf s (endOf (tl s i))).1.1 == 2 || (thrOf s (endOf (tl s i))).1.1 == 3
theorem chain_End_eq {s : D_api_State} (h : Chn s) (i : Int) : chain_End s i = some (endOf (tl s i)) := by
 rw [← Tot.eq_iff]
 have := tl_len h i
 simp only [chain_End, chain_Tail_eq h, end_bits (show (tl s i).length ≤ 1000 by omega), endOf, cond_some, Tot.cond_iff, Tot.ass_iff, Tot.bnd_iff, Tot.some_iff, Tot.map_iff, Tot.bind_iff, Nx.inl_iff, Nx.inr_iff, decide_eq_true_eq, decide_eq_false_iff_not]
 refine ⟨fun h => ?_, fun h => ⟨?_, ?_⟩⟩
 ·simp only [Bool.and_eq_true, Bool.or_eq_true, Bool.not_eq_true', Bool.and_eq_false_iff, Bool.or_eq_false_iff, Bool.not_eq_false', beq_iff_eq, bne_iff_ne, beq_eq_false_iff_ne, bne_eq_false_iff_eq, decide_eq_true_eq, decide_eq_false_iff_not] at h; rw [if_pos (by omega)]
 ·simp only [Bool.and_eq_true, Bool.or_eq_true, Bool.not_eq_true', Bool.and_eq_false_iff, Bool.or_eq_false_iff, Bool.not_eq_false', beq_iff_eq, bne_iff_ne, beq_eq_false_iff_ne, bne_eq_false_iff_eq, decide_eq_true_eq, decide_eq_false_iff_not] at h; omega
 ·simp only [Bool.and_eq_true, Bool.or_eq_true, Bool.not_eq_true', Bool.and_eq_false_iff, Bool.or_eq_false_iff, Bool.not_eq_false', beq_iff_eq, bne_iff_ne, beq_eq_false_iff_ne, bne_eq_false_iff_eq, decide_eq_true_eq, decide_eq_false_iff_not] at h; rw [if_neg (by omega)]
theorem chain_Lives_eq {s : D_api_State} (h : Chn s) (i : Int) : chain_Lives s i = some (livesB s i) := by
 rw [← Tot.eq_iff]
 simp only [chain_Lives, chain_End_eq h, state_Thread_eq, livesB, cond_some, Tot.cond_iff, Tot.ass_iff, Tot.bnd_iff, Tot.some_iff, Tot.map_iff, Tot.bind_iff, Nx.inl_iff, Nx.inr_iff, decide_eq_true_eq, decide_eq_false_iff_not]
def behindL (s : D_api_State) (i : Int) : List Int := buildL (fun k => if ThrP s k ∧ (decide (k ≠ i) && decide (i ∈ tl s k)) = true then [k] else []) s.2.2.1.length
def waitsL (s : D_api_State) (i : Int) : List Int := buildL (fun k => if ThrP s k ∧ (decide (0 ≤ i) && decide (nxt s k = i)) = true then [k] else []) s.2.2.1.length
theorem FineP.thr_len {s : D_api_State} (h : FineP s) : s.2.2.1.length ≤ 32 := h.threads.2.2.1
theorem FineP.arrows {s : D_api_State} (h : FineP s) : r14_ThreadArrows s = some (thrArrows s) :=
 r14_ThreadArrows_eq s (by have := h.thr_len; omega) fun k h0 h1 h6 => h.threads.waits k h0 h1 h6
theorem thrArrows_len {s : D_api_State} : (thrArrows s).length ≤ s.2.2.1.length := by
 have := buildL_len (f := fun k => thrArr s k (rd z_api_Thread s.2.2.1 k)) (c := 1) (fun k => thrArr_len _ _ _) (n := s.2.2.1.length)
 unfold thrArrows; omega
theorem r16_Next_eq {s : D_api_State} (h : FineP s) (i : Int) : r16_Next s i = some (nxt s i) := by
 rw [← Tot.eq_iff]
 have hl := thrArrows_len (s := s)
 have ht := h.thr_len
 simp only [r16_Next, h.arrows, cond_some, Tot.cond_iff, Tot.ass_iff, Tot.bnd_iff, Tot.some_iff, Tot.map_iff, Tot.bind_iff, Nx.inl_iff, Nx.inr_iff, decide_eq_true_eq, decide_eq_false_iff_not]
 refine Tot.loop (fun x => 0 ≤ x ∧ x ≤ ((thrArrows s).length : Int) ∧ ∀ k : Int, 0 ≤ k → k < x → (rd z_r13_Arrow (thrArrows s) k).1 ≠ i) (fun x => (((thrArrows s).length : Int) - x).toNat) (fun x hx => ?_) ⟨by omega, by omega, fun k _ _ => by omega⟩
 obtain ⟨h0, h1, h2⟩ := hx
 have hw1 : IntKind.i64.wrap (x + 1) = x + 1 := w64 (by omega) (by omega)
 simp only [r16_Next_b1, r16_Next_j1, hw1, cond_some, Tot.cond_iff, Tot.ass_iff, Tot.bnd_iff, Tot.some_iff, Tot.map_iff, Tot.bind_iff, Nx.inl_iff, Nx.inr_iff, decide_eq_true_eq, decide_eq_false_iff_not]
 refine ⟨fun hlt => ⟨⟨h0, hlt⟩, fun he => ⟨⟨h0, hlt⟩, ?_⟩, fun he => ⟨⟨by omega, by omega, fun k a b => ?_⟩, by omega⟩⟩, fun hge => ?_⟩
 ·simp only [Bool.and_eq_true, Bool.or_eq_true, Bool.not_eq_true', Bool.and_eq_false_iff, Bool.or_eq_false_iff, Bool.not_eq_false', beq_iff_eq, bne_iff_ne, beq_eq_false_iff_ne, bne_eq_false_iff_eq, decide_eq_true_eq, decide_eq_false_iff_not] at he
  have hm := rd_mem (z := z_r13_Arrow) h0 hlt
  have := (h.nxt_arr (x := (rd z_r13_Arrow (thrArrows s) x).1) (y := (rd z_r13_Arrow (thrArrows s) x).2) hm).2
  rw [this, he]
 ·simp only [Bool.and_eq_true, Bool.or_eq_true, Bool.not_eq_true', Bool.and_eq_false_iff, Bool.or_eq_false_iff, Bool.not_eq_false', beq_iff_eq, bne_iff_ne, beq_eq_false_iff_ne, bne_eq_false_iff_eq, decide_eq_true_eq, decide_eq_false_iff_not] at he
  by_cases hkx : k = x
  ·rw [hkx]; exact he
  ·exact h2 k a (by omega)
 ·refine Classical.byContradiction fun hn => ?_
  by_cases hi : ThrP s i
  ·have hm := h.arr_nxt hi (fun hc => hn hc.symm)
   obtain ⟨j, hj, he⟩ := List.getElem_of_mem hm
   have := h2 j (by omega) (by omega)
   rw [rd_eq j rfl hj, he] at this
   exact this rfl
  ·exact hn (nxt_none hi).symm
theorem r16_Tail_eq {s : D_api_State} (h : FineP s) (i : Int) : r16_Tail s i = some (tl s i) := by
 obtain ⟨rank, hb, hr⟩ := h.chn
 unfold r16_Tail
 refine fixM_eq (fun x => tl x.1 x.2) (fun x => x.1 = s) (fun x => rank x.2) (fun self x hx ih => ?_) (x := (s, i)) rfl
 obtain ⟨s', j⟩ := x
 simp only at hx
 subst hx
 rw [← Tot.eq_iff]
 simp only [r16_Tail_rec, r14_Thread_eq, r16_Next_eq h, cond_some, Tot.cond_iff, Tot.ass_iff, Tot.bnd_iff, Tot.some_iff, Tot.map_iff, Tot.bind_iff, Nx.inl_iff, Nx.inr_iff, decide_eq_true_eq, decide_eq_false_iff_not]
 by_cases hj : ThrP s' j
 ·simp only [hj, decide_true, Bool.not_true, Bool.false_eq_true, false_implies, true_implies, true_and]
  rw [tl_eq h.chn hj]
  rcases hr j hj with hn | ⟨hn, hlt⟩
  ·simp [hn]
  ·have h0 := hn.1
   have hne : nxt s' j ≠ -1 := by omega
   have hl := tl_len h.chn (nxt s' j)
   refine ⟨fun hc => by omega, fun hc => ?_⟩
   rw [ih (s', nxt s' j) rfl hlt]
   simp only [Tot.some_iff, hne, if_false, List.singleton_append, and_true, List.length_singleton]
   unfold limA; omega
 ·simp [hj, tl]
theorem r16_End_eq {s : D_api_State} (h : FineP s) (i : Int) : r16_End s i = some (endOf (tl s i)) := by
 rw [← Tot.eq_iff]
 have := tl_len h.chn i
 simp only [r16_End, r16_Tail_eq h, end_bits (show (tl s i).length ≤ 1000 by omega), endOf, cond_some, Tot.cond_iff, Tot.ass_iff, Tot.bnd_iff, Tot.some_iff, Tot.map_iff, Tot.bind_iff, Nx.inl_iff, Nx.inr_iff, decide_eq_true_eq, decide_eq_false_iff_not]
 refine ⟨fun h => ?_, fun h => ⟨?_, ?_⟩⟩
 ·simp only [Bool.and_eq_true, Bool.or_eq_true, Bool.not_eq_true', Bool.and_eq_false_iff, Bool.or_eq_false_iff, Bool.not_eq_false', beq_iff_eq, bne_iff_ne, beq_eq_false_iff_ne, bne_eq_false_iff_eq, decide_eq_true_eq, decide_eq_false_iff_not] at h; rw [if_pos (by omega)]
 ·simp only [Bool.and_eq_true, Bool.or_eq_true, Bool.not_eq_true', Bool.and_eq_false_iff, Bool.or_eq_false_iff, Bool.not_eq_false', beq_iff_eq, bne_iff_ne, beq_eq_false_iff_ne, bne_eq_false_iff_eq, decide_eq_true_eq, decide_eq_false_iff_not] at h; omega
 ·simp only [Bool.and_eq_true, Bool.or_eq_true, Bool.not_eq_true', Bool.and_eq_false_iff, Bool.or_eq_false_iff, Bool.not_eq_false', beq_iff_eq, bne_iff_ne, beq_eq_false_iff_ne, bne_eq_false_iff_eq, decide_eq_true_eq, decide_eq_false_iff_not] at h; rw [if_neg (by omega)]
theorem r16_Lives_eq {s : D_api_State} (h : FineP s) (i : Int) : r16_Lives s i = some (livesB s i) := by
 rw [← Tot.eq_iff]
 simp only [r16_Lives, r16_End_eq h, livesB, cond_some, Tot.cond_iff, Tot.ass_iff, Tot.bnd_iff, Tot.some_iff, Tot.map_iff, Tot.bind_iff, Nx.inl_iff, Nx.inr_iff, decide_eq_true_eq, decide_eq_false_iff_not]
 by_cases hi : ThrP s i
 ·have he := (end_thr h.chn hi).1
  obtain ⟨e0, e1, e2⟩ := id he
  simp [thrOf, he, e0, e1]
 ·rw [end_neg hi]
  have : ¬ ThrP s (-1) := fun hc => by have := hc.1; omega
  simp [thrOf, this]
theorem tc_tl {s : D_api_State} (h : FineP s) {i k : Int} (hk : ThrP s k) : i ∈ tl s k ↔ i = k ∨ Relation.TransGen (RR s.2.2.1.length (thrArrows s)) k i := by
 refine tl_ind h.chn (C := fun k => i ∈ tl s k ↔ i = k ∨ Relation.TransGen (RR s.2.2.1.length (thrArrows s)) k i) (fun k hk ih => ?_) hk
 rw [tl_eq h.chn hk]
 have first : Relation.TransGen (RR s.2.2.1.length (thrArrows s)) k i → ThrP s (nxt s k) ∧ (i = nxt s k ∨ Relation.TransGen (RR s.2.2.1.length (thrArrows s)) (nxt s k) i) := by
  intro ht
  clear ih
  induction ht with
  | single hr => obtain ⟨r1, r2, r3⟩ := h.rr.1 hr; exact ⟨by rw [← r3]; exact r2, .inl r3⟩
  | tail hab hr ih2 =>
   obtain ⟨g1, g2⟩ := ih2
   refine ⟨g1, .inr ?_⟩
   rcases g2 with rfl | g2
   ·exact .single hr
   ·exact .tail g2 hr
 split
 ·rename_i hn
  simp only [List.mem_singleton]
  refine ⟨.inl, fun hh => ?_⟩
  rcases hh with hh | hh
  ·exact hh
  ·have := (first hh).1.1
   omega
 ·rename_i hn
  obtain ⟨h1, h2⟩ := ih hn
  rw [List.mem_cons, h2]
  refine or_congr_right ⟨fun hh => ?_, fun hh => (first hh).2⟩
  have hr : RR s.2.2.1.length (thrArrows s) k (nxt s k) := h.rr.2 ⟨hk, h1, rfl⟩
  rcases hh with hh | hh
  ·rw [hh]; exact .single hr
  ·exact .trans (.single hr) hh
theorem tc_thr {s : D_api_State} (h : FineP s) {i k : Int} (ht : Relation.TransGen (RR s.2.2.1.length (thrArrows s)) k i) : ThrP s k ∧ ThrP s i ∧ i ≠ k := by
 have h1 : ThrP s k := by
  induction ht with
  | single hr => exact (h.rr.1 hr).1
  | tail _ _ ih => exact ih
 refine ⟨h1, ?_, fun hc => h.thrRing ⟨k, h1.1, h1.2.1, by rw [hc] at ht; exact ht⟩⟩
 induction ht with
 | single hr => exact (h.rr.1 hr).2.1
 | tail _ hr _ => exact (h.rr.1 hr).2.1
theorem if_iff {α : Type} {p q : Prop} [Decidable p] [Decidable q] {x y : α} (h : p ↔ q) : (if p then x else y) = if q then x else y := by
 by_cases hp : p
 ·rw [if_pos hp, if_pos (h.1 hp)]
 ·rw [if_neg hp, if_neg fun hq => hp (h.2 hq)]
def refBehind (s : D_api_State) (i : Int) (near : Bool) : List Int := if near then waitsL s i else behindL s i
theorem r16_Behind_eq {s : D_api_State} (h : FineP s) (i : Int) (near : Bool) : r16_Behind s i near = some (refBehind s i near) := by
 rw [← Tot.eq_iff]
 have hn := h.thr_len
 have hal := thrArrows_len (s := s)
 let g : Int → List Int := fun k => if ThrP s i ∧ (bif near then decide (nxt s k = i) else decide (k ≠ i) && decide (i ∈ tl s k)) = true then [k] else []
 have hone : ∀ k, (g k).length ≤ 1 := fun k => by simp only [g]; split <;> simp
 have hg : ∀ k : Int, 0 ≤ k → k < (s.2.2.1.length : Int) → ThrP s i → (nxt s k = i → ThrP s k) ∧ (i ∈ tl s k → ThrP s k) := fun k h0 h1 hi =>
  ⟨fun hk => Classical.byContradiction fun hc => by rw [nxt_none hc] at hk; have := hi.1; omega, fun hk => (mem_tl_thr h.chn hk).1⟩
 have hend : buildL g s.2.2.1.length = refBehind s i near := by
  unfold refBehind waitsL behindL
  cases near with
  | true =>
   simp only [if_true]
   refine buildL_congr fun k h0 h1 => ?_
   simp only [g, cond_true]
   refine if_iff ⟨fun ⟨a, b⟩ => ?_, fun ⟨a, b⟩ => ?_⟩
   ·simp only [decide_eq_true_eq] at b
    exact ⟨(hg k h0 h1 a).1 b, by have := a.1; simp [this, b]⟩
   ·simp only [Bool.and_eq_true, decide_eq_true_eq] at b
    refine ⟨?_, by simp [b.2]⟩
    rcases h.nxt_thr a with c | c
    ·omega
    ·rw [← b.2]; exact c
  | false =>
   simp only [Bool.false_eq_true, if_false]
   refine buildL_congr fun k h0 h1 => ?_
   simp only [g, cond_false]
   refine if_iff ⟨fun ⟨a, b⟩ => ?_, fun ⟨a, b⟩ => ?_⟩
   ·refine ⟨?_, b⟩
    simp only [Bool.and_eq_true, decide_eq_true_eq] at b
    exact (hg k h0 h1 a).2 b.2
   ·refine ⟨?_, b⟩
    simp only [Bool.and_eq_true, decide_eq_true_eq] at b
    exact (mem_tl_thr h.chn b.2).2
 rw [← hend]
 unfold r16_Behind
 refine Tot.loop (fun x => 0 ≤ x.2 ∧ x.2 ≤ (s.2.2.1.length : Int) ∧ x.1 = buildL g x.2.toNat) (fun x => ((s.2.2.1.length : Int) - x.2).toNat) (fun x hx => ?_) ⟨by omega, by simp, rfl⟩
 obtain ⟨acc, x⟩ := x
 simp only at hx
 obtain ⟨h0, h1, rfl⟩ := hx
 have hw1 : IntKind.i64.wrap (x + 1) = x + 1 := w64 (by omega) (by omega)
 have hlen := buildL_len (f := g) (c := 1) hone (n := x.toNat)
 simp only [r16_Behind_b1, r16_Behind_j1, r16_Behind_j2, r16_Behind_j3, r14_Thread_eq, h.arrows, r16_Next_eq h, hw1, cond_some, Tot.cond_iff, Tot.ass_iff, Tot.bnd_iff, Tot.some_iff, Tot.map_iff, Tot.bind_iff, Nx.inl_iff, Nx.inr_iff, decide_eq_true_eq, decide_eq_false_iff_not]
 by_cases hlt : x < (s.2.2.1.length : Int)
 ·by_cases hi : ThrP s i
  ·simp only [hlt, hi, decide_true, cond_true, Bool.and_true, true_implies, Bool.true_eq_false, false_implies, and_true]
   refine (r13_Reach_tot _ _ x (by omega) (by omega) (by omega)).mono fun out hout => ?_
   obtain ⟨o1, o2⟩ := hout
   refine ⟨⟨hi.1, by have := hi.2.1; omega⟩, ?_⟩
   have ho := o2 i hi.1 hi.2.1
   have hmem : rd false out i = true ↔ (decide (x ≠ i) && decide (i ∈ tl s x)) = true := by
    rw [ho, Bool.and_eq_true, decide_eq_true_eq, decide_eq_true_eq]
    constructor
    ·intro ht
     obtain ⟨t1, t2, t3⟩ := tc_thr h ht
     exact ⟨fun hc => t3 hc.symm, (tc_tl h t1).2 (.inr ht)⟩
    ·rintro ⟨t1, t2⟩
     rcases (tc_tl h (mem_tl_thr h.chn t2).1).1 t2 with t | t
     ·exact absurd t.symm t1
     ·exact t
   have hgx : ∀ b : Bool, (b = true ↔ (bif near then decide (nxt s x = i) else decide (x ≠ i) && decide (i ∈ tl s x)) = true) → (b = true → (((buildL g x.toNat).length + [x].length : Nat) : Int) ≤ limA ∧ (0 ≤ x + 1 ∧ x + 1 ≤ (s.2.2.1.length : Int) ∧ buildL g x.toNat ++ [x] = buildL g (x + 1).toNat) ∧ ((s.2.2.1.length : Int) - (x + 1)).toNat < ((s.2.2.1.length : Int) - x).toNat) ∧
     (b = false → (0 ≤ x + 1 ∧ x + 1 ≤ (s.2.2.1.length : Int) ∧ buildL g x.toNat = buildL g (x + 1).toNat) ∧ ((s.2.2.1.length : Int) - (x + 1)).toNat < ((s.2.2.1.length : Int) - x).toNat) := by
    intro b hb
    refine ⟨fun h1 => ⟨by simp only [List.length_singleton]; unfold limA; omega, ⟨by omega, by omega, ?_⟩, by omega⟩, fun h1 => ⟨⟨by omega, by omega, ?_⟩, by omega⟩⟩
    ·rw [buildL_step h0]
     simp only [g]
     rw [if_pos ⟨hi, hb.1 h1⟩]
    ·rw [buildL_step h0]
     simp only [g]
     rw [if_neg (fun hc => by rw [hb.2 hc.2] at h1; simp at h1), List.append_nil]
   cases near with
   | true =>
    simp only [true_implies, Bool.true_eq_false, false_implies, and_true]
    refine hgx _ ?_
    simp
   | false =>
    simp only [Bool.false_eq_true, false_implies, true_implies, true_and]
    exact hgx _ hmem
  ·simp only [hlt, hi, decide_true, decide_false, cond_true, Bool.and_false, Bool.false_eq_true, false_implies, true_implies, true_and]
   have hemp : ∀ m, buildL g m = [] := fun m => by
    induction m with
    | zero => rfl
    | succ m ih => show buildL g m ++ g m = []; rw [ih]; simp [g, hi]
   rw [hemp, hemp]
 ·simp only [hlt, decide_false, cond_false, Bool.and_false, Bool.false_and, Bool.false_eq_true, false_implies, true_implies, true_and]
  have hx : x = (s.2.2.1.length : Int) := by omega
  subst hx
  simp
def alive16 : D_api_State := ([true], [], [(2, -1, -1, 1, 1), (4, 0, -1, 1, 1)], [], [1], 5)
def outs (n : Int) (l : List (Int × Int)) (x : Int) : List Int := l.filterMap fun e => if e.1 = x ∧ 0 ≤ e.1 ∧ e.1 < n ∧ 0 ≤ e.2 ∧ e.2 < n then some e.2 else none
theorem mem_outs {n : Int} {l : List (Int × Int)} {x y : Int} : y ∈ outs n l x ↔ RR n l x y := by
 unfold outs RR
 rw [List.mem_filterMap]
 constructor
 ·rintro ⟨⟨u, v⟩, hm, h⟩
  simp only at h
  split at h
  ·rename_i hc
   simp only [Option.some.injEq] at h
   obtain ⟨rfl, h1⟩ := hc
   subst h
   exact ⟨hm, h1⟩
  ·simp at h
 ·rintro ⟨hm, h⟩
  exact ⟨(x, y), hm, by simp [h]⟩
theorem outs_len {n : Int} {l : List (Int × Int)} {x : Int} : (outs n l x).length ≤ l.length := List.length_filterMap_le _ _
def clampN (n : Int) : Int := if (4096 : Int) < (if (0 : Int) > n then 0 else n) then 4096 else (if (0 : Int) > n then 0 else n)
theorem clamp_eq {n : Int} (h0 : 0 ≤ n) (h1 : n ≤ 4096) : clampN n = n := by unfold clampN; split <;> split <;> omega
theorem clamp_le {n : Int} : 0 ≤ clampN n ∧ clampN n ≤ 4096 := by unfold clampN; split <;> split <;> omega
structure HeadsOk (n : Int) (l : List (Int × Int)) (h : List (List Int)) : Prop where
 len : (h.length : Int) = n
 at_ : ∀ x : Int, 0 ≤ x → x < n → rd ([] : List Int) h x = outs n l x
theorem dag_heads_tot (n : Int) (l : List (Int × Int)) (hl : l.length ≤ 100000) : Tot (dag_heads n l) (HeadsOk (clampN n) l) := by
 obtain ⟨c0, c1⟩ := clamp_le (n := n)
 unfold dag_heads
 show Tot (ass (0 ≤ clampN n ∧ clampN n ≤ clampN n ∧ clampN n ≤ lim) (bnd (List.replicate (clampN n).toNat []) _)) _
 generalize clampN n = m at *
 simp only [cond_some, Tot.cond_iff, Tot.ass_iff, Tot.bnd_iff, Tot.some_iff, Tot.map_iff, Tot.bind_iff, Nx.inl_iff, Nx.inr_iff, decide_eq_true_eq, decide_eq_false_iff_not]
 refine ⟨⟨c0, Int.le_refl _, by unfold lim; omega⟩, ?_⟩
 refine Tot.loop (fun (x : List (List Int) × Int) => 0 ≤ x.2 ∧ x.2 ≤ (l.length : Int) ∧ HeadsOk m (l.take x.2.toNat) x.1) (fun x => ((l.length : Int) - x.2).toNat) (fun x hx => ?_) ⟨by simp, by simp, ⟨by simp; omega, fun x h0 h1 => ?_⟩⟩
 rotate_left
 ·rw [rd_eq x.toNat (by omega) (by simp; omega)]
  simp [outs]
 obtain ⟨h, x⟩ := x
 simp only at hx
 obtain ⟨h0, h1, hk⟩ := hx
 obtain ⟨hlen, hat⟩ := hk
 have hw1 : IntKind.i64.wrap (x + 1) = x + 1 := w64 (by omega) (by omega)
 simp only [dag_heads_b1, dag_heads_j1, dag_heads_j2, hw1, cond_some, Tot.cond_iff, Tot.ass_iff, Tot.bnd_iff, Tot.some_iff, Tot.map_iff, Tot.bind_iff, Nx.inl_iff, Nx.inr_iff, decide_eq_true_eq, decide_eq_false_iff_not]
 refine ⟨fun hlt => ⟨⟨h0, hlt⟩, ?_⟩, fun hge => ?_⟩
 ·have htk := take_rd (z := z_dag_Arrow) h0 hlt
  generalize rd z_dag_Arrow l x = e at *
  obtain ⟨u, v⟩ := e
  simp only at *
  have hout : ∀ y, outs m (l.take (x + 1).toNat) y = outs m (l.take x.toNat) y ++ (if u = y ∧ 0 ≤ u ∧ u < m ∧ 0 ≤ v ∧ v < m then [v] else []) := fun y => by
   rw [htk]
   unfold outs
   rw [List.filterMap_append]
   congr 1
   rw [List.filterMap_cons, List.filterMap_nil]
   by_cases hc : u = y ∧ 0 ≤ u ∧ u < m ∧ 0 ≤ v ∧ v < m
   ·rw [if_pos hc, if_pos hc]
   ·rw [if_neg hc, if_neg hc]
  have hm : ((l.length : Int) - (x + 1)).toNat < ((l.length : Int) - x).toNat := by omega
  refine ⟨fun hb => ?_, fun hb => ⟨⟨by omega, by omega, ⟨hlen, fun y y0 y1 => ?_⟩⟩, hm⟩⟩
  ·simp only [Bool.and_eq_true, Bool.or_eq_true, Bool.not_eq_true', Bool.and_eq_false_iff, Bool.or_eq_false_iff, Bool.not_eq_false', beq_iff_eq, bne_iff_ne, beq_eq_false_iff_ne, bne_eq_false_iff_eq, decide_eq_true_eq, decide_eq_false_iff_not] at hb
   have hru := hat u (by omega) (by omega)
   have hle := outs_len (n := m) (l := l.take x.toNat) (x := u)
   have : (l.take x.toNat).length ≤ l.length := List.length_take_le' _ _
   refine ⟨⟨by omega, by omega⟩, by rw [hru]; simp only [List.length_singleton]; unfold limA; omega, ⟨by omega, by omega, ⟨by rw [wr_length]; exact hlen, fun y y0 y1 => ?_⟩⟩, hm⟩
   rw [rd_wr (by omega) (by omega) y0, hout]
   split
   ·rename_i hyu
    subst hyu
    rw [hru, if_pos ⟨rfl, by omega, by omega, by omega, by omega⟩]
   ·rename_i hyu
    rw [hat y y0 y1, if_neg (fun hc => hyu hc.1.symm), List.append_nil]
  ·simp only [Bool.and_eq_true, Bool.or_eq_true, Bool.not_eq_true', Bool.and_eq_false_iff, Bool.or_eq_false_iff, Bool.not_eq_false', beq_iff_eq, bne_iff_ne, beq_eq_false_iff_ne, bne_eq_false_iff_eq, decide_eq_true_eq, decide_eq_false_iff_not] at hb
   rw [hout, if_neg (fun hc => by omega), List.append_nil]
   exact hat y y0 y1
 ·have hx : x = (l.length : Int) := by omega
  subst hx
  simpa using (⟨hlen, hat⟩ : HeadsOk m (l.take (l.length : Int).toNat) h)
open Classical in
noncomputable def reachL (n : Int) (l : List (Int × Int)) (a : Int) : List Int := buildL (fun k => if Relation.TransGen (RR n l) a k then [k] else []) n.toNat
def findU (p : Int → Bool) : Nat → Option Int
 | 0 => none
 | n + 1 => match findU p n with
  | some i => some i
  | none => if p n then some (n : Int) else none
theorem findU_some {p : Int → Bool} {i : Int} : ∀ {n : Nat}, findU p n = some i ↔ 0 ≤ i ∧ i < (n : Int) ∧ p i = true ∧ ∀ j : Int, 0 ≤ j → j < i → p j = false
 | 0 => by simp [findU]; omega
 | n + 1 => by
  have ih := findU_some (p := p) (i := i) (n := n)
  have hn : findU p n = none ↔ ∀ j : Int, 0 ≤ j → j < (n : Int) → p j = false := by
   clear ih
   induction n with
   | zero => simp [findU]; intro j a b; omega
   | succ n ih =>
    simp only [findU]
    cases hf : findU p n with
    | some j =>
     simp only [reduceCtorEq, false_iff]
     intro hall
     have := ih.2 fun j a b => hall j a (by omega)
     rw [hf] at this; simp at this
    | none =>
     simp only
     have hi := ih.1 hf
     cases hp : p n with
     | true => simp; exact ⟨n, by omega, by omega, hp⟩
     | false =>
      simp
      intro j a b
      by_cases hj : j = n
      ·rw [hj]; exact hp
      ·exact hi j a (by omega)
  simp only [findU]
  cases hf : findU p n with
  | some j =>
   rw [hf] at ih
   simp only
   rw [ih]
   constructor
   ·rintro ⟨a, b, c, d⟩; exact ⟨a, by omega, c, d⟩
   ·rintro ⟨a, b, c, d⟩
    refine ⟨a, ?_, c, d⟩
    rcases Int.lt_or_le i n with h | h
    ·exact h
    ·exfalso
     have := hn.2 fun j' a' b' => d j' a' (by omega)
     rw [hf] at this; simp at this
  | none =>
   have hnone := hn.1 hf
   simp only
   by_cases hp : p n = true
   ·rw [if_pos hp]
    simp only [Option.some.injEq]
    constructor
    ·rintro rfl; exact ⟨by omega, by omega, hp, hnone⟩
    ·rintro ⟨a, b, c, d⟩
     rcases Int.lt_or_le i n with h | h
     ·rw [hnone i a h] at c; simp at c
     ·omega
   ·rw [if_neg hp]
    simp only [reduceCtorEq, false_iff]
    rintro ⟨a, b, c, d⟩
    by_cases hj : i = n
    ·rw [hj] at c; exact hp c
    ·rw [hnone i a (by omega)] at c; simp at c
theorem findU_none {p : Int → Bool} {n : Nat} : findU p n = none ↔ ∀ j : Int, 0 ≤ j → j < (n : Int) → p j = false := by
 constructor
 ·intro h j a b
  cases hp : p j with
  | false => rfl
  | true =>
   exfalso
   have : ∀ (k : Nat) (j : Int), j.toNat < k → 0 ≤ j → j < (n : Int) → p j = true → False := by
    intro k
    induction k with
    | zero => intro j hj; omega
    | succ k ih =>
     intro j hj a b hp
     by_cases hall : ∀ i : Int, 0 ≤ i → i < j → p i = false
     ·have := findU_some.2 ⟨a, b, hp, hall⟩
      rw [h] at this; simp at this
     ·have : ∃ i : Int, 0 ≤ i ∧ i < j ∧ p i = true := by
       refine Classical.byContradiction fun hc => hall fun i i0 i1 => ?_
       cases hpi : p i with
       | false => rfl
       | true => exact absurd ⟨i, i0, i1, hpi⟩ hc
      obtain ⟨i, i0, i1, i2⟩ := this
      exact ih i (by omega) i0 (by omega) i2
   exact this _ j (Nat.lt_succ_self _) a b hp
 ·intro h
  cases hf : findU p n with
  | none => rfl
  | some i =>
   obtain ⟨a, b, c, _⟩ := findU_some.1 hf
   rw [h i a b] at c; simp at c
def FreeP (n : Int) (l : List (Int × Int)) (out : List Int) (i : Int) : Prop := i ∉ out ∧ ∀ e ∈ l, e.2 = i → 0 ≤ e.1 → e.1 < n → e.1 ∈ out
instance (n : Int) (l : List (Int × Int)) (out : List Int) (i : Int) : Decidable (FreeP n l out i) := by unfold FreeP; infer_instance
def nextF (n : Int) (l : List (Int × Int)) (out : List Int) : Option Int := findU (fun i => decide (FreeP n l out i)) n.toNat
def ordL (n : Int) (l : List (Int × Int)) : Nat → List Int → Option (List Int)
 | 0, out => some out
 | k + 1, out => match nextF n l out with
  | none => none
  | some i => ordL n l k (out ++ [i])
structure OrdOk (n : Int) (l : List (Int × Int)) (out : List Int) : Prop where
 nodup : out.Nodup
 rng : ∀ i ∈ out, 0 ≤ i ∧ i < n
 ahead : ∀ (k : Nat) (h : k < out.length) (x : Int), RR n l x out[k] → x ∈ out.take k
theorem OrdOk.nil {n : Int} {l : List (Int × Int)} : OrdOk n l [] := ⟨List.nodup_nil, (fun i h => by cases h), (fun k h => by simp at h)⟩
theorem OrdOk.snoc {n : Int} {l : List (Int × Int)} {out : List Int} (h : OrdOk n l out) {i : Int} (hi : nextF n l out = some i) : OrdOk n l (out ++ [i]) := by
 obtain ⟨a, b, c, _⟩ := findU_some.1 hi
 simp only [decide_eq_true_eq] at c
 refine ⟨?_, fun j hj => ?_, fun k hk x hx => ?_⟩
 ·rw [List.nodup_append]
  exact ⟨h.nodup, by simp, fun u hu v hv huv => by rw [List.mem_singleton.1 hv] at huv; rw [huv] at hu; exact c.1 hu⟩
 ·rcases List.mem_append.1 hj with hj | hj
  ·exact h.rng j hj
  ·rw [List.mem_singleton.1 hj]; omega
 ·rw [List.getElem_append] at hx
  split at hx
  ·rename_i hlt
   rw [List.take_append_of_le_length (by omega)]
   exact h.ahead k hlt x hx
  ·simp only [List.length_append, List.length_singleton] at hk
   have hk' : k = out.length := by omega
   subst hk'
   rw [List.take_left]
   simp only [Nat.sub_self, List.getElem_cons_zero] at hx
   exact c.2 (x, i) hx.1 rfl hx.2.1 hx.2.2.1
theorem ordL_ok {n : Int} {l : List (Int × Int)} : ∀ {k : Nat} {out o : List Int}, ordL n l k out = some o → OrdOk n l out → OrdOk n l o ∧ o.length = out.length + k
 | 0, out, o, h, hk => by simp only [ordL, Option.some.injEq] at h; subst h; exact ⟨hk, rfl⟩
 | k + 1, out, o, h, hk => by
  simp only [ordL] at h
  split at h
  ·simp at h
  ·rename_i i hi
   obtain ⟨h1, h2⟩ := ordL_ok h (hk.snoc hi)
   exact ⟨h1, by rw [h2]; simp; omega⟩
theorem pigeon : ∀ {l1 l2 : List Int}, l1.Nodup → l1 ⊆ l2 → l1.length ≤ l2.length
 | [], _, _, _ => by simp
 | a :: t, l2, hn, hs => by
  rw [List.nodup_cons] at hn
  have ha : a ∈ l2 := hs (List.mem_cons_self ..)
  have := pigeon (l1 := t) (l2 := l2.erase a) hn.2 fun x hx => by
   have hne : x ≠ a := fun hc => hn.1 (hc ▸ hx)
   exact (List.mem_erase_of_ne hne).2 (hs (List.mem_cons_of_mem _ hx))
  rw [List.length_erase_of_mem ha] at this
  have := List.length_pos_of_mem ha
  simp only [List.length_cons]
  omega
def idxL (n : Int) : List Int := (List.range n.toNat).map fun (k : Nat) => (k : Int)
theorem mem_idxL {n i : Int} : i ∈ idxL n ↔ 0 ≤ i ∧ i < n := by
 unfold idxL
 rw [List.mem_map]
 constructor
 ·rintro ⟨k, hk, rfl⟩; rw [List.mem_range] at hk; omega
 ·rintro ⟨a, b⟩; exact ⟨i.toNat, by rw [List.mem_range]; omega, by omega⟩
theorem idxL_nodup {n : Int} : (idxL n).Nodup := by
 unfold List.Nodup idxL
 rw [List.pairwise_map]
 refine List.Pairwise.imp (fun {a b} hab => ?_) (List.nodup_range (n := n.toNat))
 omega
theorem idxL_len {n : Int} : (idxL n).length = n.toNat := by simp [idxL]
theorem missing {n : Int} {out : List Int} (hl : (out.length : Int) < n) : ∃ i : Int, 0 ≤ i ∧ i < n ∧ i ∉ out := by
 refine Classical.byContradiction fun hc => ?_
 have := pigeon (idxL_nodup (n := n)) (l2 := out) fun i hi => Classical.byContradiction fun hi' => hc ⟨i, (mem_idxL.1 hi).1, (mem_idxL.1 hi).2, hi'⟩
 rw [idxL_len] at this
 omega
theorem full {n : Int} {out : List Int} (hn : out.Nodup) (hr : ∀ i ∈ out, 0 ≤ i ∧ i < n) (hl : (out.length : Int) = n) {i : Int} (h0 : 0 ≤ i) (h1 : i < n) : i ∈ out := by
 refine Classical.byContradiction fun hc => ?_
 have := pigeon (l1 := i :: out) (l2 := idxL n) (List.nodup_cons.2 ⟨hc, hn⟩) fun j hj => by
  rcases List.mem_cons.1 hj with rfl | hj
  ·exact mem_idxL.2 ⟨h0, h1⟩
  ·exact mem_idxL.2 (hr j hj)
 rw [idxL_len] at this
 simp at this
 omega
theorem OrdOk.le {n : Int} {l : List (Int × Int)} {out : List Int} (h : OrdOk n l out) (hn : 0 ≤ n) : (out.length : Int) ≤ n := by
 have := pigeon h.nodup (l2 := idxL n) fun j hj => mem_idxL.2 (h.rng j hj)
 rw [idxL_len] at this
 omega
theorem next_of {n : Int} {l : List (Int × Int)} (hnr : ¬ RingP n l) {out : List Int} (hl : (out.length : Int) < n) : ∃ i, nextF n l out = some i := by
 obtain ⟨rank, hb, hd⟩ := rank_of hnr
 obtain ⟨i0, a0, b0, c0⟩ := missing hl
 have : ∃ i : Int, 0 ≤ i ∧ i < n ∧ i ∉ out ∧ ∀ j : Int, 0 ≤ j → j < n → j ∉ out → rank j ≤ rank i := by
  have key : ∀ (d : Nat) (i : Int), n.toNat - rank i < d → 0 ≤ i → i < n → i ∉ out → ∃ i : Int, 0 ≤ i ∧ i < n ∧ i ∉ out ∧ ∀ j : Int, 0 ≤ j → j < n → j ∉ out → rank j ≤ rank i := by
   intro d
   induction d with
   | zero => intro i h; omega
   | succ d ih =>
    intro i hd a b c
    by_cases hall : ∀ j : Int, 0 ≤ j → j < n → j ∉ out → rank j ≤ rank i
    ·exact ⟨i, a, b, c, hall⟩
    ·have : ∃ j : Int, 0 ≤ j ∧ j < n ∧ j ∉ out ∧ rank i < rank j := Classical.byContradiction fun hc => hall fun j j0 j1 j2 => by
      rcases Nat.lt_or_ge (rank i) (rank j) with h | h
      ·exact absurd ⟨j, j0, j1, j2, h⟩ hc
      ·exact h
     obtain ⟨j, j0, j1, j2, j3⟩ := this
     have := hb j
     exact ih j (by omega) j0 j1 j2
  exact key _ i0 (Nat.lt_succ_self _) a0 b0 c0
 obtain ⟨i, a, b, c, hmax⟩ := this
 cases hf : nextF n l out with
 | some j => exact ⟨j, rfl⟩
 | none =>
  have := findU_none.1 hf i a (by omega)
  simp only [decide_eq_false_iff_not] at this
  refine absurd ⟨c, fun e he h2 h3 h4 => ?_⟩ this
  refine Classical.byContradiction fun hx => ?_
  obtain ⟨u, v⟩ := e
  simp only at h2 h3 h4 hx
  subst h2
  have := hd u v ⟨he, h3, h4, a, b⟩
  have := hmax u h3 h4 hx
  omega
theorem ordL_some {n : Int} {l : List (Int × Int)} (hnr : ¬ RingP n l) : ∀ {k : Nat} {out : List Int}, (out.length : Int) + k = n → ∃ o, ordL n l k out = some o
 | 0, out, _ => ⟨out, rfl⟩
 | k + 1, out, h => by
  obtain ⟨i, hi⟩ := next_of hnr (out := out) (by omega)
  simp only [ordL, hi]
  exact ordL_some hnr (by simp; omega)
theorem no_ring {n : Int} {l : List (Int × Int)} {o : List Int} (h : OrdOk n l o) (hl : (o.length : Int) = n) : ¬ RingP n l := by
 rintro ⟨i, a, b, ht⟩
 have key : ∀ x y, Relation.TransGen (RR n l) x y → ∀ (k : Nat) (hk : k < o.length), o[k] = y → x ∈ o.take k := by
  intro x y ht
  induction ht with
  | single hr => intro k hk hy; subst hy; exact h.ahead k hk x hr
  | tail hab hr ih =>
   intro k hk hy
   subst hy
   have hm := h.ahead k hk _ hr
   obtain ⟨j, hj, he⟩ := List.getElem_of_mem hm
   rw [List.getElem_take] at he
   rw [List.length_take] at hj
   have := ih j (by omega) he
   exact List.mem_of_mem_take (i := j) (by rwa [List.take_take, Nat.min_eq_left (by omega)])
 have hm := full h.nodup h.rng hl a b
 obtain ⟨k, hk, he⟩ := List.getElem_of_mem hm
 have := key i i ht k hk he
 obtain ⟨j, hj, he2⟩ := List.getElem_of_mem this
 rw [List.getElem_take] at he2
 rw [List.length_take] at hj
 have := (List.pairwise_iff_getElem.1 h.nodup) j k (by omega) hk (by omega)
 exact this (by rw [he, he2])
theorem ring_iff {n : Int} {l : List (Int × Int)} (hn : 0 ≤ n) : ordL n l n.toNat [] = none ↔ RingP n l := by
 constructor
 ·intro h
  refine Classical.byContradiction fun hc => ?_
  obtain ⟨o, ho⟩ := ordL_some hc (k := n.toNat) (out := []) (by simp; omega)
  rw [h] at ho; simp at ho
 ·intro h
  cases ho : ordL n l n.toNat [] with
  | none => rfl
  | some o =>
   obtain ⟨h1, h2⟩ := ordL_ok ho OrdOk.nil
   exact absurd h (no_ring h1 (by rw [h2]; simp; omega))
def valid (n : Int) (e : Int × Int) : Bool := decide (0 ≤ e.1 ∧ e.1 < n ∧ 0 ≤ e.2 ∧ e.2 < n)
def deg (n : Int) (l : List (Int × Int)) (out : List Int) (k : Int) : Nat := l.countP fun e => valid n e && (e.2 == k && !(decide (e.1 ∈ out)))
theorem countP_split {α : Type} {p q r : α → Bool} : ∀ {l : List α}, (∀ a ∈ l, p a = (q a || r a) ∧ (q a && r a) = false) → l.countP p = l.countP q + l.countP r
 | [], _ => rfl
 | a :: l, h => by
  have ih := countP_split (l := l) fun b hb => h b (List.mem_cons_of_mem _ hb)
  obtain ⟨h1, h2⟩ := h a (List.mem_cons_self ..)
  simp only [List.countP_cons, ih, h1]
  cases hq : q a <;> cases hr : r a <;> simp [hq, hr] at h2 ⊢ <;> omega
theorem count_outs {n : Int} {x y : Int} : ∀ {l : List (Int × Int)}, (outs n l x).count y = l.countP fun e => valid n e && (e.1 == x && e.2 == y)
 | [] => rfl
 | e :: l => by
  have ih := count_outs (n := n) (x := x) (y := y) (l := l)
  unfold outs at ih ⊢
  rw [List.filterMap_cons, List.countP_cons]
  by_cases hc : e.1 = x ∧ 0 ≤ e.1 ∧ e.1 < n ∧ 0 ≤ e.2 ∧ e.2 < n
  ·rw [if_pos hc]
   simp only [List.count_cons, ih]
   congr 1
   have h1 : valid n e = true := by simp only [valid, decide_eq_true_eq]; exact hc.2
   have h2 : (e.1 == x) = true := by simpa using hc.1
   rw [h1, h2]; simp
  ·rw [if_neg hc]
   simp only [ih]
   have : (valid n e && (e.1 == x && e.2 == y)) = false := by
    cases hv : valid n e
    ·rfl
    ·simp only [valid, decide_eq_true_eq] at hv
     have : e.1 ≠ x := fun h => hc ⟨h, hv⟩
     simp [this]
   rw [this]; simp
theorem deg_snoc {n : Int} {l : List (Int × Int)} {out : List Int} {k y : Int} (hk : k ∉ out) : deg n l out y = deg n l (out ++ [k]) y + (outs n l k).count y := by
 rw [count_outs]
 unfold deg
 refine countP_split fun e _ => ?_
 cases valid n e with
 | false => simp
 | true =>
  by_cases h1 : e.2 = y
  ·by_cases h2 : e.1 = k
   ·subst h2; simp [h1, hk]
   ·by_cases h3 : e.1 ∈ out <;> simp [h1, h2, h3]
  ·have h1' : (e.2 == y) = false := by simpa using h1
   simp [h1']
theorem deg_le {n : Int} {l : List (Int × Int)} {out : List Int} {k : Int} : deg n l out k ≤ l.length := List.countP_le_length
theorem free_deg {n : Int} {l : List (Int × Int)} {out : List Int} {k : Int} (h0 : 0 ≤ k) (h1 : k < n) : FreeP n l out k ↔ k ∉ out ∧ deg n l out k = 0 := by
 unfold FreeP deg
 rw [List.countP_eq_zero]
 refine and_congr_right fun _ => ⟨fun h e he hc => ?_, fun h e he h2 h3 h4 => ?_⟩
 ·simp only [valid, Bool.and_eq_true, decide_eq_true_eq, beq_iff_eq, Bool.not_eq_true', decide_eq_false_iff_not] at hc
  exact hc.2.2 (h e he hc.2.1 hc.1.1 hc.1.2.1)
 ·refine Classical.byContradiction fun hx => h e he ?_
  simp only [valid, Bool.and_eq_true, decide_eq_true_eq, beq_iff_eq, Bool.not_eq_true', decide_eq_false_iff_not]
  exact ⟨⟨h3, h4, by omega, by omega⟩, h2, hx⟩
end Go.Tom
