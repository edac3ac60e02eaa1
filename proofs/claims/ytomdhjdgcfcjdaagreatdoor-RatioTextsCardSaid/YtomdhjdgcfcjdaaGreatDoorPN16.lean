/- Wishes: their sum, what makes them whole. -/
import Derived.Test.YtomdhjdgcfcjdaaGreatDoorPN15
set_option linter.unusedVariables false
set_option linter.unusedSimpArgs false
namespace Go.Tom
open Go

/-- A loop that folds a row. -/
theorem loop_fold {α σ ρ : Type} (xs : List α) (f : σ × Int → Option ((σ × Int) ⊕ ρ)) (g : σ → α → σ) (I : Nat → σ → Prop) {s0 : σ} (h0 : I 0 s0)
    (hstep : ∀ (i : Nat) (hi : i < xs.length) (s : σ), I i s → f (s, (i : Int)) = some (.inl (g s xs[i], (i : Int) + 1)) ∧ I (i + 1) (g s xs[i])) {Q : ρ → Prop}
    (hend : I xs.length (xs.foldl g s0) → Tot (f (xs.foldl g s0, (xs.length : Int))) (fun z => ∃ r, z = .inr r ∧ Q r)) : Tot (loopM f (s0, 0)) Q := by
  refine Tot.loop (fun x => ∃ i : Nat, x.2 = (i : Int) ∧ i ≤ xs.length ∧ x.1 = (xs.take i).foldl g s0 ∧ I i x.1) (fun x => ((xs.length : Int) - x.2).toNat) (fun x hx => ?_) ⟨0, rfl, Nat.zero_le _, rfl, h0⟩
  obtain ⟨s, i0⟩ := x
  obtain ⟨i, h1, h2, h3, h4⟩ := hx
  simp only at h1 h3 h4
  subst h1
  rcases Nat.lt_or_ge i xs.length with hi | hi
  · obtain ⟨k1, k2⟩ := hstep i hi s h4
    rw [k1]
    refine Tot.some_iff.2 (Nx.inl_iff.2 ⟨⟨i + 1, by simp, hi, ?_, k2⟩, by simp only; omega⟩)
    simp only
    rw [List.take_succ_eq_append_getElem hi, List.foldl_append, ← h3]
    rfl
  · have hin : i = xs.length := by omega
    subst hin
    rw [List.take_length] at h3
    subst h3
    refine (hend h4).mono fun z hz => ?_
    obtain ⟨r, rfl, hr⟩ := hz
    exact Nx.inr_iff.2 hr

theorem rd_map {α β : Type} {z : β} {l : List α} {f : α → β} {i : Nat} (hi : i < l.length) : rd z (l.map f) (i : Int) = f l[i] := by
  rw [rd_eq i rfl (by rw [List.length_map]; exact hi), List.getElem_map]

def comF (d : Nat) (l : List FP) : Nat := l.foldl (fun d p => Nat.lcm d p.2) d
def comD (l : List FP) : Nat := comF 1 l
def upL (l : List FP) : List Nat := l.map fun p => comD l / p.2 * p.1
def sumP (l : List FP) : FP := l.foldl addP (0, 1)

theorem comF_dvd : ∀ {l : List FP} {d : Nat}, d ∣ comF d l ∧ ∀ p ∈ l, p.2 ∣ comF d l
  | [], d => ⟨Nat.dvd_refl _, fun p hp => by cases hp⟩
  | a :: l, d => by
    obtain ⟨h1, h2⟩ := comF_dvd (l := l) (d := Nat.lcm d a.2)
    refine ⟨Nat.dvd_trans (Nat.dvd_lcm_left d a.2) h1, fun p hp => ?_⟩
    rcases List.mem_cons.1 hp with rfl | hp
    · exact Nat.dvd_trans (Nat.dvd_lcm_right d p.2) h1
    · exact h2 p hp

theorem comF_pos : ∀ {l : List FP} {d : Nat}, 0 < d → (∀ p ∈ l, 0 < p.2) → 0 < comF d l
  | [], d, h, _ => h
  | a :: l, d, h, hl => comF_pos (l := l) (d := Nat.lcm d a.2) (Nat.lcm_pos h (hl a List.mem_cons_self)) fun p hp => hl p (List.mem_cons_of_mem _ hp)

theorem comD_pos {l : List FP} (h : ∀ p ∈ l, 0 < p.2) : 0 < comD l := comF_pos (by omega) h

/-- What a sum is worth. -/
theorem add_val {p q : FP} {D A B : Nat} (hp : 0 < p.2) (hq : 0 < q.2) (h1 : p.1 * D = A * p.2) (h2 : q.1 * D = B * q.2) : (addP p q).1 * D = (A + B) * (addP p q).2 := by
  have hv : (addP p q).1 * (p.2 * q.2) = (p.1 * q.2 + q.1 * p.2) * (addP p q).2 := low_val
  generalize addP p q = r at hv ⊢
  have e : (p.2 * q.2) * (r.1 * D) = (p.2 * q.2) * ((A + B) * r.2) := by
    calc (p.2 * q.2) * (r.1 * D) = r.1 * (p.2 * q.2) * D := by grind
      _ = (p.1 * q.2 + q.1 * p.2) * r.2 * D := by rw [hv]
      _ = ((p.1 * D) * q.2 + (q.1 * D) * p.2) * r.2 := by grind
      _ = ((A * p.2) * q.2 + (B * q.2) * p.2) * r.2 := by rw [h1, h2]
      _ = (p.2 * q.2) * ((A + B) * r.2) := by grind
  exact Nat.eq_of_mul_eq_mul_left (Nat.mul_pos hp hq) e

theorem add_ok {p q : FP} (hp : 0 < p.2) (hq : 0 < q.2) : 0 < (addP p q).2 ∧ Nat.gcd (addP p q).1 (addP p q).2 = 1 :=
  ⟨low_pos (Nat.mul_pos hp hq), low_cop (Nat.gcd_pos_of_pos_right _ (Nat.mul_pos hp hq))⟩

theorem sum_val {D : Nat} : ∀ {l : List FP} {acc : FP} {A : Nat}, 0 < acc.2 → Nat.gcd acc.1 acc.2 = 1 → acc.1 * D = A * acc.2 → (∀ p ∈ l, 0 < p.2 ∧ p.2 ∣ D) →
    (l.foldl addP acc).1 * D = (A + (l.map fun p => D / p.2 * p.1).sum) * (l.foldl addP acc).2 ∧ Nat.gcd (l.foldl addP acc).1 (l.foldl addP acc).2 = 1 ∧ 0 < (l.foldl addP acc).2
  | [], acc, A, h0, hc, h1, _ => ⟨by simpa using h1, hc, h0⟩
  | p :: l, acc, A, h0, hc, h1, hl => by
    obtain ⟨hp, hpD⟩ := hl p List.mem_cons_self
    obtain ⟨k1, k2⟩ := add_ok h0 hp
    have hv := add_val (D := D) (A := A) (B := D / p.2 * p.1) h0 hp h1 (by rw [Nat.mul_right_comm, Nat.div_mul_cancel hpD, Nat.mul_comm])
    have := sum_val (l := l) (acc := addP acc p) k1 k2 hv fun q hq => hl q (List.mem_cons_of_mem _ hq)
    simp only [List.foldl_cons, List.map_cons, List.sum_cons]
    rw [← Nat.add_assoc]
    exact this

/-- THE SUM OF WISHES: what is whole, by the least common number. -/
theorem sumP_val {l : List FP} (h : ∀ p ∈ l, 0 < p.2) : (sumP l).1 * comD l = (upL l).sum * (sumP l).2 ∧ Nat.gcd (sumP l).1 (sumP l).2 = 1 ∧ 0 < (sumP l).2 := by
  have := sum_val (D := comD l) (l := l) (acc := (0, 1)) (A := 0) (by show 0 < 1; omega) (by rfl) (by simp) fun p hp => ⟨h p hp, comF_dvd.2 p hp⟩
  rwa [Nat.zero_add] at this

theorem sumP_zero {l : List FP} (h : ∀ p ∈ l, 0 < p.2) : (sumP l).1 = 0 ↔ (upL l).sum = 0 := by
  obtain ⟨h1, h2, h3⟩ := sumP_val h
  have hD := comD_pos h
  constructor
  · intro h0
    rw [h0, Nat.zero_mul] at h1
    rcases Nat.mul_eq_zero.1 h1.symm with h | h
    · exact h
    · omega
  · intro h0
    rw [h0, Nat.zero_mul] at h1
    rcases Nat.mul_eq_zero.1 h1 with h | h
    · exact h
    · omega

/-- A wish by the sum. -/
theorem part_low {l : List FP} (h : ∀ p ∈ l, 0 < p.2) {p : FP} (hp : p ∈ l) (hS : 0 < (upL l).sum) : divP p (sumP l) = lowP (comD l / p.2 * p.1) (upL l).sum := by
  obtain ⟨h1, h2, h3⟩ := sumP_val h
  have hD := comD_pos h
  have hn : 0 < (sumP l).1 := by
    rcases Nat.eq_zero_or_pos (sumP l).1 with h0 | h0
    · have := (sumP_zero h).1 h0; omega
    · exact h0
  have hb : 0 < p.2 * (sumP l).1 := Nat.mul_pos (h p hp) hn
  refine low_uniq (low_cop (Nat.gcd_pos_of_pos_right _ hb)) hS ?_
  have hv : (divP p (sumP l)).1 * (p.2 * (sumP l).1) = p.1 * (sumP l).2 * (divP p (sumP l)).2 := low_val
  show (divP p (sumP l)).1 * (upL l).sum = comD l / p.2 * p.1 * (divP p (sumP l)).2
  generalize divP p (sumP l) = r at hv ⊢
  obtain ⟨u, hu⟩ : ∃ u, u = comD l / p.2 * p.1 := ⟨_, rfl⟩
  have hup : u * p.2 = p.1 * comD l := by
    have hd : p.2 ∣ comD l := comF_dvd.2 p hp
    rw [hu, Nat.mul_right_comm, Nat.div_mul_cancel hd, Nat.mul_comm]
  rw [← hu]
  generalize (upL l).sum = S at h1 hS ⊢
  generalize sumP l = s at *
  generalize comD l = D at *
  -- times p.2 s.1 s.2 D
  have e : (p.2 * s.1 * D) * (r.1 * S) = (p.2 * s.1 * D) * (u * r.2) := by
    calc (p.2 * s.1 * D) * (r.1 * S) = r.1 * (p.2 * s.1) * D * S := by grind
      _ = p.1 * s.2 * r.2 * D * S := by rw [hv]
      _ = (p.1 * D) * (S * s.2) * r.2 := by grind
      _ = (u * p.2) * (s.1 * D) * r.2 := by rw [hup, h1]
      _ = (p.2 * s.1 * D) * (u * r.2) := by grind
  exact Nat.eq_of_mul_eq_mul_left (Nat.mul_pos hb hD) e
end Go.Tom
