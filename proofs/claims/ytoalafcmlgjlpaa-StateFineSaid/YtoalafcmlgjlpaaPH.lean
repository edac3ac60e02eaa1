/- Arrows: the order. -/
import Derived.Test.YtoalafcmlgjlpaaPG0
import Derived.Test.YtoalafcmlgjlpaaPRank
set_option linter.unusedVariables false
set_option linter.unusedSimpArgs false
namespace Go.Tom
open Go

/-- The first of n that is so. -/
def findU (p : Int → Bool) : Nat → Option Int
  | 0 => none
  | n + 1 => match findU p n with
    | some i => some i
    | none => if p n then some (n : Int) else none

theorem findU_some {p : Int → Bool} {i : Int} : ∀ {n : Nat}, findU p n = some i ↔ 0 ≤ i ∧ i < (n : Int) ∧ p i = true ∧ ∀ j : Int, 0 ≤ j → j < i → p j = false
  | 0 => by simp [findU]; omega
  | n + 1 => by
    have ih := findU_some (p := p) (i := i) (n := n)
    have hn : findU p n = none ↔ ∀ j : Int, 0 ≤ j → j < (n : Int) → p j = false := by
      clear ih
      induction n with
      | zero => simp [findU]; intro j a b; omega
      | succ n ih =>
        simp only [findU]
        cases hf : findU p n with
        | some j =>
          simp only [reduceCtorEq, false_iff]
          intro hall
          have := ih.2 fun j a b => hall j a (by omega)
          rw [hf] at this; simp at this
        | none =>
          simp only
          have hi := ih.1 hf
          cases hp : p n with
          | true => simp; exact ⟨n, by omega, by omega, hp⟩
          | false =>
            simp
            intro j a b
            by_cases hj : j = n
            · rw [hj]; exact hp
            · exact hi j a (by omega)
    simp only [findU]
    cases hf : findU p n with
    | some j =>
      rw [hf] at ih
      simp only
      rw [ih]
      constructor
      · rintro ⟨a, b, c, d⟩; exact ⟨a, by omega, c, d⟩
      · rintro ⟨a, b, c, d⟩
        refine ⟨a, ?_, c, d⟩
        rcases Int.lt_or_le i n with h | h
        · exact h
        · exfalso
          have := hn.2 fun j' a' b' => d j' a' (by omega)
          rw [hf] at this; simp at this
    | none =>
      have hnone := hn.1 hf
      simp only
      by_cases hp : p n = true
      · rw [if_pos hp]
        simp only [Option.some.injEq]
        constructor
        · rintro rfl; exact ⟨by omega, by omega, hp, hnone⟩
        · rintro ⟨a, b, c, d⟩
          rcases Int.lt_or_le i n with h | h
          · rw [hnone i a h] at c; simp at c
          · omega
      · rw [if_neg hp]
        simp only [reduceCtorEq, false_iff]
        rintro ⟨a, b, c, d⟩
        by_cases hj : i = n
        · rw [hj] at c; exact hp c
        · rw [hnone i a (by omega)] at c; simp at c

theorem findU_none {p : Int → Bool} {n : Nat} : findU p n = none ↔ ∀ j : Int, 0 ≤ j → j < (n : Int) → p j = false := by
  constructor
  · intro h j a b
    cases hp : p j with
    | false => rfl
    | true =>
      exfalso
      -- the least such one is found
      have : ∀ (k : Nat) (j : Int), j.toNat < k → 0 ≤ j → j < (n : Int) → p j = true → False := by
        intro k
        induction k with
        | zero => intro j hj; omega
        | succ k ih =>
          intro j hj a b hp
          by_cases hall : ∀ i : Int, 0 ≤ i → i < j → p i = false
          · have := findU_some.2 ⟨a, b, hp, hall⟩
            rw [h] at this; simp at this
          · have : ∃ i : Int, 0 ≤ i ∧ i < j ∧ p i = true := by
              refine Classical.byContradiction fun hc => hall fun i i0 i1 => ?_
              cases hpi : p i with
              | false => rfl
              | true => exact absurd ⟨i, i0, i1, hpi⟩ hc
            obtain ⟨i, i0, i1, i2⟩ := this
            exact ih i (by omega) i0 (by omega) i2
      exact this _ j (Nat.lt_succ_self _) a b hp
  · intro h
    cases hf : findU p n with
    | none => rfl
    | some i =>
      obtain ⟨a, b, c, _⟩ := findU_some.1 hf
      rw [h i a b] at c; simp at c

/-- Free: not told yet, and all whose arrows come to it are. -/
def FreeP (n : Int) (l : List (Int × Int)) (out : List Int) (i : Int) : Prop := i ∉ out ∧ ∀ e ∈ l, e.2 = i → 0 ≤ e.1 → e.1 < n → e.1 ∈ out
instance (n : Int) (l : List (Int × Int)) (out : List Int) (i : Int) : Decidable (FreeP n l out i) := by unfold FreeP; infer_instance

def nextF (n : Int) (l : List (Int × Int)) (out : List Int) : Option Int := findU (fun i => decide (FreeP n l out i)) n.toNat

/-- k more. -/
def ordL (n : Int) (l : List (Int × Int)) : Nat → List Int → Option (List Int)
  | 0, out => some out
  | k + 1, out => match nextF n l out with
    | none => none
    | some i => ordL n l k (out ++ [i])

/-- The numbers that are told: each once, and behind those whose arrows come to it. -/
structure OrdOk (n : Int) (l : List (Int × Int)) (out : List Int) : Prop where
  nodup : out.Nodup
  rng : ∀ i ∈ out, 0 ≤ i ∧ i < n
  ahead : ∀ (k : Nat) (h : k < out.length) (x : Int), RR n l x out[k] → x ∈ out.take k

theorem OrdOk.nil {n : Int} {l : List (Int × Int)} : OrdOk n l [] := ⟨List.nodup_nil, (fun i h => by cases h), (fun k h => by simp at h)⟩

theorem OrdOk.snoc {n : Int} {l : List (Int × Int)} {out : List Int} (h : OrdOk n l out) {i : Int} (hi : nextF n l out = some i) : OrdOk n l (out ++ [i]) := by
  obtain ⟨a, b, c, _⟩ := findU_some.1 hi
  simp only [decide_eq_true_eq] at c
  refine ⟨?_, fun j hj => ?_, fun k hk x hx => ?_⟩
  · rw [List.nodup_append]
    exact ⟨h.nodup, by simp, fun u hu v hv huv => by rw [List.mem_singleton.1 hv] at huv; rw [huv] at hu; exact c.1 hu⟩
  · rcases List.mem_append.1 hj with hj | hj
    · exact h.rng j hj
    · rw [List.mem_singleton.1 hj]; omega
  · rw [List.getElem_append] at hx
    split at hx
    · rename_i hlt
      rw [List.take_append_of_le_length (by omega)]
      exact h.ahead k hlt x hx
    · simp only [List.length_append, List.length_singleton] at hk
      have hk' : k = out.length := by omega
      subst hk'
      rw [List.take_left]
      simp only [Nat.sub_self, List.getElem_cons_zero] at hx
      exact c.2 (x, i) hx.1 rfl hx.2.1 hx.2.2.1

theorem ordL_ok {n : Int} {l : List (Int × Int)} : ∀ {k : Nat} {out o : List Int}, ordL n l k out = some o → OrdOk n l out → OrdOk n l o ∧ o.length = out.length + k
  | 0, out, o, h, hk => by simp only [ordL, Option.some.injEq] at h; subst h; exact ⟨hk, rfl⟩
  | k + 1, out, o, h, hk => by
    simp only [ordL] at h
    split at h
    · simp at h
    · rename_i i hi
      obtain ⟨h1, h2⟩ := ordL_ok h (hk.snoc hi)
      exact ⟨h1, by rw [h2]; simp; omega⟩

theorem pigeon : ∀ {l1 l2 : List Int}, l1.Nodup → l1 ⊆ l2 → l1.length ≤ l2.length
  | [], _, _, _ => by simp
  | a :: t, l2, hn, hs => by
    rw [List.nodup_cons] at hn
    have ha : a ∈ l2 := hs (List.mem_cons_self ..)
    have := pigeon (l1 := t) (l2 := l2.erase a) hn.2 fun x hx => by
      have hne : x ≠ a := fun hc => hn.1 (hc ▸ hx)
      exact (List.mem_erase_of_ne hne).2 (hs (List.mem_cons_of_mem _ hx))
    rw [List.length_erase_of_mem ha] at this
    have := List.length_pos_of_mem ha
    simp only [List.length_cons]
    omega

def idxL (n : Int) : List Int := (List.range n.toNat).map fun (k : Nat) => (k : Int)
theorem mem_idxL {n i : Int} : i ∈ idxL n ↔ 0 ≤ i ∧ i < n := by
  unfold idxL
  rw [List.mem_map]
  constructor
  · rintro ⟨k, hk, rfl⟩; rw [List.mem_range] at hk; omega
  · rintro ⟨a, b⟩; exact ⟨i.toNat, by rw [List.mem_range]; omega, by omega⟩
theorem idxL_nodup {n : Int} : (idxL n).Nodup := by
  unfold List.Nodup idxL
  rw [List.pairwise_map]
  refine List.Pairwise.imp (fun {a b} hab => ?_) (List.nodup_range (n := n.toNat))
  omega
theorem idxL_len {n : Int} : (idxL n).length = n.toNat := by simp [idxL]

/-- There is one that is not told, if they are fewer than n. -/
theorem missing {n : Int} {out : List Int} (hl : (out.length : Int) < n) : ∃ i : Int, 0 ≤ i ∧ i < n ∧ i ∉ out := by
  refine Classical.byContradiction fun hc => ?_
  have := pigeon (idxL_nodup (n := n)) (l2 := out) fun i hi => Classical.byContradiction fun hi' => hc ⟨i, (mem_idxL.1 hi).1, (mem_idxL.1 hi).2, hi'⟩
  rw [idxL_len] at this
  omega

theorem full {n : Int} {out : List Int} (hn : out.Nodup) (hr : ∀ i ∈ out, 0 ≤ i ∧ i < n) (hl : (out.length : Int) = n) {i : Int} (h0 : 0 ≤ i) (h1 : i < n) : i ∈ out := by
  refine Classical.byContradiction fun hc => ?_
  have := pigeon (l1 := i :: out) (l2 := idxL n) (List.nodup_cons.2 ⟨hc, hn⟩) fun j hj => by
    rcases List.mem_cons.1 hj with rfl | hj
    · exact mem_idxL.2 ⟨h0, h1⟩
    · exact mem_idxL.2 (hr j hj)
  rw [idxL_len] at this
  simp at this
  omega

theorem OrdOk.le {n : Int} {l : List (Int × Int)} {out : List Int} (h : OrdOk n l out) (hn : 0 ≤ n) : (out.length : Int) ≤ n := by
  have := pigeon h.nodup (l2 := idxL n) fun j hj => mem_idxL.2 (h.rng j hj)
  rw [idxL_len] at this
  omega

/-- All whose arrows come to one that is told are told. -/
theorem OrdOk.down {n : Int} {l : List (Int × Int)} {out : List Int} (h : OrdOk n l out) {x y : Int} (hy : y ∈ out) (hr : RR n l x y) : x ∈ out := by
  obtain ⟨k, hk, rfl⟩ := List.getElem_of_mem hy
  exact List.mem_of_mem_take (h.ahead k hk x hr)

/-- WITHOUT A RING there is always a free one. -/
theorem next_of {n : Int} {l : List (Int × Int)} (hnr : ¬ RingP n l) {out : List Int} (hl : (out.length : Int) < n) : ∃ i, nextF n l out = some i := by
  obtain ⟨rank, hb, hd⟩ := rank_of hnr
  obtain ⟨i0, a0, b0, c0⟩ := missing hl
  -- of those that are not told, one of the highest rank
  have : ∃ i : Int, 0 ≤ i ∧ i < n ∧ i ∉ out ∧ ∀ j : Int, 0 ≤ j → j < n → j ∉ out → rank j ≤ rank i := by
    have key : ∀ (d : Nat) (i : Int), n.toNat - rank i < d → 0 ≤ i → i < n → i ∉ out → ∃ i : Int, 0 ≤ i ∧ i < n ∧ i ∉ out ∧ ∀ j : Int, 0 ≤ j → j < n → j ∉ out → rank j ≤ rank i := by
      intro d
      induction d with
      | zero => intro i h; omega
      | succ d ih =>
        intro i hd a b c
        by_cases hall : ∀ j : Int, 0 ≤ j → j < n → j ∉ out → rank j ≤ rank i
        · exact ⟨i, a, b, c, hall⟩
        · have : ∃ j : Int, 0 ≤ j ∧ j < n ∧ j ∉ out ∧ rank i < rank j := Classical.byContradiction fun hc => hall fun j j0 j1 j2 => by
            rcases Nat.lt_or_ge (rank i) (rank j) with h | h
            · exact absurd ⟨j, j0, j1, j2, h⟩ hc
            · exact h
          obtain ⟨j, j0, j1, j2, j3⟩ := this
          have := hb j
          exact ih j (by omega) j0 j1 j2
    exact key _ i0 (Nat.lt_succ_self _) a0 b0 c0
  obtain ⟨i, a, b, c, hmax⟩ := this
  cases hf : nextF n l out with
  | some j => exact ⟨j, rfl⟩
  | none =>
    have := findU_none.1 hf i a (by omega)
    simp only [decide_eq_false_iff_not] at this
    refine absurd ⟨c, fun e he h2 h3 h4 => ?_⟩ this
    refine Classical.byContradiction fun hx => ?_
    obtain ⟨u, v⟩ := e
    simp only at h2 h3 h4 hx
    subst h2
    have := hd u v ⟨he, h3, h4, a, b⟩
    have := hmax u h3 h4 hx
    omega

theorem ordL_some {n : Int} {l : List (Int × Int)} (hnr : ¬ RingP n l) : ∀ {k : Nat} {out : List Int}, (out.length : Int) + k = n → ∃ o, ordL n l k out = some o
  | 0, out, _ => ⟨out, rfl⟩
  | k + 1, out, h => by
    obtain ⟨i, hi⟩ := next_of hnr (out := out) (by omega)
    simp only [ordL, hi]
    exact ordL_some hnr (by simp; omega)

/-- Where all are told there is no ring. -/
theorem no_ring {n : Int} {l : List (Int × Int)} {o : List Int} (h : OrdOk n l o) (hl : (o.length : Int) = n) : ¬ RingP n l := by
  rintro ⟨i, a, b, ht⟩
  -- along arrows the place in the list grows
  have key : ∀ x y, Relation.TransGen (RR n l) x y → ∀ (k : Nat) (hk : k < o.length), o[k] = y → x ∈ o.take k := by
    intro x y ht
    induction ht with
    | single hr => intro k hk hy; subst hy; exact h.ahead k hk x hr
    | tail hab hr ih =>
      intro k hk hy
      subst hy
      have hm := h.ahead k hk _ hr
      obtain ⟨j, hj, he⟩ := List.getElem_of_mem hm
      rw [List.getElem_take] at he
      rw [List.length_take] at hj
      have := ih j (by omega) he
      exact List.mem_of_mem_take (i := j) (by rwa [List.take_take, Nat.min_eq_left (by omega)])
  have hm := full h.nodup h.rng hl a b
  obtain ⟨k, hk, he⟩ := List.getElem_of_mem hm
  have := key i i ht k hk he
  obtain ⟨j, hj, he2⟩ := List.getElem_of_mem this
  rw [List.getElem_take] at he2
  rw [List.length_take] at hj
  have := (List.pairwise_iff_getElem.1 h.nodup) j k (by omega) hk (by omega)
  exact this (by rw [he, he2])

theorem ring_iff {n : Int} {l : List (Int × Int)} (hn : 0 ≤ n) : ordL n l n.toNat [] = none ↔ RingP n l := by
  constructor
  · intro h
    refine Classical.byContradiction fun hc => ?_
    obtain ⟨o, ho⟩ := ordL_some hc (k := n.toNat) (out := []) (by simp; omega)
    rw [h] at ho; simp at ho
  · intro h
    cases ho : ordL n l n.toNat [] with
    | none => rfl
    | some o =>
      obtain ⟨h1, h2⟩ := ordL_ok ho OrdOk.nil
      exact absurd h (no_ring h1 (by rw [h2]; simp; omega))

/-! ### the program's order -/

def valid (n : Int) (e : Int × Int) : Bool := decide (0 ≤ e.1 ∧ e.1 < n ∧ 0 ≤ e.2 ∧ e.2 < n)
/-- How many arrows come to k from those that are not told. -/
def deg (n : Int) (l : List (Int × Int)) (out : List Int) (k : Int) : Nat := l.countP fun e => valid n e && (e.2 == k && !(decide (e.1 ∈ out)))

theorem countP_split {α : Type} {p q r : α → Bool} : ∀ {l : List α}, (∀ a ∈ l, p a = (q a || r a) ∧ (q a && r a) = false) → l.countP p = l.countP q + l.countP r
  | [], _ => rfl
  | a :: l, h => by
    have ih := countP_split (l := l) fun b hb => h b (List.mem_cons_of_mem _ hb)
    obtain ⟨h1, h2⟩ := h a (List.mem_cons_self ..)
    simp only [List.countP_cons, ih, h1]
    cases hq : q a <;> cases hr : r a <;> simp [hq, hr] at h2 ⊢ <;> omega

theorem count_outs {n : Int} {x y : Int} : ∀ {l : List (Int × Int)}, (outs n l x).count y = l.countP fun e => valid n e && (e.1 == x && e.2 == y)
  | [] => rfl
  | e :: l => by
    have ih := count_outs (n := n) (x := x) (y := y) (l := l)
    unfold outs at ih ⊢
    rw [List.filterMap_cons, List.countP_cons]
    by_cases hc : e.1 = x ∧ 0 ≤ e.1 ∧ e.1 < n ∧ 0 ≤ e.2 ∧ e.2 < n
    · rw [if_pos hc]
      simp only [List.count_cons, ih]
      congr 1
      have h1 : valid n e = true := by simp only [valid, decide_eq_true_eq]; exact hc.2
      have h2 : (e.1 == x) = true := by simpa using hc.1
      rw [h1, h2]; simp
    · rw [if_neg hc]
      simp only [ih]
      have : (valid n e && (e.1 == x && e.2 == y)) = false := by
        cases hv : valid n e
        · rfl
        · simp only [valid, decide_eq_true_eq] at hv
          have : e.1 ≠ x := fun h => hc ⟨h, hv⟩
          simp [this]
      rw [this]; simp

theorem deg_snoc {n : Int} {l : List (Int × Int)} {out : List Int} {k y : Int} (hk : k ∉ out) : deg n l out y = deg n l (out ++ [k]) y + (outs n l k).count y := by
  rw [count_outs]
  unfold deg
  refine countP_split fun e _ => ?_
  cases valid n e with
  | false => simp
  | true =>
    by_cases h1 : e.2 = y
    · by_cases h2 : e.1 = k
      · subst h2; simp [h1, hk]
      · by_cases h3 : e.1 ∈ out <;> simp [h1, h2, h3]
    · have h1' : (e.2 == y) = false := by simpa using h1
      simp [h1']

theorem deg_le {n : Int} {l : List (Int × Int)} {out : List Int} {k : Int} : deg n l out k ≤ l.length := List.countP_le_length

theorem free_deg {n : Int} {l : List (Int × Int)} {out : List Int} {k : Int} (h0 : 0 ≤ k) (h1 : k < n) : FreeP n l out k ↔ k ∉ out ∧ deg n l out k = 0 := by
  unfold FreeP deg
  rw [List.countP_eq_zero]
  refine and_congr_right fun _ => ⟨fun h e he hc => ?_, fun h e he h2 h3 h4 => ?_⟩
  · simp only [valid, Bool.and_eq_true, decide_eq_true_eq, beq_iff_eq, Bool.not_eq_true', decide_eq_false_iff_not] at hc
    exact hc.2.2 (h e he hc.2.1 hc.1.1 hc.1.2.1)
  · refine Classical.byContradiction fun hx => h e he ?_
    simp only [valid, Bool.and_eq_true, decide_eq_true_eq, beq_iff_eq, Bool.not_eq_true', decide_eq_false_iff_not]
    exact ⟨⟨h3, h4, by omega, by omega⟩, h2, hx⟩
end Go.Tom
