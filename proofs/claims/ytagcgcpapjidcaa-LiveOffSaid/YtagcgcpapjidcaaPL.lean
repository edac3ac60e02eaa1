/- Rows that are built one by one; what is struck out of a row; whom a coin funds, by the program. -/
import Derived.Test.YtagcgcpapjidcaaPJ
import Derived.Test.YtagcgcpapjidcaaPD
set_option linter.unusedVariables false
set_option linter.unusedSimpArgs false
namespace Go.Tom
open Go

theorem loop_build {α : Type} {step : List α × Int → Option ((List α × Int) ⊕ List α)} (f : Int → List α) (n : Nat) (h : ∀ x : Int, 0 ≤ x → x < (n : Int) → step (buildL f x.toNat, x) = some (.inl (buildL f x.toNat ++ f x, x + 1)))
    (he : step (buildL f n, (n : Int)) = some (.inr (buildL f n))) : loopM step (([] : List α), (0 : Int)) = some (buildL f n) := by
  rw [← Tot.eq_iff]
  refine Tot.loop (fun x => 0 ≤ x.2 ∧ x.2 ≤ (n : Int) ∧ x.1 = buildL f x.2.toNat) (fun x => ((n : Int) - x.2).toNat) (fun x hx => ?_) ⟨by omega, by simp, rfl⟩
  obtain ⟨acc, x⟩ := x
  simp only at hx
  obtain ⟨h0, h1, rfl⟩ := hx
  by_cases hlt : x < (n : Int)
  · rw [h x h0 hlt]
    simp only [cond_some, Tot.cond_iff, Tot.ass_iff, Tot.bnd_iff, Tot.some_iff, Tot.map_iff, Tot.bind_iff, Nx.inl_iff, Nx.inr_iff, decide_eq_true_eq, decide_eq_false_iff_not]
    exact ⟨⟨by omega, by omega, (buildL_step h0).symm⟩, by omega⟩
  · have hx : x = (n : Int) := by omega
    subst hx
    simp only [Int.toNat_natCast]
    rw [he]
    simp only [cond_some, Tot.cond_iff, Tot.ass_iff, Tot.bnd_iff, Tot.some_iff, Tot.map_iff, Tot.bind_iff, Nx.inl_iff, Nx.inr_iff, decide_eq_true_eq, decide_eq_false_iff_not]

theorem filter_take {z : Int} {xs : List Int} {q : Int → Bool} {x : Int} (h0 : 0 ≤ x) (h1 : x < (xs.length : Int)) : (xs.take (x + 1).toNat).filter q = (xs.take x.toNat).filter q ++ (if q (rd z xs x) = true then [rd z xs x] else []) := by
  rw [take_rd (z := z) h0 h1, List.filter_append]
  congr 1
  simp only [List.filter_cons, List.filter_nil]

theorem buildL_filter {z : Int} {xs : List Int} {q : Int → Bool} {n : Nat} (hn : n ≤ xs.length) : buildL (fun k => if q (rd z xs k) = true then [rd z xs k] else []) n = (xs.take n).filter q := by
  induction n with
  | zero => rfl
  | succ n ih =>
    have hs := buildL_step (f := fun k => if q (rd z xs k) = true then [rd z xs k] else []) (x := (n : Int)) (by omega)
    have ht := filter_take (z := z) (xs := xs) (q := q) (x := (n : Int)) (by omega) (by omega)
    have e1 : ((n : Int) + 1).toNat = n + 1 := by omega
    rw [e1, Int.toNat_natCast] at hs ht
    rw [hs, ht, ih (by omega)]

theorem slices_IndexFunc_int_tot (l : List Int) (p : Int → Option Bool) (q : Int → Bool) (hl : l.length ≤ 100000) (hp : ∀ x ∈ l, p x = some (q x)) :
    Tot (slices_IndexFunc_int_int l p) (fun r => (r = -1 ∧ ∀ x ∈ l, q x = false) ∨ (0 ≤ r ∧ r < (l.length : Int) ∧ q (rd 0 l r) = true ∧ ∀ x ∈ l.take r.toNat, q x = false)) := by
  unfold slices_IndexFunc_int_int
  refine Tot.loop (fun x => 0 ≤ x ∧ x ≤ (l.length : Int) ∧ ∀ y ∈ l.take x.toNat, q y = false) (fun x => ((l.length : Int) - x).toNat) (fun x hx => ?_) ⟨by omega, by omega, fun y hy => by simp at hy⟩
  obtain ⟨h0, h1, h2⟩ := hx
  have hw1 : IntKind.i64.wrap (x + 1) = x + 1 := w64 (by omega) (by omega)
  simp only [slices_IndexFunc_int_int_b1, slices_IndexFunc_int_int_j1, hw1, cond_some, Tot.cond_iff, Tot.ass_iff, Tot.bnd_iff, Tot.some_iff, Tot.map_iff, Tot.bind_iff, Nx.inl_iff, Nx.inr_iff, decide_eq_true_eq, decide_eq_false_iff_not]
  refine ⟨fun hlt => ⟨⟨h0, hlt⟩, ?_⟩, fun hge => .inl ⟨by trivial, fun y hy => h2 y ?_⟩⟩
  · rw [hp _ (rd_mem h0 hlt)]
    simp only [cond_some, Tot.cond_iff, Tot.ass_iff, Tot.bnd_iff, Tot.some_iff, Tot.map_iff, Tot.bind_iff, Nx.inl_iff, Nx.inr_iff, decide_eq_true_eq, decide_eq_false_iff_not]
    refine ⟨fun hq => .inr ⟨h0, hlt, hq, h2⟩, fun hq => ⟨⟨by omega, by omega, fun y hy => ?_⟩, by omega⟩⟩
    rw [take_rd (z := 0) h0 hlt] at hy
    rcases List.mem_append.1 hy with hy | hy
    · exact h2 y hy
    · rw [List.mem_singleton.1 hy]; exact hq
  · rw [List.take_of_length_le (by omega)]; exact hy

/-- What is struck out. -/
theorem slices_DeleteFunc_int_eq (l : List Int) (p : Int → Option Bool) (q : Int → Bool) (hl : l.length ≤ 100000) (hp : ∀ x ∈ l, p x = some (q x)) : slices_DeleteFunc_int_int l p = some (l.filter fun x => !(q x)) := by
  rw [← Tot.eq_iff]
  simp only [slices_DeleteFunc_int_int, cond_some, Tot.cond_iff, Tot.ass_iff, Tot.bnd_iff, Tot.some_iff, Tot.map_iff, Tot.bind_iff, Nx.inl_iff, Nx.inr_iff, decide_eq_true_eq, decide_eq_false_iff_not]
  refine (slices_IndexFunc_int_tot l p q hl hp).mono fun r hr => ?_
  have hall : ∀ {l' : List Int}, (∀ x ∈ l', q x = false) → l'.filter (fun x => !(q x)) = l' := fun h => List.filter_eq_self.2 fun x hx => by rw [h x hx]; rfl
  refine ⟨fun h1 => ?_, fun h1 => ?_⟩
  · simp only [Bool.and_eq_true, Bool.or_eq_true, Bool.not_eq_true', Bool.and_eq_false_iff, Bool.or_eq_false_iff, Bool.not_eq_false', beq_iff_eq, bne_iff_ne, beq_eq_false_iff_ne, bne_eq_false_iff_eq, decide_eq_true_eq, decide_eq_false_iff_not] at h1
    rcases hr with ⟨_, hr⟩ | ⟨h0, _⟩
    · exact (hall hr).symm
    · omega
  · simp only [Bool.and_eq_true, Bool.or_eq_true, Bool.not_eq_true', Bool.and_eq_false_iff, Bool.or_eq_false_iff, Bool.not_eq_false', beq_iff_eq, bne_iff_ne, beq_eq_false_iff_ne, bne_eq_false_iff_eq, decide_eq_true_eq, decide_eq_false_iff_not] at h1
    rcases hr with ⟨h2, _⟩ | ⟨h0, h2, h3, h4⟩
    · exact absurd h2 h1
    have hw : IntKind.i64.wrap (r + 1) = r + 1 := w64 (by omega) (by omega)
    rw [hw]
    refine Tot.loop (fun x => x.1.length = l.length ∧ 0 ≤ x.2.1 ∧ x.2.1 < x.2.2 ∧ x.2.2 ≤ (l.length : Int) ∧ x.1.take x.2.1.toNat = (l.take x.2.2.toNat).filter (fun x => !(q x)) ∧ ∀ k : Int, x.2.2 ≤ k → rd 0 x.1 k = rd 0 l k) (fun x => ((l.length : Int) - x.2.2).toNat) (fun x hx => ?_)
      ⟨rfl, h0, by simp only; omega, by simp only; omega, ?_, fun k _ => rfl⟩
    · obtain ⟨a, i, j⟩ := x
      simp only at hx
      obtain ⟨g0, g1, g2, g3, g4, g5⟩ := hx
      have hw1 : IntKind.i64.wrap (i + 1) = i + 1 := w64 (by omega) (by omega)
      have hw2 : IntKind.i64.wrap (j + 1) = j + 1 := w64 (by omega) (by omega)
      simp only [slices_DeleteFunc_int_int_b1, slices_DeleteFunc_int_int_j1, slices_DeleteFunc_int_int_j2, hw1, hw2, g0, cond_some, Tot.cond_iff, Tot.ass_iff, Tot.bnd_iff, Tot.some_iff, Tot.map_iff, Tot.bind_iff, Nx.inl_iff, Nx.inr_iff, decide_eq_true_eq, decide_eq_false_iff_not]
      refine ⟨fun hlt => ⟨⟨by omega, hlt⟩, ?_⟩, fun hge => ?_⟩
      · rw [g5 j (by omega), hp _ (rd_mem (by omega) hlt)]
        simp only [cond_some, Tot.cond_iff, Tot.ass_iff, Tot.bnd_iff, Tot.some_iff, Tot.map_iff, Tot.bind_iff, Nx.inl_iff, Nx.inr_iff, decide_eq_true_eq, decide_eq_false_iff_not]
        have hft := filter_take (z := 0) (q := fun x => !(q x)) (xs := l) (x := j) (by omega) hlt
        refine ⟨fun hq => ⟨⟨g1, by omega⟩, ⟨by rw [wr_length]; exact g0, by omega, by omega, by omega, ?_, fun k hk => ?_⟩, by omega⟩, fun hq => ⟨⟨trivial, g1, by omega, by omega, ?_, fun k hk => g5 k (by omega)⟩, by omega⟩⟩
        · rw [hft, if_pos hq, ← g4, take_rd (z := 0) g1 (by rw [wr_length]; omega), rd_wr g1 (by omega) g1, if_pos rfl]
          congr 1
          unfold wr
          rw [List.take_set_of_le (by omega)]
        · rw [rd_wr g1 (by omega) (by omega), if_neg (by omega)]
          exact g5 k (by omega)
        · rw [hft, if_neg (by rw [hq]; simp), List.append_nil]
          exact g4
      · have hj : j = (l.length : Int) := by omega
        subst hj
        rw [Int.toNat_natCast, List.take_length] at g4
        have hcl := clr_len (xs := a) (l := i) (h := (l.length : Int)) g1 (by omega) (by omega)
        refine ⟨⟨g1, by omega, by omega⟩, ⟨by omega, g1, by omega⟩, ?_⟩
        rw [← g4]
        unfold sl clr
        rw [List.take_append_of_le_length (by simp; omega)]
        simp [List.take_take]
    · rw [filter_take (z := 0) h0 h2, if_neg (by rw [h3]; simp), List.append_nil, hall h4]

theorem state_Coin_eq (s : D_api_State) (i : Int) : state_Coin s i = some (@decide (CoinP s i) (Classical.propDecidable _)) := by
  refine Tot.dec ?_
  unfold CoinP
  simp only [state_Coin, state_get_bool, state_coinUsed, cond_some, Tot.cond_iff, Tot.ass_iff, Tot.bnd_iff, Tot.some_iff, Tot.map_iff, Tot.bind_iff, Nx.inl_iff, Nx.inr_iff, decide_eq_true_eq, decide_eq_false_iff_not]
  grind

theorem state_CoinArrows_eq (s : D_api_State) (hn : s.2.1.length ≤ 100000) : state_CoinArrows s = some (coinArrows s) := by
  unfold state_CoinArrows coinArrows
  refine loop_build (fun k => coinArr (rd z_api_Ticket s.2.1 k)) _ (fun x h0 h1 => ?_) ?_
  · have hw1 : IntKind.i64.wrap (x + 1) = x + 1 := w64 (by omega) (by omega)
    have hlen := buildL_len (f := fun k => coinArr (rd z_api_Ticket s.2.1 k)) (c := 1) (fun k => coinArr_len _) (n := x.toNat)
    rw [← Tot.eq_iff]
    simp only [state_CoinArrows_b1, state_CoinArrows_j1, state_CoinArrows_j2, hw1, cond_some, Tot.cond_iff, Tot.ass_iff, Tot.bnd_iff, Tot.some_iff, Tot.map_iff, Tot.bind_iff, Nx.inl_iff, Nx.inr_iff, decide_eq_true_eq, decide_eq_false_iff_not]
    refine ⟨fun _ => ⟨⟨h0, h1⟩, fun hb => ⟨?_, ?_⟩, fun hb => ?_⟩, fun hge => absurd h1 hge⟩
    · simp only [List.length_singleton]; unfold limA; omega
    · simp only [Bool.and_eq_true, Bool.or_eq_true, Bool.not_eq_true', Bool.and_eq_false_iff, Bool.or_eq_false_iff, Bool.not_eq_false', beq_iff_eq, bne_iff_ne, beq_eq_false_iff_ne, bne_eq_false_iff_eq, decide_eq_true_eq, decide_eq_false_iff_not] at hb
      simp [coinArr, hb]
    · simp only [Bool.and_eq_true, Bool.or_eq_true, Bool.not_eq_true', Bool.and_eq_false_iff, Bool.or_eq_false_iff, Bool.not_eq_false', beq_iff_eq, bne_iff_ne, beq_eq_false_iff_ne, bne_eq_false_iff_eq, decide_eq_true_eq, decide_eq_false_iff_not] at hb
      have : coinArr (rd z_api_Ticket s.2.1 x) = [] := by unfold coinArr; rw [if_neg]; grind
      rw [this, List.append_nil]
  · rw [← Tot.eq_iff]
    simp only [state_CoinArrows_b1, state_CoinArrows_j1, cond_some, Tot.cond_iff, Tot.ass_iff, Tot.bnd_iff, Tot.some_iff, Tot.map_iff, Tot.bind_iff, Nx.inl_iff, Nx.inr_iff, decide_eq_true_eq, decide_eq_false_iff_not]
    exact ⟨fun hc => absurd hc (by omega), fun _ => trivial⟩

theorem coinArrows_len {s : D_api_State} : (coinArrows s).length ≤ s.2.1.length := by
  have := buildL_len (f := fun k => coinArr (rd z_api_Ticket s.2.1 k)) (c := 1) (fun k => coinArr_len _) (n := s.2.1.length)
  unfold coinArrows
  omega

/-- One coin funds another. -/
def FundsP (s : D_api_State) (a b : Int) : Prop := CoinP s a ∧ CoinP s b ∧ Relation.TransGen (RR s.1.length (coinArrows s)) a b

theorem fund_Funds_eq (s : D_api_State) (a b : Int) (h1 : s.1.length ≤ 4096) (h2 : s.2.1.length ≤ 10000) : fund_Funds s a b = some (@decide (FundsP s a b) (Classical.propDecidable _)) := by
  classical
  have hcl : clampN (s.1.length : Int) = s.1.length := clamp_eq (by omega) (by omega)
  have hal := coinArrows_len (s := s)
  have hdag := dag_Comes_eq (s.1.length : Int) (coinArrows s) a b (by omega)
  rw [hcl] at hdag
  refine Tot.dec ?_
  unfold FundsP
  simp only [fund_Funds, state_Coin_eq, state_CoinArrows_eq s (by omega), cond_some, Tot.cond_iff, Tot.ass_iff, Tot.bnd_iff, Tot.some_iff, Tot.map_iff, Tot.bind_iff, Nx.inl_iff, Nx.inr_iff, decide_eq_true_eq, decide_eq_false_iff_not]
  by_cases ha : CoinP s a <;> by_cases hb : CoinP s b <;> simp [ha, hb, hdag, Tot.some_iff]

theorem fund_Closes_eq (s : D_api_State) (a b : Int) (h1 : s.1.length ≤ 4096) (h2 : s.2.1.length ≤ 10000) : fund_Closes s a b = some (@decide ((CoinP s a ∧ a = b) ∨ FundsP s b a) (Classical.propDecidable _)) := by
  classical
  refine Tot.dec ?_
  simp only [fund_Closes, state_Coin_eq, fund_Funds_eq s b a h1 h2, cond_some, Tot.cond_iff, Tot.ass_iff, Tot.bnd_iff, Tot.some_iff, Tot.map_iff, Tot.bind_iff, Nx.inl_iff, Nx.inr_iff, decide_eq_true_eq, decide_eq_false_iff_not]
  by_cases ha : CoinP s a <;> by_cases hb : a = b <;> by_cases hf : FundsP s b a <;> simp_all [Tot.some_iff]

/-- The used coins, each ahead of those that it funds. -/
def fundOrd (s : D_api_State) : List Int := ((ordL s.1.length (coinArrows s) s.1.length []).getD []).filter fun c => rd false s.1 c

theorem fund_Order_eq (s : D_api_State) (h1 : s.1.length ≤ 4096) (h2 : s.2.1.length ≤ 10000) (hnr : ¬ RingP s.1.length (coinArrows s)) : ∃ o, ordL s.1.length (coinArrows s) s.1.length [] = some o ∧ OrdOk s.1.length (coinArrows s) o ∧ o.length = s.1.length ∧ fundOrd s = o.filter (fun c => rd false s.1 c) ∧ fund_Order s = some (fundOrd s) := by
  have hcl : clampN (s.1.length : Int) = s.1.length := clamp_eq (by omega) (by omega)
  have hal := coinArrows_len (s := s)
  have hord := dag_Order_eq (s.1.length : Int) (coinArrows s) (by omega)
  rw [hcl, Int.toNat_natCast] at hord
  cases ho : ordL s.1.length (coinArrows s) s.1.length [] with
  | none =>
    have := (ring_iff (n := s.1.length) (l := coinArrows s) (by omega)).1 (by rw [Int.toNat_natCast]; exact ho)
    exact absurd this hnr
  | some o =>
    obtain ⟨hok, hol⟩ := ordL_ok ho OrdOk.nil
    simp only [List.length_nil, Nat.zero_add] at hol
    have hfo : fundOrd s = o.filter (fun c => rd false s.1 c) := by simp [fundOrd, ho]
    refine ⟨o, rfl, hok, hol, hfo, ?_⟩
    rw [ho] at hord
    rw [hfo, ← Tot.eq_iff]
    simp only [fund_Order, state_CoinArrows_eq s (by omega), hord, ordRes, cond_some, Tot.cond_iff, Tot.ass_iff, Tot.bnd_iff, Tot.some_iff, Tot.map_iff, Tot.bind_iff, Nx.inl_iff, Nx.inr_iff, decide_eq_true_eq, decide_eq_false_iff_not]
    rw [slices_DeleteFunc_int_eq o _ (fun c => !(rd false s.1 c)) (by omega) (fun x hx => ?_), Tot.some_iff]
    · simp
    · rw [← Tot.eq_iff]
      simp only [fund_Order_c1, cond_some, Tot.cond_iff, Tot.ass_iff, Tot.bnd_iff, Tot.some_iff, Tot.map_iff, Tot.bind_iff, Nx.inl_iff, Nx.inr_iff, decide_eq_true_eq, decide_eq_false_iff_not]
      exact ⟨(hok.rng x hx), trivial⟩
end Go.Tom
