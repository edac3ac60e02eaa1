/- The program's long numbers, of rows with noughts at their end: quotients, words, bits; sums and products of many. -/
import Derived.Test.YtomdhjdgcfcjdaaGreatDoorPN13
set_option linter.unusedVariables false
set_option linter.unusedSimpArgs false
namespace Go.Tom
open Go

theorem nat_Cut_is {a : List Int} {x : Nat} (h : Is a x) (hl : a.length ≤ 10000000) : nat_Cut a = some (d32 x) := by
  rw [nat_Cut_eq h.1 hl, h.2, Int.toNat_natCast]

section
variable {a b : List Int} {x y : Nat} (ha : Is a x) (hb : Is b y) (la : a.length ≤ 1000000) (lb : b.length ≤ 1000000)
include ha hb la lb

theorem nat_Gcd_is : nat_Gcd a b = some (d32 (Nat.gcd x y)) := by
  have h1 := ha.len
  have h2 := hb.len
  have e : nat_Gcd a b = nat_Gcd (d32 x) (d32 y) := by
    unfold nat_Gcd
    rw [nat_Cut_is ha (by omega), nat_Cut_is hb (by omega), nat_Cut_d32 (x := x) (by omega), nat_Cut_d32 (x := y) (by omega)]
  rw [e]
  exact nat_Gcd_eq (by omega) (by omega)

theorem nat_Div_is : nat_Div a b = some (if y = 0 then ([], [], false) else (d32 (x / y), d32 (x % y), true)) := by
  have h1 := ha.len
  have h2 := hb.len
  have e : nat_Div a b = nat_Div (d32 x) (d32 y) := by
    unfold nat_Div
    rw [nat_Cut_is ha (by omega), nat_Cut_is hb (by omega), nat_Cut_d32 (x := x) (by omega), nat_Cut_d32 (x := y) (by omega)]
  rw [e]
  by_cases hy : y = 0
  · rw [if_pos hy, hy, d32_zero]
    exact nat_Div_zero (by omega)
  · rw [if_neg hy]
    exact nat_Div_eq (by omega) (by omega) (by omega)
end

theorem d32_le16' {x : Nat} : (d32 x).length ≤ (d16 x).length := d32_len x
theorem gcd_size' {a b k : Nat} (ha : (d16 a).length ≤ k) (hb : (d16 b).length ≤ k) : (d16 (Nat.gcd a b)).length ≤ k := by
  rcases Nat.eq_zero_or_pos b with h | h
  · rw [h, Nat.gcd_zero_right]; exact ha
  · exact Nat.le_trans (d16_mono (Nat.gcd_le_right a h)) hb
theorem lcm_size' {x y : Nat} : (d16 (Nat.lcm x y)).length ≤ (d16 x).length + (d16 y).length := by
  refine Nat.le_trans (d16_mono ?_) (d16_mul x y)
  exact Nat.div_le_self _ _

/-- Rows of digits, and the numbers that they are. -/
def IsL (l : List (List Int × Nat)) : Prop := ∀ q ∈ l, Is q.1 q.2 ∧ q.1.length ≤ 10000

theorem sum_size : ∀ {l : List (List Int × Nat)}, IsL l → (d32 (l.map (·.2)).sum).length ≤ 10000 + l.length
  | [], _ => by simp [d32_zero]
  | q :: l, h => by
    have ih := sum_size (l := l) fun r hr => h r (List.mem_cons_of_mem _ hr)
    have hq := h q (List.mem_cons_self ..)
    have h1 := hq.1.len
    have h2 := d32_add q.2 (l.map (·.2)).sum
    simp only [List.map_cons, List.sum_cons, List.length_cons]
    have := hq.2
    omega
theorem prod_size : ∀ {l : List (List Int × Nat)}, IsL l → (d32 (l.map (·.2)).prod).length ≤ 10000 * l.length + 1
  | [], _ => dg_len b32 (by simp)
  | q :: l, h => by
    have ih := prod_size (l := l) fun r hr => h r (List.mem_cons_of_mem _ hr)
    have hq := h q (List.mem_cons_self ..)
    have h1 := hq.1.len
    have h2 := d32_mul q.2 (l.map (·.2)).prod
    simp only [List.map_cons, List.prod_cons, List.length_cons]
    have := hq.2
    omega
theorem IsL.take {l : List (List Int × Nat)} (h : IsL l) (i : Nat) : IsL (l.take i) := fun q hq => h q (List.mem_of_mem_take hq)

theorem rd_fst {l : List (List Int × Nat)} {i : Nat} (hi : i < l.length) : rd ([] : List Int) (l.map (·.1)) (i : Int) = l[i].1 := by
  rw [rd_eq i rfl (by rw [List.length_map]; exact hi), List.getElem_map]

theorem nat_Add_is {l : List (List Int × Nat)} (h : IsL l) (hl : l.length ≤ 100) : nat_Add (l.map (·.1)) = some (d32 (l.map (·.2)).sum) := by
  rw [← Tot.eq_iff]
  unfold nat_Add
  refine Tot.loop (fun s => ∃ i : Nat, s = (d32 ((l.take i).map (·.2)).sum, (i : Int)) ∧ i ≤ l.length) (fun s => ((l.length : Int) - s.2).toNat) (fun s hs => ?_) ⟨0, by simp [d32_zero], Nat.zero_le _⟩
  obtain ⟨i, rfl, hi⟩ := hs
  show Tot (nat_Add_b1 (l.map (·.1)) (d32 ((l.take i).map (·.2)).sum) (i : Int)) _
  unfold nat_Add_b1
  rw [List.length_map]
  rcases Nat.lt_or_ge i l.length with hlt | hge
  · have hw : IntKind.i64.wrap ((i : Int) + 1) = ((i + 1 : Nat) : Int) := by rw [w64 (by omega) (by omega)]; omega
    have hq := h l[i] (List.getElem_mem hlt)
    have hsz := sum_size (h.take i)
    rw [List.length_take] at hsz
    rw [decide_eq_true (show (i : Int) < (l.length : Int) by omega), cond_true]
    refine Tot.ass_iff.2 ⟨⟨by omega, by omega⟩, ?_⟩
    have hq2 := hq.2
    rw [Tot.bnd_iff, rd_fst hlt, nat_plus_is (Is.d32 _) hq.1 (by omega) (by omega), Option.bind_some, Tot.bnd_iff, hw]
    refine Tot.some_iff.2 (Nx.inl_iff.2 ⟨⟨i + 1, ?_, hlt⟩, by simp only; omega⟩)
    rw [List.take_succ_eq_append_getElem hlt, List.map_append, List.sum_append]
    simp
  · obtain rfl : i = l.length := by omega
    rw [decide_eq_false (by omega), cond_false]
    exact Tot.some_iff.2 (Nx.inr_iff.2 (by rw [List.take_length]))

theorem nat_Mul_is {l : List (List Int × Nat)} (h : IsL l) (hl : l.length ≤ 100) : nat_Mul (l.map (·.1)) = some (d32 (l.map (·.2)).prod) := by
  rw [← Tot.eq_iff]
  unfold nat_Mul
  rw [show nat_Of (1 : Int) = some (d32 1) from nat_Of_eq (n := 1) (by omega), Option.bind_some]
  refine Tot.loop (fun s => ∃ i : Nat, s = (d32 ((l.take i).map (·.2)).prod, (i : Int)) ∧ i ≤ l.length) (fun s => ((l.length : Int) - s.2).toNat) (fun s hs => ?_) ⟨0, by simp, Nat.zero_le _⟩
  obtain ⟨i, rfl, hi⟩ := hs
  show Tot (nat_Mul_b1 (l.map (·.1)) (d32 ((l.take i).map (·.2)).prod) (i : Int)) _
  unfold nat_Mul_b1
  rw [List.length_map]
  rcases Nat.lt_or_ge i l.length with hlt | hge
  · have hw : IntKind.i64.wrap ((i : Int) + 1) = ((i + 1 : Nat) : Int) := by rw [w64 (by omega) (by omega)]; omega
    have hq := h l[i] (List.getElem_mem hlt)
    have hsz := prod_size (h.take i)
    rw [List.length_take] at hsz
    rw [decide_eq_true (show (i : Int) < (l.length : Int) by omega), cond_true]
    refine Tot.ass_iff.2 ⟨⟨by omega, by omega⟩, ?_⟩
    have hq2 := hq.2
    rw [Tot.bnd_iff, rd_fst hlt, nat_times_is (Is.d32 _) hq.1 (by omega) (by omega), Option.bind_some, Tot.bnd_iff, hw]
    refine Tot.some_iff.2 (Nx.inl_iff.2 ⟨⟨i + 1, ?_, hlt⟩, by simp only; omega⟩)
    rw [List.take_succ_eq_append_getElem hlt, List.map_append, List.prod_append]
    simp
  · obtain rfl : i = l.length := by omega
    rw [decide_eq_false (by omega), cond_false]
    exact Tot.some_iff.2 (Nx.inr_iff.2 (by rw [List.take_length]))

theorem nat_Lcm_is {a b : List Int} {x y : Nat} (ha : Is a x) (hb : Is b y) (la : a.length ≤ 10000) (lb : b.length ≤ 10000) : nat_Lcm a b = some (d32 (Nat.lcm x y)) := by
  have h1 := ha.len
  have h2 := hb.len
  rw [← Tot.eq_iff]
  unfold nat_Lcm
  have hgl : (d32 (Nat.gcd x y)).length ≤ 10000 := by
    rcases Nat.eq_zero_or_pos x with h | h
    · subst h; rw [Nat.gcd_zero_left]; omega
    · have := d32_mono (Nat.gcd_le_left y h); omega
  rw [nat_Gcd_is ha hb (by omega) (by omega), Option.bind_some, nat_Div_is ha (Is.d32 _) (by omega) (by omega), Option.bind_some]
  by_cases hg : Nat.gcd x y = 0
  · rw [if_pos hg, Bool.not_false, cond_true]
    have hx0 : x = 0 := Nat.eq_zero_of_gcd_eq_zero_left hg
    subst hx0
    exact Tot.some_iff.2 (by simp [d32_zero, Nat.lcm])
  · rw [if_neg hg, Bool.not_true, cond_false]
    have hq := d32_mono (Nat.div_le_self x (Nat.gcd x y))
    have hm := nat_Mul_is (l := [(d32 (x / Nat.gcd x y), x / Nat.gcd x y), (b, y)]) (fun q hq' => by
      rcases List.mem_cons.1 hq' with rfl | hq'
      · exact ⟨Is.d32 _, by simp only; omega⟩
      · rw [List.mem_singleton.1 hq']; exact ⟨hb, lb⟩) (by simp)
    simp only [List.map_cons, List.map_nil, List.prod_cons, List.prod_nil, Nat.mul_one] at hm
    rw [hm, Option.bind_some]
    refine Tot.some_iff.2 ?_
    congr 1
    unfold Nat.lcm
    rw [Nat.div_mul_right_comm (Nat.gcd_dvd_left x y)]

/-- How many bits. -/
def NBits (x n : Nat) : Prop := x < 2 ^ n ∧ (n = 0 ∨ 2 ^ (n - 1) ≤ x)
theorem NBits.uniq {x n m : Nat} (h : NBits x n) (h' : NBits x m) : n = m := by
  have key : ∀ {n m : Nat}, NBits x n → NBits x m → n ≤ m := fun {n m} h h' => by
    rcases Nat.lt_or_ge m n with hc | hc
    · exfalso
      rcases h.2 with h0 | h0
      · omega
      · have : 2 ^ m ≤ 2 ^ (n - 1) := Nat.pow_le_pow_right (by omega) (by omega)
        have := h'.1
        omega
    · exact hc
  exact Nat.le_antisymm (key h h') (key h' h)

theorem nat_Bits_is {a : List Int} {x : Nat} (h : Is a x) (hl : a.length ≤ 1000000) : ∃ n : Nat, nat_Bits a = some (n : Int) ∧ NBits x n := by
  have hx : (d32 x).length ≤ 1000000 := Nat.le_trans h.len hl
  have main : Tot (nat_Bits a) (fun r => ∃ n : Nat, r = (n : Int) ∧ NBits x n) := by
    simp only [nat_Bits, nat_Cut_is h (show a.length ≤ 10000000 by omega), Option.bind_some]
    by_cases h0 : (d32 x).length = 0
    · have e : (((d32 x).length : Int) == 0) = true := by rw [h0]; rfl
      have := d32_nil h0
      rw [e, cond_true]
      exact Tot.some_iff.2 ⟨0, rfl, by rw [this]; exact ⟨by simp, .inl rfl⟩⟩
    · have e : (((d32 x).length : Int) == 0) = false := by simp; exact fun hc => h0 (by rw [hc]; rfl)
      obtain ⟨n, hn⟩ : ∃ n, (d32 x).length = n + 1 := ⟨(d32 x).length - 1, by omega⟩
      have w1 : IntKind.i64.wrap (((d32 x).length : Int) - 1) = (n : Int) := by rw [w64 (by omega) (by omega)]; omega
      have htop : dgt 4294967296 x n ≠ 0 := fun hc => by
        have := dg_top b32 (n := x) (fun h => h0 (by rw [d32, h]; rfl))
        rw [show (dg 4294967296 x).length - 1 = n from by have : (dg 4294967296 x).length = n + 1 := hn; omega, rd_dgt b32, hc] at this
        exact this rfl
      have htl := dgt_lt (B := 4294967296) (x := x) (i := n) (by omega)
      have hx1 : x < 4294967296 ^ (n + 1) := by rw [← hn]; exact dg_lt b32
      have hxd : dgt 4294967296 x n = x / 4294967296 ^ n := by
        unfold dgt
        exact Nat.mod_eq_of_lt (Nat.div_lt_of_lt_mul (by rw [← Nat.pow_succ]; exact hx1))
      obtain ⟨v, hv⟩ : ∃ v, v = dgt 4294967296 x n := ⟨_, rfl⟩
      rw [← hv] at htop htl hxd
      have hbb := Lib.bitLenAux_bounds 64 v (by omega) htop
      have hL : Lib.bitLen v = Lib.bitLenAux 64 v := rfl
      rw [← hL] at hbb
      have hle : Lib.bitLen v ≤ 32 := by
        rcases Nat.lt_or_ge 32 (Lib.bitLen v) with hc | hc
        · have : 2 ^ 32 ≤ 2 ^ (Lib.bitLen v - 1) := Nat.pow_le_pow_right (by omega) (by omega)
          omega
        · exact hc
      obtain ⟨L, hLL⟩ : ∃ L, L = Lib.bitLen v := ⟨_, rfl⟩
      rw [← hLL] at hle hbb
      have hL1 : 1 ≤ L := hbb.1
      have w2 : IntKind.i64.wrap ((32 : Int) * (n : Int)) = 32 * (n : Int) := w64 (by omega) (by omega)
      have w3 : IntKind.i64.wrap (32 * (n : Int) + (L : Int)) = 32 * (n : Int) + (L : Int) := w64 (by omega) (by omega)
      rw [e, cond_false, w1]
      simp only [rd_dgt b32, ← hv, math_bits_Len32, Int.toNat_natCast, ← hLL, w2, w3, cond_some, Tot.cond_iff, Tot.ass_iff, Tot.bnd_iff, Tot.some_iff, Tot.map_iff, Tot.bind_iff, Nx.inl_iff, Nx.inr_iff, decide_eq_true_eq, decide_eq_false_iff_not]
      refine ⟨⟨by omega, by omega⟩, ⟨by omega, by omega⟩, 32 * n + L, by omega, ?_⟩
      have hP : (4294967296 : Nat) ^ n = 2 ^ (32 * n) := by rw [Nat.pow_mul]
      have hPp : 0 < 2 ^ (32 * n) := Nat.pos_of_ne_zero (by simp)
      rw [hP] at hxd
      refine ⟨?_, .inr ?_⟩
      · have h1 : x < (v + 1) * 2 ^ (32 * n) := by
          rw [hxd]
          have := Nat.div_add_mod x (2 ^ (32 * n))
          have := Nat.mod_lt x hPp
          rw [Nat.add_mul, Nat.one_mul, Nat.mul_comm]
          omega
        have h2 : (v + 1) * 2 ^ (32 * n) ≤ 2 ^ L * 2 ^ (32 * n) := Nat.mul_le_mul_right _ (by have := hbb.2.2; omega)
        rw [Nat.pow_add, Nat.mul_comm (2 ^ (32 * n))]
        omega
      · have h1 : v * 2 ^ (32 * n) ≤ x := by rw [hxd]; exact Nat.div_mul_le_self ..
        have h2 : 2 ^ (L - 1) * 2 ^ (32 * n) ≤ v * 2 ^ (32 * n) := Nat.mul_le_mul_right _ (by have := hbb.2.1; omega)
        rw [show 32 * n + L - 1 = (L - 1) + 32 * n from by omega, Nat.pow_add]
        omega
  obtain ⟨r, h1, n, rfl, h2⟩ := main
  exact ⟨n, h1, h2⟩

theorem nat_Word_is {a : List Int} {x : Nat} (h : Is a x) (hl : a.length ≤ 1000000) : nat_Word a = some (if x < 18446744073709551616 then ((x : Int), true) else (0, false)) := by
  have hx : (d32 x).length ≤ 1000000 := Nat.le_trans h.len hl
  have e : nat_Word a = nat_Word (d32 x) := by
    unfold nat_Word
    have e1 : nat_Bits a = nat_Bits (d32 x) := by
      unfold nat_Bits
      rw [nat_Cut_is h (by omega), nat_Cut_d32 (by omega)]
    have e2 : ∀ i : Nat, nat_at a (i : Int) = nat_at (d32 x) (i : Int) := fun i => by rw [nat_at_eq _ (by omega), nat_at_eq _ (by omega), h.rd, (Is.d32 x).rd]
    have e20 : nat_at a 0 = nat_at (d32 x) 0 := e2 0
    have e21 : nat_at a 1 = nat_at (d32 x) 1 := e2 1
    rw [e1, e20, e21]
  rw [e]
  exact nat_Word_eq (by omega)

end Go.Tom
