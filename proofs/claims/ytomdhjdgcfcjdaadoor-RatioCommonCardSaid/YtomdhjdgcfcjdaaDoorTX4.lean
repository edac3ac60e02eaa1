/- Chapter 3: its example, and the laws of numbers. -/
import Derived.Test.YtomdhjdgcfcjdaaDoorTX3
set_option linter.unusedVariables false
set_option linter.unusedSimpArgs false
namespace Go.Tom
open Go

theorem Dg_wf' {l : List Int} (h : Wf (.slice (.int .u32)) l) : Dg 4294967296 l := by
  intro x hx
  have := h.2 x hx
  simp only [Wf, Lit.wf, Bool.and_eq_true, decide_eq_true_eq] at this
  have e1 : IntKind.u32.min = 0 := rfl
  have e2 : IntKind.u32.max = 4294967295 := rfl
  rw [e1, e2] at this
  omega
theorem u64_wf {x : Int} (h : Wf (.int .u64) x) : ∃ n : Nat, x = (n : Int) ∧ n ≤ 18446744073709551615 := by
  simp only [Wf, Lit.wf, Bool.and_eq_true, decide_eq_true_eq] at h
  have e1 : IntKind.u64.min = 0 := rfl
  have e2 : IntKind.u64.max = 18446744073709551615 := rfl
  rw [e1, e2] at h
  exact ⟨x.toNat, by omega, by omega⟩

theorem len16 {a : List Int} {x : Nat} (h : Is a x) : (d16 x).length ≤ 2 * a.length := by
  refine dg_len b16 ?_
  have := h.lt
  rw [Nat.pow_mul]
  exact this

theorem l03_is_eq (a : List Int) {x : Nat} (hx : (d16 x).length ≤ 1000) (ha : a.length ≤ 100000) : l03_is a (d16 x) = some (decide (a = d32 x)) := by
  unfold l03_is
  rw [r03_Out_eq (by omega), Option.bind_some, r03_Same_eq _ _ (by omega)]
  rfl

theorem d32_two : d32 4294967296 = [0, 1] := by
  rw [d32, dg_pos b32 (by omega), dg_pos b32 (by omega), show 4294967296 / 4294967296 / 4294967296 = 0 from rfl, dg_zero]
  rfl

theorem l03_alive_eq : l03_alive = some true := by
  have e1 : nat_Of (4294967296 : Int) = some (d32 4294967296) := nat_Of_eq (n := 4294967296) (by omega)
  have hN : Num [52, 50, 57, 52, 57, 54, 55, 50, 57, 54] := by decide
  have hp : pv [52, 50, 57, 52, 57, 54, 55, 50, 57, 54] = 4294967296 := by decide
  have e2 : nat_Parse (tx [52, 50, 57, 52, 57, 54, 55, 50, 57, 54]) = some (d32 4294967296, 0) := by
    rw [nat_Parse_eq _ (by simp), if_neg (by simp), if_pos hN, hp]
  have e3 : nat_Parse (tx [48, 49]) = some ([], 3) := by
    rw [nat_Parse_eq _ (by simp), if_neg (by simp), if_neg (by decide)]
  have hd : Lib.decDigits 4294967296 = [52, 50, 57, 52, 57, 54, 55, 50, 57, 54] := by simp [Lib.decDigits]
  have e4 : nat_Text [0, 1] = some (tx [52, 50, 57, 52, 57, 54, 55, 50, 57, 54]) := by
    rw [← d32_two, nat_Text_is (Is.d32 _) (by rw [d32_two]; simp), hd]
  have e5 : r03_Same [0, 1] [0, 1] = some true := by rw [r03_Same_eq _ _ (by simp)]; rfl
  unfold l03_alive
  rw [e1, Option.bind_some, e2, Option.bind_some, e3, Option.bind_some, d32_two, e5, Option.bind_some, cond_true, e4, Option.bind_some, ba_eq, decide_eq_true rfl, Bool.and_self, cond_true, Option.bind_some]
  rfl

theorem cmp_ge0 {x y : Nat} : decide (cmpN x y ≥ 0) = !decide (x < y) := by
  unfold cmpN
  by_cases h : x < y
  · rw [if_pos h, decide_eq_true h]; rfl
  · rw [if_neg h, decide_eq_false h]; split <;> rfl

theorem NatTells_eq (p0 p1 p2 : List Int) (p3 : Int) (hw0 : Wf (.slice (.int .u32)) p0) (hw1 : Wf (.slice (.int .u32)) p1) (hw2 : Wf (.slice (.int .u32)) p2) (hw3 : Wf (.int .u64) p3) : l03_NatTells p0 p1 p2 p3 = some true := by
  unfold l03_NatTells
  by_cases hl : p0.length > 40 ∨ p1.length > 40 ∨ p2.length > 40
  · have e : (((decide ((p0.length : Int) > 40)) || (decide ((p1.length : Int) > 40))) || (decide ((p2.length : Int) > 40))) = true := by
      rw [Bool.or_eq_true, Bool.or_eq_true, decide_eq_true_iff, decide_eq_true_iff, decide_eq_true_iff]; omega
    rw [e, cond_true, l03_alive_eq]; rfl
  have e : (((decide ((p0.length : Int) > 40)) || (decide ((p1.length : Int) > 40))) || (decide ((p2.length : Int) > 40))) = false := by
    rw [Bool.or_eq_false_iff, Bool.or_eq_false_iff]; exact ⟨⟨decide_eq_false (by omega), decide_eq_false (by omega)⟩, decide_eq_false (by omega)⟩
  have ha := Is.of (Dg_wf' hw0)
  have hb := Is.of (Dg_wf' hw1)
  have hc := Is.of (Dg_wf' hw2)
  have i0 := r03_In_eq (Dg_wf' hw0) (by omega)
  have i1 := r03_In_eq (Dg_wf' hw1) (by omega)
  have i2 := r03_In_eq (Dg_wf' hw2) (by omega)
  obtain ⟨x, hx⟩ : ∃ x, x = (vl 4294967296 p0).toNat := ⟨_, rfl⟩
  obtain ⟨y, hy⟩ : ∃ y, y = (vl 4294967296 p1).toNat := ⟨_, rfl⟩
  obtain ⟨z, hz⟩ : ∃ z, z = (vl 4294967296 p2).toNat := ⟨_, rfl⟩
  rw [← hx] at ha i0
  rw [← hy] at hb i1
  rw [← hz] at hc i2
  obtain ⟨n, rfl, hn⟩ := u64_wf hw3
  have lx := len16 ha
  have ly := len16 hb
  have lz := len16 hc
  have ln : (d16 n).length ≤ 4 := dg_len b16 (by omega)
  have ln32 : (d32 n).length ≤ 2 := dg_len b32 (by omega)
  have lx32 := ha.len
  have wd := nat_Word_is ha (by omega)
  have wd' := r01_Word_eq (x := x) (by omega)
  obtain ⟨W, hW⟩ : ∃ W : Int × Bool, W = if x < 18446744073709551616 then ((x : Int), true) else (0, false) := ⟨_, rfl⟩
  rw [← hW] at wd wd'
  have o1 := nat_Of_eq hn
  have o2 := r01_Of_eq hn
  have s1 : l03_is (d32 n) (d16 n) = some true := by rw [l03_is_eq _ (by omega) (by omega), decide_eq_true rfl]
  have c1 := nat_Cut_is ha (by omega)
  have s2 : l03_is (d32 x) (d16 x) = some true := by rw [l03_is_eq _ (by omega) (by omega), decide_eq_true rfl]
  obtain ⟨k1, b1, nb1⟩ := nat_Bits_is ha (by omega)
  obtain ⟨k2, b2, nb2⟩ := r03_Bits_is (x := x) (by omega)
  obtain rfl := nb1.uniq nb2
  have m1 := nat_Cmp_is ha hb (by omega) (by omega)
  have m2 := r01_Cmp_eq (x := x) (y := y) (by omega) (by omega)
  have su := nat_Sub_is ha hb (by omega) (by omega)
  have a3 := nat_Add_is (l := [(p0, x), (p1, y), (p2, z)]) (fun q hq => by
    simp only [List.mem_cons, List.not_mem_nil, or_false] at hq
    rcases hq with rfl | rfl | rfl
    · exact ⟨ha, by simp only; omega⟩
    · exact ⟨hb, by simp only; omega⟩
    · exact ⟨hc, by simp only; omega⟩) (by simp)
  simp only [List.map_cons, List.map_nil, List.sum_cons, List.sum_nil, Nat.add_zero] at a3
  have a0 := nat_Add_is (l := []) (fun q hq => by cases hq) (by simp)
  simp only [List.map_nil, List.sum_nil, d32_zero] at a0
  have q1 : r01_Add (d16 x) (d16 y) = some (d16 (x + y)) := r01_Add_eq (by omega) (by omega)
  have hxy := d16_add x y
  have q2 : r01_Add (d16 (x + y)) (d16 z) = some (d16 (x + y + z)) := r01_Add_eq (by omega) (by omega)
  have hxyz := d16_add (x + y) z
  have h32 := d32_le16' (x := x + (y + z))
  rw [← Nat.add_assoc] at h32 a3
  have s3 : l03_is (d32 (x + y + z)) (d16 (x + y + z)) = some true := by rw [l03_is_eq _ (by omega) (by omega), decide_eq_true rfl]
  rw [e, cond_false, i0, Option.bind_some, i1, Option.bind_some, i2, Option.bind_some, wd, Option.bind_some, wd', Option.bind_some, o1, Option.bind_some, o2, Option.bind_some, s1, Option.bind_some]
  simp only [Bool.not_true, Bool.not_false, cond_true, cond_false, c1, s2, Option.bind_some, Bool.or_self, Bool.false_or, Bool.or_false, bne_self_eq_false, b1, b2, m1, m2, su, cmp_ge0]
  by_cases hlt : x < y
  · simp [hlt, a3, q1, q2, s3, a0, l03_alive_eq, bnd]
  · have sb : r01_Sub (d16 x) (d16 y) = some (d16 (x - y)) := r01_Sub_eq (by omega) (by omega)
    have lxy := d16_mono (x := x - y) (y := x) (Nat.sub_le ..)
    have lxy32 := d32_mono (x := x - y) (y := x) (Nat.sub_le ..)
    have s4 : l03_is (d32 (x - y)) (d16 (x - y)) = some true := by rw [l03_is_eq _ (by omega) (by omega), decide_eq_true rfl]
    simp [hlt, a3, q1, q2, s3, a0, l03_alive_eq, bnd, sb, s4]

theorem NatMuls_eq (p0 p1 : List Int) (hw0 : Wf (.slice (.int .u32)) p0) (hw1 : Wf (.slice (.int .u32)) p1) : l03_NatMuls p0 p1 = some true := by
  unfold l03_NatMuls
  by_cases hl : p0.length > 24 ∨ p1.length > 24
  · have e : ((decide ((p0.length : Int) > 24)) || (decide ((p1.length : Int) > 24))) = true := by
      rw [Bool.or_eq_true, decide_eq_true_iff, decide_eq_true_iff]; omega
    rw [e, cond_true, l03_alive_eq]; rfl
  have e : ((decide ((p0.length : Int) > 24)) || (decide ((p1.length : Int) > 24))) = false := by
    rw [Bool.or_eq_false_iff]; exact ⟨decide_eq_false (by omega), decide_eq_false (by omega)⟩
  have ha := Is.of (Dg_wf' hw0)
  have hb := Is.of (Dg_wf' hw1)
  have i0 := r03_In_eq (Dg_wf' hw0) (by omega)
  have i1 := r03_In_eq (Dg_wf' hw1) (by omega)
  obtain ⟨x, hx⟩ : ∃ x, x = (vl 4294967296 p0).toNat := ⟨_, rfl⟩
  obtain ⟨y, hy⟩ : ∃ y, y = (vl 4294967296 p1).toNat := ⟨_, rfl⟩
  rw [← hx] at ha i0
  rw [← hy] at hb i1
  have lx := len16 ha
  have ly := len16 hb
  have mm := d16_mul x y
  have m2 := nat_Mul_is (l := [(p0, x), (p1, y)]) (fun q hq => by
    simp only [List.mem_cons, List.not_mem_nil, or_false] at hq
    rcases hq with rfl | rfl
    · exact ⟨ha, by simp only; omega⟩
    · exact ⟨hb, by simp only; omega⟩) (by simp)
  simp only [List.map_cons, List.map_nil, List.prod_cons, List.prod_nil, Nat.mul_one] at m2
  have m0 := nat_Mul_is (l := []) (fun q hq => by cases hq) (by simp)
  simp only [List.map_nil, List.prod_nil] at m0
  have dm : r01_Mul (d16 x) (d16 y) = some (d16 (x * y)) := r01_Mul_eq (by omega) (by omega)
  have same : ∀ {v : Nat}, (d16 v).length ≤ 200 → l03_is (d32 v) (d16 v) = some true := fun {v} h => by
    have := d32_le16' (x := v)
    rw [l03_is_eq _ (by omega) (by omega), decide_eq_true rfl]
  have lg := gcd_size' (a := x) (b := y) (k := 48) (by omega) (by omega)
  have ll := lcm_size' (x := x) (y := y)
  have g1 := nat_Gcd_is ha hb (by omega) (by omega)
  have g2 := r03_Gcd_eq (x := x) (y := y) (by omega) (by omega)
  have n1 := nat_Lcm_is ha hb (by omega) (by omega)
  have n2 := r03_Lcm_eq (x := x) (y := y) (by omega) (by omega)
  have o1 : r01_Of (1 : Int) = some (d16 1) := r01_Of_eq (n := 1) (by omega)
  have l1 : (d16 1).length ≤ 1 := dg_len b16 (by omega)
  have dv := nat_Div_is ha hb (by omega) (by omega)
  rw [e, cond_false, i0, Option.bind_some, i1, Option.bind_some, m2, Option.bind_some, dm, Option.bind_some, same (by omega), Option.bind_some]
  simp only [Bool.not_true, Bool.not_false, cond_true, cond_false, g1, g2, same (v := Nat.gcd x y) (by omega), n1, n2, same (v := Nat.lcm x y) (by omega), m0, o1, same (v := 1) (by omega), Option.bind_some, Bool.or_self, dv]
  by_cases hy0 : y = 0
  · have e2 : (((d16 y).length : Int) == 0) = true := by rw [hy0, d16_zero]; rfl
    rw [if_pos hy0, e2, cond_true]
    simp [l03_alive_eq, bnd]
  · have e2 : (((d16 y).length : Int) == 0) = false := by
      rw [beq_eq_false_iff_ne]; intro h; exact hy0 (d16_nil (by omega))
    have dd : r01_Div (d16 x) (d16 y) = some (d16 (x / y), d16 (x % y)) := r01_Div_eq (by omega) (by omega) (by omega)
    have h1 := d16_mono (x := x / y) (y := x) (Nat.div_le_self ..)
    have h2 := d16_mono (x := x % y) (y := x) (Nat.mod_le ..)
    rw [if_neg hy0, e2, cond_false, dd, Option.bind_some]
    simp [same (v := x / y) (by omega), same (v := x % y) (by omega), l03_alive_eq, bnd]

theorem NatTexts_eq (p0 : List Int) (p1 : ByteArray) (hw0 : Wf (.slice (.int .u32)) p0) (hw1 : Wf .str p1) : l03_NatTexts p0 p1 = some true := by
  unfold l03_NatTexts
  obtain ⟨l, rfl⟩ : ∃ l, p1 = tx l := ⟨_, ba_tx p1⟩
  rw [ba_size]
  by_cases hl : p0.length > 20 ∨ (l.length > 300 ∧ l.length ≤ 4096) ∨ l.length > 5000
  · have e : (((decide ((p0.length : Int) > 20)) || ((decide ((l.length : Int) > 300)) && (decide ((l.length : Int) ≤ 4096)))) || (decide ((l.length : Int) > 5000))) = true := by
      rw [Bool.or_eq_true, Bool.or_eq_true, Bool.and_eq_true, decide_eq_true_iff, decide_eq_true_iff, decide_eq_true_iff, decide_eq_true_iff]; omega
    rw [e, cond_true, l03_alive_eq]; rfl
  have e : (((decide ((p0.length : Int) > 20)) || ((decide ((l.length : Int) > 300)) && (decide ((l.length : Int) ≤ 4096)))) || (decide ((l.length : Int) > 5000))) = false := by
    rw [Bool.eq_false_iff, Ne, Bool.or_eq_true, Bool.or_eq_true, Bool.and_eq_true, decide_eq_true_iff, decide_eq_true_iff, decide_eq_true_iff, decide_eq_true_iff]; omega
  have ha := Is.of (Dg_wf' hw0)
  have i0 := r03_In_eq (Dg_wf' hw0) (by omega)
  obtain ⟨x, hx⟩ : ∃ x, x = (vl 4294967296 p0).toNat := ⟨_, rfl⟩
  rw [← hx] at ha i0
  have lx := len16 ha
  have lx32 := ha.len
  have hdig : (Lib.decDigits x).length ≤ 200 := by
    rw [Lib.decDigits_length]
    have h1 : x < 4294967296 ^ p0.length := ha.lt
    have h2 : 4294967296 ^ p0.length ≤ 4294967296 ^ 20 := Nat.pow_le_pow_right (by omega) (by omega)
    have h3 : 4294967296 ^ 20 < 10 ^ 200 := by decide
    exact nd_le (k := 199) (by omega)
  obtain ⟨hN, hpv⟩ := dd_num x
  have t1 := nat_Text_is ha (by omega)
  have t2 := nat_Parse_eq (Lib.decDigits x) (by omega)
  rw [if_neg (by omega), if_pos hN, hpv] at t2
  have t3 := nat_Parse_eq l (by omega)
  have t4 := r03_Parse_eq l (by omega)
  have t5 := r03_Text_eq (x := x) (by omega)
  have c1 := nat_Cut_is ha (by omega)
  have s1 : r03_Same (d32 x) (d32 x) = some true := by rw [r03_Same_eq _ _ (by omega), decide_eq_true rfl]
  rw [e, cond_false, t1, Option.bind_some, t2, Option.bind_some, t3, Option.bind_some, t4, Option.bind_some, i0, Option.bind_some, t5, Option.bind_some, ba_eq, decide_eq_true rfl]
  have fin : ∀ (v : Nat) (k : Int), (d16 v).length ≤ 1000 → l03_is (d32 v) (d16 v) = some true := fun v k h => by
    have := d32_le16' (x := v)
    rw [l03_is_eq _ (by omega) (by omega), decide_eq_true rfl]
  have s0 : l03_is [] [] = some true := by have := fin 0 0 (by rw [d16_zero]; simp); rwa [d32_zero, d16_zero] at this
  by_cases k1 : l.length > 4096
  · simp [k1, c1, s1, s0, l03_alive_eq, bnd]
  · by_cases k2 : Num l
    · have := pv_size k2.2.2
      have s2 := fin (pv l) 0 (by omega)
      simp [k1, k2, c1, s1, s2, l03_alive_eq, bnd]
    · simp [k1, k2, c1, s1, s0, l03_alive_eq, bnd]
end Go.Tom
