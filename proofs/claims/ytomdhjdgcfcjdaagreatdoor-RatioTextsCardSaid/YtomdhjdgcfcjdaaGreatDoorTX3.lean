/- The number of a text: the program's, and the document's. -/
import Derived.Test.YtomdhjdgcfcjdaaGreatDoorTX2
set_option linter.unusedVariables false
set_option linter.unusedSimpArgs false
namespace Go.Tom
open Go

/-- The number of digits. -/
def pv (l : List UInt8) : Nat := l.foldl (fun v c => 10 * v + (c.toNat - 48)) 0
abbrev isD (c : UInt8) : Prop := 48 ≤ c.toNat ∧ c.toNat ≤ 57
/-- A number's text. -/
def Num (l : List UInt8) : Prop := l ≠ [] ∧ (l.getD 0 0 = 48 → l = [48]) ∧ ∀ c ∈ l, isD c
instance (l : List UInt8) : Decidable (Num l) := by unfold Num; infer_instance

theorem pv_snoc (l : List UInt8) (c : UInt8) : pv (l ++ [c]) = 10 * pv l + (c.toNat - 48) := by simp [pv]
theorem pv_lt : ∀ {n : Nat} {l : List UInt8}, l.length = n → (∀ c ∈ l, isD c) → pv l < 10 ^ n := by
  intro n
  induction n with
  | zero => intro l h _; rw [List.eq_nil_of_length_eq_zero h]; simp [pv]
  | succ n ih =>
    intro l h hd
    obtain ⟨m, c, rfl⟩ : ∃ m c, l = m ++ [c] := by
      have hne : l ≠ [] := fun hc => by rw [hc] at h; simp at h
      exact ⟨l.dropLast, l.getLast hne, (List.dropLast_concat_getLast hne).symm⟩
    have h1 := ih (l := m) (by simp at h; exact h) fun x hx => hd x (List.mem_append_left _ hx)
    have h2 := (hd c (List.mem_append_right _ (List.mem_singleton.2 rfl))).2
    rw [pv_snoc, Nat.pow_succ]
    omega
theorem pv_size {l : List UInt8} (hd : ∀ c ∈ l, isD c) : (d32 (pv l)).length ≤ l.length ∧ (d16 (pv l)).length ≤ l.length := by
  have h := pv_lt rfl hd
  have h1 : 10 ^ l.length ≤ 4294967296 ^ l.length := Nat.pow_le_pow_left (by omega) _
  have h2 : 10 ^ l.length ≤ 65536 ^ l.length := Nat.pow_le_pow_left (by omega) _
  exact ⟨dg_len b32 (by omega), dg_len b16 (by omega)⟩

theorem bt_tx (l : List UInt8) (i : Nat) : bt (tx l) (i : Int) = ((l.getD i 0).toNat : Int) := by
  unfold bt tx
  rw [Int.toNat_natCast]
  simp [List.getD_eq_getElem?_getD, Array.getD_eq_getD_getElem?]

/-- Digits of a row, as many as the number has. -/
theorem is_full {a : List Int} {n : Nat} (h : Is a n) (hl : a.length ≤ (d32 n).length) : a = d32 n := by
  have hlen : a.length = (d32 n).length := Nat.le_antisymm hl h.len
  apply List.ext_getElem hlen
  intro i h1 h2
  have e1 := h.rd i
  have e2 := (Is.d32 n).rd i
  rw [rd_eq i rfl h1] at e1
  rw [rd_eq i rfl h2] at e2
  rw [e1, e2]

/-- Ten times a number, and a digit. -/
theorem parse_inner {v d i : Nat} (hv : (d32 v).length ≤ 100000) (hd : d ≤ 9) (hi : i ≤ 100000) :
    loopM (fun x : (List Int) × Int × Int => nat_Parse_b2 (d32 v) (i : Int) x.1 x.2.1 x.2.2) (d32 v, (d : Int), (0 : Int)) = some (.inl (d32 (10 * v + d), ((i + 1 : Nat) : Int))) := by
  rw [← Tot.eq_iff]
  obtain ⟨n, hn⟩ : ∃ n, n = (d32 v).length := ⟨_, rfl⟩
  have hwi : IntKind.i64.wrap ((i : Int) + 1) = ((i + 1 : Nat) : Int) := by rw [w64 (by omega) (by omega)]; omega
  refine Tot.loop (fun s => ∃ k : Nat, s.2.2 = (k : Int) ∧ k ≤ n ∧ s.1.length = n ∧ Dg 4294967296 s.1 ∧ 0 ≤ s.2.1 ∧ s.2.1 ≤ 9 ∧ vl 4294967296 s.1 + s.2.1 * ((4294967296 ^ k : Nat) : Int) = (v : Int) + (d : Int) + 9 * ((v % 4294967296 ^ k : Nat) : Int) ∧ (∀ j : Nat, k ≤ j → rd 0 s.1 (j : Int) = ((dgt 4294967296 v j : Nat) : Int)))
    (fun s => ((n : Int) - s.2.2).toNat) (fun s hs => ?_) ⟨0, rfl, Nat.zero_le _, hn.symm, dg_Dg b32, (show (0 : Int) ≤ (d : Int) by omega), (show (d : Int) ≤ 9 by omega), by simp [vl_dg b32, Nat.mod_one], fun j _ => (Is.d32 v).rd j⟩
  obtain ⟨l, o, k0⟩ := s
  obtain ⟨k, h1, h2, h3, h4, h5, h6, h7, h8⟩ := hs
  simp only at h1 h3 h4 h5 h6 h7 h8
  subst h1
  show Tot (nat_Parse_b2 (d32 v) (i : Int) l o (k : Int)) _
  unfold nat_Parse_b2
  rw [← hn]
  rcases Nat.lt_or_ge k n with hk | hk
  · obtain ⟨c, hc⟩ : ∃ c : Int, c = ((dgt 4294967296 v k : Nat) : Int) := ⟨_, rfl⟩
    have hcb := dgt_lt (B := 4294967296) (x := v) (i := k) (by omega)
    have hrd := h8 k (Nat.le_refl _)
    rw [← hc] at hrd
    have w1 : IntKind.u64.wrap c = c := u64i (by omega) (by omega)
    have w2 : IntKind.u64.wrap (10 * c) = 10 * c := u64i (by omega) (by omega)
    have w3 : IntKind.u64.wrap (o + 10 * c) = o + 10 * c := u64i (by omega) (by omega)
    have w4 : IntKind.i64.wrap ((k : Int) + 1) = ((k + 1 : Nat) : Int) := by rw [w64 (by omega) (by omega)]; omega
    rw [decide_eq_true (show (k : Int) < (n : Int) by omega), cond_true, hrd, w1, w2, w3]
    refine Tot.ass_iff.2 ⟨by omega, ?_⟩
    rw [Tot.bnd_iff]
    refine Tot.ass_iff.2 ⟨by omega, ?_⟩
    rw [Tot.bnd_iff]
    refine Tot.ass_iff.2 ⟨by decide, ?_⟩
    rw [fd32, u32m, Tot.bnd_iff, w4, Tot.bnd_iff]
    have q0 : 0 ≤ (o + 10 * c) / 4294967296 := by omega
    have q9 : (o + 10 * c) / 4294967296 ≤ 9 := by omega
    refine Tot.some_iff.2 (Nx.inl_iff.2 ⟨⟨k + 1, rfl, hk, by rw [wr_length]; exact h3, h4.wr (by omega) (by omega), q0, q9, ?_, fun j hj => ?_⟩, by simp only; omega⟩)
    · simp only
      rw [vl_wr (by omega), hrd, mod_up, Nat.pow_succ]
      simp only [Int.natCast_add, Int.natCast_mul, ← hc]
      generalize ((4294967296 ^ k : Nat) : Int) = M at h7 ⊢
      rw [show ((4294967296 : Nat) : Int) = 4294967296 from rfl]
      have hs : (o + 10 * c) % 4294967296 = (o + 10 * c) - 4294967296 * ((o + 10 * c) / 4294967296) := by omega
      rw [hs]
      generalize (o + 10 * c) / 4294967296 = q
      generalize ((v % 4294967296 ^ k : Nat) : Int) = V at h7 ⊢
      grind
    · simp only
      rw [rd_wr (by omega) (by omega) (by omega), if_neg (by omega)]
      exact h8 j (by omega)
  · have hkn : k = n := by omega
    subst hkn
    rw [decide_eq_false (Int.lt_irrefl _), cond_false]
    rw [dg_mod_len (x := v) (k := k) b32 (show (d32 v).length ≤ k by omega)] at h7
    have hval : vl 4294967296 l + o * ((4294967296 ^ k : Nat) : Int) = ((10 * v + d : Nat) : Int) := by rw [h7]; omega
    have j2 : ∀ y, nat_Parse_j2 (i : Int) y = some (.inl (y, ((i + 1 : Nat) : Int))) := fun y => by unfold nat_Parse_j2; rw [hwi]; rfl
    unfold nat_Parse_j3 nat_Parse_j4
    rw [j2]
    by_cases ho : o > 0
    · have w5 : IntKind.u32.wrap o = o := by rw [u32m]; omega
      rw [decide_eq_true ho, cond_true, w5]
      rw [Tot.map_iff]
      refine Tot.ass_iff.2 ⟨by simp only [List.length_singleton]; unfold limA; omega, ?_⟩
      rw [Tot.bnd_iff, j2]
      refine Tot.some_iff.2 (Nx.inr_iff.2 ?_)
      have hIs : Is (l ++ [o]) (10 * v + d) := by
        refine ⟨h4.snoc (by omega) (by omega), ?_⟩
        rw [vl_snoc, h3, ← hval, Int.mul_comm]
      have hf := is_full hIs (by
        rcases Nat.lt_or_ge k (d32 (10 * v + d)).length with h | h
        · rw [List.length_append, h3]; exact h
        · exfalso
          have h9 : 10 * v + d < 4294967296 ^ k := Nat.lt_of_lt_of_le (dg_lt b32) (Nat.pow_le_pow_right (by omega) (show (dg 4294967296 (10 * v + d)).length ≤ k from h))
          have hl0 := (vl_bound h4).1
          have : ((4294967296 ^ k : Nat) : Int) ≤ o * ((4294967296 ^ k : Nat) : Int) := by
            have := Int.mul_le_mul_of_nonneg_right (show (1 : Int) ≤ o by omega) (show (0 : Int) ≤ ((4294967296 ^ k : Nat) : Int) by omega)
            rwa [Int.one_mul] at this
          omega)
      rw [hf]
    · rw [decide_eq_false ho, cond_false]
      refine Tot.some_iff.2 (Nx.inr_iff.2 ?_)
      have ho0 : o = 0 := by omega
      rw [ho0, Int.zero_mul, Int.add_zero] at hval
      have hIs : Is l (10 * v + d) := ⟨h4, hval⟩
      have hf := is_full hIs (by
        rw [h3, hn]
        exact d32_mono (by omega))
      rw [hf]

theorem take_digits {l : List UInt8} {i : Nat} (hi : i < l.length) (h : ∀ c ∈ l.take i, isD c) (hd : isD l[i]) : ∀ c ∈ l.take (i + 1), isD c := fun c hc => by
  rw [List.take_succ_eq_append_getElem hi] at hc
  rcases List.mem_append.1 hc with hc | hc
  · exact h c hc
  · rw [List.mem_singleton.1 hc]; exact hd
theorem digit_val {c : UInt8} (h : isD c) : IntKind.u64.wrap (IntKind.u8.wrap (((c.toNat : Nat) : Int) - 48)) = ((c.toNat - 48 : Nat) : Int) ∧ c.toNat - 48 ≤ 9 := by
  have e1 : IntKind.u8.wrap (((c.toNat : Nat) : Int) - 48) = ((c.toNat - 48 : Nat) : Int) := by
    unfold IntKind.wrap; simp [IntKind.bits, IntKind.signed]; omega
  rw [e1]
  exact ⟨u64i (by omega) (by omega), by omega⟩

theorem nat_Parse_eq (l : List UInt8) (hl : l.length ≤ 100000) : nat_Parse (tx l) = some (if l.length > 4096 then ([], 5) else if Num l then (d32 (pv l), 0) else ([], 3)) := by
  rw [← Tot.eq_iff]
  unfold nat_Parse
  rw [ba_size, ba_nil, ba_eq, ba_eq]
  by_cases h1 : l.length > 4096
  · rw [decide_eq_true (show (l.length : Int) > 4096 by omega), cond_true, if_pos h1]
    exact Tot.some_iff.2 rfl
  rw [decide_eq_false (show ¬ (l.length : Int) > 4096 by omega), cond_false, if_neg h1]
  have htx : ∀ m : List UInt8, tx l = tx m ↔ l = m := fun m => ⟨fun h => by have := congrArg (fun b => b.data.toList) h; simpa [tx] using this, fun h => by rw [h]⟩
  have hb0 : bt (tx l) (0 : Int) = ((l.getD 0 0).toNat : Int) := bt_tx l 0
  refine Tot.ass_iff.2 ⟨fun h => ?_, ?_⟩
  · rw [Bool.not_eq_true', decide_eq_false_iff_not, htx] at h
    have : l.length ≠ 0 := fun hc => h (List.eq_nil_of_length_eq_zero hc)
    omega
  rw [hb0]
  by_cases h2 : l = [] ∨ (l.getD 0 0 = 48 ∧ l ≠ [48])
  · have hN : ¬ Num l := fun hc => by
      rcases h2 with h2 | h2
      · exact hc.1 h2
      · exact h2.2 (hc.2.1 h2.1)
    have e : (decide (tx l = tx []) || ((((l.getD 0 0).toNat : Int) == 48) && (!(decide (tx l = tx [48]))))) = true := by
      rw [Bool.or_eq_true, decide_eq_true_iff, htx, Bool.and_eq_true, beq_iff_eq, Bool.not_eq_true', decide_eq_false_iff_not, htx]
      rcases h2 with h2 | h2
      · exact .inl h2
      · exact .inr ⟨by rw [h2.1]; rfl, h2.2⟩
    rw [e, cond_true, if_neg hN]
    exact Tot.some_iff.2 rfl
  have e : (decide (tx l = tx []) || ((((l.getD 0 0).toNat : Int) == 48) && (!(decide (tx l = tx [48]))))) = false := by
    rw [Bool.or_eq_false_iff, decide_eq_false_iff_not, htx]
    refine ⟨fun hc => h2 (.inl hc), ?_⟩
    rw [Bool.and_eq_false_iff, beq_eq_false_iff_ne, Bool.not_eq_false', decide_eq_true_iff, htx]
    by_cases h3 : l = [48]
    · exact .inr h3
    · left
      intro hc
      refine h2 (.inr ⟨?_, h3⟩)
      have : (l.getD 0 0).toNat = 48 := by omega
      exact UInt8.toNat_inj.1 this
  rw [e, cond_false]
  have hN : Num l ↔ ∀ c ∈ l, isD c := ⟨fun h => h.2.2, fun h => ⟨fun hc => h2 (.inl hc), fun hc => Classical.byContradiction fun h3 => h2 (.inr ⟨hc, h3⟩), h⟩⟩
  refine Tot.loop (fun s => ∃ i : Nat, s = (d32 (pv (l.take i)), (i : Int)) ∧ i ≤ l.length ∧ ∀ c ∈ l.take i, isD c) (fun s => ((l.length : Int) - s.2).toNat) (fun s hs => ?_) ⟨0, by simp [pv, d32_zero], Nat.zero_le _, by simp⟩
  obtain ⟨i, rfl, hi, hd⟩ := hs
  show Tot (nat_Parse_b1 (tx l) (d32 (pv (l.take i))) (i : Int)) _
  unfold nat_Parse_b1
  rw [ba_size, bt_tx]
  rcases Nat.lt_or_ge i l.length with hlt | hge
  · have hgd : l.getD i 0 = l[i] := by rw [List.getD_eq_getElem?_getD, List.getElem?_eq_getElem hlt]; rfl
    rw [decide_eq_true (show (i : Int) < (l.length : Int) by omega), cond_true, hgd]
    refine Tot.ass_iff.2 ⟨by omega, Tot.ass_iff.2 ⟨fun _ => by omega, ?_⟩⟩
    by_cases hdi : isD l[i]
    · have e2 : (decide (((l[i].toNat : Nat) : Int) < 48) || decide (((l[i].toNat : Nat) : Int) > 57)) = false := by
        rw [Bool.or_eq_false_iff]; exact ⟨decide_eq_false (by omega), decide_eq_false (by omega)⟩
      obtain ⟨hdv, hd9⟩ := digit_val hdi
      rw [e2, cond_false, hdv]
      refine Tot.ass_iff.2 ⟨by omega, ?_⟩
      have hsz := (pv_size hd).1
      rw [List.length_take] at hsz
      rw [Tot.bnd_iff, parse_inner (by omega) hd9 (by omega)]
      have hpv : pv (l.take (i + 1)) = 10 * pv (l.take i) + (l[i].toNat - 48) := by rw [List.take_succ_eq_append_getElem hlt, pv_snoc]
      exact Tot.some_iff.2 (Nx.inl_iff.2 ⟨⟨i + 1, by rw [hpv], hlt, take_digits hlt hd hdi⟩, by simp only; omega⟩)
    · have e2 : (decide (((l[i].toNat : Nat) : Int) < 48) || decide (((l[i].toNat : Nat) : Int) > 57)) = true := by
        rw [Bool.or_eq_true, decide_eq_true_iff, decide_eq_true_iff]; omega
      rw [e2, cond_true, if_neg fun hc => hdi (hc.2.2 _ (List.getElem_mem hlt))]
      exact Tot.some_iff.2 (Nx.inr_iff.2 rfl)
  · obtain rfl : i = l.length := by omega
    rw [List.take_length] at hd ⊢
    rw [decide_eq_false (Int.lt_irrefl _), cond_false, if_pos (hN.2 hd)]
    exact Tot.some_iff.2 (Nx.inr_iff.2 rfl)

theorem r03_Parse_eq (l : List UInt8) (hl : l.length ≤ 100000) : r03_Parse (tx l) = some (if l.length > 4096 then ([], 5) else if Num l then (d16 (pv l), 0) else ([], 3)) := by
  rw [← Tot.eq_iff]
  unfold r03_Parse
  rw [ba_size]
  by_cases h1 : l.length > 4096
  · rw [decide_eq_true (show (l.length : Int) > 4096 by omega), cond_true, if_pos h1]
    exact Tot.some_iff.2 rfl
  rw [decide_eq_false (show ¬ (l.length : Int) > 4096 by omega), cond_false, if_neg h1]
  refine Tot.loop (fun s => ∃ i : Nat, s = (d16 (pv (l.take i)), (i : Int)) ∧ i ≤ l.length ∧ ∀ c ∈ l.take i, isD c) (fun s => ((l.length : Int) - s.2).toNat) (fun s hs => ?_) ⟨0, by simp [pv, d16_zero], Nat.zero_le _, by simp⟩
  obtain ⟨i, rfl, hi, hd⟩ := hs
  show Tot (r03_Parse_b1 (tx l) (d16 (pv (l.take i))) (i : Int)) _
  unfold r03_Parse_b1
  rw [ba_size, bt_tx]
  rcases Nat.lt_or_ge i l.length with hlt | hge
  · have hgd : l.getD i 0 = l[i] := by rw [List.getD_eq_getElem?_getD, List.getElem?_eq_getElem hlt]; rfl
    rw [decide_eq_true (show (i : Int) < (l.length : Int) by omega), cond_true, hgd]
    refine Tot.ass_iff.2 ⟨by omega, Tot.ass_iff.2 ⟨fun _ => by omega, ?_⟩⟩
    by_cases hdi : isD l[i]
    · have e2 : (decide (((l[i].toNat : Nat) : Int) < 48) || decide (((l[i].toNat : Nat) : Int) > 57)) = false := by
        rw [Bool.or_eq_false_iff]; exact ⟨decide_eq_false (by omega), decide_eq_false (by omega)⟩
      obtain ⟨hdv, hd9⟩ := digit_val hdi
      have hsz := (pv_size hd).2
      rw [List.length_take] at hsz
      have h10 : (d16 10).length ≤ 1 := dg_len b16 (by omega)
      have hdd : (d16 (l[i].toNat - 48)).length ≤ 1 := dg_len b16 (by omega)
      have hm := d16_mul (pv (l.take i)) 10
      have hw : IntKind.i64.wrap ((i : Int) + 1) = ((i + 1 : Nat) : Int) := by rw [w64 (by omega) (by omega)]; omega
      rw [e2, cond_false, show r01_Of (10 : Int) = some (d16 10) from r01_Of_eq (n := 10) (by omega), Option.bind_some, r01_Mul_eq (by omega) (by omega), Option.bind_some, hdv]
      refine Tot.ass_iff.2 ⟨by omega, ?_⟩
      rw [r01_Of_eq (by omega), Option.bind_some, r01_Add_eq (by omega) (by omega), Option.bind_some, Tot.bnd_iff, hw]
      have hpv : pv (l.take (i + 1)) = pv (l.take i) * 10 + (l[i].toNat - 48) := by rw [List.take_succ_eq_append_getElem hlt, pv_snoc, Nat.mul_comm]
      exact Tot.some_iff.2 (Nx.inl_iff.2 ⟨⟨i + 1, by rw [hpv], hlt, take_digits hlt hd hdi⟩, by simp only; omega⟩)
    · have e2 : (decide (((l[i].toNat : Nat) : Int) < 48) || decide (((l[i].toNat : Nat) : Int) > 57)) = true := by
        rw [Bool.or_eq_true, decide_eq_true_iff, decide_eq_true_iff]; omega
      rw [e2, cond_true, if_neg fun hc => hdi (hc.2.2 _ (List.getElem_mem hlt))]
      exact Tot.some_iff.2 (Nx.inr_iff.2 rfl)
  · obtain rfl : i = l.length := by omega
    rw [List.take_length] at hd ⊢
    rw [decide_eq_false (Int.lt_irrefl _), cond_false]
    unfold r03_Parse_j1
    have hb0 : bt (tx l) (0 : Int) = ((l.getD 0 0).toNat : Int) := bt_tx l 0
    rw [ba_size, hb0]
    have key : (((l.length : Int) == 0) || ((decide ((l.length : Int) > 1)) && (((l.getD 0 0).toNat : Int) == 48))) = !(decide (Num l)) := by
      rw [Bool.eq_iff_iff, Bool.or_eq_true, Bool.and_eq_true, beq_iff_eq, beq_iff_eq, decide_eq_true_iff, Bool.not_eq_true', decide_eq_false_iff_not]
      constructor
      · intro h hN
        rcases h with h | ⟨h, h'⟩
        · exact hN.1 (List.eq_nil_of_length_eq_zero (by omega))
        · have := hN.2.1 (UInt8.toNat_inj.1 (by show (l.getD 0 0).toNat = 48; omega))
          rw [this] at h
          simp at h
      · intro hN
        rcases Nat.lt_trichotomy l.length 1 with h | h | h
        · left; omega
        · exfalso
          obtain ⟨c, rfl⟩ : ∃ c, l = [c] := by
            match l, h with
            | [c], _ => exact ⟨c, rfl⟩
          exact hN ⟨by simp, fun hc => by simp at hc; rw [hc], hd⟩
        · right
          refine ⟨by omega, ?_⟩
          rcases Classical.em ((l.getD 0 0).toNat = 48) with h' | h'
          · omega
          · exfalso
            exact hN ⟨fun hc => by rw [hc] at h; simp at h, fun hc => absurd (by rw [hc]; rfl) h', hd⟩
    refine Tot.map_iff.2 ?_
    refine Tot.ass_iff.2 ⟨fun hc => ?_, ?_⟩
    · rw [Bool.and_eq_true, decide_eq_true_iff] at hc; omega
    rw [key]
    by_cases hN : Num l
    · rw [decide_eq_true hN, Bool.not_true, cond_false, if_pos hN]
      exact Tot.some_iff.2 (Nx.inr_iff.2 rfl)
    · rw [decide_eq_false hN, Bool.not_false, cond_true, if_neg hN]
      exact Tot.some_iff.2 (Nx.inr_iff.2 rfl)

/-! ### A number's own text -/

theorem dd_num (x : Nat) : Num (Lib.decDigits x) ∧ pv (Lib.decDigits x) = x := by
  have main : (Lib.decDigits x ≠ [] ∧ (∀ c ∈ Lib.decDigits x, isD c) ∧ pv (Lib.decDigits x) = x ∧ (0 < x → (Lib.decDigits x).getD 0 0 ≠ 48)) := by
    induction x using Nat.strongRecOn with
    | _ x ih =>
      by_cases h : x < 10
      · rw [dd_small h]
        have e : (UInt8.ofNat (48 + x)).toNat = 48 + x := by simp; omega
        refine ⟨by simp, fun c hc => ?_, ?_, fun h0 hc => ?_⟩
        · rw [List.mem_singleton.1 hc]; unfold isD; rw [e]; omega
        · simp only [pv, List.foldl_cons, List.foldl_nil, e]; omega
        · have : (UInt8.ofNat (48 + x)).toNat = 48 := by
            have : UInt8.ofNat (48 + x) = 48 := hc
            rw [this]; rfl
          omega
      · obtain ⟨i1, i2, i3, i4⟩ := ih (x / 10) (by omega)
        rw [dd_big h]
        have e : (UInt8.ofNat (48 + x % 10)).toNat = 48 + x % 10 := by simp; omega
        refine ⟨by simp, fun c hc => ?_, ?_, fun h0 hc => ?_⟩
        · rcases List.mem_append.1 hc with hc | hc
          · exact i2 c hc
          · rw [List.mem_singleton.1 hc]; unfold isD; rw [e]; omega
        · rw [pv_snoc, i3, e]; omega
        · refine i4 (by omega) ?_
          match hl : Lib.decDigits (x / 10), i1 with
          | a :: r, _ => rw [hl] at hc; simpa using hc
  obtain ⟨h1, h2, h3, h4⟩ := main
  refine ⟨⟨h1, fun hc => ?_, h2⟩, h3⟩
  rcases Nat.eq_zero_or_pos x with h | h
  · rw [h, dd_small (by omega)]; rfl
  · exact absurd hc (h4 h)
end Go.Tom
