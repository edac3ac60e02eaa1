/- Chapter 4: the fraction of a text. -/
import Derived.Test.YtomdhjdgcfcjdaaGreatDoorRT3
set_option linter.unusedVariables false
set_option linter.unusedSimpArgs false
namespace Go.Tom
open Go

/-- Where the first stroke stands. -/
def stroke (l : List UInt8) : Nat := l.idxOf 47
theorem stroke_le (l : List UInt8) : stroke l ≤ l.length := List.idxOf_le_length
theorem stroke_cons (c : UInt8) (l : List UInt8) : stroke (c :: l) = if c = 47 then 0 else stroke l + 1 := by
  unfold stroke
  rw [List.idxOf_cons]
  by_cases h : c = 47
  · simp [h]
  · have : (c == 47) = false := by simpa using h
    rw [this, cond_false, if_neg h]

theorem index_stroke : ∀ l : List UInt8, Lib.index l [47] = if stroke l < l.length then (stroke l : Int) else -1
  | [] => by simp [Lib.index, stroke]
  | c :: l => by
    have ih := index_stroke l
    have hle := stroke_le l
    rw [Lib.index, stroke_cons, ih]
    by_cases h : c = 47
    · subst h; simp [List.isPrefixOf]
    · have e : ([47] : List UInt8).isPrefixOf (c :: l) = false := by
        simp only [List.isPrefixOf, Bool.and_true]
        rw [beq_eq_false_iff_ne]; exact fun hc => h hc.symm
      rw [e, if_neg h]
      simp only [Bool.false_eq_true, if_false, List.length_cons]
      by_cases hs : stroke l < l.length
      · have e2 : ((stroke l : Int) == -1) = false := by rw [beq_eq_false_iff_ne]; omega
        simp only [hs, if_true, e2, Bool.false_eq_true, if_false, Nat.add_lt_add_iff_right]
        omega
      · simp only [hs, if_false, Nat.add_lt_add_iff_right]
        rfl

/-- What stands ahead of it, and behind it. -/
def upT (l : List UInt8) : List UInt8 := l.take (stroke l)
def dnT (l : List UInt8) : List UInt8 := if stroke l < l.length then l.drop (stroke l + 1) else [49]

theorem upT_len (l : List UInt8) : (upT l).length ≤ l.length := by unfold upT; rw [List.length_take]; omega
theorem dnT_len (l : List UInt8) : (dnT l).length ≤ l.length + 1 := by unfold dnT; split <;> simp <;> omega

theorem cut_stroke (l : List UInt8) : Lib.cut l [47] = if stroke l < l.length then (upT l, dnT l, true) else (l, [], false) := by
  unfold Lib.cut dnT upT
  rw [index_stroke]
  by_cases h : stroke l < l.length
  · rw [if_pos h, if_pos (by omega), if_pos h, if_pos h]; simp
  · rw [if_neg h, if_neg (by omega), if_neg h]

theorem upT_all {l : List UInt8} (h : ¬ stroke l < l.length) : upT l = l := by unfold upT; exact List.take_of_length_le (by omega)

def ftext (a b : Nat) : List UInt8 := if b = 1 then Lib.decDigits a else Lib.decDigits a ++ [47] ++ Lib.decDigits b

/-- A text that is a fraction's. -/
def FT (l : List UInt8) : Prop := Num (upT l) ∧ Num (dnT l) ∧ pv (dnT l) ≠ 0 ∧ Nat.gcd (pv (upT l)) (pv (dnT l)) = 1 ∧ ftext (pv (upT l)) (pv (dnT l)) = l
instance (l : List UInt8) : Decidable (FT l) := by unfold FT; infer_instance

theorem ftext_is (p : FP) (hp : Lo p) : FT (ftext p.1 p.2) ∧ pv (upT (ftext p.1 p.2)) = p.1 ∧ pv (dnT (ftext p.1 p.2)) = p.2 := by
  obtain ⟨hN, hv⟩ := dd_num p.1
  obtain ⟨hN2, hv2⟩ := dd_num p.2
  have no : ∀ {m : List UInt8}, Num m → ∀ r, stroke (m ++ 47 :: r) = m.length ∧ stroke m = m.length := fun {m} hm r => by
    have hd := hm.2.2
    clear hm
    induction m with
    | nil => simp [stroke]
    | cons c m ih =>
      have hc : c ≠ 47 := fun h => by
        have := (hd c (List.mem_cons_self ..)).1
        rw [h] at this
        exact absurd this (by decide)
      obtain ⟨i1, i2⟩ := ih fun x hx => hd x (List.mem_cons_of_mem _ hx)
      rw [List.cons_append, stroke_cons, stroke_cons, if_neg hc, if_neg hc, i1, i2]
      simp
  have h1 : Num [49] := by decide
  have p1 : pv [49] = 1 := by decide
  obtain ⟨L, hL⟩ : ∃ L, L = ftext p.1 p.2 := ⟨_, rfl⟩
  have key : upT L = Lib.decDigits p.1 ∧ Num (dnT L) ∧ pv (dnT L) = p.2 := by
    by_cases hb : p.2 = 1
    · have e : L = Lib.decDigits p.1 := by rw [hL]; unfold ftext; rw [if_pos hb]
      have hs := (no hN []).2
      have hn : ¬ stroke L < L.length := by rw [e]; omega
      refine ⟨by rw [upT_all hn, e], ?_⟩
      unfold dnT
      rw [if_neg hn, hb]
      exact ⟨h1, p1⟩
    · have e : L = Lib.decDigits p.1 ++ 47 :: Lib.decDigits p.2 := by rw [hL]; unfold ftext; rw [if_neg hb]; simp
      have hs := (no hN (Lib.decDigits p.2)).1
      have hn : stroke L < L.length := by rw [e, hs]; simp
      have e1 : upT L = Lib.decDigits p.1 := by unfold upT; rw [e, hs, List.take_left']; rfl
      have e2 : dnT L = Lib.decDigits p.2 := by
        unfold dnT
        rw [if_pos hn, e, hs, ← List.drop_drop, List.drop_left' rfl]
        rfl
      rw [e1, e2]
      exact ⟨rfl, hN2, hv2⟩
  rw [← hL]
  obtain ⟨k1, k2, k3⟩ := key
  refine ⟨⟨by rw [k1]; exact hN, k2, by rw [k3]; have := hp.1; omega, by rw [k1, k3, hv]; exact hp.2, by rw [k1, k3, hv, hL]⟩, by rw [k1, hv], k3⟩

theorem parse_tail {l m : List UInt8} {y : ByteArray × ByteArray × Bool} (hy : y.1 = tx (upT l)) (hm : m = dnT l) (hl : l.length ≤ 900) :
    ratio_Parse_j1 (tx l) y (tx m) = some (if FT l then (q32 (pv (upT l), pv (dnT l)), 0) else (([], []), 3)) := by
  subst hm
  have lu := upT_len l
  have ld := dnT_len l
  have t1 := nat_Parse_eq (upT l) (by omega)
  have t2 := nat_Parse_eq (dnT l) (by omega)
  rw [if_neg (by omega)] at t1 t2
  unfold ratio_Parse_j1
  rw [hy, t1, Option.bind_some, t2, Option.bind_some]
  by_cases h1 : Num (upT l)
  · by_cases h2 : Num (dnT l)
    · have s1 := (pv_size h1.2.2).1
      have s2 := (pv_size h2.2.2).1
      rw [if_pos h1, if_pos h2]
      have hr := ratio_Right_is (Is.d32 (pv (upT l))) (Is.d32 (pv (dnT l))) (by omega) (by omega)
      have hr' : ratio_Right (d32 (pv (upT l)), d32 (pv (dnT l))) = some (decide (pv (dnT l) ≠ 0 ∧ Nat.gcd (pv (upT l)) (pv (dnT l)) = 1)) := by
        rw [hr]
        congr 1
        exact decide_eq_decide.2 ⟨fun h => ⟨h.1, h.2.2.2⟩, fun h => ⟨h.1, rfl, rfl, h.2⟩⟩
      have ht := ratio_Text_is (Is.d32 (pv (upT l))) (Is.d32 (pv (dnT l))) (by omega) (by omega)
      simp only [bnd, bne_self_eq_false, Bool.or_self, Bool.not_false, cond_true, hr', Option.bind_some, Bool.false_or, Bool.not_not]
      by_cases h3 : pv (dnT l) ≠ 0 ∧ Nat.gcd (pv (upT l)) (pv (dnT l)) = 1
      · have e3 : decide (pv (dnT l) ≠ 0 ∧ Nat.gcd (pv (upT l)) (pv (dnT l)) = 1) = true := decide_eq_true h3
        rw [e3, cond_true, ht, Option.bind_some, ba_eq]
        by_cases h4 : ftext (pv (upT l)) (pv (dnT l)) = l
        · have hF : FT l := ⟨h1, h2, h3.1, h3.2, h4⟩
          have e4 : decide (tx (if pv (dnT l) = 1 then Lib.decDigits (pv (upT l)) else Lib.decDigits (pv (upT l)) ++ [47] ++ Lib.decDigits (pv (dnT l))) = tx l) = true := decide_eq_true (congrArg tx h4)
          rw [e4, if_pos hF]
          rfl
        · have hF : ¬ FT l := fun h => h4 h.2.2.2.2
          have e4 : decide (tx (if pv (dnT l) = 1 then Lib.decDigits (pv (upT l)) else Lib.decDigits (pv (upT l)) ++ [47] ++ Lib.decDigits (pv (dnT l))) = tx l) = false := decide_eq_false fun h => h4 (by
            have := congrArg (fun b : ByteArray => b.data.toList) h
            simpa [tx, ftext] using this)
          rw [e4, if_neg hF]
          rfl
      · have e3 : decide (pv (dnT l) ≠ 0 ∧ Nat.gcd (pv (upT l)) (pv (dnT l)) = 1) = false := decide_eq_false h3
        have hF : ¬ FT l := fun h => h3 ⟨h.2.2.1, h.2.2.2.1⟩
        rw [e3, if_neg hF]
        rfl
    · have hF : ¬ FT l := fun h => h2 h.2.1
      rw [if_pos h1, if_neg h2, if_neg hF]
      rfl
  · have hF : ¬ FT l := fun h => h1 h.1
    rw [if_neg h1, if_neg hF]
    rfl

theorem ratio_Parse_eq (l : List UInt8) (hl : l.length ≤ 900 ∨ 4096 < l.length) : ratio_Parse (tx l) = some (if l.length > 4096 then (([], []), 5) else if FT l then (q32 (pv (upT l), pv (dnT l)), 0) else (([], []), 3)) := by
  unfold ratio_Parse
  simp only [bnd]
  rw [ba_size]
  by_cases h : l.length > 4096
  · rw [decide_eq_true (show (l.length : Int) > 4096 by omega), cond_true, if_pos h]
  rw [decide_eq_false (show ¬ (l.length : Int) > 4096 by omega), cond_false, if_neg h]
  have hc : strings_Cut (tx l) (tx [47]) = some (tx (Lib.cut l [47]).1, tx (Lib.cut l [47]).2.1, (Lib.cut l [47]).2.2) := by
    rw [← Tot.eq_iff]
    unfold strings_Cut
    refine Tot.ass_iff.2 ⟨by rw [ba_size]; omega, ?_⟩
    exact Tot.some_iff.2 rfl
  rw [hc, Option.bind_some, cut_stroke]
  by_cases hs : stroke l < l.length
  · simp only [if_pos hs, Bool.not_true, cond_false]
    exact parse_tail rfl rfl (by omega)
  · simp only [if_neg hs, Bool.not_false, cond_true]
    refine parse_tail ?_ ?_ (by omega)
    · rw [upT_all hs]
    · unfold dnT; rw [if_neg hs]

theorem sls_tx (l : List UInt8) (i j : Nat) : sls (tx l) (i : Int) (j : Int) = tx ((l.take j).drop i) := by
  unfold sls
  rw [Int.toNat_natCast, Int.toNat_natCast]
  apply ba_ext
  simp [tx, List.extract_eq_take_drop, List.drop_take]
end Go.Tom
