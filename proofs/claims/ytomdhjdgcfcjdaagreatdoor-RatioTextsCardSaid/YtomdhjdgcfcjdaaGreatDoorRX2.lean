/- Chapter 4: the law of texts. -/
import Derived.Test.YtomdhjdgcfcjdaaGreatDoorRX1
set_option linter.unusedVariables false
set_option linter.unusedSimpArgs false
namespace Go.Tom
open Go

theorem r04_Text_eq {p : FP} (hp : S16 1000 p) : r04_Text (q16 p) = some (tx (ftext p.1 p.2)) := by
  obtain ⟨h1, h2⟩ := hp
  have t1 := r03_Text_eq (x := p.1) h1
  have t2 := r03_Text_eq (x := p.2) h2
  have o1 : r01_Of (1 : Int) = some (d16 1) := r01_Of_eq (n := 1) (by omega)
  have hc : r01_Cmp (d16 p.2) (d16 1) = some (cmpN p.2 1) := r01_Cmp_eq (by omega) (by have := d16_one; omega)
  have hc0 : (cmpN p.2 1 == 0) = decide (p.2 = 1) := by
    rw [Bool.eq_iff_iff, beq_iff_eq, decide_eq_true_iff]
    unfold cmpN
    split
    · omega
    · split <;> omega
  have hdig : ∀ {x : Nat}, (d16 x).length ≤ 1000 → (Lib.decDigits x).length ≤ 5001 := fun {x} hl => by
    rw [Lib.decDigits_length]
    have h1 : x < 65536 ^ (d16 x).length := dg_lt b16
    have h2 : 65536 ^ (d16 x).length ≤ (10 ^ 5) ^ (d16 x).length := Nat.pow_le_pow_left (by omega) _
    rw [← Nat.pow_mul] at h2
    have h3 : 10 ^ (5 * (d16 x).length) ≤ 10 ^ (5 * (d16 x).length + 1) := Nat.pow_le_pow_right (by omega) (by omega)
    have := nd_le (k := 5 * (d16 x).length) (Nat.lt_of_lt_of_le h1 (Nat.le_trans h2 h3))
    omega
  have g1 := hdig h1
  have g2 := hdig h2
  rw [← Tot.eq_iff]
  unfold r04_Text
  show Tot ((r01_Of (1 : Int)).bind fun y1 => (r01_Cmp (d16 p.2) y1).bind fun y2 => bif y2 == 0 then (r03_Text (d16 p.1)).bind fun y3 => some y3 else (r03_Text (d16 p.1)).bind fun y4 => ass (((y4.size + (tx [47]).size : Nat) : Int) ≤ 9223372036854775807) <| (r03_Text (d16 p.2)).bind fun y5 => ass ((((y4 ++ (tx [47])).size + y5.size : Nat) : Int) ≤ 9223372036854775807) <| bnd ((y4 ++ (tx [47])) ++ y5) fun x6 => some x6) _
  rw [o1, Option.bind_some, hc, Option.bind_some, hc0, t1]
  unfold ftext
  by_cases h1 : p.2 = 1
  · rw [decide_eq_true h1, cond_true, if_pos h1]
    exact Tot.some_iff.2 rfl
  · rw [decide_eq_false h1, cond_false, if_neg h1, Option.bind_some, t2]
    refine Tot.ass_iff.2 ⟨?_, ?_⟩
    · rw [ba_size, ba_size]; simp only [List.length_singleton]; omega
    · rw [Option.bind_some, ba_app]
      refine Tot.ass_iff.2 ⟨?_, ?_⟩
      · rw [ba_size, ba_size, List.length_append]; simp only [List.length_singleton]; omega
      · rw [Tot.bnd_iff, ba_app]
        exact Tot.some_iff.2 rfl

/-- The document's: behind both numbers. -/
theorem r04_tail {l : List UInt8} {y : List Int × Int} {a b : List Int} {e f : Int} (hl : l.length ≤ 900)
    (hy : y = if Num (upT l) then (d16 (pv (upT l)), 0) else ([], 3)) (hb : (b, f) = if Num (dnT l) then (d16 (pv (dnT l)), 0) else ([], 3)) :
    r04_Parse_j2 (tx l) y b f = some (if FT l then (q16 (pv (upT l), pv (dnT l)), 0) else (([], []), 3)) := by
  have lu := upT_len l
  have ld := dnT_len l
  unfold r04_Parse_j2
  by_cases h1 : Num (upT l)
  · rw [if_pos h1] at hy
    subst hy
    by_cases h2 : Num (dnT l)
    · rw [if_pos h2] at hb
      obtain ⟨rfl, rfl⟩ := Prod.mk.inj hb
      have s1 := (pv_size h1.2.2).2
      have s2 := (pv_size h2.2.2).2
      have hg := r03_Gcd_eq (x := pv (upT l)) (y := pv (dnT l)) (by omega) (by omega)
      have hgl := gcd_size' (a := pv (upT l)) (b := pv (dnT l)) (k := 901) (by omega) (by omega)
      have o1 : r01_Of (1 : Int) = some (d16 1) := r01_Of_eq (n := 1) (by omega)
      have hc := r01_Cmp_eq (x := Nat.gcd (pv (upT l)) (pv (dnT l))) (y := 1) (by omega) (by have := d16_one; omega)
      have ht : r04_Text (d16 (pv (upT l)), d16 (pv (dnT l))) = some (tx (ftext (pv (upT l)) (pv (dnT l)))) := r04_Text_eq (p := (pv (upT l), pv (dnT l))) ⟨by simp only; omega, by simp only; omega⟩
      have hz : (((d16 (pv (dnT l))).length : Int) == 0) = decide (pv (dnT l) = 0) := by
        rw [Bool.eq_iff_iff, beq_iff_eq, decide_eq_true_iff]
        constructor
        · intro h; exact d16_nil (by omega)
        · intro h; rw [h, d16_zero]; rfl
      have hc0 : (cmpN (Nat.gcd (pv (upT l)) (pv (dnT l))) 1 != 0) = !decide (Nat.gcd (pv (upT l)) (pv (dnT l)) = 1) := by
        rw [bne]
        congr 1
        rw [Bool.eq_iff_iff, beq_iff_eq, decide_eq_true_iff]
        unfold cmpN
        split
        · omega
        · split <;> omega
      simp only [bne_self_eq_false, Bool.false_or, hz]
      by_cases h3 : pv (dnT l) = 0
      · have hF : ¬ FT l := fun h => h.2.2.1 h3
        rw [decide_eq_true h3, if_neg hF]
        rfl
      · rw [decide_eq_false h3]
        simp only [Bool.not_false, cond_true, hg, o1, hc, Option.bind_some, Bool.false_or, hc0, Bool.not_not]
        by_cases h4 : Nat.gcd (pv (upT l)) (pv (dnT l)) = 1
        · rw [decide_eq_true h4, cond_true, ht, Option.bind_some, ba_eq]
          by_cases h5 : ftext (pv (upT l)) (pv (dnT l)) = l
          · have hF : FT l := ⟨h1, h2, h3, h4, h5⟩
            rw [decide_eq_true (congrArg tx h5), if_pos hF]
            rfl
          · have hF : ¬ FT l := fun h => h5 h.2.2.2.2
            rw [decide_eq_false fun h => h5 (by
              have := congrArg (fun b : ByteArray => b.data.toList) h
              simpa [tx] using this), if_neg hF]
            rfl
        · have hF : ¬ FT l := fun h => h4 h.2.2.2.1
          rw [decide_eq_false h4, if_neg hF]
          rfl
    · rw [if_neg h2] at hb
      obtain ⟨rfl, rfl⟩ := Prod.mk.inj hb
      have hF : ¬ FT l := fun h => h2 h.2.1
      rw [if_neg hF]
      rfl
  · rw [if_neg h1] at hy
    subst hy
    have hF : ¬ FT l := fun h => h1 h.1
    rw [if_neg hF]
    rfl

theorem r04_mid {l : List UInt8} (hl : l.length ≤ 900) : r04_Parse_j1 (tx l) (stroke l : Int) = some (if FT l then (q16 (pv (upT l), pv (dnT l)), 0) else (([], []), 3)) := by
  have hs := stroke_le l
  have lu := upT_len l
  have ld := dnT_len l
  have e1 : sls (tx l) (0 : Int) (stroke l : Int) = tx (upT l) := by
    have := sls_tx l 0 (stroke l)
    rw [List.drop_zero] at this
    exact this
  have t1 := r03_Parse_eq (upT l) (by omega)
  rw [if_neg (by omega)] at t1
  have o1 : r01_Of (1 : Int) = some (d16 1) := r01_Of_eq (n := 1) (by omega)
  rw [← Tot.eq_iff]
  unfold r04_Parse_j1
  refine Tot.ass_iff.2 ⟨by rw [ba_size]; omega, ?_⟩
  rw [e1, t1, Option.bind_some, o1, Option.bind_some, ba_size]
  by_cases h : stroke l < l.length
  · have hw : IntKind.i64.wrap ((stroke l : Int) + 1) = ((stroke l + 1 : Nat) : Int) := by rw [w64 (by omega) (by omega)]; omega
    have e2 : sls (tx l) ((stroke l + 1 : Nat) : Int) (l.length : Int) = tx (dnT l) := by
      rw [sls_tx, List.take_length]; unfold dnT; rw [if_pos h]
    have t2 := r03_Parse_eq (dnT l) (by omega)
    rw [if_neg (by omega)] at t2
    rw [decide_eq_true (show (stroke l : Int) < (l.length : Int) by omega), cond_true, hw]
    refine Tot.ass_iff.2 ⟨by omega, ?_⟩
    rw [e2, t2, Option.bind_some, r04_tail (a := []) (e := 0) hl rfl (by split <;> rfl)]
    exact Tot.some_iff.2 rfl
  · have hd : dnT l = [49] := by unfold dnT; rw [if_neg h]
    have hN : Num [49] := by decide
    have hp : pv [49] = 1 := by decide
    rw [decide_eq_false (show ¬ (stroke l : Int) < (l.length : Int) by omega), cond_false, r04_tail (a := []) (e := 0) hl rfl (by rw [hd, if_pos hN, hp])]
    exact Tot.some_iff.2 rfl

theorem r04_Parse_eq (l : List UInt8) (hl : l.length ≤ 900 ∨ 4096 < l.length) : r04_Parse (tx l) = some (if l.length > 4096 then (([], []), 5) else if FT l then (q16 (pv (upT l), pv (dnT l)), 0) else (([], []), 3)) := by
  rw [← Tot.eq_iff]
  unfold r04_Parse
  rw [Tot.bnd_iff, ba_size]
  by_cases h : l.length > 4096
  · rw [decide_eq_true (show (l.length : Int) > 4096 by omega), cond_true, if_pos h]
    exact Tot.some_iff.2 rfl
  rw [decide_eq_false (show ¬ (l.length : Int) > 4096 by omega), cond_false, if_neg h]
  have hw : IntKind.i64.wrap ((l.length : Int) - 1) = (l.length : Int) - 1 := w64 (by omega) (by omega)
  rw [hw, Tot.bnd_iff]
  -- behind i places from the end: the first stroke of what is left
  refine Tot.loop (fun s => ∃ i : Nat, s.2 = (i : Int) - 1 ∧ i ≤ l.length ∧ s.1 = (i : Int) + (stroke (l.drop i) : Int)) (fun s => (s.2 + 1).toNat) (fun s hs => ?_) ⟨l.length, rfl, Nat.le_refl _, by simp [stroke]⟩
  obtain ⟨at_, k⟩ := s
  obtain ⟨i, h1, h2, h3⟩ := hs
  simp only at h1 h3
  subst h1 h3
  show Tot (r04_Parse_b1 (tx l) ((i : Int) + (stroke (l.drop i) : Int)) ((i : Int) - 1)) _
  unfold r04_Parse_b1
  rw [ba_size]
  rcases Nat.eq_zero_or_pos i with h0 | h0
  · subst h0
    rw [decide_eq_false (by omega), cond_false, List.drop_zero]
    refine Tot.map_iff.2 ?_
    have e : ((0 : Nat) : Int) + (stroke l : Int) = (stroke l : Int) := by omega
    rw [e, r04_mid (by omega)]
    exact Tot.some_iff.2 (Nx.inr_iff.2 rfl)
  · obtain ⟨j, rfl⟩ : ∃ j, i = j + 1 := ⟨i - 1, by omega⟩
    have ek : ((j + 1 : Nat) : Int) - 1 = (j : Int) := by omega
    have hj : j < l.length := by omega
    have hdr : l.drop j = l[j] :: l.drop (j + 1) := List.drop_eq_getElem_cons hj
    have hgd : l.getD j 0 = l[j] := by rw [List.getD_eq_getElem?_getD, List.getElem?_eq_getElem hj]; rfl
    have hw2 : IntKind.i64.wrap ((j : Int) - 1) = (j : Int) - 1 := w64 (by omega) (by omega)
    rw [ek, decide_eq_true (by omega), cond_true, bt_tx, hgd]
    refine Tot.ass_iff.2 ⟨by omega, ?_⟩
    by_cases hc : l[j] = 47
    · have e : ((l[j].toNat : Int) == 47) = true := by rw [hc]; rfl
      rw [e, cond_true]
      unfold r04_Parse_j3
      rw [hw2]
      refine Tot.some_iff.2 (Nx.inl_iff.2 ⟨⟨j, rfl, by omega, ?_⟩, by simp only; omega⟩)
      rw [hdr, stroke_cons, if_pos hc]; simp
    · have e : ((l[j].toNat : Int) == 47) = false := by
        rw [beq_eq_false_iff_ne]
        intro hh
        exact hc (UInt8.toNat_inj.1 (by show l[j].toNat = 47; omega))
      rw [e, cond_false]
      unfold r04_Parse_j3
      rw [hw2]
      refine Tot.some_iff.2 (Nx.inl_iff.2 ⟨⟨j, rfl, by omega, ?_⟩, by simp only; omega⟩)
      rw [hdr, stroke_cons, if_neg hc]; simp; omega

theorem Lo_FT {l : List UInt8} (h : FT l) : Lo (pv (upT l), pv (dnT l)) := ⟨Nat.pos_of_ne_zero h.2.2.1, h.2.2.2.1⟩

theorem RatioTexts_eq (p0 : D_api_Ratio) (p1 : ByteArray) (hw0 : Wf T_api_Ratio p0) (hw1 : Wf .str p1) : l04_RatioTexts p0 p1 = some true := by
  obtain ⟨l, rfl⟩ : ∃ l, p1 = tx l := ⟨_, ba_tx p1⟩
  unfold l04_RatioTexts
  rw [l04_short_eq, Option.bind_some, ba_size]
  by_cases hs : ¬ (p0.1.length ≤ 6 ∧ p0.2.length ≤ 6) ∨ (l.length > 200 ∧ l.length ≤ 4096) ∨ l.length > 5000
  · have e : (((!(decide (p0.1.length ≤ 6) && decide (p0.2.length ≤ 6))) || ((decide ((l.length : Int) > 200)) && (decide ((l.length : Int) ≤ 4096)))) || (decide ((l.length : Int) > 5000))) = true := by
      rw [Bool.or_eq_true, Bool.or_eq_true, Bool.and_eq_true, Bool.not_eq_true', ← Bool.not_eq_true, Bool.and_eq_true, decide_eq_true_iff, decide_eq_true_iff, decide_eq_true_iff, decide_eq_true_iff, decide_eq_true_iff]; omega
    rw [e, cond_true, l04_alive_eq]; rfl
  have e : (((!(decide (p0.1.length ≤ 6) && decide (p0.2.length ≤ 6))) || ((decide ((l.length : Int) > 200)) && (decide ((l.length : Int) ≤ 4096)))) || (decide ((l.length : Int) > 5000))) = false := by
    rw [Bool.eq_false_iff, Ne, Bool.or_eq_true, Bool.or_eq_true, Bool.and_eq_true, Bool.not_eq_true', ← Bool.not_eq_true, Bool.and_eq_true, decide_eq_true_iff, decide_eq_true_iff, decide_eq_true_iff, decide_eq_true_iff, decide_eq_true_iff]; omega
  have t1 := ratio_Parse_eq l (by omega)
  have t2 := r04_Parse_eq l (by omega)
  obtain ⟨b, hb1, hb2⟩ := right_short hw0 (by omega) (by omega)
  rw [e, cond_false, t1, Option.bind_some, t2, Option.bind_some]
  -- what is left, behind the text that was given
  have last : ((r04_Right p0).bind fun y7 => bif !y7 then (l04_alive).bind fun y8 => some y8 else
      (ratio_Text p0).bind fun y9 => (ratio_Parse y9).bind fun y10 => (r04_In p0).bind fun y11 => (r04_Text y11).bind fun y12 =>
      (bif (y9.toList == y12.toList) && (y10.2 == 0) then ratio_Same y10.1 p0 else some false).bind fun y13 =>
      (bif ((y9.toList == y12.toList) && (y10.2 == 0)) && y13 then l04_alive else some false).bind fun y14 =>
      bnd ((((y9.toList == y12.toList) && (y10.2 == 0)) && y13) && y14) fun x15 => some x15) = some true := by
    rw [hb1, Option.bind_some]
    cases b with
    | false => rw [Bool.not_false, cond_true, l04_alive_eq]; rfl
    | true =>
      obtain ⟨p, rfl, sp, hp⟩ := hb2 rfl
      obtain ⟨g1, g2⟩ := short32 sp
      have tt : ratio_Text (q32 p) = some (tx (ftext p.1 p.2)) := ratio_Text_is (Is.d32 p.1) (Is.d32 p.2) (by omega) (by omega)
      obtain ⟨f1, f2, f3⟩ := ftext_is p hp
      have hlen : (ftext p.1 p.2).length ≤ 900 := by
        have hdig : ∀ {x : Nat}, (d16 x).length ≤ 12 → (Lib.decDigits x).length ≤ 61 := fun {x} hl => by
          rw [Lib.decDigits_length]
          have h1 : x < 65536 ^ (d16 x).length := dg_lt b16
          have h2 : 65536 ^ (d16 x).length ≤ (10 ^ 5) ^ (d16 x).length := Nat.pow_le_pow_left (by omega) _
          rw [← Nat.pow_mul] at h2
          have h3 : 10 ^ (5 * (d16 x).length) ≤ 10 ^ (5 * (d16 x).length + 1) := Nat.pow_le_pow_right (by omega) (by omega)
          have := nd_le (k := 5 * (d16 x).length) (Nat.lt_of_lt_of_le h1 (Nat.le_trans h2 h3))
          omega
        have k1 := hdig sp.1
        have k2 := hdig sp.2
        unfold ftext
        split
        · omega
        · simp only [List.length_append, List.length_singleton]; omega
      have tp := ratio_Parse_eq (ftext p.1 p.2) (.inl hlen)
      rw [if_neg (by omega), if_pos f1, f2, f3] at tp
      have ti := r04_In_q32 (sp.mono (show 12 ≤ 1000000 by omega))
      have tx4 := r04_Text_eq (sp.mono (show 12 ≤ 1000 by omega))
      have ts := ratio_Same_eq (sp.mono (show 12 ≤ 1000 by omega)) (sp.mono (show 12 ≤ 1000 by omega))
      rw [cmpP_self, beq_self_eq_true] at ts
      rw [Bool.not_true, cond_false, tt, Option.bind_some, tp, Option.bind_some, ti, Option.bind_some, tx4, Option.bind_some, ba_eq, decide_eq_true rfl]
      show ((ratio_Same (q32 p) (q32 p)).bind fun y13 => (bif true && y13 then l04_alive else some false).bind fun y14 => bnd ((true && y13) && y14) fun x15 => some x15) = some true
      rw [ts, Option.bind_some, l04_alive_eq]
      rfl
  by_cases h1 : l.length > 4096
  · rw [if_pos h1, if_pos h1]
    exact last
  · rw [if_neg h1, if_neg h1]
    by_cases h2 : FT l
    · rw [if_pos h2, if_pos h2]
      have lu := upT_len l
      have ld := dnT_len l
      have s1 := (pv_size h2.1.2.2).2
      have s2 := (pv_size h2.2.1.2.2).2
      have hsame := r04_Same_refl (p := (pv (upT l), pv (dnT l))) ⟨show (d16 (pv (upT l))).length ≤ 100000 by omega, show (d16 (pv (dnT l))).length ≤ 100000 by omega⟩
      show ((r04_Same (q32 (pv (upT l), pv (dnT l))) (q16 (pv (upT l), pv (dnT l)))).bind fun y5 => (bif (!(false || (true && (!y5)))) && false then l04_none (q32 (pv (upT l), pv (dnT l))) else some false).bind fun y6 =>
        bif (false || (true && (!y5))) || (false && (!y6)) then some false else _) = some true
      rw [hsame, Option.bind_some]
      exact last
    · rw [if_neg h2, if_neg h2]
      exact last
end Go.Tom
