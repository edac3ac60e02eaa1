/- Chapter 48: the law of the nearest fraction. -/
import Derived.Test.YtomdhjdgcfcjdaaPN29
import Derived.Test.YtomdhjdgcfcjdaaPWf
set_option linter.unusedVariables false
set_option linter.unusedSimpArgs false
namespace Go.Tom
open Go

theorem r04_Right_q32 {p : FP} (h : S16 1000000 p) (p0 : 0 < p.2) : r04_Right (q32 p) = some (decide (Nat.gcd p.1 p.2 = 1)) := by
  have hin := r04_In_q32 h
  obtain ⟨s1, s2⟩ := h
  have o1 : r03_Out (d16 p.1) = some (d32 p.1) := r03_Out_eq (by omega)
  have o2 : r03_Out (d16 p.2) = some (d32 p.2) := r03_Out_eq (by omega)
  have l1 := d32_le16 p.1
  have l2 := d32_le16 p.2
  have m1 : r03_Same (d32 p.1) (d32 p.1) = some (decide (d32 p.1 = d32 p.1)) := r03_Same_eq _ _ (by omega)
  have m2 : r03_Same (d32 p.2) (d32 p.2) = some (decide (d32 p.2 = d32 p.2)) := r03_Same_eq _ _ (by omega)
  have hgs := gcd_size s1 s2
  have hg : r03_Gcd (d16 p.1) (d16 p.2) = some (d16 (Nat.gcd p.1 p.2)) := r03_Gcd_eq (by omega) (by omega)
  have h1' : r01_Of (1 : Int) = some (d16 1) := r01_Of_eq (n := 1) (by omega)
  have hcm : r01_Cmp (d16 (Nat.gcd p.1 p.2)) (d16 1) = some (cmpN (Nat.gcd p.1 p.2) 1) := r01_Cmp_eq (by omega) (by have := d16_one; omega)
  have hb0 : (((d16 p.2).length : Int) == 0) = false := by
    rw [beq_eq_false_iff_ne]
    intro h
    have := d16_nil (x := p.2) (by omega)
    omega
  have hc0 : (cmpN (Nat.gcd p.1 p.2) 1 == 0) = decide (Nat.gcd p.1 p.2 = 1) := by
    rw [Bool.eq_iff_iff, beq_iff_eq, decide_eq_true_iff]
    unfold cmpN
    split
    · omega
    · split <;> omega
  unfold r04_Right
  rw [hin, Option.bind_some]
  show (bif !(((d16 p.2).length : Int) == (0 : Int)) then r03_Out (d16 p.1) else some ([] : List Int)).bind (fun y2 =>
    (bif !(((d16 p.2).length : Int) == (0 : Int)) then r03_Same (d32 p.1) y2 else some false).bind fun y3 =>
    (bif !((((d16 p.2).length : Int) == (0 : Int)) || (!y3)) then r03_Out (d16 p.2) else some ([] : List Int)).bind fun y4 =>
    (bif !((((d16 p.2).length : Int) == (0 : Int)) || (!y3)) then r03_Same (d32 p.2) y4 else some false).bind fun y5 =>
    bif ((((d16 p.2).length : Int) == (0 : Int)) || (!y3)) || (!y5) then some false
    else (r03_Gcd (d16 p.1) (d16 p.2)).bind fun y6 => (r01_Of (1 : Int)).bind fun y7 => (r01_Cmp y6 y7).bind fun y8 => bnd (y8 == (0 : Int)) fun x9 => some x9) = _
  rw [hb0, Bool.not_false, cond_true, o1, Option.bind_some, cond_true, m1, Option.bind_some, decide_eq_true rfl, Bool.not_true, Bool.or_self, Bool.not_false, cond_true, o2, Option.bind_some, cond_true, m2, Option.bind_some, decide_eq_true rfl, Bool.not_true, Bool.or_self, cond_false, hg, Option.bind_some, h1', Option.bind_some, hcm, Option.bind_some]
  show some (cmpN (Nat.gcd p.1 p.2) 1 == 0) = _
  rw [hc0]

/-- Neighbours are in lowest terms. -/
theorem NB.low {x : FP} {most : Nat} {l h : FP} (n : NB x most l h) : Lo l ∧ Lo h := by
  have d := n.det
  refine ⟨⟨n.l0, ?_⟩, ⟨n.h0, ?_⟩⟩
  · have h1 : Nat.gcd l.1 l.2 ∣ h.1 * l.2 := Nat.dvd_trans (Nat.gcd_dvd_right ..) (Nat.dvd_mul_left ..)
    have h2 : Nat.gcd l.1 l.2 ∣ l.1 * h.2 := Nat.dvd_trans (Nat.gcd_dvd_left ..) (Nat.dvd_mul_right ..)
    rw [d] at h1
    exact Nat.dvd_one.1 ((Nat.dvd_add_right h2).1 h1)
  · have h1 : Nat.gcd h.1 h.2 ∣ h.1 * l.2 := Nat.dvd_trans (Nat.gcd_dvd_left ..) (Nat.dvd_mul_right ..)
    have h2 : Nat.gcd h.1 h.2 ∣ l.1 * h.2 := Nat.dvd_trans (Nat.gcd_dvd_right ..) (Nat.dvd_mul_left ..)
    rw [d] at h1
    exact Nat.dvd_one.1 ((Nat.dvd_add_right h2).1 h1)

theorem pick_near {x : FP} {most : Nat} {l h : FP} (n : NB x most l h) (x0 : 0 < x.2) (hs : most < l.2 + h.2) : NearR (rv x) most (rv (pickP x l h)) ∧ Lo (pickP x l h) ∧ (pickP x l h).2 ≤ most := by
  have lo := (rv_le n.l0 x0).1 n.lo
  have hi := (rv_le x0 n.h0).1 n.hi
  have hp := near_pair n.l0 n.h0 n.det lo hi hs
  have e : cmpP (gapP h x) (gapP x l) < 0 ↔ far (rv x) (rv h) < far (rv x) (rv l) := by
    rw [cmp_neg (gap_pos n.h0 x0) (gap_pos x0 n.l0), rv_gap n.h0 x0, rv_gap x0 n.l0, far_sym (a := rv l)]
  unfold pickP
  by_cases hc : cmpP (gapP h x) (gapP x l) < 0
  · rw [if_pos hc]
    have := e.1 hc
    rw [show (h.1 : Rat) / (h.2 : Rat) = rv h from rfl, show (l.1 : Rat) / (l.2 : Rat) = rv l from rfl, if_pos this] at hp
    exact ⟨hp, n.low.2, n.hm⟩
  · rw [if_neg hc]
    have : ¬ far (rv x) (rv h) < far (rv x) (rv l) := fun hh => hc (e.2 hh)
    rw [show (h.1 : Rat) / (h.2 : Rat) = rv h from rfl, show (l.1 : Rat) / (l.2 : Rat) = rv l from rfl, if_neg this] at hp
    exact ⟨hp, n.low.1, n.lm⟩

theorem far_zero {a x : Rat} (h : far a x ≤ 0) : x = a := by unfold far at h; grind

/-- PlanNear, of every fraction and every bound. -/
theorem PlanNear_eq (p0 : D_api_Ratio) (p1 : Int) (hw0 : Wf T_api_Ratio p0) (hw1 : Wf (.int .i64) p1) : l48_PlanNear p0 p1 = some true := by
  rw [← Tot.eq_iff]
  have hal : ∀ Q : Bool → Prop, Q true → Tot (l48_alive.bind fun y => some y) Q := fun Q h => by rw [l48_alive_eq, Option.bind_some]; exact Tot.some_iff.2 h
  unfold l48_PlanNear
  rw [Tot.bind_iff]
  refine (l48_in_tot [p0] (by simp) (fun r hr => by rw [List.mem_singleton.1 hr]; exact DgR_wf hw0)).mono fun y1 hy => ?_
  rcases hy with ⟨l, hp, hs, rfl⟩ | rfl
  rotate_left
  · exact hal _ rfl
  obtain ⟨x, rfl⟩ : ∃ x, l = [x] := by
    match l, hp with
    | [x], _ => exact ⟨x, rfl⟩
  have hp0 : p0 = q32 x := by simpa using hp
  obtain ⟨hx, x0, xc⟩ := hs x (List.mem_singleton.2 rfl)
  subst hp0
  show Tot (bif !true then _ else _) _
  rw [Bool.not_true, cond_false]
  by_cases hr : p1 < 1 ∨ p1 > 1048576
  · have hc : ((decide (p1 < 1)) || (decide (p1 > 1048576))) = true := by
      rw [Bool.or_eq_true, decide_eq_true_iff, decide_eq_true_iff]; exact hr
    have hn : plan_Near (q32 x) p1 = some (([], []), 1) := by
      unfold plan_Near
      show (bif ((decide (p1 < 1)) || (decide (p1 > 1048576))) then _ else _) = _
      rw [hc, cond_true]
      rfl
    rw [hn, Option.bind_some, hc, cond_true]
    show Tot ((bif true then l48_alive else some false).bind fun y4 => bnd (true && y4) fun x5 => some x5) _
    rw [cond_true, l48_alive_eq]
    exact Tot.some_iff.2 rfl
  · obtain ⟨most, rfl⟩ : ∃ most : Nat, p1 = (most : Int) := ⟨p1.toNat, by omega⟩
    have h1 : 1 ≤ most := by omega
    have hm : most ≤ 1048576 := by omega
    have hc : ((decide ((most : Int) < 1)) || (decide ((most : Int) > 1048576))) = false := by
      rw [Bool.or_eq_false_iff]; exact ⟨decide_eq_false (by omega), decide_eq_false (by omega)⟩
    have hwu : IntKind.u64.wrap (most : Int) = (most : Int) := u64i (by omega) (by omega)
    rw [Tot.bind_iff]
    refine (plan_Near_tot h1 hm hx x0).mono fun y3 hy3 => ?_
    obtain ⟨lo, hi, n, hsum, rfl⟩ := hy3
    obtain ⟨near, low, hden⟩ := pick_near n x0 hsum
    obtain ⟨sl, sh⟩ := n.size hm hx x0
    have sb : S16 16 (pickP x lo hi) := by unfold pickP; split <;> assumption
    obtain ⟨b, hb⟩ : ∃ b, b = pickP x lo hi := ⟨_, rfl⟩
    rw [← hb] at near low hden sb ⊢
    have hmost : (d16 most).length ≤ 2 := dg_len b16 (by omega)
    have hbl := sb.2
    have hxl := hx.2
    have e1 : r03_In (d32 b.2) = some (d16 b.2) := by
      have := r03_In_eq (a := d32 b.2) (dg_Dg b32) (by have := d32_le16 b.2; omega)
      rwa [vl_dg b32, Int.toNat_natCast] at this
    have e2 : r01_Of (most : Int) = some (d16 most) := r01_Of_eq (by omega)
    have e3 : r01_Cmp (d16 b.2) (d16 most) = some (cmpN b.2 most) := r01_Cmp_eq (by omega) (by omega)
    have e4 : r01_Cmp (d16 x.2) (d16 most) = some (cmpN x.2 most) := r01_Cmp_eq (by omega) (by omega)
    have e5 := r04_In_q32 (sb.mono (show 16 ≤ 1000000 by omega))
    have e6 := r04_Cmp_eq (k := 16) sb (hx.mono (by omega)) (by omega)
    have hright := r04_Right_q32 (sb.mono (show 16 ≤ 1000000 by omega)) low.1
    have hg1 : decide (Nat.gcd b.1 b.2 = 1) = true := decide_eq_true low.2
    have hle : decide (cmpN b.2 most > 0) = false := by
      rw [decide_eq_false_iff_not]; unfold cmpN; split
      · omega
      · rw [if_neg (by omega)]; omega
    rw [hc, cond_false, hwu]
    show Tot ((bif !((0 : Int) != 0) then r04_Right (q32 b) else some false).bind fun y6 => (bif !(((0 : Int) != 0) || (!y6)) then r03_In (d32 b.2) else some ([] : List Int)).bind fun y7 => (bif !(((0 : Int) != 0) || (!y6)) then r01_Of (most : Int) else some ([] : List Int)).bind fun y8 => (bif !(((0 : Int) != 0) || (!y6)) then r01_Cmp y7 y8 else some (0 : Int)).bind fun y9 =>
      bif (((0 : Int) != 0) || (!y6)) || (decide (y9 > 0)) then some false else
      ass (0 ≤ (0 : Int) ∧ (0 : Int) < (([q16 x].length : Nat) : Int)) <| (r01_Of (most : Int)).bind fun y10 => (r01_Cmp (d16 x.2) y10).bind fun y11 => (bif decide (y11 ≤ 0) then r04_In (q32 b) else some (([] : List Int), ([] : List Int))).bind fun y12 =>
      ass ((decide (y11 ≤ 0)) = true → 0 ≤ (0 : Int) ∧ (0 : Int) < (([q16 x].length : Nat) : Int)) <| (bif decide (y11 ≤ 0) then r04_Cmp y12 (q16 x) else some (0 : Int)).bind fun y13 =>
      bif (decide (y11 ≤ 0)) && (y13 != 0) then some false else _) _
    rw [show ((0 : Int) != 0) = false from rfl, Bool.not_false, cond_true, hright, Option.bind_some, hg1, Bool.not_true, Bool.or_self, Bool.not_false, cond_true, e1, Option.bind_some, cond_true, e2, Option.bind_some, cond_true, e3, Option.bind_some, hle, Bool.or_self, cond_false]
    refine Tot.ass_iff.2 ⟨⟨by omega, by simp⟩, ?_⟩
    rw [Option.bind_some, e4, Option.bind_some]
    have hself : x.2 ≤ most → rv b = rv x := fun hxm => by
      have h := near.1 x.1 x.2 x0 hxm
      have hz : far (rv x) ((x.1 : Rat) / (x.2 : Rat)) = 0 := by
        show far (rv x) (rv x) = 0
        unfold far; grind
      rw [hz] at h
      exact far_zero h
    have fin : Tot (bif decide ((most : Int) > 200) then (l48_alive).bind fun y => some y else ass (0 ≤ (0 : Int) ∧ (0 : Int) < (([q16 x].length : Nat) : Int)) <| (r48_Near (q16 x) (most : Int)).bind fun y15 => (r04_Same (q32 b) y15).bind fun y16 => (bif y16 then l48_alive else some false).bind fun y17 => bnd (y16 && y17) fun x18 => some x18) (fun r => r = true) := by
      by_cases h2 : (most : Int) > 200
      · rw [decide_eq_true h2, cond_true]; exact hal _ rfl
      · rw [decide_eq_false h2, cond_false]
        refine Tot.ass_iff.2 ⟨⟨by omega, by simp⟩, ?_⟩
        rw [Tot.bind_iff]
        refine (r48_Near_tot hx x0 h1 hm).mono fun y hy => ?_
        obtain ⟨c, fc, rfl⟩ := hy
        obtain ⟨nn, e, q1, q2, q3⟩ := fc.den
        have hbc : b = c := rv_inj low fc.lo (near.uniq fc.near (n := b.1) (d := b.2) (m := nn) (e := e) rfl ⟨low.1, hden⟩ q3 ⟨q1, by omega⟩)
        have hsame : r04_Same (q32 b) (q16 c) = some true := by
          rw [hbc, r04_Same_eq (fc.sz.mono (by omega)) (fc.sz.mono (by omega)), decide_eq_true rfl, decide_eq_true rfl]
          rfl
        rw [hsame, Option.bind_some, cond_true, l48_alive_eq]
        exact Tot.some_iff.2 rfl
    by_cases hxm : x.2 ≤ most
    · have hd : decide (cmpN x.2 most ≤ 0) = true := by
        rw [decide_eq_true_iff]; unfold cmpN; split
        · omega
        · rw [if_neg (by omega)]; omega
      have hz : cmpP b x = 0 := (cmp_zero low.1 x0).2 (hself hxm)
      rw [hd, cond_true, e5, Option.bind_some]
      refine Tot.ass_iff.2 ⟨fun _ => ⟨by omega, by simp⟩, ?_⟩
      rw [cond_true, e6, Option.bind_some, hz, show ((0 : Int) != 0) = false from rfl, Bool.and_false, cond_false]
      exact fin
    · have hd : decide (cmpN x.2 most ≤ 0) = false := by
        rw [decide_eq_false_iff_not]; unfold cmpN; rw [if_neg (by omega), if_pos (by omega)]; omega
      rw [hd, cond_false, Option.bind_some]
      refine Tot.ass_iff.2 ⟨fun h => by simp at h, ?_⟩
      rw [cond_false, Option.bind_some, Bool.false_and, cond_false]
      exact fin
end Go.Tom
