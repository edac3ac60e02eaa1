/- Chapter 4: sums, products and common numbers of many; its example; what any two numbers make. -/
import Derived.Test.YtomdhjdgcfcjdaaGreatDoorRT1
set_option linter.unusedVariables false
set_option linter.unusedSimpArgs false
namespace Go.Tom
open Go

theorem d32_small {x : Nat} (h0 : 0 < x) (h : x < 4294967296) : d32 x = [(x : Int)] := by
  rw [d32, dg_pos b32 h0, Nat.mod_eq_of_lt h, Nat.div_eq_of_lt h, dg_zero]

theorem s16 {a b : Nat} (ha : a < 65536) (hb : b < 65536) : S16 1 (a, b) := ⟨dg_len b16 (by simp only; omega), dg_len b16 (by simp only; omega)⟩

theorem ratio_Add_eq {l : List FP} {k : Nat} (hl : l.length ≤ 10) (hk : k ≤ 1000) (hs : ∀ p ∈ l, S16 k p ∧ 0 < p.2) : ratio_Add (l.map q32) = some (q32 (sumP l)) ∧ S16 ((k + 1) * l.length + 1) (sumP l) := by
  have hint : Tot (ratio_Add (l.map q32)) (fun r => r = q32 (sumP l) ∧ S16 ((k + 1) * l.length + 1) (sumP l)) := by
    simp only [ratio_Add, bnd, exZero, Option.bind_some]
    refine loop_fold' q32 l _ addP (fun i b => S16 ((k + 1) * i + 1) b ∧ 0 < b.2) ⟨S16_zero, by show 0 < 1; omega⟩ (fun i hi b hb => ?_) (fun hb => ?_)
    · obtain ⟨hp, hp0⟩ := hs l[i] (List.getElem_mem hi)
      have hw : IntKind.i64.wrap ((i : Int) + 1) = (i : Int) + 1 := w64 (by omega) (by omega)
      have hik : (k + 1) * i ≤ 1001 * 10 := Nat.mul_le_mul (by omega) (by omega)
      have ha := ratio_plus_eq (hb.1.mono (show (k + 1) * i + 1 ≤ 100000 by omega)) (hp.mono (show k ≤ 100000 by omega)) (by omega) hb.2 hp0
      have hok := add_ok hb.2 hp0
      refine ⟨?_, (add_size hb.1 hp).mono (by rw [Nat.mul_succ]; omega), hok.1⟩
      rw [← Tot.eq_iff]
      simp only [ratio_Add_b1, rd_map hi, ha, Option.bind_some, hw, List.length_map, cond_some, Tot.cond_iff, Tot.ass_iff, Tot.bnd_iff, Tot.some_iff, Tot.map_iff, Tot.bind_iff, Nx.inl_iff, Nx.inr_iff, decide_eq_true_eq, decide_eq_false_iff_not]
      exact ⟨fun _ => ⟨by omega, trivial⟩, fun hc => absurd (by omega) hc⟩
    · simp only [ratio_Add_b1, ratio_Add_j1, List.length_map, cond_some, Tot.cond_iff, Tot.ass_iff, Tot.bnd_iff, Tot.some_iff, Tot.map_iff, Tot.bind_iff, Nx.inl_iff, Nx.inr_iff, decide_eq_true_eq, decide_eq_false_iff_not]
      exact ⟨fun hc => absurd hc (by omega), fun _ => ⟨_, rfl, rfl, hb.1⟩⟩
  obtain ⟨r, h1, h2, h3⟩ := hint
  rw [h2] at h1
  exact ⟨h1, h3⟩

def prodP (l : List FP) : FP := l.foldl mulP (1, 1)

theorem ratio_times_eq {p q : FP} {k : Nat} (hp : S16 k p) (hq : S16 k q) (hk : k ≤ 400000) (hp0 : 0 < p.2) (hq0 : 0 < q.2) :
    nat_Mul [(q32 p).1, (q32 q).1] = some (d32 (p.1 * q.1)) ∧ nat_Mul [(q32 p).2, (q32 q).2] = some (d32 (p.2 * q.2)) ∧ ratio_Make (d32 (p.1 * q.1)) (d32 (p.2 * q.2)) = some (q32 (mulP p q), true) := by
  obtain ⟨p1, p2⟩ := hp
  obtain ⟨q1, q2⟩ := hq
  have m1 := d16_mul p.1 q.1
  have m2 := d16_mul p.2 q.2
  have a1 := d32_le16 p.1
  have a2 := d32_le16 p.2
  have a3 := d32_le16 q.1
  have a4 := d32_le16 q.2
  exact ⟨nat_Mul_two (by omega) (by omega), nat_Mul_two (by omega) (by omega), ratio_Make_eq hk (by omega) (by omega) (Nat.mul_pos hp0 hq0)⟩

/-- Fractions of few digits. -/
def Sh (l : List FP) : Prop := ∀ p ∈ l, S16 12 p ∧ 0 < p.2

theorem short32 {p : FP} (h : S16 12 p) : (d32 p.1).length ≤ 12 ∧ (d32 p.2).length ≤ 12 := ⟨Nat.le_trans (d32_le16 _) h.1, Nat.le_trans (d32_le16 _) h.2⟩

theorem ratio_Common_second {l : List FP} (hl : l.length ≤ 1000) (hs : Sh l) (hD : (d32 (comD l)).length ≤ 12 * l.length + 1) : Tot (ratio_Common_j1 (l.map q32) (d32 (comD l))) (fun r => r = (d32 (comD l), (upL l).map d32)) := by
  unfold ratio_Common_j1
  refine loop_fold l _ (fun a p => a ++ [d32 (comD l / p.2 * p.1)]) (fun i a => a.length = i) rfl (fun i hi a ha => ?_) (fun ha => ?_)
  · obtain ⟨hp, hp0⟩ := hs l[i] (List.getElem_mem hi)
    have hw : IntKind.i64.wrap ((i : Int) + 1) = (i : Int) + 1 := w64 (by omega) (by omega)
    have g1 := (short32 hp).1
    have g2 := (short32 hp).2
    have g3 := d32_mono (Nat.div_le_self (comD l) l[i].2)
    have e1 : (q32 l[i]).1 = d32 l[i].1 := rfl
    have e2 : (q32 l[i]).2 = d32 l[i].2 := rfl
    have hDiv := nat_Div_eq (x := comD l) (y := l[i].2) (by omega) (by omega) hp0
    have hMul := nat_Mul_two (x := comD l / l[i].2) (y := l[i].1) (by omega) (by omega)
    refine ⟨?_, by rw [List.length_append, ha]; rfl⟩
    show ratio_Common_b1 (l.map q32) (d32 (comD l)) a (i : Int) = some (.inl (a ++ [d32 (comD l / l[i].2 * l[i].1)], (i : Int) + 1))
    rw [← e2] at hDiv
    rw [← e1] at hMul
    generalize d32 (comD l / l[i].2 * l[i].1) = P at hMul ⊢
    generalize d32 (comD l / l[i].2) = Q at hDiv hMul
    generalize d32 (comD l % l[i].2) = R at hDiv
    generalize d32 (comD l) = X at hDiv ⊢
    have hrd : rd z_api_Ratio (l.map q32) (i : Int) = q32 l[i] := rd_map hi
    generalize q32 l[i] = Z at hDiv hMul hrd
    have hlen : (l.map q32).length = l.length := List.length_map ..
    generalize l.map q32 = Y at hrd hlen ⊢
    have hb : decide ((i : Int) < (Y.length : Int)) = true := decide_eq_true (by omega)
    have hlim : (((a.length + [P].length : Nat) : Int)) ≤ limA := by simp only [List.length_singleton]; unfold limA; omega
    rw [← Tot.eq_iff]
    unfold ratio_Common_b1
    rw [hb, cond_true]
    refine Tot.ass_iff.2 ⟨⟨by omega, by omega⟩, ?_⟩
    rw [hrd]
    show Tot ((nat_Div X Z.2).bind fun y7 => (nat_Mul [y7.1, Z.1]).bind fun y8 => ass (((a.length + [y8].length : Nat) : Int) ≤ limA) <| bnd (a ++ [y8]) fun x9 => bnd (IntKind.i64.wrap ((i : Int) + (1 : Int))) fun x10 => some (Sum.inl (x9, x10) : (List (List Int) × Int) ⊕ (List Int × List (List Int)))) (fun r => r = Sum.inl (a ++ [P], (i : Int) + 1))
    rw [hDiv, Option.bind_some, hMul, Option.bind_some, hw]
    exact Tot.ass_iff.2 ⟨hlim, Tot.some_iff.2 rfl⟩
  · have e : l.foldl (fun a p => a ++ [d32 (comD l / p.2 * p.1)]) [] = (upL l).map d32 := by
      rw [foldl_snoc]; simp [upL]
    simp only [ratio_Common_b1, ratio_Common_j2, List.length_map, e, cond_some, Tot.cond_iff, Tot.ass_iff, Tot.bnd_iff, Tot.some_iff, Tot.map_iff, Tot.bind_iff, Nx.inl_iff, Nx.inr_iff, decide_eq_true_eq, decide_eq_false_iff_not]
    exact ⟨fun hc => absurd hc (by omega), fun _ => ⟨_, rfl, rfl⟩⟩

theorem ratio_Common_eq {l : List FP} (hl : l.length ≤ 1000) (hs : Sh l) : ratio_Common (l.map q32) = some (d32 (comD l), (upL l).map d32) ∧ (d32 (comD l)).length ≤ 12 * l.length + 1 := by
  have h1 : nat_Of (1 : Int) = some (d32 1) := nat_Of_eq (n := 1) (by omega)
  have hint : Tot (ratio_Common (l.map q32)) (fun r => r = (d32 (comD l), (upL l).map d32) ∧ (d32 (comD l)).length ≤ 12 * l.length + 1) := by
    simp only [ratio_Common, h1, Option.bind_some]
    refine loop_fold' d32 l _ (fun d p => Nat.lcm d p.2) (fun i d => (d32 d).length ≤ 12 * i + 1) (by simpa using d32_one) (fun i hi d hd => ?_) (fun hd => ?_)
    · obtain ⟨hp, hp0⟩ := hs l[i] (List.getElem_mem hi)
      have hw : IntKind.i64.wrap ((i : Int) + 1) = (i : Int) + 1 := w64 (by omega) (by omega)
      have g2 := (short32 hp).2
      have e2 : (q32 l[i]).2 = d32 l[i].2 := rfl
      have hsz := lcm_size32 (a := d) (b := l[i].2)
      refine ⟨?_, by show _ ≤ 12 * (i + 1) + 1; omega⟩
      rw [← Tot.eq_iff]
      simp only [ratio_Common_b2, rd_map hi, e2, nat_Lcm_eq (x := d) (y := l[i].2) (by omega) (by omega), Option.bind_some, hw, List.length_map, cond_some, Tot.cond_iff, Tot.ass_iff, Tot.bnd_iff, Tot.some_iff, Tot.map_iff, Tot.bind_iff, Nx.inl_iff, Nx.inr_iff, decide_eq_true_eq, decide_eq_false_iff_not]
      exact ⟨fun _ => ⟨by omega, trivial⟩, fun hc => absurd (by omega) hc⟩
    · have hD : (d32 (comD l)).length ≤ 12 * l.length + 1 := hd
      simp only [ratio_Common_b2, List.length_map, cond_some, Tot.cond_iff, Tot.ass_iff, Tot.bnd_iff, Tot.some_iff, Tot.map_iff, Tot.bind_iff, Nx.inl_iff, Nx.inr_iff, decide_eq_true_eq, decide_eq_false_iff_not]
      refine ⟨fun hc => absurd hc (by omega), fun _ => ?_⟩
      refine (ratio_Common_second hl hs hD).mono fun r hr => ⟨r, rfl, hr, hD⟩
  obtain ⟨r, g1, g2, g3⟩ := hint
  rw [g2] at g1
  exact ⟨g1, g3⟩

theorem l04_alive_eq : l04_alive = some true := by
  have o1 : ratio_Of (1 : Int) (2 : Int) = some (q32 (1, 2), true) := by
    have := ratio_Of_eq (n := 1) (d := 2) (by omega) (by omega)
    rwa [if_neg (by omega), show lowP 1 2 = (1, 2) by decide] at this
  have o2 : ratio_Of (2 : Int) (6 : Int) = some (q32 (1, 3), true) := by
    have := ratio_Of_eq (n := 2) (d := 6) (by omega) (by omega)
    rwa [if_neg (by omega), show lowP 2 6 = (1, 3) by decide] at this
  have o3 : ratio_Of (1 : Int) (0 : Int) = some (([], []), false) := by
    have := ratio_Of_eq (n := 1) (d := 0) (by omega) (by omega)
    rwa [if_pos rfl] at this
  have hs : ∀ p ∈ ([(1, 2), (1, 3)] : List FP), S16 1 p ∧ 0 < p.2 := fun p hp => by
    rcases List.mem_cons.1 hp with rfl | hp
    · exact ⟨s16 (by omega) (by omega), by decide⟩
    · rw [List.mem_singleton] at hp; subst hp
      exact ⟨s16 (by omega) (by omega), by decide⟩
  have c : ratio_Common [q32 (1, 2), q32 (1, 3)] = some (d32 6, [d32 3, d32 2]) := by
    have h := (ratio_Common_eq (l := [(1, 2), (1, 3)]) (by simp) fun p hp => ⟨(hs p hp).1.mono (by omega), (hs p hp).2⟩).1
    have e : comD [(1, 2), (1, 3)] = 6 := by decide
    have u : upL [(1, 2), (1, 3)] = [3, 2] := by decide
    rw [e, u] at h
    exact h
  have ad : ratio_Add [q32 (1, 2), q32 (1, 3)] = some (q32 (5, 6)) := by
    have h := (ratio_Add_eq (l := [(1, 2), (1, 3)]) (by simp) (by omega) hs).1
    have e : sumP [(1, 2), (1, 3)] = (5, 6) := by decide
    rw [e] at h
    exact h
  have e6 : d32 6 = [6] := d32_small (by omega) (by omega)
  have e3 : d32 3 = [3] := d32_small (by omega) (by omega)
  have e2 : d32 2 = [2] := d32_small (by omega) (by omega)
  have e5 : d32 5 = [5] := d32_small (by omega) (by omega)
  have t : ratio_Text (q32 (5, 6)) = some (tx [53, 47, 54]) := by
    have h := ratio_Text_is (Is.d32 5) (Is.d32 6) (by rw [e5]; simp) (by rw [e6]; simp)
    have g : (if (6 : Nat) = 1 then Lib.decDigits 5 else Lib.decDigits 5 ++ [47] ++ Lib.decDigits 6) = [53, 47, 54] := by simp [Lib.decDigits]
    rw [g] at h
    exact h
  have s6 : r03_Same [6] [6] = some true := by rw [r03_Same_eq _ _ (by simp)]; rfl
  have s3 : r03_Same [3] [3] = some true := by rw [r03_Same_eq _ _ (by simp)]; rfl
  have s2 : r03_Same [2] [2] = some true := by rw [r03_Same_eq _ _ (by simp)]; rfl
  rw [e6, e3, e2] at c
  rw [← Tot.eq_iff]
  unfold l04_alive
  rw [o1, Option.bind_some, o2, Option.bind_some, o3, Option.bind_some]
  show Tot ((ratio_Common [q32 (1, 2), q32 (1, 3)]).bind fun y4 => (ratio_Add [q32 (1, 2), q32 (1, 3)]).bind fun y5 => (ratio_Text y5).bind fun y6 =>
    (bif (true && (y6.toList == (tx [53, 47, 54]).toList)) then r03_Same y4.1 [(6 : Int)] else some false).bind fun y7 =>
    ass ((((true && (y6.toList == (tx [53, 47, 54]).toList)) && y7) && ((y4.2.length : Int) == 2)) = true → 0 ≤ (0 : Int) ∧ (0 : Int) < (y4.2.length : Int)) <|
    (bif ((true && (y6.toList == (tx [53, 47, 54]).toList)) && y7) && ((y4.2.length : Int) == 2) then r03_Same (rd ([] : List Int) y4.2 (0 : Int)) [(3 : Int)] else some false).bind fun y8 =>
    ass (((((true && (y6.toList == (tx [53, 47, 54]).toList)) && y7) && ((y4.2.length : Int) == 2)) && y8) = true → 0 ≤ (1 : Int) ∧ (1 : Int) < (y4.2.length : Int)) <|
    (bif (((true && (y6.toList == (tx [53, 47, 54]).toList)) && y7) && ((y4.2.length : Int) == 2)) && y8 then r03_Same (rd ([] : List Int) y4.2 (1 : Int)) [(2 : Int)] else some false).bind fun y9 =>
    bnd (((((true && (y6.toList == (tx [53, 47, 54]).toList)) && y7) && ((y4.2.length : Int) == 2)) && y8) && y9) fun x10 => some x10) _
  rw [c, Option.bind_some, ad, Option.bind_some, t, Option.bind_some, ba_eq, decide_eq_true rfl, Bool.and_self, cond_true]
  show Tot ((r03_Same [6] [(6 : Int)]).bind _) _
  rw [s6, Option.bind_some]
  refine Tot.ass_iff.2 ⟨fun _ => ⟨by omega, by simp⟩, ?_⟩
  show Tot ((r03_Same [3] [(3 : Int)]).bind _) _
  rw [s3, Option.bind_some]
  refine Tot.ass_iff.2 ⟨fun _ => ⟨by omega, by simp⟩, ?_⟩
  show Tot ((r03_Same [2] [(2 : Int)]).bind _) _
  rw [s2, Option.bind_some]
  exact Tot.some_iff.2 rfl

theorem l04_none_nil : l04_none ([], []) = some true := rfl

end Go.Tom
