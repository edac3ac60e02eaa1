/- Chapter 14: which states may be. -/
import Derived.Test.YtoalafcmlgjlpaaQH
set_option linter.unusedVariables false
set_option linter.unusedSimpArgs false
namespace Go.Tom
open Go

theorem StateFine_eq (s t : D_api_State) (q : Int) : l14_StateFine s t q = some true := by
  classical
  rw [← Tot.eq_iff]
  have halive := l14_alive_eq
  simp only [l14_StateFine, halive, (r14_Small_tot s).dec, (r14_Small_tot t).dec, Option.bind_some]
  by_cases hs : SmallP s
  · by_cases ht : SmallP t
    · obtain ⟨s1, s2, s3, s4, s5⟩ := id hs
      have hsame := (state_Same_tot t hs).dec
      have hsame2 := (r14_Same_tot t hs).dec
      have hself := (r14_Same_tot s hs).dec
      have htrim := (r14_Same_tot (trimS s) (trim_small hs)).dec
      have hf := (state_Fine_tot s hs).dec
      have hf2 := (r14_Fine_tot s hs).dec
      have htr := state_Trim_eq (s := s) (by omega) (by omega) (by omega) (by omega) (by omega)
      have d1 : @decide (s = s) (Classical.propDecidable _) = true := @decide_eq_true _ (Classical.propDecidable _) rfl
      have d2 : @decide (trimS s = trimS s) (Classical.propDecidable _) = true := @decide_eq_true _ (Classical.propDecidable _) rfl
      -- the rest
      have fin : Tot ((state_Fine s).bind fun y7 =>
      (r14_Fine s).bind fun y8 =>
      (bif !(y7 != y8) then state_Same s t else some false).bind fun y9 =>
      (bif !(y7 != y8) then r14_Same s t else some false).bind fun y10 =>
      (bif !((y7 != y8) || (y9 != y10)) then state_Copy s else some (([] : List Bool), ([] : List D_api_Ticket), ([] : List D_api_Thread), ([] : List D_api_Lock), ([] : List Int), (0 : Int))).bind fun y11 =>
      (bif !((y7 != y8) || (y9 != y10)) then r14_Same y11 s else some false).bind fun y12 =>
      (bif !(((y7 != y8) || (y9 != y10)) || (!y12)) then state_Trim s else some (([] : List Bool), ([] : List D_api_Ticket), ([] : List D_api_Thread), ([] : List D_api_Lock), ([] : List Int), (0 : Int))).bind fun y13 =>
      (bif !(((y7 != y8) || (y9 != y10)) || (!y12)) then r14_Trim s else some (([] : List Bool), ([] : List D_api_Ticket), ([] : List D_api_Thread), ([] : List D_api_Lock), ([] : List Int), (0 : Int))).bind fun y14 =>
      (bif !(((y7 != y8) || (y9 != y10)) || (!y12)) then r14_Same y13 y14 else some false).bind fun y15 =>
      bif (((y7 != y8) || (y9 != y10)) || (!y12)) || (!y15) then
        some false
      else
        (r14_Fine s).bind fun y16 =>
        bif y16 then
          (state_CoinArrows s).bind fun y17 =>
          (r14_CoinArrows s).bind fun y18 =>
          (l14_arrows y17 y18).bind fun y19 =>
          (bif y19 then state_ThreadArrows s else some ([] : List D_dag_Arrow)).bind fun y20 =>
          (bif y19 then r14_ThreadArrows s else some ([] : List D_r13_Arrow)).bind fun y21 =>
          (bif y19 then l14_arrows y20 y21 else some false).bind fun y22 =>
          (bif y19 && y22 then some true else some false).bind fun y23 =>
          bnd ((y19 && y22) && y23) fun x24 =>
          some x24
        else
          some true) (fun r => r = true) := by
        simp only [hf, hf2, hsame, hsame2, Option.bind_some, bne_self_eq_false, Bool.not_false, cond_true, state_Copy_eq hs, hself, d1, Bool.or_self, Bool.not_true, htr, r14_Trim_eq hs, htrim, d2, cond_false, decide_true, Bool.false_or]
        by_cases hF : FineP s
        · have hc := buildL_len (f := fun k => coinArr (rd z_api_Ticket s.2.1 k)) (c := 1) (fun k => coinArr_len _) (n := s.2.1.length)
          have hh := buildL_len (f := fun k => thrArr s k (rd z_api_Thread s.2.2.1 k)) (c := 1) (fun k => thrArr_len _ _ _) (n := s.2.2.1.length)
          have a1 : l14_arrows (coinArrows s) (coinArrows s) = some true := by
            rw [(l14_arrows_tot (coinArrows s) (coinArrows s) (by show (buildL _ _).length ≤ _; omega)).dec]
            congr 1
            exact @decide_eq_true _ (Classical.propDecidable _) rfl
          have a2 : l14_arrows (thrArrows s) (thrArrows s) = some true := by
            rw [(l14_arrows_tot (thrArrows s) (thrArrows s) (by show (buildL _ _).length ≤ _; omega)).dec]
            congr 1
            exact @decide_eq_true _ (Classical.propDecidable _) rfl
          simp only [hF, decide_true, cond_true, state_CoinArrows_eq' s (by omega), r14_CoinArrows_eq s (by omega), Option.bind_some, a1, state_ThreadArrows_eq s (by omega) fun k h0 h1 h6 => hF.threads.waits k h0 h1 h6,
            r14_ThreadArrows_eq s (by omega) fun k h0 h1 h6 => hF.threads.waits k h0 h1 h6, a2, Bool.and_self, bnd, Tot.some_iff]
        · simp only [hF, decide_false, cond_false, Tot.some_iff]
      simp only [hs, ht, decide_true, Bool.not_true, Bool.not_false, cond_true, Option.bind_some, Bool.or_self, cond_false, state_New_eq]
      by_cases hq : 1 ≤ q ∧ q ≤ 1000
      · have e : ((decide (q ≥ (1 : Int))) && (decide (q ≤ (1000 : Int)))) = true := by simp; exact hq
        have hn : SmallP ([true], [], [], [], [], q) := by unfold SmallP; simp
        have hns : r14_Same ([true], [], [], [], [], q) ([true], [], [], [], [], q) = some true := by
          rw [(r14_Same_tot _ hn).dec]
          congr 1
          exact @decide_eq_true _ (Classical.propDecidable _) rfl
        simp only [hq, and_self, if_true, e, BEq.rfl, bne_self_eq_false, Bool.not_false, Bool.true_and, cond_true, hns, Option.bind_some, Bool.not_true, Bool.and_false, Bool.or_self, Bool.and_self, cond_false, Bool.false_and]
        exact fin
      · have e : ((decide (q ≥ (1 : Int))) && (decide (q ≤ (1000 : Int)))) = false := by
          rw [Bool.eq_false_iff]; intro hc; simp at hc; exact hq hc
        have hns : r14_Same ex14z ([], [], [], [], [], 0) = some true := by
          rw [(r14_Same_tot _ small14z).dec]
          congr 1
          exact @decide_eq_true _ (Classical.propDecidable _) rfl
        have e1 : ((1 : Int) == 0) = false := by decide
        have e2 : ((1 : Int) != 0) = true := by decide
        have hz : ((([] : List Bool), ([] : List D_api_Ticket), ([] : List D_api_Thread), ([] : List D_api_Lock), ([] : List Int), (0 : Int)) : D_api_State) = ex14z := rfl
        rw [hz] at fin hns
        simp only [hq, if_false, e, e1, e2, bne_self_eq_false, Bool.not_false, Bool.true_and, Bool.and_false, Bool.and_true, cond_false, cond_true, hz, Option.bind_some, Bool.false_and, Bool.or_self, Bool.false_or, hns, Bool.not_true]
        exact fin
    · simp [hs, ht, Tot.some_iff]
  · simp [hs, Tot.some_iff]
end Go.Tom
