/- Chapter 48's example: the nearest fraction. -/
import Derived.Test.YtomdhjdgcfcjdaaPN22
set_option linter.unusedVariables false
set_option linter.unusedSimpArgs false
namespace Go.Tom
open Go

theorem s16 {a b : Nat} (ha : a < 65536) (hb : b < 65536) : S16 1 (a, b) := ⟨dg_len b16 (by omega), dg_len b16 (by omega)⟩

theorem loop_inl {σ ρ : Type} {f : σ → Option (σ ⊕ ρ)} {s s' : σ} (h : f s = some (.inl s')) : loopM f s = loopM f s' := by rw [loopM_eq, h]
theorem loop_inr {σ ρ : Type} {f : σ → Option (σ ⊕ ρ)} {s : σ} {r : ρ} (h : f s = some (.inr r)) : loopM f s = some r := by rw [loopM_eq, h]

theorem steps_done {p q x : D_api_Ratio} {most : Int} {up : Bool} {n : Int} : plan_steps_b1 p q x most up n n = some (.inr n) := by
  unfold plan_steps_b1
  rw [decide_eq_false (Int.lt_irrefl n), cond_false]
  rfl

theorem steps_next {p q x : FP} {most lo hi a b : Nat} {up : Bool} {k : Nat} (hp : S16 k p) (hq : S16 k q) (hx : S16 k x) (hk : k ≤ 1000) (hm : most ≤ 1048576) (hlh : lo < hi) (hhi : hi ≤ 1048576) (h : stepB p q x most up lo hi = (a, b)) :
    loopM (fun z : Int × Int => plan_steps_b1 (q32 p) (q32 q) (q32 x) (most : Int) up z.1 z.2) ((lo : Int), (hi : Int)) = loopM (fun z : Int × Int => plan_steps_b1 (q32 p) (q32 q) (q32 x) (most : Int) up z.1 z.2) ((a : Int), (b : Int)) := by
  refine loop_inl ?_
  show plan_steps_b1 (q32 p) (q32 q) (q32 x) (most : Int) up (lo : Int) (hi : Int) = _
  rw [plan_steps_b1_eq hp hq hx hk hm hlh hhi, h]

theorem ex_steps1 : plan_steps (q32 (1, 1)) (q32 (2, 1)) (q32 (7, 5)) 2 true = some 0 := by
  have e := steps_next (p := (1, 1)) (q := (2, 1)) (x := (7, 5)) (most := 2) (lo := 0) (hi := 2) (a := 0) (b := 0) (up := true) (k := 1) (s16 (by omega) (by omega)) (s16 (by omega) (by omega)) (s16 (by omega) (by omega)) (by omega) (by omega) (by omega) (by omega) (by decide)
  unfold plan_steps
  refine Eq.trans e ?_
  exact loop_inr steps_done

theorem ex_steps2 : plan_steps (q32 (2, 1)) (q32 (1, 1)) (q32 (7, 5)) 2 false = some 1 := by
  have e := steps_next (p := (2, 1)) (q := (1, 1)) (x := (7, 5)) (most := 2) (lo := 0) (hi := 2) (a := 1) (b := 2) (up := false) (k := 1) (s16 (by omega) (by omega)) (s16 (by omega) (by omega)) (s16 (by omega) (by omega)) (by omega) (by omega) (by omega) (by omega) (by decide)
  have e2 := steps_next (p := (2, 1)) (q := (1, 1)) (x := (7, 5)) (most := 2) (lo := 1) (hi := 2) (a := 1) (b := 1) (up := false) (k := 1) (s16 (by omega) (by omega)) (s16 (by omega) (by omega)) (s16 (by omega) (by omega)) (by omega) (by omega) (by omega) (by omega) (by decide)
  unfold plan_steps
  refine Eq.trans e (Eq.trans e2 ?_)
  exact loop_inr steps_done

theorem d32s {a : Nat} (h : a < 4294967296) : (d32 a).length ≤ 1 := dg_len b32 (by omega)
theorem mulS {a b : Nat} (ha : a < 4294967296) (hb : b < 4294967296) : nat_Mul [d32 a, d32 b] = some (d32 (a * b)) := nat_Mul_two (by have := d32s ha; omega) (by have := d32s hb; omega)
theorem addS {a b : Nat} (ha : a < 4294967296) (hb : b < 4294967296) : nat_Add [d32 a, d32 b] = some (d32 (a + b)) := nat_Add_two (by have := d32s ha; omega) (by have := d32s hb; omega)

theorem ex_gap1 : plan_gap (q32 (3, 2)) (q32 (7, 5)) = some (q32 (1, 10)) := by
  have h := ratio_Sub_eq (p := (3, 2)) (q := (7, 5)) (k := 1) (s16 (by omega) (by omega)) (s16 (by omega) (by omega)) (by omega) (by decide) (by decide)
  unfold plan_gap
  rw [h]
  rfl

theorem ex_gap2 : plan_gap (q32 (7, 5)) (q32 (1, 1)) = some (q32 (2, 5)) := by
  have h := ratio_Sub_eq (p := (7, 5)) (q := (1, 1)) (k := 1) (s16 (by omega) (by omega)) (s16 (by omega) (by omega)) (by omega) (by decide) (by decide)
  unfold plan_gap
  rw [h]
  rfl

theorem ex_near : plan_Near (q32 (7, 5)) 2 = some (q32 (3, 2), 0) := by
  have hfl : ratio_Floor (q32 (7, 5)) = some (d32 1) := by
    unfold ratio_Floor
    show (nat_Div (d32 7) (d32 5)).bind _ = _
    rw [nat_Div_eq (by have := d32s (a := 7) (by omega); omega) (by have := d32s (a := 5) (by omega); omega) (by omega)]
    rfl
  have h1 : nat_Of (1 : Int) = some (d32 1) := nat_Of_eq (n := 1) (by omega)
  have h0 : nat_Of (0 : Int) = some (d32 0) := nat_Of_eq (n := 0) (by omega)
  have h2 : nat_Of (2 : Int) = some (d32 2) := nat_Of_eq (n := 2) (by omega)
  have hw2 : IntKind.u64.wrap (2 : Int) = 2 := by decide
  have a11 : nat_Add [d32 1, d32 1] = some (d32 2) := addS (by omega) (by omega)
  have hcmp : ratio_Cmp (q32 (1, 10)) (q32 (2, 5)) = some (-1) := ratio_Cmp_eq (k := 1) (s16 (by omega) (by omega)) (s16 (by omega) (by omega)) (by omega)
  have hj : plan_Near_j1 (q32 (7, 5)) (q32 (1, 1)) (q32 (3, 2)) = some (q32 (3, 2), 0) := by
    unfold plan_Near_j1
    rw [ex_gap1, Option.bind_some, ex_gap2, Option.bind_some, hcmp]
    rfl
  have e1 : plan_steps (d32 1, d32 1) (d32 2, d32 1) (d32 7, d32 5) 2 true = some 0 := ex_steps1
  have e2 : plan_steps (d32 2, d32 1) (d32 1, d32 1) (d32 7, d32 5) 2 false = some 1 := ex_steps2
  have m02 : nat_Mul [d32 0, d32 2] = some (d32 0) := mulS (by omega) (by omega)
  have m01 : nat_Mul [d32 0, d32 1] = some (d32 0) := mulS (by omega) (by omega)
  have m11 : nat_Mul [d32 1, d32 1] = some (d32 1) := mulS (by omega) (by omega)
  have a10 : nat_Add [d32 1, d32 0] = some (d32 1) := addS (by omega) (by omega)
  have a21 : nat_Add [d32 2, d32 1] = some (d32 3) := addS (by omega) (by omega)
  have a13 : nat_Add [d32 1, d32 3] = some (d32 4) := addS (by omega) (by omega)
  have a12 : nat_Add [d32 1, d32 2] = some (d32 3) := addS (by omega) (by omega)
  have hbt : plan_between (d32 1, d32 1) (d32 3, d32 2) = some (d32 4, d32 3) := by
    unfold plan_between
    show (nat_Add [d32 1, d32 3]).bind (fun y2 => (nat_Add [d32 1, d32 2]).bind fun y3 => bnd ((y2, y3)) fun x4 => some x4) = _
    rw [a13, Option.bind_some, a12, Option.bind_some]
    rfl
  have c32 : nat_Cmp (d32 3) (d32 2) = some 1 := nat_Cmp_eq (by have := d32s (a := 3) (by omega); omega) (by have := d32s (a := 2) (by omega); omega)
  have l0 : ((d32 0).length : Int) = 0 := by rw [d32_zero]; rfl
  have l1 : ((d32 1).length : Int) = 1 := by
    rw [d32, dg_pos b32 (by omega), show 1 / 4294967296 = 0 from rfl, dg_zero]; rfl
  have hlen : (IntKind.i64.wrap (((d32 0).length : Int) + ((d32 1).length : Int)) == (0 : Int)) = false := by rw [l0, l1]; decide
  have hb : plan_Near_b1 (d32 7, d32 5) 2 (d32 1, d32 1) (d32 2, d32 1) = some (.inr (q32 (3, 2), 0)) := by
    unfold plan_Near_b1
    rw [hw2, e1, Option.bind_some, h0, Option.bind_some, m02, Option.bind_some, a10, Option.bind_some, m01, Option.bind_some, a10, Option.bind_some]
    show ((plan_steps (d32 2, d32 1) (d32 1, d32 1) (d32 7, d32 5) 2 false).bind fun y24 => _) = _
    rw [e2, Option.bind_some, h1, Option.bind_some, m11, Option.bind_some, a21, Option.bind_some, Option.bind_some, a11, Option.bind_some]
    show ((bif !((IntKind.i64.wrap (((d32 0).length : Int) + ((d32 1).length : Int))) == (0 : Int)) then plan_between (d32 1, d32 1) (d32 3, d32 2) else some (([] : List Int), ([] : List Int))).bind fun y31 =>
      (bif !((IntKind.i64.wrap (((d32 0).length : Int) + ((d32 1).length : Int))) == (0 : Int)) then nat_Of (2 : Int) else some ([] : List Int)).bind fun y32 =>
      (bif !((IntKind.i64.wrap (((d32 0).length : Int) + ((d32 1).length : Int))) == (0 : Int)) then nat_Cmp y31.2 y32 else some (0 : Int)).bind fun y33 =>
      bif ((IntKind.i64.wrap (((d32 0).length : Int) + ((d32 1).length : Int))) == (0 : Int)) || (decide (y33 > (0 : Int))) then (plan_Near_j1 (q32 (7, 5)) (q32 (1, 1)) (q32 (3, 2))).map Sum.inr
      else some (Sum.inl ((d32 1, d32 1), (d32 3, d32 2)) : (D_api_Ratio × D_api_Ratio) ⊕ (D_api_Ratio × Int))) = _
    rw [hlen, Bool.not_false, cond_true, hbt, Option.bind_some, cond_true, h2, Option.bind_some, cond_true, c32, Option.bind_some, hj]
    rfl
  unfold plan_Near
  have hfl' : ratio_Floor (d32 7, d32 5) = some (d32 1) := hfl
  have hc : ((decide ((2 : Int) < (1 : Int))) || (decide ((2 : Int) > (1048576 : Int)))) = false := by decide
  show (bif ((decide ((2 : Int) < (1 : Int))) || (decide ((2 : Int) > (1048576 : Int)))) then (bnd ((([] : List Int), ([] : List Int))) fun x2 => some (x2, (1 : Int))) else (ratio_Floor (d32 7, d32 5)).bind fun y3 => (nat_Of (1 : Int)).bind fun y4 => bnd ((y3, y4)) fun x5 => (nat_Of (1 : Int)).bind fun y6 => (nat_Add [y3, y6]).bind fun y7 => (nat_Of (1 : Int)).bind fun y8 => bnd ((y7, y8)) fun x9 =>
    loopM (fun x : D_api_Ratio × D_api_Ratio => plan_Near_b1 (d32 7, d32 5) 2 x.1 x.2) (x5, x9)) = _
  rw [hc, cond_false, hfl', Option.bind_some, h1, Option.bind_some]
  show ((some (d32 1)).bind fun y6 => (nat_Add [d32 1, y6]).bind fun y7 => (some (d32 1)).bind fun y8 => bnd ((y7, y8)) fun x9 =>
    loopM (fun x : D_api_Ratio × D_api_Ratio => plan_Near_b1 (d32 7, d32 5) 2 x.1 x.2) ((d32 1, d32 1), x9)) = _
  rw [Option.bind_some, a11, Option.bind_some, Option.bind_some]
  exact loop_inr hb
end Go.Tom
