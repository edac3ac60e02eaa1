/- The plain side (part 2): what the functions of the program compute, and that the law holds. -/
import Derived.Test.YtgenminnhfokkaaGreatTomAQ
import Derived.IntWalk
import Derived.Test.YtgenminnhfokkaaGreatGenx
import Derived.Lib.ItoaNum
import Derived.Lib.Join
import Derived.Lib.Repeat
import Derived.Test.YtgenminnhfokkaaGreatPU1
set_option linter.unusedVariables false
set_option linter.unusedSimpArgs false
namespace Go.Tom
open Go
structure InOk (m : Int) (l : List (Int × Int)) (out : List Int) (c : Int) (inn : List Int) : Prop where
 len : (inn.length : Int) = m
 told : ∀ k : Int, k ∈ out → 0 ≤ k → k < m → rd 0 inn k < 0 ∧ -1 - c ≤ rd 0 inn k
 not : ∀ k : Int, k ∉ out → 0 ≤ k → k < m → rd 0 inn k = (deg m l out k : Int)
def degU (m : Int) (l : List (Int × Int)) (x k : Int) : Nat := l.countP fun e => valid m e && (e.2 == k && decide (e.1 < x))
theorem degU_step {m : Int} {l : List (Int × Int)} {x k : Int} : degU m l (x + 1) k = degU m l x k + (outs m l x).count k := by
 rw [count_outs]
 unfold degU
 refine countP_split fun e _ => ?_
 cases valid m e with
 | false => simp
 | true =>
  cases h1 : e.2 == k with
  | false => simp
  | true =>
   by_cases h2 : e.1 = x
   ·simp [h2, Int.lt_irrefl]; omega
   ·have h3 : (e.1 == x) = false := by simpa using h2
    simp only [Bool.true_and, h3, Bool.false_and, Bool.or_false, Bool.and_false, and_true]
    rw [Bool.eq_iff_iff]; simp; omega
theorem degU_all {m : Int} {l : List (Int × Int)} {k : Int} : degU m l m k = deg m l [] k := by
 unfold degU deg
 congr 1
 funext e
 cases hv : valid m e with
 | false => rfl
 | true =>
  simp only [valid, decide_eq_true_eq] at hv
  simp [hv]
theorem degU_zero {m : Int} {l : List (Int × Int)} {k : Int} : degU m l 0 k = 0 := by
 unfold degU
 rw [List.countP_eq_zero]
 intro e _ hc
 simp only [valid, Bool.and_eq_true, decide_eq_true_eq] at hc
 omega
theorem take_count {L : List Int} {j : Int} {z k : Int} (h0 : 0 ≤ j) (h1 : j < (L.length : Int)) : (L.take (j + 1).toNat).count k = (L.take j.toNat).count k + (if rd z L j = k then 1 else 0) := by
 rw [take_rd (z := z) h0 h1, List.count_append]
 congr 1
 by_cases h : rd z L j = k
 ·rw [h]; simp
 ·rw [if_neg h, List.count_eq_zero_of_not_mem]
  simp only [List.mem_singleton]
  exact fun hc => h hc.symm
def ordRes : Option (List Int) → List Int × Bool
 | some o => (o, true)
 | none => ([], false)
theorem dag_Order_j1_eq {m : Int} {l : List (Int × Int)} {h : List (List Int)} (hl : l.length ≤ 10000) (m0 : 0 ≤ m) (m1 : m ≤ 4096) (hh : HeadsOk m l h) {inn : List Int} (hi : InOk m l [] 0 inn) : dag_Order_j1 h inn = some (ordRes (ordL m l m.toNat [])) := by
 obtain ⟨hlen, hat⟩ := hh
 rw [← Tot.eq_iff]
 unfold dag_Order_j1
 refine Tot.loop (fun (x : List Int × List Int) => OrdOk m l x.2 ∧ InOk m l x.2 ((x.2.length : Int) * l.length) x.1 ∧ ordL m l (m.toNat - x.2.length) x.2 = ordL m l m.toNat []) (fun x => m.toNat - x.2.length) (fun x hx => ?_) ⟨OrdOk.nil, by simpa using hi, by simp⟩
 obtain ⟨inn, out⟩ := x
 simp only at hx
 obtain ⟨ho, hin, hor⟩ := hx
 obtain ⟨hil, htold, hnot⟩ := hin
 have hle := ho.le m0
 simp only [dag_Order_b1, dag_Order_j2, cond_some, Tot.cond_iff, Tot.ass_iff, Tot.bnd_iff, Tot.some_iff, Tot.map_iff, Tot.bind_iff, Nx.inl_iff, Nx.inr_iff, decide_eq_true_eq, decide_eq_false_iff_not]
 refine ⟨fun hlt => ?_, fun hge => ?_⟩
 ·refine (slices_Index_int_tot inn 0 (by omega)).mono fun k hk => ?_
  have hzero : ∀ j : Int, 0 ≤ j → j < m → (rd 0 inn j = 0 ↔ FreeP m l out j) := fun j j0 j1 => by
   rw [free_deg j0 j1]
   by_cases hj : j ∈ out
   ·have := htold j hj j0 j1
    simp only [hj, not_true_eq_false, false_and, iff_false]
    omega
   ·rw [hnot j hj j0 j1]
    simp [hj]
  have hk2 : m.toNat - out.length = (m.toNat - out.length - 1) + 1 := by omega
  rw [hk2] at hor
  simp only [ordL] at hor
  refine ⟨fun hneg => ?_, fun hpos => ?_⟩
  ·have hz : (0 : Int) ∉ inn := by
    rcases hk with ⟨_, h⟩ | ⟨h, _⟩
    ·exact h
    ·omega
   have hnone : nextF m l out = none := by
    refine findU_none.2 fun j j0 j1 => ?_
    rw [decide_eq_false_iff_not]
    intro hf
    have := (hzero j j0 (by omega)).2 hf
    rw [← this] at hz
    exact hz (rd_mem j0 (by omega))
   rw [hnone] at hor
   simp only at hor
   rw [← hor]
   rfl
  ·skip
   rcases hk with ⟨hk, _⟩ | ⟨k0, k1, k2, _, k3⟩
   ·omega
   have hkm : k < m := by omega
   have hfk := (hzero k k0 hkm).1 k2
   have hnext : nextF m l out = some k := findU_some.2 ⟨k0, by omega, by simpa using hfk, fun j j0 j1 => by
    rw [decide_eq_false_iff_not]
    exact fun hf => k3 j j0 j1 ((hzero j j0 (by omega)).2 hf)⟩
   rw [hnext] at hor
   simp only at hor
   have hsn := ho.snoc hnext
   have hlimit : ((out.length : Int) * l.length) ≤ 4096 * 10000 := Int.mul_le_mul (by omega) (by omega) (by omega) (by omega)
   have hlimit0 : 0 ≤ ((out.length : Int) * l.length) := Int.mul_nonneg (by omega) (by omega)
   have hL : rd ([] : List Int) h k = outs m l k := hat k k0 hkm
   have hLl := outs_len (n := m) (l := l) (x := k)
   have hLr : ∀ y ∈ outs m l k, 0 ≤ y ∧ y < m := fun y hy => by have := mem_outs.1 hy; exact ⟨this.2.2.2.1, this.2.2.2.2⟩
   rw [hL]
   generalize hLdef : outs m l k = L at *
   refine ⟨⟨k0, k1⟩, by simp only [List.length_singleton]; unfold limA; omega, ⟨k0, by omega⟩, ?_⟩
   refine Tot.loop (fun (y : List Int × Int) => 0 ≤ y.2 ∧ y.2 ≤ (L.length : Int) ∧ (y.1.length : Int) = m ∧ (∀ j : Int, j ∈ out ++ [k] → 0 ≤ j → j < m → rd 0 y.1 j < 0 ∧ -1 - (out.length : Int) * l.length - y.2 ≤ rd 0 y.1 j) ∧
     (∀ j : Int, j ∉ out ++ [k] → 0 ≤ j → j < m → rd 0 y.1 j = (deg m l out j : Int) - ((L.take y.2.toNat).count j : Int))) (fun y => ((L.length : Int) - y.2).toNat) (fun y hy => ?_) ⟨by simp, by simp, by rw [wr_length]; exact hil, fun j hj j0 j1 => ?_, fun j hj j0 j1 => ?_⟩
   rotate_left
   ·rw [rd_wr k0 (by omega) j0]
    split
    ·omega
    ·rename_i hjk
     have hjo : j ∈ out := by
      rcases List.mem_append.1 hj with h | h
      ·exact h
      ·exact absurd (List.mem_singleton.1 h) hjk
     have := htold j hjo j0 j1
     omega
   ·have hjk : j ≠ k := fun hc => hj (by rw [hc]; simp)
    rw [rd_wr k0 (by omega) j0, if_neg hjk, hnot j (fun hc => hj (List.mem_append_left _ hc)) j0 j1]
    simp
   obtain ⟨ii, y⟩ := y
   simp only at hy
   obtain ⟨g0, g1, g2, g3, g4⟩ := hy
   have hw1 : IntKind.i64.wrap (y + 1) = y + 1 := w64 (by omega) (by omega)
   simp only [dag_Order_b2, hL, hw1, cond_some, Tot.cond_iff, Tot.ass_iff, Tot.bnd_iff, Tot.some_iff, Tot.map_iff, Tot.bind_iff, Nx.inl_iff, Nx.inr_iff, decide_eq_true_eq, decide_eq_false_iff_not]
   refine ⟨fun hylt => ?_, fun hyge => ?_⟩
   ·have htc := fun j => take_count (z := 0) (k := j) g0 hylt
    have htr := hLr _ (rd_mem (z := 0) g0 hylt)
    generalize rd 0 L y = to at *
    have hdl := fun k => deg_le (n := m) (l := l) (out := out) (k := k)
    have hval : -1 - 4096 * 10000 - 10000 ≤ rd 0 ii to ∧ rd 0 ii to ≤ 10000 := by
     by_cases hto : to ∈ out ++ [k]
     ·have := g3 to hto htr.1 htr.2; omega
     ·have h1 := g4 to hto htr.1 htr.2
      have h2 := hdl to
      have h3 := List.count_le_length (a := to) (l := L.take y.toNat)
      have h4 : (L.take y.toNat).length ≤ L.length := List.length_take_le' _ _
      omega
    have hw2 : IntKind.i64.wrap (rd 0 ii to - 1) = rd 0 ii to - 1 := w64 (by omega) (by omega)
    rw [hw2]
    refine ⟨⟨g0, hylt⟩, ⟨htr.1, by omega⟩, ⟨by omega, by omega, by rw [wr_length]; exact g2, fun j hj j0 j1 => ?_, fun j hj j0 j1 => ?_⟩, by omega⟩
    ·rw [rd_wr htr.1 (by omega) j0]
     have := g3 j hj j0 j1
     split
     ·rename_i hjt; rw [hjt] at this; omega
     ·omega
    ·rw [rd_wr htr.1 (by omega) j0, htc j]
     have := g4 j hj j0 j1
     by_cases hjt : j = to
     ·rw [if_pos hjt, if_pos hjt.symm]; rw [hjt] at this ⊢; omega
     ·rw [if_neg hjt, if_neg (fun hc => hjt hc.symm)]; omega
   ·have hy : y = (L.length : Int) := by omega
    subst hy
    refine ⟨⟨hsn, ⟨g2, fun j hj j0 j1 => ?_, fun j hj j0 j1 => ?_⟩, ?_⟩, ?_⟩
    ·have := g3 j hj j0 j1
     have he : (((out ++ [k]).length : Nat) : Int) * l.length = (out.length : Int) * l.length + l.length := by simp [Int.add_mul]
     rw [he]; omega
    ·have h1 := g4 j hj j0 j1
     have h2 := deg_snoc (n := m) (l := l) (out := out) (k := k) (y := j) hfk.1
     rw [hLdef] at h2
     simp only [Int.toNat_natCast, List.take_length] at h1
     omega
    ·rw [← hor]; congr 1; simp; omega
    ·simp only [List.length_append, List.length_singleton]; omega
 ·have hz : m.toNat - out.length = 0 := by omega
  rw [hz] at hor
  rw [← hor]
  rfl
theorem dag_Order_eq (n : Int) (l : List (Int × Int)) (hl : l.length ≤ 10000) : dag_Order n l = some (ordRes (ordL (clampN n) l (clampN n).toNat [])) := by
 rw [← Tot.eq_iff]
 unfold dag_Order
 rw [Tot.bind_iff]
 refine (dag_heads_tot n l (by omega)).mono fun h hh => ?_
 obtain ⟨c0, c1⟩ := clamp_le (n := n)
 generalize clampN n = m at *
 obtain ⟨hlen, hat⟩ := id hh
 simp only [cond_some, Tot.cond_iff, Tot.ass_iff, Tot.bnd_iff, Tot.some_iff, Tot.map_iff, Tot.bind_iff, Nx.inl_iff, Nx.inr_iff, decide_eq_true_eq, decide_eq_false_iff_not]
 refine ⟨⟨by omega, Int.le_refl _, by unfold lim; omega⟩, ?_⟩
 have hdu : ∀ x k, degU m l x k ≤ l.length := fun x k => List.countP_le_length
 refine Tot.loop (fun (x : List Int × Int) => 0 ≤ x.2 ∧ x.2 ≤ m ∧ (x.1.length : Int) = m ∧ ∀ k : Int, 0 ≤ k → k < m → rd 0 x.1 k = (degU m l x.2 k : Int)) (fun x => (m - x.2).toNat) (fun x hx => ?_) ⟨by simp, c0, by simp; omega, fun k k0 k1 => ?_⟩
 rotate_left
 ·rw [degU_zero, rd_eq k.toNat (by omega) (by simp; omega)]; simp
 obtain ⟨inn, x⟩ := x
 simp only at hx
 obtain ⟨h0, h1, h2, h3⟩ := hx
 simp only [dag_Order_b3, cond_some, Tot.cond_iff, Tot.ass_iff, Tot.bnd_iff, Tot.some_iff, Tot.map_iff, Tot.bind_iff, Nx.inl_iff, Nx.inr_iff, decide_eq_true_eq, decide_eq_false_iff_not]
 refine ⟨fun hlt => ⟨⟨h0, by omega⟩, ?_⟩, fun hge => ?_⟩
 ·have hL : rd ([] : List Int) h x = outs m l x := hat x h0 (by omega)
  have hLl := outs_len (n := m) (l := l) (x := x)
  have hLr : ∀ y ∈ outs m l x, 0 ≤ y ∧ y < m := fun y hy => by have := mem_outs.1 hy; exact ⟨this.2.2.2.1, this.2.2.2.2⟩
  have hstep := fun k => degU_step (m := m) (l := l) (x := x) (k := k)
  rw [hL]
  generalize hLdef : outs m l x = L at *
  refine Tot.loop (fun (y : List Int × Int) => 0 ≤ y.2 ∧ y.2 ≤ (L.length : Int) ∧ (y.1.length : Int) = m ∧ ∀ k : Int, 0 ≤ k → k < m → rd 0 y.1 k = (degU m l x k : Int) + ((L.take y.2.toNat).count k : Int)) (fun y => ((L.length : Int) - y.2).toNat) (fun y hy => ?_) ⟨by simp, by simp, h2, fun k k0 k1 => by simpa using h3 k k0 k1⟩
  obtain ⟨ii, y⟩ := y
  simp only at hy
  obtain ⟨g0, g1, g2, g3⟩ := hy
  have hw1 : IntKind.i64.wrap (y + 1) = y + 1 := w64 (by omega) (by omega)
  have hw3 : IntKind.i64.wrap (x + 1) = x + 1 := w64 (by omega) (by omega)
  simp only [dag_Order_b4, dag_Order_j3, dag_Order_j4, hw1, hw3, cond_some, Tot.cond_iff, Tot.ass_iff, Tot.bnd_iff, Tot.some_iff, Tot.map_iff, Tot.bind_iff, Nx.inl_iff, Nx.inr_iff, decide_eq_true_eq, decide_eq_false_iff_not]
  refine ⟨fun hylt => ?_, fun hyge => ?_⟩
  ·have htc := fun j => take_count (z := 0) (k := j) g0 hylt
   have htr := hLr _ (rd_mem (z := 0) g0 hylt)
   generalize rd 0 L y = to at *
   have hv := g3 to htr.1 htr.2
   have h5 := hdu x to
   have h6 := List.count_le_length (a := to) (l := L.take y.toNat)
   have h7 : (L.take y.toNat).length ≤ L.length := List.length_take_le' _ _
   have hw2 : IntKind.i64.wrap (rd 0 ii to + 1) = rd 0 ii to + 1 := w64 (by omega) (by omega)
   rw [hw2]
   refine ⟨⟨g0, hylt⟩, ⟨htr.1, by omega⟩, ⟨by omega, by omega, by rw [wr_length]; exact g2, fun j j0 j1 => ?_⟩, by omega⟩
   rw [rd_wr htr.1 (by omega) j0, htc j]
   have := g3 j j0 j1
   by_cases hjt : j = to
   ·rw [if_pos hjt, if_pos hjt.symm]; rw [hjt] at this ⊢; omega
   ·rw [if_neg hjt, if_neg (fun hc => hjt hc.symm)]; omega
  ·have hy : y = (L.length : Int) := by omega
   subst hy
   simp only [Int.toNat_natCast, List.take_length] at g3
   refine ⟨⟨by omega, by omega, g2, fun k k0 k1 => ?_⟩, by omega⟩
   rw [g3 k k0 k1, hstep k]; omega
 ·have hx : x = m := by omega
  subst hx
  rw [dag_Order_j1_eq hl c0 c1 hh ⟨h2, (fun k hk => by cases hk), fun k _ k0 k1 => by rw [h3 k k0 k1, degU_all]⟩, Tot.some_iff]
theorem loop_build {α : Type} {step : List α × Int → Option ((List α × Int) ⊕ List α)} (f : Int → List α) (n : Nat) (h : ∀ x : Int, 0 ≤ x → x < (n : Int) → step (buildL f x.toNat, x) = some (.inl (buildL f x.toNat ++ f x, x + 1)))
  (he : step (buildL f n, (n : Int)) = some (.inr (buildL f n))) : loopM step (([] : List α), (0 : Int)) = some (buildL f n) := by
 rw [← Tot.eq_iff]
 refine Tot.loop (fun x => 0 ≤ x.2 ∧ x.2 ≤ (n : Int) ∧ x.1 = buildL f x.2.toNat) (fun x => ((n : Int) - x.2).toNat) (fun x hx => ?_) ⟨by omega, by simp, rfl⟩
 obtain ⟨acc, x⟩ := x
 simp only at hx
 obtain ⟨h0, h1, rfl⟩ := hx
 by_cases hlt : x < (n : Int)
 ·rw [h x h0 hlt]
  simp only [cond_some, Tot.cond_iff, Tot.ass_iff, Tot.bnd_iff, Tot.some_iff, Tot.map_iff, Tot.bind_iff, Nx.inl_iff, Nx.inr_iff, decide_eq_true_eq, decide_eq_false_iff_not]
  exact ⟨⟨by omega, by omega, (buildL_step h0).symm⟩, by omega⟩
 ·have hx : x = (n : Int) := by omega
  subst hx
  simp only [Int.toNat_natCast]
  rw [he]
  simp only [cond_some, Tot.cond_iff, Tot.ass_iff, Tot.bnd_iff, Tot.some_iff, Tot.map_iff, Tot.bind_iff, Nx.inl_iff, Nx.inr_iff, decide_eq_true_eq, decide_eq_false_iff_not]
theorem filter_take {z : Int} {xs : List Int} {q : Int → Bool} {x : Int} (h0 : 0 ≤ x) (h1 : x < (xs.length : Int)) : (xs.take (x + 1).toNat).filter q = (xs.take x.toNat).filter q ++ (if q (rd z xs x) = true then [rd z xs x] else []) := by
 rw [take_rd (z := z) h0 h1, List.filter_append]
 congr 1
 simp only [List.filter_cons, List.filter_nil]
theorem slices_IndexFunc_int_tot (l : List Int) (p : Int → Option Bool) (q : Int → Bool) (hl : l.length ≤ 100000) (hp : ∀ x ∈ l, p x = some (q x)) :
  Tot (slices_IndexFunc_int_int l p) (fun r => (r = -1 ∧ ∀ x ∈ l, q x = false) ∨ (0 ≤ r ∧ r < (l.length : Int) ∧ q (rd 0 l r) = true ∧ ∀ x ∈ l.take r.toNat, q x = false)) := by
 unfold slices_IndexFunc_int_int
 refine Tot.loop (fun x => 0 ≤ x ∧ x ≤ (l.length : Int) ∧ ∀ y ∈ l.take x.toNat, q y = false) (fun x => ((l.length : Int) - x).toNat) (fun x hx => ?_) ⟨by omega, by omega, fun y hy => by simp at hy⟩
 obtain ⟨h0, h1, h2⟩ := hx
 have hw1 : IntKind.i64.wrap (x + 1) = x + 1 := w64 (by omega) (by omega)
 simp only [slices_IndexFunc_int_int_b1, slices_IndexFunc_int_int_j1, hw1, cond_some, Tot.cond_iff, Tot.ass_iff, Tot.bnd_iff, Tot.some_iff, Tot.map_iff, Tot.bind_iff, Nx.inl_iff, Nx.inr_iff, decide_eq_true_eq, decide_eq_false_iff_not]
 refine ⟨fun hlt => ⟨⟨h0, hlt⟩, ?_⟩, fun hge => .inl ⟨by trivial, fun y hy => h2 y ?_⟩⟩
 ·rw [hp _ (rd_mem h0 hlt)]
  simp only [cond_some, Tot.cond_iff, Tot.ass_iff, Tot.bnd_iff, Tot.some_iff, Tot.map_iff, Tot.bind_iff, Nx.inl_iff, Nx.inr_iff, decide_eq_true_eq, decide_eq_false_iff_not]
  refine ⟨fun hq => .inr ⟨h0, hlt, hq, h2⟩, fun hq => ⟨⟨by omega, by omega, fun y hy => ?_⟩, by omega⟩⟩
  rw [take_rd (z := 0) h0 hlt] at hy
  rcases List.mem_append.1 hy with hy | hy
  ·exact h2 y hy
  ·rw [List.mem_singleton.1 hy]; exact hq
 ·rw [List.take_of_length_le (by omega)]; exact hy
theorem slices_DeleteFunc_int_eq (l : List Int) (p : Int → Option Bool) (q : Int → Bool) (hl : l.length ≤ 100000) (hp : ∀ x ∈ l, p x = some (q x)) : slices_DeleteFunc_int_int l p = some (l.filter fun x => !(q x)) := by
 rw [← Tot.eq_iff]
 simp only [slices_DeleteFunc_int_int, cond_some, Tot.cond_iff, Tot.ass_iff, Tot.bnd_iff, Tot.some_iff, Tot.map_iff, Tot.bind_iff, Nx.inl_iff, Nx.inr_iff, decide_eq_true_eq, decide_eq_false_iff_not]
 refine (slices_IndexFunc_int_tot l p q hl hp).mono fun r hr => ?_
 have hall : ∀ {l' : List Int}, (∀ x ∈ l', q x = false) → l'.filter (fun x => !(q x)) = l' := fun h => List.filter_eq_self.2 fun x hx => by rw [h x hx]; rfl
 refine ⟨fun h1 => ?_, fun h1 => ?_⟩
 ·simp only [Bool.and_eq_true, Bool.or_eq_true, Bool.not_eq_true', Bool.and_eq_false_iff, Bool.or_eq_false_iff, Bool.not_eq_false', beq_iff_eq, bne_iff_ne, beq_eq_false_iff_ne, bne_eq_false_iff_eq, decide_eq_true_eq, decide_eq_false_iff_not] at h1
  rcases hr with ⟨_, hr⟩ | ⟨h0, _⟩
  ·exact (hall hr).symm
  ·omega
 ·simp only [Bool.and_eq_true, Bool.or_eq_true, Bool.not_eq_true', Bool.and_eq_false_iff, Bool.or_eq_false_iff, Bool.not_eq_false', beq_iff_eq, bne_iff_ne, beq_eq_false_iff_ne, bne_eq_false_iff_eq, decide_eq_true_eq, decide_eq_false_iff_not] at h1
  rcases hr with ⟨h2, _⟩ | ⟨h0, h2, h3, h4⟩
  ·exact absurd h2 h1
  have hw : IntKind.i64.wrap (r + 1) = r + 1 := w64 (by omega) (by omega)
  rw [hw]
  refine Tot.loop (fun x => x.1.length = l.length ∧ 0 ≤ x.2.1 ∧ x.2.1 < x.2.2 ∧ x.2.2 ≤ (l.length : Int) ∧ x.1.take x.2.1.toNat = (l.take x.2.2.toNat).filter (fun x => !(q x)) ∧ ∀ k : Int, x.2.2 ≤ k → rd 0 x.1 k = rd 0 l k) (fun x => ((l.length : Int) - x.2.2).toNat) (fun x hx => ?_)
   ⟨rfl, h0, by simp only; omega, by simp only; omega, ?_, fun k _ => rfl⟩
  ·obtain ⟨a, i, j⟩ := x
   simp only at hx
   obtain ⟨g0, g1, g2, g3, g4, g5⟩ := hx
   have hw1 : IntKind.i64.wrap (i + 1) = i + 1 := w64 (by omega) (by omega)
   have hw2 : IntKind.i64.wrap (j + 1) = j + 1 := w64 (by omega) (by omega)
   simp only [slices_DeleteFunc_int_int_b1, slices_DeleteFunc_int_int_j1, slices_DeleteFunc_int_int_j2, hw1, hw2, g0, cond_some, Tot.cond_iff, Tot.ass_iff, Tot.bnd_iff, Tot.some_iff, Tot.map_iff, Tot.bind_iff, Nx.inl_iff, Nx.inr_iff, decide_eq_true_eq, decide_eq_false_iff_not]
   refine ⟨fun hlt => ⟨⟨by omega, hlt⟩, ?_⟩, fun hge => ?_⟩
   ·rw [g5 j (by omega), hp _ (rd_mem (by omega) hlt)]
    simp only [cond_some, Tot.cond_iff, Tot.ass_iff, Tot.bnd_iff, Tot.some_iff, Tot.map_iff, Tot.bind_iff, Nx.inl_iff, Nx.inr_iff, decide_eq_true_eq, decide_eq_false_iff_not]
    have hft := filter_take (z := 0) (q := fun x => !(q x)) (xs := l) (x := j) (by omega) hlt
    refine ⟨fun hq => ⟨⟨g1, by omega⟩, ⟨by rw [wr_length]; exact g0, by omega, by omega, by omega, ?_, fun k hk => ?_⟩, by omega⟩, fun hq => ⟨⟨trivial, g1, by omega, by omega, ?_, fun k hk => g5 k (by omega)⟩, by omega⟩⟩
    ·rw [hft, if_pos hq, ← g4, take_rd (z := 0) g1 (by rw [wr_length]; omega), rd_wr g1 (by omega) g1, if_pos rfl]
     congr 1
     unfold wr
     rw [List.take_set_of_le (by omega)]
    ·rw [rd_wr g1 (by omega) (by omega), if_neg (by omega)]
     exact g5 k (by omega)
    ·rw [hft, if_neg (by rw [hq]; simp), List.append_nil]
     exact g4
   ·have hj : j = (l.length : Int) := by omega
    subst hj
    rw [Int.toNat_natCast, List.take_length] at g4
    have hcl := clr_len (xs := a) (l := i) (h := (l.length : Int)) g1 (by omega) (by omega)
    refine ⟨⟨g1, by omega, by omega⟩, ⟨by omega, g1, by omega⟩, ?_⟩
    rw [← g4]
    unfold sl clr
    rw [List.take_append_of_le_length (by simp; omega)]
    simp [List.take_take]
  ·rw [filter_take (z := 0) h0 h2, if_neg (by rw [h3]; simp), List.append_nil, hall h4]
theorem state_CoinArrows_eq (s : D_api_State) (hn : s.2.1.length ≤ 100000) : state_CoinArrows s = some (coinArrows s) := by
 unfold state_CoinArrows coinArrows
 refine loop_build (fun k => coinArr (rd z_api_Ticket s.2.1 k)) _ (fun x h0 h1 => ?_) ?_
 ·have hw1 : IntKind.i64.wrap (x + 1) = x + 1 := w64 (by omega) (by omega)
  have hlen := buildL_len (f := fun k => coinArr (rd z_api_Ticket s.2.1 k)) (c := 1) (fun k => coinArr_len _) (n := x.toNat)
  rw [← Tot.eq_iff]
  simp only [state_CoinArrows_b1, state_CoinArrows_j1, state_CoinArrows_j2, hw1, cond_some, Tot.cond_iff, Tot.ass_iff, Tot.bnd_iff, Tot.some_iff, Tot.map_iff, Tot.bind_iff, Nx.inl_iff, Nx.inr_iff, decide_eq_true_eq, decide_eq_false_iff_not]
  refine ⟨fun _ => ⟨⟨h0, h1⟩, fun hb => ⟨?_, ?_⟩, fun hb => ?_⟩, fun hge => absurd h1 hge⟩
  ·simp only [List.length_singleton]; unfold limA; omega
  ·simp only [Bool.and_eq_true, Bool.or_eq_true, Bool.not_eq_true', Bool.and_eq_false_iff, Bool.or_eq_false_iff, Bool.not_eq_false', beq_iff_eq, bne_iff_ne, beq_eq_false_iff_ne, bne_eq_false_iff_eq, decide_eq_true_eq, decide_eq_false_iff_not] at hb
   simp [coinArr, hb]
  ·simp only [Bool.and_eq_true, Bool.or_eq_true, Bool.not_eq_true', Bool.and_eq_false_iff, Bool.or_eq_false_iff, Bool.not_eq_false', beq_iff_eq, bne_iff_ne, beq_eq_false_iff_ne, bne_eq_false_iff_eq, decide_eq_true_eq, decide_eq_false_iff_not] at hb
   have : coinArr (rd z_api_Ticket s.2.1 x) = [] := by unfold coinArr; rw [if_neg]; grind
   rw [this, List.append_nil]
 ·rw [← Tot.eq_iff]
  simp only [state_CoinArrows_b1, state_CoinArrows_j1, cond_some, Tot.cond_iff, Tot.ass_iff, Tot.bnd_iff, Tot.some_iff, Tot.map_iff, Tot.bind_iff, Nx.inl_iff, Nx.inr_iff, decide_eq_true_eq, decide_eq_false_iff_not]
  exact ⟨fun hc => absurd hc (by omega), fun _ => trivial⟩
theorem coinArrows_len {s : D_api_State} : (coinArrows s).length ≤ s.2.1.length := by
 have := buildL_len (f := fun k => coinArr (rd z_api_Ticket s.2.1 k)) (c := 1) (fun k => coinArr_len _) (n := s.2.1.length)
 unfold coinArrows
 omega
def FundsP (s : D_api_State) (a b : Int) : Prop := CoinP s a ∧ CoinP s b ∧ Relation.TransGen (RR s.1.length (coinArrows s)) a b
def fundOrd (s : D_api_State) : List Int := ((ordL s.1.length (coinArrows s) s.1.length []).getD []).filter fun c => rd false s.1 c
theorem fund_Order_eq (s : D_api_State) (h1 : s.1.length ≤ 4096) (h2 : s.2.1.length ≤ 10000) (hnr : ¬ RingP s.1.length (coinArrows s)) : ∃ o, ordL s.1.length (coinArrows s) s.1.length [] = some o ∧ OrdOk s.1.length (coinArrows s) o ∧ o.length = s.1.length ∧ fundOrd s = o.filter (fun c => rd false s.1 c) ∧ fund_Order s = some (fundOrd s) := by
 have hcl : clampN (s.1.length : Int) = s.1.length := clamp_eq (by omega) (by omega)
 have hal := coinArrows_len (s := s)
 have hord := dag_Order_eq (s.1.length : Int) (coinArrows s) (by omega)
 rw [hcl, Int.toNat_natCast] at hord
 cases ho : ordL s.1.length (coinArrows s) s.1.length [] with
 | none =>
  have := (ring_iff (n := s.1.length) (l := coinArrows s) (by omega)).1 (by rw [Int.toNat_natCast]; exact ho)
  exact absurd this hnr
 | some o =>
  obtain ⟨hok, hol⟩ := ordL_ok ho OrdOk.nil
  simp only [List.length_nil, Nat.zero_add] at hol
  have hfo : fundOrd s = o.filter (fun c => rd false s.1 c) := by simp [fundOrd, ho]
  refine ⟨o, rfl, hok, hol, hfo, ?_⟩
  rw [ho] at hord
  rw [hfo, ← Tot.eq_iff]
  simp only [fund_Order, state_CoinArrows_eq s (by omega), hord, ordRes, cond_some, Tot.cond_iff, Tot.ass_iff, Tot.bnd_iff, Tot.some_iff, Tot.map_iff, Tot.bind_iff, Nx.inl_iff, Nx.inr_iff, decide_eq_true_eq, decide_eq_false_iff_not]
  rw [slices_DeleteFunc_int_eq o _ (fun c => !(rd false s.1 c)) (by omega) (fun x hx => ?_), Tot.some_iff]
  ·simp
  ·rw [← Tot.eq_iff]
   simp only [fund_Order_c1, cond_some, Tot.cond_iff, Tot.ass_iff, Tot.bnd_iff, Tot.some_iff, Tot.map_iff, Tot.bind_iff, Nx.inl_iff, Nx.inr_iff, decide_eq_true_eq, decide_eq_false_iff_not]
   exact ⟨(hok.rng x hx), trivial⟩
def tix (s : D_api_State) (q : D_api_Ticket → Bool) : List Int := buildL (fun k => if ((rd z_api_Ticket s.2.1 k).1 && q (rd z_api_Ticket s.2.1 k)) = true then [k] else []) s.2.1.length
theorem mem_tix {s : D_api_State} {q : D_api_Ticket → Bool} {k : Int} : k ∈ tix s q ↔ 0 ≤ k ∧ k < (s.2.1.length : Int) ∧ (rd z_api_Ticket s.2.1 k).1 = true ∧ q (rd z_api_Ticket s.2.1 k) = true := by
 unfold tix
 rw [mem_buildL]
 constructor
 ·rintro ⟨j, h0, h1, h2⟩
  split at h2
  ·rename_i h
   rw [Bool.and_eq_true] at h
   rw [List.mem_singleton.1 h2]
   exact ⟨h0, h1, h.1, h.2⟩
  ·simp at h2
 ·rintro ⟨h0, h1, h2, h3⟩
  exact ⟨k, h0, h1, by simp [h2, h3]⟩
theorem tix_len {s : D_api_State} {q : D_api_Ticket → Bool} : (tix s q).length ≤ s.2.1.length := by
 have := buildL_len (f := fun k => if ((rd z_api_Ticket s.2.1 k).1 && q (rd z_api_Ticket s.2.1 k)) = true then [k] else []) (c := 1) (fun k => by split <;> simp) (n := s.2.1.length)
 unfold tix
 omega
theorem fund_which_eq (s : D_api_State) (p : D_api_Ticket → Option Bool) (q : D_api_Ticket → Bool) (hn : s.2.1.length ≤ 100000) (hp : ∀ t, p t = some (q t)) : fund_which s p = some (tix s q) := by
 unfold fund_which tix
 refine loop_build (fun k => if ((rd z_api_Ticket s.2.1 k).1 && q (rd z_api_Ticket s.2.1 k)) = true then [k] else []) _ (fun x h0 h1 => ?_) ?_
 ·have hw1 : IntKind.i64.wrap (x + 1) = x + 1 := w64 (by omega) (by omega)
  have hlen := buildL_len (f := fun k => if ((rd z_api_Ticket s.2.1 k).1 && q (rd z_api_Ticket s.2.1 k)) = true then [k] else []) (c := 1) (fun k => by split <;> simp) (n := x.toNat)
  generalize buildL (fun k => if ((rd z_api_Ticket s.2.1 k).1 && q (rd z_api_Ticket s.2.1 k)) = true then [k] else []) x.toNat = acc at hlen ⊢
  rw [← Tot.eq_iff]
  simp only [fund_which_b1, fund_which_j1, fund_which_j2, hw1, hp, cond_some, Tot.cond_iff, Tot.ass_iff, Tot.bnd_iff, Tot.some_iff, Tot.map_iff, Tot.bind_iff, Nx.inl_iff, Nx.inr_iff, decide_eq_true_eq, decide_eq_false_iff_not]
  refine ⟨fun _ => ⟨⟨h0, h1⟩, ?_⟩, fun hge => absurd h1 hge⟩
  cases hu : (rd z_api_Ticket s.2.1 x).1 <;> cases hq : q (rd z_api_Ticket s.2.1 x) <;> simp [Tot.some_iff]
  unfold limA; omega
 ·rw [← Tot.eq_iff]
  simp only [fund_which_b1, fund_which_j1, cond_some, Tot.cond_iff, Tot.ass_iff, Tot.bnd_iff, Tot.some_iff, Tot.map_iff, Tot.bind_iff, Nx.inl_iff, Nx.inr_iff, decide_eq_true_eq, decide_eq_false_iff_not]
  exact ⟨fun hc => absurd hc (by omega), fun _ => trivial⟩
def isOf (c : Int) (t : D_api_Ticket) : Bool := t.2.1 == c
def backs (c : Int) (t : D_api_Ticket) : Bool := (t.2.2.2.1 == 2) && (t.2.2.2.2.1 == c)
def fundsT (i : Int) (t : D_api_Ticket) : Bool := (t.2.2.2.1 == 1) && (t.2.2.2.2.1 == i)
theorem fund_Issued_eq (s : D_api_State) (c : Int) (hn : s.2.1.length ≤ 100000) : fund_Issued s c = some (tix s (isOf c)) := by
 unfold fund_Issued
 rw [fund_which_eq s (fun x => fund_Issued_c1 x c) (isOf c) hn fun t => rfl]
 rfl
def sumI (f : Int → Int) : Nat → Int
 | 0 => 0
 | n + 1 => sumI f n + f (n : Int)
theorem sumI_step {f : Int → Int} {x : Int} (h0 : 0 ≤ x) : sumI f (x + 1).toNat = sumI f x.toNat + f x := by
 rw [show (x + 1).toNat = x.toNat + 1 from by omega]
 show sumI f x.toNat + f (x.toNat : Int) = _
 rw [show ((x.toNat : Nat) : Int) = x from by omega]
theorem sumI_congr {f g : Int → Int} : ∀ {n : Nat}, (∀ k : Int, 0 ≤ k → k < (n : Int) → f k = g k) → sumI f n = sumI g n
 | 0, _ => rfl
 | n + 1, h => by
  show sumI f n + f n = sumI g n + g n
  rw [sumI_congr (n := n) fun k h0 h1 => h k h0 (by omega), h n (by omega) (by omega)]
theorem sumI_bound {f : Int → Int} {c : Int} : ∀ {n : Nat}, (∀ k : Int, 0 ≤ k → k < (n : Int) → 0 ≤ f k ∧ f k ≤ c) → 0 ≤ sumI f n ∧ sumI f n ≤ c * n
 | 0, _ => ⟨Int.le_refl 0, by simp [sumI]⟩
 | n + 1, h => by
  have ih := sumI_bound (n := n) fun k h0 h1 => h k h0 (by omega)
  have h2 := h n (by omega) (by omega)
  have e : c * ((n + 1 : Nat) : Int) = c * n + c := by rw [Int.natCast_add, Int.mul_add]; simp
  rw [e]
  show 0 ≤ sumI f n + f n ∧ sumI f n + f n ≤ _
  omega
def tk (s : D_api_State) (k : Int) : D_api_Ticket := rd z_api_Ticket s.2.1 k
def cntW (s : D_api_State) (amt : Int → Int) (k : Int) : Bool :=
 (tk s k).1 && (tk s k).2.2.2.2.2 && (((tk s k).2.2.2.1 == 1 && livesB s (tk s k).2.2.2.2.1) || ((tk s k).2.2.2.1 == 2 && decide (0 < amt (tk s k).2.2.2.2.1)))
def amtW (s : D_api_State) (amt : Int → Int) (c : Int) : Int :=
 sumI (fun k => if ((tk s k).2.1 == c && cntW s amt k) = true then (tk s k).2.2.1 else 0) s.2.1.length
def amtF (s : D_api_State) : Nat → Int → Int
 | 0, _ => 0
 | n + 1, c => amtW s (amtF s n) c
def amtI (s : D_api_State) (c : Int) : Int := amtF s 17 c
def cntB (s : D_api_State) (k : Int) : Bool := cntW s (amtI s) k
theorem FineP.tk_ok {s : D_api_State} (h : FineP s) {k : Int} (h0 : 0 ≤ k) (h1 : k < (s.2.1.length : Int)) : TicketOk s (tk s k) := h.tickets.1 k h0 h1
theorem FineP.arr {s : D_api_State} (h : FineP s) {k : Int} (h0 : 0 ≤ k) (h1 : k < (s.2.1.length : Int)) (hu : (tk s k).1 = true) (hk : (tk s k).2.2.2.1 = 2) :
  RR s.1.length (coinArrows s) (tk s k).2.1 (tk s k).2.2.2.2.1 := by
 have ht := h.tk_ok h0 h1
 unfold TicketOk at ht
 rw [if_pos hu] at ht
 obtain ⟨hc, _, _, hd⟩ := ht
 have hto : CoinP s (tk s k).2.2.2.2.1 := by
  rcases hd with hd | hd | hd
  ·omega
  ·omega
  ·exact hd.2.2
 refine ⟨?_, hc.1, hc.2.1, hto.1, hto.2.1⟩
 unfold coinArrows
 rw [mem_buildL]
 refine ⟨k, h0, h1, ?_⟩
 unfold coinArr
 rw [if_pos ⟨hu, hk⟩]
 simp [tk]
theorem amtW_congr {s : D_api_State} {a b : Int → Int} {c : Int} (h : ∀ k : Int, 0 ≤ k → k < (s.2.1.length : Int) → (tk s k).2.1 = c → (tk s k).1 = true → (tk s k).2.2.2.1 = 2 → a (tk s k).2.2.2.2.1 = b (tk s k).2.2.2.2.1) : amtW s a c = amtW s b c := by
 unfold amtW
 refine sumI_congr fun k h0 h1 => ?_
 have : ((tk s k).2.1 == c && cntW s a k) = ((tk s k).2.1 == c && cntW s b k) := by
  by_cases hc : (tk s k).2.1 = c
  ·by_cases hu : (tk s k).1 = true
   ·by_cases hk : (tk s k).2.2.2.1 = 2
    ·unfold cntW; rw [h k h0 h1 hc hu hk]
    ·have e : ((tk s k).2.2.2.1 == 2) = false := beq_eq_false_iff_ne.2 hk
     unfold cntW; rw [e]; simp
   ·have e : (tk s k).1 = false := by simpa using hu
    unfold cntW; rw [e]; simp
  ·have e : ((tk s k).2.1 == c) = false := beq_eq_false_iff_ne.2 hc
   rw [e]; simp
 rw [this]
theorem amtF_stable {s : D_api_State} (h : FineP s) {rank : Int → Nat} (hr : ∀ x y, RR s.1.length (coinArrows s) x y → rank y < rank x) : ∀ (n m : Nat) (c : Int), rank c < n → n ≤ m → amtF s n c = amtF s m c := by
 intro n
 induction n with
 | zero => intro m c hc; omega
 | succ n ih =>
  intro m c hc hm
  obtain ⟨m, rfl⟩ : ∃ m', m = m' + 1 := ⟨m - 1, by omega⟩
  show amtW s (amtF s n) c = amtW s (amtF s m) c
  refine amtW_congr fun k h0 h1 hkc hu hk => ?_
  have := hr _ _ (h.arr h0 h1 hu hk)
  rw [hkc] at this
  exact ih m _ (by omega) (by omega)
theorem amtI_eq {s : D_api_State} (h : FineP s) (c : Int) : amtI s c = amtW s (amtI s) c := by
 obtain ⟨rank, r1, r2⟩ := rank_of h.coinRing
 have hc2 := h.c2
 have hb : ∀ x, rank x < 17 := fun x => by have := r1 x; omega
 have := amtF_stable h r2 17 18 c (hb c) (by omega)
 unfold amtI
 rw [this]
 rfl
theorem amtW_bound {s : D_api_State} (h : FineP s) (a : Int → Int) (c : Int) : 0 ≤ amtW s a c ∧ amtW s a c ≤ 1048576 * 96 := by
 have hl := h.tickets.2.1
 have := sumI_bound (f := fun k => if ((tk s k).2.1 == c && cntW s a k) = true then (tk s k).2.2.1 else 0) (c := 1048576) (n := s.2.1.length) fun k h0 h1 => by
  split
  ·rename_i hc
   have ht := h.tk_ok h0 h1
   have hu : (tk s k).1 = true := by
    simp only [cntW, Bool.and_eq_true] at hc
    exact hc.2.1.1
   unfold TicketOk at ht
   rw [if_pos hu] at ht
   omega
  ·omega
 unfold amtW
 have : (1048576 : Int) * (s.2.1.length : Int) ≤ 1048576 * 96 := by omega
 omega
def addsI (s : D_api_State) (c k : Int) : Int := if ((tk s k).2.1 == c && cntB s k) = true then (tk s k).2.2.1 else 0
theorem amtI_sum {s : D_api_State} (h : FineP s) (c : Int) : amtI s c = sumI (addsI s c) s.2.1.length := by
 rw [amtI_eq h c]
 rfl
theorem addsI_bound {s : D_api_State} (h : FineP s) {c k : Int} (h0 : 0 ≤ k) (h1 : k < (s.2.1.length : Int)) : 0 ≤ addsI s c k ∧ addsI s c k ≤ 1048576 := by
 unfold addsI
 split
 ·rename_i hc
  have ht := h.tk_ok h0 h1
  have hu : (tk s k).1 = true := by
   simp only [cntB, cntW, Bool.and_eq_true] at hc
   exact hc.2.1.1
  unfold TicketOk at ht
  rw [if_pos hu] at ht
  omega
 ·omega
theorem r17_Amount_rec_eq {s : D_api_State} (h : FineP s) (self : D_api_State → Int → Option Bool) (c : Int) (hs : ∀ k : Int, 0 ≤ k → k < (s.2.1.length : Int) → (tk s k).2.1 = c → self s k = some (cntB s k)) : r17_Amount_rec self s c = some (amtI s c) := by
 have hl := h.tickets.2.1
 rw [← Tot.eq_iff, amtI_sum h c]
 unfold r17_Amount_rec
 refine Tot.loop (fun x => 0 ≤ x.2 ∧ x.2 ≤ (s.2.1.length : Int) ∧ x.1 = sumI (addsI s c) x.2.toNat) (fun x => ((s.2.1.length : Int) - x.2).toNat) (fun x hx => ?_) ⟨by omega, by simp, rfl⟩
 obtain ⟨acc, x⟩ := x
 simp only at hx
 obtain ⟨h0, h1, rfl⟩ := hx
 have hw1 : IntKind.i64.wrap (x + 1) = x + 1 := w64 (by omega) (by omega)
 have hb := sumI_bound (f := addsI s c) (c := 1048576) (n := x.toNat) fun k k0 k1 => addsI_bound h k0 (by omega)
 have hb2 : (1048576 : Int) * (x.toNat : Int) ≤ 1048576 * 96 := by omega
 simp only [r17_Amount_b1, r17_Amount_j1, r17_Amount_j2, hw1, cond_some, Tot.cond_iff, Tot.ass_iff, Tot.bnd_iff, Tot.some_iff, Tot.map_iff, Tot.bind_iff, Nx.inl_iff, Nx.inr_iff, decide_eq_true_eq, decide_eq_false_iff_not]
 refine ⟨fun hlt => ⟨⟨h0, hlt⟩, ?_⟩, fun hge => ?_⟩
 ·have hst := sumI_step (f := addsI s c) h0
  have hadd := addsI_bound h (c := c) h0 hlt
  have htk : rd z_api_Ticket s.2.1 x = tk s x := rfl
  rw [htk]
  cases hc : ((tk s x).2.1 == c) with
  | false =>
   have ha : addsI s c x = 0 := by unfold addsI; rw [hc]; rfl
   simp only [cond_false, Tot.some_iff, Bool.false_and, Bool.false_eq_true, false_implies, true_implies, true_and]
   exact ⟨⟨by omega, by omega, by omega⟩, by omega⟩
  | true =>
   have hcc : (tk s x).2.1 = c := beq_iff_eq.1 hc
   simp only [cond_true, hs x h0 hlt hcc, Tot.some_iff, Bool.true_and, true_implies, Bool.true_eq_false, false_implies, and_true]
   refine ⟨fun hb1 => ?_, fun hb1 => ?_⟩
   ·have ha : addsI s c x = (tk s x).2.2.1 := by unfold addsI; rw [hc, hb1]; rfl
    have hw2 : IntKind.i64.wrap (sumI (addsI s c) x.toNat + (tk s x).2.2.1) = sumI (addsI s c) x.toNat + (tk s x).2.2.1 := w64 (by omega) (by omega)
    rw [hw2]
    exact ⟨⟨h0, hlt⟩, ⟨by omega, by omega, by omega⟩, by omega⟩
   ·have ha : addsI s c x = 0 := by unfold addsI; rw [hc, hb1]; rfl
    exact ⟨⟨by omega, by omega, by omega⟩, by omega⟩
 ·have hx : x = (s.2.1.length : Int) := by omega
  subst hx
  simp
theorem r17_Counts_eq {s : D_api_State} (h : FineP s) {k : Int} (k0 : 0 ≤ k) (k1 : k < (s.2.1.length : Int)) : r17_Counts s k = some (cntB s k) := by
 obtain ⟨rank, r1, r2⟩ := rank_of h.coinRing
 unfold r17_Counts
 refine fixM_eq (fun x => cntB x.1 x.2) (fun x => x.1 = s ∧ 0 ≤ x.2 ∧ x.2 < (s.2.1.length : Int)) (fun x => rank (tk s x.2).2.1) (fun self x hx ih => ?_) (x := (s, k)) ⟨rfl, k0, k1⟩
 obtain ⟨s', k⟩ := x
 obtain ⟨rfl, k0, k1⟩ := hx
 simp only at k0 k1 ih ⊢
 have htk : rd z_api_Ticket s'.2.1 k = tk s' k := rfl
 rw [← Tot.eq_iff]
 simp only [r17_Counts_rec, htk, cond_some, Tot.cond_iff, Tot.ass_iff, Tot.bnd_iff, Tot.some_iff, Tot.map_iff, Tot.bind_iff, Nx.inl_iff, Nx.inr_iff, decide_eq_true_eq, decide_eq_false_iff_not]
 refine ⟨⟨k0, k1⟩, fun hu => ?_, fun hu => ⟨fun hk => ?_, fun hk => ?_⟩⟩
 ·simp only [Bool.and_eq_true, Bool.or_eq_true, Bool.not_eq_true', Bool.and_eq_false_iff, Bool.or_eq_false_iff, Bool.not_eq_false', beq_iff_eq, bne_iff_ne, beq_eq_false_iff_ne, bne_eq_false_iff_eq, decide_eq_true_eq, decide_eq_false_iff_not] at hu
  unfold cntB cntW
  rcases hu with hu | hu <;> rw [hu] <;> simp
 ·simp only [Bool.and_eq_true, Bool.or_eq_true, Bool.not_eq_true', Bool.and_eq_false_iff, Bool.or_eq_false_iff, Bool.not_eq_false', beq_iff_eq, bne_iff_ne, beq_eq_false_iff_ne, bne_eq_false_iff_eq, decide_eq_true_eq, decide_eq_false_iff_not] at hu
  rw [r16_Lives_eq h, Tot.some_iff]
  unfold cntB cntW
  have hk2 : ((tk s' k).2.2.2.1 == 2) = false := beq_eq_false_iff_ne.2 (by have := beq_iff_eq.1 hk; omega)
  rw [hu.1, hu.2, hk, hk2]; simp
 ·simp only [Bool.or_eq_false_iff, Bool.not_eq_false'] at hu
  refine ⟨fun hk2 => ?_, fun hk2 => ?_⟩
  ·have hk2' : (tk s' k).2.2.2.1 = 2 := beq_iff_eq.1 hk2
   have hrk := r2 _ _ (h.arr k0 k1 hu.1 hk2')
   rw [r17_Amount_rec_eq h _ _ fun j j0 j1 hj => ih (s', j) ⟨rfl, j0, j1⟩ (by rw [hj]; exact hrk), Tot.some_iff]
   unfold cntB cntW
   rw [hu.1, hu.2, hk, hk2]; simp
  ·unfold cntB cntW
   rw [hk, hk2]; simp
theorem r17_Amount_eq {s : D_api_State} (h : FineP s) (c : Int) : r17_Amount s c = some (amtI s c) := by
 unfold r17_Amount
 exact r17_Amount_rec_eq h _ c fun k k0 k1 _ => r17_Counts_eq h k0 k1
theorem Tot.each {σ : Type} {f : σ → Int → Option σ} (I : List Int → σ → Prop) {l : List Int} (hs : ∀ pre x s rest, l = pre ++ x :: rest → I pre s → Tot (f s x) (I (pre ++ [x]))) {s0 : σ} (h0 : I [] s0) : Tot (eachM f l s0) (I l) := by
 have key : ∀ rest pre s, l = pre ++ rest → I pre s → Tot (eachM f rest s) (I l) := by
  intro rest
  induction rest with
  | nil =>
   intro pre s hl hI
   rw [List.append_nil] at hl
   subst hl
   exact ⟨s, rfl, hI⟩
  | cons x rest ih =>
   intro pre s hl hI
   obtain ⟨s', h1, h2⟩ := hs pre x s rest hl hI
   simp only [eachM, h1, Option.bind_some]
   exact ih (pre ++ [x]) s' (by rw [hl]; simp) h2
 exact key l [] s0 rfl h0
theorem live_Threads_tot {s : D_api_State} (h : Chn s) (hn : s.2.2.1.length ≤ 1000) : Tot (live_Threads s) (fun L => L.length = s.2.2.1.length ∧ ∀ i : Int, 0 ≤ i → i < (s.2.2.1.length : Int) → rd false L i = livesB s i) := by
 simp only [live_Threads, cond_some, Tot.cond_iff, Tot.ass_iff, Tot.bnd_iff, Tot.some_iff, Tot.map_iff, Tot.bind_iff, Nx.inl_iff, Nx.inr_iff, decide_eq_true_eq, decide_eq_false_iff_not]
 refine ⟨⟨by omega, by omega, by unfold lim; omega⟩, ?_⟩
 rw [Int.toNat_natCast]
 refine Tot.loop (fun x => 0 ≤ x.2 ∧ x.2 ≤ (s.2.2.1.length : Int) ∧ x.1.length = s.2.2.1.length ∧ ∀ i : Int, 0 ≤ i → i < x.2 → rd false x.1 i = livesB s i) (fun x => ((s.2.2.1.length : Int) - x.2).toNat) (fun x hx => ?_) ⟨by omega, by simp, by simp, fun i i0 i1 => absurd (show i < 0 from i1) (by omega)⟩
 obtain ⟨L, x⟩ := x
 simp only at hx
 obtain ⟨h0, h1, h2, h3⟩ := hx
 have hw1 : IntKind.i64.wrap (x + 1) = x + 1 := w64 (by omega) (by omega)
 simp only [live_Threads_b1, live_Threads_j1, hw1, chain_Lives_eq h, List.length_replicate, wr_length, cond_some, Tot.cond_iff, Tot.ass_iff, Tot.bnd_iff, Tot.some_iff, Tot.map_iff, Tot.bind_iff, Nx.inl_iff, Nx.inr_iff, decide_eq_true_eq, decide_eq_false_iff_not]
 refine ⟨fun hlt => ⟨⟨h0, by omega⟩, ⟨by omega, by omega, h2, fun i i0 i1 => ?_⟩, by omega⟩, fun hge => ⟨h2, fun i i0 i1 => h3 i i0 (by omega)⟩⟩
 rw [rd_wr h0 (by omega) i0]
 split
 ·rename_i hi; rw [hi]
 ·exact h3 i i0 (by omega)
theorem sum_buildL {p : Int → Bool} {g : Int → Int} : ∀ {n : Nat}, ((buildL (fun k => if p k = true then [k] else []) n).map g).sum = sumI (fun k => if p k = true then g k else 0) n
 | 0 => rfl
 | n + 1 => by
  have hs := buildL_step (f := fun k => if p k = true then [k] else []) (x := (n : Int)) (by omega)
  rw [show ((n : Int) + 1).toNat = n + 1 from by omega, Int.toNat_natCast] at hs
  rw [hs, List.map_append, List.sum_append, sum_buildL]
  show _ = sumI _ n + _
  congr 1
  by_cases hp : p (n : Int) = true <;> simp [hp]
theorem buildL_nodup {p : Int → Bool} : ∀ {n : Nat}, (buildL (fun k => if p k = true then [k] else []) n).Nodup
 | 0 => List.nodup_nil
 | n + 1 => by
  have hs := buildL_step (f := fun k => if p k = true then [k] else []) (x := (n : Int)) (by omega)
  rw [show ((n : Int) + 1).toNat = n + 1 from by omega, Int.toNat_natCast] at hs
  rw [hs, List.nodup_append]
  refine ⟨buildL_nodup, by split <;> simp, fun a ha b hb hab => ?_⟩
  subst hab
  obtain ⟨j, j0, j1, j2⟩ := mem_buildL.1 ha
  split at j2
  ·have := List.mem_singleton.1 j2
   split at hb
   ·have := List.mem_singleton.1 hb; omega
   ·simp at hb
  ·simp at j2
def sumT (s : D_api_State) (c : Int) (l : List Int) : Int := (l.map (addsI s c)).sum
theorem sumT_all {s : D_api_State} (h : FineP s) (c : Int) : sumT s c (tix s (isOf c)) = amtI s c := by
 rw [amtI_sum h c]
 unfold sumT tix
 rw [sum_buildL]
 refine sumI_congr fun k k0 k1 => ?_
 split
 ·rfl
 ·rename_i hc
  unfold addsI
  rw [if_neg]
  intro hc2
  apply hc
  simp only [cntB, cntW, Bool.and_eq_true] at hc2
  rw [Bool.and_eq_true]
  exact ⟨hc2.2.1.1, hc2.1⟩
theorem sumT_bound {s : D_api_State} (h : FineP s) {c : Int} : ∀ {l : List Int}, (∀ k ∈ l, 0 ≤ k ∧ k < (s.2.1.length : Int)) → 0 ≤ sumT s c l ∧ sumT s c l ≤ 1048576 * (l.length : Int)
 | [], _ => by simp [sumT]
 | k :: l, hl => by
  have ih := sumT_bound h (c := c) (l := l) fun j hj => hl j (List.mem_cons_of_mem _ hj)
  have hk := addsI_bound h (c := c) (hl k (List.mem_cons_self ..)).1 (hl k (List.mem_cons_self ..)).2
  have e : sumT s c (k :: l) = addsI s c k + sumT s c l := by simp [sumT]
  rw [e]
  simp only [List.length_cons]
  omega
structure Mid (s : D_api_State) (pre : List Int) (cs : List Bool) (am : List Int) : Prop where
 cl : cs.length = s.2.1.length
 al : am.length = s.1.length
 cv : ∀ k : Int, 0 ≤ k → k < (s.2.1.length : Int) → rd false cs k = if (tk s k).1 = true ∧ (tk s k).2.1 ∈ pre then cntB s k else false
 av : ∀ c : Int, 0 ≤ c → c < (s.1.length : Int) → rd 0 am c = if c ∈ pre then amtI s c else 0
theorem round_tot {s : D_api_State} (h : FineP s) {Y : List Bool} (hY : Y.length = s.2.2.1.length ∧ ∀ i : Int, 0 ≤ i → i < (s.2.2.1.length : Int) → rd false Y i = livesB s i) {pre : List Int} {x : Int} {cs : List Bool} {am : List Int} (hm : Mid s pre cs am)
  (x0 : 0 ≤ x) (x1 : x < (s.1.length : Int)) (hx : x ∉ pre) (hto : ∀ y, RR s.1.length (coinArrows s) x y → CoinP s y → y ∈ pre) : Tot (live_reckon_r2 s Y cs am x) (fun r => Mid s (pre ++ [x]) r.1 r.2) := by
 have hl := h.tickets.2.1
 simp only [live_reckon_r2, fund_Issued_eq s x (by omega), cond_some, Tot.cond_iff, Tot.ass_iff, Tot.bnd_iff, Tot.some_iff, Tot.map_iff, Tot.bind_iff, Nx.inl_iff, Nx.inr_iff, decide_eq_true_eq, decide_eq_false_iff_not]
 have hTm : ∀ k ∈ tix s (isOf x), 0 ≤ k ∧ k < (s.2.1.length : Int) ∧ (tk s k).1 = true ∧ (tk s k).2.1 = x := fun k hk => by
  obtain ⟨m0, m1, m2, m3⟩ := mem_tix.1 hk
  exact ⟨m0, m1, m2, beq_iff_eq.1 m3⟩
 have hTi : ∀ k : Int, 0 ≤ k → k < (s.2.1.length : Int) → (tk s k).1 = true → (tk s k).2.1 = x → k ∈ tix s (isOf x) := fun k k0 k1 hu hc => mem_tix.2 ⟨k0, k1, hu, beq_iff_eq.2 hc⟩
 have hTn : (tix s (isOf x)).Nodup := buildL_nodup (p := fun k => (rd z_api_Ticket s.2.1 k).1 && isOf x (rd z_api_Ticket s.2.1 k))
 have hTl := tix_len (s := s) (q := isOf x)
 have hTs := sumT_all h x
 generalize tix s (isOf x) = T at hTm hTi hTn hTl hTs ⊢
 refine Tot.loop (fun z => 0 ≤ z.2.2 ∧ z.2.2 ≤ (T.length : Int) ∧ z.1.length = s.2.1.length ∧ z.2.1.length = s.1.length ∧
   (∀ k : Int, 0 ≤ k → k < (s.2.1.length : Int) → rd false z.1 k = if ((tk s k).1 = true ∧ (tk s k).2.1 ∈ pre) ∨ k ∈ T.take z.2.2.toNat then cntB s k else false) ∧
   (∀ c : Int, 0 ≤ c → c < (s.1.length : Int) → rd 0 z.2.1 c = if c = x then sumT s x (T.take z.2.2.toNat) else if c ∈ pre then amtI s c else 0)) (fun z => ((T.length : Int) - z.2.2).toNat) (fun z hz => ?_) ⟨by simp, by simp, hm.cl, hm.al, fun k k0 k1 => ?_, fun c c0 c1 => ?_⟩
 rotate_left
 ·rw [hm.cv k k0 k1]; simp
 ·rw [hm.av c c0 c1]
  by_cases hcx : c = x
  ·subst hcx; simp [hx, sumT]
  ·simp [hcx]
 obtain ⟨ca, aa, j⟩ := z
 simp only at hz
 obtain ⟨j0, j1, hcl, hal, hcv, hav⟩ := hz
 have hw1 : IntKind.i64.wrap (j + 1) = j + 1 := w64 (by omega) (by omega)
 simp only [live_reckon_b1, cond_some, Tot.cond_iff, Tot.ass_iff, Tot.bnd_iff, Tot.some_iff, Tot.map_iff, Tot.bind_iff, Nx.inl_iff, Nx.inr_iff, decide_eq_true_eq, decide_eq_false_iff_not]
 refine ⟨fun hlt => ⟨⟨j0, hlt⟩, ?_⟩, fun hge => ?_⟩
 ·obtain ⟨k, hk⟩ : ∃ k, k = rd 0 T j := ⟨_, rfl⟩
  have hkT : k ∈ T := by rw [hk]; exact rd_mem j0 hlt
  obtain ⟨k0, k1, hu, hkc⟩ := hTm k hkT
  have htake : T.take (j + 1).toNat = T.take j.toNat ++ [k] := by rw [hk]; exact take_rd j0 hlt
  have hknot : k ∉ T.take j.toNat := by
   have h5 : (T.take (j + 1).toNat).Nodup := hTn.sublist (List.take_sublist _ _)
   rw [htake, List.nodup_append] at h5
   exact fun hc => h5.2.2 k hc k (by simp) rfl
  rw [← hk]
  have htk : rd z_api_Ticket s.2.1 k = tk s k := rfl
  rw [htk]
  have hok := h.tk_ok k0 k1
  unfold TicketOk at hok
  rw [if_pos hu] at hok
  have hbnd := sumT_bound h (c := x) (l := T.take j.toNat) fun i hi => ⟨(hTm i (List.mem_of_mem_take hi)).1, (hTm i (List.mem_of_mem_take hi)).2.1⟩
  have hlen : ((T.take j.toNat).length : Int) ≤ 96 := by simp; omega
  have hsum : sumT s x (T.take (j + 1).toNat) = sumT s x (T.take j.toNat) + addsI s x k := by rw [htake]; simp [sumT]
  have hadd := addsI_bound h (c := x) k0 k1
  have fin : ∀ cb : List Bool, cb.length = s.2.1.length → rd false cb k = cntB s k → (∀ i : Int, 0 ≤ i → i < (s.2.1.length : Int) → i ≠ k → rd false cb i = rd false ca i) →
    Tot (live_reckon_j1 x aa j k (tk s k) cb) (Nx (fun z : List Bool × List Int × Int => 0 ≤ z.2.2 ∧ z.2.2 ≤ (T.length : Int) ∧ z.1.length = s.2.1.length ∧ z.2.1.length = s.1.length ∧
     (∀ k : Int, 0 ≤ k → k < (s.2.1.length : Int) → rd false z.1 k = if ((tk s k).1 = true ∧ (tk s k).2.1 ∈ pre) ∨ k ∈ T.take z.2.2.toNat then cntB s k else false) ∧
     (∀ c : Int, 0 ≤ c → c < (s.1.length : Int) → rd 0 z.2.1 c = if c = x then sumT s x (T.take z.2.2.toNat) else if c ∈ pre then amtI s c else 0)) (fun z => ((T.length : Int) - z.2.2).toNat) ((T.length : Int) - j).toNat (fun r => Mid s (pre ++ [x]) r.1 r.2)) := by
   intro cb hcb hcbk hcbo
   have hnew : ∀ i : Int, 0 ≤ i → i < (s.2.1.length : Int) → rd false cb i = if ((tk s i).1 = true ∧ (tk s i).2.1 ∈ pre) ∨ i ∈ T.take (j + 1).toNat then cntB s i else false := fun i i0 i1 => by
    by_cases hik : i = k
    ·subst hik
     rw [hcbk, if_pos (.inr (by rw [htake]; simp))]
    ·rw [hcbo i i0 i1 hik, hcv i i0 i1, htake]
     simp [hik]
   simp only [live_reckon_j1, live_reckon_j2, hw1, hcb, hcbk, cond_some, Tot.cond_iff, Tot.ass_iff, Tot.bnd_iff, Tot.some_iff, Tot.map_iff, Tot.bind_iff, Nx.inl_iff, Nx.inr_iff, decide_eq_true_eq, decide_eq_false_iff_not]
   have hax : rd 0 aa x = sumT s x (T.take j.toNat) := by rw [hav x x0 x1, if_pos rfl]
   refine ⟨⟨k0, k1⟩, fun hb => ⟨⟨x0, by omega⟩, ⟨by omega, by omega, trivial, by rw [wr_length]; exact hal, hnew, fun c c0 c1 => ?_⟩, by omega⟩, fun hb => ⟨⟨by omega, by omega, trivial, hal, hnew, fun c c0 c1 => ?_⟩, by omega⟩⟩
   ·have ha : addsI s x k = (tk s k).2.2.1 := by unfold addsI; rw [hkc, hb]; simp
    have hw2 : IntKind.i64.wrap (rd 0 aa x + (tk s k).2.2.1) = rd 0 aa x + (tk s k).2.2.1 := w64 (by omega) (by omega)
    rw [hw2, rd_wr x0 (by omega) c0]
    by_cases hcx : c = x
    ·rw [if_pos hcx, if_pos hcx, hsum, hax, ha]
    ·rw [if_neg hcx, if_neg hcx, hav c c0 c1, if_neg hcx]
   ·have ha : addsI s x k = 0 := by unfold addsI; rw [hkc, hb]; simp
    rw [hav c c0 c1, hsum, ha]; simp
  have hset : ∀ v : Bool, v = cntB s k → rd false (wr ca k v) k = cntB s k ∧ ∀ i : Int, 0 ≤ i → i < (s.2.1.length : Int) → i ≠ k → rd false (wr ca k v) i = rd false ca i := fun v hv =>
   ⟨by rw [rd_wr k0 (by omega) k0, if_pos rfl, hv], fun i i0 i1 hik => by rw [rd_wr k0 (by omega) i0, if_neg hik]⟩
  refine ⟨⟨k0, k1⟩, fun hk1 => ?_, fun hk1 => ⟨fun hk2 => ?_, fun hk2 => ?_⟩⟩
  ·have hk1' : (tk s k).2.2.2.1 = 1 := beq_iff_eq.1 hk1
   have hk2 : ((tk s k).2.2.2.1 == 2) = false := beq_eq_false_iff_ne.2 (by omega)
   have hthr : ThrP s (tk s k).2.2.2.2.1 := by
    rcases hok.2.2.2 with hd | hd | hd
    ·omega
    ·exact hd.2
    ·omega
   have hv : ((tk s k).2.2.2.2.2 && rd false Y (tk s k).2.2.2.2.1) = cntB s k := by
    rw [hY.2 _ hthr.1 hthr.2.1]
    unfold cntB cntW
    rw [hu, hk1, hk2]; simp
   obtain ⟨f1, f2⟩ := hset _ hv
   exact ⟨fun _ => ⟨hthr.1, by rw [hY.1]; exact hthr.2.1⟩, ⟨k0, by omega⟩, fin _ (by rw [wr_length]; exact hcl) f1 f2⟩
  ·have hk2' : (tk s k).2.2.2.1 = 2 := beq_iff_eq.1 hk2
   have hrr := h.arr k0 k1 hu hk2'
   rw [hkc] at hrr
   have hto2 : CoinP s (tk s k).2.2.2.2.1 := by
    rcases hok.2.2.2 with hd | hd | hd
    ·omega
    ·omega
    ·exact hd.2.2
   have hpre := hto _ hrr hto2
   have hne : (tk s k).2.2.2.2.1 ≠ x := fun hc => hx (hc ▸ hpre)
   have hv : ((tk s k).2.2.2.2.2 && decide (rd 0 aa (tk s k).2.2.2.2.1 > 0)) = cntB s k := by
    rw [hav _ hto2.1 hto2.2.1, if_neg hne, if_pos hpre]
    unfold cntB cntW
    rw [hu, hk1, hk2]; simp
   obtain ⟨f1, f2⟩ := hset _ hv
   exact ⟨fun _ => ⟨hto2.1, by have := hto2.2.1; omega⟩, ⟨k0, by omega⟩, fin _ (by rw [wr_length]; exact hcl) f1 f2⟩
  ·refine fin ca hcl ?_ fun i _ _ _ => rfl
   rw [hcv k k0 k1, if_neg]
   ·unfold cntB cntW
    rw [hk1, hk2]; simp
   ·rintro (⟨_, hc⟩ | hc)
    ·rw [hkc] at hc; exact hx hc
    ·exact hknot hc
 ·have hj : j = (T.length : Int) := by omega
  subst hj
  rw [Int.toNat_natCast, List.take_length] at hcv hav
  refine ⟨hcl, hal, fun k k0 k1 => ?_, fun c c0 c1 => ?_⟩
  ·rw [hcv k k0 k1]
   have hiff : (((tk s k).1 = true ∧ (tk s k).2.1 ∈ pre) ∨ k ∈ T) ↔ ((tk s k).1 = true ∧ (tk s k).2.1 ∈ pre ++ [x]) := by
    simp only [List.mem_append, List.mem_singleton]
    constructor
    ·rintro (⟨a, b⟩ | hc)
     ·exact ⟨a, .inl b⟩
     ·obtain ⟨_, _, a, b⟩ := hTm k hc; exact ⟨a, .inr b⟩
    ·rintro ⟨a, b | b⟩
     ·exact .inl ⟨a, b⟩
     ·exact .inr (hTi k k0 k1 a b)
   rw [if_iff hiff]
  ·rw [hav c c0 c1, hTs]
   by_cases hcx : c = x
   ·subst hcx; simp
   ·simp [hcx]
theorem ord_pairwise {n : Int} {l : List (Int × Int)} {o : List Int} (hok : OrdOk n l o) : o.Pairwise fun a b => ¬ RR n l b a := by
 rw [List.pairwise_iff_getElem]
 intro i j hi hj hij hr
 have := hok.ahead i hi _ hr
 obtain ⟨m, hm, he⟩ := List.getElem_of_mem this
 simp only [List.length_take] at hm
 rw [List.getElem_take] at he
 exact List.pairwise_iff_getElem.1 hok.nodup m j (by omega) hj (by omega) he
theorem live_reckon_tot {s : D_api_State} (h : FineP s) : Tot (live_reckon s) (fun r => r.1.length = s.2.1.length ∧ r.2.length = s.1.length ∧ (∀ k : Int, 0 ≤ k → k < (s.2.1.length : Int) → rd false r.1 k = cntB s k) ∧ ∀ c : Int, 0 ≤ c → c < (s.1.length : Int) → rd 0 r.2 c = amtI s c) := by
 have hl := h.tickets.2.1
 have hc2 := h.c2
 have hth := h.threads.2.2.1
 obtain ⟨o, ho, hok, hol, hfo, hFO⟩ := fund_Order_eq s (by omega) (by omega) h.coinRing
 have hlen : (fundOrd s).length ≤ s.1.length := by rw [hfo, ← hol]; exact List.length_filter_le ..
 have hmem : ∀ c, c ∈ fundOrd s ↔ CoinP s c := fun c => by
  rw [hfo, List.mem_filter]
  constructor
  ·rintro ⟨a, b⟩; exact ⟨(hok.rng c a).1, (hok.rng c a).2, b⟩
  ·rintro ⟨a, b, d⟩; exact ⟨full hok.nodup hok.rng (by omega) a b, d⟩
 have hpw : (fundOrd s).Pairwise fun a b => ¬ RR s.1.length (coinArrows s) b a := by rw [hfo]; exact (ord_pairwise hok).filter _
 have hnd : (fundOrd s).Nodup := by rw [hfo]; exact hok.nodup.filter _
 simp only [live_reckon, hFO, live_reckon_k2, cond_some, Tot.cond_iff, Tot.ass_iff, Tot.bnd_iff, Tot.some_iff, Tot.map_iff, Tot.bind_iff, Nx.inl_iff, Nx.inr_iff, decide_eq_true_eq, decide_eq_false_iff_not]
 refine ⟨⟨by omega, by omega, by unfold lim; omega⟩, ⟨by omega, by omega, by unfold lim; omega⟩, ?_⟩
 refine (live_Threads_tot h.chn (by omega)).mono fun Y hY => ?_
 refine ⟨by unfold limA; omega, ?_⟩
 refine (Tot.each (fun pre r => Mid s pre r.1 r.2) (l := (fundOrd s).reverse) (fun pre x r rest hlr hm => ?_) ⟨by simp, by simp, fun k k0 k1 => ?_, fun c c0 c1 => ?_⟩).mono fun r hm => ?_
 ·have hf : fundOrd s = rest.reverse ++ x :: pre.reverse := by
   have := congrArg List.reverse hlr
   simpa using this
  have hxc : CoinP s x := (hmem x).1 (by rw [hf]; simp)
  have hxn : x ∉ pre := by
   rw [hf, List.nodup_append] at hnd
   have := hnd.2.1
   rw [List.nodup_cons] at this
   simpa using this.1
  refine round_tot h hY hm hxc.1 hxc.2.1 hxn fun y hr hy => ?_
  have hyf := (hmem y).2 hy
  rw [hf] at hyf hpw
  rcases List.mem_append.1 hyf with hy1 | hy1
  ·exact absurd hr ((List.pairwise_append.1 hpw).2.2 y hy1 x (by simp))
  ·rcases List.mem_cons.1 hy1 with rfl | hy1
   ·exact absurd ⟨y, hy.1, hy.2.1, .single hr⟩ h.coinRing
   ·simpa using hy1
 ·simp [rd, List.getD_eq_getElem?_getD, List.getElem?_replicate]
  split <;> rfl
 ·simp [rd, List.getD_eq_getElem?_getD, List.getElem?_replicate]
  split <;> rfl
 ·obtain ⟨m1, m2, m3, m4⟩ := hm
  refine ⟨m1, m2, fun k k0 k1 => ?_, fun c c0 c1 => ?_⟩
  ·rw [m3 k k0 k1]
   split
   ·rfl
   ·rename_i hn
    by_cases hu : (tk s k).1 = true
    ·exfalso
     apply hn
     have hok2 := h.tk_ok k0 k1
     unfold TicketOk at hok2
     rw [if_pos hu] at hok2
     exact ⟨hu, by rw [List.mem_reverse]; exact (hmem _).2 hok2.1⟩
    ·have e : (tk s k).1 = false := by simpa using hu
     unfold cntB cntW
     rw [e]; rfl
  ·rw [m4 c c0 c1]
   split
   ·rfl
   ·rename_i hn
    have hz : ∀ n : Nat, n ≤ s.2.1.length → sumI (addsI s c) n = 0 := by
     intro n
     induction n with
     | zero => intro _; rfl
     | succ n ih =>
      intro hn2
      show sumI (addsI s c) n + addsI s c n = 0
      rw [ih (by omega)]
      unfold addsI
      rw [if_neg]
      ·rfl
      intro hc
      simp only [cntB, cntW, Bool.and_eq_true, beq_iff_eq] at hc
      have hok2 := h.tk_ok (k := (n : Int)) (by omega) (by omega)
      unfold TicketOk at hok2
      rw [if_pos hc.2.1.1] at hok2
      apply hn
      rw [List.mem_reverse]
      refine (hmem c).2 ?_
      rw [← hc.1]
      exact hok2.1
    rw [amtI_sum h c, hz _ (Nat.le_refl _)]
def those (l : List Bool) : List Int := buildL (fun k => if rd false l k = true then [k] else []) l.length
def allOwn (s : D_api_State) (own : List Bool) (k : Int) : Bool := !((tix s (backs k)).any fun t => !(rd false own (rd z_api_Ticket s.2.1 t).2.1))
def ownStep (s : D_api_State) (c : Int) (own : List Bool) (k : Int) : List Bool := if k ≠ c ∧ 0 < (tix s (backs k)).length ∧ allOwn s own k = true then wr own k true else own
def ownF (s : D_api_State) (c : Int) (l : List Int) : List Bool := l.foldl (ownStep s c) (wr (List.replicate s.1.length false) c true)
def TixIn (s : D_api_State) : Prop := ∀ k : Int, 0 ≤ k → k < (s.2.1.length : Int) → (rd z_api_Ticket s.2.1 k).1 = true → 0 ≤ (rd z_api_Ticket s.2.1 k).2.1 ∧ (rd z_api_Ticket s.2.1 k).2.1 < (s.1.length : Int)
def alive15 : D_api_State := ([true, true], [(true, 0, 1, 2, 1, false)], [], [], [], 5)
def more (s : D_api_State) (t : D_api_Ticket) : D_api_State := (s.1, s.2.1 ++ [t], s.2.2)
def whatT (what i : Int) (t : D_api_Ticket) : Bool := (((what == 0) && (t.2.1 == i)) || (((what == 1) && (t.2.2.2.1 == 2)) && (t.2.2.2.2.1 == i))) || (((what == 2) && (t.2.2.2.1 == 1)) && (t.2.2.2.2.1 == i))
theorem r15_Tickets_eq (s : D_api_State) (what i : Int) (hn : s.2.1.length ≤ 100000) : r15_Tickets s what i = some (tix s (whatT what i)) := by
 unfold r15_Tickets tix
 refine loop_build (fun k => if ((rd z_api_Ticket s.2.1 k).1 && whatT what i (rd z_api_Ticket s.2.1 k)) = true then [k] else []) _ (fun x h0 h1 => ?_) ?_
 ·have hw1 : IntKind.i64.wrap (x + 1) = x + 1 := w64 (by omega) (by omega)
  have hlen := buildL_len (f := fun k => if ((rd z_api_Ticket s.2.1 k).1 && whatT what i (rd z_api_Ticket s.2.1 k)) = true then [k] else []) (c := 1) (fun k => by split <;> simp) (n := x.toNat)
  generalize buildL (fun k => if ((rd z_api_Ticket s.2.1 k).1 && whatT what i (rd z_api_Ticket s.2.1 k)) = true then [k] else []) x.toNat = acc at hlen ⊢
  rw [← Tot.eq_iff]
  simp only [r15_Tickets_b1, r15_Tickets_j1, r15_Tickets_j2, hw1, Tot.cond_iff, Tot.ass_iff, Tot.bnd_iff, Tot.some_iff, decide_eq_true_eq, decide_eq_false_iff_not]
  refine ⟨fun _ => ⟨⟨h0, h1⟩, fun hb => ⟨?_, ?_⟩, fun hb => ?_⟩, fun hge => absurd h1 hge⟩
  ·simp only [List.length_singleton]; unfold limA; omega
  ·rw [if_pos (by unfold whatT; exact hb)]
  ·rw [if_neg (by unfold whatT; rw [hb]; simp), List.append_nil]
 ·rw [← Tot.eq_iff]
  simp only [r15_Tickets_b1, r15_Tickets_j1, cond_some, Tot.cond_iff, Tot.ass_iff, Tot.bnd_iff, Tot.some_iff, Tot.map_iff, Tot.bind_iff, Nx.inl_iff, Nx.inr_iff, decide_eq_true_eq, decide_eq_false_iff_not]
  exact ⟨fun hc => absurd hc (by omega), fun _ => trivial⟩
inductive OwnP (s : D_api_State) (c : Int) : Int → Prop
 | base : OwnP s c c
 | step {k : Int} : CoinP s k → 0 < (tix s (backs k)).length → (∀ t ∈ tix s (backs k), OwnP s c (rd z_api_Ticket s.2.1 t).2.1) → OwnP s c k
def SoundO (s : D_api_State) (c : Int) (own : List Bool) : Prop := own.length = s.1.length ∧ rd false own c = true ∧ ∀ k : Int, 0 ≤ k → k < (s.1.length : Int) → rd false own k = true → OwnP s c k
def ClosedO (s : D_api_State) (own : List Bool) (m : Int) : Prop := ∀ k : Int, 0 ≤ k → k < m → CoinP s k → 0 < (tix s (backs k)).length → allOwn s own k = true → rd false own k = true
theorem SoundO.set {s : D_api_State} {c k : Int} {own : List Bool} (h : SoundO s c own) (k0 : 0 ≤ k) (k1 : k < (s.1.length : Int)) (hk : OwnP s c k) (c0 : 0 ≤ c) : SoundO s c (wr own k true) := by
 obtain ⟨h1, h2, h3⟩ := h
 refine ⟨by rw [wr_length]; exact h1, ?_, fun j j0 j1 hj => ?_⟩
 ·rw [rd_wr k0 (by omega) c0]; split
  ·rfl
  ·exact h2
 ·rw [rd_wr k0 (by omega) j0] at hj
  split at hj
  ·rename_i hjk; subst hjk; exact hk
  ·exact h3 j j0 j1 hj
def deadF (s : D_api_State) (k : Int) : List Int := if ((tk s k).1 && !(cntB s k)) = true then [k] else []
def deadL (s : D_api_State) : List Int := buildL (deadF s) s.2.1.length
theorem r17_Light_tot (s : D_api_State) (hn : s.2.1.length ≤ 1000) : ∃ b, r17_Light s = some b := by
 have : Tot (r17_Light s) (fun _ => True) := by
  unfold r17_Light
  refine Tot.loop (fun x => 0 ≤ x.2 ∧ x.2 ≤ (s.2.1.length : Int) ∧ 0 ≤ x.1 ∧ x.1 ≤ x.2) (fun x => ((s.2.1.length : Int) - x.2).toNat) (fun x hx => ?_) ⟨by omega, by simp, by simp, by simp⟩
  obtain ⟨a, x⟩ := x
  simp only at hx
  obtain ⟨h0, h1, h2, h3⟩ := hx
  have hw1 : IntKind.i64.wrap (x + 1) = x + 1 := w64 (by omega) (by omega)
  have hw2 : IntKind.i64.wrap (a + 1) = a + 1 := w64 (by omega) (by omega)
  simp only [r17_Light_b1, r17_Light_j1, r17_Light_j2, hw1, hw2, cond_some, Tot.cond_iff, Tot.ass_iff, Tot.bnd_iff, Tot.some_iff, Tot.map_iff, Tot.bind_iff, Nx.inl_iff, Nx.inr_iff, decide_eq_true_eq, decide_eq_false_iff_not]
  exact ⟨fun hlt => ⟨⟨h0, hlt⟩, fun _ => ⟨⟨by omega, by omega, by omega, by omega⟩, by omega⟩, fun _ => ⟨⟨by omega, by omega, by omega, by omega⟩, by omega⟩⟩, fun _ => trivial⟩
 obtain ⟨b, hb, _⟩ := this
 exact ⟨b, hb⟩
def alive17 : D_api_State := ([true, true], [(true, 0, 3, 1, 0, true), (true, 0, 4, 2, 1, true)], [(2, -1, -1, 1, 1)], [], [], 5)
def sumQ (f : Int → Rat) : Nat → Rat
 | 0 => 0
 | n + 1 => sumQ f n + f (n : Int)
theorem sumQ_congr {f g : Int → Rat} : ∀ {n : Nat}, (∀ k : Int, 0 ≤ k → k < (n : Int) → f k = g k) → sumQ f n = sumQ g n
 | 0, _ => rfl
 | n + 1, h => by
  unfold sumQ
  rw [sumQ_congr fun k h0 h1 => h k h0 (by omega), h n (by omega) (by omega)]
theorem Bd.sum {D B : Nat} {f : Int → Rat} : ∀ {n : Nat}, (∀ k : Int, 0 ≤ k → k < (n : Int) → Bd D B (f k)) → Bd D (B * n) (sumQ f n)
 | 0, _ => Bd.zero.mono (Nat.zero_le _)
 | n + 1, h => by
  have := (Bd.sum (n := n) fun k h0 h1 => h k h0 (by omega)).add (h n (by omega) (by omega))
  exact this.mono (by rw [Nat.mul_succ]; exact Nat.le_refl _)
def tkV (s : D_api_State) (v : Int → Rat) (k : Int) : Rat :=
 if cntB s k = true then ((tk s k).2.2.1.toNat : Rat) / ((amtI s (tk s k).2.1).toNat : Rat) * v (tk s k).2.1 else 0
def bk (s : D_api_State) (c k : Int) : Bool := (tk s k).1 && backs c (tk s k)
def coinW (s : D_api_State) (v : Int → Rat) (c : Int) : Rat :=
 if c = 0 then ((amtI s 0).toNat : Rat) else sumQ (fun k => if bk s c k = true then tkV s v k else 0) s.2.1.length
def coinF (s : D_api_State) : Nat → Int → Rat
 | 0, _ => 0
 | n + 1, c => coinW s (coinF s n) c
def coinV (s : D_api_State) (c : Int) : Rat := coinF s 17 c
def tickV (s : D_api_State) (k : Int) : Rat := tkV s (coinV s) k
structure Far (s : D_api_State) (d : Int → Nat) : Prop where
 le : ∀ x, d x ≤ 16
 lt : ∀ x y, RR s.1.length (coinArrows s) x y → d x < d y
theorem far_of {s : D_api_State} (h : FineP s) : ∃ d, Far s d := by
 obtain ⟨rank, r1, r2⟩ := rank_of h.coinRing
 have hc2 := h.c2
 refine ⟨fun x => 16 - rank x, fun x => Nat.sub_le .., fun x y hr => ?_⟩
 have h1 := r1 x
 have h2 := r2 x y hr
 show 16 - rank x < 16 - rank y
 omega
theorem bk_arr {s : D_api_State} (h : FineP s) {c k : Int} (h0 : 0 ≤ k) (h1 : k < (s.2.1.length : Int)) (hb : bk s c k = true) : RR s.1.length (coinArrows s) (tk s k).2.1 c := by
 unfold bk backs at hb
 simp only [Bool.and_eq_true, beq_iff_eq] at hb
 have := h.arr h0 h1 hb.1 hb.2.1
 rwa [hb.2.2] at this
theorem coinF_stable {s : D_api_State} (h : FineP s) {d : Int → Nat} (hd : Far s d) : ∀ (n m : Nat) (c : Int), d c < n → n ≤ m → coinF s n c = coinF s m c := by
 intro n
 induction n with
 | zero => intro m c hc; omega
 | succ n ih =>
  intro m c hc hm
  obtain ⟨m, rfl⟩ : ∃ m', m = m' + 1 := ⟨m - 1, by omega⟩
  show coinW s (coinF s n) c = coinW s (coinF s m) c
  unfold coinW
  by_cases h0 : c = 0
  ·rw [if_pos h0, if_pos h0]
  ·rw [if_neg h0, if_neg h0]
   refine sumQ_congr fun k k0 k1 => ?_
   by_cases hb : bk s c k = true
   ·rw [if_pos hb, if_pos hb]
    have := hd.lt _ _ (bk_arr h k0 k1 hb)
    unfold tkV
    rw [ih m _ (by omega) (by omega)]
   ·rw [if_neg hb, if_neg hb]
theorem coinV_eq {s : D_api_State} (h : FineP s) (c : Int) : coinV s c = coinW s (coinV s) c := by
 obtain ⟨d, hd⟩ := far_of h
 have hb : d c < 17 := by have := hd.le c; omega
 have := coinF_stable h hd 17 18 c hb (by omega)
 unfold coinV
 rw [this]
 rfl
theorem sumI_mem {f : Int → Int} : ∀ {n : Nat}, (∀ k : Int, 0 ≤ k → k < (n : Int) → 0 ≤ f k) → ∀ k : Int, 0 ≤ k → k < (n : Int) → f k ≤ sumI f n
 | 0, _, k, h0, h1 => by omega
 | n + 1, h, k, h0, h1 => by
  have e : sumI f (n + 1) = sumI f n + f n := by
   have := sumI_step (f := f) (x := (n : Int)) (by omega)
   rwa [show ((n : Int) + 1).toNat = n + 1 by omega, Int.toNat_natCast] at this
  have hn : ∀ m : Nat, m ≤ n → 0 ≤ sumI f m := fun m hm => by
   induction m with
   | zero => exact Int.le_refl _
   | succ m ihm =>
    have e2 := sumI_step (f := f) (x := (m : Int)) (by omega)
    rw [show ((m : Int) + 1).toNat = m + 1 by omega, Int.toNat_natCast] at e2
    have := h m (by omega) (by omega)
    have := ihm (by omega)
    omega
  have hf := h n (by omega) (by omega)
  by_cases hk : k = n
  ·subst hk; have := hn n (Nat.le_refl _); omega
  ·have := sumI_mem (n := n) (fun k a b => h k a (by omega)) k h0 (by omega)
   omega
theorem cnt_part {s : D_api_State} (h : FineP s) {k : Int} (h0 : 0 ≤ k) (h1 : k < (s.2.1.length : Int)) (hc : cntB s k = true) :
  1 ≤ (tk s k).2.2.1 ∧ (tk s k).2.2.1 ≤ amtI s (tk s k).2.1 ∧ CoinP s (tk s k).2.1 := by
 have hu : (tk s k).1 = true := by
  unfold cntB cntW at hc
  simp only [Bool.and_eq_true] at hc
  exact hc.1.1
 have ht := h.tk_ok h0 h1
 unfold TicketOk at ht
 rw [if_pos hu] at ht
 have hm := sumI_mem (f := addsI s (tk s k).2.1) (n := s.2.1.length) (fun j a b => (addsI_bound h a b).1) k h0 h1
 rw [← amtI_sum h] at hm
 have e : addsI s (tk s k).2.1 k = (tk s k).2.2.1 := by
  unfold addsI
  rw [if_pos (by rw [hc, Bool.and_true]; exact beq_self_eq_true _)]
 rw [e] at hm
 exact ⟨by omega, hm, ht.1⟩
theorem amtI_bound {s : D_api_State} (h : FineP s) (c : Int) : 0 ≤ amtI s c ∧ amtI s c ≤ 100663296 := by
 have := amtW_bound h (amtI s) c
 rw [← amtI_eq h] at this
 omega
def prodF (p : Nat → Bool) (A : Nat → Nat) : Nat → Nat
 | 0 => 1
 | n + 1 => prodF p A n * (if p n = true then A n else 1)
theorem prodF_pos {p : Nat → Bool} {A : Nat → Nat} (hA : ∀ i, 1 ≤ A i) : ∀ n, 0 < prodF p A n
 | 0 => Nat.one_pos
 | n + 1 => Nat.mul_pos (prodF_pos hA n) (by split; exact hA n; exact Nat.one_pos)
theorem prodF_dvd {p q : Nat → Bool} {A : Nat → Nat} (h : ∀ i, p i = true → q i = true) : ∀ n, prodF p A n ∣ prodF q A n
 | 0 => Nat.dvd_refl _
 | n + 1 => Nat.mul_dvd_mul (prodF_dvd h n) (by
  by_cases hp : p n = true
  ·rw [if_pos hp, if_pos (h n hp)]; exact Nat.dvd_refl _
  ·rw [if_neg hp]; exact Nat.one_dvd _)
theorem prodF_one {p q : Nat → Bool} {A : Nat → Nat} (h : ∀ i, p i = true → q i = true) {j : Nat} (hp : p j = false) (hq : q j = true) : ∀ {n}, j < n → prodF p A n * A j ∣ prodF q A n
 | 0, hj => by omega
 | n + 1, hj => by
  unfold prodF
  by_cases hn : j = n
  ·subst hn
   rw [if_neg (by rw [hp]; exact Bool.noConfusion), if_pos hq, Nat.mul_one]
   exact Nat.mul_dvd_mul (prodF_dvd h j) (Nat.dvd_refl _)
  ·have := prodF_one (A := A) h hp hq (n := n) (by omega)
   rw [Nat.mul_right_comm]
   refine Nat.mul_dvd_mul this ?_
   by_cases hp : p n = true
   ·rw [if_pos hp, if_pos (h n hp)]; exact Nat.dvd_refl _
   ·rw [if_neg hp]; exact Nat.one_dvd _
theorem prodF_le {p : Nat → Bool} {A : Nat → Nat} {M : Nat} (hA : ∀ i, 1 ≤ A i ∧ A i ≤ M) : ∀ n, prodF p A n ≤ M ^ n
 | 0 => Nat.le_refl _
 | n + 1 => by
  rw [Nat.pow_succ]
  refine Nat.mul_le_mul (prodF_le hA n) ?_
  split
  ·exact (hA n).2
  ·have := hA n; omega
def amA (s : D_api_State) (i : Nat) : Nat := max 1 (amtI s (i : Int)).toNat
theorem amA_ok {s : D_api_State} (h : FineP s) (i : Nat) : 1 ≤ amA s i ∧ amA s i ≤ 100663296 := by
 have := amtI_bound h (i : Int)
 unfold amA
 omega
def allD (s : D_api_State) : Nat := prodF (fun _ => true) (amA s) s.1.length
def lowD (s : D_api_State) (d : Int → Nat) (c : Int) : Nat := prodF (fun i => decide (d (i : Int) < d c)) (amA s) s.1.length
theorem allD_pos {s : D_api_State} (h : FineP s) : 0 < allD s := prodF_pos (fun i => (amA_ok h i).1) _
theorem allD_le {s : D_api_State} (h : FineP s) : allD s ≤ 100663296 ^ 16 :=
 Nat.le_trans (prodF_le (fun i => amA_ok h i) _) (Nat.pow_le_pow_right (by omega) h.c2)
theorem tk_bd {s : D_api_State} (h : FineP s) {d : Int → Nat} (hd : Far s d) {v : Int → Rat} {E B : Nat} {k : Int} (h0 : 0 ≤ k) (h1 : k < (s.2.1.length : Int))
  (hv : Bd (lowD s d (tk s k).2.1) (lowD s d (tk s k).2.1 * B) (v (tk s k).2.1)) (hE : CoinP s (tk s k).2.1 → lowD s d (tk s k).2.1 * amA s (tk s k).2.1.toNat ∣ E) : Bd E (E * B) (tkV s v k) := by
 unfold tkV
 by_cases hc : cntB s k = true
 ·rw [if_pos hc]
  obtain ⟨p1, p2, p3⟩ := cnt_part h h0 h1 hc
  have hb := amtI_bound h (tk s k).2.1
  have ht : ((tk s k).2.1.toNat : Int) = (tk s k).2.1 := Int.toNat_of_nonneg p3.1
  have hA : amA s (tk s k).2.1.toNat = (amtI s (tk s k).2.1).toNat := by unfold amA; rw [ht]; omega
  obtain ⟨q, hq⟩ := hE p3
  have := (hv.part (a := (tk s k).2.2.1.toNat) (b := (amtI s (tk s k).2.1).toNat) (by omega) (by omega)).up (k := q)
  rw [hA] at hq
  rw [← hq] at this
  refine this.mono ?_
  rw [hq]
  exact Nat.le_of_eq (by simp only [Nat.mul_assoc, Nat.mul_comm, Nat.mul_left_comm])
 ·rw [if_neg hc]; exact Bd.zero.mono (Nat.zero_le _)
theorem coin_bd {s : D_api_State} (h : FineP s) {d : Int → Nat} (hd : Far s d) : ∀ (n : Nat) (c : Int), d c < n → Bd (lowD s d c) (lowD s d c * (100663296 * 100 ^ d c)) (coinV s c) := by
 intro n
 induction n with
 | zero => intro c hc; omega
 | succ n ih =>
  intro c hc
  rw [coinV_eq h]
  unfold coinW
  by_cases h0 : c = 0
  ·rw [if_pos h0]
   have hb := amtI_bound h 0
   refine ⟨(amtI s 0).toNat * lowD s d c, ?_, by push_cast; rfl⟩
   rw [Nat.mul_comm]
   refine Nat.mul_le_mul_left _ ?_
   have : 1 ≤ 100 ^ d c := Nat.one_le_pow _ _ (by omega)
   have := Nat.mul_le_mul_left 100663296 this
   omega
  ·rw [if_neg h0]
   have hl := h.tickets.2.1
   have each : ∀ k : Int, 0 ≤ k → k < (s.2.1.length : Int) → Bd (lowD s d c) (lowD s d c * (100663296 * (100 ^ d c / 100))) (if bk s c k = true then tkV s (coinV s) k else 0) := fun k k0 k1 => by
    by_cases hb : bk s c k = true
    ·rw [if_pos hb]
     have ha := bk_arr h k0 k1 hb
     have hlt := hd.lt _ _ ha
     refine tk_bd h hd k0 k1 ((ih _ (by omega)).mono ?_) fun hp => ?_
     ·refine Nat.mul_le_mul_left _ (Nat.mul_le_mul_left _ ((Nat.le_div_iff_mul_le (by omega)).2 ?_))
      rw [← Nat.pow_succ]
      exact Nat.pow_le_pow_right (by omega) (by omega)
     ·have ht : ((tk s k).2.1.toNat : Int) = (tk s k).2.1 := Int.toNat_of_nonneg hp.1
      refine prodF_one (fun i hi => ?_) ?_ ?_ ?_
      ·rw [decide_eq_true_iff] at hi ⊢; omega
      ·rw [ht]; exact decide_eq_false (Nat.lt_irrefl _)
      ·rw [ht]; exact decide_eq_true hlt
      ·have := hp.2.1; omega
    ·rw [if_neg hb]; exact Bd.zero.mono (Nat.zero_le _)
   refine (Bd.sum each).mono ?_
   rw [Nat.mul_assoc]
   refine Nat.mul_le_mul_left _ ?_
   rw [Nat.mul_assoc]
   refine Nat.mul_le_mul_left _ ?_
   have := Nat.div_mul_le_self (100 ^ d c) 100
   exact Nat.le_trans (Nat.mul_le_mul_left _ (by omega)) this
theorem ass_of {α : Type} {p : Prop} [Decidable p] {o : Option α} (h : p) : ass p o = o := by unfold ass; rw [if_pos h]
theorem small40 : 100663296 ^ 16 < 65536 ^ 40 ∧ 100663296 ^ 16 * (100663296 * 100 ^ 16 * 20000) < 65536 ^ 40 := by decide
def WB (s : D_api_State) (n : Nat) (v : Rat) : Prop := Bd (allD s) (allD s * (100663296 * 100 ^ 16 * n)) v
theorem WB.ok {s : D_api_State} (h : FineP s) {n : Nat} {v : Rat} (hv : WB s n v) (hn : n ≤ 20000) : 0 ≤ v ∧ S16 40 (fq v) := by
 have hp := allD_pos h
 have hl := allD_le h
 obtain ⟨a, b⟩ := small40
 refine ⟨hv.nonneg hp, hv.size hp (by omega) (Nat.lt_of_le_of_lt (Nat.mul_le_mul hl (Nat.mul_le_mul_left _ hn)) b)⟩
theorem WB.sum {s : D_api_State} {m n : Nat} {f : Int → Rat} (h : ∀ k : Int, 0 ≤ k → k < (n : Int) → WB s m (f k)) : WB s (m * n) (sumQ f n) := by
 have := Bd.sum h
 unfold WB
 rwa [Nat.mul_assoc, Nat.mul_assoc] at this
theorem WB.zero {s : D_api_State} {n : Nat} : WB s n 0 := Bd.zero.mono (Nat.zero_le _)
theorem WB.mono {s : D_api_State} {n m : Nat} {v : Rat} (h : WB s n v) (hl : n ≤ m) : WB s m v := Bd.mono h (Nat.mul_le_mul_left _ (Nat.mul_le_mul_left _ hl))
theorem WB.add {s : D_api_State} {n m : Nat} {v w : Rat} (h : WB s n v) (h' : WB s m w) : WB s (n + m) (v + w) := by
 have := Bd.add h h'
 unfold WB
 rwa [← Nat.mul_add, ← Nat.mul_add] at this
theorem coin_WB {s : D_api_State} (h : FineP s) (c : Int) : WB s 1 (coinV s c) := by
 obtain ⟨d, hd⟩ := far_of h
 have hb := coin_bd h hd (d c + 1) c (by omega)
 obtain ⟨q, hq⟩ : lowD s d c ∣ allD s := prodF_dvd (fun _ _ => rfl) _
 have := hb.up (k := q)
 rw [← hq] at this
 refine this.mono ?_
 rw [hq, Nat.mul_one, Nat.mul_right_comm]
 exact Nat.mul_le_mul_left _ (Nat.mul_le_mul_left _ (Nat.pow_le_pow_right (by omega) (hd.le c)))
theorem tick_WB {s : D_api_State} (h : FineP s) {k : Int} (h0 : 0 ≤ k) (h1 : k < (s.2.1.length : Int)) : WB s 1 (tickV s k) := by
 obtain ⟨d, hd⟩ := far_of h
 have hb := coin_bd h hd (d (tk s k).2.1 + 1) (tk s k).2.1 (by omega)
 refine tk_bd h hd h0 h1 (hb.mono ?_) fun hp => ?_
 ·refine Nat.mul_le_mul_left _ ?_
  rw [Nat.mul_one]
  exact Nat.mul_le_mul_left _ (Nat.pow_le_pow_right (by omega) (hd.le _))
 ·have ht : ((tk s k).2.1.toNat : Int) = (tk s k).2.1 := Int.toNat_of_nonneg hp.1
  refine prodF_one (fun _ _ => rfl) ?_ rfl ?_
  ·rw [ht]; exact decide_eq_false (Nat.lt_irrefl _)
  ·have := hp.2.1; omega
def sumL (f : Int → Rat) (l : List Int) : Rat := l.foldl (fun a k => a + f k) 0
theorem sumL_build {p : Int → Prop} [inst : ∀ k, Decidable (p k)] {f : Int → Rat} : ∀ {n : Nat}, sumL f (buildL (fun k => if p k then [k] else []) n) = sumQ (fun k => if p k then f k else 0) n
 | 0 => rfl
 | n + 1 => by
  have ih := sumL_build (p := p) (f := f) (n := n)
  unfold sumL at ih ⊢
  unfold buildL sumQ
  rw [List.foldl_append, ih]
  by_cases hp : p (n : Int)
  ·rw [if_pos hp, if_pos hp]; rfl
  ·rw [if_neg hp, if_neg hp]
   show _ = _ + 0
   rw [Rat.add_zero]; rfl
theorem sum16_loop {l : List Int} {f : Int → Rat} {step : D_r04_Q × Int → Option ((D_r04_Q × Int) ⊕ D_r04_Q)} (hl : l.length ≤ 1000) (hf : ∀ k ∈ l, 0 ≤ f k ∧ S16 200 (fq (f k)))
  (h1 : ∀ (i : Nat) (hi : i < l.length) (b : Rat), step (q16 (fq b), (i : Int)) = (r04_Add (q16 (fq b)) (q16 (fq (f l[i])))).bind fun y => some (.inl (y, (i : Int) + 1)))
  (h2 : ∀ b : Rat, step (q16 (fq b), (l.length : Int)) = some (.inr (q16 (fq b)))) : loopM step (q16 (fq 0), 0) = some (q16 (fq (sumL f l))) := by
 rw [← Tot.eq_iff]
 refine loop_fold' (fun b => q16 (fq b)) l step (fun a k => a + f k) (fun i b => 0 ≤ b ∧ S16 (201 * i + 1) (fq b)) ⟨Rat.le_refl, by rw [fq_zero]; exact S16_zero⟩ (fun i hi b hb => ?_) (fun hb => ?_)
 ·obtain ⟨f0, fs⟩ := hf l[i] (List.getElem_mem hi)
  have g : 0 < Nat.gcd ((fq b).1 * (fq (f l[i])).2 + (fq (f l[i])).1 * (fq b).2) ((fq b).2 * (fq (f l[i])).2) := Nat.gcd_pos_of_pos_right _ (Nat.mul_pos (fq_lo b hb.1).1 (fq_lo _ f0).1)
  have ha := r04_Add_eq (hb.2.mono (show 201 * i + 1 ≤ 400000 by omega)) (fs.mono (show 200 ≤ 400000 by omega)) (by omega) g
  rw [fq_add hb.1 f0] at ha
  refine ⟨by rw [h1 i hi b, ha]; rfl, by grind, ?_⟩
  have := add_size hb.2 fs
  rw [fq_add hb.1 f0] at this
  exact this.mono (by omega)
 ·rw [h2]
  exact Tot.some_iff.2 ⟨_, rfl, rfl⟩
theorem r04_Int_fq {x : Int} (h0 : 0 ≤ x) (h1 : x ≤ 18446744073709551615) : r04_Int (IntKind.u64.wrap x) = some (q16 (fq (x.toNat : Rat))) := by
 rw [u64i h0 h1, show x = ((x.toNat : Nat) : Int) from (Int.toNat_of_nonneg h0).symm, r04_Int_eq (by omega), fq_nat, Int.toNat_natCast]
theorem r04_Int0 : r04_Int (0 : Int) = some (q16 (fq 0)) := r04_Int_eq (a := 0) (by omega)
theorem tix_mem_ok {s : D_api_State} {q : D_api_Ticket → Bool} {k : Int} (hk : k ∈ tix s q) : 0 ≤ k ∧ k < (s.2.1.length : Int) := by
 have := mem_tix.1 hk
 exact ⟨this.1, this.2.1⟩
theorem rd_get {l : List Int} {i : Nat} (hi : i < l.length) : rd (0 : Int) l (i : Int) = l[i] := rd_eq i rfl hi
theorem r18_Coin_rec_eq {s : D_api_State} (h : FineP s) (self : D_api_State → Int → Option D_r04_Q) (c : Int) (hs : ∀ k ∈ tix s (backs c), self s k = some (q16 (fq (tickV s k)))) : r18_Coin_rec self s c = some (q16 (fq (coinV s c))) := by
 have hl := h.tickets.2.1
 rw [coinV_eq h]
 unfold r18_Coin_rec coinW
 simp only [bnd]
 by_cases h0 : c = 0
 ·have hb := amtI_bound h 0
  rw [show (c == 0) = true from beq_iff_eq.2 h0, cond_true, if_pos h0, r17_Amount_eq h, Option.bind_some, r04_Int_fq hb.1 (by omega)]
  rfl
 ·rw [show (c == 0) = false from beq_eq_false_iff_ne.2 h0, cond_false, if_neg h0, r04_Int0, Option.bind_some, r15_Tickets_eq s _ _ (by omega), Option.bind_some]
  have ew : whatT 1 c = backs c := by funext t; simp [whatT, backs]
  have hlen := tix_len (s := s) (q := backs c)
  rw [ew, sum16_loop (l := tix s (backs c)) (f := tickV s) (by omega) (fun k hk => ?_) (fun i hi b => ?_) (fun b => ?_)]
  ·unfold tix
   rw [sumL_build]
   rfl
  ·obtain ⟨k0, k1⟩ := tix_mem_ok hk
   obtain ⟨a, b⟩ := (tick_WB h k0 k1).ok h (by omega)
   exact ⟨a, b.mono (by omega)⟩
  ·have hw : IntKind.i64.wrap ((i : Int) + 1) = (i : Int) + 1 := w64 (by omega) (by omega)
   show r18_Coin_b1 s self (tix s (backs c)) (q16 (fq b)) (i : Int) = _
   unfold r18_Coin_b1
   rw [decide_eq_true (show (i : Int) < ((tix s (backs c)).length : Int) by omega), cond_true, rd_get hi, hs _ (List.getElem_mem hi), Option.bind_some, hw]
   rw [ass_of ⟨by omega, by omega⟩]
   rfl
  ·show r18_Coin_b1 s self (tix s (backs c)) (q16 (fq b)) _ = _
   unfold r18_Coin_b1
   rw [decide_eq_false (Int.lt_irrefl _), cond_false]
   rfl
theorem r18_Ticket_eq {s : D_api_State} (h : FineP s) {k : Int} (k0 : 0 ≤ k) (k1 : k < (s.2.1.length : Int)) : r18_Ticket s k = some (q16 (fq (tickV s k))) := by
 obtain ⟨d, hd⟩ := far_of h
 unfold r18_Ticket
 refine fixM_eq (fun x => q16 (fq (tickV x.1 x.2))) (fun x => x.1 = s ∧ 0 ≤ x.2 ∧ x.2 < (s.2.1.length : Int)) (fun x => d (tk s x.2).2.1) (fun self x hx ih => ?_) (x := (s, k)) ⟨rfl, k0, k1⟩
 obtain ⟨s', k⟩ := x
 obtain ⟨h1, k0, k1⟩ := hx
 simp only at h1 k0 k1 ih ⊢
 subst h1
 unfold r18_Ticket_rec
 simp only [bnd]
 rw [ass_of ⟨k0, k1⟩, show rd z_api_Ticket s'.2.1 k = tk s' k from rfl, r17_Counts_eq h k0 k1, Option.bind_some]
 by_cases hc : cntB s' k = true
 ·obtain ⟨p1, p2, p3⟩ := cnt_part h k0 k1 hc
  have hb := amtI_bound h (tk s' k).2.1
  have et : tickV s' k = ((tk s' k).2.2.1.toNat : Rat) / ((amtI s' (tk s' k).2.1).toNat : Rat) * coinV s' (tk s' k).2.1 := by unfold tickV tkV; rw [if_pos hc]
  rw [hc, Bool.not_true, cond_false]
  by_cases h0 : (tk s' k).2.1 = 0
  ·rw [show ((tk s' k).2.1 == 0) = true from beq_iff_eq.2 h0, cond_true, r04_Int_fq (by omega) (by omega), Option.bind_some, et]
   have e2 : coinV s' (tk s' k).2.1 = ((amtI s' (tk s' k).2.1).toNat : Rat) := by rw [coinV_eq h, h0]; unfold coinW; rw [if_pos rfl]
   have := ncast_ne (n := (amtI s' (tk s' k).2.1).toNat) (by omega)
   rw [e2]
   congr 3
   grind
  ·have hu1 : IntKind.u64.wrap (tk s' k).2.2.1 = (((tk s' k).2.2.1.toNat : Nat) : Int) := by rw [u64i (by omega) (by omega)]; omega
   have hu2 : IntKind.u64.wrap (amtI s' (tk s' k).2.1) = (((amtI s' (tk s' k).2.1).toNat : Nat) : Int) := by rw [u64i (by omega) (by omega)]; omega
   have hcoin := r18_Coin_rec_eq h (fun p0 p1 => self (p0, p1)) (tk s' k).2.1 fun j hj => by
    have hm := mem_tix.1 hj
    have hbk : bk s' (tk s' k).2.1 j = true := by
     unfold bk
     rw [Bool.and_eq_true]
     exact ⟨hm.2.2.1, hm.2.2.2⟩
    exact ih (s', j) ⟨rfl, hm.1, hm.2.1⟩ (hd.lt _ _ (bk_arr h hm.1 hm.2.1 hbk))
   obtain ⟨c0, cs⟩ := (coin_WB h (tk s' k).2.1).ok h (by omega)
   have hpos : 0 < (amtI s' (tk s' k).2.1).toNat := by omega
   have q0 : (0 : Rat) ≤ ((tk s' k).2.2.1.toNat : Rat) / ((amtI s' (tk s' k).2.1).toNat : Rat) := rv_nonneg (_, _) hpos
   have l1 : (d16 (tk s' k).2.2.1.toNat).length ≤ 4 := dg_len b16 (by omega)
   have l2 : (d16 (amtI s' (tk s' k).2.1).toNat).length ≤ 4 := dg_len b16 (by omega)
   have sl := low_size l1 l2
   have hof := r04_Of_eq (a := (tk s' k).2.2.1.toNat) (b := (amtI s' (tk s' k).2.1).toNat) (by omega) (by omega) (Nat.gcd_pos_of_pos_right _ hpos)
   rw [fq_low hpos] at hof sl
   have hm := r04_Mul_eq (sl.mono (show 4 ≤ 40 by omega)) cs (by omega) (Nat.gcd_pos_of_pos_right _ (Nat.mul_pos (fq_lo _ q0).1 (fq_lo _ c0).1))
   rw [fq_mul q0 c0, ← et] at hm
   rw [show ((tk s' k).2.1 == 0) = false from beq_eq_false_iff_ne.2 h0, cond_false, r17_Amount_eq h, Option.bind_some, hu1, hu2, hof, Option.bind_some, hcoin, Option.bind_some, hm]
   rfl
 ·have e : cntB s' k = false := by rw [Bool.not_eq_true] at hc; exact hc
  have et : tickV s' k = 0 := by unfold tickV tkV; rw [if_neg hc]
  rw [e, Bool.not_false, cond_true, r04_Int0, et]
  rfl
def thrV (s : D_api_State) (i : Int) : Rat := sumL (tickV s) (tix s (fundsT i))
theorem thrV_sum (s : D_api_State) (i : Int) : thrV s i = sumQ (fun k => if ((tk s k).1 && fundsT i (tk s k)) = true then tickV s k else 0) s.2.1.length := by
 unfold thrV tix
 rw [sumL_build]
 rfl
theorem thr_WB {s : D_api_State} (h : FineP s) (i : Int) : WB s 96 (thrV s i) := by
 have hl := h.tickets.2.1
 rw [thrV_sum]
 refine (WB.sum (m := 1) fun k k0 k1 => ?_).mono (by omega)
 by_cases hb : ((tk s k).1 && fundsT i (tk s k)) = true
 ·rw [if_pos hb]; exact tick_WB h k0 k1
 ·rw [if_neg hb]; exact WB.zero
theorem r18_Thread_eq {s : D_api_State} (h : FineP s) (i : Int) : r18_Thread s i = some (q16 (fq (thrV s i))) := by
 have hl := h.tickets.2.1
 unfold r18_Thread
 simp only [bnd]
 rw [r04_Int0, Option.bind_some, r15_Tickets_eq s _ _ (by omega), Option.bind_some]
 have ew : whatT 2 i = fundsT i := by funext t; simp [whatT, fundsT]
 have hlen := tix_len (s := s) (q := fundsT i)
 rw [ew, sum16_loop (l := tix s (fundsT i)) (f := tickV s) (by omega) (fun k hk => ?_) (fun j hi b => ?_) (fun b => ?_)]
 ·rfl
 ·obtain ⟨k0, k1⟩ := tix_mem_ok hk
  obtain ⟨a, b⟩ := (tick_WB h k0 k1).ok h (by omega)
  exact ⟨a, b.mono (by omega)⟩
 ·have hw : IntKind.i64.wrap ((j : Int) + 1) = (j : Int) + 1 := w64 (by omega) (by omega)
  have hm := tix_mem_ok (List.getElem_mem hi)
  show r18_Thread_b1 s (tix s (fundsT i)) (q16 (fq b)) (j : Int) = _
  unfold r18_Thread_b1
  rw [decide_eq_true (show (j : Int) < ((tix s (fundsT i)).length : Int) by omega), cond_true, rd_get hi, r18_Ticket_eq h hm.1 hm.2, Option.bind_some, hw]
  rw [ass_of ⟨by omega, by omega⟩]
  rfl
 ·show r18_Thread_b1 s (tix s (fundsT i)) (q16 (fq b)) _ = _
  unfold r18_Thread_b1
  rw [decide_eq_false (Int.lt_irrefl _), cond_false]
  rfl
theorem live_two {s : D_api_State} (h : FineP s) : ∃ cs am, cs.length = s.2.1.length ∧ am.length = s.1.length ∧ (∀ k : Int, 0 ≤ k → k < (s.2.1.length : Int) → rd false cs k = cntB s k) ∧ (∀ c : Int, 0 ≤ c → c < (s.1.length : Int) → rd 0 am c = amtI s c) ∧
  live_Tickets s = some cs ∧ live_Amounts s = some am := by
 obtain ⟨⟨cs, am⟩, hr, h1, h2, h3, h4⟩ := live_reckon_tot h
 exact ⟨cs, am, h1, h2, h3, h4, by unfold live_Tickets; rw [hr]; rfl, by unfold live_Amounts; rw [hr]; rfl⟩
theorem ratio_Mul_fq {a b : Rat} (ha : 0 ≤ a) (hb : 0 ≤ b) (sa : S16 400 (fq a)) (sb : S16 400 (fq b)) : ratio_Mul [q32 (fq a), q32 (fq b)] = some (q32 (fq (a * b))) := by
 have := (ratio_Mul_eq (l := [fq a, fq b]) (k := 400) (by simp) (by omega) fun p hp => by
  simp only [List.mem_cons, List.not_mem_nil, or_false] at hp
  rcases hp with rfl | rfl
  ·exact ⟨sa, (fq_lo _ ha).1⟩
  ·exact ⟨sb, (fq_lo _ hb).1⟩).1
 have e : prodP [fq a, fq b] = fq (a * b) := by
  show mulP (mulP (1, 1) (fq a)) (fq b) = _
  rw [← fq_one, fq_mul (by decide) ha, Rat.one_mul, fq_mul ha hb]
 rw [e] at this
 exact this
theorem ratio_Add_fq {a b : Rat} (ha : 0 ≤ a) (hb : 0 ≤ b) (sa : S16 400 (fq a)) (sb : S16 400 (fq b)) : ratio_Add [q32 (fq a), q32 (fq b)] = some (q32 (fq (a + b))) := by
 have := (ratio_Add_eq (l := [fq a, fq b]) (k := 400) (by simp) (by omega) fun p hp => by
  simp only [List.mem_cons, List.not_mem_nil, or_false] at hp
  rcases hp with rfl | rfl
  ·exact ⟨sa, (fq_lo _ ha).1⟩
  ·exact ⟨sb, (fq_lo _ hb).1⟩).1
 have e : sumP [fq a, fq b] = fq (a + b) := by
  show addP (addP (0, 1) (fq a)) (fq b) = _
  rw [← fq_zero, fq_add Rat.le_refl ha, Rat.zero_add, fq_add ha hb]
 rw [e] at this
 exact this
theorem sumQ_one {f g : Int → Rat} {k : Int} (hk0 : 0 ≤ k) : ∀ {n : Nat}, k < (n : Int) → (∀ j, j ≠ k → g j = f j) → sumQ g n = sumQ f n + (g k - f k)
 | 0, h, _ => by omega
 | n + 1, h, hj => by
  unfold sumQ
  by_cases hk : k = (n : Int)
  ·rw [sumQ_congr (g := f) fun j j0 j1 => hj j (by omega), ← hk]; grind
  ·rw [sumQ_one hk0 (n := n) (by omega) hj, hj n (by omega)]; grind
def pcV (s : D_api_State) (D : List Int) (x : Int) : Rat := if x = 0 then ((amtI s 0).toNat : Rat) else sumQ (fun k => if bk s x k = true ∧ k ∈ D then tickV s k else 0) s.2.1.length
theorem pcV_add {s : D_api_State} {D : List Int} {k x : Int} (k0 : 0 ≤ k) (k1 : k < (s.2.1.length : Int)) (hk : k ∉ D) : pcV s (D ++ [k]) x = if x ≠ 0 ∧ bk s x k = true then pcV s D x + tickV s k else pcV s D x := by
 unfold pcV
 by_cases h0 : x = 0
 ·rw [if_pos h0, if_pos h0, if_neg fun h => h.1 h0]
 rw [if_neg h0, if_neg h0]
 rw [sumQ_one (f := fun k => if bk s x k = true ∧ k ∈ D then tickV s k else 0) k0 k1 fun j hj => by
  have : (j ∈ D ++ [k]) = (j ∈ D) := by simp [hj]
  simp only [this]]
 have e1 : (k ∈ D ++ [k]) = True := by simp
 by_cases hb : bk s x k = true
 ·rw [if_pos ⟨hb, List.mem_append_right _ (List.mem_singleton.2 rfl)⟩, if_neg fun h => hk h.2, if_pos ⟨h0, hb⟩]; grind
 ·rw [if_neg fun h => hb h.1, if_neg fun h => hb h.1, if_neg fun h => hb h.2]; grind
theorem pcV_all {s : D_api_State} (h : FineP s) {D : List Int} {x : Int} (hD : ∀ k : Int, 0 ≤ k → k < (s.2.1.length : Int) → bk s x k = true → k ∈ D) : pcV s D x = coinV s x := by
 rw [coinV_eq h]
 unfold pcV coinW
 by_cases h0 : x = 0
 ·rw [if_pos h0, if_pos h0]
 rw [if_neg h0, if_neg h0]
 refine sumQ_congr fun k k0 k1 => ?_
 by_cases hb : bk s x k = true
 ·rw [if_pos ⟨hb, hD k k0 k1 hb⟩, if_pos hb]; rfl
 ·rw [if_neg fun h => hb h.1, if_neg hb]
theorem pcV_WB {s : D_api_State} (h : FineP s) (D : List Int) (x : Int) : WB s 96 (pcV s D x) := by
 have hl := h.tickets.2.1
 unfold pcV
 by_cases h0 : x = 0
 ·rw [if_pos h0]
  have := coin_WB h 0
  rw [coinV_eq h] at this
  unfold coinW at this
  rw [if_pos rfl] at this
  exact this.mono (by omega)
 ·rw [if_neg h0]
  refine (WB.sum (m := 1) fun k k0 k1 => ?_).mono (by omega)
  split
  ·exact tick_WB h k0 k1
  ·exact WB.zero
structure Md (s : D_api_State) (D : List Int) (C T : List D_api_Ratio) : Prop where
 cl : C.length = s.1.length
 tl : T.length = s.2.1.length
 cv : ∀ x : Int, 0 ≤ x → x < (s.1.length : Int) → rd z_api_Ratio C x = q32 (fq (pcV s D x))
 tv : ∀ k : Int, 0 ≤ k → k < (s.2.1.length : Int) → rd z_api_Ratio T k = q32 (fq (if k ∈ D then tickV s k else 0))
theorem Md.skip {s : D_api_State} {D : List Int} {C T : List D_api_Ratio} (m : Md s D C T) {k : Int} (k0 : 0 ≤ k) (k1 : k < (s.2.1.length : Int)) (hk : k ∉ D) (hc : cntB s k = false) : Md s (D ++ [k]) C T := by
 have hz : tickV s k = 0 := by unfold tickV tkV; rw [if_neg (by rw [hc]; exact Bool.noConfusion)]
 refine ⟨m.cl, m.tl, fun x x0 x1 => ?_, fun j j0 j1 => ?_⟩
 ·rw [m.cv x x0 x1, pcV_add k0 k1 hk]
  split
  ·rw [hz, Rat.add_zero]
  ·rfl
 ·rw [m.tv j j0 j1]
  by_cases hj : j = k
  ·subst hj; rw [if_neg hk, if_pos (by simp), hz]
  ·have : (j ∈ D ++ [k]) = (j ∈ D) := by simp [hj]
   simp only [this]
theorem Md.step {s : D_api_State} {D : List Int} {C T : List D_api_Ratio} (m : Md s D C T) {k : Int} (k0 : 0 ≤ k) (k1 : k < (s.2.1.length : Int)) (hk : k ∉ D) {C' : List D_api_Ratio}
  (hC : C'.length = s.1.length ∧ ∀ x : Int, 0 ≤ x → x < (s.1.length : Int) → rd z_api_Ratio C' x = q32 (fq (pcV s (D ++ [k]) x))) : Md s (D ++ [k]) C' (wr T k (q32 (fq (tickV s k)))) := by
 refine ⟨hC.1, by rw [wr_length, m.tl], hC.2, fun j j0 j1 => ?_⟩
 rw [rd_wr k0 (by rw [m.tl]; exact k1) j0]
 by_cases hj : j = k
 ·rw [if_pos hj, hj, if_pos (by simp)]
 ·have : (j ∈ D ++ [k]) = (j ∈ D) := by simp [hj]
  rw [if_neg hj, m.tv j j0 j1]
  simp only [this]
theorem bk_to {s : D_api_State} {k : Int} {x : Int} (hu : (tk s k).1 = true) : bk s x k = true ↔ (tk s k).2.2.2.1 = 2 ∧ (tk s k).2.2.2.2.1 = x := by
 unfold bk backs
 rw [hu]
 simp only [Bool.true_and, Bool.and_eq_true, beq_iff_eq]
theorem worth_one {s : D_api_State} (h : FineP s) {cs : List Bool} {am : List Int} (hcs : ∀ k : Int, 0 ≤ k → k < (s.2.1.length : Int) → rd false cs k = cntB s k) (hcl : cs.length = s.2.1.length) (hal : am.length = s.1.length)
  (ham : ∀ c : Int, 0 ≤ c → c < (s.1.length : Int) → rd 0 am c = amtI s c) {D : List Int} {C T : List D_api_Ratio} (m : Md s D C T) {L : List Int} {j : Nat} (hj : j < L.length) (hL : L.length ≤ 96) {x y : Int} (x0 : 0 ≤ x) (x1 : x < (s.1.length : Int))
  (hk : 0 ≤ L[j] ∧ L[j] < (s.2.1.length : Int) ∧ (tk s L[j]).1 = true ∧ (tk s L[j]).2.1 = x) (hkD : L[j] ∉ D) (hx : pcV s D x = coinV s x) :
  ∃ C' T', worth_reckon_b2 s cs am y x L C T (j : Int) = some (.inl (C', T', (j : Int) + 1)) ∧ Md s (D ++ [L[j]]) C' T' := by
 obtain ⟨k, hkk⟩ : ∃ k, k = L[j] := ⟨_, rfl⟩
 rw [← hkk] at hk hkD ⊢
 obtain ⟨k0, k1, hu, hkx⟩ := hk
 have hw : IntKind.i64.wrap ((j : Int) + 1) = (j : Int) + 1 := w64 (by omega) (by omega)
 have hrd : rd (0 : Int) L (j : Int) = k := by rw [hkk]; exact rd_get hj
 have start : ∀ {R : Option ((List D_api_Ratio × List D_api_Ratio × Int) ⊕ ((List D_api_Ratio × List D_api_Ratio × Int) ⊕ (List D_api_Ratio × List D_api_Ratio)))} {v},
   (bif !(cntB s k) then worth_reckon_j6 (j : Int) C T else R) = some v → (bif !(rd false cs k) then worth_reckon_j6 (j : Int) C T else R) = some v := fun hh => by rw [hcs k k0 k1]; exact hh
 have j6 : ∀ C' T', worth_reckon_j6 (j : Int) C' T' = some (.inl (C', T', (j : Int) + 1)) := fun C' T' => by unfold worth_reckon_j6; rw [hw]; rfl
 by_cases hc : cntB s k = true
 ·obtain ⟨p1, p2, p3⟩ := cnt_part h k0 k1 hc
  rw [hkx] at p2 p3
  have hb := amtI_bound h x
  have hpos : 0 < (amtI s x).toNat := by omega
  have hu1 : IntKind.u64.wrap (tk s k).2.2.1 = (((tk s k).2.2.1.toNat : Nat) : Int) := by rw [u64i (by omega) (by omega)]; omega
  have hu2 : IntKind.u64.wrap (amtI s x) = (((amtI s x).toNat : Nat) : Int) := by rw [u64i (by omega) (by omega)]; omega
  have hof := ratio_Of_eq (n := (tk s k).2.2.1.toNat) (d := (amtI s x).toNat) (by omega) (by omega)
  rw [if_neg (by omega), fq_low hpos] at hof
  have q0 : (0 : Rat) ≤ ((tk s k).2.2.1.toNat : Rat) / ((amtI s x).toNat : Rat) := rv_nonneg (_, _) hpos
  have l1 : (d16 (tk s k).2.2.1.toNat).length ≤ 4 := dg_len b16 (by omega)
  have l2 : (d16 (amtI s x).toNat).length ≤ 4 := dg_len b16 (by omega)
  have sl := low_size l1 l2
  rw [fq_low hpos] at sl
  obtain ⟨c0, cz⟩ := (coin_WB h x).ok h (by omega)
  have hm := ratio_Mul_fq q0 c0 (sl.mono (by omega)) (cz.mono (by omega))
  have et : tickV s k = ((tk s k).2.2.1.toNat : Rat) / ((amtI s x).toNat : Rat) * coinV s x := by unfold tickV tkV; rw [if_pos hc, hkx]
  rw [← et] at hm
  have hCx : rd z_api_Ratio C x = q32 (fq (coinV s x)) := by rw [m.cv x x0 x1, hx]
  have hTk : rd z_api_Ratio (wr T k (q32 (fq (tickV s k)))) k = q32 (fq (tickV s k)) := by rw [rd_wr k0 (by rw [m.tl]; exact k1) k0, if_pos rfl]
  obtain ⟨t0, tz⟩ := (tick_WB h k0 k1).ok h (by omega)
  by_cases h2 : (tk s k).2.2.2.1 = 2
  ·have ht := h.tk_ok k0 k1
   unfold TicketOk at ht
   rw [if_pos hu] at ht
   obtain ⟨_, _, _, hd⟩ := ht
   have hto : (tk s k).2.2.2.2.1 ≠ 0 ∧ CoinP s (tk s k).2.2.2.2.1 := by
    rcases hd with hd | hd | hd
    ·omega
    ·omega
    ·exact hd.2
   obtain ⟨w, hw2⟩ : ∃ w, w = (tk s k).2.2.2.2.1 := ⟨_, rfl⟩
   rw [← hw2] at hto
   have w0 := hto.2.1
   have w1 := hto.2.2.1
   obtain ⟨v0, vz⟩ := (pcV_WB h D w).ok h (by omega)
   have ha := ratio_Add_fq v0 t0 (vz.mono (by omega)) (tz.mono (by omega))
   have hCw : rd z_api_Ratio C w = q32 (fq (pcV s D w)) := m.cv w w0 w1
   refine ⟨wr C w (q32 (fq (pcV s D w + tickV s k))), wr T k (q32 (fq (tickV s k))), ?_, m.step k0 k1 hkD ⟨by rw [wr_length, m.cl], fun z z0 z1 => ?_⟩⟩
   ·rw [← Tot.eq_iff]
    unfold worth_reckon_b2
    rw [decide_eq_true (show (j : Int) < (L.length : Int) by omega), cond_true]
    refine Tot.ass_iff.2 ⟨by omega, ?_⟩
    rw [Tot.bnd_iff, hrd]
    refine Tot.ass_iff.2 ⟨by omega, ?_⟩
    rw [hcs k k0 k1, hc, Bool.not_true, cond_false]
    refine Tot.ass_iff.2 ⟨by omega, ?_⟩
    rw [Tot.bnd_iff, show rd z_api_Ticket s.2.1 k = tk s k from rfl]
    refine Tot.ass_iff.2 ⟨by omega, ?_⟩
    rw [ham x x0 x1, hu1, hu2, hof, Option.bind_some]
    refine Tot.ass_iff.2 ⟨by rw [m.cl]; omega, ?_⟩
    rw [hCx, hm, Option.bind_some]
    refine Tot.ass_iff.2 ⟨by rw [m.tl]; omega, ?_⟩
    rw [Tot.bnd_iff, show ((tk s k).2.2.2.1 == 2) = true from beq_iff_eq.2 h2, cond_true, ← hw2]
    refine Tot.ass_iff.2 ⟨by rw [m.cl]; omega, ?_⟩
    refine Tot.ass_iff.2 ⟨by rw [wr_length, m.tl]; omega, ?_⟩
    rw [hCw, hTk, ha, Option.bind_some, Tot.bnd_iff, show ∀ a b, worth_reckon_j7 (j : Int) a b = worth_reckon_j6 (j : Int) b a from fun a b => rfl, j6]
    exact Tot.some_iff.2 rfl
   ·rw [rd_wr w0 (by rw [m.cl]; exact w1) z0, pcV_add k0 k1 hkD]
    by_cases hz : z = w
    ·rw [if_pos hz, hz, if_pos ⟨hto.1, (bk_to hu).2 ⟨h2, hw2.symm⟩⟩]
    ·rw [if_neg hz, if_neg fun hh => hz (by rw [hw2]; exact ((bk_to hu).1 hh.2).2.symm), m.cv z z0 z1]
  ·refine ⟨C, wr T k (q32 (fq (tickV s k))), ?_, m.step k0 k1 hkD ⟨m.cl, fun z z0 z1 => ?_⟩⟩
   ·rw [← Tot.eq_iff]
    unfold worth_reckon_b2
    rw [decide_eq_true (show (j : Int) < (L.length : Int) by omega), cond_true]
    refine Tot.ass_iff.2 ⟨by omega, ?_⟩
    rw [Tot.bnd_iff, hrd]
    refine Tot.ass_iff.2 ⟨by omega, ?_⟩
    rw [hcs k k0 k1, hc, Bool.not_true, cond_false]
    refine Tot.ass_iff.2 ⟨by omega, ?_⟩
    rw [Tot.bnd_iff, show rd z_api_Ticket s.2.1 k = tk s k from rfl]
    refine Tot.ass_iff.2 ⟨by omega, ?_⟩
    rw [ham x x0 x1, hu1, hu2, hof, Option.bind_some]
    refine Tot.ass_iff.2 ⟨by rw [m.cl]; omega, ?_⟩
    rw [hCx, hm, Option.bind_some]
    refine Tot.ass_iff.2 ⟨by rw [m.tl]; omega, ?_⟩
    rw [Tot.bnd_iff, show ((tk s k).2.2.2.1 == 2) = false from beq_eq_false_iff_ne.2 h2, cond_false, show ∀ a b, worth_reckon_j7 (j : Int) a b = worth_reckon_j6 (j : Int) b a from fun a b => rfl, j6]
    exact Tot.some_iff.2 rfl
   ·rw [pcV_add k0 k1 hkD, if_neg fun hh => h2 ((bk_to hu).1 hh.2).1, m.cv z z0 z1]
 ·have hc' : cntB s k = false := by rw [Bool.not_eq_true] at hc; exact hc
  refine ⟨C, T, ?_, m.skip k0 k1 hkD hc'⟩
  rw [← Tot.eq_iff]
  unfold worth_reckon_b2
  rw [decide_eq_true (show (j : Int) < (L.length : Int) by omega), cond_true]
  refine Tot.ass_iff.2 ⟨by omega, ?_⟩
  rw [Tot.bnd_iff, hrd]
  refine Tot.ass_iff.2 ⟨by omega, ?_⟩
  rw [hcs k k0 k1, hc', Bool.not_false, cond_true, j6]
  exact Tot.some_iff.2 rfl
theorem nodup_inj {l : List Int} (h : l.Nodup) {i j : Nat} (hi : i < l.length) (hj : j < l.length) (e : l[i] = l[j]) : i = j := by
 have hp := List.pairwise_iff_getElem.1 h
 rcases Nat.lt_trichotomy i j with hh | hh | hh
 ·exact absurd e (hp i j hi hj hh)
 ·exact hh
 ·exact absurd e.symm (hp j i hj hi hh)
theorem zero_q : ratio_Zero = some (q32 (fq 0)) := exZero
theorem fill_loop {ρ : Type} {n : Nat} (hn : n ≤ 1000) {step : List D_api_Ratio × Int → Option ((List D_api_Ratio × Int) ⊕ ρ)} {Q : ρ → Prop}
  (h1 : ∀ (i : Nat) (c : List D_api_Ratio), i < n → c.length = n → step (c, (i : Int)) = some (.inl (wr c (i : Int) (q32 (fq 0)), (i : Int) + 1)))
  (h2 : ∀ c : List D_api_Ratio, c.length = n → (∀ j : Int, 0 ≤ j → j < (n : Int) → rd z_api_Ratio c j = q32 (fq 0)) → Tot (step (c, (n : Int))) (fun z => ∃ r, z = .inr r ∧ Q r)) {c0 : List D_api_Ratio} (h0 : c0.length = n) : Tot (loopM step (c0, 0)) Q := by
 refine Tot.loop (fun x => ∃ i : Nat, x.2 = (i : Int) ∧ i ≤ n ∧ x.1.length = n ∧ ∀ j : Int, 0 ≤ j → j < (i : Int) → rd z_api_Ratio x.1 j = q32 (fq 0)) (fun x => ((n : Int) - x.2).toNat) (fun x hx => ?_) ⟨0, rfl, Nat.zero_le _, h0, fun j a b => by omega⟩
 obtain ⟨c, i0⟩ := x
 obtain ⟨i, e, hi, hl, hz⟩ := hx
 simp only at e hl hz
 subst e
 rcases Nat.lt_or_ge i n with h | h
 ·rw [h1 i c h hl]
  refine Tot.some_iff.2 (Nx.inl_iff.2 ⟨⟨i + 1, by simp, h, by rw [wr_length, hl], fun j a b => ?_⟩, by simp only; omega⟩)
  simp only
  rw [rd_wr (by omega) (by omega) a]
  by_cases hj : j = (i : Int)
  ·rw [if_pos hj]
  ·rw [if_neg hj]; exact hz j a (by omega)
 ·obtain rfl : i = n := by omega
  refine (h2 c hl hz).mono fun z hh => ?_
  obtain ⟨r, rfl, hr⟩ := hh
  exact Nx.inr_iff.2 hr
def gone (s : D_api_State) (l : List Int) : List Int := l.flatMap fun x => tix s (isOf x)
theorem mem_gone {s : D_api_State} {l : List Int} {k : Int} : k ∈ gone s l ↔ 0 ≤ k ∧ k < (s.2.1.length : Int) ∧ (tk s k).1 = true ∧ (tk s k).2.1 ∈ l := by
 unfold gone
 rw [List.mem_flatMap]
 constructor
 ·rintro ⟨x, hx, hk⟩
  obtain ⟨a, b, c, d⟩ := mem_tix.1 hk
  have : (tk s k).2.1 = x := beq_iff_eq.1 d
  exact ⟨a, b, c, this ▸ hx⟩
 ·rintro ⟨a, b, c, d⟩
  exact ⟨_, d, mem_tix.2 ⟨a, b, c, beq_self_eq_true _⟩⟩
theorem worth_coin {s : D_api_State} (h : FineP s) {cs : List Bool} {am : List Int} (hcs : ∀ k : Int, 0 ≤ k → k < (s.2.1.length : Int) → rd false cs k = cntB s k) (hcl : cs.length = s.2.1.length) (hal : am.length = s.1.length)
  (ham : ∀ c : Int, 0 ≤ c → c < (s.1.length : Int) → rd 0 am c = amtI s c) {l : List Int} {C T : List D_api_Ratio} (m : Md s (gone s l) C T) {o : List Int} {i : Nat} (hi : i < o.length) (hol : o.length ≤ 100) {x : Int} (hx : x = o[i]) (x0 : 0 ≤ x) (x1 : x < (s.1.length : Int))
  (hxl : x ∉ l) (hv : pcV s (gone s l) x = coinV s x) : Tot (worth_reckon_b1 s cs am o C T (i : Int)) (fun z => ∃ C' T', z = .inl (C', T', (i : Int) + 1) ∧ Md s (gone s (l ++ [x])) C' T') := by
 have hl := h.tickets.2.1
 have hw : IntKind.i64.wrap ((i : Int) + 1) = (i : Int) + 1 := w64 (by omega) (by omega)
 have hrd : rd (0 : Int) o (i : Int) = x := by rw [hx]; exact rd_get hi
 unfold worth_reckon_b1
 rw [decide_eq_true (show (i : Int) < (o.length : Int) by omega), cond_true]
 refine Tot.ass_iff.2 ⟨by omega, ?_⟩
 rw [Tot.bnd_iff, hrd, fund_Issued_eq s x (by omega), Option.bind_some]
 obtain ⟨L, hL⟩ : ∃ L, L = tix s (isOf x) := ⟨_, rfl⟩
 have hLl : L.length ≤ 96 := by have := tix_len (s := s) (q := isOf x); rw [hL]; omega
 have hLn : L.Nodup := by rw [hL]; exact buildL_nodup (p := fun k => (rd z_api_Ticket s.2.1 k).1 && isOf x (rd z_api_Ticket s.2.1 k))
 have hLm : ∀ k ∈ L, 0 ≤ k ∧ k < (s.2.1.length : Int) ∧ (tk s k).1 = true ∧ (tk s k).2.1 = x := fun k hk => by
  rw [hL] at hk
  obtain ⟨a, b, c, d⟩ := mem_tix.1 hk
  exact ⟨a, b, c, beq_iff_eq.1 d⟩
 have hgo : gone s (l ++ [x]) = gone s l ++ L := by unfold gone; rw [List.flatMap_append, hL]; simp
 rw [← hL]
 refine Tot.loop (fun z => ∃ j : Nat, z.2.2 = (j : Int) ∧ j ≤ L.length ∧ Md s (gone s l ++ L.take j) z.1 z.2.1) (fun z => ((L.length : Int) - z.2.2).toNat) (fun z hz => ?_) ⟨0, rfl, Nat.zero_le _, by simpa using m⟩
 obtain ⟨Ca, Ta, j0⟩ := z
 obtain ⟨j, e, hj, hm⟩ := hz
 simp only at e hm
 subst e
 show Tot (worth_reckon_b2 s cs am (i : Int) x L Ca Ta (j : Int)) _
 rcases Nat.lt_or_ge j L.length with hlt | hge
 ·obtain ⟨k0, k1, hu, hkx⟩ := hLm _ (List.getElem_mem hlt)
  have hn : L[j] ∉ gone s l ++ L.take j := by
   intro hc
   rcases List.mem_append.1 hc with hc | hc
   ·exact hxl (hkx ▸ (mem_gone.1 hc).2.2.2)
   ·obtain ⟨a, ha, he⟩ := List.getElem_of_mem hc
    rw [List.length_take] at ha
    rw [List.getElem_take] at he
    have := nodup_inj hLn (by omega) hlt he
    omega
  have hv' : pcV s (gone s l ++ L.take j) x = coinV s x := by
   rw [← hv]
   unfold pcV
   by_cases h0 : x = 0
   ·rw [if_pos h0, if_pos h0]
   rw [if_neg h0, if_neg h0]
   refine sumQ_congr fun k k0 k1 => ?_
   by_cases hb : bk s x k = true
   ·have harr := bk_arr h k0 k1 hb
    have hne : k ∉ L.take j := fun hc => by
     have := (hLm k (List.mem_of_mem_take hc)).2.2.2
     rw [this] at harr
     exact h.coinRing ⟨x, x0, x1, .single harr⟩
    have : (k ∈ gone s l ++ L.take j) = (k ∈ gone s l) := by simp [hne]
    simp only [this]
   ·rw [if_neg fun hh => hb hh.1, if_neg fun hh => hb hh.1]
  obtain ⟨C', T', hb, hm'⟩ := worth_one h hcs hcl hal ham hm hlt hLl (y := (i : Int)) x0 x1 ⟨k0, k1, hu, hkx⟩ hn hv'
  rw [hb]
  refine Tot.some_iff.2 (Nx.inl_iff.2 ⟨⟨j + 1, by simp, hlt, ?_⟩, by simp only; omega⟩)
  rw [List.take_succ_eq_append_getElem hlt, ← List.append_assoc]
  exact hm'
 ·obtain rfl : j = L.length := by omega
  unfold worth_reckon_b2
  rw [decide_eq_false (Int.lt_irrefl _), cond_false]
  unfold worth_reckon_j5 worth_reckon_j4
  rw [hw]
  refine Tot.map_iff.2 (Tot.some_iff.2 (Nx.inr_iff.2 ⟨Ca, Ta, rfl, ?_⟩))
  rw [hgo]
  rwa [List.take_length] at hm
theorem worth_reckon_eq {s : D_api_State} (h : FineP s) : ∃ C T, worth_reckon s = some (C, T) ∧ C.length = s.1.length ∧ T.length = s.2.1.length ∧ (∀ x : Int, 0 ≤ x → x < (s.1.length : Int) → rd z_api_Ratio C x = q32 (fq (coinV s x))) ∧
  ∀ k : Int, 0 ≤ k → k < (s.2.1.length : Int) → rd z_api_Ratio T k = q32 (fq (tickV s k)) := by
 have hl := h.tickets.2.1
 have hc1 := h.c1
 have hc2 := h.c2
 obtain ⟨cs, am, hcl, hal, hcs, ham, hlt, hla⟩ := live_two h
 obtain ⟨o, ho, hok, hoL, hfo, hFO⟩ := fund_Order_eq s (by omega) (by omega) h.coinRing
 have hlen : (fundOrd s).length ≤ s.1.length := by rw [hfo, ← hoL]; exact List.length_filter_le ..
 have hmem : ∀ c, c ∈ fundOrd s ↔ CoinP s c := fun c => by
  rw [hfo, List.mem_filter]
  constructor
  ·rintro ⟨a, b⟩; exact ⟨(hok.rng c a).1, (hok.rng c a).2, b⟩
  ·rintro ⟨a, b, d⟩; exact ⟨full hok.nodup hok.rng (by omega) a b, d⟩
 have hpw : (fundOrd s).Pairwise fun a b => ¬ RR s.1.length (coinArrows s) b a := by rw [hfo]; exact (ord_pairwise hok).filter _
 have hnd : (fundOrd s).Nodup := by rw [hfo]; exact hok.nodup.filter _
 have tot : Tot (worth_reckon s) (fun r => Md s (gone s (fundOrd s)) r.1 r.2) := by
  unfold worth_reckon
  rw [hlt, Option.bind_some, hla, Option.bind_some]
  refine Tot.ass_iff.2 ⟨⟨by omega, by omega, by unfold lim; omega⟩, ?_⟩
  refine Tot.ass_iff.2 ⟨⟨by omega, by omega, by unfold lim; omega⟩, ?_⟩
  rw [Tot.bnd_iff, Tot.bnd_iff]
  refine fill_loop (n := s.1.length) (by omega) (fun i c hi hcC => ?_) (fun c hcC hz => ?_) (by simp)
  ·have hw : IntKind.i64.wrap ((i : Int) + 1) = (i : Int) + 1 := w64 (by omega) (by omega)
   show worth_reckon_b4 s cs am _ _ c (i : Int) = _
   rw [← Tot.eq_iff]
   unfold worth_reckon_b4
   rw [decide_eq_true (by simp; omega), cond_true, zero_q, Option.bind_some]
   refine Tot.ass_iff.2 ⟨by omega, ?_⟩
   rw [Tot.bnd_iff, hw]
   exact Tot.some_iff.2 rfl
  ·show Tot (worth_reckon_b4 s cs am _ _ c _) _
   unfold worth_reckon_b4
   rw [decide_eq_false (by simp), cond_false]
   refine Tot.map_iff.2 ?_
   unfold worth_reckon_j1
   have goal : Tot (loopM (fun x : List D_api_Ratio × Int => worth_reckon_b3 s cs am (List.replicate (s.2.1.length : Int).toNat (([] : List Int), ([] : List Int))) c x.1 x.2) (List.replicate (s.2.1.length : Int).toNat (([] : List Int), ([] : List Int)), (0 : Int))) (fun r => Md s (gone s (fundOrd s)) r.1 r.2) := by
    refine fill_loop (n := s.2.1.length) (by omega) (fun i t hi htl => ?_) (fun t htl hzt => ?_) (by simp)
    ·have hw : IntKind.i64.wrap ((i : Int) + 1) = (i : Int) + 1 := w64 (by omega) (by omega)
     show worth_reckon_b3 s cs am _ _ t (i : Int) = _
     rw [← Tot.eq_iff]
     unfold worth_reckon_b3
     rw [decide_eq_true (by simp; omega), cond_true, zero_q, Option.bind_some]
     refine Tot.ass_iff.2 ⟨by omega, ?_⟩
     rw [Tot.bnd_iff, hw]
     exact Tot.some_iff.2 rfl
    ·show Tot (worth_reckon_b3 s cs am _ _ t _) _
     unfold worth_reckon_b3
     rw [decide_eq_false (by simp), cond_false]
     refine Tot.map_iff.2 ?_
     have hb0 := amtI_bound h 0
     have hu0 : IntKind.u64.wrap (rd (0 : Int) am (0 : Int)) = (((amtI s 0).toNat : Nat) : Int) := by rw [ham 0 (by omega) (by omega), u64i (by omega) (by omega)]; omega
     have hof := ratio_Of_eq (n := (amtI s 0).toNat) (d := 1) (by omega) (by omega)
     rw [if_neg (by omega), fq_low Nat.one_pos] at hof
     have e1 : ((amtI s 0).toNat : Rat) / ((1 : Nat) : Rat) = ((amtI s 0).toNat : Rat) := by simp; grind
     rw [e1] at hof
     have goal2 : Tot (worth_reckon_j2 s cs am c t) (fun r => Md s (gone s (fundOrd s)) r.1 r.2) := by
      unfold worth_reckon_j2
      refine Tot.ass_iff.2 ⟨by omega, ?_⟩
      rw [hu0, show (1 : Int) = ((1 : Nat) : Int) from rfl, hof, Option.bind_some]
      refine Tot.ass_iff.2 ⟨by omega, ?_⟩
      rw [Tot.bnd_iff, hFO, Option.bind_some]
      refine Tot.loop (fun z => ∃ i : Nat, z.2.2 = (i : Int) ∧ i ≤ (fundOrd s).length ∧ Md s (gone s ((fundOrd s).take i)) z.1 z.2.1) (fun z => (((fundOrd s).length : Int) - z.2.2).toNat) (fun z hz => ?_) ⟨0, rfl, Nat.zero_le _, ?_⟩
      ·obtain ⟨Ca, Ta, i0⟩ := z
       obtain ⟨i, e, hi, hm⟩ := hz
       simp only at e hm
       subst e
       show Tot (worth_reckon_b1 s cs am (fundOrd s) Ca Ta (i : Int)) _
       rcases Nat.lt_or_ge i (fundOrd s).length with hlt2 | hge
       ·have hx : CoinP s (fundOrd s)[i] := (hmem _).1 (List.getElem_mem hlt2)
        refine (worth_coin h hcs hcl hal ham hm hlt2 (by omega) rfl hx.1 hx.2.1 ?_ ?_).mono fun z hz => ?_
        ·intro hc
         obtain ⟨a, ha, he⟩ := List.getElem_of_mem hc
         rw [List.length_take] at ha
         rw [List.getElem_take] at he
         have := nodup_inj hnd (by omega) hlt2 he
         omega
        ·refine pcV_all h fun k k0 k1 hb => ?_
         have harr := bk_arr h k0 k1 hb
         have hu : (tk s k).1 = true := by unfold bk at hb; rw [Bool.and_eq_true] at hb; exact hb.1
         have hkc : CoinP s (tk s k).2.1 := by
          have ht := h.tk_ok k0 k1
          unfold TicketOk at ht
          rw [if_pos hu] at ht
          exact ht.1
         rw [mem_gone]
         refine ⟨k0, k1, hu, ?_⟩
         obtain ⟨a, ha, he⟩ := List.getElem_of_mem ((hmem _).2 hkc)
         have hai : a < i := by
          rcases Nat.lt_trichotomy a i with hh | hh | hh
          ·exact hh
          ·subst hh
           rw [← he] at harr
           exact absurd ⟨_, hx.1, hx.2.1, .single harr⟩ h.coinRing
          ·have := List.pairwise_iff_getElem.1 hpw i a hlt2 ha hh
           rw [he] at this
           exact absurd harr this
         rw [← he]
         exact List.mem_take_iff_getElem.2 ⟨a, by omega, rfl⟩
        ·obtain ⟨C', T', rfl, hm'⟩ := hz
         refine Nx.inl_iff.2 ⟨⟨i + 1, by simp, hlt2, ?_⟩, by simp only; omega⟩
         rw [List.take_succ_eq_append_getElem hlt2]
         exact hm'
       ·obtain rfl : i = (fundOrd s).length := by omega
        unfold worth_reckon_b1
        rw [decide_eq_false (Int.lt_irrefl _), cond_false]
        unfold worth_reckon_j3
        rw [List.take_length] at hm
        exact Tot.map_iff.2 (Tot.some_iff.2 (Nx.inr_iff.2 hm))
      ·have hg : gone s ((fundOrd s).take 0) = [] := by simp [gone]
       simp only
       rw [hg]
       refine ⟨by rw [wr_length, hcC], htl, fun x x0 x1 => ?_, fun k k0 k1 => by rw [hzt k k0 k1, if_neg (by simp)]⟩
       rw [rd_wr (Int.le_refl _) (by omega) x0]
       unfold pcV
       by_cases hx0 : x = 0
       ·rw [if_pos hx0, if_pos hx0]
       ·rw [if_neg hx0, if_neg hx0, hz x x0 x1]
        congr 2
        have : ∀ n, sumQ (fun k => if bk s x k = true ∧ k ∈ ([] : List Int) then tickV s k else 0) n = 0 := fun n => by
         induction n with
         | zero => rfl
         | succ n ih => unfold sumQ; rw [ih, if_neg (by simp), Rat.add_zero]
        exact (this _).symm
     exact goal2.mono fun r hr => ⟨r, rfl, hr⟩
   exact goal.mono fun r hr => ⟨r, rfl, hr⟩
 obtain ⟨⟨C, T⟩, hr, hm⟩ := tot
 have used : ∀ k : Int, 0 ≤ k → k < (s.2.1.length : Int) → (tk s k).1 = true → k ∈ gone s (fundOrd s) := fun k k0 k1 hu => by
  have ht := h.tk_ok k0 k1
  unfold TicketOk at ht
  rw [if_pos hu] at ht
  exact mem_gone.2 ⟨k0, k1, hu, (hmem _).2 ht.1⟩
 refine ⟨C, T, hr, hm.cl, hm.tl, fun x x0 x1 => ?_, fun k k0 k1 => ?_⟩
 ·rw [hm.cv x x0 x1, pcV_all h fun k k0 k1 hb => used k k0 k1 (by unfold bk at hb; rw [Bool.and_eq_true] at hb; exact hb.1)]
 ·rw [hm.tv k k0 k1]
  split
  ·rfl
  ·rename_i hn
   have hu : (tk s k).1 = false := by
    rw [← Bool.not_eq_true]
    exact fun hu => hn (used k k0 k1 hu)
   have hc : cntB s k = false := by unfold cntB cntW; rw [hu]; rfl
   unfold tickV tkV
   rw [if_neg (by rw [hc]; exact Bool.noConfusion)]
theorem sumQ_zero {f : Int → Rat} : ∀ {n : Nat}, (∀ k : Int, 0 ≤ k → k < (n : Int) → f k = 0) → sumQ f n = 0
 | 0, _ => rfl
 | n + 1, h => by unfold sumQ; rw [sumQ_zero fun k a b => h k a (by omega), h n (by omega) (by omega), Rat.add_zero]
def thrF (s : D_api_State) (i k : Int) : Rat := if ((tk s k).1 && fundsT i (tk s k)) = true then tickV s k else 0
theorem thrV_F (s : D_api_State) (i : Int) : thrV s i = sumQ (thrF s i) s.2.1.length := thrV_sum s i
theorem funds_thr {s : D_api_State} (h : FineP s) {i k : Int} (k0 : 0 ≤ k) (k1 : k < (s.2.1.length : Int)) (hf : ((tk s k).1 && fundsT i (tk s k)) = true) : ThrP s i := by
 unfold fundsT at hf
 simp only [Bool.and_eq_true, beq_iff_eq] at hf
 have ht := h.tk_ok k0 k1
 unfold TicketOk at ht
 rw [if_pos hf.1] at ht
 obtain ⟨_, _, _, hd⟩ := ht
 rcases hd with hd | hd | hd
 ·omega
 ·rw [← hf.2.2]; exact hd.2
 ·omega
theorem thr_zero {s : D_api_State} (h : FineP s) {i : Int} (hi : ¬ ThrP s i) : thrV s i = 0 := by
 rw [thrV_F]
 refine sumQ_zero fun k k0 k1 => ?_
 unfold thrF
 exact if_neg fun hf => hi (funds_thr h k0 k1 hf)
theorem thrF_WB {s : D_api_State} (h : FineP s) (i : Int) {n : Nat} (hn : n ≤ s.2.1.length) : WB s 96 (sumQ (thrF s i) n) := by
 have hl := h.tickets.2.1
 refine (WB.sum (m := 1) fun k k0 k1 => ?_).mono (by omega)
 unfold thrF
 split
 ·exact tick_WB h k0 (by omega)
 ·exact WB.zero
theorem worth_Threads_eq {s : D_api_State} (h : FineP s) : ∃ W, worth_Threads s = some W ∧ W.length = s.2.2.1.length ∧ ∀ i : Int, 0 ≤ i → i < (s.2.2.1.length : Int) → rd z_api_Ratio W i = q32 (fq (thrV s i)) := by
 have hl := h.tickets.2.1
 have hn := h.thr_len
 obtain ⟨C, T, hr, hCl, hTl, hC, hT⟩ := worth_reckon_eq h
 have hwt : worth_Tickets s = some T := by unfold worth_Tickets; rw [hr]; rfl
 have tot : Tot (worth_Threads s) (fun W => W.length = s.2.2.1.length ∧ ∀ i : Int, 0 ≤ i → i < (s.2.2.1.length : Int) → rd z_api_Ratio W i = q32 (fq (thrV s i))) := by
  unfold worth_Threads
  rw [hwt, Option.bind_some]
  refine Tot.ass_iff.2 ⟨⟨by omega, by omega, by unfold lim; omega⟩, ?_⟩
  rw [Tot.bnd_iff]
  refine fill_loop (n := s.2.2.1.length) (by omega) (fun i c hi hcC => ?_) (fun c hcC hz => ?_) (by simp)
  ·have hw : IntKind.i64.wrap ((i : Int) + 1) = (i : Int) + 1 := w64 (by omega) (by omega)
   show worth_Threads_b2 s T _ c (i : Int) = _
   rw [← Tot.eq_iff]
   unfold worth_Threads_b2
   rw [decide_eq_true (by simp; omega), cond_true, zero_q, Option.bind_some]
   refine Tot.ass_iff.2 ⟨by omega, ?_⟩
   rw [Tot.bnd_iff, hw]
   exact Tot.some_iff.2 rfl
  ·show Tot (worth_Threads_b2 s T _ c _) _
   unfold worth_Threads_b2
   rw [decide_eq_false (by simp), cond_false]
   refine Tot.map_iff.2 ?_
   have goal : Tot (worth_Threads_j1 s T c) (fun W => W.length = s.2.2.1.length ∧ ∀ i : Int, 0 ≤ i → i < (s.2.2.1.length : Int) → rd z_api_Ratio W i = q32 (fq (thrV s i))) := by
    unfold worth_Threads_j1
    refine Tot.loop (fun z => ∃ m : Nat, z.2 = (m : Int) ∧ m ≤ s.2.1.length ∧ z.1.length = s.2.2.1.length ∧ ∀ i : Int, 0 ≤ i → i < (s.2.2.1.length : Int) → rd z_api_Ratio z.1 i = q32 (fq (sumQ (thrF s i) m))) (fun z => ((s.2.1.length : Int) - z.2).toNat) (fun z hz => ?_) ⟨0, rfl, Nat.zero_le _, hcC, fun i a b => hz i a b⟩
    obtain ⟨c', m0⟩ := z
    obtain ⟨m, e, hm, hcl, hv⟩ := hz
    simp only at e hcl hv
    subst e
    show Tot (worth_Threads_b1 s T c' (m : Int)) _
    unfold worth_Threads_b1
    rcases Nat.lt_or_ge m s.2.1.length with hlt | hge
    ·have hw : IntKind.i64.wrap ((m : Int) + 1) = (m : Int) + 1 := w64 (by omega) (by omega)
     have k0 : (0 : Int) ≤ (m : Int) := by omega
     have k1 : (m : Int) < (s.2.1.length : Int) := by omega
     rw [decide_eq_true k1, cond_true]
     refine Tot.ass_iff.2 ⟨⟨k0, k1⟩, ?_⟩
     rw [Tot.bnd_iff, show rd z_api_Ticket s.2.1 (m : Int) = tk s m from rfl]
     by_cases hc : ((tk s (m : Int)).1 && ((tk s (m : Int)).2.2.2.1 == 1)) = true
     ·rw [hc, cond_true]
      obtain ⟨w, hw2⟩ : ∃ w, w = (tk s (m : Int)).2.2.2.2.1 := ⟨_, rfl⟩
      rw [Bool.and_eq_true, beq_iff_eq] at hc
      have hf : ∀ i, ((tk s (m : Int)).1 && fundsT i (tk s (m : Int))) = true ↔ w = i := fun i => by
       unfold fundsT
       rw [hc.1, hc.2, ← hw2]
       simp
      have hwt := funds_thr h k0 k1 ((hf w).2 rfl)
      have w0 := hwt.1
      have w1 := hwt.2.1
      rw [← hw2]
      obtain ⟨v0, vz⟩ := (thrF_WB h w (n := m) (by omega)).ok h (by omega)
      obtain ⟨t0, tz⟩ := (tick_WB h k0 k1).ok h (by omega)
      have ha := ratio_Add_fq v0 t0 (vz.mono (by omega)) (tz.mono (by omega))
      refine Tot.ass_iff.2 ⟨by omega, ?_⟩
      refine Tot.ass_iff.2 ⟨by omega, ?_⟩
      rw [hv w w0 w1, hT _ k0 k1, ha, Option.bind_some, Tot.bnd_iff]
      unfold worth_Threads_j3
      rw [hw]
      refine Tot.some_iff.2 (Nx.inl_iff.2 ⟨⟨m + 1, by simp, hlt, by rw [wr_length, hcl], fun i i0 i1 => ?_⟩, by simp only; omega⟩)
      simp only
      rw [rd_wr w0 (by omega) i0]
      show _ = q32 (fq (sumQ (thrF s i) m + thrF s i (m : Int)))
      unfold thrF
      by_cases hi : i = w
      ·rw [if_pos hi, hi, if_pos ((hf w).2 rfl)]
      ·rw [if_neg hi, if_neg fun hh => hi ((hf i).1 hh).symm, Rat.add_zero, hv i i0 i1]
       rfl
     ·have hcf : ((tk s (m : Int)).1 && ((tk s (m : Int)).2.2.2.1 == 1)) = false := by rw [Bool.not_eq_true] at hc; exact hc
      rw [hcf, cond_false]
      unfold worth_Threads_j3
      rw [hw]
      refine Tot.some_iff.2 (Nx.inl_iff.2 ⟨⟨m + 1, by simp, hlt, hcl, fun i i0 i1 => ?_⟩, by simp only; omega⟩)
      have hz0 : thrF s i (m : Int) = 0 := by
       unfold thrF
       refine if_neg fun hh => hc ?_
       unfold fundsT at hh
       simp only [Bool.and_eq_true] at hh ⊢
       exact ⟨hh.1, hh.2.1⟩
      show _ = q32 (fq (sumQ (thrF s i) m + thrF s i (m : Int)))
      rw [hz0, Rat.add_zero]
      exact hv i i0 i1
    ·obtain rfl : m = s.2.1.length := by omega
     rw [decide_eq_false (Int.lt_irrefl _), cond_false]
     unfold worth_Threads_j2
     exact Tot.map_iff.2 (Tot.some_iff.2 (Nx.inr_iff.2 ⟨hcl, fun i i0 i1 => by rw [hv i i0 i1, thrV_F]⟩))
   exact goal.mono fun r hr => ⟨r, rfl, hr⟩
 obtain ⟨W, hW, h1, h2⟩ := tot
 exact ⟨W, hW, h1, h2⟩
def carF (s : D_api_State) (x i : Int) : Rat := if x ∈ tl s i then thrV s i else 0
def carV (s : D_api_State) (x : Int) : Rat := sumQ (carF s x) s.2.2.1.length
theorem carF_WB {s : D_api_State} (h : FineP s) (x : Int) (n : Nat) (hn : n ≤ s.2.2.1.length) : WB s 3072 (sumQ (carF s x) n) := by
 have := h.thr_len
 refine (WB.sum (m := 96) fun k k0 k1 => ?_).mono (by omega)
 unfold carF
 split
 ·exact thr_WB h k
 ·exact WB.zero
theorem tl_nodup {s : D_api_State} (h : FineP s) (i : Int) : (tl s i).Nodup := by
 by_cases hi : ThrP s i
 rotate_left
 ·unfold tl; rw [if_neg hi]; exact List.nodup_nil
 refine tl_ind h.chn (C := fun i => (tl s i).Nodup) (fun i hi ih => ?_) hi
 rw [tl_eq h.chn hi]
 split
 ·simp
 ·rename_i hn
  obtain ⟨h1, h2⟩ := ih hn
  refine List.nodup_cons.2 ⟨fun hc => ?_, h2⟩
  have hr : RR s.2.2.1.length (thrArrows s) i (nxt s i) := h.rr.2 ⟨hi, h1, rfl⟩
  refine h.thrRing ⟨i, hi.1, hi.2.1, ?_⟩
  rcases (tc_tl h h1).1 hc with e | e
  ·exact .single (by rw [← e] at hr; exact hr)
  ·exact .trans (.single hr) e
theorem carry_All_eq {s : D_api_State} (h : FineP s) : ∃ A, carry_All s = some A ∧ A.length = s.2.2.1.length ∧ ∀ i : Int, 0 ≤ i → i < (s.2.2.1.length : Int) → rd z_api_Ratio A i = q32 (fq (carV s i)) := by
 have hn := h.thr_len
 obtain ⟨W, hW, hWl, hWv⟩ := worth_Threads_eq h
 have tot : Tot (carry_All s) (fun A => A.length = s.2.2.1.length ∧ ∀ i : Int, 0 ≤ i → i < (s.2.2.1.length : Int) → rd z_api_Ratio A i = q32 (fq (carV s i))) := by
  unfold carry_All
  rw [hW, Option.bind_some]
  refine Tot.ass_iff.2 ⟨⟨by omega, by omega, by unfold lim; omega⟩, ?_⟩
  rw [Tot.bnd_iff]
  refine fill_loop (n := s.2.2.1.length) (by omega) (fun i c hi hcC => ?_) (fun c hcC hz => ?_) (by simp [hWl])
  ·have hw : IntKind.i64.wrap ((i : Int) + 1) = (i : Int) + 1 := w64 (by omega) (by omega)
   show carry_All_b3 s W _ c (i : Int) = _
   rw [← Tot.eq_iff]
   unfold carry_All_b3
   rw [decide_eq_true (by simp; omega), cond_true, zero_q, Option.bind_some]
   refine Tot.ass_iff.2 ⟨by omega, ?_⟩
   rw [Tot.bnd_iff, hw]
   exact Tot.some_iff.2 rfl
  ·show Tot (carry_All_b3 s W _ c _) _
   unfold carry_All_b3
   rw [decide_eq_false (by simp [hWl]), cond_false]
   refine Tot.map_iff.2 ?_
   have goal : Tot (carry_All_j1 s W c) (fun A => A.length = s.2.2.1.length ∧ ∀ i : Int, 0 ≤ i → i < (s.2.2.1.length : Int) → rd z_api_Ratio A i = q32 (fq (carV s i))) := by
    unfold carry_All_j1
    refine Tot.loop (fun z => ∃ m : Nat, z.2 = (m : Int) ∧ m ≤ s.2.2.1.length ∧ z.1.length = s.2.2.1.length ∧ ∀ i : Int, 0 ≤ i → i < (s.2.2.1.length : Int) → rd z_api_Ratio z.1 i = q32 (fq (sumQ (carF s i) m))) (fun z => ((s.2.2.1.length : Int) - z.2).toNat) (fun z hz => ?_) ⟨0, rfl, Nat.zero_le _, hcC, fun i a b => hz i a b⟩
    obtain ⟨c', m0⟩ := z
    obtain ⟨m, e, hm, hcl, hv⟩ := hz
    simp only at e hcl hv
    subst e
    show Tot (carry_All_b1 s W c' (m : Int)) _
    unfold carry_All_b1
    rw [hWl]
    rcases Nat.lt_or_ge m s.2.2.1.length with hlt | hge
    ·have hw : IntKind.i64.wrap ((m : Int) + 1) = (m : Int) + 1 := w64 (by omega) (by omega)
     have k0 : (0 : Int) ≤ (m : Int) := by omega
     have k1 : (m : Int) < (s.2.2.1.length : Int) := by omega
     rw [decide_eq_true k1, cond_true, chain_Tail_eq h.chn, Option.bind_some]
     have hLl := tl_len h.chn (m : Int)
     have hLn := tl_nodup h (m : Int)
     have hLt : ∀ k ∈ tl s (m : Int), ThrP s k := fun k hk => (mem_tl_thr h.chn hk).2
     have hsplit : ∀ x : Int, sumQ (carF s x) (m + 1) = sumQ (carF s x) m + (if x ∈ tl s (m : Int) then thrV s m else 0) := fun x => rfl
     generalize tl s (m : Int) = L at hLl hLn hLt hsplit ⊢
     refine Tot.loop (fun z => ∃ j : Nat, z.2 = (j : Int) ∧ j ≤ L.length ∧ z.1.length = s.2.2.1.length ∧ ∀ i : Int, 0 ≤ i → i < (s.2.2.1.length : Int) → rd z_api_Ratio z.1 i = q32 (fq (sumQ (carF s i) m + (if i ∈ L.take j then thrV s m else 0)))) (fun z => ((L.length : Int) - z.2).toNat) (fun z hz => ?_) ⟨0, rfl, Nat.zero_le _, hcl, fun i a b => by rw [hv i a b]; simp [Rat.add_zero]⟩
     obtain ⟨d, j0⟩ := z
     obtain ⟨j, e, hj, hdl, hd⟩ := hz
     simp only at e hdl hd
     subst e
     show Tot (carry_All_b2 W (m : Int) L d (j : Int)) _
     unfold carry_All_b2
     rcases Nat.lt_or_ge j L.length with hjl | hjg
     ·have hwj : IntKind.i64.wrap ((j : Int) + 1) = (j : Int) + 1 := w64 (by omega) (by omega)
      obtain ⟨w, hw2⟩ : ∃ w, w = L[j] := ⟨_, rfl⟩
      have hwt : ThrP s w := hLt w (by rw [hw2]; exact List.getElem_mem hjl)
      have w0 := hwt.1
      have w1 := hwt.2.1
      have hnot : w ∉ L.take j := fun hc => by
       obtain ⟨a, ha, he⟩ := List.getElem_of_mem hc
       rw [List.length_take] at ha
       rw [List.getElem_take, hw2] at he
       have := nodup_inj hLn (by omega) hjl he
       omega
      obtain ⟨v0, vz⟩ := (carF_WB h w m (by omega)).ok h (by omega)
      obtain ⟨t0, tz⟩ := (thr_WB h (m : Int)).ok h (by omega)
      have ha := ratio_Add_fq v0 t0 (vz.mono (by omega)) (tz.mono (by omega))
      rw [decide_eq_true (show (j : Int) < (L.length : Int) by omega), cond_true]
      refine Tot.ass_iff.2 ⟨by omega, ?_⟩
      rw [Tot.bnd_iff, rd_get hjl, ← hw2]
      refine Tot.ass_iff.2 ⟨by omega, ?_⟩
      refine Tot.ass_iff.2 ⟨by omega, ?_⟩
      rw [hd w w0 w1, if_neg hnot, Rat.add_zero, hWv _ k0 k1, ha, Option.bind_some, Tot.bnd_iff, hwj]
      refine Tot.some_iff.2 (Nx.inl_iff.2 ⟨⟨j + 1, by simp, hjl, by rw [wr_length, hdl], fun i i0 i1 => ?_⟩, by simp only; omega⟩)
      simp only
      rw [rd_wr w0 (by omega) i0, List.take_succ_eq_append_getElem hjl, ← hw2]
      by_cases hi : i = w
      ·rw [if_pos hi, hi, if_pos (by simp)]
      ·have : (i ∈ L.take j ++ [w]) = (i ∈ L.take j) := by simp [hi]
       rw [if_neg hi, hd i i0 i1]
       simp only [this]
     ·obtain rfl : j = L.length := by omega
      rw [decide_eq_false (Int.lt_irrefl _), cond_false]
      unfold carry_All_j4 carry_All_j3
      rw [hw]
      refine Tot.map_iff.2 (Tot.some_iff.2 (Nx.inr_iff.2 (Nx.inl_iff.2 ⟨⟨m + 1, by simp, hlt, hdl, fun i i0 i1 => ?_⟩, by simp only; omega⟩)))
      rw [hsplit i]
      have := hd i i0 i1
      rwa [List.take_length] at this
    ·obtain rfl : m = s.2.2.1.length := by omega
     rw [decide_eq_false (Int.lt_irrefl _), cond_false]
     unfold carry_All_j2
     exact Tot.map_iff.2 (Tot.some_iff.2 (Nx.inr_iff.2 ⟨hcl, hv⟩))
   exact goal.mono fun r hr => ⟨r, rfl, hr⟩
 obtain ⟨A, hA, h1, h2⟩ := tot
 exact ⟨A, hA, h1, h2⟩
theorem foldl_from {f : Int → Rat} : ∀ {l : List Int} {b : Rat}, l.foldl (fun a k => a + f k) b = b + sumL f l
 | [], b => by simp [sumL, Rat.add_zero]
 | k :: l, b => by
  unfold sumL
  rw [List.foldl_cons, List.foldl_cons, foldl_from, foldl_from (b := 0 + f k)]
  grind
theorem sum16_from {l : List Int} {f : Int → Rat} {step : D_r04_Q × Int → Option ((D_r04_Q × Int) ⊕ D_r04_Q)} {b0 : Rat} (hb0 : 0 ≤ b0 ∧ S16 200 (fq b0)) (hl : l.length ≤ 1000) (hf : ∀ k ∈ l, 0 ≤ f k ∧ S16 200 (fq (f k)))
  (h1 : ∀ (i : Nat) (hi : i < l.length) (b : Rat), step (q16 (fq b), (i : Int)) = (r04_Add (q16 (fq b)) (q16 (fq (f l[i])))).bind fun y => some (.inl (y, (i : Int) + 1)))
  (h2 : ∀ b : Rat, step (q16 (fq b), (l.length : Int)) = some (.inr (q16 (fq b)))) : loopM step (q16 (fq b0), 0) = some (q16 (fq (b0 + sumL f l))) := by
 rw [← foldl_from, ← Tot.eq_iff]
 refine loop_fold' (fun b => q16 (fq b)) l step (fun a k => a + f k) (fun i b => 0 ≤ b ∧ S16 (201 * i + 200) (fq b)) ⟨hb0.1, hb0.2⟩ (fun i hi b hb => ?_) (fun hb => ?_)
 ·obtain ⟨f0, fs⟩ := hf l[i] (List.getElem_mem hi)
  have g : 0 < Nat.gcd ((fq b).1 * (fq (f l[i])).2 + (fq (f l[i])).1 * (fq b).2) ((fq b).2 * (fq (f l[i])).2) := Nat.gcd_pos_of_pos_right _ (Nat.mul_pos (fq_lo b hb.1).1 (fq_lo _ f0).1)
  have ha := r04_Add_eq (hb.2.mono (show 201 * i + 200 ≤ 400000 by omega)) (fs.mono (show 200 ≤ 400000 by omega)) (by omega) g
  rw [fq_add hb.1 f0] at ha
  refine ⟨by rw [h1 i hi b, ha]; rfl, by grind, ?_⟩
  have := add_size hb.2 fs
  rw [fq_add hb.1 f0] at this
  exact this.mono (by omega)
 ·rw [h2]
  exact Tot.some_iff.2 ⟨_, rfl, rfl⟩
theorem carV_behind {s : D_api_State} (h : FineP s) {x : Int} (x0 : 0 ≤ x) (x1 : x < (s.2.2.1.length : Int)) : carV s x = thrV s x + sumL (thrV s) (behindL s x) := by
 unfold behindL
 rw [sumL_build]
 unfold carV
 rw [sumQ_one (f := fun k => if ThrP s k ∧ (decide (k ≠ x) && decide (x ∈ tl s k)) = true then thrV s k else 0) (g := carF s x) x0 x1 fun j hj => by
  unfold carF
  refine if_iff ⟨fun hm => ⟨(mem_tl_thr h.chn hm).1, ?_⟩, fun hm => ?_⟩
  ·rw [Bool.and_eq_true, decide_eq_true_iff, decide_eq_true_iff]; exact ⟨hj, hm⟩
  ·have := hm.2
   rw [Bool.and_eq_true, decide_eq_true_iff, decide_eq_true_iff] at this
   exact this.2]
 have e1 : (if ThrP s x ∧ (decide (x ≠ x) && decide (x ∈ tl s x)) = true then thrV s x else 0) = 0 := if_neg fun hh => by
  have := hh.2
  rw [Bool.and_eq_true, decide_eq_true_iff] at this
  exact this.1 rfl
 have e2 : carF s x x = thrV s x := by
  unfold carF
  by_cases ht : ThrP s x
  ·refine if_pos ?_
   rw [tl_eq h.chn ht]
   split <;> simp
  ·rw [thr_zero h ht]; split <;> rfl
 rw [e2]
 simp only [e1]
 grind
theorem r19_At_eq {s : D_api_State} (h : FineP s) {x : Int} (x0 : 0 ≤ x) (x1 : x < (s.2.2.1.length : Int)) : r19_At s x = some (q16 (fq (carV s x))) := by
 have hn := h.thr_len
 unfold r19_At
 simp only [bnd]
 rw [r18_Thread_eq h, Option.bind_some, r16_Behind_eq h, Option.bind_some]
 have eb : refBehind s x false = behindL s x := rfl
 have hlen : (behindL s x).length ≤ s.2.2.1.length := by
  unfold behindL
  have := buildL_len (f := fun k => if ThrP s k ∧ (decide (k ≠ x) && decide (x ∈ tl s k)) = true then [k] else []) (c := 1) (fun k => by split <;> simp) (n := s.2.2.1.length)
  omega
 obtain ⟨a, b⟩ := (thr_WB h x).ok h (by omega)
 rw [eb, carV_behind h x0 x1, sum16_from (l := behindL s x) (f := thrV s) ⟨a, b.mono (by omega)⟩ (by omega) (fun k hk => ?_) (fun j hi b => ?_) (fun b => ?_)]
 ·obtain ⟨a, b⟩ := (thr_WB h k).ok h (by omega)
  exact ⟨a, b.mono (by omega)⟩
 ·have hw : IntKind.i64.wrap ((j : Int) + 1) = (j : Int) + 1 := w64 (by omega) (by omega)
  show r19_At_b1 s (behindL s x) (q16 (fq b)) (j : Int) = _
  unfold r19_At_b1
  rw [decide_eq_true (show (j : Int) < ((behindL s x).length : Int) by omega), cond_true, rd_get hi, r18_Thread_eq h, Option.bind_some, hw, ass_of ⟨by omega, by omega⟩]
  rfl
 ·show r19_At_b1 s (behindL s x) (q16 (fq b)) _ = _
  unfold r19_At_b1
  rw [decide_eq_false (Int.lt_irrefl _), cond_false]
  rfl
theorem car_WB {s : D_api_State} (h : FineP s) (x : Int) : WB s 3072 (carV s x) := carF_WB h x _ (Nat.le_refl _)
def thA (s : D_api_State) (i : Int) : D_api_Thread := rd z_api_Thread s.2.2.1 i
def facV (t : D_api_Thread) : Rat := (t.2.2.2.1.toNat : Rat) / (t.2.2.2.2.toNat : Rat)
def weiV (s : D_api_State) (i : Int) : Rat := if (thA s i).1 = 2 then carV s i * facV (thA s i) else 0
theorem fac_ok {t : D_api_Thread} (h1 : 1 ≤ t.2.2.2.1 ∧ t.2.2.2.1 ≤ 9223372036854775807) (h2 : 1 ≤ t.2.2.2.2 ∧ t.2.2.2.2 ≤ 9223372036854775807) :
  0 ≤ facV t ∧ S16 4 (fq (facV t)) ∧ factor_Of t = some (q32 (fq (facV t))) ∧ r04_Of (IntKind.u64.wrap t.2.2.2.1) (IntKind.u64.wrap t.2.2.2.2) = some (q16 (fq (facV t))) := by
 have hpos : 0 < t.2.2.2.2.toNat := by omega
 have hu1 : IntKind.u64.wrap t.2.2.2.1 = ((t.2.2.2.1.toNat : Nat) : Int) := by rw [u64i (by omega) (by omega)]; omega
 have hu2 : IntKind.u64.wrap t.2.2.2.2 = ((t.2.2.2.2.toNat : Nat) : Int) := by rw [u64i (by omega) (by omega)]; omega
 have l1 : (d16 t.2.2.2.1.toNat).length ≤ 4 := dg_len b16 (by omega)
 have l2 : (d16 t.2.2.2.2.toNat).length ≤ 4 := dg_len b16 (by omega)
 have sl := low_size l1 l2
 have ho := ratio_Of_eq (n := t.2.2.2.1.toNat) (d := t.2.2.2.2.toNat) (by omega) (by omega)
 have hr := r04_Of_eq (a := t.2.2.2.1.toNat) (b := t.2.2.2.2.toNat) (by omega) (by omega) (Nat.gcd_pos_of_pos_right _ hpos)
 rw [if_neg (by omega)] at ho
 rw [fq_low hpos] at sl ho hr
 refine ⟨rv_nonneg (_, _) hpos, sl, ?_, by rw [hu1, hu2]; exact hr⟩
 unfold factor_Of
 simp only [bnd]
 have e : ((decide (t.2.2.2.1 < 1)) || (decide (t.2.2.2.2 < 1))) = false := by rw [Bool.or_eq_false_iff]; exact ⟨decide_eq_false (by omega), decide_eq_false (by omega)⟩
 rw [e, cond_false, hu1, hu2, ho]
 rfl
theorem fac_none {t : D_api_Thread} (h : t.2.2.2.1 < 1 ∨ t.2.2.2.2 < 1) : factor_Of t = some (q32 (fq 0)) := by
 unfold factor_Of
 simp only [bnd]
 have e : ((decide (t.2.2.2.1 < 1)) || (decide (t.2.2.2.2 < 1))) = true := by rw [Bool.or_eq_true, decide_eq_true_iff, decide_eq_true_iff]; exact h
 rw [e, cond_true, zero_q]
 rfl
theorem thA_fac {s : D_api_State} (h : FineP s) {i : Int} (i0 : 0 ≤ i) (i1 : i < (s.2.2.1.length : Int)) (h2 : (thA s i).1 = 2) : (1 ≤ (thA s i).2.2.2.1 ∧ (thA s i).2.2.2.1 ≤ 1000) ∧ (1 ≤ (thA s i).2.2.2.2 ∧ (thA s i).2.2.2.2 ≤ 1000) := by
 have ht := h.threads.1 i i0 i1
 have hq := h.q2
 unfold ThreadOk at ht
 change (if (thA s i).1 = 0 then _ else _) at ht
 rw [if_neg (by omega)] at ht
 have := ht.2.2
 change ((thA s i).2.2.2.1 = 1 ∧ (thA s i).2.2.2.2 = 1) ∨ (1 ≤ (thA s i).2.2.2.2 ∧ (thA s i).2.2.2.2 < (thA s i).2.2.2.1 ∧ (thA s i).2.2.2.1 ≤ s.2.2.2.2.2) at this
 omega
theorem wei_ok {s : D_api_State} (h : FineP s) {i : Int} (i0 : 0 ≤ i) (i1 : i < (s.2.2.1.length : Int)) : 0 ≤ weiV s i ∧ S16 44 (fq (weiV s i)) := by
 unfold weiV
 obtain ⟨a, b⟩ := (car_WB h i).ok h (by omega)
 split
 ·rename_i h2
  have hf := thA_fac h i0 i1 h2
  obtain ⟨c, d, _, _⟩ := fac_ok (t := thA s i) ⟨hf.1.1, by omega⟩ ⟨hf.2.1, by omega⟩
  refine ⟨Rat.mul_nonneg a c, ?_⟩
  have := mul_size b d
  rwa [fq_mul a c] at this
 ·exact ⟨Rat.le_refl, by rw [fq_zero]; exact S16_zero.mono (by omega)⟩
theorem r20_Weight_eq {s : D_api_State} (h : FineP s) {i : Int} (i0 : 0 ≤ i) (i1 : i < (s.2.2.1.length : Int)) : r20_Weight s i = some (q16 (fq (weiV s i))) := by
 unfold r20_Weight
 simp only [bnd]
 rw [ass_of ⟨i0, i1⟩, show rd z_api_Thread s.2.2.1 i = thA s i from rfl]
 unfold weiV
 by_cases h2 : (thA s i).1 = 2
 ·have hf := thA_fac h i0 i1 h2
  obtain ⟨c, d, _, e⟩ := fac_ok (t := thA s i) ⟨hf.1.1, by omega⟩ ⟨hf.2.1, by omega⟩
  obtain ⟨a, b⟩ := (car_WB h i).ok h (by omega)
  have hm := r04_Mul_eq b (d.mono (show 4 ≤ 40 by omega)) (by omega) (Nat.gcd_pos_of_pos_right _ (Nat.mul_pos (fq_lo _ a).1 (fq_lo _ c).1))
  rw [fq_mul a c] at hm
  rw [show ((thA s i).1 != 2) = false from by rw [h2]; rfl, cond_false, r19_At_eq h i0 i1, Option.bind_some, e, Option.bind_some, hm, if_pos h2]
  rfl
 ·rw [show ((thA s i).1 != 2) = true from bne_iff_ne.2 h2, cond_true, r04_Int0, if_neg h2]
  rfl
theorem factor_Weights_eq {s : D_api_State} (h : FineP s) : ∃ L, factor_Weights s = some L ∧ L.length = s.2.2.1.length ∧ ∀ i : Int, 0 ≤ i → i < (s.2.2.1.length : Int) → rd z_api_Ratio L i = q32 (fq (weiV s i)) := by
 have hn := h.thr_len
 obtain ⟨A, hA, hAl, hAv⟩ := carry_All_eq h
 have tot : Tot (factor_Weights s) (fun L => L.length = s.2.2.1.length ∧ ∀ i : Int, 0 ≤ i → i < (s.2.2.1.length : Int) → rd z_api_Ratio L i = q32 (fq (weiV s i))) := by
  unfold factor_Weights
  rw [hA, Option.bind_some]
  refine Tot.loop (fun z => ∃ m : Nat, z.2 = (m : Int) ∧ m ≤ s.2.2.1.length ∧ z.1.length = s.2.2.1.length ∧ ∀ i : Int, 0 ≤ i → i < (s.2.2.1.length : Int) → rd z_api_Ratio z.1 i = q32 (fq (if i < (m : Int) then weiV s i else carV s i))) (fun z => ((s.2.2.1.length : Int) - z.2).toNat) (fun z hz => ?_) ⟨0, rfl, Nat.zero_le _, hAl, fun i a b => by rw [hAv i a b, if_neg (by omega)]⟩
  obtain ⟨c, m0⟩ := z
  obtain ⟨m, e, hm, hcl, hv⟩ := hz
  simp only at e hcl hv
  subst e
  show Tot (factor_Weights_b1 s c (m : Int)) _
  unfold factor_Weights_b1
  rcases Nat.lt_or_ge m s.2.2.1.length with hlt | hge
  ·have hw : IntKind.i64.wrap ((m : Int) + 1) = (m : Int) + 1 := w64 (by omega) (by omega)
   have k0 : (0 : Int) ≤ (m : Int) := by omega
   have k1 : (m : Int) < (s.2.2.1.length : Int) := by omega
   have fin : ∀ y, y = weiV s (m : Int) → Tot (factor_Weights_j2 (m : Int) (wr c (m : Int) (q32 (fq y)))) (Nx (fun z : List D_api_Ratio × Int => ∃ m : Nat, z.2 = (m : Int) ∧ m ≤ s.2.2.1.length ∧ z.1.length = s.2.2.1.length ∧ ∀ i : Int, 0 ≤ i → i < (s.2.2.1.length : Int) → rd z_api_Ratio z.1 i = q32 (fq (if i < (m : Int) then weiV s i else carV s i))) (fun z => ((s.2.2.1.length : Int) - z.2).toNat) ((s.2.2.1.length : Int) - (m : Int)).toNat (fun L => L.length = s.2.2.1.length ∧ ∀ i : Int, 0 ≤ i → i < (s.2.2.1.length : Int) → rd z_api_Ratio L i = q32 (fq (weiV s i)))) := fun y hy => by
    unfold factor_Weights_j2
    rw [hw]
    refine Tot.some_iff.2 (Nx.inl_iff.2 ⟨⟨m + 1, by simp, hlt, by rw [wr_length, hcl], fun i i0 i1 => ?_⟩, by simp only; omega⟩)
    simp only
    rw [rd_wr k0 (by omega) i0]
    by_cases hi : i = (m : Int)
    ·rw [if_pos hi, hi, if_pos (by omega), hy]
    ·rw [if_neg hi, hv i i0 i1]
     congr 2
     exact if_iff (by omega)
   rw [decide_eq_true k1, cond_true]
   refine Tot.ass_iff.2 ⟨⟨k0, k1⟩, ?_⟩
   rw [Tot.bnd_iff, show rd z_api_Thread s.2.2.1 (m : Int) = thA s m from rfl]
   by_cases h2 : (thA s (m : Int)).1 = 2
   ·have hf := thA_fac h k0 k1 h2
    obtain ⟨c0, d, fo, _⟩ := fac_ok (t := thA s (m : Int)) ⟨hf.1.1, by omega⟩ ⟨hf.2.1, by omega⟩
    obtain ⟨a, b⟩ := (car_WB h (m : Int)).ok h (by omega)
    have hmul := ratio_Mul_fq a c0 (b.mono (by omega)) (d.mono (by omega))
    rw [show ((thA s (m : Int)).1 == 2) = true from beq_iff_eq.2 h2, cond_true]
    refine Tot.ass_iff.2 ⟨by omega, ?_⟩
    rw [fo, Option.bind_some, hv _ k0 k1, if_neg (by omega), hmul, Option.bind_some, Tot.bnd_iff]
    exact fin _ (by unfold weiV; rw [if_pos h2])
   ·rw [show ((thA s (m : Int)).1 == 2) = false from beq_eq_false_iff_ne.2 h2, cond_false, zero_q, Option.bind_some]
    refine Tot.ass_iff.2 ⟨by omega, ?_⟩
    rw [Tot.bnd_iff]
    exact fin _ (by unfold weiV; rw [if_neg h2])
  ·obtain rfl : m = s.2.2.1.length := by omega
   rw [decide_eq_false (Int.lt_irrefl _), cond_false]
   unfold factor_Weights_j1
   exact Tot.map_iff.2 (Tot.some_iff.2 (Nx.inr_iff.2 ⟨hcl, fun i i0 i1 => by rw [hv i i0 i1, if_pos i1]⟩))
 obtain ⟨L, hL, h1, h2⟩ := tot
 exact ⟨L, hL, h1, h2⟩
theorem r18_Same_true {A : List D_api_Ratio} {B : List D_r04_Q} (v : Int → Rat) (hl : A.length = B.length) (hn : A.length ≤ 1000) (hv : ∀ i : Int, 0 ≤ i → i < (A.length : Int) → S16 100000 (fq (v i)) ∧ rd z_api_Ratio A i = q32 (fq (v i)) ∧ rd z_r04_Q B i = q16 (fq (v i))) : r18_Same A B = some true := by
 rw [← Tot.eq_iff]
 unfold r18_Same
 rw [show ((A.length : Int) != (B.length : Int)) = false from by rw [hl]; exact bne_self_eq_false _, cond_false]
 refine Tot.loop (fun x => ∃ i : Nat, x = (i : Int) ∧ i ≤ A.length) (fun x => ((A.length : Int) - x).toNat) (fun x hx => ?_) ⟨0, rfl, Nat.zero_le _⟩
 obtain ⟨i, rfl, hi⟩ := hx
 unfold r18_Same_b1
 rcases Nat.lt_or_ge i A.length with h | h
 ·have hw : IntKind.i64.wrap ((i : Int) + 1) = (i : Int) + 1 := w64 (by omega) (by omega)
  obtain ⟨a, b, c⟩ := hv i (by omega) (by omega)
  rw [decide_eq_true (show (i : Int) < (A.length : Int) by omega), cond_true]
  refine Tot.ass_iff.2 ⟨by omega, Tot.ass_iff.2 ⟨by omega, ?_⟩⟩
  rw [b, c, r04_Same_refl a, Option.bind_some, Bool.not_true, cond_false, Tot.bnd_iff, hw]
  exact Tot.some_iff.2 (Nx.inl_iff.2 ⟨⟨i + 1, by simp, by omega⟩, by omega⟩)
 ·rw [decide_eq_false (show ¬ (i : Int) < (A.length : Int) by omega), cond_false]
  unfold r18_Same_j1
  exact Tot.map_iff.2 (Tot.some_iff.2 (Nx.inr_iff.2 rfl))
theorem i64_wf {x : Int} (h : Wf (.int .i64) x) : -9223372036854775808 ≤ x ∧ x ≤ 9223372036854775807 := by
 simp only [Wf, Lit.wf, Bool.and_eq_true, decide_eq_true_eq] at h
 have e1 : IntKind.i64.min = -9223372036854775808 := rfl
 have e2 : IntKind.i64.max = 9223372036854775807 := rfl
 rw [e1, e2] at h
 exact h
theorem used_same (q u : Int) : r20_Used q u = factor_Used q u := rfl
theorem l20_alive_eq : l20_alive = some true := by
 have f1 : factor_Used (10 : Int) (3 : Int) = some (10, 3, 0) := rfl
 have f2 : factor_Used (10 : Int) (11 : Int) = some (0, 0, 6) := rfl
 obtain ⟨a, b, c, d⟩ := fac_ok (t := ((0 : Int), (0 : Int), (0 : Int), (10 : Int), (3 : Int))) (by decide) (by decide)
 have d' : r04_Of (10 : Int) (3 : Int) = some (q16 (fq (facV ((0 : Int), (0 : Int), (0 : Int), (10 : Int), (3 : Int))))) := d
 have s1 := r04_Same_refl (b.mono (show 4 ≤ 100000 by omega))
 have g := fac_none (t := ((0 : Int), (0 : Int), (0 : Int), (0 : Int), (0 : Int))) (by decide)
 have s2 : r04_Same (q32 (fq 0)) (q16 (fq 0)) = some true := r04_Same_refl (by rw [fq_zero]; exact S16_zero.mono (by omega))
 unfold l20_alive
 rw [f1, Option.bind_some, f2, Option.bind_some]
 show ((factor_Of ((0 : Int), (0 : Int), (0 : Int), (10 : Int), (3 : Int))).bind fun y3 => (r04_Of (10 : Int) (3 : Int)).bind fun y4 => (r04_Same y3 y4).bind fun y5 =>
  (bif true && y5 then factor_Of ((0 : Int), (0 : Int), (0 : Int), (0 : Int), (0 : Int)) else some (([] : List Int), ([] : List Int))).bind fun y6 =>
  (bif true && y5 then r04_Int (0 : Int) else some (([] : List Int), ([] : List Int))).bind fun y7 =>
  (bif true && y5 then r04_Same y6 y7 else some false).bind fun y8 => bnd ((true && y5) && y8) fun x9 => some x9) = some true
 rw [c, Option.bind_some, d', Option.bind_some, s1, Option.bind_some, Bool.and_self, cond_true, g, Option.bind_some, cond_true, r04_Int0, Option.bind_some, cond_true, s2, Option.bind_some]
 rfl
theorem gate3 {α : Type} {s0 : Bool} {R1 R2 : Option Bool} {A B : Option α} {v : Option α}
  (h : s0 = true → ∃ r1, R1 = some r1 ∧ (r1 = true → ∃ r2, R2 = some r2 ∧ (r2 = true → B = v))) (hA : A = v) :
  ((some s0).bind fun y1 => (bif !(!y1) then R1 else some false).bind fun y2 => (bif !((!y1) || (!y2)) then R2 else some false).bind fun y3 => bif ((!y1) || (!y2)) || (!y3) then A else B) = v := by
 cases s0
 ·exact hA
 obtain ⟨r1, e1, h1⟩ := h rfl
 subst e1
 cases r1
 ·exact hA
 obtain ⟨r2, e2, h2⟩ := h1 rfl
 subst e2
 cases r2
 ·exact hA
 exact h2 rfl
theorem gate_state {α : Type} {s : D_api_State} {A B : Option α} {v : Option α} (hA : A = v) (hB : SmallP s → FineP s → B = v) :
  ((r14_Small s).bind fun y1 => (bif !(!y1) then r17_Light s else some false).bind fun y2 => (bif !((!y1) || (!y2)) then r14_Fine s else some false).bind fun y3 => bif ((!y1) || (!y2)) || (!y3) then A else B) = v := by
 classical
 rw [(r14_Small_tot s).dec]
 refine gate3 (fun hs => ?_) hA
 have hs' : SmallP s := of_decide_eq_true hs
 obtain ⟨h1, h2, h3, h4, h5⟩ := id hs'
 obtain ⟨bl, hbl⟩ := r17_Light_tot s (by omega)
 exact ⟨bl, hbl, fun _ => ⟨_, (r14_Fine_tot s hs').dec, fun hf => hB hs' (of_decide_eq_true hf)⟩⟩
theorem FactorTells_rest {s : D_api_State} (h : FineP s) : loopM (fun x : (List D_r04_Q) × Int => l20_FactorTells_b1 s x.1 x.2) (([] : List D_r04_Q), (0 : Int)) = some true := by
 have hn := h.thr_len
 obtain ⟨L, hL, hLl, hLv⟩ := factor_Weights_eq h
 rw [← Tot.eq_iff]
 refine Tot.loop (fun z => ∃ m : Nat, z.2 = (m : Int) ∧ m ≤ s.2.2.1.length ∧ z.1.length = m ∧ ∀ i : Int, 0 ≤ i → i < (m : Int) → rd z_r04_Q z.1 i = q16 (fq (weiV s i))) (fun z => ((s.2.2.1.length : Int) - z.2).toNat) (fun z hz => ?_) ⟨0, rfl, Nat.zero_le _, rfl, fun i a b => by omega⟩
 obtain ⟨c, m0⟩ := z
 obtain ⟨m, e, hm, hcl, hv⟩ := hz
 simp only at e hcl hv
 subst e
 show Tot (l20_FactorTells_b1 s c (m : Int)) _
 unfold l20_FactorTells_b1
 rcases Nat.lt_or_ge m s.2.2.1.length with hlt | hge
 ·have hw : IntKind.i64.wrap ((m : Int) + 1) = (m : Int) + 1 := w64 (by omega) (by omega)
  rw [decide_eq_true (show (m : Int) < (s.2.2.1.length : Int) by omega), cond_true, r20_Weight_eq h (by omega) (by omega), Option.bind_some]
  refine Tot.ass_iff.2 ⟨by simp only [List.length_singleton, hcl]; unfold limQ; omega, ?_⟩
  rw [Tot.bnd_iff, hw]
  refine Tot.some_iff.2 (Nx.inl_iff.2 ⟨⟨m + 1, by simp, hlt, by simp [hcl], fun i i0 i1 => ?_⟩, by simp only; omega⟩)
  simp only
  obtain ⟨j, rfl⟩ : ∃ j : Nat, i = (j : Int) := ⟨i.toNat, by omega⟩
  rw [rd_eq j rfl (by simp [hcl]; omega)]
  by_cases hj : j = m
  ·subst hj
   rw [List.getElem_append_right (by omega)]
   simp [hcl]
  ·rw [List.getElem_append_left (by omega), ← hv _ i0 (by omega), rd_eq j rfl (by omega)]
 ·obtain rfl : m = s.2.2.1.length := by omega
  rw [decide_eq_false (Int.lt_irrefl _), cond_false]
  unfold l20_FactorTells_j2
  have hs := r18_Same_true (A := L) (B := c) (weiV s) (by omega) (by omega) fun i i0 i1 => by
   rw [hLl] at i1
   exact ⟨(wei_ok h i0 i1).2.mono (by omega), hLv i i0 i1, hv i i0 i1⟩
  rw [hL, Option.bind_some, hs, Option.bind_some, cond_true, l20_alive_eq]
  exact Tot.map_iff.2 (Tot.some_iff.2 (Nx.inr_iff.2 rfl))
theorem FactorTells_eq (s : D_api_State) (t : D_api_Thread) (q u : Int) (hw0 : Wf T_api_State s) (hw1 : Wf T_api_Thread t) (hw2 : Wf (.int .i64) q) (hw3 : Wf (.int .i64) u) : l20_FactorTells s t q u = some true := by
 have hQ := i64_wf hw1.2.2.2.1
 have hU := i64_wf hw1.2.2.2.2
 obtain ⟨r, hr⟩ : ∃ r, factor_Used q u = some r := by
  unfold factor_Used
  cases (decide (u < 1) || decide (u > q)) with
  | true => exact ⟨_, rfl⟩
  | false => cases (u == q) with
   | true => exact ⟨_, rfl⟩
   | false => exact ⟨_, rfl⟩
 have last : ∀ v : Rat, 0 ≤ v → S16 100000 (fq v) → factor_Of t = some (q32 (fq v)) → l20_FactorTells_j1 s t (q16 (fq v)) = some true := fun v v0 vs hf => by
  unfold l20_FactorTells_j1
  rw [hf, Option.bind_some, r04_Same_refl vs, Option.bind_some, Bool.not_true, cond_false]
  exact gate_state (by rw [l20_alive_eq]; rfl) fun _ h => FactorTells_rest h
 unfold l20_FactorTells
 rw [used_same, hr, Option.bind_some, Option.bind_some]
 simp only [bne_self_eq_false, Bool.or_self, cond_false]
 rw [r04_Int0, Option.bind_some]
 by_cases hp : t.2.2.2.1 > 0 ∧ t.2.2.2.2 > 0
 ·obtain ⟨a, b, c, d⟩ := fac_ok (t := t) ⟨by omega, hQ.2⟩ ⟨by omega, hU.2⟩
  rw [decide_eq_true hp.1, decide_eq_true hp.2, Bool.and_self, cond_true, d, Option.bind_some]
  exact last _ a (b.mono (by omega)) c
 ·have e : ((decide (t.2.2.2.1 > 0)) && (decide (t.2.2.2.2 > 0))) = false := by rw [Bool.eq_false_iff, ne_eq, Bool.and_eq_true, decide_eq_true_iff, decide_eq_true_iff]; exact hp
  rw [e, cond_false]
  exact last 0 Rat.le_refl (by rw [fq_zero]; exact S16_zero.mono (by omega)) (fac_none (by omega))
end Go.Tom
