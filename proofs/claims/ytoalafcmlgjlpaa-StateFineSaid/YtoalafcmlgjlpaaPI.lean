/- Arrows: the program's order is that one, the document's too. -/
import Derived.Test.YtoalafcmlgjlpaaPH
import Derived.Test.YtoalafcmlgjlpaaPInts
set_option linter.unusedVariables false
set_option linter.unusedSimpArgs false
namespace Go.Tom
open Go

/-- The counts of arrows that come in, while out is told. c: how many were taken off at most. -/
structure InOk (m : Int) (l : List (Int × Int)) (out : List Int) (c : Int) (inn : List Int) : Prop where
  len : (inn.length : Int) = m
  told : ∀ k : Int, k ∈ out → 0 ≤ k → k < m → rd 0 inn k < 0 ∧ -1 - c ≤ rd 0 inn k
  not : ∀ k : Int, k ∉ out → 0 ≤ k → k < m → rd 0 inn k = (deg m l out k : Int)

/-- Of the first x rows, and j of row x. -/
def degU (m : Int) (l : List (Int × Int)) (x k : Int) : Nat := l.countP fun e => valid m e && (e.2 == k && decide (e.1 < x))

theorem degU_step {m : Int} {l : List (Int × Int)} {x k : Int} : degU m l (x + 1) k = degU m l x k + (outs m l x).count k := by
  rw [count_outs]
  unfold degU
  refine countP_split fun e _ => ?_
  cases valid m e with
  | false => simp
  | true =>
    cases h1 : e.2 == k with
    | false => simp
    | true =>
      by_cases h2 : e.1 = x
      · simp [h2, Int.lt_irrefl]; omega
      · have h3 : (e.1 == x) = false := by simpa using h2
        simp only [Bool.true_and, h3, Bool.false_and, Bool.or_false, Bool.and_false, and_true]
        rw [Bool.eq_iff_iff]; simp; omega

theorem degU_all {m : Int} {l : List (Int × Int)} {k : Int} : degU m l m k = deg m l [] k := by
  unfold degU deg
  congr 1
  funext e
  cases hv : valid m e with
  | false => rfl
  | true =>
    simp only [valid, decide_eq_true_eq] at hv
    simp [hv]

theorem degU_zero {m : Int} {l : List (Int × Int)} {k : Int} : degU m l 0 k = 0 := by
  unfold degU
  rw [List.countP_eq_zero]
  intro e _ hc
  simp only [valid, Bool.and_eq_true, decide_eq_true_eq] at hc
  omega

theorem take_count {L : List Int} {j : Int} {z k : Int} (h0 : 0 ≤ j) (h1 : j < (L.length : Int)) : (L.take (j + 1).toNat).count k = (L.take j.toNat).count k + (if rd z L j = k then 1 else 0) := by
  rw [take_rd (z := z) h0 h1, List.count_append]
  congr 1
  by_cases h : rd z L j = k
  · rw [h]; simp
  · rw [if_neg h, List.count_eq_zero_of_not_mem]
    simp only [List.mem_singleton]
    exact fun hc => h hc.symm

/-- What the program tells: the order, or that there is none. -/
def ordRes : Option (List Int) → List Int × Bool
  | some o => (o, true)
  | none => ([], false)

theorem dag_Order_j1_eq {m : Int} {l : List (Int × Int)} {h : List (List Int)} (hl : l.length ≤ 10000) (m0 : 0 ≤ m) (m1 : m ≤ 4096) (hh : HeadsOk m l h) {inn : List Int} (hi : InOk m l [] 0 inn) : dag_Order_j1 h inn = some (ordRes (ordL m l m.toNat [])) := by
  obtain ⟨hlen, hat⟩ := hh
  rw [← Tot.eq_iff]
  unfold dag_Order_j1
  refine Tot.loop (fun (x : List Int × List Int) => OrdOk m l x.2 ∧ InOk m l x.2 ((x.2.length : Int) * l.length) x.1 ∧ ordL m l (m.toNat - x.2.length) x.2 = ordL m l m.toNat []) (fun x => m.toNat - x.2.length) (fun x hx => ?_) ⟨OrdOk.nil, by simpa using hi, by simp⟩
  obtain ⟨inn, out⟩ := x
  simp only at hx
  obtain ⟨ho, hin, hor⟩ := hx
  obtain ⟨hil, htold, hnot⟩ := hin
  have hle := ho.le m0
  simp only [dag_Order_b1, dag_Order_j2, cond_some, Tot.cond_iff, Tot.ass_iff, Tot.bnd_iff, Tot.some_iff, Tot.map_iff, Tot.bind_iff, Nx.inl_iff, Nx.inr_iff, decide_eq_true_eq, decide_eq_false_iff_not]
  refine ⟨fun hlt => ?_, fun hge => ?_⟩
  · refine (slices_Index_int_tot inn 0 (by omega)).mono fun k hk => ?_
    have hzero : ∀ j : Int, 0 ≤ j → j < m → (rd 0 inn j = 0 ↔ FreeP m l out j) := fun j j0 j1 => by
      rw [free_deg j0 j1]
      by_cases hj : j ∈ out
      · have := htold j hj j0 j1
        simp only [hj, not_true_eq_false, false_and, iff_false]
        omega
      · rw [hnot j hj j0 j1]
        simp [hj]
    have hk2 : m.toNat - out.length = (m.toNat - out.length - 1) + 1 := by omega
    rw [hk2] at hor
    simp only [ordL] at hor
    refine ⟨fun hneg => ?_, fun hpos => ?_⟩
    · have hz : (0 : Int) ∉ inn := by
        rcases hk with ⟨_, h⟩ | ⟨h, _⟩
        · exact h
        · omega
      have hnone : nextF m l out = none := by
        refine findU_none.2 fun j j0 j1 => ?_
        rw [decide_eq_false_iff_not]
        intro hf
        have := (hzero j j0 (by omega)).2 hf
        rw [← this] at hz
        exact hz (rd_mem j0 (by omega))
      rw [hnone] at hor
      simp only at hor
      rw [← hor]
      rfl
    · skip
      rcases hk with ⟨hk, _⟩ | ⟨k0, k1, k2, _, k3⟩
      · omega
      have hkm : k < m := by omega
      have hfk := (hzero k k0 hkm).1 k2
      have hnext : nextF m l out = some k := findU_some.2 ⟨k0, by omega, by simpa using hfk, fun j j0 j1 => by
        rw [decide_eq_false_iff_not]
        exact fun hf => k3 j j0 j1 ((hzero j j0 (by omega)).2 hf)⟩
      rw [hnext] at hor
      simp only at hor
      have hsn := ho.snoc hnext
      have hlimit : ((out.length : Int) * l.length) ≤ 4096 * 10000 := Int.mul_le_mul (by omega) (by omega) (by omega) (by omega)
      have hlimit0 : 0 ≤ ((out.length : Int) * l.length) := Int.mul_nonneg (by omega) (by omega)
      have hL : rd ([] : List Int) h k = outs m l k := hat k k0 hkm
      have hLl := outs_len (n := m) (l := l) (x := k)
      have hLr : ∀ y ∈ outs m l k, 0 ≤ y ∧ y < m := fun y hy => by have := mem_outs.1 hy; exact ⟨this.2.2.2.1, this.2.2.2.2⟩
      rw [hL]
      generalize hLdef : outs m l k = L at *
      refine ⟨⟨k0, k1⟩, by simp only [List.length_singleton]; unfold limA; omega, ⟨k0, by omega⟩, ?_⟩
      refine Tot.loop (fun (y : List Int × Int) => 0 ≤ y.2 ∧ y.2 ≤ (L.length : Int) ∧ (y.1.length : Int) = m ∧ (∀ j : Int, j ∈ out ++ [k] → 0 ≤ j → j < m → rd 0 y.1 j < 0 ∧ -1 - (out.length : Int) * l.length - y.2 ≤ rd 0 y.1 j) ∧
          (∀ j : Int, j ∉ out ++ [k] → 0 ≤ j → j < m → rd 0 y.1 j = (deg m l out j : Int) - ((L.take y.2.toNat).count j : Int))) (fun y => ((L.length : Int) - y.2).toNat) (fun y hy => ?_) ⟨by simp, by simp, by rw [wr_length]; exact hil, fun j hj j0 j1 => ?_, fun j hj j0 j1 => ?_⟩
      rotate_left
      · rw [rd_wr k0 (by omega) j0]
        split
        · omega
        · rename_i hjk
          have hjo : j ∈ out := by
            rcases List.mem_append.1 hj with h | h
            · exact h
            · exact absurd (List.mem_singleton.1 h) hjk
          have := htold j hjo j0 j1
          omega
      · have hjk : j ≠ k := fun hc => hj (by rw [hc]; simp)
        rw [rd_wr k0 (by omega) j0, if_neg hjk, hnot j (fun hc => hj (List.mem_append_left _ hc)) j0 j1]
        simp
      obtain ⟨ii, y⟩ := y
      simp only at hy
      obtain ⟨g0, g1, g2, g3, g4⟩ := hy
      have hw1 : IntKind.i64.wrap (y + 1) = y + 1 := w64 (by omega) (by omega)
      simp only [dag_Order_b2, hL, hw1, cond_some, Tot.cond_iff, Tot.ass_iff, Tot.bnd_iff, Tot.some_iff, Tot.map_iff, Tot.bind_iff, Nx.inl_iff, Nx.inr_iff, decide_eq_true_eq, decide_eq_false_iff_not]
      refine ⟨fun hylt => ?_, fun hyge => ?_⟩
      · have htc := fun j => take_count (z := 0) (k := j) g0 hylt
        have htr := hLr _ (rd_mem (z := 0) g0 hylt)
        generalize rd 0 L y = to at *
        have hdl := fun k => deg_le (n := m) (l := l) (out := out) (k := k)
        have hval : -1 - 4096 * 10000 - 10000 ≤ rd 0 ii to ∧ rd 0 ii to ≤ 10000 := by
          by_cases hto : to ∈ out ++ [k]
          · have := g3 to hto htr.1 htr.2; omega
          · have h1 := g4 to hto htr.1 htr.2
            have h2 := hdl to
            have h3 := List.count_le_length (a := to) (l := L.take y.toNat)
            have h4 : (L.take y.toNat).length ≤ L.length := List.length_take_le' _ _
            omega
        have hw2 : IntKind.i64.wrap (rd 0 ii to - 1) = rd 0 ii to - 1 := w64 (by omega) (by omega)
        rw [hw2]
        refine ⟨⟨g0, hylt⟩, ⟨htr.1, by omega⟩, ⟨by omega, by omega, by rw [wr_length]; exact g2, fun j hj j0 j1 => ?_, fun j hj j0 j1 => ?_⟩, by omega⟩
        · rw [rd_wr htr.1 (by omega) j0]
          have := g3 j hj j0 j1
          split
          · rename_i hjt; rw [hjt] at this; omega
          · omega
        · rw [rd_wr htr.1 (by omega) j0, htc j]
          have := g4 j hj j0 j1
          by_cases hjt : j = to
          · rw [if_pos hjt, if_pos hjt.symm]; rw [hjt] at this ⊢; omega
          · rw [if_neg hjt, if_neg (fun hc => hjt hc.symm)]; omega
      · have hy : y = (L.length : Int) := by omega
        subst hy
        refine ⟨⟨hsn, ⟨g2, fun j hj j0 j1 => ?_, fun j hj j0 j1 => ?_⟩, ?_⟩, ?_⟩
        · have := g3 j hj j0 j1
          have he : (((out ++ [k]).length : Nat) : Int) * l.length = (out.length : Int) * l.length + l.length := by simp [Int.add_mul]
          rw [he]; omega
        · have h1 := g4 j hj j0 j1
          have h2 := deg_snoc (n := m) (l := l) (out := out) (k := k) (y := j) hfk.1
          rw [hLdef] at h2
          simp only [Int.toNat_natCast, List.take_length] at h1
          omega
        · rw [← hor]; congr 1; simp; omega
        · simp only [List.length_append, List.length_singleton]; omega
  · have hz : m.toNat - out.length = 0 := by omega
    rw [hz] at hor
    rw [← hor]
    rfl

theorem dag_Order_eq (n : Int) (l : List (Int × Int)) (hl : l.length ≤ 10000) : dag_Order n l = some (ordRes (ordL (clampN n) l (clampN n).toNat [])) := by
  rw [← Tot.eq_iff]
  unfold dag_Order
  rw [Tot.bind_iff]
  refine (dag_heads_tot n l (by omega)).mono fun h hh => ?_
  obtain ⟨c0, c1⟩ := clamp_le (n := n)
  generalize clampN n = m at *
  obtain ⟨hlen, hat⟩ := id hh
  simp only [cond_some, Tot.cond_iff, Tot.ass_iff, Tot.bnd_iff, Tot.some_iff, Tot.map_iff, Tot.bind_iff, Nx.inl_iff, Nx.inr_iff, decide_eq_true_eq, decide_eq_false_iff_not]
  refine ⟨⟨by omega, Int.le_refl _, by unfold lim; omega⟩, ?_⟩
  have hdu : ∀ x k, degU m l x k ≤ l.length := fun x k => List.countP_le_length
  refine Tot.loop (fun (x : List Int × Int) => 0 ≤ x.2 ∧ x.2 ≤ m ∧ (x.1.length : Int) = m ∧ ∀ k : Int, 0 ≤ k → k < m → rd 0 x.1 k = (degU m l x.2 k : Int)) (fun x => (m - x.2).toNat) (fun x hx => ?_) ⟨by simp, c0, by simp; omega, fun k k0 k1 => ?_⟩
  rotate_left
  · rw [degU_zero, rd_eq k.toNat (by omega) (by simp; omega)]; simp
  obtain ⟨inn, x⟩ := x
  simp only at hx
  obtain ⟨h0, h1, h2, h3⟩ := hx
  simp only [dag_Order_b3, cond_some, Tot.cond_iff, Tot.ass_iff, Tot.bnd_iff, Tot.some_iff, Tot.map_iff, Tot.bind_iff, Nx.inl_iff, Nx.inr_iff, decide_eq_true_eq, decide_eq_false_iff_not]
  refine ⟨fun hlt => ⟨⟨h0, by omega⟩, ?_⟩, fun hge => ?_⟩
  · have hL : rd ([] : List Int) h x = outs m l x := hat x h0 (by omega)
    have hLl := outs_len (n := m) (l := l) (x := x)
    have hLr : ∀ y ∈ outs m l x, 0 ≤ y ∧ y < m := fun y hy => by have := mem_outs.1 hy; exact ⟨this.2.2.2.1, this.2.2.2.2⟩
    have hstep := fun k => degU_step (m := m) (l := l) (x := x) (k := k)
    rw [hL]
    generalize hLdef : outs m l x = L at *
    refine Tot.loop (fun (y : List Int × Int) => 0 ≤ y.2 ∧ y.2 ≤ (L.length : Int) ∧ (y.1.length : Int) = m ∧ ∀ k : Int, 0 ≤ k → k < m → rd 0 y.1 k = (degU m l x k : Int) + ((L.take y.2.toNat).count k : Int)) (fun y => ((L.length : Int) - y.2).toNat) (fun y hy => ?_) ⟨by simp, by simp, h2, fun k k0 k1 => by simpa using h3 k k0 k1⟩
    obtain ⟨ii, y⟩ := y
    simp only at hy
    obtain ⟨g0, g1, g2, g3⟩ := hy
    have hw1 : IntKind.i64.wrap (y + 1) = y + 1 := w64 (by omega) (by omega)
    have hw3 : IntKind.i64.wrap (x + 1) = x + 1 := w64 (by omega) (by omega)
    simp only [dag_Order_b4, dag_Order_j3, dag_Order_j4, hw1, hw3, cond_some, Tot.cond_iff, Tot.ass_iff, Tot.bnd_iff, Tot.some_iff, Tot.map_iff, Tot.bind_iff, Nx.inl_iff, Nx.inr_iff, decide_eq_true_eq, decide_eq_false_iff_not]
    refine ⟨fun hylt => ?_, fun hyge => ?_⟩
    · have htc := fun j => take_count (z := 0) (k := j) g0 hylt
      have htr := hLr _ (rd_mem (z := 0) g0 hylt)
      generalize rd 0 L y = to at *
      have hv := g3 to htr.1 htr.2
      have h5 := hdu x to
      have h6 := List.count_le_length (a := to) (l := L.take y.toNat)
      have h7 : (L.take y.toNat).length ≤ L.length := List.length_take_le' _ _
      have hw2 : IntKind.i64.wrap (rd 0 ii to + 1) = rd 0 ii to + 1 := w64 (by omega) (by omega)
      rw [hw2]
      refine ⟨⟨g0, hylt⟩, ⟨htr.1, by omega⟩, ⟨by omega, by omega, by rw [wr_length]; exact g2, fun j j0 j1 => ?_⟩, by omega⟩
      rw [rd_wr htr.1 (by omega) j0, htc j]
      have := g3 j j0 j1
      by_cases hjt : j = to
      · rw [if_pos hjt, if_pos hjt.symm]; rw [hjt] at this ⊢; omega
      · rw [if_neg hjt, if_neg (fun hc => hjt hc.symm)]; omega
    · have hy : y = (L.length : Int) := by omega
      subst hy
      simp only [Int.toNat_natCast, List.take_length] at g3
      refine ⟨⟨by omega, by omega, g2, fun k k0 k1 => ?_⟩, by omega⟩
      rw [g3 k k0 k1, hstep k]; omega
  · have hx : x = m := by omega
    subst hx
    rw [dag_Order_j1_eq hl c0 c1 hh ⟨h2, (fun k hk => by cases hk), fun k _ k0 k1 => by rw [h3 k k0 k1, degU_all]⟩, Tot.some_iff]

end Go.Tom
