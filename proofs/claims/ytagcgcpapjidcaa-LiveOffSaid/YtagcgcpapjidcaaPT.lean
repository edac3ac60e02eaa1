/- Which tickets count, and the active amounts: the document's functions. -/
import Derived.Test.YtagcgcpapjidcaaPS
set_option linter.unusedVariables false
set_option linter.unusedSimpArgs false
namespace Go.Tom
open Go

/-- What a ticket adds to a coin. -/
def addsI (s : D_api_State) (c k : Int) : Int := if ((tk s k).2.1 == c && cntB s k) = true then (tk s k).2.2.1 else 0

theorem amtI_sum {s : D_api_State} (h : FineP s) (c : Int) : amtI s c = sumI (addsI s c) s.2.1.length := by
  rw [amtI_eq h c]
  rfl

theorem addsI_bound {s : D_api_State} (h : FineP s) {c k : Int} (h0 : 0 ≤ k) (h1 : k < (s.2.1.length : Int)) : 0 ≤ addsI s c k ∧ addsI s c k ≤ 1048576 := by
  unfold addsI
  split
  · rename_i hc
    have ht := h.tk_ok h0 h1
    have hu : (tk s k).1 = true := by
      simp only [cntB, cntW, Bool.and_eq_true] at hc
      exact hc.2.1.1
    unfold TicketOk at ht
    rw [if_pos hu] at ht
    omega
  · omega

theorem r17_Amount_rec_eq {s : D_api_State} (h : FineP s) (self : D_api_State → Int → Option Bool) (c : Int) (hs : ∀ k : Int, 0 ≤ k → k < (s.2.1.length : Int) → (tk s k).2.1 = c → self s k = some (cntB s k)) : r17_Amount_rec self s c = some (amtI s c) := by
  have hl := h.tickets.2.1
  rw [← Tot.eq_iff, amtI_sum h c]
  unfold r17_Amount_rec
  refine Tot.loop (fun x => 0 ≤ x.2 ∧ x.2 ≤ (s.2.1.length : Int) ∧ x.1 = sumI (addsI s c) x.2.toNat) (fun x => ((s.2.1.length : Int) - x.2).toNat) (fun x hx => ?_) ⟨by omega, by simp, rfl⟩
  obtain ⟨acc, x⟩ := x
  simp only at hx
  obtain ⟨h0, h1, rfl⟩ := hx
  have hw1 : IntKind.i64.wrap (x + 1) = x + 1 := w64 (by omega) (by omega)
  have hb := sumI_bound (f := addsI s c) (c := 1048576) (n := x.toNat) fun k k0 k1 => addsI_bound h k0 (by omega)
  have hb2 : (1048576 : Int) * (x.toNat : Int) ≤ 1048576 * 96 := by omega
  simp only [r17_Amount_b1, r17_Amount_j1, r17_Amount_j2, hw1, cond_some, Tot.cond_iff, Tot.ass_iff, Tot.bnd_iff, Tot.some_iff, Tot.map_iff, Tot.bind_iff, Nx.inl_iff, Nx.inr_iff, decide_eq_true_eq, decide_eq_false_iff_not]
  refine ⟨fun hlt => ⟨⟨h0, hlt⟩, ?_⟩, fun hge => ?_⟩
  · have hst := sumI_step (f := addsI s c) h0
    have hadd := addsI_bound h (c := c) h0 hlt
    have htk : rd z_api_Ticket s.2.1 x = tk s x := rfl
    rw [htk]
    cases hc : ((tk s x).2.1 == c) with
    | false =>
      have ha : addsI s c x = 0 := by unfold addsI; rw [hc]; rfl
      simp only [cond_false, Tot.some_iff, Bool.false_and, Bool.false_eq_true, false_implies, true_implies, true_and]
      exact ⟨⟨by omega, by omega, by omega⟩, by omega⟩
    | true =>
      have hcc : (tk s x).2.1 = c := beq_iff_eq.1 hc
      simp only [cond_true, hs x h0 hlt hcc, Tot.some_iff, Bool.true_and, true_implies, Bool.true_eq_false, false_implies, and_true]
      refine ⟨fun hb1 => ?_, fun hb1 => ?_⟩
      · have ha : addsI s c x = (tk s x).2.2.1 := by unfold addsI; rw [hc, hb1]; rfl
        have hw2 : IntKind.i64.wrap (sumI (addsI s c) x.toNat + (tk s x).2.2.1) = sumI (addsI s c) x.toNat + (tk s x).2.2.1 := w64 (by omega) (by omega)
        rw [hw2]
        exact ⟨⟨h0, hlt⟩, ⟨by omega, by omega, by omega⟩, by omega⟩
      · have ha : addsI s c x = 0 := by unfold addsI; rw [hc, hb1]; rfl
        exact ⟨⟨by omega, by omega, by omega⟩, by omega⟩
  · have hx : x = (s.2.1.length : Int) := by omega
    subst hx
    simp

theorem r17_Counts_eq {s : D_api_State} (h : FineP s) {k : Int} (k0 : 0 ≤ k) (k1 : k < (s.2.1.length : Int)) : r17_Counts s k = some (cntB s k) := by
  obtain ⟨rank, r1, r2⟩ := rank_of h.coinRing
  unfold r17_Counts
  refine fixM_eq (fun x => cntB x.1 x.2) (fun x => x.1 = s ∧ 0 ≤ x.2 ∧ x.2 < (s.2.1.length : Int)) (fun x => rank (tk s x.2).2.1) (fun self x hx ih => ?_) (x := (s, k)) ⟨rfl, k0, k1⟩
  obtain ⟨s', k⟩ := x
  obtain ⟨rfl, k0, k1⟩ := hx
  simp only at k0 k1 ih ⊢
  have htk : rd z_api_Ticket s'.2.1 k = tk s' k := rfl
  rw [← Tot.eq_iff]
  simp only [r17_Counts_rec, htk, cond_some, Tot.cond_iff, Tot.ass_iff, Tot.bnd_iff, Tot.some_iff, Tot.map_iff, Tot.bind_iff, Nx.inl_iff, Nx.inr_iff, decide_eq_true_eq, decide_eq_false_iff_not]
  refine ⟨⟨k0, k1⟩, fun hu => ?_, fun hu => ⟨fun hk => ?_, fun hk => ?_⟩⟩
  · simp only [Bool.and_eq_true, Bool.or_eq_true, Bool.not_eq_true', Bool.and_eq_false_iff, Bool.or_eq_false_iff, Bool.not_eq_false', beq_iff_eq, bne_iff_ne, beq_eq_false_iff_ne, bne_eq_false_iff_eq, decide_eq_true_eq, decide_eq_false_iff_not] at hu
    unfold cntB cntW
    rcases hu with hu | hu <;> rw [hu] <;> simp
  · simp only [Bool.and_eq_true, Bool.or_eq_true, Bool.not_eq_true', Bool.and_eq_false_iff, Bool.or_eq_false_iff, Bool.not_eq_false', beq_iff_eq, bne_iff_ne, beq_eq_false_iff_ne, bne_eq_false_iff_eq, decide_eq_true_eq, decide_eq_false_iff_not] at hu
    rw [r16_Lives_eq h, Tot.some_iff]
    unfold cntB cntW
    have hk2 : ((tk s' k).2.2.2.1 == 2) = false := beq_eq_false_iff_ne.2 (by have := beq_iff_eq.1 hk; omega)
    rw [hu.1, hu.2, hk, hk2]; simp
  · simp only [Bool.or_eq_false_iff, Bool.not_eq_false'] at hu
    refine ⟨fun hk2 => ?_, fun hk2 => ?_⟩
    · have hk2' : (tk s' k).2.2.2.1 = 2 := beq_iff_eq.1 hk2
      have hrk := r2 _ _ (h.arr k0 k1 hu.1 hk2')
      rw [r17_Amount_rec_eq h _ _ fun j j0 j1 hj => ih (s', j) ⟨rfl, j0, j1⟩ (by rw [hj]; exact hrk), Tot.some_iff]
      unfold cntB cntW
      rw [hu.1, hu.2, hk, hk2]; simp
    · unfold cntB cntW
      rw [hk, hk2]; simp

theorem r17_Amount_eq {s : D_api_State} (h : FineP s) (c : Int) : r17_Amount s c = some (amtI s c) := by
  unfold r17_Amount
  exact r17_Amount_rec_eq h _ c fun k k0 k1 _ => r17_Counts_eq h k0 k1
end Go.Tom
