/- The document's chains are the program's; the statements of chapter 16. -/
import Derived.Test.YtagcgcpapjidcaaPE
set_option linter.unusedVariables false
set_option linter.unusedSimpArgs false
namespace Go.Tom
open Go

theorem FineP.thr_len {s : D_api_State} (h : FineP s) : s.2.2.1.length ≤ 32 := h.threads.2.2.1

theorem FineP.arrows {s : D_api_State} (h : FineP s) : r14_ThreadArrows s = some (thrArrows s) :=
  r14_ThreadArrows_eq s (by have := h.thr_len; omega) fun k h0 h1 h6 => h.threads.waits k h0 h1 h6

theorem thrArrows_len {s : D_api_State} : (thrArrows s).length ≤ s.2.2.1.length := by
  have := buildL_len (f := fun k => thrArr s k (rd z_api_Thread s.2.2.1 k)) (c := 1) (fun k => thrArr_len _ _ _) (n := s.2.2.1.length)
  unfold thrArrows; omega

theorem r16_Next_eq {s : D_api_State} (h : FineP s) (i : Int) : r16_Next s i = some (nxt s i) := by
  rw [← Tot.eq_iff]
  have hl := thrArrows_len (s := s)
  have ht := h.thr_len
  simp only [r16_Next, h.arrows, cond_some, Tot.cond_iff, Tot.ass_iff, Tot.bnd_iff, Tot.some_iff, Tot.map_iff, Tot.bind_iff, Nx.inl_iff, Nx.inr_iff, decide_eq_true_eq, decide_eq_false_iff_not]
  refine Tot.loop (fun x => 0 ≤ x ∧ x ≤ ((thrArrows s).length : Int) ∧ ∀ k : Int, 0 ≤ k → k < x → (rd z_r13_Arrow (thrArrows s) k).1 ≠ i) (fun x => (((thrArrows s).length : Int) - x).toNat) (fun x hx => ?_) ⟨by omega, by omega, fun k _ _ => by omega⟩
  obtain ⟨h0, h1, h2⟩ := hx
  have hw1 : IntKind.i64.wrap (x + 1) = x + 1 := w64 (by omega) (by omega)
  simp only [r16_Next_b1, r16_Next_j1, hw1, cond_some, Tot.cond_iff, Tot.ass_iff, Tot.bnd_iff, Tot.some_iff, Tot.map_iff, Tot.bind_iff, Nx.inl_iff, Nx.inr_iff, decide_eq_true_eq, decide_eq_false_iff_not]
  refine ⟨fun hlt => ⟨⟨h0, hlt⟩, fun he => ⟨⟨h0, hlt⟩, ?_⟩, fun he => ⟨⟨by omega, by omega, fun k a b => ?_⟩, by omega⟩⟩, fun hge => ?_⟩
  · simp only [Bool.and_eq_true, Bool.or_eq_true, Bool.not_eq_true', Bool.and_eq_false_iff, Bool.or_eq_false_iff, Bool.not_eq_false', beq_iff_eq, bne_iff_ne, beq_eq_false_iff_ne, bne_eq_false_iff_eq, decide_eq_true_eq, decide_eq_false_iff_not] at he
    have hm := rd_mem (z := z_r13_Arrow) h0 hlt
    have := (h.nxt_arr (x := (rd z_r13_Arrow (thrArrows s) x).1) (y := (rd z_r13_Arrow (thrArrows s) x).2) hm).2
    rw [this, he]
  · simp only [Bool.and_eq_true, Bool.or_eq_true, Bool.not_eq_true', Bool.and_eq_false_iff, Bool.or_eq_false_iff, Bool.not_eq_false', beq_iff_eq, bne_iff_ne, beq_eq_false_iff_ne, bne_eq_false_iff_eq, decide_eq_true_eq, decide_eq_false_iff_not] at he
    by_cases hkx : k = x
    · rw [hkx]; exact he
    · exact h2 k a (by omega)
  · refine Classical.byContradiction fun hn => ?_
    by_cases hi : ThrP s i
    · have hm := h.arr_nxt hi (fun hc => hn hc.symm)
      obtain ⟨j, hj, he⟩ := List.getElem_of_mem hm
      have := h2 j (by omega) (by omega)
      rw [rd_eq j rfl hj, he] at this
      exact this rfl
    · exact hn (nxt_none hi).symm

theorem r16_Tail_eq {s : D_api_State} (h : FineP s) (i : Int) : r16_Tail s i = some (tl s i) := by
  obtain ⟨rank, hb, hr⟩ := h.chn
  unfold r16_Tail
  refine fixM_eq (fun x => tl x.1 x.2) (fun x => x.1 = s) (fun x => rank x.2) (fun self x hx ih => ?_) (x := (s, i)) rfl
  obtain ⟨s', j⟩ := x
  simp only at hx
  subst hx
  rw [← Tot.eq_iff]
  simp only [r16_Tail_rec, r14_Thread_eq, r16_Next_eq h, cond_some, Tot.cond_iff, Tot.ass_iff, Tot.bnd_iff, Tot.some_iff, Tot.map_iff, Tot.bind_iff, Nx.inl_iff, Nx.inr_iff, decide_eq_true_eq, decide_eq_false_iff_not]
  by_cases hj : ThrP s' j
  · simp only [hj, decide_true, Bool.not_true, Bool.false_eq_true, false_implies, true_implies, true_and]
    rw [tl_eq h.chn hj]
    rcases hr j hj with hn | ⟨hn, hlt⟩
    · simp [hn]
    · have h0 := hn.1
      have hne : nxt s' j ≠ -1 := by omega
      have hl := tl_len h.chn (nxt s' j)
      refine ⟨fun hc => by omega, fun hc => ?_⟩
      rw [ih (s', nxt s' j) rfl hlt]
      simp only [Tot.some_iff, hne, if_false, List.singleton_append, and_true, List.length_singleton]
      unfold limA; omega
  · simp [hj, tl]

theorem r16_End_eq {s : D_api_State} (h : FineP s) (i : Int) : r16_End s i = some (endOf (tl s i)) := by
  rw [← Tot.eq_iff]
  have := tl_len h.chn i
  simp only [r16_End, r16_Tail_eq h, end_bits (show (tl s i).length ≤ 1000 by omega), endOf, cond_some, Tot.cond_iff, Tot.ass_iff, Tot.bnd_iff, Tot.some_iff, Tot.map_iff, Tot.bind_iff, Nx.inl_iff, Nx.inr_iff, decide_eq_true_eq, decide_eq_false_iff_not]
  refine ⟨fun h => ?_, fun h => ⟨?_, ?_⟩⟩
  · simp only [Bool.and_eq_true, Bool.or_eq_true, Bool.not_eq_true', Bool.and_eq_false_iff, Bool.or_eq_false_iff, Bool.not_eq_false', beq_iff_eq, bne_iff_ne, beq_eq_false_iff_ne, bne_eq_false_iff_eq, decide_eq_true_eq, decide_eq_false_iff_not] at h; rw [if_pos (by omega)]
  · simp only [Bool.and_eq_true, Bool.or_eq_true, Bool.not_eq_true', Bool.and_eq_false_iff, Bool.or_eq_false_iff, Bool.not_eq_false', beq_iff_eq, bne_iff_ne, beq_eq_false_iff_ne, bne_eq_false_iff_eq, decide_eq_true_eq, decide_eq_false_iff_not] at h; omega
  · simp only [Bool.and_eq_true, Bool.or_eq_true, Bool.not_eq_true', Bool.and_eq_false_iff, Bool.or_eq_false_iff, Bool.not_eq_false', beq_iff_eq, bne_iff_ne, beq_eq_false_iff_ne, bne_eq_false_iff_eq, decide_eq_true_eq, decide_eq_false_iff_not] at h; rw [if_neg (by omega)]

theorem r16_Lives_eq {s : D_api_State} (h : FineP s) (i : Int) : r16_Lives s i = some (livesB s i) := by
  rw [← Tot.eq_iff]
  simp only [r16_Lives, r16_End_eq h, livesB, cond_some, Tot.cond_iff, Tot.ass_iff, Tot.bnd_iff, Tot.some_iff, Tot.map_iff, Tot.bind_iff, Nx.inl_iff, Nx.inr_iff, decide_eq_true_eq, decide_eq_false_iff_not]
  by_cases hi : ThrP s i
  · have he := (end_thr h.chn hi).1
    obtain ⟨e0, e1, e2⟩ := id he
    simp [thrOf, he, e0, e1]
  · rw [end_neg hi]
    have : ¬ ThrP s (-1) := fun hc => by have := hc.1; omega
    simp [thrOf, this]

theorem tc_tl {s : D_api_State} (h : FineP s) {i k : Int} (hk : ThrP s k) : i ∈ tl s k ↔ i = k ∨ Relation.TransGen (RR s.2.2.1.length (thrArrows s)) k i := by
  refine tl_ind h.chn (C := fun k => i ∈ tl s k ↔ i = k ∨ Relation.TransGen (RR s.2.2.1.length (thrArrows s)) k i) (fun k hk ih => ?_) hk
  rw [tl_eq h.chn hk]
  have first : Relation.TransGen (RR s.2.2.1.length (thrArrows s)) k i → ThrP s (nxt s k) ∧ (i = nxt s k ∨ Relation.TransGen (RR s.2.2.1.length (thrArrows s)) (nxt s k) i) := by
    intro ht
    clear ih
    induction ht with
    | single hr => obtain ⟨r1, r2, r3⟩ := h.rr.1 hr; exact ⟨by rw [← r3]; exact r2, .inl r3⟩
    | tail hab hr ih2 =>
      obtain ⟨g1, g2⟩ := ih2
      refine ⟨g1, .inr ?_⟩
      rcases g2 with rfl | g2
      · exact .single hr
      · exact .tail g2 hr
  split
  · rename_i hn
    simp only [List.mem_singleton]
    refine ⟨.inl, fun hh => ?_⟩
    rcases hh with hh | hh
    · exact hh
    · have := (first hh).1.1
      omega
  · rename_i hn
    obtain ⟨h1, h2⟩ := ih hn
    rw [List.mem_cons, h2]
    refine or_congr_right ⟨fun hh => ?_, fun hh => (first hh).2⟩
    have hr : RR s.2.2.1.length (thrArrows s) k (nxt s k) := h.rr.2 ⟨hk, h1, rfl⟩
    rcases hh with hh | hh
    · rw [hh]; exact .single hr
    · exact .trans (.single hr) hh

theorem tc_thr {s : D_api_State} (h : FineP s) {i k : Int} (ht : Relation.TransGen (RR s.2.2.1.length (thrArrows s)) k i) : ThrP s k ∧ ThrP s i ∧ i ≠ k := by
  have h1 : ThrP s k := by
    induction ht with
    | single hr => exact (h.rr.1 hr).1
    | tail _ _ ih => exact ih
  refine ⟨h1, ?_, fun hc => h.thrRing ⟨k, h1.1, h1.2.1, by rw [hc] at ht; exact ht⟩⟩
  induction ht with
  | single hr => exact (h.rr.1 hr).2.1
  | tail _ hr _ => exact (h.rr.1 hr).2.1

theorem if_iff {α : Type} {p q : Prop} [Decidable p] [Decidable q] {x y : α} (h : p ↔ q) : (if p then x else y) = if q then x else y := by
  by_cases hp : p
  · rw [if_pos hp, if_pos (h.1 hp)]
  · rw [if_neg hp, if_neg fun hq => hp (h.2 hq)]

def refBehind (s : D_api_State) (i : Int) (near : Bool) : List Int := if near then waitsL s i else behindL s i

theorem r16_Behind_eq {s : D_api_State} (h : FineP s) (i : Int) (near : Bool) : r16_Behind s i near = some (refBehind s i near) := by
  rw [← Tot.eq_iff]
  have hn := h.thr_len
  have hal := thrArrows_len (s := s)
  let g : Int → List Int := fun k => if ThrP s i ∧ (bif near then decide (nxt s k = i) else decide (k ≠ i) && decide (i ∈ tl s k)) = true then [k] else []
  have hone : ∀ k, (g k).length ≤ 1 := fun k => by simp only [g]; split <;> simp
  have hg : ∀ k : Int, 0 ≤ k → k < (s.2.2.1.length : Int) → ThrP s i → (nxt s k = i → ThrP s k) ∧ (i ∈ tl s k → ThrP s k) := fun k h0 h1 hi =>
    ⟨fun hk => Classical.byContradiction fun hc => by rw [nxt_none hc] at hk; have := hi.1; omega, fun hk => (mem_tl_thr h.chn hk).1⟩
  have hend : buildL g s.2.2.1.length = refBehind s i near := by
    unfold refBehind waitsL behindL
    cases near with
    | true =>
      simp only [if_true]
      refine buildL_congr fun k h0 h1 => ?_
      simp only [g, cond_true]
      refine if_iff ⟨fun ⟨a, b⟩ => ?_, fun ⟨a, b⟩ => ?_⟩
      · simp only [decide_eq_true_eq] at b
        exact ⟨(hg k h0 h1 a).1 b, by have := a.1; simp [this, b]⟩
      · simp only [Bool.and_eq_true, decide_eq_true_eq] at b
        refine ⟨?_, by simp [b.2]⟩
        rcases h.nxt_thr a with c | c
        · omega
        · rw [← b.2]; exact c
    | false =>
      simp only [Bool.false_eq_true, if_false]
      refine buildL_congr fun k h0 h1 => ?_
      simp only [g, cond_false]
      refine if_iff ⟨fun ⟨a, b⟩ => ?_, fun ⟨a, b⟩ => ?_⟩
      · refine ⟨?_, b⟩
        simp only [Bool.and_eq_true, decide_eq_true_eq] at b
        exact (hg k h0 h1 a).2 b.2
      · refine ⟨?_, b⟩
        simp only [Bool.and_eq_true, decide_eq_true_eq] at b
        exact (mem_tl_thr h.chn b.2).2
  rw [← hend]
  unfold r16_Behind
  refine Tot.loop (fun x => 0 ≤ x.2 ∧ x.2 ≤ (s.2.2.1.length : Int) ∧ x.1 = buildL g x.2.toNat) (fun x => ((s.2.2.1.length : Int) - x.2).toNat) (fun x hx => ?_) ⟨by omega, by simp, rfl⟩
  obtain ⟨acc, x⟩ := x
  simp only at hx
  obtain ⟨h0, h1, rfl⟩ := hx
  have hw1 : IntKind.i64.wrap (x + 1) = x + 1 := w64 (by omega) (by omega)
  have hlen := buildL_len (f := g) (c := 1) hone (n := x.toNat)
  simp only [r16_Behind_b1, r16_Behind_j1, r16_Behind_j2, r16_Behind_j3, r14_Thread_eq, h.arrows, r16_Next_eq h, hw1, cond_some, Tot.cond_iff, Tot.ass_iff, Tot.bnd_iff, Tot.some_iff, Tot.map_iff, Tot.bind_iff, Nx.inl_iff, Nx.inr_iff, decide_eq_true_eq, decide_eq_false_iff_not]
  by_cases hlt : x < (s.2.2.1.length : Int)
  · by_cases hi : ThrP s i
    · simp only [hlt, hi, decide_true, cond_true, Bool.and_true, true_implies, Bool.true_eq_false, false_implies, and_true]
      refine (r13_Reach_tot _ _ x (by omega) (by omega) (by omega)).mono fun out hout => ?_
      obtain ⟨o1, o2⟩ := hout
      refine ⟨⟨hi.1, by have := hi.2.1; omega⟩, ?_⟩
      have ho := o2 i hi.1 hi.2.1
      have hmem : rd false out i = true ↔ (decide (x ≠ i) && decide (i ∈ tl s x)) = true := by
        rw [ho, Bool.and_eq_true, decide_eq_true_eq, decide_eq_true_eq]
        constructor
        · intro ht
          obtain ⟨t1, t2, t3⟩ := tc_thr h ht
          exact ⟨fun hc => t3 hc.symm, (tc_tl h t1).2 (.inr ht)⟩
        · rintro ⟨t1, t2⟩
          rcases (tc_tl h (mem_tl_thr h.chn t2).1).1 t2 with t | t
          · exact absurd t.symm t1
          · exact t
      have hgx : ∀ b : Bool, (b = true ↔ (bif near then decide (nxt s x = i) else decide (x ≠ i) && decide (i ∈ tl s x)) = true) → (b = true → (((buildL g x.toNat).length + [x].length : Nat) : Int) ≤ limA ∧ (0 ≤ x + 1 ∧ x + 1 ≤ (s.2.2.1.length : Int) ∧ buildL g x.toNat ++ [x] = buildL g (x + 1).toNat) ∧ ((s.2.2.1.length : Int) - (x + 1)).toNat < ((s.2.2.1.length : Int) - x).toNat) ∧
          (b = false → (0 ≤ x + 1 ∧ x + 1 ≤ (s.2.2.1.length : Int) ∧ buildL g x.toNat = buildL g (x + 1).toNat) ∧ ((s.2.2.1.length : Int) - (x + 1)).toNat < ((s.2.2.1.length : Int) - x).toNat) := by
        intro b hb
        refine ⟨fun h1 => ⟨by simp only [List.length_singleton]; unfold limA; omega, ⟨by omega, by omega, ?_⟩, by omega⟩, fun h1 => ⟨⟨by omega, by omega, ?_⟩, by omega⟩⟩
        · rw [buildL_step h0]
          simp only [g]
          rw [if_pos ⟨hi, hb.1 h1⟩]
        · rw [buildL_step h0]
          simp only [g]
          rw [if_neg (fun hc => by rw [hb.2 hc.2] at h1; simp at h1), List.append_nil]
      cases near with
      | true =>
        simp only [true_implies, Bool.true_eq_false, false_implies, and_true]
        refine hgx _ ?_
        simp
      | false =>
        simp only [Bool.false_eq_true, false_implies, true_implies, true_and]
        exact hgx _ hmem
    · simp only [hlt, hi, decide_true, decide_false, cond_true, Bool.and_false, Bool.false_eq_true, false_implies, true_implies, true_and]
      have hemp : ∀ m, buildL g m = [] := fun m => by
        induction m with
        | zero => rfl
        | succ m ih => show buildL g m ++ g m = []; rw [ih]; simp [g, hi]
      rw [hemp, hemp]
  · simp only [hlt, decide_false, cond_false, Bool.and_false, Bool.false_and, Bool.false_eq_true, false_implies, true_implies, true_and]
    have hx : x = (s.2.2.1.length : Int) := by omega
    subst hx
    simp

/-- The chapter's example. -/
def alive16 : D_api_State := ([true], [], [(2, -1, -1, 1, 1), (4, 0, -1, 1, 1)], [], [1], 5)

theorem alive16_chn : Chn alive16 := by
  refine ⟨fun x => if x = 1 then 1 else 0, fun x => by simp only; split <;> omega, fun i hi => ?_⟩
  have h0 := hi.1
  have h1 := hi.2.1
  simp only [alive16, List.length_cons, List.length_nil] at h1
  have : i = 0 ∨ i = 1 := by omega
  rcases this with rfl | rfl
  · exact .inl (by decide)
  · exact .inr ⟨by decide, by decide⟩

theorem l16_alive_eq : l16_alive = some true := by
  have hc := alive16_chn
  unfold l16_alive
  show Option.bind (chain_End alive16 1) _ = _
  rw [← Tot.eq_iff]
  have e1 : tl alive16 1 = [1, 0] := by decide
  have e2 : livesB alive16 1 = true := by decide
  have e3 : behindL alive16 0 = [1] := by decide
  have e4 : tl alive16 0 = [0] := by decide
  have e5 : nxt alive16 0 = -1 := by decide
  have hx : (([true], [], [((2 : Int), (-1 : Int), (-1 : Int), (1 : Int), (1 : Int)), ((4 : Int), (0 : Int), (-1 : Int), (1 : Int), (1 : Int))], [], [(1 : Int)], (5 : Int)) : D_api_State) = alive16 := rfl
  simp only [hx, chain_End_eq hc, chain_Lives_eq hc, chain_Behind_eq hc (show alive16.2.2.1.length ≤ 1000 by decide), chain_Closes_eq hc, chain_Next_eq, e1, e2, e3, e4, e5, r11_Ints_eq _ _ (show ([1] : List Int).length ≤ 100000 by decide), cond_some, Tot.cond_iff, Tot.ass_iff, Tot.bnd_iff, Tot.some_iff, Tot.map_iff, Tot.bind_iff, Nx.inl_iff, Nx.inr_iff, decide_eq_true_eq, decide_eq_false_iff_not]
  simp [endOf, rd, e3, cond_some, Tot.cond_iff, Tot.ass_iff, Tot.bnd_iff, Tot.some_iff, Tot.map_iff, Tot.bind_iff, Nx.inl_iff, Nx.inr_iff, decide_eq_true_eq, decide_eq_false_iff_not, r11_Ints_eq]

theorem ChainTells_eq (s : D_api_State) (i j : Int) : l16_ChainTells s i j = some true := by
  rw [← Tot.eq_iff]
  simp only [l16_ChainTells, (r14_Small_tot s).dec, l16_alive_eq, cond_some, Tot.cond_iff, Tot.ass_iff, Tot.bnd_iff, Tot.some_iff, Tot.map_iff, Tot.bind_iff, Nx.inl_iff, Nx.inr_iff, decide_eq_true_eq, decide_eq_false_iff_not]
  by_cases hs : SmallP s
  rotate_left
  · simp [hs, Tot.some_iff]
  simp only [hs, decide_true, Bool.not_true, Bool.not_false, cond_true, (r14_Fine_tot s hs).dec, Tot.some_iff, Bool.false_or]
  by_cases hf : FineP s
  rotate_left
  · simp [hf]
  have hn := hf.thr_len
  simp only [hf, decide_true, Bool.not_true, Bool.false_eq_true, Bool.true_eq_false, false_implies, implies_true, true_implies, true_and, and_true, r16_Tail_eq hf, Tot.some_iff]
  have hl := tl_len hf.chn j
  refine Tot.loop (fun (x : Bool × Int) => 0 ≤ x.2 ∧ x.2 ≤ ((tl s j).length : Int) ∧ x.1 = decide (i ∈ (tl s j).take x.2.toNat)) (fun x => (((tl s j).length : Int) - x.2).toNat) (fun x hx => ?_) ⟨by omega, by simp, by simp⟩
  obtain ⟨c, x⟩ := x
  simp only at hx
  obtain ⟨h0, h1, hc0⟩ := hx
  have hc : c = decide (i ∈ (tl s j).take x.toNat) := hc0
  clear hc0
  subst hc
  have hw1 : IntKind.i64.wrap (x + 1) = x + 1 := w64 (by omega) (by omega)
  have hb1 : (waitsL s i).length ≤ 100000 := by
    have := buildL_len (f := fun k => if ThrP s k ∧ (decide (0 ≤ i) && decide (nxt s k = i)) = true then [k] else []) (c := 1) (fun k => by split <;> simp) (n := s.2.2.1.length)
    unfold waitsL; omega
  have hb2 : (behindL s i).length ≤ 100000 := by
    have := buildL_len (f := fun k => if ThrP s k ∧ (decide (k ≠ i) && decide (i ∈ tl s k)) = true then [k] else []) (c := 1) (fun k => by split <;> simp) (n := s.2.2.1.length)
    unfold behindL; omega
  have hti := tl_len hf.chn i
  simp only [l16_ChainTells_b1, l16_ChainTells_j1, hw1, cond_some, Tot.cond_iff, Tot.ass_iff, Tot.bnd_iff, Tot.some_iff, Tot.map_iff, Tot.bind_iff, Nx.inl_iff, Nx.inr_iff, decide_eq_true_eq, decide_eq_false_iff_not]
  refine ⟨fun hlt => ⟨fun _ => ⟨h0, hlt⟩, ⟨by omega, by omega, ?_⟩, by omega⟩, fun hge => ?_⟩
  · rw [take_rd (z := 0) h0 hlt]
    rw [Bool.eq_iff_iff]
    simp only [Bool.or_eq_true, decide_eq_true_eq, List.mem_append, List.mem_singleton, beq_iff_eq]
    exact or_congr_right ⟨fun h => h.symm, fun h => h.symm⟩
  · have hx : x = ((tl s j).length : Int) := by omega
    subst hx
    simp only [chain_Next_eq, r16_Next_eq hf, chain_Tail_eq hf.chn, r16_Tail_eq hf, r11_Ints_eq _ _ (show (tl s i).length ≤ 100000 by omega), chain_End_eq hf.chn, r16_End_eq hf, chain_Closes_eq hf.chn, chain_Lives_eq hf.chn, r16_Lives_eq hf, chain_Waits_eq (s := s) (by omega), chain_Behind_eq hf.chn (by omega), r16_Behind_eq hf, refBehind, if_true, r11_Ints_eq _ _ hb1, l16_alive_eq, cond_some, Tot.cond_iff, Tot.ass_iff, Tot.bnd_iff, Tot.some_iff, Tot.map_iff, Tot.bind_iff, Nx.inl_iff, Nx.inr_iff, decide_eq_true_eq, decide_eq_false_iff_not, Int.toNat_natCast, List.take_length]
    simp [r11_Ints_eq _ _ hb2, r11_Ints_eq _ _ (show (tl s i).length ≤ 100000 by omega), Tot.some_iff]

theorem ChainEnds_eq (s : D_api_State) : l16_ChainEnds s = some true := by
  rw [← Tot.eq_iff]
  simp only [l16_ChainEnds, (r14_Small_tot s).dec, l16_alive_eq, cond_some, Tot.cond_iff, Tot.ass_iff, Tot.bnd_iff, Tot.some_iff, Tot.map_iff, Tot.bind_iff, Nx.inl_iff, Nx.inr_iff, decide_eq_true_eq, decide_eq_false_iff_not]
  by_cases hs : SmallP s
  rotate_left
  · simp [hs, Tot.some_iff]
  simp only [hs, decide_true, Bool.not_true, Bool.not_false, cond_true, (r14_Fine_tot s hs).dec, Tot.some_iff, Bool.false_or]
  by_cases hf : FineP s
  rotate_left
  · simp [hf]
  have hn := hf.thr_len
  simp only [hf, decide_true, Bool.not_true, Bool.false_eq_true, Bool.true_eq_false, false_implies, implies_true, true_implies, true_and, and_true]
  refine Tot.loop (fun (x : Int) => 0 ≤ x ∧ x ≤ (s.2.2.1.length : Int)) (fun x => ((s.2.2.1.length : Int) - x).toNat) (fun x hx => ?_) ⟨by omega, by omega⟩
  obtain ⟨h0, h1⟩ := hx
  have hw1 : IntKind.i64.wrap (x + 1) = x + 1 := w64 (by omega) (by omega)
  simp only [l16_ChainEnds_b1, l16_ChainEnds_j1, l16_ChainEnds_j2, hw1, l16_alive_eq, chain_End_eq hf.chn, chain_Next_eq, chain_Behind_eq hf.chn (show s.2.2.1.length ≤ 1000 by omega), cond_some, Tot.cond_iff, Tot.ass_iff, Tot.bnd_iff, Tot.some_iff, Tot.map_iff, Tot.bind_iff, Nx.inl_iff, Nx.inr_iff, decide_eq_true_eq, decide_eq_false_iff_not]
  refine ⟨fun hlt => ⟨⟨h0, hlt⟩, fun hz => ⟨⟨by omega, by omega⟩, by omega⟩, fun hz => ?_⟩, fun hge => by trivial⟩
  simp only [Bool.and_eq_true, Bool.or_eq_true, Bool.not_eq_true', Bool.and_eq_false_iff, Bool.or_eq_false_iff, Bool.not_eq_false', beq_iff_eq, bne_iff_ne, beq_eq_false_iff_ne, bne_eq_false_iff_eq, decide_eq_true_eq, decide_eq_false_iff_not] at hz
  have hx : ThrP s x := ⟨h0, hlt, hz⟩
  obtain ⟨e1, e2⟩ := end_thr hf.chn hx
  have e0 := e1.1
  refine ⟨fun hb => ?_, fun hb => ?_⟩
  · have hd : decide (endOf (tl s x) < 0) = false := by simp; exact e0
    rw [hd] at hb
    simp [e2] at hb
  · have hb2 : (behindL s x).length ≤ 100000 := by
      have := buildL_len (f := fun k => if ThrP s k ∧ (decide (k ≠ x) && decide (x ∈ tl s k)) = true then [k] else []) (c := 1) (fun k => by split <;> simp) (n := s.2.2.1.length)
      unfold behindL; omega
    refine Tot.loop (fun (y : Int) => 0 ≤ y ∧ y ≤ ((behindL s x).length : Int)) (fun y => (((behindL s x).length : Int) - y).toNat) (fun y hy => ?_) ⟨Int.le_refl _, by omega⟩
    obtain ⟨g0, g1⟩ := hy
    have hw2 : IntKind.i64.wrap (y + 1) = y + 1 := w64 (by omega) (by omega)
    simp only [l16_ChainEnds_b2, l16_ChainEnds_j3, l16_ChainEnds_j2, hw1, hw2, chain_End_eq hf.chn, chain_Lives_eq hf.chn, chain_Closes_eq hf.chn, cond_some, Tot.cond_iff, Tot.ass_iff, Tot.bnd_iff, Tot.some_iff, Tot.map_iff, Tot.bind_iff, Nx.inl_iff, Nx.inr_iff, decide_eq_true_eq, decide_eq_false_iff_not]
    refine ⟨fun hylt => ?_, fun hyge => ⟨⟨by omega, by omega⟩, by omega⟩⟩
    have hm := rd_mem (z := (0 : Int)) g0 hylt
    generalize rd (0 : Int) (behindL s x) y = k at *
    unfold behindL at hm
    rw [mem_buildL] at hm
    obtain ⟨k', _, _, hm⟩ := hm
    split at hm
    · rename_i hk
      simp only [List.mem_singleton] at hm
      subst hm
      simp only [Bool.and_eq_true, decide_eq_true_eq] at hk
      have hk2 := hk.2.2
      have hes := end_same hf.chn hk2
      have hls : livesB s k = livesB s x := by unfold livesB; rw [hes]
      rw [hes, hls]
      simp [hk2]
      omega
    · simp at hm
end Go.Tom
