/- Chapter 26: a call that is taken and answered. -/
import Derived.Test.YtoalafcmlgjlpaaRB
set_option linter.unusedVariables false
set_option linter.unusedSimpArgs false
namespace Go.Tom
open Go

theorem stExt {a b : D_api_State} (h1 : a.1 = b.1) (h2 : a.2.1 = b.2.1) (h3 : a.2.2.2 = b.2.2.2) (hl : a.2.2.1.length = b.2.2.1.length) (ht : ∀ k : Int, 0 ≤ k → k < (a.2.2.1.length : Int) → th a k = th b k) : a = b := by
  obtain ⟨a1, a2, a3, a4⟩ := a
  obtain ⟨b1, b2, b3, b4⟩ := b
  simp only at h1 h2 h3 hl ht
  have : a3 = b3 := rd_ext hl ht
  rw [h1, h2, h3, this]

theorem ring_nil {n : Int} : ¬ RingP n [] := by
  rintro ⟨a, _, _, h⟩
  have key : ∀ {x y : Int}, Relation.TransGen (RR n []) x y → False := fun h => by
    induction h with
    | single h => exact absurd h.1 (by simp)
    | tail _ h _ => exact absurd h.1 (by simp)
  exact key h

/-- The chapter's example. -/
def ex26 : D_api_State := ([true], [(true, 0, 3, 1, 0, true)], [(3, -1, -1, 1, 1), (5, -1, -1, 1, 1)], [], [], 5)

theorem small26 : SmallP ex26 := by unfold SmallP; decide

theorem fine26 : FineP ex26 where
  q1 := by decide
  q2 := by decide
  c1 := by decide
  c2 := by decide
  first := by decide
  last := by decide
  tickets := by
    refine ⟨fun k k0 k1 => ?_, by decide, .inr (by decide)⟩
    have : k = 0 := by simp [ex26] at k1; omega
    subst this
    unfold TicketOk
    rw [if_pos (by decide)]
    exact ⟨⟨by decide, by decide, by decide⟩, by decide, by decide, .inr (.inl ⟨by decide, ⟨by decide, by decide, by decide⟩⟩)⟩
  threads := by
    refine ⟨fun k k0 k1 => ?_, by decide, by decide, .inr (by decide)⟩
    have : k = 0 ∨ k = 1 := by simp [ex26] at k1; omega
    rcases this with rfl | rfl
    · unfold ThreadOk
      rw [if_neg (by decide)]
      exact ⟨.inl (by decide), .inl (by decide), .inl (by decide)⟩
    · unfold ThreadOk
      rw [if_neg (by decide)]
      exact ⟨.inl (by decide), .inl (by decide), .inl (by decide)⟩
  locks := ⟨fun k k0 k1 => by simp [ex26] at k1; omega, by decide, .inl (by decide)⟩
  queue := by
    refine ⟨fun i i0 i1 => ?_, fun k k0 k1 => by simp [ex26] at k1; omega⟩
    have : i = 0 ∨ i = 1 := by simp [ex26] at i1; omega
    rcases this with rfl | rfl
    · exact ⟨⟨fun h => absurd h (by unfold QueuesP; decide), fun h => absurd h (by decide)⟩, by decide, fun h => absurd h (by decide)⟩
    · exact ⟨⟨fun h => absurd h (by unfold QueuesP; decide), fun h => absurd h (by decide)⟩, by decide, fun h => absurd h (by decide)⟩
  coinRing := by
    have e : coinArrows ex26 = [] := by decide
    rw [e]
    exact ring_nil
  thrRing := by
    have e : thrArrows ex26 = [] := by decide
    rw [e]
    exact ring_nil

theorem run26 : RunP ex26 0 := .inr ⟨by decide, by decide, by decide⟩

theorem beq_reply (a b : D_api_Reply) : Ty.beq T_api_Reply a b = decide (a = b) := by
  obtain ⟨a1, a2⟩ := a
  obtain ⟨b1, b2⟩ := b
  rw [Bool.eq_iff_iff]
  simp [Ty.beq, Prod.ext_iff]

theorem l26_alive_eq : l26_alive = some true := by
  classical
  have hp : l26_pair = some ex26 := rfl
  have t0 : ThrP ex26 0 := ⟨by decide, by decide, by decide⟩
  have t1 : ThrP ex26 1 := ⟨by decide, by decide, by decide⟩
  have h1 : tl ex26 1 = [1] := by decide
  have h0 : tl ex26 0 = [0] := by decide
  have c1 : call_Call ex26 1 5 = some (([true], [(true, 0, 3, 1, 0, true)], [(4, 1, -1, 1, 1), (2, -1, 0, 1, 1)], [], [], 5), (0, 1)) := by
    rw [call_Call_eq fine26 small26 run26]
    unfold callR
    rw [if_neg (by omega), if_neg (by simpa using t1), if_neg (by simp [ex26]), if_neg (by rw [h1]; simp), if_neg (by decide)]
    rfl
  have c0 : call_Call ex26 0 5 = some (ex26, (13, 0)) := by
    rw [call_Call_eq fine26 small26 run26]
    unfold callR
    rw [if_neg (by omega), if_neg (by simpa using t0), if_neg (by simp [ex26]), if_pos (by rw [h0]; simp)]
  have ha : call_Answer ex26 = some (ex26, (14, 0)) := by
    obtain ⟨i', hi', hri⟩ : ∃ i', spawn_Running ex26 = some i' ∧ RunP ex26 i' := (spawn_Running_tot ex26 (by decide))
    have hii : i' = 0 := hri.eq (one_iff.1 fine26.threads.2.1) run26
    subst hii
    have hno : call_no ex26 14 = some (ex26, (14, 0)) := by
      simp only [call_no, state_Copy_eq small26, Option.bind_some, bnd]
    have e : decide ((0 : Int) < 0) = false := by decide
    have e2 : ((th ex26 0).2.2.1 == -1) = true := by decide
    simp only [call_Answer, hi', state_Thread_eq, thr_th t0, Option.bind_some, bnd, e, e2, cond_false, cond_true, hno]
  rw [← Tot.eq_iff]
  simp only [l26_alive, hp, c1, c0, ha, Option.bind_some, beq_reply, Tot.ass_iff, Tot.bnd_iff, Tot.some_iff]
  refine ⟨fun _ => by decide, fun _ => by decide, fun _ => by decide, by decide⟩

theorem CallBack_eq (s : D_api_State) (to u : Int) : l26_CallBack s to u = some true := by
  classical
  rw [← Tot.eq_iff]
  have halive := l26_alive_eq
  simp only [l26_CallBack, halive, (r14_Small_tot s).dec, Option.bind_some]
  by_cases hs : SmallP s
  rotate_left
  · simp [hs, Tot.some_iff]
  simp only [hs, decide_true, Bool.not_true, Bool.not_false, cond_true, Bool.false_or]
  rw [(r14_Fine_tot s hs).dec, Option.bind_some]
  by_cases hf : FineP s
  rotate_left
  · simp [hf, Tot.some_iff]
  simp only [hf, decide_true, Bool.not_true, cond_false]
  obtain ⟨i, hi', hr⟩ : ∃ i, r24_Running s = some i ∧ RunP s i := r24_Running_tot s (by have := hs.2.2.1; omega)
  rw [hi', Option.bind_some, call_Call_eq hf hs hr, Option.bind_some]
  unfold callR
  by_cases h0 : i < 0
  · simp [h0, Tot.some_iff]
  by_cases h1 : ThrP s to
  rotate_left
  · simp [h0, h1, Tot.some_iff]
  by_cases h2 : 1 ≤ u ∧ u ≤ s.2.2.2.2.2
  rotate_left
  · rw [if_neg h0, if_neg (by simpa using h1), if_pos h2]
    simp [Tot.some_iff]
  by_cases h3 : i ∈ tl s to
  · simp [h0, h1, h2, h3, Tot.some_iff]
  by_cases h5 : (th s to).1 = 5
  rotate_left
  · rw [if_neg h0, if_neg (by simpa using h1), if_neg (by simpa using h2), if_neg h3, if_pos h5]
    simp [Tot.some_iff]
  rw [if_neg h0, if_neg (by simpa using h1), if_neg (by simpa using h2), if_neg h3, if_neg (by simpa using h5)]
  -- it is taken
  obtain ⟨i0, i1, i3⟩ : 0 ≤ i ∧ i < (s.2.2.1.length : Int) ∧ (th s i).1 = 3 := by
    rcases hr with ⟨a, _⟩ | h
    · omega
    · exact h
  have hiP : ThrP s i := ⟨i0, i1, by rw [show (rd z_api_Thread s.2.2.1 i).1 = 3 from i3]; omega⟩
  obtain ⟨t0, t1, t2⟩ := id h1
  have hne : i ≠ to := fun hc => h3 (by rw [← hc]; exact mem_tl_self hf.chn hiP)
  have hone := one_iff.1 hf.threads.2.1
  have hto := hf.threads.1 to t0 t1
  have hio := hf.threads.1 i i0 i1
  obtain ⟨L, hL⟩ : ∃ L, L = leftT s i u 4 to := ⟨_, rfl⟩
  have hL1 : L.1 = 4 := by rw [hL]; rfl
  have hLc : L.2.2 = ((th s i).2.2.1, usedF s.2.2.2.2.2 u) := by rw [hL]; rfl
  -- who was called
  obtain ⟨T, hT⟩ : ∃ T, T = th s to := ⟨_, rfl⟩
  rw [← hT] at h5 ⊢
  have hTok : T.2.1 = -1 ∧ T.2.2.1 = -1 ∧ FactOk s T := by
    have : ThreadOk s to T := by rw [hT]; exact hto
    unfold ThreadOk at this
    rw [if_neg (by omega)] at this
    obtain ⟨a, b, c⟩ := this
    exact ⟨by omega, by rcases b with b | b; exact b; exact absurd h5 b.1, c⟩
  obtain ⟨A, hA⟩ : ∃ A, A = setT (setT s i (leftT s i u 4 to)) to (2, T.2.1, i, T.2.2.2) := ⟨_, rfl⟩
  rw [← hA]
  have hthA : ∀ k : Int, 0 ≤ k → th A k = if k = to then (2, T.2.1, i, T.2.2.2) else if k = i then L else th s k := fun k k0 => by
    rw [hA, ← hL, th_setT t0 (by rw [setT_len]; exact t1) k0, th_setT i0 i1 k0]
  have hAlen : A.2.2.1.length = s.2.2.1.length := by rw [hA, setT_len, setT_len]
  have hAs : SmallP A := by rw [hA]; exact small_set (small_set hs)
  have hL0 : L.1 ≠ 0 := by omega
  have hAe : EndsS A := by
    rw [hA, ← hL]
    exact (hf.ends.set i0 i1 hL0).set t0 (by rw [setT_len]; exact t1) (by show (2 : Int) ≠ 0; omega)
  obtain ⟨X, hX⟩ : ∃ X, X = setT A to (3, (th A to).2) := ⟨_, rfl⟩
  have hthX : ∀ k : Int, 0 ≤ k → th X k = if k = to then (3, T.2.1, i, T.2.2.2) else if k = i then L else th s k := fun k k0 => by
    rw [hX, th_setT t0 (by rw [hAlen]; exact t1) k0, hthA k k0, hthA to t0, if_pos rfl]
    split <;> rfl
  have hXlen : X.2.2.1.length = s.2.2.1.length := by rw [hX, setT_len, hAlen]
  have hXs : SmallP X := by rw [hX]; exact small_set hAs
  have hXe : EndsS X := by rw [hX]; exact hAe.set t0 (by rw [hAlen]; exact t1) (by show (3 : Int) ≠ 0; omega)
  have hrunX : ∀ k : Int, 0 ≤ k → k < (s.2.2.1.length : Int) → (th X k).1 = 3 → k = to := by
    intro k k0 k1 k3
    rw [hthX k k0] at k3
    by_cases hk : k = to
    · exact hk
    · rw [if_neg hk] at k3
      by_cases hki : k = i
      · rw [if_pos hki, hL1] at k3; omega
      · rw [if_neg hki] at k3
        exact absurd (hone k i k0 k1 i0 i1 k3 i3) hki
  have hXo : OneP X := fun j k j0 j1 k0 k1 j3 k3 => by
    rw [hXlen] at j1 k1
    rw [hrunX j j0 j1 j3, hrunX k k0 k1 k3]
  have hXto : th X to = (3, T.2.1, i, T.2.2.2) := by rw [hthX to t0, if_pos rfl]
  have hXi : th X i = L := by rw [hthX i i0, if_neg hne, if_pos rfl]
  have hXr : RunP X to := .inr ⟨t0, by rw [hXlen]; exact t1, by rw [hXto]⟩
  have hXiP : ThrP X i := ⟨i0, by rw [hXlen]; exact i1, by rw [show rd z_api_Thread X.2.2.1 i = L from hXi]; exact hL0⟩
  have hans := call_Answer_eq hXe hXs (by rw [hXlen]; exact hf.threads.2.2.1) hXo hXr t0 (c := i) (by rw [hXto]) hXiP
  rw [hXto, hXi] at hans
  obtain ⟨B, hB⟩ : ∃ B, B = setT (setT X to (3, T.2.1, -1, T.2.2.2)) i (2, -1, L.2.2) := ⟨_, rfl⟩
  have hthB : ∀ k : Int, 0 ≤ k → th B k = if k = i then (2, -1, L.2.2) else if k = to then (3, T.2.1, -1, T.2.2.2) else th s k := fun k k0 => by
    rw [hB, th_setT i0 (by rw [setT_len, hXlen]; exact i1) k0, th_setT t0 (by rw [hXlen]; exact t1) k0, hthX k k0]
    by_cases hk : k = i
    · simp only [if_pos hk]
    · by_cases hkt : k = to
      · simp only [if_neg hk, if_pos hkt]
      · simp only [if_neg hk, if_neg hkt]
  have hBlen : B.2.2.1.length = s.2.2.1.length := by rw [hB, setT_len, setT_len, hXlen]
  have hBi : th B i = (2, -1, L.2.2) := by rw [hthB i i0, if_pos rfl]
  have hB1 : B.1 = s.1 := by rw [hB, hX, hA]; rfl
  have hB2 : B.2.1 = s.2.1 := by rw [hB, hX, hA]; rfl
  have hB3 : B.2.2.2 = s.2.2.2 := by rw [hB, hX, hA]; rfl
  have hBs : SmallP B := by rw [hB]; exact small_set (small_set hXs)
  -- it may be
  have hlike : Like s B := by
    refine ⟨hB1, hB2, hB3, hBlen, fun k k0 k1 => ?_, fun k k0 k1 => ?_, fun k k0 k1 => ?_, fun k k0 k1 => ?_⟩
    · rw [hthB k k0]
      by_cases hk : k = i
      · rw [if_pos hk, hk, i3]; simp
      · rw [if_neg hk]
        by_cases hkt : k = to
        · rw [if_pos hkt, hkt, ← hT, h5]; simp
        · rw [if_neg hkt]
    · intro hw
      rw [hthB k k0] at hw ⊢
      by_cases hk : k = i
      · rw [if_pos hk, hk, i3] at hw; simp at hw
      · rw [if_neg hk] at hw ⊢
        by_cases hkt : k = to
        · rw [if_pos hkt, hkt, ← hT, h5] at hw; simp at hw
        · rw [if_neg hkt]
    · rw [hthB k k0]
      by_cases hk : k = i
      · rw [if_pos hk, hk]
        show L.2.2.1 = _
        rw [hLc]
      · rw [if_neg hk]
        by_cases hkt : k = to
        · rw [if_pos hkt, hkt, ← hT]
          exact hTok.2.1.symm
        · rw [if_neg hkt]
    · intro hw
      rw [hthB k k0] at hw
      by_cases hk : k = i
      · rw [if_pos hk] at hw; simp at hw
      · rw [if_neg hk] at hw
        by_cases hkt : k = to
        · rw [if_pos hkt] at hw; simp at hw
        · rw [if_neg hkt] at hw; exact hw
  have hBf : FineP B := by
    refine hlike.fine hf (fun k k0 k1 => ?_) (one_iff.2 fun j k j0 j1 k0 k1 j3 k3 => ?_)
    · rw [hthB k k0]
      by_cases hk : k = i
      · rw [if_pos hk, hk]
        have hq := hf.q1
        unfold ThreadOk at hio ⊢
        rw [if_neg (by show ¬ (th s i).1 = 0; omega)] at hio
        rw [if_neg (by show ¬ (2 : Int) = 0; omega), hLc]
        refine ⟨.inl ⟨by show (0 : Int) < 2; omega, by show (2 : Int) < 6; omega, by show (2 : Int) ≠ 4; omega, rfl⟩, ?_, ?_⟩
        · rcases hio.2.1 with hc | hc
          · exact .inl hc
          · exact .inr ⟨by show (2 : Int) ≠ 5; omega, hc.2⟩
        · show ((usedF s.2.2.2.2.2 u).1 = 1 ∧ (usedF s.2.2.2.2.2 u).2 = 1) ∨ (1 ≤ (usedF s.2.2.2.2.2 u).2 ∧ (usedF s.2.2.2.2.2 u).2 < (usedF s.2.2.2.2.2 u).1 ∧ (usedF s.2.2.2.2.2 u).1 ≤ s.2.2.2.2.2)
          unfold usedF
          split
          · exact .inl ⟨rfl, rfl⟩
          · exact .inr ⟨h2.1, by show u < s.2.2.2.2.2; omega, Int.le_refl _⟩
      · rw [if_neg hk]
        by_cases hkt : k = to
        · rw [if_pos hkt]
          unfold ThreadOk
          rw [if_neg (by show ¬ (3 : Int) = 0; omega)]
          exact ⟨.inl ⟨by show (0 : Int) < 3; omega, by show (3 : Int) < 6; omega, by show (3 : Int) ≠ 4; omega, hTok.1⟩, .inl rfl, hTok.2.2⟩
        · rw [if_neg hkt]
          exact hf.threads.1 k k0 k1
    · rw [hBlen] at j1 k1
      have one : ∀ k : Int, 0 ≤ k → k < (s.2.2.1.length : Int) → (th B k).1 = 3 → k = to := by
        intro k k0 k1 k3
        rw [hthB k k0] at k3
        by_cases hk : k = i
        · rw [if_pos hk] at k3; simp at k3
        · rw [if_neg hk] at k3
          by_cases hkt : k = to
          · exact hkt
          · rw [if_neg hkt] at k3
            exact absurd (hone k i k0 k1 i0 i1 k3 i3) hk
      rw [one j j0 j1 j3, one k k0 k1 k3]
  -- what is wanted
  have hwant : B = setT (setT s to (3, (th s to).2)) i (th B i) := by
    refine stExt hB1 hB2 hB3 (by rw [hBlen, setT_len, setT_len]) fun k k0 k1 => ?_
    rw [th_setT i0 (by rw [setT_len]; exact i1) k0, th_setT t0 t1 k0, hBi, hthB k k0]
    by_cases hk : k = i
    · simp only [if_pos hk]
    · by_cases hkt : k = to
      · simp only [if_neg hk, if_pos hkt, ← hT]
        obtain ⟨q1, q2, q3⟩ := hTok
        obtain ⟨a, b, c, d⟩ := T
        simp only at q1 q2
        simp only [q2]
      · simp only [if_neg hk, if_neg hkt]
  have hsame : r14_Same B B = some true := by
    rw [(r14_Same_tot B hBs).dec]
    congr 1
    exact @decide_eq_true _ (Classical.propDecidable _) rfl
  have hfine : r14_Fine B = some true := by
    rw [(r14_Fine_tot B hBs).dec]
    congr 1
    exact @decide_eq_true _ (Classical.propDecidable _) hBf
  have hXe : (A.1, A.2.1, wr A.2.2.1 to ((3 : Int), (rd z_api_Thread A.2.2.1 to).2), A.2.2.2) = X := by rw [hX]; rfl
  have hWe : (s.1, s.2.1, wr s.2.2.1 to ((3 : Int), (rd z_api_Thread s.2.2.1 to).2), s.2.2.2) = setT s to (3, (th s to).2) := rfl
  have hrep : Ty.beq T_api_Reply (0, i) ((0 : Int), i) = true := by rw [beq_reply]; simp
  have hwe2 : ((setT s to (3, (th s to).2)).1, (setT s to (3, (th s to).2)).2.1, wr (setT s to (3, (th s to).2)).2.2.1 i (rd z_api_Thread B.2.2.1 i), (setT s to (3, (th s to).2)).2.2.2) = B := hwant.symm
  have hb2 : ((rd z_api_Thread B.2.2.1 i).1 == (2 : Int)) = true := by
    show ((th B i).1 == 2) = true
    rw [hBi]; rfl
  have hbc : ((rd z_api_Thread B.2.2.1 i).2.2.1 == (rd z_api_Thread s.2.2.1 i).2.2.1) = true := by
    show ((th B i).2.2.1 == (th s i).2.2.1) = true
    rw [hBi]
    show (L.2.2.1 == _) = true
    rw [hLc]; simp
  have e1 : ((0 : Int) != 0) = false := by decide
  have e2 : ((1 : Int) != 1) = false := by decide
  have hal : (t0 : 0 ≤ to) = t0 := rfl
  rw [← hB] at hans
  simp only [e1, e2, Bool.or_self, cond_false, r14_Copy_eq' hAs, r14_Copy_eq' hs, Option.bind_some, Tot.ass_iff, Tot.bnd_iff, hXe, hans, hrep, Bool.not_true, hWe, hwe2, hsame, hb2, hbc, Bool.and_self, cond_true, hfine, Tot.some_iff]
  refine ⟨⟨t0, by rw [hAlen]; exact t1⟩, ⟨t0, t1⟩, ⟨i0, by rw [hBlen]; exact i1⟩, ⟨i0, by rw [setT_len]; exact i1⟩, fun _ => ⟨i0, by rw [hBlen]; exact i1⟩, fun _ => ⟨i0, by rw [hBlen]; exact i1⟩, fun _ => ⟨i0, i1⟩, trivial⟩
end Go.Tom
