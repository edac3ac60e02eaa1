/- Who runs leaves, calls, answers. -/
import Derived.Test.YtoalafcmlgjlpaaRA
set_option linter.unusedVariables false
set_option linter.unusedSimpArgs false
namespace Go.Tom
open Go

/-- What is used of a quantum, as a factor. -/
def usedF (q u : Int) : Int × Int := if u = q then (1, 1) else (q, u)

theorem factor_Used_eq {q u : Int} (h1 : 1 ≤ u) (h2 : u ≤ q) : factor_Used q u = some ((usedF q u).1, (usedF q u).2, 0) := by
  rw [← Tot.eq_iff]
  have e : ((decide (u < (1 : Int))) || (decide (u > q))) = false := by simp; omega
  simp only [factor_Used, e, cond_false]
  unfold usedF
  by_cases hu : u = q
  · simp [hu, Tot.some_iff]
  · have e2 : (u == q) = false := by simpa using hu
    simp [hu, e2, Tot.some_iff]

theorem thr_th {s : D_api_State} {i : Int} (h : ThrP s i) : thrOf s i = (th s i, true) := by unfold thrOf; rw [if_pos h]

theorem th_wf {s : D_api_State} {i : Int} (h : ThrP s i) : (th s i).1 ≠ 0 := h.2.2

theorem factor_Give_eq {s : D_api_State} (hs : SmallP s) (he : EndsS s) (h32 : s.2.2.1.length ≤ 32) {i u : Int} (hi : ThrP s i) (h1 : 1 ≤ u) (h2 : u ≤ s.2.2.2.2.2) :
    factor_Give s i u = some (setT s i ((th s i).1, (th s i).2.1, (th s i).2.2.1, usedF s.2.2.2.2.2 u), 0) := by
  have hput : state_PutThread s i ((th s i).1, (th s i).2.1, (th s i).2.2.1, (usedF s.2.2.2.2.2 u).1, (usedF s.2.2.2.2.2 u).2) = some (setT s i ((th s i).1, (th s i).2.1, (th s i).2.2.1, usedF s.2.2.2.2.2 u)) := PutThread_set hs he hi.1 hi.2.1 h32 (by exact hi.2.2)
  simp only [factor_Give, factor_with, state_Thread_eq, thr_th hi, factor_Used_eq h1 h2, Option.bind_some, Bool.not_true, cond_false, bne_self_eq_false, bnd, hput]

/-- What a runner is when it leaves. -/
def leftT (s : D_api_State) (i u st fo : Int) : D_api_Thread := (st, fo, (th s i).2.2.1, usedF s.2.2.2.2.2 u)

theorem setT_twice {s : D_api_State} {i : Int} {x y : D_api_Thread} (h0 : 0 ≤ i) : setT (setT s i x) i y = setT s i y := by
  unfold setT
  simp [wr]

theorem turn_Leave_eq {s : D_api_State} (hf : FineP s) (hs : SmallP s) {i u : Int} (hr : RunP s i) (h0 : 0 ≤ i) (h1 : 1 ≤ u) (h2 : u ≤ s.2.2.2.2.2) {st fo : Int} (hst : st ≠ 0) (x : Int × Int × Int) :
    turn_Leave s u (st, fo, x) = some (setT s i (leftT s i u st fo), (0, i)) := by
  obtain ⟨i', hi', hri⟩ : ∃ i', spawn_Running s = some i' ∧ RunP s i' := (spawn_Running_tot s (by have := hs.2.2.1; omega))
  have hii : i' = i := hri.eq (one_iff.1 hf.threads.2.1) hr
  subst hii
  have hi : ThrP s i' := by
    rcases hr with ⟨a, _⟩ | ⟨a, b, c⟩
    · omega
    · exact ⟨a, b, by rw [c]; omega⟩
  have h32 := hf.threads.2.2.1
  have e : decide (i' < 0) = false := by simp; omega
  obtain ⟨y, hy⟩ : ∃ y, y = setT s i' ((th s i').1, (th s i').2.1, (th s i').2.2.1, usedF s.2.2.2.2.2 u) := ⟨_, rfl⟩
  have hth : th y i' = ((th s i').1, (th s i').2.1, (th s i').2.2.1, usedF s.2.2.2.2.2 u) := by rw [hy, th_setT hi.1 hi.2.1 hi.1, if_pos rfl]
  have hyi : ThrP y i' := ⟨hi.1, by rw [hy, setT_len]; exact hi.2.1, by show (th y i').1 ≠ 0; rw [hth]; exact hi.2.2⟩
  have hput : state_PutThread y i' (st, fo, (th y i').2.2) = some (setT y i' (st, fo, (th y i').2.2)) :=
    PutThread_set (by rw [hy]; exact small_set hs) (by rw [hy]; exact hf.ends.set hi.1 hi.2.1 (by exact hi.2.2)) hyi.1 hyi.2.1 (by rw [hy, setT_len]; exact h32) hst
  rw [← Tot.eq_iff]
  simp only [turn_Leave, hi', e, factor_Give_eq hs hf.ends h32 hi h1 h2, ← hy, Option.bind_some, cond_false, bne_self_eq_false, state_Thread_eq, thr_th hyi, hput, Tot.bnd_iff, Tot.some_iff]
  rw [hth, hy, setT_twice hi.1]
  rfl

/-- What a call makes of a state, and what is answered. -/
noncomputable def callR (s : D_api_State) (i to u : Int) : D_api_State × D_api_Reply :=
  open Classical in
  if i < 0 then (s, (16, 0)) else if ¬ ThrP s to then (s, (7, 0)) else if ¬ (1 ≤ u ∧ u ≤ s.2.2.2.2.2) then (s, (6, 0)) else if i ∈ tl s to then (s, (13, 0)) else
    if (th s to).1 ≠ 5 then (((setT s i (leftT s i u 4 to)).1, (setT s i (leftT s i u 4 to)).2.1, (setT s i (leftT s i u 4 to)).2.2.1, s.2.2.2.1, s.2.2.2.2.1 ++ [i], s.2.2.2.2.2), (0, 0))
    else (setT (setT s i (leftT s i u 4 to)) to (2, (th s to).2.1, i, (th s to).2.2.2), (0, 1))

theorem mem_tl_self {s : D_api_State} (h : Chn s) {i : Int} (hi : ThrP s i) : i ∈ tl s i := by
  rw [tl_eq h hi]; split <;> simp

theorem call_Call_eq {s : D_api_State} (hf : FineP s) (hs : SmallP s) {i : Int} (hr : RunP s i) (to u : Int) : call_Call s to u = some (callR s i to u) := by
  classical
  obtain ⟨i', hi', hri⟩ : ∃ i', spawn_Running s = some i' ∧ RunP s i' := (spawn_Running_tot s (by have := hs.2.2.1; omega))
  have hii : i' = i := hri.eq (one_iff.1 hf.threads.2.1) hr
  subst hii
  have hno : ∀ e : Int, call_no s e = some (s, (e, 0)) := fun e => by
    rw [← Tot.eq_iff]
    simp only [call_no, state_Copy_eq hs, Option.bind_some, Tot.bnd_iff, Tot.some_iff]
  have hwi : call_within s u = some (decide (1 ≤ u ∧ u ≤ s.2.2.2.2.2)) := by
    rw [← Tot.eq_iff]
    simp only [call_within, Tot.bnd_iff, Tot.some_iff, ge_iff_le]
    rw [Bool.eq_iff_iff]; simp
  rw [← Tot.eq_iff]
  unfold callR
  simp only [call_Call, hi', hno, hwi, state_Thread_eq, chain_Closes_eq hf.chn, Option.bind_some, Tot.bnd_iff, Tot.some_iff]
  by_cases h0 : i' < 0
  · simp [h0, Tot.some_iff]
  have e0 : decide (i' < 0) = false := by simp; omega
  rw [if_neg h0, e0, cond_false, thr_snd]
  by_cases h1 : ThrP s to
  rotate_left
  · simp [h1, Tot.some_iff]
  rw [if_neg (by simpa using h1), thr_th h1, decide_eq_true h1]
  by_cases h2 : 1 ≤ u ∧ u ≤ s.2.2.2.2.2
  rotate_left
  · simp [h2, Tot.some_iff]
  rw [if_neg (by simpa using h2), decide_eq_true h2]
  by_cases h3 : i' ∈ tl s to
  · simp [h3, Tot.some_iff]
  rw [if_neg h3]
  have e3 : decide (i' ∈ tl s to) = false := decide_eq_false h3
  have hi : ThrP s i' := by
    rcases hr with ⟨a, _⟩ | ⟨a, b, c⟩
    · omega
    · exact ⟨a, b, by rw [c]; omega⟩
  have hlv := turn_Leave_eq hf hs hr (by omega) h2.1 h2.2 (st := 4) (fo := to) (by omega) ((0 : Int), (0 : Int), (0 : Int))
  simp only [Bool.not_true, cond_false, e3, hlv, Option.bind_some]
  have hlen := setT_len s i' (leftT s i' u 4 to)
  by_cases h5 : (th s to).1 ≠ 5
  · have e5 : ((th s to).1 != 5) = true := by simpa using h5
    rw [if_pos h5, e5, cond_true]
    have := hs.2.2.2.2
    refine Tot.ass_iff.2 ⟨?_, ?_⟩
    · show (((s.2.2.2.2.1.length + 1 : Nat) : Nat) : Int) ≤ limA
      unfold limA; omega
    · simp only [Tot.bnd_iff, Tot.some_iff]
      rfl
  · have e5 : ((th s to).1 != 5) = false := by simpa using h5
    rw [if_neg h5, e5, cond_false]
    have hL : (leftT s i' u 4 to).1 ≠ 0 := by show (4 : Int) ≠ 0; omega
    have hput : state_PutThread (setT s i' (leftT s i' u 4 to)) to (2, (th s to).2.1, i', (th s to).2.2.2) = some (setT (setT s i' (leftT s i' u 4 to)) to (2, (th s to).2.1, i', (th s to).2.2.2)) :=
      PutThread_set (small_set hs) (hf.ends.set hi.1 hi.2.1 hL) h1.1 (by rw [hlen]; exact h1.2.1) (by rw [hlen]; exact hf.threads.2.2.1) (by show (2 : Int) ≠ 0; omega)
    simp only [Tot.bnd_iff, hput, Option.bind_some, Tot.some_iff]

/-- An answer. -/
theorem call_Answer_eq {s : D_api_State} (he : EndsS s) (hs : SmallP s) (h32 : s.2.2.1.length ≤ 32) (ho : OneP s) {i : Int} (hr : RunP s i) (hi : 0 ≤ i) {c : Int} (hc : (th s i).2.2.1 = c) (hcP : ThrP s c) :
    call_Answer s = some (setT (setT s i ((th s i).1, (th s i).2.1, -1, (th s i).2.2.2)) c (2, -1, (th s c).2.2), (0, c)) := by
  obtain ⟨i', hi', hri⟩ : ∃ i', spawn_Running s = some i' ∧ RunP s i' := (spawn_Running_tot s (by omega))
  have hii : i' = i := hri.eq ho hr
  subst hii
  have hiP : ThrP s i' := by
    rcases hr with ⟨a, _⟩ | ⟨a, b, c⟩
    · omega
    · exact ⟨a, b, by rw [c]; omega⟩
  have e0 : decide (i' < 0) = false := by simp; omega
  have e1 : (c == -1) = false := by have := hcP.1; simp; omega
  have hp1 : state_PutThread s i' ((th s i').1, (th s i').2.1, -1, (th s i').2.2.2) = some (setT s i' ((th s i').1, (th s i').2.1, -1, (th s i').2.2.2)) := PutThread_set hs he hiP.1 hiP.2.1 h32 (by exact hiP.2.2)
  have hlen := setT_len s i' ((th s i').1, (th s i').2.1, -1, (th s i').2.2.2)
  have hp2 : state_PutThread (setT s i' ((th s i').1, (th s i').2.1, -1, (th s i').2.2.2)) c (2, -1, (th s c).2.2) = some (setT (setT s i' ((th s i').1, (th s i').2.1, -1, (th s i').2.2.2)) c (2, -1, (th s c).2.2)) :=
    PutThread_set (small_set hs) (he.set hiP.1 hiP.2.1 (by exact hiP.2.2)) hcP.1 (by rw [hlen]; exact hcP.2.1) (by rw [hlen]; exact h32) (by show (2 : Int) ≠ 0; omega)
  rw [← Tot.eq_iff]
  simp only [call_Answer, hi', e0, state_Thread_eq, thr_th hiP, hc, e1, Option.bind_some, cond_false, Tot.bnd_iff, hp1, hp2, Tot.some_iff, Tot.ass_iff]
  exact ⟨⟨hcP.1, hcP.2.1⟩, trivial⟩
end Go.Tom
