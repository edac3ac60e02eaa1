/- Chapter 17's example; what the chapter tells. -/
import Derived.Test.YtagcgcpapjidcaaPW
set_option linter.unusedVariables false
set_option linter.unusedSimpArgs false
namespace Go.Tom
open Go

theorem arr17 : coinArrows alive17 = [(0, 1)] := by decide

theorem fine17 : FineP alive17 where
  q1 := by decide
  q2 := by decide
  c1 := by decide
  c2 := by decide
  first := by decide
  last := by decide
  tickets := by
    refine ⟨fun k k0 k1 => ?_, by decide, .inr (by decide)⟩
    have : k = 0 ∨ k = 1 := by simp [alive17] at k1; omega
    rcases this with rfl | rfl
    · unfold TicketOk
      rw [if_pos (by decide)]
      exact ⟨⟨by decide, by decide, by decide⟩, by decide, by decide, .inr (.inl ⟨by decide, ⟨by decide, by decide, by decide⟩⟩)⟩
    · unfold TicketOk
      rw [if_pos (by decide)]
      exact ⟨⟨by decide, by decide, by decide⟩, by decide, by decide, .inr (.inr ⟨by decide, by decide, ⟨by decide, by decide, by decide⟩⟩)⟩
  threads := by
    refine ⟨fun k k0 k1 => ?_, by decide, by decide, .inr (by decide)⟩
    have : k = 0 := by simp [alive17] at k1; omega
    subst this
    unfold ThreadOk
    rw [if_neg (by decide)]
    exact ⟨.inl (by decide), .inl (by decide), .inl (by decide)⟩
  locks := ⟨fun k k0 k1 => by simp [alive17] at k1; omega, by decide, .inl (by decide)⟩
  queue := by
    refine ⟨fun i i0 i1 => ?_, fun k k0 k1 => by simp [alive17] at k1; omega⟩
    have : i = 0 := by simp [alive17] at i1; omega
    subst this
    exact ⟨⟨fun h => absurd h (by unfold QueuesP; decide), fun h => absurd h (by decide)⟩, by decide, fun h => absurd h (by decide)⟩
  coinRing := by
    rw [arr17]
    intro h
    have := (ring_iff (n := alive17.1.length) (l := [(0, 1)]) (by omega)).2 h
    exact absurd this (by decide)
  thrRing := by
    have e : thrArrows alive17 = [] := by decide
    rw [e]
    intro h
    have := (ring_iff (n := alive17.2.2.1.length) (l := []) (by omega)).2 h
    exact absurd this (by decide)

theorem l17_alive_eq : l17_alive = some true := by
  classical
  obtain ⟨cs, am, h1, h2, h3, h4, hT, hA, hD, hW⟩ := live_all fine17
  have hx : (([true, true], [(true, (0 : Int), (3 : Int), (1 : Int), (0 : Int), true), (true, (0 : Int), (4 : Int), (2 : Int), (1 : Int), true)], [((2 : Int), (-1 : Int), (-1 : Int), (1 : Int), (1 : Int))], ([] : List D_api_Lock), ([] : List Int), (5 : Int)) : D_api_State) = alive17 := rfl
  have l1 : cs.length = 2 := h1
  have l2 : am.length = 2 := h2
  have a0 : amtI alive17 0 = 3 := by decide
  have a1 : amtI alive17 1 = 0 := by decide
  have b0 : cntB alive17 0 = true := by decide
  have b1 : cntB alive17 1 = false := by decide
  have c0 := h3 0 (by decide) (by decide)
  have c1 := h3 1 (by decide) (by decide)
  have d0 := h4 0 (by decide) (by decide)
  have d1 := h4 1 (by decide) (by decide)
  rw [b0] at c0
  rw [b1] at c1
  rw [a0] at d0
  rw [a1] at d1
  have ham : am = [3, 0] := by
    match am, l2, d0, d1 with
    | [x, y], _, d0, d1 =>
      have e0 : x = 3 := d0
      have e1 : y = 0 := d1
      rw [e0, e1]
  have hdl : deadL alive17 = [1] := by decide
  have k0 : CoinP alive17 0 := ⟨by decide, by decide, by decide⟩
  have i1 := r11_Ints_eq [3, 0] [3, 0] (by decide)
  have i2 := r11_Ints_eq [1] [1] (by decide)
  rw [hdl] at hD
  rw [ham] at hA
  rw [← Tot.eq_iff]
  simp only [l17_alive, Tot.bnd_iff, hx, hT, hA, hD, hW, Tot.bind_iff, Tot.some_iff, Tot.ass_iff, l1, c0, c1]
  simp [a0, a1, k0, i1, i2, Tot.some_iff, l1]

/-- WHAT CHAPTER 17 TELLS. -/
theorem LiveTells_eq (s : D_api_State) (c : Int) : l17_LiveTells s c = some true := LiveTells_of l17_alive_eq s c
end Go.Tom
