/- A ticket that would close a ring. -/
import Derived.Test.YtagcgcpapjidcaaPM
set_option linter.unusedVariables false
set_option linter.unusedSimpArgs false
namespace Go.Tom
open Go

theorem rd_snoc {α : Type} {z : α} {xs : List α} {y : α} {k : Int} (h0 : 0 ≤ k) : rd z (xs ++ [y]) k = if k < (xs.length : Int) then rd z xs k else if k = (xs.length : Int) then y else z := by
  unfold rd
  rw [List.getD_eq_getElem?_getD, List.getD_eq_getElem?_getD]
  by_cases h : k < (xs.length : Int)
  · rw [if_pos h, List.getElem?_append_left (by omega)]
  · rw [if_neg h, List.getElem?_append_right (by omega)]
    by_cases h2 : k = (xs.length : Int)
    · subst h2; simp
    · rw [if_neg h2, List.getElem?_eq_none (by simp; omega)]; rfl

theorem rr_snoc {n : Int} {l : List (Int × Int)} {a b x y : Int} (ha : 0 ≤ a ∧ a < n) (hb : 0 ≤ b ∧ b < n) : RR n (l ++ [(a, b)]) x y ↔ RR n l x y ∨ (x = a ∧ y = b) := by
  unfold RR
  simp only [List.mem_append, List.mem_singleton, Prod.mk.injEq]
  constructor
  · rintro ⟨h | h, h2⟩
    · exact .inl ⟨h, h2⟩
    · exact .inr h
  · rintro (⟨h, h2⟩ | ⟨rfl, rfl⟩)
    · exact ⟨.inl h, h2⟩
    · exact ⟨.inr ⟨rfl, rfl⟩, ha.1, ha.2, hb.1, hb.2⟩

theorem tc_snoc {n : Int} {l : List (Int × Int)} {a b x y : Int} (ha : 0 ≤ a ∧ a < n) (hb : 0 ≤ b ∧ b < n) (h : Relation.TransGen (RR n (l ++ [(a, b)])) x y) :
    Relation.TransGen (RR n l) x y ∨ ((x = a ∨ Relation.TransGen (RR n l) x a) ∧ (b = y ∨ Relation.TransGen (RR n l) b y)) := by
  induction h with
  | single h =>
    rcases (rr_snoc ha hb).1 h with h | ⟨rfl, rfl⟩
    · exact .inl (.single h)
    · exact .inr ⟨.inl rfl, .inl rfl⟩
  | tail _ h ih =>
    rcases (rr_snoc ha hb).1 h with h | ⟨rfl, rfl⟩
    · rcases ih with ih | ⟨i1, i2⟩
      · exact .inl (.tail ih h)
      · refine .inr ⟨i1, .inr ?_⟩
        rcases i2 with rfl | i2
        · exact .single h
        · exact .tail i2 h
    · rcases ih with ih | ⟨i1, _⟩
      · exact .inr ⟨.inr ih, .inl rfl⟩
      · exact .inr ⟨i1, .inl rfl⟩

theorem ring_snoc {n : Int} {l : List (Int × Int)} {a b : Int} (ha : 0 ≤ a ∧ a < n) (hb : 0 ≤ b ∧ b < n) (hnr : ¬ RingP n l) : RingP n (l ++ [(a, b)]) ↔ a = b ∨ Relation.TransGen (RR n l) b a := by
  constructor
  · rintro ⟨i, i0, i1, h⟩
    rcases tc_snoc ha hb h with h | ⟨h1, h2⟩
    · exact absurd ⟨i, i0, i1, h⟩ hnr
    · rcases h1 with rfl | h1 <;> rcases h2 with rfl | h2
      · exact .inl rfl
      · exact .inr h2
      · exact .inr h1
      · exact .inr (h2.trans h1)
  · have mono : ∀ x y, Relation.TransGen (RR n l) x y → Relation.TransGen (RR n (l ++ [(a, b)])) x y := fun x y h => by
      induction h with
      | single h => exact .single ((rr_snoc ha hb).2 (.inl h))
      | tail _ h ih => exact .tail ih ((rr_snoc ha hb).2 (.inl h))
    have hab : RR n (l ++ [(a, b)]) a b := (rr_snoc ha hb).2 (.inr ⟨rfl, rfl⟩)
    rintro (rfl | h)
    · exact ⟨a, ha.1, ha.2, .single hab⟩
    · exact ⟨b, hb.1, hb.2, .tail (mono _ _ h) hab⟩

/-- A state with one ticket more. -/
def more (s : D_api_State) (t : D_api_Ticket) : D_api_State := (s.1, s.2.1 ++ [t], s.2.2)

theorem coinArrows_more {s : D_api_State} {t : D_api_Ticket} : coinArrows (more s t) = coinArrows s ++ coinArr t := by
  unfold coinArrows more
  simp only [List.length_append, List.length_singleton]
  have h := buildL_step (f := fun k => coinArr (rd z_api_Ticket (s.2.1 ++ [t]) k)) (x := (s.2.1.length : Int)) (by omega)
  rw [show ((s.2.1.length : Int) + 1).toNat = s.2.1.length + 1 from by omega, Int.toNat_natCast] at h
  rw [h]
  congr 1
  · refine buildL_congr fun k k0 k1 => ?_
    rw [rd_snoc k0, if_pos k1]
  · rw [rd_snoc (by omega), if_neg (by omega), if_pos rfl]

theorem FineP.more_iff {s : D_api_State} (h : FineP s) {a b : Int} (ha : CoinP s a) (hb : CoinP s b) (hb0 : b ≠ 0) (hl : s.2.1.length < 96) : FineP (more s (true, a, 1, 2, b, false)) ↔ ¬ ((CoinP s a ∧ a = b) ∨ FundsP s b a) := by
  have hr := ring_snoc (n := (s.1.length : Int)) (l := coinArrows s) (a := a) (b := b) ⟨ha.1, ha.2.1⟩ ⟨hb.1, hb.2.1⟩ h.coinRing
  have harr : coinArrows (more s (true, a, 1, 2, b, false)) = coinArrows s ++ [(a, b)] := by rw [coinArrows_more]; rfl
  have hiff : ((CoinP s a ∧ a = b) ∨ FundsP s b a) ↔ a = b ∨ Relation.TransGen (RR s.1.length (coinArrows s)) b a := by
    unfold FundsP
    simp [ha, hb]
  rw [hiff, ← hr]
  constructor
  · intro hf
    have := hf.coinRing
    rw [harr] at this
    exact this
  · intro hn
    refine ⟨h.q1, h.q2, h.c1, h.c2, h.first, h.last, ⟨fun k k0 k1 => ?_, ?_, .inr ?_⟩, h.threads, h.locks, h.queue, by rw [harr]; exact hn, h.thrRing⟩
    · simp only [more] at k1 ⊢
      rw [rd_snoc k0]
      by_cases hk : k < (s.2.1.length : Int)
      · rw [if_pos hk]
        exact h.tickets.1 k k0 hk
      · have hk2 : k = (s.2.1.length : Int) := by
          simp only [List.length_append, List.length_singleton] at k1
          omega
        rw [if_neg hk, if_pos hk2]
        unfold TicketOk
        rw [if_pos rfl]
        exact ⟨ha, Int.le_refl 1, (by decide : (1 : Int) ≤ 1048576), .inr (.inr ⟨rfl, hb0, hb⟩)⟩
    · simp only [more, List.length_append, List.length_singleton]; omega
    · simp only [more, List.length_append, List.length_singleton]
      rw [rd_snoc (by omega), if_neg (by omega), if_pos (by omega)]

/-- FundCloses. -/
theorem FundCloses_eq (s : D_api_State) (a b : Int) : l15_FundCloses s a b = some true := by
  classical
  rw [← Tot.eq_iff]
  simp only [l15_FundCloses, l15_alive_eq, (r14_Small_tot s).dec, r14_Coin_eq, cond_some, Tot.cond_iff, Tot.ass_iff, Tot.bnd_iff, Tot.some_iff, Tot.map_iff, Tot.bind_iff, Nx.inl_iff, Nx.inr_iff, decide_eq_true_eq, decide_eq_false_iff_not]
  by_cases hs : SmallP s
  · simp only [hs, decide_true, Bool.not_true, Bool.not_false, Bool.false_or, true_implies, Bool.true_eq_false, false_implies, and_true]
    rw [(r14_Fine_tot s hs).dec, Tot.some_iff]
    by_cases hf : FineP s
    · by_cases ha : CoinP s a
      · by_cases hb : CoinP s b
        · simp only [hf, ha, hb, decide_true, cond_true, cond_false, Bool.or_self, Bool.not_true, Bool.not_false, Bool.false_or, true_implies, Bool.true_eq_false, false_implies, and_true, Bool.or_eq_true, beq_iff_eq, decide_eq_true_eq, Bool.or_eq_false_iff, beq_eq_false_iff_ne, decide_eq_false_iff_not]
          refine ⟨fun _ => trivial, fun ⟨hb0, hl⟩ => ?_⟩
          have hl' : s.2.1.length < 96 := by omega
          have hmore : ((s.1, ([] : List D_api_Ticket) ++ s.2.1 ++ [(true, a, (1 : Int), (2 : Int), b, false)], s.2.2) : D_api_State) = more s (true, a, 1, 2, b, false) := by simp [more]
          obtain ⟨m1, m2, m3, m4, m5⟩ := id hs
          have hsm : SmallP (more s (true, a, 1, 2, b, false)) := ⟨m1, by simp [more]; omega, m3, m4, m5⟩
          refine ⟨by unfold limA; simp; omega, by unfold limA; simp; omega, ?_⟩
          rw [hmore, (r14_Fine_tot _ hsm).dec, fund_Closes_eq s a b (by omega) (by omega)]
          have hiff := hf.more_iff ha hb hb0 hl'
          simp only [cond_some, Tot.cond_iff, Tot.ass_iff, Tot.bnd_iff, Tot.some_iff, Tot.map_iff, Tot.bind_iff, Nx.inl_iff, Nx.inr_iff, decide_eq_true_eq, decide_eq_false_iff_not]
          by_cases hc : (CoinP s a ∧ a = b) ∨ FundsP s b a
          · have hnf : ¬ FineP (more s (true, a, 1, 2, b, false)) := fun h => hiff.1 h hc
            simp [hc, hnf]
          · have hnf : FineP (more s (true, a, 1, 2, b, false)) := hiff.2 hc
            simp [hc, hnf]
        · simp [hf, ha, hb, Tot.some_iff]
      · simp [hf, ha, Tot.some_iff]
    · simp [hf, Tot.some_iff]
  · simp [hs, Tot.some_iff]
end Go.Tom
