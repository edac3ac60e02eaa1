/- A ticket turned on or off: what counts, and how much. -/
import Derived.Test.YtagcgcpapjidcaaPX
set_option linter.unusedVariables false
set_option linter.unusedSimpArgs false
set_option linter.unusedSectionVars false
namespace Go.Tom
open Go

theorem sumI_mono {f g : Int → Int} : ∀ {n : Nat}, (∀ k : Int, 0 ≤ k → k < (n : Int) → f k ≤ g k) → sumI f n ≤ sumI g n
  | 0, _ => Int.le_refl _
  | n + 1, h => by
    show sumI f n + f n ≤ sumI g n + g n
    have := sumI_mono (n := n) fun k h0 h1 => h k h0 (by omega)
    have := h n (by omega) (by omega)
    omega

/-- A ticket with another last field. -/
def onT (t : D_api_Ticket) (b : Bool) : D_api_Ticket := (t.1, t.2.1, t.2.2.1, t.2.2.2.1, t.2.2.2.2.1, b)
/-- A state with a ticket turned. -/
def turn (s : D_api_State) (k : Int) (b : Bool) : D_api_State := (s.1, wr s.2.1 k (onT (rd z_api_Ticket s.2.1 k) b), s.2.2)

theorem turn_len (s : D_api_State) (k : Int) (b : Bool) : (turn s k b).2.1.length = s.2.1.length := wr_length ..

theorem tk_turn {s : D_api_State} {k : Int} (h0 : 0 ≤ k) (h1 : k < (s.2.1.length : Int)) (b : Bool) {j : Int} (j0 : 0 ≤ j) : tk (turn s k b) j = if j = k then onT (tk s k) b else tk s j := by
  show rd z_api_Ticket (wr s.2.1 k _) j = _
  rw [rd_wr h0 h1 j0]
  rfl

theorem turn_thr (s : D_api_State) (k : Int) (b : Bool) (i : Int) : thrOf (turn s k b) i = thrOf s i := rfl
theorem turn_nxt (s : D_api_State) (k : Int) (b : Bool) (i : Int) : nxt (turn s k b) i = nxt s i := rfl
theorem turn_tail (s : D_api_State) (k : Int) (b : Bool) : ∀ (n : Nat) (i : Int), tailF (turn s k b) n i = tailF s n i
  | 0, _ => rfl
  | n + 1, i => by simp only [tailF, turn_nxt, turn_tail s k b n]
theorem turn_tl (s : D_api_State) (k : Int) (b : Bool) (i : Int) : tl (turn s k b) i = tl s i := by
  unfold tl
  rw [turn_tail]
  rfl
theorem turn_lives (s : D_api_State) (k : Int) (b : Bool) (i : Int) : livesB (turn s k b) i = livesB s i := by
  unfold livesB
  rw [turn_tl, turn_thr]

theorem turn_fine {s : D_api_State} (h : FineP s) {k : Int} (h0 : 0 ≤ k) (h1 : k < (s.2.1.length : Int)) (hu : (tk s k).1 = true) (b : Bool) : FineP (turn s k b) where
  q1 := h.q1
  q2 := h.q2
  c1 := h.c1
  c2 := h.c2
  first := h.first
  last := h.last
  tickets := by
    obtain ⟨g1, g2, g3⟩ := h.tickets
    refine ⟨fun j j0 j1 => ?_, by rw [turn_len]; exact g2, ?_⟩
    · rw [turn_len] at j1
      have e : rd z_api_Ticket (turn s k b).2.1 j = tk (turn s k b) j := rfl
      rw [e, tk_turn h0 h1 b j0]
      by_cases hj : j = k
      · rw [if_pos hj]
        have := g1 k h0 h1
        unfold TicketOk at this ⊢
        have hu' : (rd z_api_Ticket s.2.1 k).1 = true := hu
        rw [if_pos hu'] at this
        rw [if_pos (show (onT (tk s k) b).1 = true from hu)]
        exact this
      · rw [if_neg hj]
        exact g1 j j0 j1
    · rw [turn_len]
      rcases g3 with g3 | g3
      · exact .inl g3
      · right
        have e : rd z_api_Ticket (turn s k b).2.1 ((s.2.1.length : Int) - 1) = tk (turn s k b) ((s.2.1.length : Int) - 1) := rfl
        rw [e, tk_turn h0 h1 b (by omega)]
        split
        · exact hu
        · exact g3
  threads := h.threads
  locks := h.locks
  queue := h.queue
  coinRing := by
    have e : coinArrows (turn s k b) = coinArrows s := by
      unfold coinArrows
      rw [turn_len]
      have : ∀ n : Nat, buildL (fun j => coinArr (rd z_api_Ticket (turn s k b).2.1 j)) n = buildL (fun j => coinArr (rd z_api_Ticket s.2.1 j)) n := by
        intro n
        induction n with
        | zero => rfl
        | succ n ih =>
          show buildL _ n ++ coinArr (tk (turn s k b) n) = buildL _ n ++ coinArr (tk s n)
          rw [ih, tk_turn h0 h1 b (by omega)]
          by_cases hj : (n : Int) = k
          · rw [if_pos hj, hj]; rfl
          · rw [if_neg hj]
      exact this _
    rw [e]
    exact h.coinRing
  thrRing := h.thrRing

section
variable {s : D_api_State} (h : FineP s) {k : Int} (h0 : 0 ≤ k) (h1 : k < (s.2.1.length : Int)) (hu : (tk s k).1 = true)
include h h0 h1 hu

theorem cnt_off {a b : Int → Int} (hab : ∀ c, a c ≤ b c) {j : Int} (j0 : 0 ≤ j) (hc : cntW (turn s k false) a j = true) : cntW (turn s k true) b j = true ∧ j ≠ k := by
  unfold cntW at hc ⊢
  rw [tk_turn h0 h1 false j0] at hc
  rw [tk_turn h0 h1 true j0]
  by_cases hj : j = k
  · exfalso
    rw [if_pos hj] at hc
    simp [onT] at hc
  · refine ⟨?_, hj⟩
    rw [if_neg hj] at hc ⊢
    simp only [turn_lives, Bool.and_eq_true, Bool.or_eq_true, decide_eq_true_eq] at hc ⊢
    refine ⟨hc.1, hc.2.imp id fun hd => ⟨hd.1, ?_⟩⟩
    have := hab (tk s j).2.2.2.2.1
    have := hd.2
    omega

theorem amt_off {a b : Int → Int} (hab : ∀ c, a c ≤ b c) (c : Int) : amtW (turn s k false) a c ≤ amtW (turn s k true) b c := by
  unfold amtW
  rw [turn_len, turn_len]
  refine sumI_mono fun j j0 j1 => ?_
  have hpos : cntW (turn s k true) b j = true → 0 ≤ (tk (turn s k true) j).2.2.1 := fun hc => by
    have hf := (turn_fine h h0 h1 hu true).tk_ok j0 (by rw [turn_len]; exact j1)
    unfold cntW at hc
    simp only [Bool.and_eq_true] at hc
    unfold TicketOk at hf
    rw [if_pos hc.1.1] at hf
    have := hf.2.1
    omega
  by_cases hc : cntW (turn s k false) a j = true
  · obtain ⟨h2, hj⟩ := cnt_off h h0 h1 hu hab j0 hc
    rw [hc, h2, tk_turn h0 h1 false j0, tk_turn h0 h1 true j0, if_neg hj, if_neg hj]
    exact Int.le_refl _
  · simp only [Bool.not_eq_true] at hc
    rw [hc, Bool.and_false]
    simp only [Bool.false_eq_true, if_false]
    split
    · rename_i hd
      simp only [Bool.and_eq_true] at hd
      exact hpos hd.2
    · exact Int.le_refl _

theorem amtF_off : ∀ (n : Nat) (c : Int), amtF (turn s k false) n c ≤ amtF (turn s k true) n c
  | 0, _ => Int.le_refl _
  | n + 1, c => amt_off h h0 h1 hu (amtF_off n) c
end

theorem r14_Copy_eq {s : D_api_State} (h : SmallP s) : r14_Copy s = some s := by
  obtain ⟨h1, h2, h3, h4, h5⟩ := h
  rw [← Tot.eq_iff]
  simp only [r14_Copy, List.nil_append, List.length_nil, cond_some, Tot.cond_iff, Tot.ass_iff, Tot.bnd_iff, Tot.some_iff, Tot.map_iff, Tot.bind_iff, Nx.inl_iff, Nx.inr_iff, decide_eq_true_eq, decide_eq_false_iff_not]
  refine ⟨by unfold limA; omega, by unfold limA; omega, by unfold limA; omega, by unfold limA; omega, by unfold limA; omega, trivial⟩

theorem LiveOff_eq (s : D_api_State) (k : Int) : l17_LiveOff s k = some true := by
  classical
  rw [← Tot.eq_iff]
  have halive := l17_alive_eq
  simp only [l17_LiveOff, halive, (r14_Small_tot s).dec, cond_some, Tot.cond_iff, Tot.ass_iff, Tot.bnd_iff, Tot.some_iff, Tot.map_iff, Tot.bind_iff, Nx.inl_iff, Nx.inr_iff, decide_eq_true_eq, decide_eq_false_iff_not]
  by_cases hs : SmallP s
  · obtain ⟨hs1, hs2, hs3, hs4, hs5⟩ := id hs
    simp only [hs, decide_true, Bool.not_true, Bool.not_false, Bool.false_or, true_implies, Bool.true_eq_false, false_implies, and_true, Tot.some_iff, cond_true]
    rw [(r14_Fine_tot s hs).dec, Tot.some_iff]
    by_cases hf : FineP s
    · have hT : r14_Ticket s k = some (@decide (0 ≤ k ∧ k < (s.2.1.length : Int) ∧ (tk s k).1 = true) (Classical.propDecidable _)) := by
        refine Tot.dec ?_
        simp only [r14_Ticket, cond_some, Tot.cond_iff, Tot.ass_iff, Tot.bnd_iff, Tot.some_iff, Tot.map_iff, Tot.bind_iff, Nx.inl_iff, Nx.inr_iff, decide_eq_true_eq, decide_eq_false_iff_not]
        refine ⟨fun hc => ?_, ?_⟩
        · simp only [Bool.and_eq_true, decide_eq_true_eq] at hc
          exact ⟨by omega, hc.2⟩
        · simp only [tk, Bool.and_eq_true, decide_eq_true_eq, ge_iff_le, and_assoc]
      simp only [hf, hT, decide_true, Bool.not_true, Bool.false_or, Bool.not_false, cond_true, Tot.some_iff, r14_Copy_eq hs]
      by_cases hk : 0 ≤ k ∧ k < (s.2.1.length : Int) ∧ (tk s k).1 = true
      · obtain ⟨k0, k1, ku⟩ := id hk
        have hn := turn_fine hf k0 k1 ku true
        have hm := turn_fine hf k0 k1 ku false
        obtain ⟨cs, am, g1, g2, g3, g4, gT, gA, _, _⟩ := live_all hn
        obtain ⟨ds, bm, e1, e2, e3, e4, eT, eA, _, _⟩ := live_all hm
        have t1 : ((s.1, wr s.2.1 k ((rd z_api_Ticket s.2.1 k).1, (rd z_api_Ticket s.2.1 k).2.1, (rd z_api_Ticket s.2.1 k).2.2.1, (rd z_api_Ticket s.2.1 k).2.2.2.1, (rd z_api_Ticket s.2.1 k).2.2.2.2.1, true), s.2.2) : D_api_State) = turn s k true := rfl
        have t2 : ((s.1, wr s.2.1 k ((rd z_api_Ticket s.2.1 k).1, (rd z_api_Ticket s.2.1 k).2.1, (rd z_api_Ticket s.2.1 k).2.2.1, (rd z_api_Ticket s.2.1 k).2.2.2.1, (rd z_api_Ticket s.2.1 k).2.2.2.2.1, false), s.2.2) : D_api_State) = turn s k false := rfl
        rw [turn_len] at g1 e1
        have hco : ∀ j : Int, 0 ≤ j → cntB (turn s k false) j = true → cntB (turn s k true) j = true ∧ j ≠ k := fun j j0 hc => cnt_off hf k0 k1 ku (amtF_off hf k0 k1 ku 17) j0 hc
        have hkf : cntB (turn s k false) k = false := by
          cases hc : cntB (turn s k false) k
          · rfl
          · exact absurd rfl (hco k k0 hc).2
        have hal : Tot l17_LiveOff_j2 (fun r => r = true) := by simp only [l17_LiveOff_j2, halive, cond_some, Tot.cond_iff, Tot.ass_iff, Tot.bnd_iff, Tot.some_iff, Tot.map_iff, Tot.bind_iff, Nx.inl_iff, Nx.inr_iff, decide_eq_true_eq, decide_eq_false_iff_not]
        have s1 : Tot (l17_LiveOff_j1 (turn s k true) (turn s k false)) (fun r => r = true) := by
          simp only [l17_LiveOff_j1, gA, eA, cond_some, Tot.cond_iff, Tot.ass_iff, Tot.bnd_iff, Tot.some_iff, Tot.map_iff, Tot.bind_iff, Nx.inl_iff, Nx.inr_iff, decide_eq_true_eq, decide_eq_false_iff_not]
          refine Tot.loop (fun x => 0 ≤ x ∧ x ≤ (am.length : Int)) (fun x => ((am.length : Int) - x).toNat) (fun x hx => ?_) ⟨by omega, by omega⟩
          obtain ⟨x0, x1⟩ := hx
          have hlen : am.length = bm.length := by rw [g2, e2]; rfl
          have hl96 : am.length ≤ 16 := by rw [g2]; exact hf.c2
          have hw1 : IntKind.i64.wrap (x + 1) = x + 1 := w64 (by omega) (by omega)
          simp only [l17_LiveOff_b1, hw1, cond_some, Tot.cond_iff, Tot.ass_iff, Tot.bnd_iff, Tot.some_iff, Tot.map_iff, Tot.bind_iff, Nx.inl_iff, Nx.inr_iff, decide_eq_true_eq, decide_eq_false_iff_not]
          refine ⟨fun hlt => ⟨fun hb => by omega, fun hb => by omega, fun hb => ?_, fun _ => ⟨⟨by omega, by omega⟩, by omega⟩⟩, fun _ => hal⟩
          have : rd 0 bm x ≤ rd 0 am x := by
            rw [g4 x x0 (by rw [g2] at hlt; exact hlt), e4 x x0 (by rw [g2] at hlt; exact hlt)]
            exact amtF_off hf k0 k1 ku 17 x
          simp only [Bool.or_eq_true, decide_eq_true_eq] at hb
          omega
        rw [t1, t2]
        simp only [hk, decide_true, Bool.not_true, gT, eT, Tot.some_iff, Tot.ass_iff, Tot.bnd_iff, cond_false]
        have hb0 : rd false ds k = false := by rw [e3 k k0 (by rw [turn_len]; exact k1)]; exact hkf
        rw [g1, e1, hb0]
        simp only [bne_self_eq_false, Bool.or_self, Bool.not_false, true_implies, cond_false]
        refine ⟨⟨fun _ => trivial, fun _ => ⟨⟨trivial, trivial⟩, ⟨trivial, trivial⟩, ⟨trivial, k1⟩, fun h => absurd h (by simp), ?_⟩⟩, fun h => absurd h (by simp)⟩
        refine Tot.loop (fun x => 0 ≤ x ∧ x ≤ (cs.length : Int)) (fun x => ((cs.length : Int) - x).toNat) (fun x hx => ?_) ⟨by omega, by omega⟩
        obtain ⟨x0, x1⟩ := hx
        have hl96 : s.2.1.length ≤ 96 := hf.tickets.2.1
        have hw1 : IntKind.i64.wrap (x + 1) = x + 1 := w64 (by omega) (by omega)
        simp only [l17_LiveOff_b2, hw1, cond_some, Tot.cond_iff, Tot.ass_iff, Tot.bnd_iff, Tot.some_iff, Tot.map_iff, Tot.bind_iff, Nx.inl_iff, Nx.inr_iff, decide_eq_true_eq, decide_eq_false_iff_not]
        refine ⟨fun hlt => ⟨⟨by omega, by omega⟩, fun hb => by omega, fun hb => ?_, fun _ => ⟨⟨by omega, by omega⟩, by omega⟩⟩, fun _ => s1⟩
        simp only [Bool.and_eq_true, Bool.not_eq_true'] at hb
        rw [e3 x x0 (by rw [turn_len]; omega), g3 x x0 (by rw [turn_len]; omega)] at hb
        rw [(hco x x0 hb.1).1] at hb
        exact absurd hb.2 (by simp)
      · simp [hk, halive, Tot.some_iff]
    · simp [hf, halive, Tot.some_iff]
  · simp [hs, halive, Tot.some_iff]
end Go.Tom
