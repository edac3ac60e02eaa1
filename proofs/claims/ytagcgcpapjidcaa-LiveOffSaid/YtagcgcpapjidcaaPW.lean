/- What chapter 17 tells. -/
import Derived.Test.YtagcgcpapjidcaaPV
set_option linter.unusedVariables false
set_option linter.unusedSimpArgs false
namespace Go.Tom
open Go

def deadF (s : D_api_State) (k : Int) : List Int := if ((tk s k).1 && !(cntB s k)) = true then [k] else []
def deadL (s : D_api_State) : List Int := buildL (deadF s) s.2.1.length

theorem deadF_len {s : D_api_State} {n : Nat} : (buildL (deadF s) n).length ≤ n := by
  have := buildL_len (f := deadF s) (c := 1) (fun k => by unfold deadF; split <;> simp) (n := n)
  omega

theorem live_all {s : D_api_State} (h : FineP s) : ∃ cs am, cs.length = s.2.1.length ∧ am.length = s.1.length ∧ (∀ k : Int, 0 ≤ k → k < (s.2.1.length : Int) → rd false cs k = cntB s k) ∧ (∀ c : Int, 0 ≤ c → c < (s.1.length : Int) → rd 0 am c = amtI s c) ∧
    live_Tickets s = some cs ∧ live_Amounts s = some am ∧ live_Dead s = some (deadL s) ∧ ∀ c, live_Awake s c = some (@decide (CoinP s c ∧ 0 < amtI s c) (Classical.propDecidable _)) := by
  classical
  obtain ⟨⟨cs, am⟩, hr, h1, h2, h3, h4⟩ := live_reckon_tot h
  have hl := h.tickets.2.1
  have ht : live_Tickets s = some cs := by unfold live_Tickets; rw [hr]; rfl
  have ha : live_Amounts s = some am := by unfold live_Amounts; rw [hr]; rfl
  refine ⟨cs, am, h1, h2, h3, h4, ht, ha, ?_, fun c => ?_⟩
  · unfold live_Dead deadL
    rw [ht, Option.bind_some]
    simp only at h1
    rw [← h1]
    refine loop_build (deadF s) _ (fun x x0 x1 => ?_) ?_
    · have hw1 : IntKind.i64.wrap (x + 1) = x + 1 := w64 (by omega) (by omega)
      have hlen := deadF_len (s := s) (n := x.toNat)
      have hd : deadF s x = if ((tk s x).1 && !(cntB s x)) = true then [x] else [] := rfl
      generalize buildL (deadF s) x.toNat = acc at hlen ⊢
      have htk : rd z_api_Ticket s.2.1 x = tk s x := rfl
      rw [← Tot.eq_iff]
      simp only [live_Dead_b1, live_Dead_j1, live_Dead_j2, hw1, htk, h3 x x0 (by omega), cond_some, Tot.cond_iff, Tot.ass_iff, Tot.bnd_iff, Tot.some_iff, Tot.map_iff, Tot.bind_iff, Nx.inl_iff, Nx.inr_iff, decide_eq_true_eq, decide_eq_false_iff_not]
      rw [hd]
      refine ⟨fun _ => ⟨⟨x0, x1⟩, ⟨x0, by omega⟩, fun hb => ⟨?_, ?_⟩, fun hb => ?_⟩, fun hge => absurd x1 hge⟩
      · simp only [List.length_singleton]; unfold limA; omega
      · rw [if_pos hb]
      · rw [if_neg (by rw [hb]; simp), List.append_nil]
    · rw [← Tot.eq_iff]
      simp only [live_Dead_b1, live_Dead_j1, cond_some, Tot.cond_iff, Tot.ass_iff, Tot.bnd_iff, Tot.some_iff, Tot.map_iff, Tot.bind_iff, Nx.inl_iff, Nx.inr_iff, decide_eq_true_eq, decide_eq_false_iff_not]
      exact ⟨fun hc => absurd hc (by omega), fun _ => trivial⟩
  · refine Tot.dec ?_
    simp only [live_Awake, state_Coin_eq, ha, cond_some, Tot.cond_iff, Tot.ass_iff, Tot.bnd_iff, Tot.some_iff, Tot.map_iff, Tot.bind_iff, Nx.inl_iff, Nx.inr_iff, decide_eq_true_eq, decide_eq_false_iff_not]
    by_cases hc : CoinP s c
    · simp only at h2
      simp only [hc, decide_true, cond_true, true_implies, Bool.true_and, true_and, cond_some, Tot.cond_iff, Tot.ass_iff, Tot.bnd_iff, Tot.some_iff, Tot.map_iff, Tot.bind_iff, Nx.inl_iff, Nx.inr_iff, decide_eq_true_eq, decide_eq_false_iff_not]
      refine ⟨⟨hc.1, by have := hc.2.1; omega⟩, ?_⟩
      rw [h4 c hc.1 hc.2.1]
    · simp [hc, Tot.some_iff]

theorem r17_Light_tot (s : D_api_State) (hn : s.2.1.length ≤ 1000) : ∃ b, r17_Light s = some b := by
  have : Tot (r17_Light s) (fun _ => True) := by
    unfold r17_Light
    refine Tot.loop (fun x => 0 ≤ x.2 ∧ x.2 ≤ (s.2.1.length : Int) ∧ 0 ≤ x.1 ∧ x.1 ≤ x.2) (fun x => ((s.2.1.length : Int) - x.2).toNat) (fun x hx => ?_) ⟨by omega, by simp, by simp, by simp⟩
    obtain ⟨a, x⟩ := x
    simp only at hx
    obtain ⟨h0, h1, h2, h3⟩ := hx
    have hw1 : IntKind.i64.wrap (x + 1) = x + 1 := w64 (by omega) (by omega)
    have hw2 : IntKind.i64.wrap (a + 1) = a + 1 := w64 (by omega) (by omega)
    simp only [r17_Light_b1, r17_Light_j1, r17_Light_j2, hw1, hw2, cond_some, Tot.cond_iff, Tot.ass_iff, Tot.bnd_iff, Tot.some_iff, Tot.map_iff, Tot.bind_iff, Nx.inl_iff, Nx.inr_iff, decide_eq_true_eq, decide_eq_false_iff_not]
    exact ⟨fun hlt => ⟨⟨h0, hlt⟩, fun _ => ⟨⟨by omega, by omega, by omega, by omega⟩, by omega⟩, fun _ => ⟨⟨by omega, by omega, by omega, by omega⟩, by omega⟩⟩, fun _ => trivial⟩
  obtain ⟨b, hb, _⟩ := this
  exact ⟨b, hb⟩

def alive17 : D_api_State := ([true, true], [(true, 0, 3, 1, 0, true), (true, 0, 4, 2, 1, true)], [(2, -1, -1, 1, 1)], [], [], 5)

theorem LiveTells_of (halive : l17_alive = some true) (s : D_api_State) (c : Int) : l17_LiveTells s c = some true := by
  classical
  rw [← Tot.eq_iff]
  simp only [l17_LiveTells, halive, (r14_Small_tot s).dec, cond_some, Tot.cond_iff, Tot.ass_iff, Tot.bnd_iff, Tot.some_iff, Tot.map_iff, Tot.bind_iff, Nx.inl_iff, Nx.inr_iff, decide_eq_true_eq, decide_eq_false_iff_not]
  by_cases hs : SmallP s
  · obtain ⟨hs1, hs2, hs3, hs4, hs5⟩ := id hs
    obtain ⟨bl, hbl⟩ := r17_Light_tot s (by omega)
    simp only [hs, decide_true, Bool.not_true, Bool.not_false, Bool.false_or, true_implies, Bool.true_eq_false, false_implies, and_true, hbl, Tot.some_iff]
    cases bl with
    | false => simp
    | true =>
    simp only [Bool.not_true, Bool.not_false, Bool.or_self, true_implies, Bool.true_eq_false, false_implies, and_true]
    rw [(r14_Fine_tot s hs).dec, Tot.some_iff]
    by_cases hf : FineP s
    · obtain ⟨cs, am, h1, h2, h3, h4, hT, hA, hD, hW⟩ := live_all hf
      obtain ⟨Y, hYe, hY1, hY2⟩ := live_Threads_tot hf.chn (by omega)
      have hdl := deadF_len (s := s) (n := s.2.1.length)
      have i1 := r11_Ints_eq (deadL s) (deadL s) (by unfold deadL; omega)
      -- the end
      have fin : Tot (l17_LiveTells_j3 s c (deadL s)) (fun r => r = true) := by
        simp only [l17_LiveTells_j3, hW, r14_Coin_eq, r17_Amount_eq hf, hD, i1, halive, cond_some, Tot.cond_iff, Tot.ass_iff, Tot.bnd_iff, Tot.some_iff, Tot.map_iff, Tot.bind_iff, Nx.inl_iff, Nx.inr_iff, decide_eq_true_eq, decide_eq_false_iff_not]
        by_cases hc : CoinP s c <;> by_cases ha : 0 < amtI s c <;> simp [hc, ha, i1, halive, Tot.some_iff]
      have s3 : Tot (l17_LiveTells_j2 s c Y (deadL s)) (fun r => r = true) := by
        unfold l17_LiveTells_j2
        refine Tot.loop (fun x => 0 ≤ x ∧ x ≤ (Y.length : Int)) (fun x => ((Y.length : Int) - x).toNat) (fun x hx => ?_) ⟨by omega, by omega⟩
        obtain ⟨x0, x1⟩ := hx
        have hw1 : IntKind.i64.wrap (x + 1) = x + 1 := w64 (by omega) (by omega)
        simp only [l17_LiveTells_b1, hw1, r16_Lives_eq hf, cond_some, Tot.cond_iff, Tot.ass_iff, Tot.bnd_iff, Tot.some_iff, Tot.map_iff, Tot.bind_iff, Nx.inl_iff, Nx.inr_iff, decide_eq_true_eq, decide_eq_false_iff_not]
        refine ⟨fun hlt => ⟨⟨x0, hlt⟩, fun hb => ?_, fun _ => ⟨⟨by omega, by omega⟩, by omega⟩⟩, fun _ => fin⟩
        rw [hY2 x x0 (by omega)] at hb
        simp at hb
      have s2 : Tot (l17_LiveTells_j1 s c am Y (deadL s)) (fun r => r = true) := by
        unfold l17_LiveTells_j1
        refine Tot.loop (fun x => 0 ≤ x ∧ x ≤ (am.length : Int)) (fun x => ((am.length : Int) - x).toNat) (fun x hx => ?_) ⟨by omega, by omega⟩
        obtain ⟨x0, x1⟩ := hx
        have hw1 : IntKind.i64.wrap (x + 1) = x + 1 := w64 (by omega) (by omega)
        simp only [l17_LiveTells_b2, hw1, r17_Amount_eq hf, cond_some, Tot.cond_iff, Tot.ass_iff, Tot.bnd_iff, Tot.some_iff, Tot.map_iff, Tot.bind_iff, Nx.inl_iff, Nx.inr_iff, decide_eq_true_eq, decide_eq_false_iff_not]
        refine ⟨fun hlt => ⟨⟨x0, hlt⟩, fun hb => ?_, fun _ => ⟨⟨by omega, by omega⟩, by omega⟩⟩, fun _ => s3⟩
        rw [h4 x x0 (by omega)] at hb
        simp at hb
      have hneq : ((((cs.length : Int) != (s.2.1.length : Int)) || ((am.length : Int) != (s.1.length : Int))) || ((Y.length : Int) != (s.2.2.1.length : Int))) = false := by
        rw [h1, h2, hY1]; simp
      simp only [hf, decide_true, Bool.not_true, Bool.false_eq_true, false_implies, true_implies, true_and, hT, hA, hYe, Tot.some_iff, Tot.bind_iff, Tot.cond_iff, hneq]
      refine ⟨fun _ => trivial, fun _ => ?_⟩
      refine Tot.loop (fun x => 0 ≤ x.2 ∧ x.2 ≤ (cs.length : Int) ∧ x.1 = buildL (deadF s) x.2.toNat) (fun x => ((cs.length : Int) - x.2).toNat) (fun x hx => ?_) ⟨by omega, by simp, rfl⟩
      obtain ⟨acc, x⟩ := x
      simp only at hx
      obtain ⟨x0, x1, rfl⟩ := hx
      have hw1 : IntKind.i64.wrap (x + 1) = x + 1 := w64 (by omega) (by omega)
      have htk : rd z_api_Ticket s.2.1 x = tk s x := rfl
      have hst := buildL_step (f := deadF s) x0
      have hd : deadF s x = if ((tk s x).1 && !(cntB s x)) = true then [x] else [] := rfl
      have hlen := deadF_len (s := s) (n := x.toNat)
      simp only [l17_LiveTells_b3, l17_LiveTells_j4, hw1, htk, cond_some, Tot.cond_iff, Tot.ass_iff, Tot.bnd_iff, Tot.some_iff, Tot.map_iff, Tot.bind_iff, Nx.inl_iff, Nx.inr_iff, decide_eq_true_eq, decide_eq_false_iff_not]
      refine ⟨fun hlt => ⟨⟨x0, hlt⟩, ?_⟩, fun hge => ?_⟩
      · have hcx := h3 x x0 (by omega)
        rw [r17_Counts_eq hf x0 (by omega), Tot.some_iff, hcx]
        refine ⟨fun hb => by simp at hb, fun _ => ⟨⟨x0, by omega⟩, fun _ => ⟨x0, hlt⟩, fun hb => ⟨?_, ⟨by omega, by omega, ?_⟩, by omega⟩, fun hb => ⟨⟨by omega, by omega, ?_⟩, by omega⟩⟩⟩
        · simp only [List.length_singleton]; unfold limA; omega
        · rw [hst, hd, if_pos hb]
        · rw [hst, hd, if_neg (by rw [hb]; simp), List.append_nil]
      · have hx : x = (cs.length : Int) := by omega
        subst hx
        rw [h1, Int.toNat_natCast]
        exact s2
    · simp [hf, Tot.some_iff]
  · simp [hs, Tot.some_iff]
end Go.Tom
