/- Who is outside; what chapter 15 tells. -/
import Derived.Test.YtagcgcpapjidcaaPP
set_option linter.unusedVariables false
set_option linter.unusedSimpArgs false
namespace Go.Tom
open Go

open Classical in
/-- A ticket's coin is this one, or funded by it. -/
noncomputable def near (s : D_api_State) (c : Int) (t : Int) : Bool := ((rd z_api_Ticket s.2.1 t).2.1 == c) || decide (FundsP s c (rd z_api_Ticket s.2.1 t).2.1)
noncomputable def outB (s : D_api_State) (c i : Int) : Bool := ((rd z_api_Thread s.2.2.1 i).1 != 0) && !((tix s (fundsT i)).any (near s c))
noncomputable def outside (s : D_api_State) (c : Int) : List Int := buildL (fun k => if outB s c k = true then [k] else []) s.2.2.1.length

theorem outside_len {s : D_api_State} {c : Int} : (outside s c).length ≤ s.2.2.1.length := by
  have := buildL_len (f := fun k => if outB s c k = true then [k] else []) (c := 1) (fun k => by split <;> simp) (n := s.2.2.1.length)
  unfold outside
  omega

theorem fund_Outside_eq (s : D_api_State) (c : Int) (h1 : s.1.length ≤ 4096) (h2 : s.2.1.length ≤ 10000) (h3 : s.2.2.1.length ≤ 10000) : fund_Outside s c = some (outside s c) := by
  classical
  unfold fund_Outside outside
  refine loop_build (fun k => if outB s c k = true then [k] else []) _ (fun x h0 h1' => ?_) ?_
  · have hw1 : IntKind.i64.wrap (x + 1) = x + 1 := w64 (by omega) (by omega)
    have hlen := buildL_len (f := fun k => if outB s c k = true then [k] else []) (c := 1) (fun k => by split <;> simp) (n := x.toNat)
    generalize buildL (fun k => if outB s c k = true then [k] else []) x.toNat = acc at hlen ⊢
    have htl := tix_len (s := s) (q := fundsT x)
    have hcf : slices_ContainsFunc_int_int (tix s (fundsT x)) (fun t => fund_Outside_c1 t s c) = some ((tix s (fundsT x)).any (near s c)) := by
      refine slices_ContainsFunc_int_eq _ _ _ (by omega) fun t ht => ?_
      obtain ⟨m0, m1, m2, _⟩ := mem_tix.1 ht
      rw [← Tot.eq_iff]
      simp only [fund_Outside_c1, fund_Funds_eq s _ _ h1 h2, cond_some, Tot.cond_iff, Tot.ass_iff, Tot.bnd_iff, Tot.some_iff, Tot.map_iff, Tot.bind_iff, Nx.inl_iff, Nx.inr_iff, decide_eq_true_eq, decide_eq_false_iff_not]
      unfold near
      refine ⟨⟨m0, m1⟩, fun _ => ⟨m0, m1⟩, ?_⟩
      cases hb : ((rd z_api_Ticket s.2.1 t).2.1 == c) <;> simp
    rw [← Tot.eq_iff]
    simp only [fund_Outside_b1, fund_Outside_j1, fund_Outside_j2, hw1, fund_Of_eq s x (by omega), cond_some, Tot.cond_iff, Tot.ass_iff, Tot.bnd_iff, Tot.some_iff, Tot.map_iff, Tot.bind_iff, Nx.inl_iff, Nx.inr_iff, decide_eq_true_eq, decide_eq_false_iff_not]
    refine ⟨fun _ => ⟨⟨h0, h1'⟩, ?_⟩, fun hge => absurd h1' hge⟩
    unfold outB
    cases hb : ((rd z_api_Thread s.2.2.1 x).1 != 0) with
    | false => simp
    | true =>
      simp only [cond_true, true_implies, Bool.true_eq_false, false_implies, and_true, hcf, Tot.some_iff, Bool.true_and]
      cases hn : (tix s (fundsT x)).any (near s c) <;> simp [limA]
      omega
  · rw [← Tot.eq_iff]
    simp only [fund_Outside_b1, fund_Outside_j1, cond_some, Tot.cond_iff, Tot.ass_iff, Tot.bnd_iff, Tot.some_iff, Tot.map_iff, Tot.bind_iff, Nx.inl_iff, Nx.inr_iff, decide_eq_true_eq, decide_eq_false_iff_not]
    exact ⟨fun hc => absurd hc (by omega), fun _ => trivial⟩

theorem r15_Outside_eq (s : D_api_State) (c : Int) (h1 : s.1.length ≤ 4096) (h2 : s.2.1.length ≤ 10000) (h3 : s.2.2.1.length ≤ 10000) : r15_Outside s c = some (outside s c) := by
  classical
  unfold r15_Outside outside
  refine loop_build (fun k => if outB s c k = true then [k] else []) _ (fun x h0 h1' => ?_) ?_
  · have hw1 : IntKind.i64.wrap (x + 1) = x + 1 := w64 (by omega) (by omega)
    have hlen := buildL_len (f := fun k => if outB s c k = true then [k] else []) (c := 1) (fun k => by split <;> simp) (n := x.toNat)
    generalize buildL (fun k => if outB s c k = true then [k] else []) x.toNat = acc at hlen ⊢
    have hT := tix_len (s := s) (q := fundsT x)
    rw [← Tot.eq_iff]
    simp only [r15_Outside_b1, r15_Outside_j1, r15_Tickets_eq s 2 x (by omega), tix2, cond_some, Tot.cond_iff, Tot.ass_iff, Tot.bnd_iff, Tot.some_iff, Tot.map_iff, Tot.bind_iff, Nx.inl_iff, Nx.inr_iff, decide_eq_true_eq, decide_eq_false_iff_not]
    refine ⟨fun _ => ⟨⟨h0, h1'⟩, ?_⟩, fun hge => absurd h1' hge⟩
    have hTm : ∀ t ∈ tix s (fundsT x), 0 ≤ t ∧ t < (s.2.1.length : Int) := fun t ht => ⟨(mem_tix.1 ht).1, (mem_tix.1 ht).2.1⟩
    have hout : outB s c x = (((rd z_api_Thread s.2.2.1 x).1 != 0) && (tix s (fundsT x)).all fun t => !(near s c t)) := by
      unfold outB
      rw [List.not_any_eq_all_not]
    generalize tix s (fundsT x) = T at hT hTm hout ⊢
    rw [hout]
    generalize ((rd z_api_Thread s.2.2.1 x).1 != 0) = b
    refine Tot.loop (fun z => 0 ≤ z.2 ∧ z.2 ≤ (T.length : Int) ∧ z.1 = (b && (T.take z.2.toNat).all fun t => !(near s c t))) (fun z => ((T.length : Int) - z.2).toNat) (fun z hz => ?_) ⟨by simp, by simp, by simp⟩
    obtain ⟨fl, i⟩ := z
    simp only at hz
    obtain ⟨i0, i1, rfl⟩ := hz
    have hw2 : IntKind.i64.wrap (i + 1) = i + 1 := w64 (by omega) (by omega)
    simp only [r15_Outside_b2, r15_Outside_j3, r15_Outside_j4, r15_Outside_j2, r15_Funds_eq s _ _ h1 h2, hw1, hw2, cond_some, Tot.cond_iff, Tot.ass_iff, Tot.bnd_iff, Tot.some_iff, Tot.map_iff, Tot.bind_iff, Nx.inl_iff, Nx.inr_iff, decide_eq_true_eq, decide_eq_false_iff_not]
    refine ⟨fun hil => ⟨⟨i0, hil⟩, hTm _ (rd_mem (z := 0) i0 hil), ⟨by omega, by omega, ?_⟩, by omega⟩, fun hig => ?_⟩
    · rw [take_rd (z := 0) i0 hil, List.all_append]
      generalize ((T.take i.toNat).all fun t => !(near s c t)) = g
      unfold near
      simp only [bne, List.all_cons, List.all_nil, Bool.and_true]
      generalize ((rd z_api_Ticket s.2.1 (rd 0 T i)).2.1 == c) = e
      cases e <;> cases b <;> cases g <;> simp
    · have hi : i = (T.length : Int) := by omega
      subst hi
      rw [Int.toNat_natCast, List.take_length]
      generalize (b && T.all fun t => !(near s c t)) = g
      cases g <;> simp [limA]
      omega
  · rw [← Tot.eq_iff]
    simp only [r15_Outside_b1, r15_Outside_j1, cond_some, Tot.cond_iff, Tot.ass_iff, Tot.bnd_iff, Tot.some_iff, Tot.map_iff, Tot.bind_iff, Nx.inl_iff, Nx.inr_iff, decide_eq_true_eq, decide_eq_false_iff_not]
    exact ⟨fun hc => absurd hc (by omega), fun _ => trivial⟩

/-- WHAT CHAPTER 15 TELLS. -/
theorem FundTells_eq (s : D_api_State) (a b : Int) : l15_FundTells s a b = some true := by
  classical
  rw [← Tot.eq_iff]
  simp only [l15_FundTells, l15_alive_eq, (r14_Small_tot s).dec, r14_Coin_eq, cond_some, Tot.cond_iff, Tot.ass_iff, Tot.bnd_iff, Tot.some_iff, Tot.map_iff, Tot.bind_iff, Nx.inl_iff, Nx.inr_iff, decide_eq_true_eq, decide_eq_false_iff_not]
  by_cases hs : SmallP s
  · simp only [hs, decide_true, Bool.not_true, Bool.not_false, Bool.false_or, true_implies, Bool.true_eq_false, false_implies, and_true]
    rw [(r14_Fine_tot s hs).dec, Tot.some_iff]
    by_cases hf : FineP s
    · have h1 := hf.c2
      have h2 := hf.tickets.2.1
      have h3 := hf.threads.2.2.1
      obtain ⟨o, _, hok, hol, hfo, hFO⟩ := fund_Order_eq s (by omega) (by omega) hf.coinRing
      have hRO := r15_Order_eq s (by omega) (by omega) hf.coinRing
      have hol2 : (fundOrd s).length ≤ s.1.length := by rw [hfo, ← hol]; exact List.length_filter_le ..
      obtain ⟨L, hL, hRL, hFL⟩ := fund_Own_ref s a hf
      have hr11 : r11_All L = some (those L) := r11_All_eq L (by omega)
      have i0 := r11_Ints_eq (fundOrd s) (fundOrd s) (by omega)
      have i1 := fun q => r11_Ints_eq (tix s q) (tix s q) (by have := tix_len (s := s) (q := q); omega)
      have i2 := r11_Ints_eq (those L) (those L) (by have := those_len (l := L); omega)
      have i3 := r11_Ints_eq (outside s a) (outside s a) (by have := outside_len (s := s) (c := a); omega)
      have hc := fund_Closes_eq s a b (by omega) (by omega)
      simp only [hf, decide_true, cond_true, cond_false, Bool.or_self, Bool.not_true, Bool.not_false, true_implies, Bool.true_eq_false, false_implies, and_true, Bool.false_eq_true, true_and,
        hFO, hRO, i0, r15_Funds_eq s _ _ (show s.1.length ≤ 4096 by omega) (show s.2.1.length ≤ 10000 by omega), fund_Funds_eq s _ _ (show s.1.length ≤ 4096 by omega) (show s.2.1.length ≤ 10000 by omega), hc,
        fund_Issued_eq s _ (show s.2.1.length ≤ 100000 by omega), fund_Backing_eq s _ (show s.2.1.length ≤ 100000 by omega), fund_Of_eq s _ (show s.2.1.length ≤ 100000 by omega), r15_Tickets_eq s _ _ (show s.2.1.length ≤ 100000 by omega), tix0, tix1, tix2, i1,
        hRL, hFL, hr11, i2, fund_Outside_eq s a (show s.1.length ≤ 4096 by omega) (show s.2.1.length ≤ 10000 by omega) (by omega), r15_Outside_eq s a (show s.1.length ≤ 4096 by omega) (show s.2.1.length ≤ 10000 by omega) (by omega), i3, Tot.some_iff, Tot.bnd_iff, bne_self_eq_false]
      by_cases hca : CoinP s a <;> by_cases hab : a = b <;> by_cases hfu : FundsP s b a <;> simp_all [Tot.some_iff, Tot.bind_iff]
    · simp [hf, Tot.some_iff]
  · simp [hs, Tot.some_iff]
end Go.Tom
