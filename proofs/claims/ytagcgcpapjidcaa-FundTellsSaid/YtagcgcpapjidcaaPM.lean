/- The tickets of a coin and of a thread, a coin's own coins, by the program; the chapter's example. -/
import Derived.Test.YtagcgcpapjidcaaPL
set_option linter.unusedVariables false
set_option linter.unusedSimpArgs false
namespace Go.Tom
open Go

/-- The tickets of which something is so. -/
def tix (s : D_api_State) (q : D_api_Ticket → Bool) : List Int := buildL (fun k => if ((rd z_api_Ticket s.2.1 k).1 && q (rd z_api_Ticket s.2.1 k)) = true then [k] else []) s.2.1.length

theorem mem_tix {s : D_api_State} {q : D_api_Ticket → Bool} {k : Int} : k ∈ tix s q ↔ 0 ≤ k ∧ k < (s.2.1.length : Int) ∧ (rd z_api_Ticket s.2.1 k).1 = true ∧ q (rd z_api_Ticket s.2.1 k) = true := by
  unfold tix
  rw [mem_buildL]
  constructor
  · rintro ⟨j, h0, h1, h2⟩
    split at h2
    · rename_i h
      rw [Bool.and_eq_true] at h
      rw [List.mem_singleton.1 h2]
      exact ⟨h0, h1, h.1, h.2⟩
    · simp at h2
  · rintro ⟨h0, h1, h2, h3⟩
    exact ⟨k, h0, h1, by simp [h2, h3]⟩

theorem tix_len {s : D_api_State} {q : D_api_Ticket → Bool} : (tix s q).length ≤ s.2.1.length := by
  have := buildL_len (f := fun k => if ((rd z_api_Ticket s.2.1 k).1 && q (rd z_api_Ticket s.2.1 k)) = true then [k] else []) (c := 1) (fun k => by split <;> simp) (n := s.2.1.length)
  unfold tix
  omega

theorem fund_which_eq (s : D_api_State) (p : D_api_Ticket → Option Bool) (q : D_api_Ticket → Bool) (hn : s.2.1.length ≤ 100000) (hp : ∀ t, p t = some (q t)) : fund_which s p = some (tix s q) := by
  unfold fund_which tix
  refine loop_build (fun k => if ((rd z_api_Ticket s.2.1 k).1 && q (rd z_api_Ticket s.2.1 k)) = true then [k] else []) _ (fun x h0 h1 => ?_) ?_
  · have hw1 : IntKind.i64.wrap (x + 1) = x + 1 := w64 (by omega) (by omega)
    have hlen := buildL_len (f := fun k => if ((rd z_api_Ticket s.2.1 k).1 && q (rd z_api_Ticket s.2.1 k)) = true then [k] else []) (c := 1) (fun k => by split <;> simp) (n := x.toNat)
    generalize buildL (fun k => if ((rd z_api_Ticket s.2.1 k).1 && q (rd z_api_Ticket s.2.1 k)) = true then [k] else []) x.toNat = acc at hlen ⊢
    rw [← Tot.eq_iff]
    simp only [fund_which_b1, fund_which_j1, fund_which_j2, hw1, hp, cond_some, Tot.cond_iff, Tot.ass_iff, Tot.bnd_iff, Tot.some_iff, Tot.map_iff, Tot.bind_iff, Nx.inl_iff, Nx.inr_iff, decide_eq_true_eq, decide_eq_false_iff_not]
    refine ⟨fun _ => ⟨⟨h0, h1⟩, ?_⟩, fun hge => absurd h1 hge⟩
    cases hu : (rd z_api_Ticket s.2.1 x).1 <;> cases hq : q (rd z_api_Ticket s.2.1 x) <;> simp [Tot.some_iff]
    unfold limA; omega
  · rw [← Tot.eq_iff]
    simp only [fund_which_b1, fund_which_j1, cond_some, Tot.cond_iff, Tot.ass_iff, Tot.bnd_iff, Tot.some_iff, Tot.map_iff, Tot.bind_iff, Nx.inl_iff, Nx.inr_iff, decide_eq_true_eq, decide_eq_false_iff_not]
    exact ⟨fun hc => absurd hc (by omega), fun _ => trivial⟩

def isOf (c : Int) (t : D_api_Ticket) : Bool := t.2.1 == c
def backs (c : Int) (t : D_api_Ticket) : Bool := (t.2.2.2.1 == 2) && (t.2.2.2.2.1 == c)
def fundsT (i : Int) (t : D_api_Ticket) : Bool := (t.2.2.2.1 == 1) && (t.2.2.2.2.1 == i)

theorem fund_Issued_eq (s : D_api_State) (c : Int) (hn : s.2.1.length ≤ 100000) : fund_Issued s c = some (tix s (isOf c)) := by
  unfold fund_Issued
  rw [fund_which_eq s (fun x => fund_Issued_c1 x c) (isOf c) hn fun t => rfl]
  rfl
theorem fund_Backing_eq (s : D_api_State) (c : Int) (hn : s.2.1.length ≤ 100000) : fund_Backing s c = some (tix s (backs c)) := by
  unfold fund_Backing
  rw [fund_which_eq s (fun x => fund_Backing_c1 x c) (backs c) hn fun t => rfl]
  rfl
theorem fund_Of_eq (s : D_api_State) (c : Int) (hn : s.2.1.length ≤ 100000) : fund_Of s c = some (tix s (fundsT c)) := by
  unfold fund_Of
  rw [fund_which_eq s (fun x => fund_Of_c1 x c) (fundsT c) hn fun t => rfl]
  rfl

/-- The numbers of those that are so. -/
def those (l : List Bool) : List Int := buildL (fun k => if rd false l k = true then [k] else []) l.length

theorem mem_those {l : List Bool} {k : Int} : k ∈ those l ↔ 0 ≤ k ∧ k < (l.length : Int) ∧ rd false l k = true := by
  unfold those
  rw [mem_buildL]
  constructor
  · rintro ⟨j, h0, h1, h2⟩
    split at h2
    · rename_i h; rw [List.mem_singleton.1 h2]; exact ⟨h0, h1, h⟩
    · simp at h2
  · rintro ⟨h0, h1, h2⟩
    exact ⟨k, h0, h1, by simp [h2]⟩

theorem those_len {l : List Bool} : (those l).length ≤ l.length := by
  have := buildL_len (f := fun k => if rd false l k = true then [k] else []) (c := 1) (fun k => by split <;> simp) (n := l.length)
  unfold those
  omega

theorem fund_Own_j1_eq (l : List Bool) (hl : l.length ≤ 100000) : fund_Own_j1 l = some (those l) := by
  unfold fund_Own_j1 those
  refine loop_build (fun k => if rd false l k = true then [k] else []) _ (fun x h0 h1 => ?_) ?_
  · have hw1 : IntKind.i64.wrap (x + 1) = x + 1 := w64 (by omega) (by omega)
    have hlen := buildL_len (f := fun k => if rd false l k = true then [k] else []) (c := 1) (fun k => by split <;> simp) (n := x.toNat)
    rw [← Tot.eq_iff]
    simp only [fund_Own_b1, fund_Own_j2, fund_Own_j3, hw1, cond_some, Tot.cond_iff, Tot.ass_iff, Tot.bnd_iff, Tot.some_iff, Tot.map_iff, Tot.bind_iff, Nx.inl_iff, Nx.inr_iff, decide_eq_true_eq, decide_eq_false_iff_not]
    refine ⟨fun _ => ⟨⟨h0, h1⟩, fun hb => ⟨?_, ?_⟩, fun hb => ?_⟩, fun hge => absurd h1 hge⟩
    · simp only [List.length_singleton]; unfold limA; omega
    · simp [hb]
    · simp [hb]
  · rw [← Tot.eq_iff]
    simp only [fund_Own_b1, fund_Own_j2, cond_some, Tot.cond_iff, Tot.ass_iff, Tot.bnd_iff, Tot.some_iff, Tot.map_iff, Tot.bind_iff, Nx.inl_iff, Nx.inr_iff, decide_eq_true_eq, decide_eq_false_iff_not]
    exact ⟨fun hc => absurd hc (by omega), fun _ => trivial⟩

/-- All the coins that back this one are own ones. -/
def allOwn (s : D_api_State) (own : List Bool) (k : Int) : Bool := !((tix s (backs k)).any fun t => !(rd false own (rd z_api_Ticket s.2.1 t).2.1))
def ownStep (s : D_api_State) (c : Int) (own : List Bool) (k : Int) : List Bool := if k ≠ c ∧ 0 < (tix s (backs k)).length ∧ allOwn s own k = true then wr own k true else own
def ownF (s : D_api_State) (c : Int) (l : List Int) : List Bool := l.foldl (ownStep s c) (wr (List.replicate s.1.length false) c true)

theorem ownStep_len {s : D_api_State} {c : Int} {own : List Bool} {k : Int} : (ownStep s c own k).length = own.length := by
  unfold ownStep; split <;> simp [wr_length]
theorem ownF_len {s : D_api_State} {c : Int} {l : List Int} : (ownF s c l).length = s.1.length := by
  unfold ownF
  have : ∀ (l : List Int) (own : List Bool), (l.foldl (ownStep s c) own).length = own.length := by
    intro l
    induction l with
    | nil => intro own; rfl
    | cons k l ih => intro own; rw [List.foldl_cons, ih, ownStep_len]
  rw [this, wr_length, List.length_replicate]

/-- The coins of tickets are there. -/
def TixIn (s : D_api_State) : Prop := ∀ k : Int, 0 ≤ k → k < (s.2.1.length : Int) → (rd z_api_Ticket s.2.1 k).1 = true → 0 ≤ (rd z_api_Ticket s.2.1 k).2.1 ∧ (rd z_api_Ticket s.2.1 k).2.1 < (s.1.length : Int)

theorem fund_Own_eq (s : D_api_State) (c : Int) (h1 : s.1.length ≤ 4096) (h2 : s.2.1.length ≤ 10000) (hnr : ¬ RingP s.1.length (coinArrows s)) (ht : TixIn s) :
    fund_Own s c = some (if @decide (CoinP s c) (Classical.propDecidable _) = true then those (ownF s c (fundOrd s)) else []) := by
  classical
  obtain ⟨o, ho, hok, hol, hfo, hFO⟩ := fund_Order_eq s h1 h2 hnr
  rw [← Tot.eq_iff]
  simp only [fund_Own, state_Coin_eq, hFO, cond_some, Tot.cond_iff, Tot.ass_iff, Tot.bnd_iff, Tot.some_iff, Tot.map_iff, Tot.bind_iff, Nx.inl_iff, Nx.inr_iff, decide_eq_true_eq, decide_eq_false_iff_not]
  refine ⟨fun hb => ?_, fun hb => ?_⟩
  · simp only [Bool.not_eq_true', decide_eq_false_iff_not] at hb
    simp [hb]
  · simp only [Bool.not_eq_false', decide_eq_true_eq] at hb
    obtain ⟨c0, c1, c2⟩ := id hb
    refine ⟨⟨by omega, by omega, by unfold lim; omega⟩, ⟨c0, by simpa using c1⟩, ?_⟩
    simp only [hb, decide_true, if_true, Int.toNat_natCast]
    have hin : ∀ k ∈ fundOrd s, 0 ≤ k ∧ k < (s.1.length : Int) := fun k hk => by
      rw [hfo] at hk
      exact hok.rng k (List.mem_filter.1 hk).1
    have hfl : (fundOrd s).length ≤ s.1.length := by rw [hfo, ← hol]; exact List.length_filter_le ..
    refine Tot.loop (fun x => 0 ≤ x.2 ∧ x.2 ≤ ((fundOrd s).length : Int) ∧ x.1 = ownF s c ((fundOrd s).take x.2.toNat)) (fun x => (((fundOrd s).length : Int) - x.2).toNat) (fun x hx => ?_) ⟨by omega, by simp, rfl⟩
    obtain ⟨own, x⟩ := x
    simp only at hx
    obtain ⟨g0, g1, rfl⟩ := hx
    have hw1 : IntKind.i64.wrap (x + 1) = x + 1 := w64 (by omega) (by omega)
    have hlen := ownF_len (s := s) (c := c) (l := (fundOrd s).take x.toNat)
    simp only [fund_Own_b2, fund_Own_j4, hw1, fund_Own_j1_eq (ownF s c ((fundOrd s).take x.toNat)) (by omega), fund_Backing_eq s _ (show s.2.1.length ≤ 100000 by omega), cond_some, Tot.cond_iff, Tot.ass_iff, Tot.bnd_iff, Tot.some_iff, Tot.map_iff, Tot.bind_iff, Nx.inl_iff, Nx.inr_iff, decide_eq_true_eq, decide_eq_false_iff_not]
    refine ⟨fun hlt => ⟨⟨g0, hlt⟩, ?_⟩, fun hge => ?_⟩
    · obtain ⟨k, hk⟩ : ∃ k, k = rd 0 (fundOrd s) x := ⟨_, rfl⟩
      have hkin := hin _ (rd_mem (z := 0) g0 hlt)
      have hstep : ownF s c ((fundOrd s).take (x + 1).toNat) = ownStep s c (ownF s c ((fundOrd s).take x.toNat)) k := by
        rw [take_rd (z := 0) g0 hlt, ← hk]
        unfold ownF
        rw [List.foldl_append]
        rfl
      rw [← hk] at hkin ⊢
      have hcf : slices_ContainsFunc_int_int (tix s (backs k)) (fun y => fund_Own_c1 y (ownF s c ((fundOrd s).take x.toNat)) s) = some ((tix s (backs k)).any fun t => !(rd false (ownF s c ((fundOrd s).take x.toNat)) (rd z_api_Ticket s.2.1 t).2.1)) := by
        have htl := tix_len (s := s) (q := backs k)
        refine slices_ContainsFunc_int_eq _ _ _ (by omega) fun y hy => ?_
        obtain ⟨m0, m1, m2, _⟩ := mem_tix.1 hy
        have hti := ht y m0 m1 m2
        rw [← Tot.eq_iff]
        simp only [fund_Own_c1, cond_some, Tot.cond_iff, Tot.ass_iff, Tot.bnd_iff, Tot.some_iff, Tot.map_iff, Tot.bind_iff, Nx.inl_iff, Nx.inr_iff, decide_eq_true_eq, decide_eq_false_iff_not]
        exact ⟨⟨m0, m1⟩, ⟨hti.1, by rw [hlen]; exact hti.2⟩, trivial⟩
      refine ⟨fun ha => ?_, fun ha => ?_⟩
      · rw [hcf, Tot.some_iff]
        refine ⟨fun hd => ⟨⟨hkin.1, by rw [hlen]; exact hkin.2⟩, ⟨by omega, by omega, ?_⟩, by omega⟩, fun hd => ⟨⟨by omega, by omega, ?_⟩, by omega⟩⟩
        · simp only [Bool.and_eq_true, Bool.or_eq_true, Bool.not_eq_true', Bool.and_eq_false_iff, Bool.or_eq_false_iff, Bool.not_eq_false', beq_iff_eq, bne_iff_ne, beq_eq_false_iff_ne, bne_eq_false_iff_eq, decide_eq_true_eq, decide_eq_false_iff_not] at ha hd
          rw [hstep]
          unfold ownStep
          rw [if_pos ⟨ha.1, by omega, by unfold allOwn; rw [hd.2]; rfl⟩]
        · simp only [Bool.and_eq_true, bne_iff_ne, decide_eq_true_eq] at ha
          rw [hstep]
          unfold ownStep
          rw [if_neg]
          rintro ⟨q1, q2, q3⟩
          unfold allOwn at q3
          simp only [Bool.not_eq_true'] at q3
          rw [q3] at hd
          simp [ha] at hd
          rw [hd] at q2
          simp at q2
      · refine ⟨fun hd => ?_, fun hd => ⟨⟨by omega, by omega, ?_⟩, by omega⟩⟩
        · simp only [Bool.and_eq_true, Bool.or_eq_true, Bool.not_eq_true', Bool.and_eq_false_iff, Bool.or_eq_false_iff, Bool.not_eq_false', beq_iff_eq, bne_iff_ne, beq_eq_false_iff_ne, bne_eq_false_iff_eq, decide_eq_true_eq, decide_eq_false_iff_not] at ha hd
          omega
        · rw [hstep]
          unfold ownStep
          rw [if_neg]
          rintro ⟨q1, q2, q3⟩
          simp only [Bool.and_eq_true, Bool.or_eq_true, Bool.not_eq_true', Bool.and_eq_false_iff, Bool.or_eq_false_iff, Bool.not_eq_false', beq_iff_eq, bne_iff_ne, beq_eq_false_iff_ne, bne_eq_false_iff_eq, decide_eq_true_eq, decide_eq_false_iff_not] at ha
          omega
    · have hx : x = ((fundOrd s).length : Int) := by omega
      subst hx
      rw [Int.toNat_natCast, List.take_length]

def alive15 : D_api_State := ([true, true], [(true, 0, 1, 2, 1, false)], [], [], [], 5)

theorem arr15 : coinArrows alive15 = [(0, 1)] := by decide

theorem noring15 : ¬ RingP alive15.1.length (coinArrows alive15) := by
  rw [arr15]
  intro h
  have := (ring_iff (n := alive15.1.length) (l := [(0, 1)]) (by omega)).2 h
  exact absurd this (by decide)

theorem no10 : ¬ Relation.TransGen (RR (alive15.1.length : Int) [(0, 1)]) 1 0 := by
  intro h
  have key : ∀ x y, Relation.TransGen (RR (alive15.1.length : Int) [(0, 1)]) x y → y = 1 := by
    intro x y h
    induction h with
    | single h => have := h.1; simp at this; exact this.2
    | tail _ h _ => have := h.1; simp at this; exact this.2
  have := key _ _ h
  omega

theorem l15_alive_eq : l15_alive = some true := by
  classical
  have hx : (([true, true], [(true, (0 : Int), (1 : Int), (2 : Int), (1 : Int), false)], ([] : List D_api_Thread), ([] : List D_api_Lock), ([] : List Int), (5 : Int)) : D_api_State) = alive15 := rfl
  have b1 : alive15.1.length ≤ 4096 := by decide
  have b2 : alive15.2.1.length ≤ 10000 := by decide
  have k0 : CoinP alive15 0 := ⟨by decide, by decide, by decide⟩
  have k1 : CoinP alive15 1 := ⟨by decide, by decide, by decide⟩
  have f01 : FundsP alive15 0 1 := ⟨k0, k1, by rw [arr15]; exact .single ⟨by simp, by decide, by decide, by decide, by decide⟩⟩
  have f10 : ¬ FundsP alive15 1 0 := fun h => no10 (by have := h.2.2; rwa [arr15] at this)
  obtain ⟨o, ho, _, _, _, hFO⟩ := fund_Order_eq alive15 b1 b2 noring15
  have e1 : fundOrd alive15 = [0, 1] := by decide
  have e2 : tix alive15 (backs 1) = [0] := by decide
  have e3 : those (ownF alive15 0 [0, 1]) = [0, 1] := by decide
  have hOwn := fund_Own_eq alive15 0 b1 b2 noring15 (fun k h0 h1 h2 => by
    have : k = 0 := by simp [alive15] at h1; omega
    subst this
    exact ⟨by decide, by decide⟩)
  have i1 := r11_Ints_eq [0, 1] [0, 1] (by decide)
  have i2 := r11_Ints_eq [0] [0] (by decide)
  rw [← Tot.eq_iff]
  simp only [l15_alive, hx, fund_Funds_eq _ _ _ b1 b2, fund_Closes_eq _ _ _ b1 b2, hFO, fund_Backing_eq alive15 1 (by decide), hOwn, e1, e2, cond_some, Tot.cond_iff, Tot.ass_iff, Tot.bnd_iff, Tot.some_iff, Tot.map_iff, Tot.bind_iff, Nx.inl_iff, Nx.inr_iff, decide_eq_true_eq, decide_eq_false_iff_not]
  simp [f01, f10, k0, k1, e3, i1, i2, Tot.some_iff]
end Go.Tom
