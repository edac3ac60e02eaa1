/- Whom a coin funds, its tickets, its own, who is outside: the document's. -/
import Derived.Test.YtagcgcpapjidcaaPM
set_option linter.unusedVariables false
set_option linter.unusedSimpArgs false
namespace Go.Tom
open Go

theorem FineP.tixIn {s : D_api_State} (h : FineP s) : TixIn s := fun k k0 k1 hu => by
  have := h.tickets.1 k k0 k1
  unfold TicketOk at this
  rw [if_pos hu] at this
  exact ⟨this.1.1, this.1.2.1⟩

theorem r15_Funds_eq (s : D_api_State) (a b : Int) (h1 : s.1.length ≤ 4096) (h2 : s.2.1.length ≤ 10000) : r15_Funds s a b = some (@decide (FundsP s a b) (Classical.propDecidable _)) := by
  classical
  have hal := coinArrows_len (s := s)
  refine Tot.dec ?_
  unfold FundsP
  simp only [r15_Funds, r14_Coin_eq, r14_CoinArrows_eq s (by omega), cond_some, Tot.cond_iff, Tot.ass_iff, Tot.bnd_iff, Tot.some_iff, Tot.map_iff, Tot.bind_iff, Nx.inl_iff, Nx.inr_iff, decide_eq_true_eq, decide_eq_false_iff_not]
  by_cases ha : CoinP s a <;> by_cases hb : CoinP s b <;> simp [ha, hb, Tot.some_iff]
  refine (r13_Reach_tot (s.1.length : Int) (coinArrows s) a (by omega) (by omega) (by omega)).mono fun out ⟨o1, o2⟩ => ?_
  exact ⟨⟨hb.1, by have := hb.2.1; omega⟩, o2 b hb.1 hb.2.1⟩

theorem r15_Order_eq (s : D_api_State) (h1 : s.1.length ≤ 4096) (h2 : s.2.1.length ≤ 10000) (hnr : ¬ RingP s.1.length (coinArrows s)) : r15_Order s = some (fundOrd s) := by
  obtain ⟨o, ho, hok, hol, hfo, hFO⟩ := fund_Order_eq s h1 h2 hnr
  have hal := coinArrows_len (s := s)
  have hro := r13_Order_eq (s.1.length : Int) (coinArrows s) (by omega) (by omega) (by omega) (o := o) (by rw [Int.toNat_natCast]; exact ho)
  rw [hfo]
  unfold r15_Order
  rw [r14_CoinArrows_eq s (by omega), Option.bind_some, hro, Option.bind_some]
  have hb := buildL_filter (z := 0) (xs := o) (q := fun c => rd false s.1 c) (Nat.le_refl _)
  rw [List.take_length] at hb
  rw [← hb]
  refine loop_build (fun k => if rd false s.1 (rd 0 o k) = true then [rd 0 o k] else []) _ (fun x h0 h1 => ?_) ?_
  · have hw1 : IntKind.i64.wrap (x + 1) = x + 1 := w64 (by omega) (by omega)
    have hlen := buildL_len (f := fun k => if rd false s.1 (rd 0 o k) = true then [rd 0 o k] else []) (c := 1) (fun k => by split <;> simp) (n := x.toNat)
    generalize buildL (fun k => if rd false s.1 (rd 0 o k) = true then [rd 0 o k] else []) x.toNat = acc at hlen ⊢
    rw [← Tot.eq_iff]
    simp only [r15_Order_b1, r15_Order_j1, r15_Order_j2, hw1, cond_some, Tot.cond_iff, Tot.ass_iff, Tot.bnd_iff, Tot.some_iff, Tot.map_iff, Tot.bind_iff, Nx.inl_iff, Nx.inr_iff, decide_eq_true_eq, decide_eq_false_iff_not]
    refine ⟨fun _ => ⟨⟨h0, h1⟩, hok.rng _ (rd_mem h0 h1), fun hq => ⟨⟨h0, h1⟩, ?_, ?_⟩, fun hq => ?_⟩, fun hge => absurd h1 hge⟩
    · simp only [List.length_singleton]; unfold limA; omega
    · rw [if_pos hq]
    · rw [if_neg (by rw [hq]; simp), List.append_nil]
  · rw [← Tot.eq_iff]
    simp only [r15_Order_b1, r15_Order_j1, cond_some, Tot.cond_iff, Tot.ass_iff, Tot.bnd_iff, Tot.some_iff, Tot.map_iff, Tot.bind_iff, Nx.inl_iff, Nx.inr_iff, decide_eq_true_eq, decide_eq_false_iff_not]
    exact ⟨fun hc => absurd hc (by omega), fun _ => trivial⟩

def whatT (what i : Int) (t : D_api_Ticket) : Bool := (((what == 0) && (t.2.1 == i)) || (((what == 1) && (t.2.2.2.1 == 2)) && (t.2.2.2.2.1 == i))) || (((what == 2) && (t.2.2.2.1 == 1)) && (t.2.2.2.2.1 == i))

theorem r15_Tickets_eq (s : D_api_State) (what i : Int) (hn : s.2.1.length ≤ 100000) : r15_Tickets s what i = some (tix s (whatT what i)) := by
  unfold r15_Tickets tix
  refine loop_build (fun k => if ((rd z_api_Ticket s.2.1 k).1 && whatT what i (rd z_api_Ticket s.2.1 k)) = true then [k] else []) _ (fun x h0 h1 => ?_) ?_
  · have hw1 : IntKind.i64.wrap (x + 1) = x + 1 := w64 (by omega) (by omega)
    have hlen := buildL_len (f := fun k => if ((rd z_api_Ticket s.2.1 k).1 && whatT what i (rd z_api_Ticket s.2.1 k)) = true then [k] else []) (c := 1) (fun k => by split <;> simp) (n := x.toNat)
    generalize buildL (fun k => if ((rd z_api_Ticket s.2.1 k).1 && whatT what i (rd z_api_Ticket s.2.1 k)) = true then [k] else []) x.toNat = acc at hlen ⊢
    rw [← Tot.eq_iff]
    simp only [r15_Tickets_b1, r15_Tickets_j1, r15_Tickets_j2, hw1, Tot.cond_iff, Tot.ass_iff, Tot.bnd_iff, Tot.some_iff, decide_eq_true_eq, decide_eq_false_iff_not]
    refine ⟨fun _ => ⟨⟨h0, h1⟩, fun hb => ⟨?_, ?_⟩, fun hb => ?_⟩, fun hge => absurd h1 hge⟩
    · simp only [List.length_singleton]; unfold limA; omega
    · rw [if_pos (by unfold whatT; exact hb)]
    · rw [if_neg (by unfold whatT; rw [hb]; simp), List.append_nil]
  · rw [← Tot.eq_iff]
    simp only [r15_Tickets_b1, r15_Tickets_j1, cond_some, Tot.cond_iff, Tot.ass_iff, Tot.bnd_iff, Tot.some_iff, Tot.map_iff, Tot.bind_iff, Nx.inl_iff, Nx.inr_iff, decide_eq_true_eq, decide_eq_false_iff_not]
    exact ⟨fun hc => absurd hc (by omega), fun _ => trivial⟩

theorem tix_congr {s : D_api_State} {q q' : D_api_Ticket → Bool} (h : ∀ t, q t = q' t) : tix s q = tix s q' := by
  have : q = q' := funext h
  rw [this]
theorem tix0 {s : D_api_State} {i : Int} : tix s (whatT 0 i) = tix s (isOf i) := tix_congr fun t => by simp [whatT, isOf]
theorem tix1 {s : D_api_State} {i : Int} : tix s (whatT 1 i) = tix s (backs i) := tix_congr fun t => by simp [whatT, backs]
theorem tix2 {s : D_api_State} {i : Int} : tix s (whatT 2 i) = tix s (fundsT i) := tix_congr fun t => by simp [whatT, fundsT]

/-- A coin's own: itself, and what is backed by own ones alone. -/
inductive OwnP (s : D_api_State) (c : Int) : Int → Prop
  | base : OwnP s c c
  | step {k : Int} : CoinP s k → 0 < (tix s (backs k)).length → (∀ t ∈ tix s (backs k), OwnP s c (rd z_api_Ticket s.2.1 t).2.1) → OwnP s c k

theorem OwnP.coin {s : D_api_State} {c k : Int} (hc : CoinP s c) (h : OwnP s c k) : CoinP s k := by
  cases h with
  | base => exact hc
  | step h _ _ => exact h

theorem allOwn_iff {s : D_api_State} {own : List Bool} {k : Int} : allOwn s own k = true ↔ ∀ t ∈ tix s (backs k), rd false own (rd z_api_Ticket s.2.1 t).2.1 = true := by
  unfold allOwn
  simp only [Bool.not_eq_true', List.any_eq_false, Bool.not_eq_true, Bool.not_eq_false', Bool.not_eq_false]

/-- What stands in a list of own ones. -/
def SoundO (s : D_api_State) (c : Int) (own : List Bool) : Prop := own.length = s.1.length ∧ rd false own c = true ∧ ∀ k : Int, 0 ≤ k → k < (s.1.length : Int) → rd false own k = true → OwnP s c k
def ClosedO (s : D_api_State) (own : List Bool) (m : Int) : Prop := ∀ k : Int, 0 ≤ k → k < m → CoinP s k → 0 < (tix s (backs k)).length → allOwn s own k = true → rd false own k = true

theorem own_start {s : D_api_State} {c : Int} (hc : CoinP s c) : SoundO s c (wr (List.replicate s.1.length false) c true) := by
  obtain ⟨c0, c1, _⟩ := hc
  refine ⟨by simp [wr_length], by rw [rd_wr c0 (by simpa using c1) c0, if_pos rfl], fun k k0 k1 hk => ?_⟩
  rw [rd_wr c0 (by simpa using c1) k0] at hk
  split at hk
  · rename_i h; subst h; exact .base
  · simp [rd, List.getD_eq_getElem?_getD, List.getElem?_replicate] at hk
    split at hk <;> simp at hk

theorem SoundO.set {s : D_api_State} {c k : Int} {own : List Bool} (h : SoundO s c own) (k0 : 0 ≤ k) (k1 : k < (s.1.length : Int)) (hk : OwnP s c k) (c0 : 0 ≤ c) : SoundO s c (wr own k true) := by
  obtain ⟨h1, h2, h3⟩ := h
  refine ⟨by rw [wr_length]; exact h1, ?_, fun j j0 j1 hj => ?_⟩
  · rw [rd_wr k0 (by omega) c0]; split
    · rfl
    · exact h2
  · rw [rd_wr k0 (by omega) j0] at hj
    split at hj
    · rename_i hjk; subst hjk; exact hk
    · exact h3 j j0 j1 hj

theorem SoundO.all {s : D_api_State} {c k : Int} {own : List Bool} (h : SoundO s c own) (ht : TixIn s) (ha : allOwn s own k = true) : ∀ t ∈ tix s (backs k), OwnP s c (rd z_api_Ticket s.2.1 t).2.1 := fun t htk => by
  obtain ⟨m0, m1, m2, _⟩ := mem_tix.1 htk
  obtain ⟨t0, t1⟩ := ht t m0 m1 m2
  exact h.2.2 _ t0 t1 (allOwn_iff.1 ha t htk)

theorem own_full {s : D_api_State} {c k : Int} {own : List Bool} (h : SoundO s c own) (hcl : ClosedO s own s.1.length) (hk : OwnP s c k) : rd false own k = true := by
  induction hk with
  | base => exact h.2.1
  | step hc hl _ ih => exact hcl _ hc.1 hc.2.1 hc hl (allOwn_iff.2 ih)

theorem own_unique {s : D_api_State} {c : Int} {a b : List Bool} (hc : CoinP s c) (ha : SoundO s c a) (hac : ∀ k, OwnP s c k → rd false a k = true) (hb : SoundO s c b) (hbc : ∀ k, OwnP s c k → rd false b k = true) : a = b := by
  refine List.ext_getElem (by rw [ha.1, hb.1]) fun k h1 h2 => ?_
  have e1 := rd_eq (z := false) (xs := a) (i := (k : Int)) k rfl h1
  have e2 := rd_eq (z := false) (xs := b) (i := (k : Int)) k rfl h2
  have hla := ha.1
  have hlb := hb.1
  rw [← e1, ← e2, Bool.eq_iff_iff]
  exact ⟨fun h => hbc _ (ha.2.2 _ (by omega) (by omega) h), fun h => hac _ (hb.2.2 _ (by omega) (by omega) h)⟩
end Go.Tom
