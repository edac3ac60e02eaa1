/- Which tickets count, and the active amounts: the program's functions. -/
import Derived.Test.YtagcgcpapjidcaaPT
import Derived.Test.YtagcgcpapjidcaaPTix
set_option linter.unusedVariables false
set_option linter.unusedSimpArgs false
namespace Go.Tom
open Go

theorem Tot.each {σ : Type} {f : σ → Int → Option σ} (I : List Int → σ → Prop) {l : List Int} (hs : ∀ pre x s rest, l = pre ++ x :: rest → I pre s → Tot (f s x) (I (pre ++ [x]))) {s0 : σ} (h0 : I [] s0) : Tot (eachM f l s0) (I l) := by
  have key : ∀ rest pre s, l = pre ++ rest → I pre s → Tot (eachM f rest s) (I l) := by
    intro rest
    induction rest with
    | nil =>
      intro pre s hl hI
      rw [List.append_nil] at hl
      subst hl
      exact ⟨s, rfl, hI⟩
    | cons x rest ih =>
      intro pre s hl hI
      obtain ⟨s', h1, h2⟩ := hs pre x s rest hl hI
      simp only [eachM, h1, Option.bind_some]
      exact ih (pre ++ [x]) s' (by rw [hl]; simp) h2
  exact key l [] s0 rfl h0

theorem live_Threads_tot {s : D_api_State} (h : Chn s) (hn : s.2.2.1.length ≤ 1000) : Tot (live_Threads s) (fun L => L.length = s.2.2.1.length ∧ ∀ i : Int, 0 ≤ i → i < (s.2.2.1.length : Int) → rd false L i = livesB s i) := by
  simp only [live_Threads, cond_some, Tot.cond_iff, Tot.ass_iff, Tot.bnd_iff, Tot.some_iff, Tot.map_iff, Tot.bind_iff, Nx.inl_iff, Nx.inr_iff, decide_eq_true_eq, decide_eq_false_iff_not]
  refine ⟨⟨by omega, by omega, by unfold lim; omega⟩, ?_⟩
  rw [Int.toNat_natCast]
  refine Tot.loop (fun x => 0 ≤ x.2 ∧ x.2 ≤ (s.2.2.1.length : Int) ∧ x.1.length = s.2.2.1.length ∧ ∀ i : Int, 0 ≤ i → i < x.2 → rd false x.1 i = livesB s i) (fun x => ((s.2.2.1.length : Int) - x.2).toNat) (fun x hx => ?_) ⟨by omega, by simp, by simp, fun i i0 i1 => absurd (show i < 0 from i1) (by omega)⟩
  obtain ⟨L, x⟩ := x
  simp only at hx
  obtain ⟨h0, h1, h2, h3⟩ := hx
  have hw1 : IntKind.i64.wrap (x + 1) = x + 1 := w64 (by omega) (by omega)
  simp only [live_Threads_b1, live_Threads_j1, hw1, chain_Lives_eq h, List.length_replicate, wr_length, cond_some, Tot.cond_iff, Tot.ass_iff, Tot.bnd_iff, Tot.some_iff, Tot.map_iff, Tot.bind_iff, Nx.inl_iff, Nx.inr_iff, decide_eq_true_eq, decide_eq_false_iff_not]
  refine ⟨fun hlt => ⟨⟨h0, by omega⟩, ⟨by omega, by omega, h2, fun i i0 i1 => ?_⟩, by omega⟩, fun hge => ⟨h2, fun i i0 i1 => h3 i i0 (by omega)⟩⟩
  rw [rd_wr h0 (by omega) i0]
  split
  · rename_i hi; rw [hi]
  · exact h3 i i0 (by omega)

theorem sum_buildL {p : Int → Bool} {g : Int → Int} : ∀ {n : Nat}, ((buildL (fun k => if p k = true then [k] else []) n).map g).sum = sumI (fun k => if p k = true then g k else 0) n
  | 0 => rfl
  | n + 1 => by
    have hs := buildL_step (f := fun k => if p k = true then [k] else []) (x := (n : Int)) (by omega)
    rw [show ((n : Int) + 1).toNat = n + 1 from by omega, Int.toNat_natCast] at hs
    rw [hs, List.map_append, List.sum_append, sum_buildL]
    show _ = sumI _ n + _
    congr 1
    by_cases hp : p (n : Int) = true <;> simp [hp]

theorem buildL_nodup {p : Int → Bool} : ∀ {n : Nat}, (buildL (fun k => if p k = true then [k] else []) n).Nodup
  | 0 => List.nodup_nil
  | n + 1 => by
    have hs := buildL_step (f := fun k => if p k = true then [k] else []) (x := (n : Int)) (by omega)
    rw [show ((n : Int) + 1).toNat = n + 1 from by omega, Int.toNat_natCast] at hs
    rw [hs, List.nodup_append]
    refine ⟨buildL_nodup, by split <;> simp, fun a ha b hb hab => ?_⟩
    subst hab
    obtain ⟨j, j0, j1, j2⟩ := mem_buildL.1 ha
    split at j2
    · have := List.mem_singleton.1 j2
      split at hb
      · have := List.mem_singleton.1 hb; omega
      · simp at hb
    · simp at j2

/-- What a coin's tickets add together. -/
def sumT (s : D_api_State) (c : Int) (l : List Int) : Int := (l.map (addsI s c)).sum

theorem sumT_all {s : D_api_State} (h : FineP s) (c : Int) : sumT s c (tix s (isOf c)) = amtI s c := by
  rw [amtI_sum h c]
  unfold sumT tix
  rw [sum_buildL]
  refine sumI_congr fun k k0 k1 => ?_
  split
  · rfl
  · rename_i hc
    unfold addsI
    rw [if_neg]
    intro hc2
    apply hc
    simp only [cntB, cntW, Bool.and_eq_true] at hc2
    rw [Bool.and_eq_true]
    exact ⟨hc2.2.1.1, hc2.1⟩

theorem sumT_bound {s : D_api_State} (h : FineP s) {c : Int} : ∀ {l : List Int}, (∀ k ∈ l, 0 ≤ k ∧ k < (s.2.1.length : Int)) → 0 ≤ sumT s c l ∧ sumT s c l ≤ 1048576 * (l.length : Int)
  | [], _ => by simp [sumT]
  | k :: l, hl => by
    have ih := sumT_bound h (c := c) (l := l) fun j hj => hl j (List.mem_cons_of_mem _ hj)
    have hk := addsI_bound h (c := c) (hl k (List.mem_cons_self ..)).1 (hl k (List.mem_cons_self ..)).2
    have e : sumT s c (k :: l) = addsI s c k + sumT s c l := by simp [sumT]
    rw [e]
    simp only [List.length_cons]
    omega

/-- What the amounts are when these coins have been gone through. -/
structure Mid (s : D_api_State) (pre : List Int) (cs : List Bool) (am : List Int) : Prop where
  cl : cs.length = s.2.1.length
  al : am.length = s.1.length
  cv : ∀ k : Int, 0 ≤ k → k < (s.2.1.length : Int) → rd false cs k = if (tk s k).1 = true ∧ (tk s k).2.1 ∈ pre then cntB s k else false
  av : ∀ c : Int, 0 ≤ c → c < (s.1.length : Int) → rd 0 am c = if c ∈ pre then amtI s c else 0

theorem round_tot {s : D_api_State} (h : FineP s) {Y : List Bool} (hY : Y.length = s.2.2.1.length ∧ ∀ i : Int, 0 ≤ i → i < (s.2.2.1.length : Int) → rd false Y i = livesB s i) {pre : List Int} {x : Int} {cs : List Bool} {am : List Int} (hm : Mid s pre cs am)
    (x0 : 0 ≤ x) (x1 : x < (s.1.length : Int)) (hx : x ∉ pre) (hto : ∀ y, RR s.1.length (coinArrows s) x y → CoinP s y → y ∈ pre) : Tot (live_reckon_r2 s Y cs am x) (fun r => Mid s (pre ++ [x]) r.1 r.2) := by
  have hl := h.tickets.2.1
  simp only [live_reckon_r2, fund_Issued_eq s x (by omega), cond_some, Tot.cond_iff, Tot.ass_iff, Tot.bnd_iff, Tot.some_iff, Tot.map_iff, Tot.bind_iff, Nx.inl_iff, Nx.inr_iff, decide_eq_true_eq, decide_eq_false_iff_not]
  have hTm : ∀ k ∈ tix s (isOf x), 0 ≤ k ∧ k < (s.2.1.length : Int) ∧ (tk s k).1 = true ∧ (tk s k).2.1 = x := fun k hk => by
    obtain ⟨m0, m1, m2, m3⟩ := mem_tix.1 hk
    exact ⟨m0, m1, m2, beq_iff_eq.1 m3⟩
  have hTi : ∀ k : Int, 0 ≤ k → k < (s.2.1.length : Int) → (tk s k).1 = true → (tk s k).2.1 = x → k ∈ tix s (isOf x) := fun k k0 k1 hu hc => mem_tix.2 ⟨k0, k1, hu, beq_iff_eq.2 hc⟩
  have hTn : (tix s (isOf x)).Nodup := buildL_nodup (p := fun k => (rd z_api_Ticket s.2.1 k).1 && isOf x (rd z_api_Ticket s.2.1 k))
  have hTl := tix_len (s := s) (q := isOf x)
  have hTs := sumT_all h x
  generalize tix s (isOf x) = T at hTm hTi hTn hTl hTs ⊢
  refine Tot.loop (fun z => 0 ≤ z.2.2 ∧ z.2.2 ≤ (T.length : Int) ∧ z.1.length = s.2.1.length ∧ z.2.1.length = s.1.length ∧
      (∀ k : Int, 0 ≤ k → k < (s.2.1.length : Int) → rd false z.1 k = if ((tk s k).1 = true ∧ (tk s k).2.1 ∈ pre) ∨ k ∈ T.take z.2.2.toNat then cntB s k else false) ∧
      (∀ c : Int, 0 ≤ c → c < (s.1.length : Int) → rd 0 z.2.1 c = if c = x then sumT s x (T.take z.2.2.toNat) else if c ∈ pre then amtI s c else 0)) (fun z => ((T.length : Int) - z.2.2).toNat) (fun z hz => ?_) ⟨by simp, by simp, hm.cl, hm.al, fun k k0 k1 => ?_, fun c c0 c1 => ?_⟩
  rotate_left
  · rw [hm.cv k k0 k1]; simp
  · rw [hm.av c c0 c1]
    by_cases hcx : c = x
    · subst hcx; simp [hx, sumT]
    · simp [hcx]
  obtain ⟨ca, aa, j⟩ := z
  simp only at hz
  obtain ⟨j0, j1, hcl, hal, hcv, hav⟩ := hz
  have hw1 : IntKind.i64.wrap (j + 1) = j + 1 := w64 (by omega) (by omega)
  simp only [live_reckon_b1, cond_some, Tot.cond_iff, Tot.ass_iff, Tot.bnd_iff, Tot.some_iff, Tot.map_iff, Tot.bind_iff, Nx.inl_iff, Nx.inr_iff, decide_eq_true_eq, decide_eq_false_iff_not]
  refine ⟨fun hlt => ⟨⟨j0, hlt⟩, ?_⟩, fun hge => ?_⟩
  · obtain ⟨k, hk⟩ : ∃ k, k = rd 0 T j := ⟨_, rfl⟩
    have hkT : k ∈ T := by rw [hk]; exact rd_mem j0 hlt
    obtain ⟨k0, k1, hu, hkc⟩ := hTm k hkT
    have htake : T.take (j + 1).toNat = T.take j.toNat ++ [k] := by rw [hk]; exact take_rd j0 hlt
    have hknot : k ∉ T.take j.toNat := by
      have h5 : (T.take (j + 1).toNat).Nodup := hTn.sublist (List.take_sublist _ _)
      rw [htake, List.nodup_append] at h5
      exact fun hc => h5.2.2 k hc k (by simp) rfl
    rw [← hk]
    have htk : rd z_api_Ticket s.2.1 k = tk s k := rfl
    rw [htk]
    have hok := h.tk_ok k0 k1
    unfold TicketOk at hok
    rw [if_pos hu] at hok
    have hbnd := sumT_bound h (c := x) (l := T.take j.toNat) fun i hi => ⟨(hTm i (List.mem_of_mem_take hi)).1, (hTm i (List.mem_of_mem_take hi)).2.1⟩
    have hlen : ((T.take j.toNat).length : Int) ≤ 96 := by simp; omega
    have hsum : sumT s x (T.take (j + 1).toNat) = sumT s x (T.take j.toNat) + addsI s x k := by rw [htake]; simp [sumT]
    have hadd := addsI_bound h (c := x) k0 k1
    -- behind the ticket
    have fin : ∀ cb : List Bool, cb.length = s.2.1.length → rd false cb k = cntB s k → (∀ i : Int, 0 ≤ i → i < (s.2.1.length : Int) → i ≠ k → rd false cb i = rd false ca i) →
        Tot (live_reckon_j1 x aa j k (tk s k) cb) (Nx (fun z : List Bool × List Int × Int => 0 ≤ z.2.2 ∧ z.2.2 ≤ (T.length : Int) ∧ z.1.length = s.2.1.length ∧ z.2.1.length = s.1.length ∧
          (∀ k : Int, 0 ≤ k → k < (s.2.1.length : Int) → rd false z.1 k = if ((tk s k).1 = true ∧ (tk s k).2.1 ∈ pre) ∨ k ∈ T.take z.2.2.toNat then cntB s k else false) ∧
          (∀ c : Int, 0 ≤ c → c < (s.1.length : Int) → rd 0 z.2.1 c = if c = x then sumT s x (T.take z.2.2.toNat) else if c ∈ pre then amtI s c else 0)) (fun z => ((T.length : Int) - z.2.2).toNat) ((T.length : Int) - j).toNat (fun r => Mid s (pre ++ [x]) r.1 r.2)) := by
      intro cb hcb hcbk hcbo
      have hnew : ∀ i : Int, 0 ≤ i → i < (s.2.1.length : Int) → rd false cb i = if ((tk s i).1 = true ∧ (tk s i).2.1 ∈ pre) ∨ i ∈ T.take (j + 1).toNat then cntB s i else false := fun i i0 i1 => by
        by_cases hik : i = k
        · subst hik
          rw [hcbk, if_pos (.inr (by rw [htake]; simp))]
        · rw [hcbo i i0 i1 hik, hcv i i0 i1, htake]
          simp [hik]
      simp only [live_reckon_j1, live_reckon_j2, hw1, hcb, hcbk, cond_some, Tot.cond_iff, Tot.ass_iff, Tot.bnd_iff, Tot.some_iff, Tot.map_iff, Tot.bind_iff, Nx.inl_iff, Nx.inr_iff, decide_eq_true_eq, decide_eq_false_iff_not]
      have hax : rd 0 aa x = sumT s x (T.take j.toNat) := by rw [hav x x0 x1, if_pos rfl]
      refine ⟨⟨k0, k1⟩, fun hb => ⟨⟨x0, by omega⟩, ⟨by omega, by omega, trivial, by rw [wr_length]; exact hal, hnew, fun c c0 c1 => ?_⟩, by omega⟩, fun hb => ⟨⟨by omega, by omega, trivial, hal, hnew, fun c c0 c1 => ?_⟩, by omega⟩⟩
      · have ha : addsI s x k = (tk s k).2.2.1 := by unfold addsI; rw [hkc, hb]; simp
        have hw2 : IntKind.i64.wrap (rd 0 aa x + (tk s k).2.2.1) = rd 0 aa x + (tk s k).2.2.1 := w64 (by omega) (by omega)
        rw [hw2, rd_wr x0 (by omega) c0]
        by_cases hcx : c = x
        · rw [if_pos hcx, if_pos hcx, hsum, hax, ha]
        · rw [if_neg hcx, if_neg hcx, hav c c0 c1, if_neg hcx]
      · have ha : addsI s x k = 0 := by unfold addsI; rw [hkc, hb]; simp
        rw [hav c c0 c1, hsum, ha]; simp
    have hset : ∀ v : Bool, v = cntB s k → rd false (wr ca k v) k = cntB s k ∧ ∀ i : Int, 0 ≤ i → i < (s.2.1.length : Int) → i ≠ k → rd false (wr ca k v) i = rd false ca i := fun v hv =>
      ⟨by rw [rd_wr k0 (by omega) k0, if_pos rfl, hv], fun i i0 i1 hik => by rw [rd_wr k0 (by omega) i0, if_neg hik]⟩
    refine ⟨⟨k0, k1⟩, fun hk1 => ?_, fun hk1 => ⟨fun hk2 => ?_, fun hk2 => ?_⟩⟩
    · have hk1' : (tk s k).2.2.2.1 = 1 := beq_iff_eq.1 hk1
      have hk2 : ((tk s k).2.2.2.1 == 2) = false := beq_eq_false_iff_ne.2 (by omega)
      have hthr : ThrP s (tk s k).2.2.2.2.1 := by
        rcases hok.2.2.2 with hd | hd | hd
        · omega
        · exact hd.2
        · omega
      have hv : ((tk s k).2.2.2.2.2 && rd false Y (tk s k).2.2.2.2.1) = cntB s k := by
        rw [hY.2 _ hthr.1 hthr.2.1]
        unfold cntB cntW
        rw [hu, hk1, hk2]; simp
      obtain ⟨f1, f2⟩ := hset _ hv
      exact ⟨fun _ => ⟨hthr.1, by rw [hY.1]; exact hthr.2.1⟩, ⟨k0, by omega⟩, fin _ (by rw [wr_length]; exact hcl) f1 f2⟩
    · have hk2' : (tk s k).2.2.2.1 = 2 := beq_iff_eq.1 hk2
      have hrr := h.arr k0 k1 hu hk2'
      rw [hkc] at hrr
      have hto2 : CoinP s (tk s k).2.2.2.2.1 := by
        rcases hok.2.2.2 with hd | hd | hd
        · omega
        · omega
        · exact hd.2.2
      have hpre := hto _ hrr hto2
      have hne : (tk s k).2.2.2.2.1 ≠ x := fun hc => hx (hc ▸ hpre)
      have hv : ((tk s k).2.2.2.2.2 && decide (rd 0 aa (tk s k).2.2.2.2.1 > 0)) = cntB s k := by
        rw [hav _ hto2.1 hto2.2.1, if_neg hne, if_pos hpre]
        unfold cntB cntW
        rw [hu, hk1, hk2]; simp
      obtain ⟨f1, f2⟩ := hset _ hv
      exact ⟨fun _ => ⟨hto2.1, by have := hto2.2.1; omega⟩, ⟨k0, by omega⟩, fin _ (by rw [wr_length]; exact hcl) f1 f2⟩
    · refine fin ca hcl ?_ fun i _ _ _ => rfl
      rw [hcv k k0 k1, if_neg]
      · unfold cntB cntW
        rw [hk1, hk2]; simp
      · rintro (⟨_, hc⟩ | hc)
        · rw [hkc] at hc; exact hx hc
        · exact hknot hc
  · have hj : j = (T.length : Int) := by omega
    subst hj
    rw [Int.toNat_natCast, List.take_length] at hcv hav
    refine ⟨hcl, hal, fun k k0 k1 => ?_, fun c c0 c1 => ?_⟩
    · rw [hcv k k0 k1]
      have hiff : (((tk s k).1 = true ∧ (tk s k).2.1 ∈ pre) ∨ k ∈ T) ↔ ((tk s k).1 = true ∧ (tk s k).2.1 ∈ pre ++ [x]) := by
        simp only [List.mem_append, List.mem_singleton]
        constructor
        · rintro (⟨a, b⟩ | hc)
          · exact ⟨a, .inl b⟩
          · obtain ⟨_, _, a, b⟩ := hTm k hc; exact ⟨a, .inr b⟩
        · rintro ⟨a, b | b⟩
          · exact .inl ⟨a, b⟩
          · exact .inr (hTi k k0 k1 a b)
      rw [if_iff hiff]
    · rw [hav c c0 c1, hTs]
      by_cases hcx : c = x
      · subst hcx; simp
      · simp [hcx]
end Go.Tom
