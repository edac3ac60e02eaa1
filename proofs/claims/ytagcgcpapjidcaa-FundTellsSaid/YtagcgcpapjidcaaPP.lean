/- A coin's own: the program's and the document's are the same. -/
import Derived.Test.YtagcgcpapjidcaaPO
set_option linter.unusedVariables false
set_option linter.unusedSimpArgs false
namespace Go.Tom
open Go

theorem arr_of_tix {s : D_api_State} {k t : Int} (h : t ∈ tix s (backs k)) : ((rd z_api_Ticket s.2.1 t).2.1, k) ∈ coinArrows s := by
  obtain ⟨m0, m1, m2, m3⟩ := mem_tix.1 h
  unfold coinArrows
  rw [mem_buildL]
  refine ⟨t, m0, m1, ?_⟩
  unfold backs at m3
  simp only [Bool.and_eq_true, Bool.or_eq_true, Bool.not_eq_true', Bool.and_eq_false_iff, Bool.or_eq_false_iff, Bool.not_eq_false', beq_iff_eq, bne_iff_ne, beq_eq_false_iff_ne, bne_eq_false_iff_eq, decide_eq_true_eq, decide_eq_false_iff_not] at m3
  unfold coinArr
  rw [if_pos ⟨m2, m3.1⟩, m3.2]
  simp

theorem ownStep_mono {s : D_api_State} {c k x : Int} {own : List Bool} (k0 : 0 ≤ k) (k1 : k < (own.length : Int)) (x0 : 0 ≤ x) (h : rd false own x = true) : rd false (ownStep s c own k) x = true := by
  unfold ownStep
  split
  · rw [rd_wr k0 k1 x0]; split
    · rfl
    · exact h
  · exact h

theorem ownF_full {s : D_api_State} {c : Int} {o : List Int} (hc : CoinP s c) (ht : TixIn s) (hok : OrdOk s.1.length (coinArrows s) o) (hol : o.length = s.1.length) :
    SoundO s c (ownF s c (o.filter fun c => rd false s.1 c)) ∧ ∀ k, OwnP s c k → rd false (ownF s c (o.filter fun c => rd false s.1 c)) k = true := by
  have c0 := hc.1
  have hfold : ∀ l : List Int, ownF s c (l.filter fun c => rd false s.1 c) = l.foldl (fun a x => if rd false s.1 x = true then ownStep s c a x else a) (wr (List.replicate s.1.length false) c true) := fun l => by
    unfold ownF
    rw [List.foldl_filter]
  have key : ∀ j, j ≤ o.length → SoundO s c (ownF s c ((o.take j).filter fun c => rd false s.1 c)) ∧ ∀ k ∈ o.take j, OwnP s c k → rd false (ownF s c ((o.take j).filter fun c => rd false s.1 c)) k = true := by
    intro j
    induction j with
    | zero => intro _; exact ⟨own_start hc, fun k hk => by simp at hk⟩
    | succ j ih =>
      intro hj
      obtain ⟨i1, i2⟩ := ih (by omega)
      have hjl : j < o.length := by omega
      have htk : o.take (j + 1) = o.take j ++ [o[j]] := by rw [List.take_succ_eq_append_getElem hjl]
      have hstep : ownF s c ((o.take (j + 1)).filter fun c => rd false s.1 c) = if rd false s.1 o[j] = true then ownStep s c (ownF s c ((o.take j).filter fun c => rd false s.1 c)) o[j] else ownF s c ((o.take j).filter fun c => rd false s.1 c) := by
        rw [htk, hfold, List.foldl_append, ← hfold]
        rfl
      obtain ⟨a, ha⟩ : ∃ a, a = ownF s c ((o.take j).filter fun c => rd false s.1 c) := ⟨_, rfl⟩
      rw [← ha] at i1 i2 hstep
      obtain ⟨r0, r1⟩ := hok.rng o[j] (List.getElem_mem _)
      have hal := i1.1
      rw [hstep]
      by_cases hcoin : rd false s.1 o[j] = true
      · have hcp : CoinP s o[j] := ⟨r0, r1, hcoin⟩
        rw [if_pos hcoin]
        refine ⟨?_, fun k hk hko => ?_⟩
        · unfold ownStep
          split
          · rename_i hcond
            exact i1.set r0 r1 (.step hcp hcond.2.1 (i1.all ht hcond.2.2)) c0
          · exact i1
        · rw [htk] at hk
          rcases List.mem_append.1 hk with hk | hk
          · exact ownStep_mono r0 (by omega) (hok.rng k (List.mem_of_mem_take hk)).1 (i2 k hk hko)
          · have hk := List.mem_singleton.1 hk
            subst hk
            by_cases hkc : o[j] = c
            · exact ownStep_mono r0 (by omega) r0 (by rw [hkc]; exact i1.2.1)
            · cases hko with
              | base => exact absurd rfl hkc
              | step _ hl hall =>
                have hao : allOwn s a o[j] = true := allOwn_iff.2 fun t htt => by
                  obtain ⟨m0, m1, m2, _⟩ := mem_tix.1 htt
                  obtain ⟨t0, t1⟩ := ht t m0 m1 m2
                  exact i2 _ (hok.ahead j hjl _ ⟨arr_of_tix htt, t0, t1, r0, r1⟩) (hall t htt)
                unfold ownStep
                rw [if_pos ⟨hkc, hl, hao⟩, rd_wr r0 (by omega) r0, if_pos rfl]
      · rw [if_neg hcoin]
        refine ⟨i1, fun k hk hko => ?_⟩
        rw [htk] at hk
        rcases List.mem_append.1 hk with hk | hk
        · exact i2 k hk hko
        · have hk := List.mem_singleton.1 hk
          subst hk
          exact absurd (hko.coin hc).2.2 hcoin
  obtain ⟨k1, k2⟩ := key o.length (Nat.le_refl _)
  rw [List.take_length] at k1 k2
  refine ⟨k1, fun k hk => k2 k ?_ hk⟩
  have hkc := hk.coin hc
  exact full hok.nodup hok.rng (by omega) hkc.1 hkc.2.1

theorem r15_Own_tot (s : D_api_State) (c : Int) (h1 : s.1.length ≤ 4096) (h2 : s.2.1.length ≤ 10000) (ht : TixIn s) (hc : CoinP s c) : Tot (r15_Own s c) (fun L => SoundO s c L ∧ ClosedO s L s.1.length) := by
  classical
  obtain ⟨c0, c1, c2⟩ := id hc
  simp only [r15_Own, r14_Coin_eq, hc, decide_true, Bool.not_true, cond_some, Tot.cond_iff, Tot.ass_iff, Tot.bnd_iff, Tot.some_iff, Tot.map_iff, Tot.bind_iff, Nx.inl_iff, Nx.inr_iff, decide_eq_true_eq, decide_eq_false_iff_not]
  refine ⟨⟨by omega, by omega, by unfold lim; omega⟩, fun h => absurd h (by simp), fun _ => ⟨⟨c0, by simpa using c1⟩, ?_⟩⟩
  rw [Int.toNat_natCast]
  refine Tot.loop (fun x => SoundO s c x.1 ∧ (x.2 = false → ClosedO s x.1 s.1.length)) (fun x => 2 * x.1.count false + (if x.2 = true then 1 else 0)) (fun x hx => ?_) ⟨own_start hc, fun h => by simp at h⟩
  obtain ⟨own, ag⟩ := x
  obtain ⟨hs, hcl⟩ := hx
  simp only [r15_Own_b1, r15_Own_j1, cond_some, Tot.cond_iff, Tot.ass_iff, Tot.bnd_iff, Tot.some_iff, Tot.map_iff, Tot.bind_iff, Nx.inl_iff, Nx.inr_iff, decide_eq_true_eq, decide_eq_false_iff_not]
  refine ⟨fun hag => ?_, fun hag => ⟨hs, hcl hag⟩⟩
  subst hag
  refine Tot.loop (fun y => 0 ≤ y.2.2 ∧ y.2.2 ≤ (s.1.length : Int) ∧ SoundO s c y.1 ∧ (y.2.1 = true → y.1.count false < own.count false) ∧ (y.2.1 = false → y.1 = own ∧ ClosedO s own y.2.2)) (fun y => ((s.1.length : Int) - y.2.2).toNat) (fun y hy => ?_)
    ⟨by simp, by simp, hs, fun h => by simp at h, fun _ => ⟨rfl, fun k k0 k1 => absurd (show k < 0 from k1) (by omega)⟩⟩
  obtain ⟨w, g, k⟩ := y
  simp only at hy
  obtain ⟨k0, k1, hw, hgt, hgf⟩ := hy
  have hwl := hw.1
  have hw1 : IntKind.i64.wrap (k + 1) = k + 1 := w64 (by omega) (by omega)
  simp only [r15_Own_b2, r15_Tickets_eq s 1 k (by omega), tix1, cond_some, Tot.cond_iff, Tot.ass_iff, Tot.bnd_iff, Tot.some_iff, Tot.map_iff, Tot.bind_iff, Nx.inl_iff, Nx.inr_iff, decide_eq_true_eq, decide_eq_false_iff_not]
  refine ⟨fun hlt => ⟨⟨k0, hlt⟩, fun _ => ⟨k0, by omega⟩, ?_⟩, fun hge => ?_⟩
  · have hT := tix_len (s := s) (q := backs k)
    obtain ⟨T, hTe⟩ : ∃ T, T = tix s (backs k) := ⟨_, rfl⟩
    have hTm : ∀ t ∈ T, 0 ≤ t ∧ t < (s.2.1.length : Int) ∧ 0 ≤ (rd z_api_Ticket s.2.1 t).2.1 ∧ (rd z_api_Ticket s.2.1 t).2.1 < (s.1.length : Int) := fun t htT => by
      rw [hTe] at htT
      obtain ⟨m0, m1, m2, _⟩ := mem_tix.1 htT
      exact ⟨m0, m1, ht t m0 m1 m2⟩
    rw [← hTe] at hT ⊢
    obtain ⟨b, hb⟩ : ∃ b, b = ((rd false s.1 k && !(rd false w k)) && decide ((T.length : Int) > 0)) := ⟨_, rfl⟩
    rw [← hb]
    refine Tot.loop (fun z => 0 ≤ z.2 ∧ z.2 ≤ (T.length : Int) ∧ z.1 = (b && (T.take z.2.toNat).all fun t => rd false w (rd z_api_Ticket s.2.1 t).2.1)) (fun z => ((T.length : Int) - z.2).toNat) (fun z hz => ?_) ⟨by simp, by simp, by simp⟩
    obtain ⟨fl, i⟩ := z
    simp only at hz
    obtain ⟨i0, i1, rfl⟩ := hz
    have hw2 : IntKind.i64.wrap (i + 1) = i + 1 := w64 (by omega) (by omega)
    simp only [r15_Own_b3, r15_Own_j3, r15_Own_j4, r15_Own_j2, hw1, hw2, cond_some, Tot.cond_iff, Tot.ass_iff, Tot.bnd_iff, Tot.some_iff, Tot.map_iff, Tot.bind_iff, Nx.inl_iff, Nx.inr_iff, decide_eq_true_eq, decide_eq_false_iff_not]
    refine ⟨fun hil => ?_, fun hig => ?_⟩
    · obtain ⟨m0, m1, m2, m3⟩ := hTm _ (rd_mem (z := 0) i0 hil)
      refine ⟨fun _ => ⟨i0, hil⟩, fun _ => ⟨m0, m1⟩, fun _ => ⟨m2, by omega⟩, ⟨by omega, by omega, ?_⟩, by omega⟩
      rw [take_rd (z := 0) i0 hil, List.all_append]
      simp [Bool.and_assoc]
    · have hi : i = (T.length : Int) := by omega
      subst hi
      rw [Int.toNat_natCast, List.take_length]
      have hall : (T.all fun t => rd false w (rd z_api_Ticket s.2.1 t).2.1) = true ↔ allOwn s w k = true := by
        rw [allOwn_iff, List.all_eq_true, ← hTe]
      have hcnt : w.count false ≤ own.count false := by
        cases hg : g with
        | true => have := hgt hg; omega
        | false => rw [(hgf hg).1]; exact Nat.le_refl _
      refine ⟨fun hf => ⟨⟨k0, by omega⟩, ⟨by omega, by omega, ?_, fun _ => ?_, fun h => by simp at h⟩, by omega⟩, fun hf => ⟨⟨by omega, by omega, hw, hgt, fun hg => ⟨(hgf hg).1, fun j j0 j1 hj hjl hja => ?_⟩⟩, by omega⟩⟩
      · rw [hb] at hf
        simp only [Bool.and_eq_true, Bool.not_eq_true', decide_eq_true_eq] at hf
        obtain ⟨⟨⟨f1, f2⟩, f3⟩, f4⟩ := hf
        have hkc : CoinP s k := ⟨k0, hlt, f1⟩
        exact hw.set k0 hlt (.step hkc (by rw [← hTe]; omega) (hw.all ht (hall.1 f4))) c0
      · rw [hb] at hf
        simp only [Bool.and_eq_true, Bool.not_eq_true', decide_eq_true_eq] at hf
        have := count_wr k0 (show k < (w.length : Int) by omega) hf.1.1.2
        omega
      · by_cases hjk : j < k
        · exact (hgf hg).2 j j0 hjk hj hjl hja
        · have hjk : j = k := by omega
          subst hjk
          have hwo := (hgf hg).1
          rw [← hwo] at hja ⊢
          have hat := hall.2 hja
          rw [hat, hb, hj.2.2] at hf
          rw [← hTe] at hjl
          cases hwj : rd false w j with
          | true => rfl
          | false =>
            rw [hwj] at hf
            simp at hf
            rw [hf] at hjl
            simp at hjl
  · have hk : k = (s.1.length : Int) := by omega
    subst hk
    refine ⟨⟨hw, fun hg => ?_⟩, ?_⟩
    · obtain ⟨rfl, hh⟩ := hgf hg; exact hh
    · cases g with
      | true => have := hgt rfl; simp; omega
      | false => have := (hgf rfl).1; subst this; simp

theorem fund_Own_ref (s : D_api_State) (c : Int) (h : FineP s) : ∃ L : List Bool, L.length = s.1.length ∧ r15_Own s c = some L ∧ fund_Own s c = some (those L) := by
  classical
  have h1 := h.c2
  have h2 := h.tickets.2.1
  have hfo := fund_Own_eq s c (by omega) (by omega) h.coinRing h.tixIn
  by_cases hc : CoinP s c
  · obtain ⟨L, hL, hs, hcl⟩ := r15_Own_tot s c (by omega) (by omega) h.tixIn hc
    obtain ⟨o, ho, hok, hol, hfoe, _⟩ := fund_Order_eq s (by omega) (by omega) h.coinRing
    obtain ⟨f1, f2⟩ := ownF_full hc h.tixIn hok hol
    refine ⟨L, hs.1, hL, ?_⟩
    rw [hfo]
    simp only [hc, decide_true, if_true]
    rw [hfoe, own_unique hc f1 f2 hs fun k hk => own_full hs hcl hk]
  · refine ⟨List.replicate s.1.length false, by simp, ?_, ?_⟩
    · rw [← Tot.eq_iff]
      simp only [r15_Own, r14_Coin_eq, hc, decide_false, Bool.not_false, cond_some, Tot.cond_iff, Tot.ass_iff, Tot.bnd_iff, Tot.some_iff, Tot.map_iff, Tot.bind_iff, Nx.inl_iff, Nx.inr_iff, decide_eq_true_eq, decide_eq_false_iff_not]
      exact ⟨⟨by omega, by omega, by unfold lim; omega⟩, fun _ => by simp, fun h => by simp at h⟩
    · rw [hfo]
      simp only [hc, decide_false, Bool.false_eq_true, if_false]
      have : those (List.replicate s.1.length false) = [] := by
        rw [List.eq_nil_iff_forall_not_mem]
        intro k hk
        obtain ⟨k0, k1, k2⟩ := mem_those.1 hk
        simp [rd, List.getD_eq_getElem?_getD, List.getElem?_replicate] at k2
        split at k2 <;> simp at k2
      rw [this]
end Go.Tom
