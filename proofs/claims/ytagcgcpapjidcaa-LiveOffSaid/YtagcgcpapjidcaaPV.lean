/- Which tickets count, and the active amounts: the program's are the document's. -/
import Derived.Test.YtagcgcpapjidcaaPU
set_option linter.unusedVariables false
set_option linter.unusedSimpArgs false
namespace Go.Tom
open Go

theorem ord_pairwise {n : Int} {l : List (Int × Int)} {o : List Int} (hok : OrdOk n l o) : o.Pairwise fun a b => ¬ RR n l b a := by
  rw [List.pairwise_iff_getElem]
  intro i j hi hj hij hr
  have := hok.ahead i hi _ hr
  obtain ⟨m, hm, he⟩ := List.getElem_of_mem this
  simp only [List.length_take] at hm
  rw [List.getElem_take] at he
  exact List.pairwise_iff_getElem.1 hok.nodup m j (by omega) hj (by omega) he

theorem live_reckon_tot {s : D_api_State} (h : FineP s) : Tot (live_reckon s) (fun r => r.1.length = s.2.1.length ∧ r.2.length = s.1.length ∧ (∀ k : Int, 0 ≤ k → k < (s.2.1.length : Int) → rd false r.1 k = cntB s k) ∧ ∀ c : Int, 0 ≤ c → c < (s.1.length : Int) → rd 0 r.2 c = amtI s c) := by
  have hl := h.tickets.2.1
  have hc2 := h.c2
  have hth := h.threads.2.2.1
  obtain ⟨o, ho, hok, hol, hfo, hFO⟩ := fund_Order_eq s (by omega) (by omega) h.coinRing
  have hlen : (fundOrd s).length ≤ s.1.length := by rw [hfo, ← hol]; exact List.length_filter_le ..
  have hmem : ∀ c, c ∈ fundOrd s ↔ CoinP s c := fun c => by
    rw [hfo, List.mem_filter]
    constructor
    · rintro ⟨a, b⟩; exact ⟨(hok.rng c a).1, (hok.rng c a).2, b⟩
    · rintro ⟨a, b, d⟩; exact ⟨full hok.nodup hok.rng (by omega) a b, d⟩
  have hpw : (fundOrd s).Pairwise fun a b => ¬ RR s.1.length (coinArrows s) b a := by rw [hfo]; exact (ord_pairwise hok).filter _
  have hnd : (fundOrd s).Nodup := by rw [hfo]; exact hok.nodup.filter _
  simp only [live_reckon, hFO, live_reckon_k2, cond_some, Tot.cond_iff, Tot.ass_iff, Tot.bnd_iff, Tot.some_iff, Tot.map_iff, Tot.bind_iff, Nx.inl_iff, Nx.inr_iff, decide_eq_true_eq, decide_eq_false_iff_not]
  refine ⟨⟨by omega, by omega, by unfold lim; omega⟩, ⟨by omega, by omega, by unfold lim; omega⟩, ?_⟩
  refine (live_Threads_tot h.chn (by omega)).mono fun Y hY => ?_
  refine ⟨by unfold limA; omega, ?_⟩
  refine (Tot.each (fun pre r => Mid s pre r.1 r.2) (l := (fundOrd s).reverse) (fun pre x r rest hlr hm => ?_) ⟨by simp, by simp, fun k k0 k1 => ?_, fun c c0 c1 => ?_⟩).mono fun r hm => ?_
  · have hf : fundOrd s = rest.reverse ++ x :: pre.reverse := by
      have := congrArg List.reverse hlr
      simpa using this
    have hxc : CoinP s x := (hmem x).1 (by rw [hf]; simp)
    have hxn : x ∉ pre := by
      rw [hf, List.nodup_append] at hnd
      have := hnd.2.1
      rw [List.nodup_cons] at this
      simpa using this.1
    refine round_tot h hY hm hxc.1 hxc.2.1 hxn fun y hr hy => ?_
    have hyf := (hmem y).2 hy
    rw [hf] at hyf hpw
    rcases List.mem_append.1 hyf with hy1 | hy1
    · exact absurd hr ((List.pairwise_append.1 hpw).2.2 y hy1 x (by simp))
    · rcases List.mem_cons.1 hy1 with rfl | hy1
      · exact absurd ⟨y, hy.1, hy.2.1, .single hr⟩ h.coinRing
      · simpa using hy1
  · simp [rd, List.getD_eq_getElem?_getD, List.getElem?_replicate]
    split <;> rfl
  · simp [rd, List.getD_eq_getElem?_getD, List.getElem?_replicate]
    split <;> rfl
  · obtain ⟨m1, m2, m3, m4⟩ := hm
    refine ⟨m1, m2, fun k k0 k1 => ?_, fun c c0 c1 => ?_⟩
    · rw [m3 k k0 k1]
      split
      · rfl
      · rename_i hn
        by_cases hu : (tk s k).1 = true
        · exfalso
          apply hn
          have hok2 := h.tk_ok k0 k1
          unfold TicketOk at hok2
          rw [if_pos hu] at hok2
          exact ⟨hu, by rw [List.mem_reverse]; exact (hmem _).2 hok2.1⟩
        · have e : (tk s k).1 = false := by simpa using hu
          unfold cntB cntW
          rw [e]; rfl
    · rw [m4 c c0 c1]
      split
      · rfl
      · rename_i hn
        have hz : ∀ n : Nat, n ≤ s.2.1.length → sumI (addsI s c) n = 0 := by
          intro n
          induction n with
          | zero => intro _; rfl
          | succ n ih =>
            intro hn2
            show sumI (addsI s c) n + addsI s c n = 0
            rw [ih (by omega)]
            unfold addsI
            rw [if_neg]
            · rfl
            intro hc
            simp only [cntB, cntW, Bool.and_eq_true, beq_iff_eq] at hc
            have hok2 := h.tk_ok (k := (n : Int)) (by omega) (by omega)
            unfold TicketOk at hok2
            rw [if_pos hc.2.1.1] at hok2
            apply hn
            rw [List.mem_reverse]
            refine (hmem c).2 ?_
            rw [← hc.1]
            exact hok2.1
        rw [amtI_sum h c, hz _ (Nat.le_refl _)]
end Go.Tom
