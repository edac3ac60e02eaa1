/- The tickets of which something is so. -/
import Derived.Test.YtagcgcpapjidcaaPL
set_option linter.unusedVariables false
set_option linter.unusedSimpArgs false
namespace Go.Tom
open Go

/-- The tickets of which something is so. -/
def tix (s : D_api_State) (q : D_api_Ticket → Bool) : List Int := buildL (fun k => if ((rd z_api_Ticket s.2.1 k).1 && q (rd z_api_Ticket s.2.1 k)) = true then [k] else []) s.2.1.length

theorem mem_tix {s : D_api_State} {q : D_api_Ticket → Bool} {k : Int} : k ∈ tix s q ↔ 0 ≤ k ∧ k < (s.2.1.length : Int) ∧ (rd z_api_Ticket s.2.1 k).1 = true ∧ q (rd z_api_Ticket s.2.1 k) = true := by
  unfold tix
  rw [mem_buildL]
  constructor
  · rintro ⟨j, h0, h1, h2⟩
    split at h2
    · rename_i h
      rw [Bool.and_eq_true] at h
      rw [List.mem_singleton.1 h2]
      exact ⟨h0, h1, h.1, h.2⟩
    · simp at h2
  · rintro ⟨h0, h1, h2, h3⟩
    exact ⟨k, h0, h1, by simp [h2, h3]⟩

theorem tix_len {s : D_api_State} {q : D_api_Ticket → Bool} : (tix s q).length ≤ s.2.1.length := by
  have := buildL_len (f := fun k => if ((rd z_api_Ticket s.2.1 k).1 && q (rd z_api_Ticket s.2.1 k)) = true then [k] else []) (c := 1) (fun k => by split <;> simp) (n := s.2.1.length)
  unfold tix
  omega

theorem fund_which_eq (s : D_api_State) (p : D_api_Ticket → Option Bool) (q : D_api_Ticket → Bool) (hn : s.2.1.length ≤ 100000) (hp : ∀ t, p t = some (q t)) : fund_which s p = some (tix s q) := by
  unfold fund_which tix
  refine loop_build (fun k => if ((rd z_api_Ticket s.2.1 k).1 && q (rd z_api_Ticket s.2.1 k)) = true then [k] else []) _ (fun x h0 h1 => ?_) ?_
  · have hw1 : IntKind.i64.wrap (x + 1) = x + 1 := w64 (by omega) (by omega)
    have hlen := buildL_len (f := fun k => if ((rd z_api_Ticket s.2.1 k).1 && q (rd z_api_Ticket s.2.1 k)) = true then [k] else []) (c := 1) (fun k => by split <;> simp) (n := x.toNat)
    generalize buildL (fun k => if ((rd z_api_Ticket s.2.1 k).1 && q (rd z_api_Ticket s.2.1 k)) = true then [k] else []) x.toNat = acc at hlen ⊢
    rw [← Tot.eq_iff]
    simp only [fund_which_b1, fund_which_j1, fund_which_j2, hw1, hp, cond_some, Tot.cond_iff, Tot.ass_iff, Tot.bnd_iff, Tot.some_iff, Tot.map_iff, Tot.bind_iff, Nx.inl_iff, Nx.inr_iff, decide_eq_true_eq, decide_eq_false_iff_not]
    refine ⟨fun _ => ⟨⟨h0, h1⟩, ?_⟩, fun hge => absurd h1 hge⟩
    cases hu : (rd z_api_Ticket s.2.1 x).1 <;> cases hq : q (rd z_api_Ticket s.2.1 x) <;> simp [Tot.some_iff]
    unfold limA; omega
  · rw [← Tot.eq_iff]
    simp only [fund_which_b1, fund_which_j1, cond_some, Tot.cond_iff, Tot.ass_iff, Tot.bnd_iff, Tot.some_iff, Tot.map_iff, Tot.bind_iff, Nx.inl_iff, Nx.inr_iff, decide_eq_true_eq, decide_eq_false_iff_not]
    exact ⟨fun hc => absurd hc (by omega), fun _ => trivial⟩

def isOf (c : Int) (t : D_api_Ticket) : Bool := t.2.1 == c
def backs (c : Int) (t : D_api_Ticket) : Bool := (t.2.2.2.1 == 2) && (t.2.2.2.2.1 == c)
def fundsT (i : Int) (t : D_api_Ticket) : Bool := (t.2.2.2.1 == 1) && (t.2.2.2.2.1 == i)

theorem fund_Issued_eq (s : D_api_State) (c : Int) (hn : s.2.1.length ≤ 100000) : fund_Issued s c = some (tix s (isOf c)) := by
  unfold fund_Issued
  rw [fund_which_eq s (fun x => fund_Issued_c1 x c) (isOf c) hn fun t => rfl]
  rfl
end Go.Tom
