/- Which tickets count, and the active amounts: by the arrows' ranks; the document's. -/
import Derived.Test.YtagcgcpapjidcaaPF
import Derived.Test.YtagcgcpapjidcaaPL
set_option linter.unusedVariables false
set_option linter.unusedSimpArgs false
namespace Go.Tom
open Go

/-- The sum of what these are, one by one. -/
def sumI (f : Int → Int) : Nat → Int
  | 0 => 0
  | n + 1 => sumI f n + f (n : Int)

theorem sumI_step {f : Int → Int} {x : Int} (h0 : 0 ≤ x) : sumI f (x + 1).toNat = sumI f x.toNat + f x := by
  rw [show (x + 1).toNat = x.toNat + 1 from by omega]
  show sumI f x.toNat + f (x.toNat : Int) = _
  rw [show ((x.toNat : Nat) : Int) = x from by omega]

theorem sumI_congr {f g : Int → Int} : ∀ {n : Nat}, (∀ k : Int, 0 ≤ k → k < (n : Int) → f k = g k) → sumI f n = sumI g n
  | 0, _ => rfl
  | n + 1, h => by
    show sumI f n + f n = sumI g n + g n
    rw [sumI_congr (n := n) fun k h0 h1 => h k h0 (by omega), h n (by omega) (by omega)]

theorem sumI_bound {f : Int → Int} {c : Int} : ∀ {n : Nat}, (∀ k : Int, 0 ≤ k → k < (n : Int) → 0 ≤ f k ∧ f k ≤ c) → 0 ≤ sumI f n ∧ sumI f n ≤ c * n
  | 0, _ => ⟨Int.le_refl 0, by simp [sumI]⟩
  | n + 1, h => by
    have ih := sumI_bound (n := n) fun k h0 h1 => h k h0 (by omega)
    have h2 := h n (by omega) (by omega)
    have e : c * ((n + 1 : Nat) : Int) = c * n + c := by rw [Int.natCast_add, Int.mul_add]; simp
    rw [e]
    show 0 ≤ sumI f n + f n ∧ sumI f n + f n ≤ _
    omega

/-- A ticket of this state. -/
def tk (s : D_api_State) (k : Int) : D_api_Ticket := rd z_api_Ticket s.2.1 k

/-- A ticket counts, if the amounts are these. -/
def cntW (s : D_api_State) (amt : Int → Int) (k : Int) : Bool :=
  (tk s k).1 && (tk s k).2.2.2.2.2 && (((tk s k).2.2.2.1 == 1 && livesB s (tk s k).2.2.2.2.1) || ((tk s k).2.2.2.1 == 2 && decide (0 < amt (tk s k).2.2.2.2.1)))

/-- A coin's amount, if those of the coins that it funds are these. -/
def amtW (s : D_api_State) (amt : Int → Int) (c : Int) : Int :=
  sumI (fun k => if ((tk s k).2.1 == c && cntW s amt k) = true then (tk s k).2.2.1 else 0) s.2.1.length

/-- The same, some arrows deep. -/
def amtF (s : D_api_State) : Nat → Int → Int
  | 0, _ => 0
  | n + 1, c => amtW s (amtF s n) c

def amtI (s : D_api_State) (c : Int) : Int := amtF s 17 c
def cntB (s : D_api_State) (k : Int) : Bool := cntW s (amtI s) k

theorem FineP.tk_ok {s : D_api_State} (h : FineP s) {k : Int} (h0 : 0 ≤ k) (h1 : k < (s.2.1.length : Int)) : TicketOk s (tk s k) := h.tickets.1 k h0 h1

theorem FineP.arr {s : D_api_State} (h : FineP s) {k : Int} (h0 : 0 ≤ k) (h1 : k < (s.2.1.length : Int)) (hu : (tk s k).1 = true) (hk : (tk s k).2.2.2.1 = 2) :
    RR s.1.length (coinArrows s) (tk s k).2.1 (tk s k).2.2.2.2.1 := by
  have ht := h.tk_ok h0 h1
  unfold TicketOk at ht
  rw [if_pos hu] at ht
  obtain ⟨hc, _, _, hd⟩ := ht
  have hto : CoinP s (tk s k).2.2.2.2.1 := by
    rcases hd with hd | hd | hd
    · omega
    · omega
    · exact hd.2.2
  refine ⟨?_, hc.1, hc.2.1, hto.1, hto.2.1⟩
  unfold coinArrows
  rw [mem_buildL]
  refine ⟨k, h0, h1, ?_⟩
  unfold coinArr
  rw [if_pos ⟨hu, hk⟩]
  simp [tk]

theorem amtW_congr {s : D_api_State} {a b : Int → Int} {c : Int} (h : ∀ k : Int, 0 ≤ k → k < (s.2.1.length : Int) → (tk s k).2.1 = c → (tk s k).1 = true → (tk s k).2.2.2.1 = 2 → a (tk s k).2.2.2.2.1 = b (tk s k).2.2.2.2.1) : amtW s a c = amtW s b c := by
  unfold amtW
  refine sumI_congr fun k h0 h1 => ?_
  have : ((tk s k).2.1 == c && cntW s a k) = ((tk s k).2.1 == c && cntW s b k) := by
    by_cases hc : (tk s k).2.1 = c
    · by_cases hu : (tk s k).1 = true
      · by_cases hk : (tk s k).2.2.2.1 = 2
        · unfold cntW; rw [h k h0 h1 hc hu hk]
        · have e : ((tk s k).2.2.2.1 == 2) = false := beq_eq_false_iff_ne.2 hk
          unfold cntW; rw [e]; simp
      · have e : (tk s k).1 = false := by simpa using hu
        unfold cntW; rw [e]; simp
    · have e : ((tk s k).2.1 == c) = false := beq_eq_false_iff_ne.2 hc
      rw [e]; simp
  rw [this]

theorem amtF_stable {s : D_api_State} (h : FineP s) {rank : Int → Nat} (hr : ∀ x y, RR s.1.length (coinArrows s) x y → rank y < rank x) : ∀ (n m : Nat) (c : Int), rank c < n → n ≤ m → amtF s n c = amtF s m c := by
  intro n
  induction n with
  | zero => intro m c hc; omega
  | succ n ih =>
    intro m c hc hm
    obtain ⟨m, rfl⟩ : ∃ m', m = m' + 1 := ⟨m - 1, by omega⟩
    show amtW s (amtF s n) c = amtW s (amtF s m) c
    refine amtW_congr fun k h0 h1 hkc hu hk => ?_
    have := hr _ _ (h.arr h0 h1 hu hk)
    rw [hkc] at this
    exact ih m _ (by omega) (by omega)

/-- WHAT A COIN's AMOUNT IS. -/
theorem amtI_eq {s : D_api_State} (h : FineP s) (c : Int) : amtI s c = amtW s (amtI s) c := by
  obtain ⟨rank, r1, r2⟩ := rank_of h.coinRing
  have hc2 := h.c2
  have hb : ∀ x, rank x < 17 := fun x => by have := r1 x; omega
  have := amtF_stable h r2 17 18 c (hb c) (by omega)
  unfold amtI
  rw [this]
  rfl

theorem amtW_bound {s : D_api_State} (h : FineP s) (a : Int → Int) (c : Int) : 0 ≤ amtW s a c ∧ amtW s a c ≤ 1048576 * 96 := by
  have hl := h.tickets.2.1
  have := sumI_bound (f := fun k => if ((tk s k).2.1 == c && cntW s a k) = true then (tk s k).2.2.1 else 0) (c := 1048576) (n := s.2.1.length) fun k h0 h1 => by
    split
    · rename_i hc
      have ht := h.tk_ok h0 h1
      have hu : (tk s k).1 = true := by
        simp only [cntW, Bool.and_eq_true] at hc
        exact hc.2.1.1
      unfold TicketOk at ht
      rw [if_pos hu] at ht
      omega
    · omega
  unfold amtW
  have : (1048576 : Int) * (s.2.1.length : Int) ≤ 1048576 * 96 := by omega
  omega
end Go.Tom
