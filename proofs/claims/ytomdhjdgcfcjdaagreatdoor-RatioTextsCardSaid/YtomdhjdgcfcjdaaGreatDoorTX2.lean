/- Texts of numbers: the program's, nine digits at once, and the document's, one by one. -/
import Derived.Test.YtomdhjdgcfcjdaaGreatDoorTX1
import Derived.Lib.Join
import Derived.Lib.Repeat
set_option linter.unusedVariables false
set_option linter.unusedSimpArgs false
namespace Go.Tom
open Go

theorem ba_ext {a b : ByteArray} (h : a.data.toList = b.data.toList) : a = b := by
  apply ByteArray.ext
  exact Array.toList_inj.1 h
theorem ba_eq (a b : ByteArray) : (a.toList == b.toList) = decide (a = b) := by
  rw [ByteArray.toList_eq, ByteArray.toList_eq, Bool.eq_iff_iff, beq_iff_eq, decide_eq_true_iff]
  exact ⟨ba_ext, fun h => by rw [h]⟩
theorem ba_size (l : List UInt8) : (tx l).size = l.length := by simp [tx, ByteArray.size]
theorem ba_app (a b : List UInt8) : tx a ++ tx b = tx (a ++ b) := by
  apply ba_ext; simp [tx]
theorem ba_tx (s : ByteArray) : s = tx s.data.toList := by apply ba_ext; simp [tx]
theorem ba_nil : ByteArray.empty = tx [] := rfl

/-! ### What is turned round -/

theorem rev_eq (xs : List ByteArray) (hl : xs.length ≤ 1000000) : slices_Reverse_string_string xs = some xs.reverse := by
  rw [← Tot.eq_iff]
  unfold slices_Reverse_string_string
  have hw : IntKind.i64.wrap ((xs.length : Int) - 1) = (xs.length : Int) - 1 := w64 (by omega) (by omega)
  rw [Tot.bnd_iff, hw]
  refine Tot.loop (fun s => ∃ (k : Nat), s.2.1 = (k : Int) ∧ s.2.2 = (xs.length : Int) - 1 - k ∧ 2 * k ≤ xs.length + 1 ∧ s.1.length = xs.length ∧
      ∀ j : Nat, j < xs.length → rd ByteArray.empty s.1 (j : Int) = if j < k ∨ xs.length ≤ j + k then rd ByteArray.empty xs ((xs.length - 1 - j : Nat) : Int) else rd ByteArray.empty xs (j : Int))
    (fun s => (s.2.2 - s.2.1 + 1).toNat) (fun s hs => ?_) ⟨0, rfl, by simp, by omega, rfl, fun j hj => by rw [if_neg (by omega)]⟩
  obtain ⟨l, i, m⟩ := s
  obtain ⟨k, h1, h2, h3, h4, h5⟩ := hs
  simp only at h1 h2 h4 h5
  subst h1; subst h2
  show Tot (slices_Reverse_string_string_b1 l (k : Int) ((xs.length : Int) - 1 - k)) _
  unfold slices_Reverse_string_string_b1
  by_cases hc : (k : Int) < (xs.length : Int) - 1 - k
  · rw [decide_eq_true hc, cond_true]
    have hm : (xs.length : Int) - 1 - k = ((xs.length - 1 - k : Nat) : Int) := by omega
    have w1 : IntKind.i64.wrap ((k : Int) + 1) = ((k + 1 : Nat) : Int) := by rw [w64 (by omega) (by omega)]; omega
    have w2 : IntKind.i64.wrap ((xs.length : Int) - 1 - k - 1) = (xs.length : Int) - 1 - ((k + 1 : Nat) : Int) := by rw [w64 (by omega) (by omega)]; omega
    refine Tot.ass_iff.2 ⟨by omega, Tot.ass_iff.2 ⟨by omega, Tot.ass_iff.2 ⟨by rw [wr_length]; omega, ?_⟩⟩⟩
    rw [Tot.bnd_iff, Tot.bnd_iff, w1, Tot.bnd_iff, w2]
    refine Tot.some_iff.2 (Nx.inl_iff.2 ⟨⟨k + 1, rfl, rfl, by omega, by rw [wr_length, wr_length]; exact h4, fun j hj => ?_⟩, by simp only; omega⟩)
    simp only
    rw [rd_wr (by omega) (by rw [wr_length]; omega) (by omega), rd_wr (by omega) (by omega) (by omega), hm]
    have hk := h5 k (by omega)
    have hx := h5 (xs.length - 1 - k) (by omega)
    rw [if_neg (by omega)] at hk hx
    by_cases e1 : (j : Int) = ((xs.length - 1 - k : Nat) : Int)
    · rw [if_pos e1, hk, if_pos (by omega), show xs.length - 1 - j = k from by omega]
    · rw [if_neg e1]
      by_cases e2 : (j : Int) = (k : Int)
      · rw [if_pos e2, hx, if_pos (by omega), show xs.length - 1 - j = xs.length - 1 - k from by omega]
      · rw [if_neg e2, h5 j hj]
        by_cases e3 : j < k ∨ xs.length ≤ j + k
        · rw [if_pos e3, if_pos (by omega)]
        · rw [if_neg e3, if_neg (by omega)]
  · rw [decide_eq_false hc, cond_false]
    refine Tot.some_iff.2 (Nx.inr_iff.2 ?_)
    apply List.ext_getElem (by rw [h4, List.length_reverse])
    intro j q1 q2
    have hj : j < xs.length := by omega
    have := h5 j hj
    rw [rd_eq j rfl (by omega)] at this
    rw [this, List.getElem_reverse]
    split
    · rw [rd_eq (xs.length - 1 - j) rfl (by omega)]
    · rw [rd_eq j rfl hj]
      congr 1
      omega

/-! ### Decimal digits -/

/-- The last k digits, noughts ahead. -/
def padr : Nat → Nat → List UInt8
  | 0, _ => []
  | k + 1, r => padr k (r / 10) ++ [UInt8.ofNat (48 + r % 10)]

theorem dd_big {u : Nat} (h : ¬ u < 10) : Lib.decDigits u = Lib.decDigits (u / 10) ++ [UInt8.ofNat (48 + u % 10)] := by rw [Lib.decDigits, dif_neg h]
theorem dd_small {u : Nat} (h : u < 10) : Lib.decDigits u = [UInt8.ofNat (48 + u)] := by rw [Lib.decDigits, dif_pos h]

theorem dd_split : ∀ (k q r : Nat), 0 < q → r < 10 ^ k → Lib.decDigits (q * 10 ^ k + r) = Lib.decDigits q ++ padr k r
  | 0, q, r, hq, hr => by
    have : r = 0 := by simp at hr; exact hr
    simp [this, padr]
  | k + 1, q, r, hq, hr => by
    have hp : 0 < 10 ^ k := Nat.pow_pos (by omega)
    rw [Nat.pow_succ] at hr ⊢
    have e : q * (10 ^ k * 10) + r = 10 * (q * 10 ^ k + r / 10) + r % 10 := by
      rw [← Nat.mul_assoc]; omega
    have hq1 : 1 ≤ q * 10 ^ k := Nat.mul_pos hq hp
    have hd : (q * (10 ^ k * 10) + r) / 10 = q * 10 ^ k + r / 10 := by omega
    have hm : (q * (10 ^ k * 10) + r) % 10 = r % 10 := by omega
    rw [dd_big (by omega), hd, hm, dd_split k q (r / 10) hq (by omega), List.append_assoc]
    rfl

theorem padr_zero : ∀ k, padr k 0 = List.replicate k 48
  | 0 => rfl
  | k + 1 => by
    rw [padr, Nat.zero_div, padr_zero k, Nat.zero_mod, List.replicate_succ']
    rfl

theorem padr_eq : ∀ (k r : Nat), r < 10 ^ (k + 1) → padr (k + 1) r = List.replicate (k + 1 - Lib.nDigits r) 48 ++ Lib.decDigits r ∧ Lib.nDigits r ≤ k + 1
  | 0, r, h => by
    have hr : r < 10 := by simpa using h
    rw [Lib.nDigits_small hr, dd_small hr]
    simp [padr, Nat.mod_eq_of_lt hr]
  | k + 1, r, h => by
    by_cases hr : r < 10
    · rw [Lib.nDigits_small hr, dd_small hr, padr, Nat.div_eq_of_lt hr, Nat.mod_eq_of_lt hr, padr_zero]
      exact ⟨rfl, by omega⟩
    · have h' : r / 10 < 10 ^ (k + 1) := by rw [Nat.pow_succ] at h; omega
      obtain ⟨e, hn⟩ := padr_eq k (r / 10) h'
      rw [Lib.nDigits_big hr, dd_big hr, padr, e, List.append_assoc]
      refine ⟨by rw [show k + 1 + 1 - (Lib.nDigits (r / 10) + 1) = k + 1 - Lib.nDigits (r / 10) from by omega], by omega⟩

theorem repL (c : Nat) : Lib.repeatL [48] c = List.replicate c 48 := by
  induction c with
  | zero => rfl
  | succ c ih => rw [Lib.repeatL, ih, List.replicate_succ]; rfl

theorem nd_le {x k : Nat} (h : x < 10 ^ (k + 1)) : Lib.nDigits x ≤ k + 1 := (padr_eq k x h).2

/-! ### The document's text -/

theorem r03_Text_eq {x : Nat} (hx : (d16 x).length ≤ 1000) : r03_Text (d16 x) = some (tx (Lib.decDigits x)) := by
  rw [← Tot.eq_iff]
  unfold r03_Text
  by_cases h0 : x = 0
  · subst h0
    have e : (((d16 0).length : Int) == 0) = true := by rw [d16_zero]; rfl
    rw [e, cond_true]
    refine Tot.some_iff.2 ?_
    rw [dd_small (by omega)]; rfl
  · have e : (((d16 x).length : Int) == 0) = false := by
      rw [beq_eq_false_iff_ne]; intro h; exact h0 (d16_nil (by omega))
    have hdig : Lib.nDigits x ≤ 5000 := by
      have h1 : x < 65536 ^ (d16 x).length := dg_lt b16
      obtain ⟨L, hL⟩ : ∃ L, L = (d16 x).length := ⟨_, rfl⟩
      rw [← hL] at h1 hx
      have h2 : (65536 : Nat) ^ L ≤ (10 ^ 5) ^ L := Nat.pow_le_pow_left (by omega) _
      rw [← Nat.pow_mul] at h2
      have h3 := nd_le (x := x) (k := 5 * L) (by rw [Nat.pow_succ]; omega)
      have : L ≤ 999 ∨ L = 1000 := by omega
      rcases this with h | h
      · omega
      · have hz : L ≠ 0 := by omega
        obtain ⟨M, rfl⟩ : ∃ M, L = M + 1 := ⟨L - 1, by omega⟩
        have h3 := nd_le (x := x) (k := 5 * M + 4) (by rw [show 5 * M + 4 + 1 = 5 * (M + 1) from by omega]; omega)
        omega
    rw [e, cond_false]
    refine Tot.loop (fun s => ∃ (a : Nat) (t : List UInt8), s = (d16 a, tx t) ∧ a ≤ x ∧ (a = 0 → Lib.decDigits x = t) ∧ (0 < a → Lib.decDigits x = Lib.decDigits a ++ t)) (fun s => (vl 65536 s.1).toNat) (fun s hs => ?_) ⟨x, [], rfl, Nat.le_refl _, fun h => absurd h h0, fun _ => by simp⟩
    obtain ⟨a, t, rfl, hax, ha0, ha1⟩ := hs
    have hal := d16_mono hax
    show Tot (r03_Text_b1 (d16 a) (tx t)) _
    unfold r03_Text_b1
    by_cases hz : a = 0
    · have e2 : decide (((d16 a).length : Int) > 0) = false := by rw [hz, d16_zero]; rfl
      rw [e2, cond_false]
      exact Tot.some_iff.2 (Nx.inr_iff.2 (by rw [ha0 hz]))
    · have e2 : decide (((d16 a).length : Int) > 0) = true := by
        rw [decide_eq_true_iff]
        have : (d16 a).length ≠ 0 := fun h => hz (d16_nil h)
        omega
      have h10 : (d16 10).length ≤ 1 := dg_len b16 (by omega)
      have hr : (d16 (a % 10)).length ≤ 1 := dg_len b16 (by omega)
      have htl : t.length ≤ 5000 := by
        have := congrArg List.length (ha1 (by omega))
        rw [List.length_append, Lib.decDigits_length, Lib.decDigits_length] at this
        omega
      have hlt : a % 10 < 10 := Nat.mod_lt _ (by omega)
      have hby : bytesOf [IntKind.u8.wrap (48 + IntKind.u8.wrap ((a % 10 : Nat) : Int))] = tx [UInt8.ofNat (48 + a % 10)] := by
        have e1 : IntKind.u8.wrap ((a % 10 : Nat) : Int) = ((a % 10 : Nat) : Int) := by
          unfold IntKind.wrap; simp [IntKind.bits, IntKind.signed]; omega
        have e3 : IntKind.u8.wrap (48 + ((a % 10 : Nat) : Int)) = ((48 + a % 10 : Nat) : Int) := by
          unfold IntKind.wrap; simp [IntKind.bits, IntKind.signed]; omega
        rw [e1, e3]
        unfold bytesOf
        simp only [List.map_cons, List.map_nil, Int.toNat_natCast]
      rw [e2, cond_true, show r01_Of (10 : Int) = some (d16 10) from r01_Of_eq (n := 10) (by omega), Option.bind_some, r01_Div_eq (x := a) (y := 10) (by omega) (by omega) (by omega), Option.bind_some, r01_Word_eq (x := a % 10) (by omega), if_pos (by omega), Option.bind_some, hby]
      refine Tot.ass_iff.2 ⟨by rw [ba_size, ba_size]; simp only [List.length_singleton]; omega, ?_⟩
      rw [Tot.bnd_iff, ba_app]
      refine Tot.some_iff.2 (Nx.inl_iff.2 ⟨⟨a / 10, _, rfl, by omega, fun hd => ?_, fun hd => ?_⟩, ?_⟩)
      · rw [ha1 (by omega), dd_small (by omega), show a % 10 = a from by omega]
      · rw [ha1 (by omega), dd_big (by omega), List.append_assoc]
      · simp only [d16, vl_dg b16]; omega

/-! ### The program's text -/

theorem join_empty (xs : List (List UInt8)) : Lib.join xs [] = xs.flatten := by
  cases xs with
  | nil => rfl
  | cons x r =>
    rw [Lib.join_cons, Lib.joinTail]
    simp

theorem itoa_nat (r : Nat) : Lib.itoa (r : Int) = Lib.decDigits r := by
  unfold Lib.itoa
  rw [if_neg (by omega), Int.toNat_natCast]

/-- The parts, the last one ahead. -/
def cat (l : List ByteArray) : List UInt8 := (l.reverse.map (·.data.toList)).flatten

theorem nat_Text_is {a : List Int} {x : Nat} (ha : Is a x) (la : a.length ≤ 1000) : nat_Text a = some (tx (Lib.decDigits x)) := by
  have hxl : (d32 x).length ≤ 1000 := Nat.le_trans ha.len la
  rw [← Tot.eq_iff]
  unfold nat_Text
  rw [nat_Cut_is ha (by omega), Option.bind_some]
  -- how long it is
  have hdig : Lib.nDigits x ≤ 10000 := by
    have h1 : x < 4294967296 ^ (d32 x).length := dg_lt b32
    obtain ⟨L, hL⟩ : ∃ L, L = (d32 x).length := ⟨_, rfl⟩
    rw [← hL] at h1 hxl
    rcases Nat.eq_zero_or_pos L with hz | hz
    · rw [hz] at h1
      have : x = 0 := by simpa using h1
      rw [this, Lib.nDigits_small (by omega)]; omega
    · obtain ⟨M, rfl⟩ : ∃ M, L = M + 1 := ⟨L - 1, by omega⟩
      have h2 : (4294967296 : Nat) ^ (M + 1) ≤ (10 ^ 10) ^ (M + 1) := Nat.pow_le_pow_left (by omega) _
      rw [← Nat.pow_mul] at h2
      have h3 := nd_le (x := x) (k := 10 * M + 9) (by rw [show 10 * M + 9 + 1 = 10 * (M + 1) from by omega]; omega)
      omega
  refine Tot.loop (fun s => ∃ (b : Nat) (l : List ByteArray), s = (d32 b, l) ∧ b ≤ x ∧ (l = [] → b = x) ∧ (l ≠ [] → b = 0 → Lib.decDigits x = cat l) ∧ (0 < b → Lib.decDigits x = Lib.decDigits b ++ cat l) ∧ (∀ p ∈ l, p.size ≤ 9 ∧ 1 ≤ p.size)) (fun s => (vl 4294967296 s.1).toNat) (fun s hs => ?_)
    ⟨x, [], rfl, Nat.le_refl _, fun _ => rfl, fun h => absurd rfl h, fun _ => by simp [cat], fun p hp => by cases hp⟩
  obtain ⟨b, l, rfl, hbx, hnil, hl0, hl1, hsz⟩ := hs
  have hbl := d32_mono hbx
  -- how many parts there are
  have hll : (cat l).length ≤ 10000 ∧ l.length ≤ (cat l).length := by
    constructor
    · rcases Nat.eq_zero_or_pos b with h | h
      · by_cases hn : l = []
        · rw [hn]; simp [cat]
        · have := congrArg List.length (hl0 hn h)
          rw [Lib.decDigits_length] at this
          omega
      · have := congrArg List.length (hl1 h)
        rw [List.length_append, Lib.decDigits_length] at this
        omega
    · have key : ∀ l : List ByteArray, (∀ p ∈ l, p.size ≤ 9 ∧ 1 ≤ p.size) → l.length ≤ ((l.map (·.data.toList)).flatten).length := by
        intro l
        induction l with
        | nil => intro _; simp
        | cons p l ih =>
          intro h
          have h1 := ih fun q hq => h q (List.mem_cons_of_mem _ hq)
          have h2 := (h p (List.mem_cons_self ..)).2
          have h3 : p.data.toList.length = p.size := Array.length_toList
          simp only [List.map_cons, List.flatten_cons, List.length_append, List.length_cons]
          omega
      have := key l.reverse fun p hp => hsz p (List.mem_reverse.1 hp)
      rw [List.length_reverse] at this
      exact this
  show Tot (nat_Text_b1 (d32 b) l) _
  unfold nat_Text_b1
  rcases Nat.eq_zero_or_pos b with hz | hz
  · have e2 : decide (((d32 b).length : Int) > 0) = false := by rw [hz, d32_zero]; rfl
    rw [e2, cond_false]
    unfold nat_Text_j1
    by_cases hn : l = []
    · subst hn
      have hx0 : x = 0 := by rw [← hnil rfl, hz]
      have e3 : (((([] : List ByteArray).length : Nat) : Int) == 0) = true := rfl
      rw [e3, cond_true]
      refine Tot.some_iff.2 (Nx.inr_iff.2 ?_)
      rw [hx0, dd_small (by omega)]; rfl
    · have e3 : ((l.length : Int) == 0) = false := by
        rw [beq_eq_false_iff_ne]; intro h; exact hn (List.eq_nil_of_length_eq_zero (by omega))
      rw [e3, cond_false, rev_eq l (by omega), Option.bind_some]
      have hj : strings_Join l.reverse ByteArray.empty = some (tx (Lib.decDigits x)) := by
        unfold strings_Join
        rw [← Tot.eq_iff]
        have hje : Lib.join (l.reverse.map (·.data.toList)) ByteArray.empty.data.toList = cat l := join_empty _
        refine Tot.ass_iff.2 ⟨⟨by rw [List.length_reverse]; omega, by rw [hje]; omega⟩, Tot.some_iff.2 ?_⟩
        rw [hje, hl0 hn hz]
      rw [hj, Option.bind_some]
      exact Tot.some_iff.2 (Nx.inr_iff.2 rfl)
  · have e2 : decide (((d32 b).length : Int) > 0) = true := by
      rw [decide_eq_true_iff]
      have : (d32 b).length ≠ 0 := fun h => by have := d32_nil h; omega
      omega
    have hlt : b % 1000000000 < 1000000000 := Nat.mod_lt _ (by omega)
    obtain ⟨r, hr⟩ : ∃ r, r = b % 1000000000 := ⟨_, rfl⟩
    obtain ⟨q, hq⟩ : ∃ q, q = b / 1000000000 := ⟨_, rfl⟩
    have hb : b = q * 10 ^ 9 + r := by
      have := Nat.div_add_mod b 1000000000
      rw [hq, hr, show (10 : Nat) ^ 9 = 1000000000 from rfl]; omega
    rw [← hr] at hlt
    obtain ⟨hp, hnd⟩ := padr_eq 8 r (by rw [show (10 : Nat) ^ (8 + 1) = 1000000000 from rfl]; exact hlt)
    have hnd1 := Lib.nDigits_pos r
    have hsh : nat_short (d32 b) (1000000000 : Int) = some (d32 q, (r : Int)) := by
      have := nat_short_eq (x := b) (d := 1000000000) (by omega) (by omega) (by omega)
      rw [← hr, ← hq] at this
      exact this
    have hwr : IntKind.i64.wrap (r : Int) = (r : Int) := w64 (by omega) (by omega)
    have hit : strconv_Itoa (r : Int) = some (tx (Lib.decDigits r)) := by
      unfold strconv_Itoa
      rw [← Tot.eq_iff]
      refine Tot.ass_iff.2 ⟨by omega, Tot.some_iff.2 ?_⟩
      rw [itoa_nat]
    have fin : ∀ t : List UInt8, t.length ≤ 9 → 1 ≤ t.length → (q = 0 → Lib.decDigits b = t) → (0 < q → Lib.decDigits b = Lib.decDigits q ++ t) → Tot (nat_Text_j2 l (d32 q, (r : Int)) (tx t)) (Nx (fun s => ∃ (b : Nat) (l : List ByteArray), s = (d32 b, l) ∧ b ≤ x ∧ (l = [] → b = x) ∧ (l ≠ [] → b = 0 → Lib.decDigits x = cat l) ∧ (0 < b → Lib.decDigits x = Lib.decDigits b ++ cat l) ∧ (∀ p ∈ l, p.size ≤ 9 ∧ 1 ≤ p.size)) (fun s => (vl 4294967296 s.1).toNat) ((vl 4294967296 (d32 b)).toNat) (fun r => r = tx (Lib.decDigits x))) := fun t t1 t2 h0 h1 => by
      unfold nat_Text_j2
      refine Tot.ass_iff.2 ⟨by simp only [List.length_singleton]; unfold limA; omega, ?_⟩
      rw [Tot.bnd_iff]
      have hcat : cat (l ++ [tx t]) = t ++ cat l := by simp [cat, tx]
      refine Tot.some_iff.2 (Nx.inl_iff.2 ⟨⟨q, _, rfl, by omega, fun h => absurd h (by simp), fun _ hq0 => ?_, fun hq0 => ?_, fun p hp => ?_⟩, ?_⟩)
      · rw [hl1 hz, h0 hq0, hcat]
      · rw [hl1 hz, h1 hq0, hcat, List.append_assoc]
      · rcases List.mem_append.1 hp with hp | hp
        · exact hsz p hp
        · rw [List.mem_singleton.1 hp, ba_size]; exact ⟨t1, t2⟩
      · simp only [d32, vl_dg b32]; omega
    rw [e2, cond_true, hsh, Option.bind_some]
    show Tot ((strconv_Itoa (IntKind.i64.wrap (r : Int))).bind fun y8 => bif decide (((d32 q).length : Int) > 0) then (strings_Repeat (tx [48]) (IntKind.i64.wrap (9 - (y8.size : Int)))).bind fun y11 => ass (((y11.size + y8.size : Nat) : Int) ≤ 9223372036854775807) <| bnd (y11 ++ y8) fun x12 => nat_Text_j2 l (d32 q, (r : Int)) x12 else nat_Text_j2 l (d32 q, (r : Int)) y8) _
    rw [hwr, hit, Option.bind_some]
    rcases Nat.eq_zero_or_pos q with hq0 | hq0
    · have e3 : decide (((d32 q).length : Int) > 0) = false := by rw [hq0, d32_zero]; rfl
      rw [e3, cond_false]
      refine fin _ (by rw [Lib.decDigits_length]; omega) (by rw [Lib.decDigits_length]; omega) (fun _ => by rw [hb, hq0]; simp) (fun h => by omega)
    · have e3 : decide (((d32 q).length : Int) > 0) = true := by
        rw [decide_eq_true_iff]
        have : (d32 q).length ≠ 0 := fun h => by have := d32_nil h; omega
        omega
      have hsz2 : (tx (Lib.decDigits r)).size = Lib.nDigits r := by rw [ba_size, Lib.decDigits_length]
      have hw9 : IntKind.i64.wrap (9 - ((tx (Lib.decDigits r)).size : Int)) = ((9 - Lib.nDigits r : Nat) : Int) := by rw [hsz2, w64 (by omega) (by omega)]; omega
      have hrep : strings_Repeat (tx [48]) ((9 - Lib.nDigits r : Nat) : Int) = some (tx (List.replicate (9 - Lib.nDigits r) 48)) := by
        unfold strings_Repeat
        rw [← Tot.eq_iff]
        refine Tot.ass_iff.2 ⟨⟨by omega, by omega, by rw [ba_size, Int.toNat_natCast]; simp only [List.length_singleton]; omega⟩, Tot.some_iff.2 ?_⟩
        rw [Int.toNat_natCast, ← repL]
      rw [e3, cond_true, hw9, hrep, Option.bind_some]
      refine Tot.ass_iff.2 ⟨by rw [ba_size, ba_size, List.length_replicate, Lib.decDigits_length]; omega, ?_⟩
      rw [Tot.bnd_iff, ba_app, ← hp]
      have hpl : (padr (8 + 1) r).length = 9 := by rw [hp, List.length_append, List.length_replicate, Lib.decDigits_length]; omega
      refine fin _ (by omega) (by omega) (fun h => by omega) (fun h => by rw [hb]; exact dd_split 9 q r h (by rw [show (10 : Nat) ^ 9 = 1000000000 from rfl]; exact hlt))
end Go.Tom
