/- slices.Backward at a row of numbers: what it hands back goes from the last one on. -/
import Derived.RangeFuncBox
import Derived.RangeFuncLeaves
import Derived.Shelf.Abstract
import Derived.WalkKit
import Derived.OwnWalkIn
import Derived.TacticsInMore
import Derived.LoopNIn
import Derived.LoopIn
import Derived.Test.YtgenminnhfokkaaGreatTomAQ
import Derived.Test.YtgenminnhfokkaaGreatProg
namespace Go.Tom
open Go Go.RowKit Go.Shelf Go.Proofs Go.Proofs.Tryz

attribute [local go_sem] Oper.semAt_some

set_option maxRecDepth 100000 in
set_option maxHeartbeats 2000000 in
theorem back_make (w : World) (a : Option Addr) (len cap : Nat) :
    CallsIn Fence.wide 0 prog 184 #[.slice a len cap] w fun e w' => e = .returned (.func (.func 188) #[] #[.pointer (some ⟨w.heap.size, 0, none⟩)]) ∧ ∃ T, w' = w.alloc (.cells #[.slice a len cap] T) := by
  refine callsIn_of_wp func184 rfl trivial ?_ rfl
  simp only [ntmps184, List.size_toArray, List.length_cons, List.length_nil, Nat.reduceAdd, Nat.reduceSub, Array.replicate_succ, Array.replicate_zero, List.push_toArray, List.append_toArray, List.nil_append, List.cons_append]
  gi_wp2
  go_ret
  exact ⟨rfl, _, rfl⟩

set_option maxRecDepth 100000 in
set_option maxHeartbeats 4000000 in
theorem back_iter (l B cap : Nat) (b off : Nat) (xs : List Int) (J : Nat → World → Prop) (Kp : World → Prop) (hlen : xs.length ≤ 2147483648)
    (hK : ∀ W, Kp W → W.cell? ⟨B, 0, none⟩ = some (.slice (some ⟨b, off, none⟩) xs.length cap) ∧ ∀ (k : Nat) (h : k < xs.length), W.cell? ⟨b, off + k, none⟩ = some (.int .i64 xs[k]))
    (hY : ∀ (k : Nat) (h : k < xs.length) (W : World), J (k + 1) W → Kp W → YieldAt Fence.wide 0 prog l #[.int .i64 (k : Int), .int .i64 xs[k]] W fun e W' => e = .returned (.bool true) ∧ J k W' ∧ Kp W')
    (W : World) (h0 : J xs.length W) (hk0 : Kp W) :
    CallsIn Fence.wide 0 prog 188 #[.func (.yield l) #[] #[], .pointer (some ⟨B, 0, none⟩)] W fun e W' => (∃ v, e = .returned v) ∧ J 0 W' ∧ Kp W' := by
  refine callsIn_of_wp func188 rfl trivial ?_ rfl
  simp only [ntmps188, List.size_toArray, List.length_cons, List.length_nil, Nat.reduceAdd, Nat.reduceSub, Array.replicate_succ, Array.replicate_zero, List.push_toArray, List.append_toArray, List.nil_append, List.cons_append]
  have hBs := (hK W hk0).1
  gi_wp2
  gi_loopw [3] (fun i wr => ∃ k : Nat, k ≤ xs.length ∧ i = .int .i64 ((k : Int) - 1) ∧ J k wr ∧ Kp wr)
    (fun i _ => (intOf i + 1).toNat)
  case atStart => exact ⟨xs.length, Nat.le_refl _, by simp, h0, hk0⟩
  case round =>
    obtain ⟨k, hk, rfl, hJs, hKs⟩ := hrel
    have hBs' := (hK wr hKs).1
    cases k with
    | zero =>
      gi_wp2
      go_end0
      exact ⟨⟨_, rfl⟩, hJs, hKs⟩
    | succ k =>
      have hcx := (hK wr hKs).2 k (by omega)
      obtain ⟨fn, tmps, assign, body, hy, hR⟩ := hY k (by omega) wr hJs hKs
      have hi : ((k + 1 : Nat) : Int) - 1 = (k : Int) := by omega
      rw [hi]
      gi_wp2
      refine ⟨rfl, hR.mono ?_⟩
      rintro e W3 ⟨rfl, hJ3, hk3⟩
      gi_wp2
      go_roundw
      case rel => exact ⟨k, by omega, by simp, hJ3, hk3⟩
      case measure => simp [intOf]

set_option maxRecDepth 100000 in
set_option maxHeartbeats 2000000 in
theorem back_nil (l B cap : Nat) (a : Option Addr) (W : World) (hB : W.cell? ⟨B, 0, none⟩ = some (.slice a 0 cap)) :
    CallsIn Fence.wide 0 prog 188 #[.func (.yield l) #[] #[], .pointer (some ⟨B, 0, none⟩)] W fun e W' => (∃ v, e = .returned v) ∧ W' = W := by
  refine callsIn_of_wp func188 rfl trivial ?_ rfl
  simp only [ntmps188, List.size_toArray, List.length_cons, List.length_nil, Nat.reduceAdd, Nat.reduceSub, Array.replicate_succ, Array.replicate_zero, List.push_toArray, List.append_toArray, List.nil_append, List.cons_append]
  gi_wp2
  gi_loopw [3] (fun i wr => i = .int .i64 (-1) ∧ wr = W) (fun _ _ => 0)
  case atStart => exact ⟨rfl, rfl⟩
  case round =>
    obtain ⟨rfl, rfl⟩ := hrel
    gi_wp2
    go_end0
    exact ⟨⟨_, rfl⟩, rfl⟩

theorem backsOk : Backs prog 184 188 where
  fmk := ⟨_, func184, by kernel_rfl, by kernel_rfl⟩
  fit := ⟨_, func188, by kernel_rfl, by kernel_rfl⟩
  make w a len cap := callsIn_wide.1 (back_make w a len cap)
  iter l B cap a xs J Kp hlen hK hY W h0 hk0 := by
    have hl : xs.length ≤ 2147483648 := by unfold limA at hlen; omega
    by_cases hz : xs.length = 0
    · have hB := (hK W hk0).1
      rw [hz] at hB h0
      exact (back_nil l B cap a W hB).mono fun e W' ⟨h1, h2⟩ => by subst h2; exact ⟨h1, h0, hk0⟩
    · obtain ⟨b, o, ha, _⟩ := (hK W hk0).2 0 (by omega)
      subst ha
      refine back_iter l B cap b o xs J Kp hl (fun W hW => ⟨(hK W hW).1, fun k h => ?_⟩) hY W h0 hk0
      obtain ⟨b', o', he, hc⟩ := (hK W hW).2 k h
      simp only [Option.some.injEq, Addr.mk.injEq, and_true] at he
      obtain ⟨rfl, rfl⟩ := he
      exact hc
end Go.Tom
