/- The laws' own helpers on values and numbers: copies, sizes, comparisons. -/
import Derived.Test.YtemglijebbodkaaS2
import Derived.Test.YtemglijebbodkaaOwn
namespace Go.Proofs.Ytemglijebbodkaa
open Go.RowKit
set_option maxRecDepth 100000

set_option maxHeartbeats 1000000 in
theorem lToVal (v : Vl) (w : World) : Calls Try.prog 14 #[.agg #[.int .i64 v.k, .int .i64 v.n]] w fun e w' => e = .returned (.agg #[.int .i64 v.k, .int .i64 v.n]) ∧ Below w.heap.size w w' := by
  obtain ⟨k, n⟩ := v
  go_enter Try.func14, Try.ntmps14
  go_wp2
  exact bodyPost_ret (v := .agg #[.int .i64 k, .int .i64 n]) (by simp [results, Try.results14, go_sem]) rfl ⟨rfl, by repeat (first | exact Below.refl _ _ | apply below_new | (refine below_set ?_ (by simp; try omega)))⟩

set_option maxHeartbeats 1000000 in
theorem lEqVal (v : Vl) (w : World) : Calls Try.prog 27 #[.agg #[.int .i64 v.k, .int .i64 v.n], .agg #[.int .i64 v.k, .int .i64 v.n]] w fun e w' => e = .returned (.bool true) ∧ Below w.heap.size w w' := by
  obtain ⟨k, n⟩ := v
  go_enter Try.func27, Try.ntmps27
  go_wp2
  go_ret
  exact ⟨rfl, by repeat (first | exact Below.refl _ _ | apply below_new)⟩

/-- What is left of a size. -/
theorem lSzValS (l : List Vl) (left : Int) (A : Option Addr) (c : Nat) (w : World) (hl : l.length ≤ 140737488355328) (h0 : 0 ≤ left) (h1 : left ≤ 1048576) :
    Calls Try.prog 48 #[.slice A l.length c, .int .i64 left] w fun e w' => e = .returned (.int .i64 (if left - l.length < 0 then -1 else left - l.length)) ∧ w = w' := by
  by_cases h : left - l.length < 0
  · rw [if_pos h]
    go_enter Try.func48, Try.ntmps48
    go_wp2
    go_ret
    exact ⟨rfl, rfl⟩
  · rw [if_neg h]
    go_enter Try.func48, Try.ntmps48
    go_wp2
    go_ret
    exact ⟨rfl, rfl⟩
theorem lSzIntS (l : List Int) (left : Int) (A : Option Addr) (c : Nat) (w : World) (hl : l.length ≤ 140737488355328) (h0 : 0 ≤ left) (h1 : left ≤ 1048576) :
    Calls Try.prog 49 #[.slice A l.length c, .int .i64 left] w fun e w' => e = .returned (.int .i64 (if left - l.length < 0 then -1 else left - l.length)) ∧ w = w' := by
  by_cases h : left - l.length < 0
  · rw [if_pos h]
    go_enter Try.func49, Try.ntmps49
    go_wp2
    go_ret
    exact ⟨rfl, rfl⟩
  · rw [if_neg h]
    go_enter Try.func49, Try.ntmps49
    go_wp2
    go_ret
    exact ⟨rfl, rfl⟩

set_option maxHeartbeats 1000000 in
theorem lEqIntS (l : List Int) (A A' : Option Addr) (c c' B : Nat) (w : World) (h : ReadsI w B A l.length l) (h' : ReadsI w B A' l.length l) (hB : B ≤ w.heap.size) :
    Calls Try.prog 43 #[.slice A l.length c, .slice A' l.length c'] w fun e w' => e = .returned (.bool true) ∧ Below w.heap.size w w' := by
  have hm := h.2.1
  go_enter Try.func43, Try.ntmps43
  go_wp2
  go_loopg [5] l.length (fun gg i wr => ∃ k : Nat, k ≤ l.length ∧ l.length - k ≤ gg ∧ i = .int .i64 k ∧ Hid (Below w.heap.size w wr))
  case atStart => exact ⟨0, Nat.zero_le _, by omega, rfl, Below.refl _ _⟩
  case round =>
    obtain ⟨k, hk, hg, rfl, BW⟩ := hrel
    by_cases hlt : k < l.length
    · obtain ⟨ad, rfl, _, hc⟩ := (h.below' BW.out hB).int hlt
      obtain ⟨ad', rfl, _, hc'⟩ := (h'.below' BW.out hB).int hlt
      generalize l[k] = x at hc hc'
      have i1 : (0 : Int) ≤ k := by omega
      have i2 : (k : Int) < l.length := by omega
      go_wp2
      go_quiet (fail)
      go_wp2
      go_roundg (l.length - (k + 1))
      case measure => omega
      case rel => exact ⟨k + 1, by omega, by omega, by go_num, below_drewN BW.out _⟩
    · have : k = l.length := by omega
      subst this
      go_wp2
      go_ret
      exact ⟨rfl, BW.out⟩
end Go.Proofs.Ytemglijebbodkaa
