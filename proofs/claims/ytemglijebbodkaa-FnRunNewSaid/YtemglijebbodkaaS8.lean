/- The laws' own comparison of lists of values. -/
import Derived.Test.YtemglijebbodkaaS7
import Derived.StillTailTactics
namespace Go.Proofs.Ytemglijebbodkaa
open Go.RowKit
set_option maxRecDepth 100000

set_option maxHeartbeats 1000000 in
theorem lEqValS (l : List Vl) (A A' : Option Addr) (c c' B : Nat) (w : World) (h : ReadsV w B A l.length l) (h' : ReadsV w B A' l.length l) (hB : B ≤ w.heap.size) :
    Calls Try.prog 42 #[.slice A l.length c, .slice A' l.length c'] w fun e w' => e = .returned (.bool true) ∧ Below w.heap.size w w' := by
  have hm := h.2.1
  go_enter Try.func42, Try.ntmps42
  go_wp2
  go_loopg [5] l.length (fun gg i wr => ∃ k : Nat, k ≤ l.length ∧ l.length - k ≤ gg ∧ i = .int .i64 k ∧ Hid (Below w.heap.size w wr))
  case atStart => exact ⟨0, Nat.zero_le _, by omega, rfl, Below.refl _ _⟩
  case round =>
    obtain ⟨k, hk, hg, rfl, BW⟩ := hrel
    by_cases hlt : k < l.length
    · obtain ⟨ad, rfl, _, hc1, hc2⟩ := (h.below' BW.out hB).val hlt
      obtain ⟨ad', rfl, _, hd1, hd2⟩ := (h'.below' BW.out hB).val hlt
      generalize l[k] = x at hc1 hc2 hd1 hd2
      obtain ⟨xk, xn⟩ := x
      have i1 : (0 : Int) ≤ k := by omega
      have i2 : (k : Int) < l.length := by omega
      go_wp2
      go_still_tail 8, (by kernel_rfl)
      go_wp2_with (go_at_call 27; refine (lEqVal ⟨xk, xn⟩ _).mono ?_; rintro e w' ⟨rfl, hb⟩)
      go_roundg (l.length - (k + 1))
      case measure => omega
      case rel => exact ⟨k + 1, by omega, by omega, by go_num, below_step (BW.out.drew) hb⟩
    · have : k = l.length := by omega
      subst this
      go_wp2
      go_ret
      exact ⟨rfl, BW.out⟩
end Go.Proofs.Ytemglijebbodkaa
