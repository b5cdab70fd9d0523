/- Parts of the proof, in one text. -/
import Derived.Deep.Cut
import Derived.StillTailTactics
import Derived.Test.YtmidnaafljgbiaaB16
import Derived.Test.YtmidnaafljgbiaaB09
import Derived.Test.YtmidnaafljgbiaaB06
import Derived.Test.YtmidnaafljgbiaaB01
/- What the reference says of worlds: how many values wait, who is alive, whether all is idle. -/
namespace Go.Proofs.Ytmidnaafljgbiaa
open Go.RowKit
set_option maxRecDepth 100000

end Go.Proofs.Ytmidnaafljgbiaa
/- Who is alive in a world, by the reference. -/
namespace Go.Proofs.Ytmidnaafljgbiaa
open Go.RowKit
set_option maxRecDepth 100000

theorem oneIx (x : Int) : ∀ u ∈ encI x, u.oneCell' = true := by
  intro u hu
  obtain rfl : u = .int .i64 x := by simpa [encI] using hu
  rfl
theorem infIx : (Try.prog.info? 3).map (fun i => (i.zero.map (·.cells.size), i.size, i.bytes)) = some (some 1, 1, 8) := by kernel_rfl
end Go.Proofs.Ytmidnaafljgbiaa
/- The laws' own helpers on values and numbers: copies, sizes, comparisons. -/
namespace Go.Proofs.Ytmidnaafljgbiaa
open Go.RowKit
set_option maxRecDepth 100000

set_option maxHeartbeats 1000000 in
theorem lToVal (v : Vl) (w : World) : Calls Try.prog 52 #[.agg #[.int .i64 v.k, .int .i64 v.n]] w fun e w' => e = .returned (.agg #[.int .i64 v.k, .int .i64 v.n]) ∧ Below w.heap.size w w' := by
  obtain ⟨k, n⟩ := v
  go_enter Try.func52, Try.ntmps52
  go_wp2
  exact bodyPost_ret (v := .agg #[.int .i64 k, .int .i64 n]) (by simp [results, Try.results52, go_sem]) rfl ⟨rfl, by repeat (first | exact Below.refl _ _ | apply below_new | (refine below_set ?_ (by simp; try omega)))⟩

set_option maxHeartbeats 1000000 in
theorem lEqVal (v : Vl) (w : World) : Calls Try.prog 19 #[.agg #[.int .i64 v.k, .int .i64 v.n], .agg #[.int .i64 v.k, .int .i64 v.n]] w fun e w' => e = .returned (.bool true) ∧ Below w.heap.size w w' := by
  obtain ⟨k, n⟩ := v
  go_enter Try.func19, Try.ntmps19
  go_wp2
  go_ret
  exact ⟨rfl, by repeat (first | exact Below.refl _ _ | apply below_new)⟩

/-- What is left of a size. -/
theorem lSzValS (l : List Vl) (left : Int) (A : Option Addr) (c : Nat) (w : World) (hl : l.length ≤ 140737488355328) (h0 : 0 ≤ left) (h1 : left ≤ 1048576) :
    Calls Try.prog 46 #[.slice A l.length c, .int .i64 left] w fun e w' => e = .returned (.int .i64 (if left - l.length < 0 then -1 else left - l.length)) ∧ w = w' := by
  by_cases h : left - l.length < 0
  · rw [if_pos h]
    go_enter Try.func46, Try.ntmps46
    go_wp2
    go_ret
    exact ⟨rfl, rfl⟩
  · rw [if_neg h]
    go_enter Try.func46, Try.ntmps46
    go_wp2
    go_ret
    exact ⟨rfl, rfl⟩
theorem lSzIntS (l : List Int) (left : Int) (A : Option Addr) (c : Nat) (w : World) (hl : l.length ≤ 140737488355328) (h0 : 0 ≤ left) (h1 : left ≤ 1048576) :
    Calls Try.prog 47 #[.slice A l.length c, .int .i64 left] w fun e w' => e = .returned (.int .i64 (if left - l.length < 0 then -1 else left - l.length)) ∧ w = w' := by
  by_cases h : left - l.length < 0
  · rw [if_pos h]
    go_enter Try.func47, Try.ntmps47
    go_wp2
    go_ret
    exact ⟨rfl, rfl⟩
  · rw [if_neg h]
    go_enter Try.func47, Try.ntmps47
    go_wp2
    go_ret
    exact ⟨rfl, rfl⟩

set_option maxHeartbeats 1000000 in
theorem lEqIntS (l : List Int) (A A' : Option Addr) (c c' B : Nat) (w : World) (h : ReadsI w B A l.length l) (h' : ReadsI w B A' l.length l) (hB : B ≤ w.heap.size) :
    Calls Try.prog 56 #[.slice A l.length c, .slice A' l.length c'] w fun e w' => e = .returned (.bool true) ∧ Below w.heap.size w w' := by
  have hm := h.2.1
  go_enter Try.func56, Try.ntmps56
  go_wp2
  go_loopg [5] l.length (fun gg i wr => ∃ k : Nat, k ≤ l.length ∧ l.length - k ≤ gg ∧ i = .int .i64 k ∧ Hid (Below w.heap.size w wr))
  case atStart => exact ⟨0, Nat.zero_le _, by omega, rfl, Below.refl _ _⟩
  case round =>
    obtain ⟨k, hk, hg, rfl, BW⟩ := hrel
    by_cases hlt : k < l.length
    · obtain ⟨ad, rfl, _, hc⟩ := (h.below' BW.out hB).int hlt
      obtain ⟨ad', rfl, _, hc'⟩ := (h'.below' BW.out hB).int hlt
      generalize l[k] = x at hc hc'
      have i1 : (0 : Int) ≤ k := by omega
      have i2 : (k : Int) < l.length := by omega
      go_wp2
      go_quiet (fail)
      go_wp2
      go_roundg (l.length - (k + 1))
      case measure => omega
      case rel => exact ⟨k + 1, by omega, by omega, by go_num, below_drewN BW.out _⟩
    · have : k = l.length := by omega
      subst this
      go_wp2
      go_ret
      exact ⟨rfl, BW.out⟩
end Go.Proofs.Ytmidnaafljgbiaa
/- The laws' own comparison of lists of values. -/
namespace Go.Proofs.Ytmidnaafljgbiaa
open Go.RowKit
set_option maxRecDepth 100000

set_option maxHeartbeats 1000000 in
theorem lEqValS (l : List Vl) (A A' : Option Addr) (c c' B : Nat) (w : World) (h : ReadsV w B A l.length l) (h' : ReadsV w B A' l.length l) (hB : B ≤ w.heap.size) :
    Calls Try.prog 55 #[.slice A l.length c, .slice A' l.length c'] w fun e w' => e = .returned (.bool true) ∧ Below w.heap.size w w' := by
  have hm := h.2.1
  go_enter Try.func55, Try.ntmps55
  go_wp2
  go_loopg [5] l.length (fun gg i wr => ∃ k : Nat, k ≤ l.length ∧ l.length - k ≤ gg ∧ i = .int .i64 k ∧ Hid (Below w.heap.size w wr))
  case atStart => exact ⟨0, Nat.zero_le _, by omega, rfl, Below.refl _ _⟩
  case round =>
    obtain ⟨k, hk, hg, rfl, BW⟩ := hrel
    by_cases hlt : k < l.length
    · obtain ⟨ad, rfl, _, hc1, hc2⟩ := (h.below' BW.out hB).val hlt
      obtain ⟨ad', rfl, _, hd1, hd2⟩ := (h'.below' BW.out hB).val hlt
      generalize l[k] = x at hc1 hc2 hd1 hd2
      obtain ⟨xk, xn⟩ := x
      have i1 : (0 : Int) ≤ k := by omega
      have i2 : (k : Int) < l.length := by omega
      go_wp2
      go_still_tail 8, (by kernel_rfl)
      go_wp2_with (go_at_call 19; refine (lEqVal ⟨xk, xn⟩ _).mono ?_; rintro e w' ⟨rfl, hb⟩)
      go_roundg (l.length - (k + 1))
      case measure => omega
      case rel => exact ⟨k + 1, by omega, by omega, by go_num, below_step (BW.out.drew) hb⟩
    · have : k = l.length := by omega
      subst this
      go_wp2
      go_ret
      exact ⟨rfl, BW.out⟩
end Go.Proofs.Ytmidnaafljgbiaa
