/- Small functions of values and numbers: each call returns what its plain word says. -/
import Derived.Test.YtemglijebbodkaaProg
import Derived.Test.YtemglijebbodkaaBase
namespace Go.Proofs.Ytemglijebbodkaa
open Go.RowKit
set_option maxRecDepth 100000

theorem ret_bool {a b : Bool} (h : a = b) : Ending.returned (.bool a) = .returned (.bool b) := by rw [h]
theorem ret_int {a b : Int} (h : a = b) : Ending.returned (.int .i64 a) = .returned (.int .i64 b) := by rw [h]
theorem below_box (w : World) (o : Obj) : Below w.heap.size w (w.alloc o) := below_new (Below.refl _ _) _
theorem inB_lo {n lo hi : Int} (h : lo ≤ n) : inB n lo hi = decide (n ≤ hi) := by simp [inB, h]
theorem inB_out {n lo hi : Int} (h : ¬ lo ≤ n) : inB n lo hi = false := by simp only [inB, decide_eq_false h, Bool.false_and]

theorem sIn (n lo hi : Int) (w : World) : Calls Try.prog 31 #[.int .i64 n, .int .i64 lo, .int .i64 hi] w fun e w' => e = .returned (.bool (inB n lo hi)) ∧ w = w' := by
  by_cases h : lo ≤ n
  · have e := inB_lo (hi := hi) h
    rw [e]
    clear e
    go_enter Try.func31, Try.ntmps31
    go_wp2
    go_ret
    exact ⟨rfl, rfl⟩
  · have e := inB_out (hi := hi) h
    rw [e]
    clear e
    go_enter Try.func31, Try.ntmps31
    go_wp2
    go_ret
    exact ⟨rfl, rfl⟩
theorem iIn (n lo hi : Int) (w : World) : Calls Try.prog 35 #[.int .i64 n, .int .i64 lo, .int .i64 hi] w fun e w' => e = .returned (.bool (inB n lo hi)) ∧ w = w' := by
  by_cases h : lo ≤ n
  · have e := inB_lo (hi := hi) h
    rw [e]
    clear e
    go_enter Try.func35, Try.ntmps35
    go_wp2
    go_ret
    exact ⟨rfl, rfl⟩
  · have e := inB_out (hi := hi) h
    rw [e]
    clear e
    go_enter Try.func35, Try.ntmps35
    go_wp2
    go_ret
    exact ⟨rfl, rfl⟩

theorem valOk_else {k n : Int} (h0 : ¬ k = 0) (h1 : ¬ k = 1) (h2 : ¬ k = 2) (h3 : ¬ k = 3) : valOk ⟨k, n⟩ = false := by simp [valOk, h0, h1, h2, h3]
theorem sValOk (v : Vl) (w : World) : Calls Try.prog 33 #[.agg #[.int .i64 v.k, .int .i64 v.n]] w fun e w' => e = .returned (.bool (valOk v)) ∧ Below w.heap.size w w' := by
  obtain ⟨k, n⟩ := v
  by_cases h0 : k = 0
  · subst h0
    go_enter Try.func33, Try.ntmps33
    go_wp2
    go_ret
    exact ⟨rfl, below_box _ _⟩
  by_cases h1 : k = 1
  · subst h1
    go_enter Try.func33, Try.ntmps33
    go_wp2_with (go_at_call 31; refine (sIn _ _ _ _).mono ?_; rintro e w' ⟨rfl, rfl⟩)
    go_ret
    exact ⟨rfl, below_box _ _⟩
  by_cases h2 : k = 2
  · subst h2
    go_enter Try.func33, Try.ntmps33
    go_wp2_with (go_at_call 31; refine (sIn _ _ _ _).mono ?_; rintro e w' ⟨rfl, rfl⟩)
    go_ret
    exact ⟨rfl, below_box _ _⟩
  by_cases h3 : k = 3
  · subst h3
    go_enter Try.func33, Try.ntmps33
    go_wp2_with (go_at_call 31; refine (sIn _ _ _ _).mono ?_; rintro e w' ⟨rfl, rfl⟩)
    go_ret
    exact ⟨rfl, below_box _ _⟩
  rw [valOk_else h0 h1 h2 h3]
  go_enter Try.func33, Try.ntmps33
  go_wp2
  go_ret
  exact ⟨rfl, below_box _ _⟩
theorem sTo (n : Int) (w : World) : Calls Try.prog 32 #[.int .i64 n] w fun e w' => e = .returned (.bool (inB n 0 15)) ∧ w = w' := by
  go_enter Try.func32, Try.ntmps32
  go_wp2_with (go_at_call 31; refine (sIn _ _ _ _).mono ?_; rintro e w' ⟨rfl, rfl⟩)
  go_ret
  exact ⟨rfl, rfl⟩
theorem sBit (s b : Int) (h : (s = 0 ∧ b = 1) ∨ (s = 1 ∧ b = 2) ∨ (s = 2 ∧ b = 4) ∨ (s = 3 ∧ b = 8)) (w : World) : Calls Try.prog 66 #[.int .i64 s] w fun e w' => e = .returned (.int .i64 b) ∧ Below w.heap.size w w' := by
  rcases h with ⟨rfl, rfl⟩ | ⟨rfl, rfl⟩ | ⟨rfl, rfl⟩ | ⟨rfl, rfl⟩
  all_goals
    go_enter Try.func66, Try.ntmps66
    go_wp2
    go_ret
    exact ⟨rfl, below_box _ _⟩
theorem bitI_pairs {s : Int} (h : inB s 0 3 = true) : (s = 0 ∧ bitI s = 1) ∨ (s = 1 ∧ bitI s = 2) ∨ (s = 2 ∧ bitI s = 4) ∨ (s = 3 ∧ bitI s = 8) := by
  have b := inB_iff.1 h
  obtain rfl | rfl | rfl | rfl : s = 0 ∨ s = 1 ∨ s = 2 ∨ s = 3 := by omega
  all_goals simp [bitI]
theorem sHas (f s : Int) (hf : 0 ≤ f) (hf' : f ≤ 15) (hs : inB s 0 3 = true) (w : World) : Calls Try.prog 50 #[.int .i64 f, .int .i64 s] w fun e w' => e = .returned (.bool (hasBit f s)) ∧ Below w.heap.size w w' := by
  have hb := bitI_pairs hs
  have hB := fun W => sBit s (bitI s) hb W
  unfold hasBit
  generalize bitI s = b at hb hB
  clear hs
  have HB := Lib.hid hB
  clear hB
  rcases hb with ⟨rfl, rfl⟩ | ⟨rfl, rfl⟩ | ⟨rfl, rfl⟩ | ⟨rfl, rfl⟩
  all_goals
    go_enter Try.func50, Try.ntmps50
    go_wp2_with (go_at_call 66; refine (HB.out _).mono ?_; rintro e w' ⟨rfl, hb⟩)
    go_ret
    exact ⟨ret_bool (by first | rfl | simp), hb⟩
end Go.Proofs.Ytemglijebbodkaa
