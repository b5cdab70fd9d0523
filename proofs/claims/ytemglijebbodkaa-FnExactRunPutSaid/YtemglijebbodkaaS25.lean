/- A slot is filled: its bit, and its value, on both sides. -/
import Derived.Test.YtemglijebbodkaaS24
import Derived.Test.YtemglijebbodkaaS6
namespace Go.Proofs.Ytemglijebbodkaa
open Go.RowKit
set_option maxRecDepth 100000

theorem sWith (f s : Int) (hf : 0 ≤ f) (hf' : f ≤ 15) (hs : inB s 0 3 = true) (w : World) : Calls Try.prog 72 #[.int .i64 f, .int .i64 s] w fun e w' => e = .returned (.int .i64 (withBit f s)) ∧ Below w.heap.size w w' := by
  have hb := bitI_pairs hs
  have HB := Lib.hid (fun W => sBit s (bitI s) hb W)
  have HH := Lib.hid (fun W => sHas f s hf hf' hs W)
  have hsum : IntKind.i64.wrap (f + bitI s) = f + bitI s := by rw [IntKind.wrap_i64]; omega
  unfold withBit
  generalize bitI s = b at HB hsum ⊢
  clear hb hs
  cases hq : hasBit f s with
  | true =>
    rw [hq] at HH
    simp only [if_true]
    go_enter Try.func72, Try.ntmps72
    go_wp2_with (go_at_call 50; refine (HH.out _).mono ?_; rintro e w1 ⟨rfl, hb1⟩)
    go_ret
    exact ⟨rfl, hb1⟩
  | false =>
    rw [hq] at HH
    simp only [if_false, Bool.false_eq_true]
    go_enter Try.func72, Try.ntmps72
    go_wp2_with (first | (go_at_call 50; refine (HH.out _).mono ?_; rintro e w1 ⟨rfl, hb1⟩) | (go_at_call 66; refine (HB.out _).mono ?_; rintro e w2 ⟨rfl, hb2⟩; have B2 := below_step hb1 hb2))
    go_ret
    exact ⟨ret_int (by simp), B2⟩
end Go.Proofs.Ytemglijebbodkaa
