/- Bytes that a law is given. -/
import Derived.Test.YtemglijebbodkaaOpen
import Derived.Test.YtemglijebbodkaaD1
namespace Go.Proofs.Ytemglijebbodkaa
open Go.ChangeShapes Go.WideShapes Go.ChangeAt Go.RowKit
theorem cellsB : Try.prog.cellsOf 5 = 1 := by kernel_rfl
/-- A slice of bytes as it came in, of whatever length. -/
def BytesIn (W : World) (A : Option Addr) (n : Nat) (bs : Nat → Int) : Prop := (∀ j, 0 ≤ bs j ∧ bs j ≤ 255) ∧ match A with
    | some ad => ∀ j, j < n → W.cell? (ad.add j) = some (.int .u8 (bs j))
    | none => n = 0
theorem open_bytesA {H : Type} {enc : TypeId × Value → H} {w : World} {base : Nat} {re : Reach} {v : Value} {d : DataW H} {p : List MemPlace} (hv : Value.okWide Try.prog w re base 22 v) (h : DataW.Trod enc Try.prog w 0 (fun _ => true) true 22 v d p) :
    ∃ (A : Option Addr) (n c : Nat) (bs : Nat → Int), v = .slice A n c ∧ n ≤ c ∧ c ≤ maxLen ∧ BytesIn w A n bs := by
  obtain ⟨a1, len, cap, rfl⟩ := okWide_slice Try.underlying22 hv
  obtain ⟨fuel, hf⟩ := h
  rcases open_ints Try.underlying22 Try.underlying5 cellsB hf with ⟨hcs, hx⟩ | ⟨a, len', cap', zs, hcs, _, hl, hm, hz, hx, hcell, hwz⟩
  · simp [Value.cells] at hcs
    obtain ⟨rfl, rfl, rfl⟩ := hcs
    exact ⟨none, 0, 0, fun _ => 0, rfl, Nat.le_refl _, Nat.zero_le _, fun _ => by simp, rfl⟩
  · simp [Value.cells] at hcs
    obtain ⟨rfl, rfl, rfl⟩ := hcs
    simp only [if_true] at hz
    refine ⟨some a, len, cap, fun j => zs.getD j 0, rfl, hl, hm, fun j => ?_, fun j hj => hcell j (by omega)⟩
    have hb := range_u8 hwz j
    simpa [List.getD_eq_getElem?_getD] using hb
end Go.Proofs.Ytemglijebbodkaa
