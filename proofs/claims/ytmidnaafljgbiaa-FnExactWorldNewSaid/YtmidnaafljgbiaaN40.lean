/- Parts of the proof, in one text. -/
import Derived.Deep.Cut
import Derived.Deep.RegionWith
import Derived.Test.YtmidnaafljgbiaaN39
import Derived.Test.YtmidnaafljgbiaaN37
import Derived.Test.YtmidnaafljgbiaaN02
/- A turn's small parts, by the reference: a value put, and the next step. -/
namespace Go.Proofs.Ytmidnaafljgbiaa
open Go.RowKit
set_option maxRecDepth 100000

end Go.Proofs.Ytmidnaafljgbiaa
/- A region that draws its order and ends with a store: as in Reg, but behind the last operation nothing is asked of the memory; nothing of the program. -/
namespace Go.Proofs.Ytmidnaafljgbiaa
open Go
section
variable {P : Program} {ops : Array Oper} {Q : Exit → Act → World → Prop} {md : Region.Mode} {S : World → Prop} {t : Nat}
/-- What is listed has all listed that it waits for. -/
def Closed (md : Region.Mode) (ops : Array Oper) (listed : Array Bool) : Prop := ∀ (j : Nat) (o : Oper), ops[j]? = some o → listed.getD j true = true → ∀ e ∈ o.after, Region.binds md e = true → listed.getD e.on false = true
theorem Closed.take {listed : Array Bool} (h : Closed md ops listed) {j : Nat} (hj : j ∈ Region.ready md ops listed) : Closed md ops (listed.setIfInBounds j true) := by
  intro k o ho hk e he hb
  by_cases hkj : k = j
  · subst hkj
    obtain ⟨_, o', ho', hall⟩ := mem_ready.1 hj
    rw [ho] at ho'
    injection ho' with ho'
    subst ho'
    exact getD_set_true (hall e he hb)
  · rw [getD_set_ne true (Ne.symm hkj)] at hk
    exact getD_set_true (h k o ho hk e he hb)
end
end Go.Proofs.Ytmidnaafljgbiaa
/- Two results in cells. -/
namespace Go.Proofs.Ytmidnaafljgbiaa
open Go.RowKit
end Go.Proofs.Ytmidnaafljgbiaa
