/- Parts of the proof, in one text. -/
import Derived.Deep.Cut
import Derived.Test.YtmidnaafljgbiaaN38
import Derived.Test.YtmidnaafljgbiaaN33
import Derived.Test.YtmidnaafljgbiaaN27
import Derived.Test.YtmidnaafljgbiaaN32
import Derived.Test.YtmidnaafljgbiaaN04
import Derived.Test.YtmidnaafljgbiaaN07
import Derived.Test.YtmidnaafljgbiaaN03
/- A world in a box, opened at one run and closed again. -/
namespace Go.Proofs.Ytmidnaafljgbiaa
open Go.RowKit
set_option maxRecDepth 100000

/-- What is held of a world opened at a run. -/
def opened (g gr nn : Nat) (cA : Option Addr) (cC : Nat) (code : List Opx) (rC : Nat) (pre post : List (Rn × RA)) (r : Rn) (a : RA) (queue : List Int) (qA : Option Addr) (qC : Nat) (now sent taken lost : Int) (L : List Asn) : List Asn :=
  blk g tW [.slice cA code.length cC, .slice (some ⟨gr, 0, none⟩) nn rC, .slice qA queue.length qC, .int .i64 now, .int .i64 sent, .int .i64 taken, .int .i64 lost] ::
  row encR 13 tR (some ⟨gr, 0, none⟩) rC (pre ++ (r, a) :: post) :: row encV 2 tV a.sA a.sC r.slots :: row encV 2 tV a.mA a.mC r.mail :: row encI 1 tI a.lA a.lC r.links :: row encI 1 tI a.wA a.wC r.watched ::
  rws (pre ++ post) :: row encO 6 tO cA cC code :: row encI 1 tI qA qC queue :: L
section
variable {α : Type} {enc : α → List Value} {m : Nat} {t : TypeId} {c : Nat} {pre post : List α} {e0 : α} {w0 w : World} {f : List Nat} {L L' : List Asn}
variable {P : Program} {ops : Array Oper} {rest : List Oper} {Q : Exit → Act → World → Prop} {a : Act} {x y : Operand} {tt ty : TypeId} {pos : String} {after : Array Edge} {gd : Option (Nat × Bool)}
end
end Go.Proofs.Ytmidnaafljgbiaa
/- A turn's small parts, by the reference: a run waits; the next step. -/
namespace Go.Proofs.Ytmidnaafljgbiaa
open Go.RowKit
set_option maxRecDepth 100000

end Go.Proofs.Ytmidnaafljgbiaa
/- The reference's put into a slot, over what is held (for seats without RunPut). -/
namespace Go.Proofs.Ytmidnaafljgbiaa
open Go.RowKit
set_option maxRecDepth 100000

end Go.Proofs.Ytmidnaafljgbiaa
