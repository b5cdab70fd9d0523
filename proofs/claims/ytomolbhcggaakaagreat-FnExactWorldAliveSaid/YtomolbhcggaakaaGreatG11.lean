/- Parts of the proof, in one text. -/
import Derived.Test.YtomolbhcggaakaaGreatProg
import Derived.Test.YtomolbhcggaakaaGreatG10
/- Sizes of the program's types. -/
namespace Go.Proofs.YtomolbhcggaakaaGreat
open Go.RowKit
theorem siI : (Tryz.prog.info? tI).map (·.size) = some 1 := by kernel_rfl
theorem siB : (Tryz.prog.info? 4).map (·.size) = some 1 := by kernel_rfl
theorem siV : (Tryz.prog.info? tV).map (·.size) = some 2 := by kernel_rfl
theorem siR : (Tryz.prog.info? tR).map (·.size) = some 13 := by kernel_rfl
theorem siSI : (Tryz.prog.info? 24).map (·.size) = some 1 := by kernel_rfl
theorem siSV : (Tryz.prog.info? 54).map (·.size) = some 1 := by kernel_rfl
theorem agV (W : World) : (isAgg tV).run Tryz.prog W = .ok true W := by kernel_rfl
theorem agR (W : World) : (isAgg tR).run Tryz.prog W = .ok true W := by kernel_rfl
theorem nfI : (Tryz.prog.info? tI).map (fun i => (i.zero, i.size, i.bytes)) = some (some (.int .i64 0), 1, 8) := by kernel_rfl
theorem nfV : (Tryz.prog.info? tV).map (fun i => (i.zero, i.size, i.bytes)) = some (some (.agg #[.int .i64 0, .int .i64 0]), 2, 16) := by kernel_rfl
end Go.Proofs.YtomolbhcggaakaaGreat
/- Worlds that are held. -/
namespace Go.Proofs.YtomolbhcggaakaaGreat
open Go.RowKit

/-! ### Worlds -/
abbrev tO : Nat := 93
abbrev tW : Nat := 32
def encO (o : Opx) : List Value := [.int .i64 o.k, .int .i64 o.r, .int .i64 o.s, .int .i64 o.to, .int .i64 o.v.k, .int .i64 o.v.n]
theorem encO_length (o : Opx) : (encO o).length = 6 := rfl
theorem oneO (o : Opx) : ∀ u ∈ encO o, u.oneCell' = true := by
  intro u hu
  simp only [encO, List.mem_cons, List.not_mem_nil, or_false] at hu
  rcases hu with rfl | rfl | rfl | rfl | rfl | rfl <;> rfl
structure Wm where
  code : List Opx
  cA : Option Addr
  cC : Nat
  ps : List (Rn × RA)
  rA : Option Addr
  rC : Nat
  queue : List Int
  qA : Option Addr
  qC : Nat
  now : Int
  sent : Int
  taken : Int
  lost : Int
def Wm.wd (W : Wm) : Wd := ⟨W.code, W.ps.map (·.1), W.queue, W.now, W.sent, W.taken, W.lost⟩
abbrev wArr (W : Wm) : Array Value := #[.slice W.cA W.code.length W.cC, .slice W.rA W.ps.length W.rC, .slice W.qA W.queue.length W.qC, .int .i64 W.now, .int .i64 W.sent, .int .i64 W.taken, .int .i64 W.lost]
def rowO (A : Option Addr) (c : Nat) (xs : List Opx) : Asn := row encO 6 tO A c xs
def rowR (A : Option Addr) (c : Nat) (xs : List (Rn × RA)) : Asn := row encR 13 tR A c xs
theorem rowO_F {A : Option Addr} {c : Nat} {xs : List Opx} {w : World} : (rowO A c xs).F w = True := rfl
theorem rowR_F {A : Option Addr} {c : Nat} {xs : List (Rn × RA)} {w : World} : (rowR A c xs).F w = True := rfl
def wldL (W : Wm) : List Asn := [rowO W.cA W.cC W.code, rowR W.rA W.rC W.ps, rowI W.qA W.qC W.queue, rws W.ps]
def wld (W : Wm) : Asn := pack (wldL W)
theorem wld_F {W : Wm} {w : World} : (wld W).F w = True := rfl
theorem FXw : (∀ A c xs w, (rowO A c xs).F w = True) ∧ (∀ A c xs w, (rowR A c xs).F w = True) ∧ (∀ ps w, (rws ps).F w = True) ∧ (∀ W w, (wld W).F w = True) := ⟨fun _ _ _ _ => rfl, fun _ _ _ _ => rfl, fun _ _ => rfl, fun _ _ => rfl⟩
end Go.Proofs.YtomolbhcggaakaaGreat
