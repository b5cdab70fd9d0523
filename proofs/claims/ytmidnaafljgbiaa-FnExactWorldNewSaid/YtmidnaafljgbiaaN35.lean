/- Parts of the proof, in one text. -/
import Derived.Test.YtmidnaafljgbiaaN34
import Derived.Test.YtmidnaafljgbiaaN02
import Derived.Test.YtmidnaafljgbiaaN27
/- The reference's WorldGive: a world that is not given to. -/
namespace Go.Proofs.Ytmidnaafljgbiaa
open Go.RowKit
set_option maxRecDepth 100000

def WZ : Wm := ⟨[], none, 0, [], none, 0, [], none, 0, 0, 0, 0, 0⟩
theorem Mem.wldZ {w0 w : World} {f : List Nat} {L : List Asn} (M : Mem w0 f w L) : Mem w0 f w (wld WZ :: L) := by
  have M1 : Mem w0 f w (row encO 6 tO none 0 ([] : List Opx) :: row encR 13 tR none 0 ([] : List (Rn × RA)) :: row encI 1 tI none 0 ([] : List Int) :: rws [] :: L) := M.rwsNil.nilRow.nilRow.nilRow
  exact Mem.packW (W := WZ) M1
end Go.Proofs.Ytmidnaafljgbiaa
/- A result in a cell, and one besides. -/
namespace Go.Proofs.Ytmidnaafljgbiaa
open Go.RowKit
theorem ret_cell_tmp {P : Program} {fn : Func} {R : Ending → World → Prop} {a : Act} {w0 w : World} {f : List Nat} {L L' : List Asn} {d1 d : Tmp} {t tb : TypeId} {g : Nat} {cs : List Value} {v1 : Value} (hres : fn.results = #[.cell d t, .tmp d1]) (h1 : a.tmps.getD d1 undef = v1) (hx : a.tmps.getD d undef = .pointer (some ⟨g, 0, none⟩)) (M : Mem w0 f w L) (hd : Del (blk g tb cs) L L')
    (ha : ∀ W, (isAgg t).run P W = .ok true W) (hs : (P.info? t).map (·.size) = some cs.length) (hdef : a.defers = []) (hR : R (.returned (.tuple #[.agg cs.toArray, v1])) w) : bodyPost P fn R .ret a w := by
  have hrun := run_loadAgg (P := P) (off := 0) (ha w) hs (M.pull hd).facts.1.2.1 (by omega : 0 + cs.length ≤ cs.length)
  simp only [List.drop_zero, List.take_length] at hrun
  refine ⟨hdef, _, ?_, hR⟩
  simp only [Array.getD_eq_getD_getElem?] at hx h1
  simp [results, hres, hx, h1, asAddr, hrun]
end Go.Proofs.Ytmidnaafljgbiaa
/- Turns in plain words: each step, turn and event leaves an ok world ok, and sends few values. No Go and no memory here. -/
namespace Go.Proofs.Ytmidnaafljgbiaa

theorem WOk.need {w : Wd} (h : WOk w) {id : Int} (h1 : 1 ≤ id) (h2 : id ≤ w.runs.length) (hs : (getR w.runs id).state ≠ 3) : Need w.code (getR w.runs id).at_ (getR w.runs id).full := by
  have f := h.run h1 h2
  obtain ⟨_, ha, _, hf, _⟩ := runOk_parts f.ok
  exact need_of h.safe ha.1 f.at_ hf (f.need hs)
/-! ### What a step may do -/
def room (w : Wd) : Int := w.sent + 12 * (6 - (w.runs.length : Int) + (sumR liveW w.runs : Nat))
structure Turned (w w' : Wd) (n : Int) : Prop where
  ok : WOk w'
  code : w'.code = w.code
  len : w.runs.length ≤ w'.runs.length
  room : room w' ≤ room w + n
theorem Turned.trans {a b c : Wd} {m n k : Int} (h : Turned a b m) (h' : Turned b c n) (hk : m + n ≤ k) : Turned a c k :=
  ⟨h'.ok, h'.code.trans h.code, Nat.le_trans h.len h'.len, by have := h.room; have := h'.room; omega⟩
theorem Turned.refl {w : Wd} (h : WOk w) {n : Int} (hn : 0 ≤ n) : Turned w w n := ⟨h, rfl, Nat.le_refl _, by omega⟩
section
variable {w : Wd} {id : Int}
end

/-! ### A value is taken, or a run waits -/
end Go.Proofs.Ytmidnaafljgbiaa
