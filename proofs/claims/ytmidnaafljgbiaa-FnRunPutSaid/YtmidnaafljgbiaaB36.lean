/- Parts of the proof, in one text. -/
import Derived.Test.YtmidnaafljgbiaaB31
import Derived.Test.YtmidnaafljgbiaaB30
import Derived.Test.YtmidnaafljgbiaaB22
import Derived.Test.YtmidnaafljgbiaaB34
import Derived.Test.YtmidnaafljgbiaaB02
/- The reference's WorldGive: a world that is not given to. -/
namespace Go.Proofs.Ytmidnaafljgbiaa
open Go.RowKit
set_option maxRecDepth 100000

def WZ : Wm := ⟨[], none, 0, [], none, 0, [], none, 0, 0, 0, 0, 0⟩
theorem Mem.wldZ {w0 w : World} {f : List Nat} {L : List Asn} (M : Mem w0 f w L) : Mem w0 f w (wld WZ :: L) := by
  have M1 : Mem w0 f w (row encO 6 tO none 0 ([] : List Opx) :: row encR 13 tR none 0 ([] : List (Rn × RA)) :: row encI 1 tI none 0 ([] : List Int) :: rws [] :: L) := M.rwsNil.nilRow.nilRow.nilRow
  exact Mem.packW (W := WZ) M1
end Go.Proofs.Ytmidnaafljgbiaa
/- A new world, by the reference. -/
namespace Go.Proofs.Ytmidnaafljgbiaa
open Go.RowKit
set_option maxRecDepth 100000

set_option maxHeartbeats 4000000 in
theorem sWorldNew (C : List Opx) (cA : Option Addr) (cC : Nat) {w0 w : World} {f : List Nat} {L : List Asn} (M : Mem w0 f w (rowO cA cC C :: L)) (hl : C.length ≤ 1000000) :
    Calls Try.prog 23 #[.slice cA C.length cC] w fun e w' => ∃ V : Wm, V.wd = (if codeSafe C then newWorld C else Wd.zero) ∧ e = .returned (.tuple #[.agg (wArr V), .bool (codeSafe C)]) ∧ Mem w0 f w' (wld V :: rowO cA cC C :: L) := by
  have AL := add_lit0
  have HC : Hid (∀ {U : World} {L1 L2 : List Asn}, Mem w0 f U L1 → Del (rowO cA cC C) L1 L2 → Calls Try.prog 61 #[.slice cA C.length cC] U (fun e w' => e = .returned (.bool (codeSafe C)) ∧ Mem w0 f w' (rowO cA cC C :: L2))) := fun {U L1 L2} M hd => sCodeSafe C cA cC (M.pull hd)
  have HR : Hid (∀ {U : World} {L1 L2 : List Asn}, Mem w0 f U L1 → Del (rowO cA cC C) L1 L2 → ReadsL encO 6 U U.heap.size cA C.length C) := fun {U L1 L2} M hd => (row_reads M hd).1
  have hz := Lib.hid ((row_reads M .here).2.2)
  have HNw : Hid (∀ {U : World} {L1 : List Asn}, Mem w0 f U L1 → Calls Try.prog 62 #[.int .i64 1, .int .i64 0, .agg #[.int .i64 3, .int .i64 1]] U (fun e w' => ∃ b : RA, e = .returned (.agg (runArr (newRun 1 0 ⟨3, 1⟩) b)) ∧ Mem w0 f w' (runA (newRun 1 0 ⟨3, 1⟩) b :: L1))) := fun {U L1} M => sNewM 1 0 ⟨3, 1⟩ M
  cases hs : codeSafe C with
  | false =>
    --[1
    rw [hs] at HC
    simp only [Bool.false_eq_true, if_false]
    clear hs
    go_enter Try.func23, Try.ntmps23
    go_wp2_with (first | (with_reducible refine alA M ?_; clear M; (try clear F); intro w1 M F) | ((with_reducible apply ev_store (M := M)); rfl; rfl; ((conv => lhs; whnf) <;> rfl); rfl; (first | exact siI | exact siR | exact siV | exact siB | exact siSI | exact siSV | exact siW | exact siSR | exact siSO | exact siO); (exact one_all rfl); (exact dl); (exact Nat.le_of_ble_eq_true rfl); clear M; intro w1 M; simp only [SX] at M; (try clear F); have F := fx M) | (go_at_call 61; (refine nmK ?_; clear M; (try clear F); intro w1 M F); refine (HC.out M dl).mono ?_; clear M; rintro e w2 ⟨rfl, M⟩; (try clear F); have F := fx M))
    apply ret_cell_tmp (M := M); rfl; rfl; rfl; (exact dl); (first | exact agR | exact agV | exact agW | exact agO); (first | exact siI | exact siR | exact siV | exact siB | exact siSI | exact siSV | exact siW | exact siSR | exact siSO | exact siO); rfl
    exact ⟨WZ, rfl, rfl, Mem.wldZ M.drop⟩
    --]1
  | true =>
    --[2
    rw [hs] at HC
    simp only [if_true]
    clear hs
    go_enter Try.func23, Try.ntmps23
    go_wp2_with (first
      | ((with_reducible refine alA M ?_; clear M; (try clear F); intro w1 M F); ((with_reducible apply ev_copy0 (enc := encO) (ys := C) (hk := encO_length) (hone := oneO) (h0 := by decide) (hinfo := infOx) (ht := Try.underlying42) (M := M)); rfl; rfl; (exact dl); exact (HR.out M dl); exact hz.out; omega; (exact Nat.le_of_ble_eq_true rfl); clear M; intro A1 c1 w1 M; (try clear F); have F := fx M))
      | (with_reducible refine alA M ?_; clear M; (try clear F); intro w1 M F) | ((with_reducible apply ev_store (M := M)); rfl; rfl; ((conv => lhs; whnf) <;> rfl); rfl; (first | exact siI | exact siR | exact siV | exact siB | exact siSI | exact siSV | exact siW | exact siSR | exact siSO | exact siO); (exact one_all rfl); (exact dl); (exact Nat.le_of_ble_eq_true rfl); clear M; intro w1 M; simp only [SX] at M; (try clear F); have F := fx M)
      | (go_at_call 61; (refine nmK ?_; clear M; (try clear F); intro w1 M F); refine (HC.out M dl).mono ?_; clear M; rintro e w2 ⟨rfl, M⟩; (try clear F); have F := fx M)
      | (go_at_call 62; (refine nmK ?_; clear M; (try clear F); intro w1 M F); refine (HNw.out M).mono ?_; clear M; rintro e w2 ⟨b, rfl, M⟩; (try clear F); have F := fx M))
    apply ret_cell_tmp (M := M); rfl; rfl; rfl; (exact dl); (first | exact agR | exact agV | exact agW | exact agO); (first | exact siI | exact siR | exact siV | exact siB | exact siSI | exact siSV | exact siW | exact siSR | exact siSO | exact siO); rfl
    rename_i x1 x2
    have MQ := Mem.row_of encI_length (xs := [(1 : Int)]) M.drop rfl (by simp)
    have MR := Mem.rwsNil (Mem.row_of encR_length (xs := [((newRun 1 0 ⟨3, 1⟩, b) : Rn × RA)]) (MQ.pull (.there .here)) rfl (by simp))
    have M5 := (MR.sel (.cons (.there (.there (.there .here))) (.cons .here .refl))).rwsCons
    have M6 : Mem w0 f _ (rowO A1 c1 C :: rowR (some ⟨w2.heap.size, 0, none⟩) 1 [((newRun 1 0 ⟨3, 1⟩, b) : Rn × RA)] :: rowI (some ⟨x1.heap.size, 0, none⟩) 1 [(1 : Int)] :: rws [((newRun 1 0 ⟨3, 1⟩, b) : Rn × RA)] :: rowO cA cC C :: L) := M5.sel (.cons (.there (.there (.there .here))) (.cons (.there .here) (.cons (.there .here) .refl)))
    exact ⟨⟨C, A1, c1, [((newRun 1 0 ⟨3, 1⟩, b) : Rn × RA)], some ⟨w2.heap.size, 0, none⟩, 1, [1], some ⟨x1.heap.size, 0, none⟩, 1, 0, 0, 0, 0⟩, rfl, rfl, Mem.packW (W := ⟨C, A1, c1, [((newRun 1 0 ⟨3, 1⟩, b) : Rn × RA)], some ⟨w2.heap.size, 0, none⟩, 1, [1], some ⟨x1.heap.size, 0, none⟩, 1, 0, 0, 0, 0⟩) M6⟩
    --]2
end Go.Proofs.Ytmidnaafljgbiaa
/- Three results. -/
namespace Go.Proofs.Ytmidnaafljgbiaa
open Go.RowKit
section
variable {P : Program} {fn : Func} {R : Ending → World → Prop} {a : Act} {w0 w : World} {f : List Nat} {L L' L2 : List Asn} {d1 d2 d : Tmp} {t t1 tb tb1 : TypeId} {g g1 : Nat} {cs cs1 : List Value} {v1 v2 : Value}
theorem ret_tmp_tmp_cell (hres : fn.results = #[.tmp d1, .tmp d2, .cell d t]) (h1 : a.tmps.getD d1 undef = v1) (h2 : a.tmps.getD d2 undef = v2) (hx : a.tmps.getD d undef = .pointer (some ⟨g, 0, none⟩)) (M : Mem w0 f w L) (hd : Del (blk g tb cs) L L')
    (ha : ∀ W, (isAgg t).run P W = .ok true W) (hs : (P.info? t).map (·.size) = some cs.length) (hdef : a.defers = []) (hR : R (.returned (.tuple #[v1, v2, .agg cs.toArray])) w) : bodyPost P fn R .ret a w := by
  have hrun := run_loadAgg (P := P) (off := 0) (ha w) hs (M.pull hd).facts.1.2.1 (by omega : 0 + cs.length ≤ cs.length)
  simp only [List.drop_zero, List.take_length] at hrun
  refine ⟨hdef, _, ?_, hR⟩
  simp only [Array.getD_eq_getD_getElem?] at hx h1 h2
  simp [results, hres, hx, h1, h2, asAddr, hrun]
end
end Go.Proofs.Ytmidnaafljgbiaa
