/- Parts of the proof, in one text. -/
import Derived.Test.YtmidnaafljgbiaaN41
import Derived.Test.YtmidnaafljgbiaaN36
import Derived.Test.YtmidnaafljgbiaaN35
import Derived.Test.YtmidnaafljgbiaaN33
import Derived.Test.YtmidnaafljgbiaaN30
/- A run begins another one, by the reference. -/
namespace Go.Proofs.Ytmidnaafljgbiaa
open Go.RowKit
set_option maxRecDepth 100000

end Go.Proofs.Ytmidnaafljgbiaa
/- A new world, by the reference. -/
namespace Go.Proofs.Ytmidnaafljgbiaa
open Go.RowKit
set_option maxRecDepth 100000

set_option maxHeartbeats 4000000 in
theorem sWorldNew (C : List Opx) (cA : Option Addr) (cC : Nat) {w0 w : World} {f : List Nat} {L : List Asn} (M : Mem w0 f w (rowO cA cC C :: L)) (hl : C.length ≤ 1048576) :
    Calls Try.prog 23 #[.slice cA C.length cC] w fun e w' => ∃ V : Wm, V.wd = (if codeSafe C then newWorld C else Wd.zero) ∧ e = .returned (.tuple #[.agg (wArr V), .bool (codeSafe C)]) ∧ Mem w0 f w' (wld V :: rowO cA cC C :: L) := by
  have AL := add_lit0
  have HC : Hid (∀ {U : World} {L1 L2 : List Asn}, Mem w0 f U L1 → Del (rowO cA cC C) L1 L2 → Calls Try.prog 61 #[.slice cA C.length cC] U (fun e w' => e = .returned (.bool (codeSafe C)) ∧ Mem w0 f w' (rowO cA cC C :: L2))) := fun {U L1 L2} M hd => sCodeSafe C cA cC (M.pull hd)
  have HR : Hid (∀ {U : World} {L1 L2 : List Asn}, Mem w0 f U L1 → Del (rowO cA cC C) L1 L2 → ReadsL encO 6 U U.heap.size cA C.length C) := fun {U L1 L2} M hd => (row_reads M hd).1
  have hz := Lib.hid ((row_reads M .here).2.2)
  have HNw : Hid (∀ {U : World} {L1 : List Asn}, Mem w0 f U L1 → Calls Try.prog 62 #[.int .i64 1, .int .i64 0, .agg #[.int .i64 3, .int .i64 1]] U (fun e w' => ∃ b : RA, e = .returned (.agg (runArr (newRun 1 0 ⟨3, 1⟩) b)) ∧ Mem w0 f w' (runA (newRun 1 0 ⟨3, 1⟩) b :: L1))) := fun {U L1} M => sNewM 1 0 ⟨3, 1⟩ M
  cases hs : codeSafe C with
  | false =>
    --[1
    rw [hs] at HC
    simp only [Bool.false_eq_true, if_false]
    clear hs
    go_enter Try.func23, Try.ntmps23
    go_wp2_with (first | (with_reducible refine alA M ?_; clear M; (try clear F); intro w1 M F) | ((with_reducible apply ev_store (M := M)); rfl; rfl; ((conv => lhs; whnf) <;> rfl); rfl; (first | exact siI | exact siR | exact siV | exact siB | exact siSI | exact siSV | exact siW | exact siSR | exact siSO | exact siO); (exact one_all rfl); (exact dl); (exact Nat.le_of_ble_eq_true rfl); clear M; intro w1 M; simp only [SX] at M; (try clear F); have F := fx M) | (go_at_call 61; (refine nmK ?_; clear M; (try clear F); intro w1 M F); refine (HC.out M dl).mono ?_; clear M; rintro e w2 ⟨rfl, M⟩; (try clear F); have F := fx M))
    apply ret_cell_tmp (M := M); rfl; rfl; rfl; (exact dl); (first | exact agR | exact agV | exact agW | exact agO); (first | exact siI | exact siR | exact siV | exact siB | exact siSI | exact siSV | exact siW | exact siSR | exact siSO | exact siO); rfl
    exact ⟨WZ, rfl, rfl, Mem.wldZ M.drop⟩
    --]1
  | true =>
    --[2
    rw [hs] at HC
    simp only [if_true]
    clear hs
    go_enter Try.func23, Try.ntmps23
    go_wp2_with (first
      | ((with_reducible refine alA M ?_; clear M; (try clear F); intro w1 M F); ((with_reducible apply ev_copy0 (enc := encO) (ys := C) (hk := encO_length) (hone := oneO) (h0 := by decide) (hinfo := infOx) (ht := Try.underlying42) (M := M)); rfl; rfl; (exact dl); exact (HR.out M dl); exact hz.out; omega; (exact Nat.le_of_ble_eq_true rfl); clear M; intro A1 c1 w1 M; (try clear F); have F := fx M))
      | (with_reducible refine alA M ?_; clear M; (try clear F); intro w1 M F) | ((with_reducible apply ev_store (M := M)); rfl; rfl; ((conv => lhs; whnf) <;> rfl); rfl; (first | exact siI | exact siR | exact siV | exact siB | exact siSI | exact siSV | exact siW | exact siSR | exact siSO | exact siO); (exact one_all rfl); (exact dl); (exact Nat.le_of_ble_eq_true rfl); clear M; intro w1 M; simp only [SX] at M; (try clear F); have F := fx M)
      | (go_at_call 61; (refine nmK ?_; clear M; (try clear F); intro w1 M F); refine (HC.out M dl).mono ?_; clear M; rintro e w2 ⟨rfl, M⟩; (try clear F); have F := fx M)
      | (go_at_call 62; (refine nmK ?_; clear M; (try clear F); intro w1 M F); refine (HNw.out M).mono ?_; clear M; rintro e w2 ⟨b, rfl, M⟩; (try clear F); have F := fx M))
    apply ret_cell_tmp (M := M); rfl; rfl; rfl; (exact dl); (first | exact agR | exact agV | exact agW | exact agO); (first | exact siI | exact siR | exact siV | exact siB | exact siSI | exact siSV | exact siW | exact siSR | exact siSO | exact siO); rfl
    rename_i x1 x2
    have MQ := Mem.row_of encI_length (xs := [(1 : Int)]) M.drop rfl (by simp)
    have MR := Mem.rwsNil (Mem.row_of encR_length (xs := [((newRun 1 0 ⟨3, 1⟩, b) : Rn × RA)]) (MQ.pull (.there .here)) rfl (by simp))
    have M5 := (MR.sel (.cons (.there (.there (.there .here))) (.cons .here .refl))).rwsCons
    have M6 : Mem w0 f _ (rowO A1 c1 C :: rowR (some ⟨w2.heap.size, 0, none⟩) 1 [((newRun 1 0 ⟨3, 1⟩, b) : Rn × RA)] :: rowI (some ⟨x1.heap.size, 0, none⟩) 1 [(1 : Int)] :: rws [((newRun 1 0 ⟨3, 1⟩, b) : Rn × RA)] :: rowO cA cC C :: L) := M5.sel (.cons (.there (.there (.there .here))) (.cons (.there .here) (.cons (.there .here) .refl)))
    exact ⟨⟨C, A1, c1, [((newRun 1 0 ⟨3, 1⟩, b) : Rn × RA)], some ⟨w2.heap.size, 0, none⟩, 1, [1], some ⟨x1.heap.size, 0, none⟩, 1, 0, 0, 0, 0⟩, rfl, rfl, Mem.packW (W := ⟨C, A1, c1, [((newRun 1 0 ⟨3, 1⟩, b) : Rn × RA)], some ⟨w2.heap.size, 0, none⟩, 1, [1], some ⟨x1.heap.size, 0, none⟩, 1, 0, 0, 0, 0⟩) M6⟩
    --]2
end Go.Proofs.Ytmidnaafljgbiaa
/- The laws' marks on a world. -/
namespace Go.Proofs.Ytmidnaafljgbiaa
open Go.RowKit
set_option maxRecDepth 100000

def mkQ (k : Int) (W : Wm) : Int := mksN (k + 6 * W.code.length) W.ps
def mkW (k : Int) (W : Wm) : Wm := { W with code := marksO k W.code.length, ps := mksP (k + 6 * W.code.length) W.ps, queue := marksI (mkQ k W) W.queue.length }
def mkEnd (k : Int) (W : Wm) : Int := mkQ k W + W.queue.length
def MkWPost (k0 : Int) (W : Wm) (w0 : World) (f : List Nat) (L : List Asn) (e : Ending) (w' : World) : Prop := e = .returned (.int .i64 (mkEnd k0 W)) ∧ Mem w0 f w' (wld (mkW k0 W) :: L)
theorem mkEnd_le {k0 : Int} {W : Wm} (h0 : 0 ≤ k0) (h1 : k0 ≤ 1000000) (s1 : W.code.length ≤ 1048576) (s2 : W.ps.length ≤ 1048576) (s3 : W.queue.length ≤ 1048576) (s4 : sizesR (W.ps.map (·.1)) ≤ 100000000) : (0 ≤ mkQ k0 W ∧ mkQ k0 W ≤ 1000000000) ∧ 0 ≤ mkEnd k0 W ∧ mkEnd k0 W ≤ 2000000000 := by
  have h := mksN_le (k0 + 6 * W.code.length) W.ps
  have e : mkQ k0 W = mksN (k0 + 6 * W.code.length) W.ps := rfl
  have e2 : mkEnd k0 W = mkQ k0 W + W.queue.length := rfl
  omega
set_option maxHeartbeats 2000000 in
theorem lMarkWorld (W : Wm) (k0 : Int) {w0 w : World} {f : List Nat} {L L' : List Asn} (M : Mem w0 f w L) (hd : Del (wld W) L L') (h0 : 0 ≤ k0) (h1 : k0 ≤ 1000000) (s1 : W.code.length ≤ 1048576) (s2 : W.ps.length ≤ 1048576) (s3 : W.queue.length ≤ 1048576) (s4 : sizesR (W.ps.map (·.1)) ≤ 100000000) :
    Calls Try.prog 29 #[.agg (wArr W), .int .i64 k0] w (MkWPost k0 W w0 f L') := by
  have B := mkEnd_le h0 h1 s1 s2 s3 s4
  have HC := Lib.hid (fun V (L L' : List Asn) (M : Mem w0 f V L) (hd : Del (rowO W.cA W.cC W.code) L L') => lMarkOpS W.code W.cA W.cC k0 M hd h0 (by omega) (by omega))
  have HR := Lib.hid (fun V (L : List Asn) (M : Mem w0 f V (rowR W.rA W.rC W.ps :: rws W.ps :: L)) => lMarkRunS W.ps W.rA W.rC (k0 + 6 * W.code.length) M (by omega) (by omega) s2 (by omega))
  have HQ := Lib.hid (fun V (L L' : List Asn) (M : Mem w0 f V L) (hd : Del (rowI W.qA W.qC W.queue) L L') => mMarkI W.queue W.qA W.qC (mkQ k0 W) M hd (by omega) (by omega))
  unfold MkPost at HR
  have HF : Hid (∀ V z, z = mkQ k0 W + W.queue.length → Mem w0 f V (rowO W.cA W.cC (marksO k0 W.code.length) :: rowR W.rA W.rC (mksP (k0 + 6 * W.code.length) W.ps) :: rowI W.qA W.qC (marksI (mkQ k0 W) W.queue.length) :: rws (mksP (k0 + 6 * W.code.length) W.ps) :: L') → MkWPost k0 W w0 f L' (.returned (.int .i64 z)) V) := fun V z hz M => ⟨by rw [hz]; rfl, Mem.pack (L' := wldL (mkW k0 W)) M⟩
  have M : Mem w0 f w (rowO W.cA W.cC W.code :: rowR W.rA W.rC W.ps :: rowI W.qA W.qC W.queue :: rws W.ps :: L') := Mem.unpack (L' := wldL W) (M.pull hd)
  have e0 : mksN (k0 + 6 * W.code.length) W.ps = mkQ k0 W := rfl
  rw [e0] at HR
  clear hd B s1 s2 s3 s4 h0 h1 e0
  obtain ⟨code, cA, cC, ps, rA, rC, queue, qA, qC, now, sent, taken, lost⟩ := W
  simp only at *
  generalize mkQ k0 ⟨code, cA, cC, ps, rA, rC, queue, qA, qC, now, sent, taken, lost⟩ = q at HR HQ HF
  generalize mksP (k0 + 6 * code.length) ps = ms at HR HF
  generalize marksO k0 code.length = mo at HC HF
  generalize marksI q queue.length = mi at HQ HF
  go_enter Try.func29, Try.ntmps29
  go_wp2_with (first
    | (with_reducible refine alAw M ?_; clear M; (try clear F); intro w1 M F)
    | (go_at_call 28; (refine nmKw ?_; clear M; (try clear F); intro w1 M F); refine (HC.out _ _ _ M dl).mono ?_; clear M; rintro e w2 ⟨rfl, M⟩; (try clear F); have F := fxw M)
    | (go_at_call 69; (refine nmKw ?_; clear M; (try clear F); intro w1 M F); (have M1 := M.sel (T := rowR rA rC ps :: rws ps :: rowO cA cC mo :: rowI qA qC queue :: blk _ tW _ :: L') sl); refine (HR.out _ _ M1).mono ?_; clear M M1; rintro e w2 ⟨rfl, M⟩; (try clear F); have F := fxw M)
    | (go_at_call 58; (refine nmKw ?_; clear M; (try clear F); intro w1 M F); refine (HQ.out _ _ _ M dl).mono ?_; clear M; rintro e w2 ⟨rfl, M⟩; (try clear F); have F := fxw M))
  go_ret
  exact HF.out _ _ rfl (M.sel sl)
end Go.Proofs.Ytmidnaafljgbiaa
