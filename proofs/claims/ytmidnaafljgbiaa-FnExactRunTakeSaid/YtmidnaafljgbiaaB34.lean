/- Parts of the proof, in one text. -/
import Derived.Test.YtmidnaafljgbiaaB33
import Derived.Test.YtmidnaafljgbiaaB30
import Derived.Test.YtmidnaafljgbiaaB29
import Derived.Test.YtmidnaafljgbiaaB22
import Derived.Test.YtmidnaafljgbiaaB02
/- An event, by the reference. -/
namespace Go.Proofs.Ytmidnaafljgbiaa
open Go.RowKit
set_option maxRecDepth 100000

set_option maxHeartbeats 8000000 in
theorem sEvent (W : Wm) (kk aa : Int) (v : Vl) {w0 w : World} {f : List Nat} {L L' : List Asn} (M : Mem w0 f w L) (hd : Del (wld W) L L') (hok : WOk W.wd) (hroom : room W.wd + 3 ≤ 9999) :
    Calls Try.prog 139 #[.agg (wArr W), .agg #[.int .i64 kk, .int .i64 aa, .int .i64 v.k, .int .i64 v.n]] w (WPost (eventW W.wd kk aa v) w0 f L') := by
  have AL := add_lit0
  replace M := M.pull hd
  clear hd
  have hps6 : W.ps.length ≤ 6 := by have := hok.len.2; rwa [runsLen] at this
  have hq6 : W.queue.length ≤ 6 := wok_queue (worldOk_iff.2 hok)
  obtain ⟨hrm1, hrm2⟩ := room_sent hok
  have HV := Lib.hid (fun V => sValOk v V)
  have HI := Lib.hid (fun V => sIn aa 1 W.ps.length V)
  have CD : Hid (∀ {U : World} {L1 L2 : List Asn}, Mem w0 f U L1 → Del (wld W) L1 L2 → Calls Try.prog 146 #[.agg (wArr W)] U (WPost (doW W.wd) w0 f L2)) := fun {U L1 L2} M hd => sDo21 W M hd hok hroom
  have CK : Hid (∀ {U : World} {L1 L2 : List Asn}, Mem w0 f U L1 → Del (wld W) L1 L2 → Calls Try.prog 147 #[.agg (wArr W)] U (WPost (tickW W.wd) w0 f L2)) := fun {U L1 L2} M hd => sTick21 W M hd hps6 hq6
  have CG : Hid (∀ {U : World} {L1 L2 : List Asn}, Mem w0 f U L1 → Del (wld W) L1 L2 → Calls Try.prog 148 #[.agg (wArr W), .int .i64 aa, .agg #[.int .i64 v.k, .int .i64 v.n]] U (WPost (give W.wd aa v) w0 f L2)) := fun {U L1 L2} M hd => giveMid W W.wd rfl W.ps.length 6 (by have := MidW.of hok; rwa [runsLen] at this) (by omega) (by omega) aa v M hd
  unfold eventW
  by_cases k1 : kk = 1
  · --[1
    subst k1
    rw [if_pos rfl]
    obtain ⟨vk, vn⟩ := v
    simp only at *
    go_enter Try.func139, Try.ntmps139
    go_wp2_with (first | (with_reducible refine alA M ?_; clear M; (try clear F); intro w1 M F) | ((with_reducible apply ev_store (M := M)); rfl; rfl; ((conv => lhs; whnf) <;> rfl); rfl; (first | exact siI | exact siR | exact siV | exact siB | exact siSI | exact siSV | exact siW | exact siSR | exact siSO | exact siO); (exact one_all rfl); (exact dl); (exact Nat.le_of_ble_eq_true rfl); clear M; intro w1 M; simp only [SX] at M; (try clear F); have F := fx M) | (go_at_call 146; (refine nmK ?_; clear M; (try clear F); intro w1 M F); refine (CD.out M dl).mono ?_; clear M; rintro e w2 ⟨Y, hY, rfl, M⟩; replace hY := Lib.hid hY; (try clear F); have F := fx M))
    (apply ret_cell (M := M); rfl; rfl; (exact dl); (first | exact agR | exact agV | exact agW | exact agO); (first | exact siI | exact siR | exact siV | exact siB | exact siSI | exact siSV | exact siW | exact siSR | exact siSO | exact siO); rfl; exact ⟨Y, hY.out, rfl, M.sel (.drop (.cons .here (.drop (.drop .refl))))⟩)
    --]1
  · by_cases k2 : kk = 2
    · --[2
      subst k2
      rw [if_neg (by decide), if_pos rfl]
      obtain ⟨vk, vn⟩ := v
      simp only at *
      go_enter Try.func139, Try.ntmps139
      go_wp2_with (first | (with_reducible refine alA M ?_; clear M; (try clear F); intro w1 M F) | ((with_reducible apply ev_store (M := M)); rfl; rfl; ((conv => lhs; whnf) <;> rfl); rfl; (first | exact siI | exact siR | exact siV | exact siB | exact siSI | exact siSV | exact siW | exact siSR | exact siSO | exact siO); (exact one_all rfl); (exact dl); (exact Nat.le_of_ble_eq_true rfl); clear M; intro w1 M; simp only [SX] at M; (try clear F); have F := fx M) | (go_at_call 147; (refine nmK ?_; clear M; (try clear F); intro w1 M F); refine (CK.out M dl).mono ?_; clear M; rintro e w2 ⟨Y, hY, rfl, M⟩; replace hY := Lib.hid hY; (try clear F); have F := fx M))
      (apply ret_cell (M := M); rfl; rfl; (exact dl); (first | exact agR | exact agV | exact agW | exact agO); (first | exact siI | exact siR | exact siV | exact siB | exact siSI | exact siSV | exact siW | exact siSR | exact siSO | exact siO); rfl; exact ⟨Y, hY.out, rfl, M.sel (.drop (.cons .here (.drop (.drop .refl))))⟩)
      --]2
    · by_cases k3 : kk = 3
      · --[3
        subst k3
        rw [if_neg (by decide), if_neg (by decide), if_pos rfl]
        cases hv : valOk v with
        | true =>
          rw [hv] at HV
          rw [if_pos rfl]
          clear hv
          obtain ⟨vk, vn⟩ := v
          simp only at *
          go_enter Try.func139, Try.ntmps139
          go_wp2_with (first | (with_reducible refine alA M ?_; clear M; (try clear F); intro w1 M F) | ((with_reducible apply ev_store (M := M)); rfl; rfl; ((conv => lhs; whnf) <;> rfl); rfl; (first | exact siI | exact siR | exact siV | exact siB | exact siSI | exact siSV | exact siW | exact siSR | exact siSO | exact siO); (exact one_all rfl); (exact dl); (exact Nat.le_of_ble_eq_true rfl); clear M; intro w1 M; simp only [SX] at M; (try clear F); have F := fx M) | (go_at_call 42; (refine nmK ?_; clear M; (try clear F); intro w1 M F); refine (HV.out _).mono ?_; rintro e w2 ⟨rfl, hb⟩; replace M := M.below hb; clear hb; (try clear F); have F := fx M) | (go_at_call 148; (refine nmK ?_; clear M; (try clear F); intro w1 M F); refine (CG.out M dl).mono ?_; clear M; rintro e w2 ⟨Y, hY, rfl, M⟩; replace hY := Lib.hid hY; (try clear F); have F := fx M))
          (apply ret_cell (M := M); rfl; rfl; (exact dl); (first | exact agR | exact agV | exact agW | exact agO); (first | exact siI | exact siR | exact siV | exact siB | exact siSI | exact siSV | exact siW | exact siSR | exact siSO | exact siO); rfl; exact ⟨Y, hY.out, rfl, M.sel (.drop (.cons .here (.drop (.drop .refl))))⟩)
        | false =>
          rw [hv] at HV
          rw [if_neg (by decide)]
          clear hv
          obtain ⟨vk, vn⟩ := v
          simp only at *
          go_enter Try.func139, Try.ntmps139
          go_wp2_with (first | (with_reducible refine alA M ?_; clear M; (try clear F); intro w1 M F) | ((with_reducible apply ev_store (M := M)); rfl; rfl; ((conv => lhs; whnf) <;> rfl); rfl; (first | exact siI | exact siR | exact siV | exact siB | exact siSI | exact siSV | exact siW | exact siSR | exact siSO | exact siO); (exact one_all rfl); (exact dl); (exact Nat.le_of_ble_eq_true rfl); clear M; intro w1 M; simp only [SX] at M; (try clear F); have F := fx M) | (go_at_call 42; (refine nmK ?_; clear M; (try clear F); intro w1 M F); refine (HV.out _).mono ?_; rintro e w2 ⟨rfl, hb⟩; replace M := M.below hb; clear hb; (try clear F); have F := fx M))
          (apply ret_cell (M := M); rfl; rfl; (exact dl); (first | exact agR | exact agV | exact agW | exact agO); (first | exact siI | exact siR | exact siV | exact siB | exact siSI | exact siSV | exact siW | exact siSR | exact siSO | exact siO); rfl; exact ⟨W, rfl, rfl, M.sel (.drop (.drop (.drop (.cons .here .refl))))⟩)
        --]3
      · have b1 : (kk == 1) = false := by simpa using k1
        have b2 : (kk == 2) = false := by simpa using k2
        have b3 : (kk == 3) = false := by simpa using k3
        rw [if_neg k1, if_neg k2, if_neg k3]
        by_cases k4 : kk = 4
        · subst k4
          rw [if_pos rfl]
          cases hv : valOk v with
          | false =>
            --[a
            rw [hv] at HV
            simp only [Bool.false_and, Bool.false_eq_true, if_false]
            clear hv k1 k2 k3
            obtain ⟨vk, vn⟩ := v
            simp only at *
            go_enter Try.func139, Try.ntmps139
            go_upto_region 12 with (first | (with_reducible refine alA M ?_; clear M; (try clear F); intro w1 M F) | (go_at_call 42; (refine nmK ?_; clear M; (try clear F); intro w1 M F); refine (HV.out _).mono ?_; rintro e w2 ⟨rfl, hb⟩; replace M := M.below hb; clear hb; (try clear F); have F := fx M))
            go_wp2_with (first | ((with_reducible apply ev_store (M := M)); rfl; rfl; ((conv => lhs; whnf) <;> rfl); rfl; (first | exact siI | exact siR | exact siV | exact siB | exact siSI | exact siSV | exact siW | exact siSR | exact siSO | exact siO); (exact one_all rfl); (exact dl); (exact Nat.le_of_ble_eq_true rfl); clear M; intro w1 M; simp only [SX] at M; (try clear F); have F := fx M))
            (apply ret_cell (M := M); rfl; rfl; (exact dl); (first | exact agR | exact agV | exact agW | exact agO); (first | exact siI | exact siR | exact siV | exact siB | exact siSI | exact siSV | exact siW | exact siSR | exact siSO | exact siO); rfl; exact ⟨W, rfl, rfl, M.sel (.drop (.drop (.drop (.cons .here .refl))))⟩)
            --]a
          | true =>
            rw [hv] at HV
            simp only [Bool.true_and]
            cases hi : inB aa 1 W.ps.length with
            | false =>
              --[b
              have hal : aliveIn W.wd.runs aa = false := by
                unfold aliveIn
                rw [runsLen, hi]
                rfl
              rw [hal]
              rw [hi] at HI
              simp only [Bool.false_eq_true, if_false]
              clear hv hal k1 k2 k3
              obtain ⟨vk, vn⟩ := v
              simp only at *
              go_enter Try.func139, Try.ntmps139
              go_upto_region 12 with (first | (with_reducible refine alA M ?_; clear M; (try clear F); intro w1 M F) | (go_at_call 42; (refine nmK ?_; clear M; (try clear F); intro w1 M F); refine (HV.out _).mono ?_; rintro e w2 ⟨rfl, hb⟩; replace M := M.below hb; clear hb; (try clear F); have F := fx M) | (go_at_call 80; (refine nmK ?_; clear M; (try clear F); intro w1 M F); refine (HI.out _).mono ?_; rintro e w2 ⟨rfl, rfl⟩))
              go_wp2_with (first | ((with_reducible apply ev_store (M := M)); rfl; rfl; ((conv => lhs; whnf) <;> rfl); rfl; (first | exact siI | exact siR | exact siV | exact siB | exact siSI | exact siSV | exact siW | exact siSR | exact siSO | exact siO); (exact one_all rfl); (exact dl); (exact Nat.le_of_ble_eq_true rfl); clear M; intro w1 M; simp only [SX] at M; (try clear F); have F := fx M))
              (apply ret_cell (M := M); rfl; rfl; (exact dl); (first | exact agR | exact agV | exact agW | exact agO); (first | exact siI | exact siR | exact siV | exact siB | exact siSI | exact siSV | exact siW | exact siSR | exact siSO | exact siO); rfl; exact ⟨W, rfl, rfl, M.sel (.drop (.drop (.drop (.cons .here .refl))))⟩)
              --]b
            | true =>
              rw [hi] at HI
              have hin := inB_iff.1 hi
              obtain ⟨m, rfl⟩ : ∃ m : Nat, aa = (m : Int) + 1 := ⟨(aa - 1).toNat, by omega⟩
              have hm : m < W.ps.length := by omega
              have hal : aliveIn W.wd.runs ((m : Int) + 1) = !((W.ps[m]'hm).1.state == 3) := by
                rw [alive_iff_state (w := W.wd) (k := m) (by rw [runsLen]; exact hm)]
                simp [Wm.wd]
              rw [hal]
              obtain ⟨gr, hA, _, _⟩ := (Mem.rw_ (M.pull .here).unpackW).runs m hm
              have hA2 := arr_at hA rfl
              have HE : Hid (∀ {U : World} {L1 L2 : List Asn}, Mem w0 f U L1 → Del (wld W) L1 L2 → U.cell? ⟨gr, m * 13 + 5, none⟩ = some (.int .i64 (W.ps[m]'hm).1.state)) := fun {U L1 L2} M hd => by
                obtain ⟨g', hA', _, E⟩ := (Mem.rw_ (M.pull hd).unpackW).runs m hm
                obtain rfl : gr = g' := by
                  rw [hA] at hA'
                  injection hA' with e
                  injection e with e
                exact E.2.2.2.2.2.1
              have CE : Hid (∀ {U : World} {L1 L2 : List Asn}, Mem w0 f U L1 → Del (wld W) L1 L2 → Calls Try.prog 149 #[.agg (wArr W), .int .i64 ((m : Int) + 1), .agg #[.int .i64 v.k, .int .i64 v.n]] U (WPost (fallAll W.wd ((m : Int) + 1) v) w0 f L2)) := fun {U L1 L2} M hd => sEnd W m v M hd hm hok hv (by have : W.wd.sent = W.sent := rfl; omega)
              rw [hA2] at CE ⊢
              have wi : IntKind.i64.wrap ((m : Int) + 1 - 1) = (m : Int) := by rw [IntKind.wrap_i64]; omega
              have wj : IntKind.i64.wrap (m : Int) = (m : Int) := by rw [IntKind.wrap_i64]; omega
              have i1 : (0 : Int) ≤ m := by omega
              have i2 : (m : Int) < W.ps.length := by omega
              generalize (W.ps[m]'hm).1.state = st at HE ⊢
              replace hA := Lib.hid hA
              replace hA2 := Lib.hid hA2
              clear hv hal hi hin k1 k2 k3 CG CD CK
              obtain ⟨vk, vn⟩ := v
              simp only at HV CE
              cases hst : (st == 3) with
              | true =>
                --[c
                have e3 : st = 3 := by simpa using hst
                subst e3
                simp only [Bool.not_true, Bool.false_eq_true, if_false]
                clear hst
                go_enter Try.func139, Try.ntmps139
                go_upto_region 10 with (first | (with_reducible refine alA M ?_; clear M; (try clear F); intro w1 M F))
                have E5 := HE.out M dl
                go_wp2_with (first | ((with_reducible apply ev_store (M := M)); rfl; rfl; ((conv => lhs; whnf) <;> rfl); rfl; (first | exact siI | exact siR | exact siV | exact siB | exact siSI | exact siSV | exact siW | exact siSR | exact siSO | exact siO); (exact one_all rfl); (exact dl); (exact Nat.le_of_ble_eq_true rfl); clear M; intro w1 M; simp only [SX] at M; (try clear F); have F := fx M) | (go_at_call 42; (refine nmK ?_; clear M; (try clear F); intro w1 M F); refine (HV.out _).mono ?_; rintro e w2 ⟨rfl, hb⟩; replace M := M.below hb; clear hb; (try clear F); have F := fx M; replace E5 := HE.out M dl) | ((go_at_call 80; (refine nmK ?_; clear M; (try clear F); intro w1 M F); refine (HI.out _).mono ?_; rintro e w2 ⟨rfl, rfl⟩); replace E5 := HE.out M dl))
                (apply ret_cell (M := M); rfl; rfl; (exact dl); (first | exact agR | exact agV | exact agW | exact agO); (first | exact siI | exact siR | exact siV | exact siB | exact siSI | exact siSV | exact siW | exact siSR | exact siSO | exact siO); rfl; exact ⟨W, rfl, congrArg (fun x => Ending.returned (.agg x)) hA2.out.symm, M.sel (.drop (.drop (.drop (.cons .here .refl))))⟩)
                --]c
              | false =>
                --[d
                have b5 : (st != 3) = true := by
                  show (!(st == 3)) = true
                  rw [hst]
                  rfl
                simp only [Bool.not_false, if_true]
                go_enter Try.func139, Try.ntmps139
                go_upto_region 10 with (first | (with_reducible refine alA M ?_; clear M; (try clear F); intro w1 M F))
                have E5 := HE.out M dl
                go_wp2_with (first | ((with_reducible apply ev_store (M := M)); rfl; rfl; ((conv => lhs; whnf) <;> rfl); rfl; (first | exact siI | exact siR | exact siV | exact siB | exact siSI | exact siSV | exact siW | exact siSR | exact siSO | exact siO); (exact one_all rfl); (exact dl); (exact Nat.le_of_ble_eq_true rfl); clear M; intro w1 M; simp only [SX] at M; (try clear F); have F := fx M) | (go_at_call 42; (refine nmK ?_; clear M; (try clear F); intro w1 M F); refine (HV.out _).mono ?_; rintro e w2 ⟨rfl, hb⟩; replace M := M.below hb; clear hb; (try clear F); have F := fx M; replace E5 := HE.out M dl) | ((go_at_call 80; (refine nmK ?_; clear M; (try clear F); intro w1 M F); refine (HI.out _).mono ?_; rintro e w2 ⟨rfl, rfl⟩); replace E5 := HE.out M dl) | (go_at_call 149; (refine nmK ?_; clear M; (try clear F); intro w1 M F); refine (CE.out M dl).mono ?_; clear M; rintro e w2 ⟨Y, hY, rfl, M⟩; replace hY := Lib.hid hY; (try clear F); have F := fx M))
                (apply ret_cell (M := M); rfl; rfl; (exact dl); (first | exact agR | exact agV | exact agW | exact agO); (first | exact siI | exact siR | exact siV | exact siB | exact siSI | exact siSV | exact siW | exact siSR | exact siSO | exact siO); rfl; exact ⟨Y, hY.out, rfl, M.sel (.drop (.cons .here (.drop (.drop .refl))))⟩)
                --]d
        · --[5
          have b4 : (kk == 4) = false := by simpa using k4
          rw [if_neg k4]
          clear k1 k2 k3 k4
          obtain ⟨vk, vn⟩ := v
          simp only at *
          go_enter Try.func139, Try.ntmps139
          go_wp2_with (first | (with_reducible refine alA M ?_; clear M; (try clear F); intro w1 M F) | ((with_reducible apply ev_store (M := M)); rfl; rfl; ((conv => lhs; whnf) <;> rfl); rfl; (first | exact siI | exact siR | exact siV | exact siB | exact siSI | exact siSV | exact siW | exact siSR | exact siSO | exact siO); (exact one_all rfl); (exact dl); (exact Nat.le_of_ble_eq_true rfl); clear M; intro w1 M; simp only [SX] at M; (try clear F); have F := fx M))
          (apply ret_cell (M := M); rfl; rfl; (exact dl); (first | exact agR | exact agV | exact agW | exact agO); (first | exact siI | exact siR | exact siV | exact siB | exact siSI | exact siSV | exact siW | exact siSR | exact siSO | exact siO); rfl; exact ⟨W, rfl, rfl, M.sel (.drop (.drop (.drop (.cons .here .refl))))⟩)
          --]5
end Go.Proofs.Ytmidnaafljgbiaa
/- The reference's WorldGive: a world that is not given to. -/
namespace Go.Proofs.Ytmidnaafljgbiaa
open Go.RowKit
set_option maxRecDepth 100000

def WZ : Wm := ⟨[], none, 0, [], none, 0, [], none, 0, 0, 0, 0, 0⟩
theorem Mem.wldZ {w0 w : World} {f : List Nat} {L : List Asn} (M : Mem w0 f w L) : Mem w0 f w (wld WZ :: L) := by
  have M1 : Mem w0 f w (row encO 6 tO none 0 ([] : List Opx) :: row encR 13 tR none 0 ([] : List (Rn × RA)) :: row encI 1 tI none 0 ([] : List Int) :: rws [] :: L) := M.rwsNil.nilRow.nilRow.nilRow
  exact Mem.packW (W := WZ) M1
end Go.Proofs.Ytmidnaafljgbiaa
/- A new world, by the reference. -/
namespace Go.Proofs.Ytmidnaafljgbiaa
open Go.RowKit
set_option maxRecDepth 100000

set_option maxHeartbeats 4000000 in
theorem sWorldNew (C : List Opx) (cA : Option Addr) (cC : Nat) {w0 w : World} {f : List Nat} {L : List Asn} (M : Mem w0 f w (rowO cA cC C :: L)) (hl : C.length ≤ 1000000) :
    Calls Try.prog 23 #[.slice cA C.length cC] w fun e w' => ∃ V : Wm, V.wd = (if codeSafe C then newWorld C else Wd.zero) ∧ e = .returned (.tuple #[.agg (wArr V), .bool (codeSafe C)]) ∧ Mem w0 f w' (wld V :: rowO cA cC C :: L) := by
  have AL := add_lit0
  have HC : Hid (∀ {U : World} {L1 L2 : List Asn}, Mem w0 f U L1 → Del (rowO cA cC C) L1 L2 → Calls Try.prog 61 #[.slice cA C.length cC] U (fun e w' => e = .returned (.bool (codeSafe C)) ∧ Mem w0 f w' (rowO cA cC C :: L2))) := fun {U L1 L2} M hd => sCodeSafe C cA cC (M.pull hd)
  have HR : Hid (∀ {U : World} {L1 L2 : List Asn}, Mem w0 f U L1 → Del (rowO cA cC C) L1 L2 → ReadsL encO 6 U U.heap.size cA C.length C) := fun {U L1 L2} M hd => (row_reads M hd).1
  have hz := Lib.hid ((row_reads M .here).2.2)
  have HNw : Hid (∀ {U : World} {L1 : List Asn}, Mem w0 f U L1 → Calls Try.prog 62 #[.int .i64 1, .int .i64 0, .agg #[.int .i64 3, .int .i64 1]] U (fun e w' => ∃ b : RA, e = .returned (.agg (runArr (newRun 1 0 ⟨3, 1⟩) b)) ∧ Mem w0 f w' (runA (newRun 1 0 ⟨3, 1⟩) b :: L1))) := fun {U L1} M => sNewM 1 0 ⟨3, 1⟩ M
  cases hs : codeSafe C with
  | false =>
    --[1
    rw [hs] at HC
    simp only [Bool.false_eq_true, if_false]
    clear hs
    go_enter Try.func23, Try.ntmps23
    go_wp2_with (first | (with_reducible refine alA M ?_; clear M; (try clear F); intro w1 M F) | ((with_reducible apply ev_store (M := M)); rfl; rfl; ((conv => lhs; whnf) <;> rfl); rfl; (first | exact siI | exact siR | exact siV | exact siB | exact siSI | exact siSV | exact siW | exact siSR | exact siSO | exact siO); (exact one_all rfl); (exact dl); (exact Nat.le_of_ble_eq_true rfl); clear M; intro w1 M; simp only [SX] at M; (try clear F); have F := fx M) | (go_at_call 61; (refine nmK ?_; clear M; (try clear F); intro w1 M F); refine (HC.out M dl).mono ?_; clear M; rintro e w2 ⟨rfl, M⟩; (try clear F); have F := fx M))
    apply ret_cell_tmp (M := M); rfl; rfl; rfl; (exact dl); (first | exact agR | exact agV | exact agW | exact agO); (first | exact siI | exact siR | exact siV | exact siB | exact siSI | exact siSV | exact siW | exact siSR | exact siSO | exact siO); rfl
    exact ⟨WZ, rfl, rfl, Mem.wldZ M.drop⟩
    --]1
  | true =>
    --[2
    rw [hs] at HC
    simp only [if_true]
    clear hs
    go_enter Try.func23, Try.ntmps23
    go_wp2_with (first
      | ((with_reducible refine alA M ?_; clear M; (try clear F); intro w1 M F); ((with_reducible apply ev_copy0 (enc := encO) (ys := C) (hk := encO_length) (hone := oneO) (h0 := by decide) (hinfo := infOx) (ht := Try.underlying42) (M := M)); rfl; rfl; (exact dl); exact (HR.out M dl); exact hz.out; omega; (exact Nat.le_of_ble_eq_true rfl); clear M; intro A1 c1 w1 M; (try clear F); have F := fx M))
      | (with_reducible refine alA M ?_; clear M; (try clear F); intro w1 M F) | ((with_reducible apply ev_store (M := M)); rfl; rfl; ((conv => lhs; whnf) <;> rfl); rfl; (first | exact siI | exact siR | exact siV | exact siB | exact siSI | exact siSV | exact siW | exact siSR | exact siSO | exact siO); (exact one_all rfl); (exact dl); (exact Nat.le_of_ble_eq_true rfl); clear M; intro w1 M; simp only [SX] at M; (try clear F); have F := fx M)
      | (go_at_call 61; (refine nmK ?_; clear M; (try clear F); intro w1 M F); refine (HC.out M dl).mono ?_; clear M; rintro e w2 ⟨rfl, M⟩; (try clear F); have F := fx M)
      | (go_at_call 62; (refine nmK ?_; clear M; (try clear F); intro w1 M F); refine (HNw.out M).mono ?_; clear M; rintro e w2 ⟨b, rfl, M⟩; (try clear F); have F := fx M))
    apply ret_cell_tmp (M := M); rfl; rfl; rfl; (exact dl); (first | exact agR | exact agV | exact agW | exact agO); (first | exact siI | exact siR | exact siV | exact siB | exact siSI | exact siSV | exact siW | exact siSR | exact siSO | exact siO); rfl
    rename_i x1 x2
    have MQ := Mem.row_of encI_length (xs := [(1 : Int)]) M.drop rfl (by simp)
    have MR := Mem.rwsNil (Mem.row_of encR_length (xs := [((newRun 1 0 ⟨3, 1⟩, b) : Rn × RA)]) (MQ.pull (.there .here)) rfl (by simp))
    have M5 := (MR.sel (.cons (.there (.there (.there .here))) (.cons .here .refl))).rwsCons
    have M6 : Mem w0 f _ (rowO A1 c1 C :: rowR (some ⟨w2.heap.size, 0, none⟩) 1 [((newRun 1 0 ⟨3, 1⟩, b) : Rn × RA)] :: rowI (some ⟨x1.heap.size, 0, none⟩) 1 [(1 : Int)] :: rws [((newRun 1 0 ⟨3, 1⟩, b) : Rn × RA)] :: rowO cA cC C :: L) := M5.sel (.cons (.there (.there (.there .here))) (.cons (.there .here) (.cons (.there .here) .refl)))
    exact ⟨⟨C, A1, c1, [((newRun 1 0 ⟨3, 1⟩, b) : Rn × RA)], some ⟨w2.heap.size, 0, none⟩, 1, [1], some ⟨x1.heap.size, 0, none⟩, 1, 0, 0, 0, 0⟩, rfl, rfl, Mem.packW (W := ⟨C, A1, c1, [((newRun 1 0 ⟨3, 1⟩, b) : Rn × RA)], some ⟨w2.heap.size, 0, none⟩, 1, [1], some ⟨x1.heap.size, 0, none⟩, 1, 0, 0, 0, 0⟩) M6⟩
    --]2
end Go.Proofs.Ytmidnaafljgbiaa
/- Three results. -/
namespace Go.Proofs.Ytmidnaafljgbiaa
open Go.RowKit
section
variable {P : Program} {fn : Func} {R : Ending → World → Prop} {a : Act} {w0 w : World} {f : List Nat} {L L' L2 : List Asn} {d1 d2 d : Tmp} {t t1 tb tb1 : TypeId} {g g1 : Nat} {cs cs1 : List Value} {v1 v2 : Value}
theorem ret_tmp_tmp_cell (hres : fn.results = #[.tmp d1, .tmp d2, .cell d t]) (h1 : a.tmps.getD d1 undef = v1) (h2 : a.tmps.getD d2 undef = v2) (hx : a.tmps.getD d undef = .pointer (some ⟨g, 0, none⟩)) (M : Mem w0 f w L) (hd : Del (blk g tb cs) L L')
    (ha : ∀ W, (isAgg t).run P W = .ok true W) (hs : (P.info? t).map (·.size) = some cs.length) (hdef : a.defers = []) (hR : R (.returned (.tuple #[v1, v2, .agg cs.toArray])) w) : bodyPost P fn R .ret a w := by
  have hrun := run_loadAgg (P := P) (off := 0) (ha w) hs (M.pull hd).facts.1.2.1 (by omega : 0 + cs.length ≤ cs.length)
  simp only [List.drop_zero, List.take_length] at hrun
  refine ⟨hdef, _, ?_, hR⟩
  simp only [Array.getD_eq_getD_getElem?] at hx h1 h2
  simp [results, hres, hx, h1, h2, asAddr, hrun]
theorem ret_cell_cell_tmp (hres : fn.results = #[.cell d t, .cell d1 t1, .tmp d2]) (h2 : a.tmps.getD d2 undef = v2) (h1 : a.tmps.getD d1 undef = .pointer (some ⟨g1, 0, none⟩)) (hx : a.tmps.getD d undef = .pointer (some ⟨g, 0, none⟩)) (M : Mem w0 f w L) (hd : Del (blk g tb cs) L L') (hd1 : Del (blk g1 tb1 cs1) L L2)
    (ha : ∀ W, (isAgg t).run P W = .ok true W) (ha1 : ∀ W, (isAgg t1).run P W = .ok true W) (hs : (P.info? t).map (·.size) = some cs.length) (hs1 : (P.info? t1).map (·.size) = some cs1.length) (hdef : a.defers = []) (hR : R (.returned (.tuple #[.agg cs.toArray, .agg cs1.toArray, v2])) w) : bodyPost P fn R .ret a w := by
  have hrun := run_loadAgg (P := P) (off := 0) (ha w) hs (M.pull hd).facts.1.2.1 (by omega : 0 + cs.length ≤ cs.length)
  have hrun1 := run_loadAgg (P := P) (off := 0) (ha1 w) hs1 (M.pull hd1).facts.1.2.1 (by omega : 0 + cs1.length ≤ cs1.length)
  simp only [List.drop_zero, List.take_length] at hrun hrun1
  refine ⟨hdef, _, ?_, hR⟩
  simp only [Array.getD_eq_getD_getElem?] at hx h1 h2
  simp [results, hres, hx, h1, h2, asAddr, hrun, hrun1]
end
end Go.Proofs.Ytmidnaafljgbiaa
