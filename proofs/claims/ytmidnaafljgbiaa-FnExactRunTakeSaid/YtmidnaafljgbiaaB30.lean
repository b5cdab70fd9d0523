/- Parts of the proof, in one text. -/
import Derived.Deep.Cut
import Derived.Deep.QuietTactic
import Derived.BigQuiet
import Derived.Test.YtmidnaafljgbiaaB05
import Derived.Test.YtmidnaafljgbiaaB14
import Derived.Test.YtmidnaafljgbiaaB04
import Derived.Test.YtmidnaafljgbiaaB27
/- Is an end a normal one, by the reference. -/
namespace Go.Proofs.Ytmidnaafljgbiaa
open Go.RowKit
set_option maxRecDepth 100000

theorem sNormal (v : Vl) (w : World) : Calls Try.prog 169 #[.agg #[.int .i64 v.k, .int .i64 v.n]] w fun e w' => e = .returned (.bool (isNormal v)) ∧ Below w.heap.size w w' := by
  have M := Mem.nil w
  have e : isNormal v = (v.k == 2 && v.n == 0) := by
    obtain ⟨k, n⟩ := v
    rw [Bool.eq_iff_iff]
    simp [isNormal]
  rw [e]
  obtain ⟨k, n⟩ := v
  simp only
  go_enter Try.func169, Try.ntmps169
  go_wp2_with (with_reducible refine alAw M ?_; clear M; (try clear F); intro w1 M F)
  all_goals go_ret
  all_goals exact ⟨by simp_all, M.toBelow⟩
end Go.Proofs.Ytmidnaafljgbiaa
/- The reference's giving: who is not there, did end, or has no room. -/
namespace Go.Proofs.Ytmidnaafljgbiaa
open Go.RowKit
set_option maxRecDepth 100000

def GivePost (W : Wm) (id : Int) (v : Vl) (w0 : World) (f : List Nat) (L : List Asn) (e : Ending) (w' : World) : Prop := ∃ V : Wm, V.wd = give W.wd id v ∧ e = .returned (.agg (wArr V)) ∧ Mem w0 f w' (wld V :: L)
set_option maxHeartbeats 4000000 in
theorem sGive_out (W : Wm) (id : Int) (v : Vl) {w0 w : World} {f : List Nat} {L L' : List Asn} (M : Mem w0 f w L) (hd : Del (wld W) L L') (hn : W.ps.length ≤ 1000) (h : (aliveIn W.wd.runs id && decide ((getR W.wd.runs id).mail.length < 12)) = false) :
    Calls Try.prog 148 #[.agg (wArr W), .int .i64 id, .agg #[.int .i64 v.k, .int .i64 v.n]] w (GivePost W id v w0 f L') := by
  have AL := add_lit0
  have M := (M.pull hd).unpackW
  have HI := Lib.hid (fun V => sIn id 1 W.ps.length V)
  have HF : Hid (∀ (U : World) (e : Ending), e = .returned (.agg (wArr { W with sent := wr (W.sent + 1), lost := wr (W.lost + 1) })) → Mem w0 f U (rowO W.cA W.cC W.code :: rowR W.rA W.rC W.ps :: rowI W.qA W.qC W.queue :: rws W.ps :: L') → GivePost W id v w0 f L' e U) := fun U e he M => ⟨{ W with sent := wr (W.sent + 1), lost := wr (W.lost + 1) }, (give_out h).symm, he, M.packW (W := { W with sent := wr (W.sent + 1), lost := wr (W.lost + 1) })⟩
  have w1 := wr_wrap (W.sent + 1)
  have w2 := wr_wrap (W.lost + 1)
  clear hd
  cases q : inB id 1 W.ps.length with
  | false =>
    rw [q] at HI
    clear h q
    obtain ⟨code, cA, cC, ps, rA, rC, queue, qA, qC, now, sent, taken, lost⟩ := W
    simp only at *
    generalize wr (sent + 1) = s1 at w1 HF
    generalize wr (lost + 1) = l1 at w2 HF
    go_enter Try.func148, Try.ntmps148
    go_upto_region 2 with (first | (with_reducible refine alA M ?_; clear M; (try clear F); intro w1 M F) | ((with_reducible apply ev_store (M := M)); rfl; rfl; ((conv => lhs; whnf) <;> rfl); rfl; (first | exact siI | exact siR | exact siV | exact siB | exact siSI | exact siSV | exact siW | exact siSR | exact siSO | exact siO); (exact one_all rfl); (exact dl); (exact Nat.le_of_ble_eq_true rfl); clear M; intro w1 M; simp only [SX] at M; (try clear F); have F := fx M))
    go_upto_region 3 with (go_at_call 80; refine (HI.out _).mono ?_; rintro e w2 ⟨rfl, rfl⟩)
    go_wp2_with ((with_reducible apply ev_store (M := M)); rfl; rfl; ((conv => lhs; whnf) <;> rfl); rfl; (first | exact siI | exact siR | exact siV | exact siB | exact siSI | exact siSV | exact siW | exact siSR | exact siSO | exact siO); (exact one_all rfl); (exact dl); (exact Nat.le_of_ble_eq_true rfl); clear M; intro w1 M; simp only [SX] at M; (try clear F); have F := fx M)
    apply ret_cell (M := M); rfl; rfl; (exact dl); (first | exact agR | exact agV | exact agW | exact agO); (first | exact siI | exact siR | exact siV | exact siB | exact siSI | exact siSV | exact siW | exact siSR | exact siSO | exact siO); rfl
    exact HF.out _ _ rfl (M.sel sl)
  | true =>
    rw [q] at HI
    have q2 := inB_iff.1 q
    obtain ⟨k, hk⟩ : ∃ k : Nat, id = (k : Int) + 1 := ⟨(id - 1).toNat, by omega⟩
    subst hk
    have hk : k < W.ps.length := by omega
    have e : aliveIn W.wd.runs ((k : Int) + 1) = !(W.ps[k].1.state == 3) := by unfold aliveIn; rw [runsLen, q, getR_ps hk]; rfl
    rw [e, getR_ps hk] at h
    obtain ⟨gr, hgr⟩ := row_form M (.there .here) (by omega)
    clear q e
    obtain ⟨code, cA, cC, ps, rA, rC, queue, qA, qC, now, sent, taken, lost⟩ := W
    simp only at *
    subst hgr
    generalize wr (sent + 1) = s1 at w1 HF
    generalize wr (lost + 1) = l1 at w2 HF
    have i1 : (0 : Int) ≤ k := by omega
    have i2 : (k : Int) < ps.length := by omega
    have i3 : (k : Int) + 1 - 1 = k := by omega
    have wi : IntKind.i64.wrap (k : Int) = k := by rw [IntKind.wrap_i64]; omega
    go_enter Try.func148, Try.ntmps148
    go_upto_region 2 with (first | (with_reducible refine alA M ?_; clear M; (try clear F); intro w1 M F) | ((with_reducible apply ev_store (M := M)); rfl; rfl; ((conv => lhs; whnf) <;> rfl); rfl; (first | exact siI | exact siR | exact siV | exact siB | exact siSI | exact siSV | exact siW | exact siSR | exact siSO | exact siO); (exact one_all rfl); (exact dl); (exact Nat.le_of_ble_eq_true rfl); clear M; intro w1 M; simp only [SX] at M; (try clear F); have F := fx M))
    have E := elemR (g := gr) (c := rC) M dl hk
    generalize ps[k] = p at h E
    obtain ⟨⟨rid, at_, slots, full, mail, state, due, links, watched, trap, ⟨wk, wn⟩, turns⟩, ⟨sA, sC, mA, mC, lA, lC, wA, wC⟩⟩ := p
    obtain ⟨E0, E1, E2, E3, E4, E5, E6, E7, E8, E9, E10, E11, E12⟩ := E
    simp only at h E4 E5
    have wj : IntKind.i64.wrap ((k : Int) + 1 - 1) = k := by rw [i3]; exact wi
    by_cases hs : state = 3
    · subst hs
      clear h
      go_upto_region 3 with (go_at_call 80; refine (HI.out _).mono ?_; rintro e w2 ⟨rfl, rfl⟩)
      go_wp2_with ((with_reducible apply ev_store (M := M)); rfl; rfl; ((conv => lhs; whnf) <;> rfl); rfl; (first | exact siI | exact siR | exact siV | exact siB | exact siSI | exact siSV | exact siW | exact siSR | exact siSO | exact siO); (exact one_all rfl); (exact dl); (exact Nat.le_of_ble_eq_true rfl); clear M; intro w1 M; simp only [SX] at M; (try clear F); have F := fx M)
      apply ret_cell (M := M); rfl; rfl; (exact dl); (first | exact agR | exact agV | exact agW | exact agO); (first | exact siI | exact siR | exact siV | exact siB | exact siSI | exact siSV | exact siW | exact siSR | exact siSO | exact siO); rfl
      exact HF.out _ _ rfl (M.sel sl)
    · have hs2 : (state == 3) = false := by simpa using hs
      have hm : 12 ≤ (mail.length : Int) := by
        rw [hs2] at h
        simp only [Bool.not_false, Bool.true_and, decide_eq_false_iff_not] at h
        omega
      clear h
      go_upto_region 3 with (go_at_call 80; refine (HI.out _).mono ?_; rintro e w2 ⟨rfl, rfl⟩)
      go_wp2_with ((with_reducible apply ev_store (M := M)); rfl; rfl; ((conv => lhs; whnf) <;> rfl); rfl; (first | exact siI | exact siR | exact siV | exact siB | exact siSI | exact siSV | exact siW | exact siSR | exact siSO | exact siO); (exact one_all rfl); (exact dl); (exact Nat.le_of_ble_eq_true rfl); clear M; intro w1 M; simp only [SX] at M; (try clear F); have F := fx M)
      apply ret_cell (M := M); rfl; rfl; (exact dl); (first | exact agR | exact agV | exact agW | exact agO); (first | exact siI | exact siR | exact siV | exact siB | exact siSI | exact siSV | exact siW | exact siSR | exact siSO | exact siO); rfl
      exact HF.out _ _ rfl (M.sel sl)
end Go.Proofs.Ytmidnaafljgbiaa
/- The reference's giving: who is there and has room. -/
namespace Go.Proofs.Ytmidnaafljgbiaa
open Go.RowKit
set_option maxRecDepth 100000

set_option maxHeartbeats 8000000 in
theorem sGive_in (W : Wm) (k : Nat) (v : Vl) {w0 w : World} {f : List Nat} {L L' : List Asn} (M : Mem w0 f w L) (hd : Del (wld W) L L') (hk : k < W.ps.length) (hn : W.ps.length ≤ 1000) (hq : W.queue.length ≤ 1000000)
    (hs : W.ps[k].1.state ≠ 3) (hm : W.ps[k].1.mail.length < 12) (ha : W.ps[k].1.state = 2 → 0 ≤ W.ps[k].1.at_ ∧ W.ps[k].1.at_ < W.code.length) :
    Calls Try.prog 148 #[.agg (wArr W), .int .i64 ((k : Int) + 1), .agg #[.int .i64 v.k, .int .i64 v.n]] w (GivePost W ((k : Int) + 1) v w0 f L') := by
  have AL := add_lit0
  have M1 := (M.pull hd).unpackW
  have HI := Lib.hid (fun V => sIn ((k : Int) + 1) 1 W.ps.length V)
  have q : inB ((k : Int) + 1) 1 W.ps.length = true := inB_iff.2 (by omega)
  rw [q] at HI
  have HV := Lib.hid (fun kind V => sFits v kind V)
  have w1 := wr_wrap (W.sent + 1)
  obtain ⟨gr, hgr⟩ := row_form M1 (.there .here) (by omega)
  have HG := Lib.hid (fun a => give_in (v := v) hk hs hm a)
  clear q hd M
  obtain ⟨code, cA, cC, ps, rA, rC, queue, qA, qC, now, sent, taken, lost⟩ := W
  simp only at *
  subst hgr
  have HE := Lib.hid (fun V (L L2 : List Asn) (M : Mem w0 f V L) (hd : Del (row encR 13 tR (some ⟨gr, 0, none⟩) rC ps) L L2) => elemR M hd hk)
  have M2 := ((M1.sel (T := rws ps :: rowO cA cC code :: rowR (some ⟨gr, 0, none⟩) rC ps :: rowI qA qC queue :: L') sl).rwsTake hk)
  clear M1
  have HR := Lib.hid (fun (U : World) (r' : Rn) (a' : RA) (L : List Asn) (M : Mem w0 f U (runA r' a' :: rws (ps.take k ++ ps.drop (k + 1)) :: L)) => M.rwsPut hk)
  generalize ps.take k ++ ps.drop (k + 1) = rest at M2 HR
  obtain ⟨p, hp⟩ : ∃ p, p = ps[k] := ⟨_, rfl⟩
  rw [← hp] at HE M2 HG hs hm ha
  clear hp
  obtain ⟨⟨rid, at_, slots, full, mail, state, due, links, watched, trap, ⟨wk, wn⟩, turns⟩, ⟨sA, sC, mA, mC, lA, lC, wA, wC⟩⟩ := p
  simp only at HE HG hs hm ha
  have M3 : Mem w0 f w (rowV sA sC slots :: row encV 2 tV mA mC mail :: rowI lA lC links :: rowI wA wC watched :: rws rest :: row encO 6 tO cA cC code :: row encR 13 tR (some ⟨gr, 0, none⟩) rC ps :: row encI 1 tI qA qC queue :: L') := M2.unpackRun
  clear M2
  have M := M3
  clear M3
  have HF : Hid (∀ (U : World) (e : Ending) (st : Int) (q' : List Int) (A1 : Option Addr) (c1 : Nat) (A2 : Option Addr) (c2 : Nat), st = (if state == 2 && fits v (opAt code at_).s then 1 else state) → q' = (if state == 2 && fits v (opAt code at_).s then queue ++ [(k : Int) + 1] else queue) →
      e = .returned (.agg #[.slice cA code.length cC, .slice (some ⟨gr, 0, none⟩) ps.length rC, .slice A2 q'.length c2, .int .i64 now, .int .i64 (wr (sent + 1)), .int .i64 taken, .int .i64 lost]) →
      Mem w0 f U (rowV sA sC slots :: row encV 2 tV A1 c1 (mail ++ [v]) :: rowI lA lC links :: rowI wA wC watched :: rws rest :: row encO 6 tO cA cC code :: row encR 13 tR (some ⟨gr, 0, none⟩) rC (ps.set k (⟨rid, at_, slots, full, mail ++ [v], st, due, links, watched, trap, ⟨wk, wn⟩, turns⟩, ⟨sA, sC, A1, c1, lA, lC, wA, wC⟩)) :: row encI 1 tI A2 c2 q' :: L') →
      GivePost ⟨code, cA, cC, ps, some ⟨gr, 0, none⟩, rC, queue, qA, qC, now, sent, taken, lost⟩ ((k : Int) + 1) v w0 f L' e U) := by
    intro U e st q' A1 c1 A2 c2 hst hq' he M0
    have M : Mem w0 f U (rowV sA sC slots :: rowV A1 c1 (mail ++ [v]) :: rowI lA lC links :: rowI wA wC watched :: rws rest :: rowO cA cC code :: rowR (some ⟨gr, 0, none⟩) rC (ps.set k (⟨rid, at_, slots, full, mail ++ [v], st, due, links, watched, trap, ⟨wk, wn⟩, turns⟩, ⟨sA, sC, A1, c1, lA, lC, wA, wC⟩)) :: rowI A2 c2 q' :: L') := M0
    have M1 := HR.out U ⟨rid, at_, slots, full, mail ++ [v], st, due, links, watched, trap, ⟨wk, wn⟩, turns⟩ ⟨sA, sC, A1, c1, lA, lC, wA, wC⟩ _ (Mem.packRun (r := ⟨rid, at_, slots, full, mail ++ [v], st, due, links, watched, trap, ⟨wk, wn⟩, turns⟩) (a := ⟨sA, sC, A1, c1, lA, lC, wA, wC⟩) M)
    refine ⟨⟨code, cA, cC, ps.set k (⟨rid, at_, slots, full, mail ++ [v], st, due, links, watched, trap, ⟨wk, wn⟩, turns⟩, ⟨sA, sC, A1, c1, lA, lC, wA, wC⟩), some ⟨gr, 0, none⟩, rC, q', A2, c2, now, wr (sent + 1), taken, lost⟩, ?_, ?_, Mem.packW (W := ⟨code, cA, cC, ps.set k (⟨rid, at_, slots, full, mail ++ [v], st, due, links, watched, trap, ⟨wk, wn⟩, turns⟩, ⟨sA, sC, A1, c1, lA, lC, wA, wC⟩), some ⟨gr, 0, none⟩, rC, q', A2, c2, now, wr (sent + 1), taken, lost⟩) (M1.sel sl)⟩
    · rw [HG.out ⟨sA, sC, A1, c1, lA, lC, wA, wC⟩, hst, hq']
      rfl
    · rw [he]
      simp only [wArr, List.length_set]
  clear HG HR
  generalize wr (sent + 1) = s1x at w1 HF
  obtain ⟨vk, vn⟩ := v
  simp only at HV
  have hk2 : k < ps.length := hk
  have i1 : (0 : Int) ≤ k := by omega
  have i2 : (k : Int) < ps.length := by omega
  have wi : IntKind.i64.wrap (k : Int) = k := by rw [IntKind.wrap_i64]; omega
  have wj : IntKind.i64.wrap ((k : Int) + 1 - 1) = k := by rw [IntKind.wrap_i64]; omega
  have hm2 : ¬ (12 ≤ (mail.length : Int)) := by omega
  have hs2 : (state == 3) = false := by simpa using hs
  go_enter Try.func148, Try.ntmps148
  go_upto_region 2 with (first | (with_reducible refine alA M ?_; clear M; (try clear F); intro w1 M F) | ((with_reducible apply ev_store (M := M)); rfl; rfl; ((conv => lhs; whnf) <;> rfl); rfl; (first | exact siI | exact siR | exact siV | exact siB | exact siSI | exact siSV | exact siW | exact siSR | exact siSO | exact siO); (exact one_all rfl); (exact dl); (exact Nat.le_of_ble_eq_true rfl); clear M; intro w1 M; simp only [SX] at M; (try clear F); have F := fx M))
  obtain ⟨E0, E1, E2, E3, E4, E5, E6, E7, E8, E9, E10, E11, E12⟩ := HE.out _ _ _ M dl
  simp only at E0 E1 E2 E3 E4 E5 E6 E7 E8 E9 E10 E11 E12
  go_upto_region 5 with (go_at_call 80; refine (HI.out _).mono ?_; rintro e w2 ⟨rfl, rfl⟩)
  go_upto_region 6 with (first | (with_reducible refine alA M ?_; clear M; (try clear F); intro w1 M F) | ((with_reducible apply ev_store (M := M)); rfl; rfl; ((conv => lhs; whnf) <;> rfl); rfl; (first | exact siI | exact siR | exact siV | exact siB | exact siSI | exact siSV | exact siW | exact siSR | exact siSO | exact siO); (exact one_all rfl); (exact dl); (exact Nat.le_of_ble_eq_true rfl); clear M; intro w1 M; simp only [SX] at M; (try clear F); have F := fx M))
  clear E0 E1 E2 E3 E4 E5 E6 E7 E8 E9 E10 E11 E12
  go_upto_region 7 with (first
    | (with_reducible refine alA M ?_; clear M; (try clear F); intro w1 M F) | ((with_reducible apply ev_store (M := M)); rfl; rfl; ((conv => lhs; whnf) <;> rfl); rfl; (first | exact siI | exact siR | exact siV | exact siB | exact siSI | exact siSV | exact siW | exact siSR | exact siSO | exact siO); (exact one_all rfl); (exact dl); (exact Nat.le_of_ble_eq_true rfl); clear M; intro w1 M; simp only [SX] at M; (try clear F); have F := fx M)
    | ((with_reducible apply ev_app1 (enc := encV) (v := (⟨vk, vn⟩ : Vl)) (hk := encV_length) (hone := oneV) (h0 := by decide) (hinfo := infVx) (ht := Try.underlying29) (M := M)); rfl; rfl; (exact dl); (exact dl); rfl; rfl; omega; (exact Nat.le_of_ble_eq_true rfl); clear M; intro A3 c3 w1 M; (try clear F); have F := fx M))
  by_cases hst : state = 2
  · subst hst
    obtain ⟨a0, a1⟩ := ha rfl
    obtain ⟨j, rfl⟩ : ∃ j : Nat, at_ = j := ⟨at_.toNat, by omega⟩
    have hj : j < code.length := by omega
    obtain ⟨ad, rfl, _, hc0, hc1, hc2, hc3, hc4, hc5⟩ := (row_reads (enc := encO) (m := 6) (t := tO) (A := cA) (c := cC) (xs := code) M dl).1.op hj
    have hof : opAt code (j : Int) = code[j] := by simp [opAt, List.getD_eq_getElem?_getD, hj]
    rw [hof] at HF
    generalize code[j] = o at hc0 hc1 hc2 hc3 hc4 hc5 HF
    obtain ⟨xk, xr, xs, xt, ⟨xvk, xvn⟩⟩ := o
    have HV := Lib.hid (HV.out xs)
    simp only at HF hc0 hc1 hc2 hc3 hc4 hc5
    have j1 : (0 : Int) ≤ j := by omega
    have HS : Hid (∀ (V : World) (g7 gx g3 g6 gv : Nat), Mem w0 f V (blk g7 tR [.int .i64 rid, .int .i64 j, .slice sA slots.length sC, .int .i64 full, .slice A3 (mail.length + 1) c3, .int .i64 2, .int .i64 due, .slice lA links.length lC, .slice wA watched.length wC, .bool trap, .int .i64 wk, .int .i64 wn, .int .i64 turns] ::
      row encV 2 tV A3 c3 (mail ++ [⟨vk, vn⟩]) :: blk gx tV [.int .i64 vk, .int .i64 vn] :: blk g3 tW [.slice (some ad) code.length cC, .slice (some ⟨gr, 0, none⟩) ps.length rC, .slice qA queue.length qC, .int .i64 now, .int .i64 s1x, .int .i64 taken, .int .i64 lost] :: blk g6 tW [.slice none 0 0, .slice none 0 0, .slice none 0 0, .int .i64 0, .int .i64 0, .int .i64 0, .int .i64 0] :: blk gv tV [.int .i64 vk, .int .i64 vn] ::
      rowV sA sC slots :: rowI lA lC links :: rowI wA wC watched :: rws rest :: row encO 6 tO (some ad) cC code :: row encR 13 tR (some ⟨gr, 0, none⟩) rC ps :: row encI 1 tI qA qC queue :: L') → Mem w0 f V (blk g3 tW [.slice (some ad) code.length cC, .slice (some ⟨gr, 0, none⟩) ps.length rC, .slice qA queue.length qC, .int .i64 now, .int .i64 s1x, .int .i64 taken, .int .i64 lost] :: blk g6 tW [.slice none 0 0, .slice none 0 0, .slice none 0 0, .int .i64 0, .int .i64 0, .int .i64 0, .int .i64 0] ::
          blk g7 tR [.int .i64 rid, .int .i64 j, .slice sA slots.length sC, .int .i64 full, .slice A3 (mail.length + 1) c3, .int .i64 2, .int .i64 due, .slice lA links.length lC, .slice wA watched.length wC, .bool trap, .int .i64 wk, .int .i64 wn, .int .i64 turns] ::
          rowV sA sC slots :: row encV 2 tV A3 c3 (mail ++ [⟨vk, vn⟩]) :: rowI lA lC links :: rowI wA wC watched :: rws rest :: row encO 6 tO (some ad) cC code :: row encR 13 tR (some ⟨gr, 0, none⟩) rC ps :: row encI 1 tI qA qC queue :: L')) := fun V g7 gx g3 g6 gv M => M.sel sl
    have hb2 : ((2 : Int) == 2) = true := rfl
    rw [hb2] at HF
    simp only [Bool.true_and] at HF
    generalize fits ⟨vk, vn⟩ xs = b at HV HF
    go_cut [1, 3, 6, 7, 69] from 8 (fun s1 s3 s6 s7 s69 wx => ∃ g3 g6 g7 : Nat, s1 = .int .i64 ((k : Int) + 1) ∧ s3 = .pointer (some ⟨g3, 0, none⟩) ∧ s6 = .pointer (some ⟨g6, 0, none⟩) ∧ s7 = .pointer (some ⟨g7, 0, none⟩) ∧ s69 = .bool b ∧
      Mem w0 f wx (blk g3 tW [.slice (some ad) code.length cC, .slice (some ⟨gr, 0, none⟩) ps.length rC, .slice qA queue.length qC, .int .i64 now, .int .i64 s1x, .int .i64 taken, .int .i64 lost] :: blk g6 tW [.slice none 0 0, .slice none 0 0, .slice none 0 0, .int .i64 0, .int .i64 0, .int .i64 0, .int .i64 0] ::
        blk g7 tR [.int .i64 rid, .int .i64 j, .slice sA slots.length sC, .int .i64 full, .slice A3 (mail.length + 1) c3, .int .i64 2, .int .i64 due, .slice lA links.length lC, .slice wA watched.length wC, .bool trap, .int .i64 wk, .int .i64 wn, .int .i64 turns] ::
        rowV sA sC slots :: row encV 2 tV A3 c3 (mail ++ [⟨vk, vn⟩]) :: rowI lA lC links :: rowI wA wC watched :: rws rest :: row encO 6 tO (some ad) cC code :: row encR 13 tR (some ⟨gr, 0, none⟩) rC ps :: row encI 1 tI qA qC queue :: L'))
    case first =>
      go_region_with (go_at_call 109; (refine nmK ?_; clear M; (try clear F); intro w1 M F); refine (HV.out _).mono ?_; rintro e w2 ⟨rfl, hb⟩; replace M := M.below hb; clear hb; (try clear F); have F := fx M)
      all_goals go_wp2
      all_goals ((refine nm (G := fun W => Met _ _ W) ?_; clear M; (try clear F); intro w1 M F); go_meet; case rel => exact ⟨_, _, _, rfl, rfl, rfl, rfl, rfl, HS.out _ _ _ _ _ _ M⟩)
    case rest =>
      clear HS
      obtain ⟨g3, g6, g7, rfl, rfl, rfl, rfl, rfl, M⟩ := hcut
      cases b with
      | true =>
        simp only [if_true] at HF
        (try clear F); have F := fx M
        go_wp2_with (first | (with_reducible refine alA M ?_; clear M; (try clear F); intro w1 M F) | ((with_reducible apply ev_store (M := M)); rfl; rfl; ((conv => lhs; whnf) <;> rfl); rfl; (first | exact siI | exact siR | exact siV | exact siB | exact siSI | exact siSV | exact siW | exact siSR | exact siSO | exact siO); (exact one_all rfl); (exact dl); (exact Nat.le_of_ble_eq_true rfl); clear M; intro w1 M; simp only [SX] at M; (try clear F); have F := fx M) | ((with_reducible apply ev_app1 (enc := encI) (v := (k : Int) + 1) (hk := encI_length) (hone := oneIx) (h0 := by decide) (hinfo := infIx) (ht := Try.underlying23) (M := M)); rfl; rfl; (exact dl); (exact dl); rfl; rfl; (first | exact Nat.le_of_ble_eq_true rfl | omega); (exact Nat.le_of_ble_eq_true rfl); clear M; intro A1 c1 w1 M; replace M := Mem.perm M (.swap _ _ _) |> Mem.drop; (try clear F); have F := fx M) | ((with_reducible apply ev_put_row (x' := ((⟨rid, (j : Int), slots, full, mail ++ [⟨vk, vn⟩], 1, due, links, watched, trap, ⟨wk, wn⟩, turns⟩, ⟨sA, sC, A3, c3, lA, lC, wA, wC⟩) : Rn × RA)) (hk := encR_length) (hone := oneR) (M := M)); rfl; rfl; ((conv => lhs; whnf) <;> rfl); (simp only [encR, List.length_append, List.length_singleton]; rfl); exact siR; (exact dl); rfl; exact hk2; clear M; intro w1 M; (try clear F); have F := fx M))
        apply ret_cell (M := M); rfl; rfl; (exact dl); (first | exact agR | exact agV | exact agW | exact agO); (first | exact siI | exact siR | exact siV | exact siB | exact siSI | exact siSV | exact siW | exact siSR | exact siSO | exact siO); rfl
        exact HF.out _ _ 1 (queue ++ [(k : Int) + 1]) A3 c3 A1 c1 rfl rfl (by rw [List.length_append]; rfl) (M.sel sl)
      | false =>
        simp only [Bool.false_eq_true, if_false] at HF
        (try clear F); have F := fx M
        go_wp2_with (first | (with_reducible refine alA M ?_; clear M; (try clear F); intro w1 M F) | ((with_reducible apply ev_store (M := M)); rfl; rfl; ((conv => lhs; whnf) <;> rfl); rfl; (first | exact siI | exact siR | exact siV | exact siB | exact siSI | exact siSV | exact siW | exact siSR | exact siSO | exact siO); (exact one_all rfl); (exact dl); (exact Nat.le_of_ble_eq_true rfl); clear M; intro w1 M; simp only [SX] at M; (try clear F); have F := fx M) | ((with_reducible apply ev_put_row (x' := ((⟨rid, (j : Int), slots, full, mail ++ [⟨vk, vn⟩], 2, due, links, watched, trap, ⟨wk, wn⟩, turns⟩, ⟨sA, sC, A3, c3, lA, lC, wA, wC⟩) : Rn × RA)) (hk := encR_length) (hone := oneR) (M := M)); rfl; rfl; ((conv => lhs; whnf) <;> rfl); (simp only [encR, List.length_append, List.length_singleton]; rfl); exact siR; (exact dl); rfl; exact hk2; clear M; intro w1 M; (try clear F); have F := fx M))
        apply ret_cell (M := M); rfl; rfl; (exact dl); (first | exact agR | exact agV | exact agW | exact agO); (first | exact siI | exact siR | exact siV | exact siB | exact siSI | exact siSV | exact siW | exact siSR | exact siSO | exact siO); rfl
        exact HF.out _ _ 2 queue A3 c3 _ _ rfl rfl rfl (M.sel sl)
  · have hst2 : (state == 2) = false := by simpa using hst
    rw [hst2] at HF
    simp only [Bool.false_and, Bool.false_eq_true, if_false] at HF
    go_cut [1, 3, 6, 7, 69] from 8 (fun s1 s3 s6 s7 s69 wx => ∃ g3 g6 g7 : Nat, s1 = .int .i64 ((k : Int) + 1) ∧ s3 = .pointer (some ⟨g3, 0, none⟩) ∧ s6 = .pointer (some ⟨g6, 0, none⟩) ∧ s7 = .pointer (some ⟨g7, 0, none⟩) ∧ s69 = .bool false ∧
      Mem w0 f wx (blk g3 tW [.slice cA code.length cC, .slice (some ⟨gr, 0, none⟩) ps.length rC, .slice qA queue.length qC, .int .i64 now, .int .i64 s1x, .int .i64 taken, .int .i64 lost] :: blk g6 tW [.slice none 0 0, .slice none 0 0, .slice none 0 0, .int .i64 0, .int .i64 0, .int .i64 0, .int .i64 0] ::
        blk g7 tR [.int .i64 rid, .int .i64 at_, .slice sA slots.length sC, .int .i64 full, .slice A3 (mail.length + 1) c3, .int .i64 state, .int .i64 due, .slice lA links.length lC, .slice wA watched.length wC, .bool trap, .int .i64 wk, .int .i64 wn, .int .i64 turns] ::
        rowV sA sC slots :: row encV 2 tV A3 c3 (mail ++ [⟨vk, vn⟩]) :: rowI lA lC links :: rowI wA wC watched :: rws rest :: row encO 6 tO cA cC code :: row encR 13 tR (some ⟨gr, 0, none⟩) rC ps :: row encI 1 tI qA qC queue :: L'))
    case first =>
      go_quiet (fail)
      go_wp2
      (refine nm (G := fun W => Met _ _ W) ?_; clear M; (try clear F); intro w1 M F)
      go_meet
      case rel => exact ⟨_, _, _, rfl, rfl, rfl, rfl, rfl, M.sel sl⟩
    case rest =>
      obtain ⟨g3, g6, g7, rfl, rfl, rfl, rfl, rfl, M⟩ := hcut
      (try clear F); have F := fx M
      go_wp2_with (first | ((with_reducible apply ev_store (M := M)); rfl; rfl; ((conv => lhs; whnf) <;> rfl); rfl; (first | exact siI | exact siR | exact siV | exact siB | exact siSI | exact siSV | exact siW | exact siSR | exact siSO | exact siO); (exact one_all rfl); (exact dl); (exact Nat.le_of_ble_eq_true rfl); clear M; intro w1 M; simp only [SX] at M; (try clear F); have F := fx M) | ((with_reducible apply ev_put_row (x' := ((⟨rid, at_, slots, full, mail ++ [⟨vk, vn⟩], state, due, links, watched, trap, ⟨wk, wn⟩, turns⟩, ⟨sA, sC, A3, c3, lA, lC, wA, wC⟩) : Rn × RA)) (hk := encR_length) (hone := oneR) (M := M)); rfl; rfl; ((conv => lhs; whnf) <;> rfl); (simp only [encR, List.length_append, List.length_singleton]; rfl); exact siR; (exact dl); rfl; exact hk2; clear M; intro w1 M; (try clear F); have F := fx M))
      apply ret_cell (M := M); rfl; rfl; (exact dl); (first | exact agR | exact agV | exact agW | exact agO); (first | exact siI | exact siR | exact siV | exact siB | exact siSI | exact siSV | exact siW | exact siSR | exact siSO | exact siO); rfl
      exact HF.out _ _ state queue A3 c3 _ _ rfl rfl rfl (M.sel sl)
end Go.Proofs.Ytmidnaafljgbiaa
/- The reference's giving, whole. -/
namespace Go.Proofs.Ytmidnaafljgbiaa
open Go.RowKit

theorem sGive (W : Wm) (id : Int) (v : Vl) {w0 w : World} {f : List Nat} {L L' : List Asn} (M : Mem w0 f w L) (hd : Del (wld W) L L') (hn : W.ps.length ≤ 1000) (hq : W.queue.length ≤ 1000000)
    (ha : aliveIn W.wd.runs id = true → (getR W.wd.runs id).state = 2 → 0 ≤ (getR W.wd.runs id).at_ ∧ (getR W.wd.runs id).at_ < W.code.length) :
    Calls Try.prog 148 #[.agg (wArr W), .int .i64 id, .agg #[.int .i64 v.k, .int .i64 v.n]] w (GivePost W id v w0 f L') := by
  cases h : (aliveIn W.wd.runs id && decide ((getR W.wd.runs id).mail.length < 12)) with
  | false => exact sGive_out W id v M hd hn h
  | true =>
    obtain ⟨h1, h2⟩ := Bool.and_eq_true_iff.1 h
    have h3 := aliveIn_iff.1 h1
    rw [runsLen] at h3
    obtain ⟨k, hk⟩ : ∃ k : Nat, id = (k : Int) + 1 := ⟨(id - 1).toNat, by omega⟩
    subst hk
    have hk : k < W.ps.length := by omega
    have hg := getR_ps hk
    rw [hg] at h2 h3
    have ha := ha h1
    rw [hg] at ha
    exact sGive_in W k v M hd hk hn hq h3.2 (by simpa using h2) ha
end Go.Proofs.Ytmidnaafljgbiaa
