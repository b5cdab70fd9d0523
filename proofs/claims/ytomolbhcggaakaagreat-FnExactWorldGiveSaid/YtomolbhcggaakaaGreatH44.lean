/- Parts of the proof, in one text. -/
import Derived.Deep.Cut
import Derived.Test.YtomolbhcggaakaaGreatH41
import Derived.Test.YtomolbhcggaakaaGreatH42
import Derived.Test.YtomolbhcggaakaaGreatH43
import Derived.Test.YtomolbhcggaakaaGreatH16
/- The program gives a run a value: who is not there, did end, or has no room; who has room. -/
namespace Go.Proofs.YtomolbhcggaakaaGreat
open Go.RowKit
set_option maxRecDepth 100000

def IGPost (W : Wm) (id : Int) (v : Vl) (g : Nat) (w0 : World) (f : List Nat) (L : List Asn) (e : Ending) (w' : World) : Prop := ∃ V : Wm, V.wd = give W.wd id v ∧ e = .returned (.tuple #[]) ∧ Mem w0 f w' (blk g tW (w7 V) :: wld V :: L)
set_option maxHeartbeats 4000000 in
theorem iGive_out (W : Wm) (id : Int) (v : Vl) (g : Nat) {w0 w : World} {f : List Nat} {L : List Asn} (M : Mem w0 f w (blk g tW (w7 W) :: wld W :: L)) (h0 : 1 ≤ W.ps.length) (hn : W.ps.length ≤ 1000) (hm : ∀ k (hk : k < W.ps.length), W.ps[k].1.mail.length ≤ 12)
    (h : (aliveIn W.wd.runs id && decide ((getR W.wd.runs id).mail.length < 12)) = false) :
    Calls Tryz.prog 69 #[.pointer (some ⟨g, 0, none⟩), .int .i64 id, .agg #[.int .i64 v.k, .int .i64 v.n]] w (IGPost W id v g w0 f L) := by
  have AL := add_lit0
  replace M := (M.perm (.swap _ _ _)).unpackW
  obtain ⟨gr, hgr⟩ := row_form M (.there .here) (by omega)
  have HF : Hid (∀ (U : World) (e : Ending), e = .returned (.tuple #[]) → Mem w0 f U (rowO W.cA W.cC W.code :: rowR W.rA W.rC W.ps :: rowI W.qA W.qC W.queue :: rws W.ps :: blk g tW (w7 { W with sent := wr (W.sent + 1), lost := wr (W.lost + 1) }) :: L) → IGPost W id v g w0 f L e U) :=
    fun U e he M => ⟨{ W with sent := wr (W.sent + 1), lost := wr (W.lost + 1) }, (give_out h).symm, he, (M.packW (W := { W with sent := wr (W.sent + 1), lost := wr (W.lost + 1) })).perm (.swap _ _ _)⟩
  have HA := Lib.hid (fun (V : World) (L1 L2 L3 : List Asn) (M : Mem w0 f V L1) (hd : Del (blk g tW (w7 { W with sent := wr (W.sent + 1) })) L1 L2) (hd2 : Del (rowR (some ⟨gr, 0, none⟩) W.rC W.ps) L1 L3) => iAlive { W with sent := wr (W.sent + 1) } g gr id hn hgr V (BoxW.of M hd) (fun k hk => elemR M hd2 hk))
  have w1 := wr_wrap (W.sent + 1)
  have w2 := wr_wrap (W.lost + 1)
  obtain ⟨vk, vn⟩ := v
  cases q : aliveIn W.wd.runs id with
  | false =>
    have e1 : aliveP { W with sent := wr (W.sent + 1) } gr id = none := by
      unfold aliveP
      rw [show aliveIn ({ W with sent := wr (W.sent + 1) } : Wm).wd.runs id = false from q]
      rfl
    rw [e1] at HA
    clear h q e1 hm
    obtain ⟨code, cA, cC, ps, rA, rC, queue, qA, qC, now, sent, taken, lost⟩ := W
    simp only [w7] at *
    subst hgr
    generalize wr (sent + 1) = s1 at w1 HF HA
    generalize wr (lost + 1) = l1 at w2 HF
    (try clear F); have F := fx M
    go_enter Tryz.func69, Tryz.ntmps69
    go_wp2_with (first | (with_reducible refine alA M ?_; clear M; (try clear F); intro w1 M F) | ((with_reducible apply ev_store (M := M)); rfl; rfl; ((conv => lhs; whnf) <;> rfl); rfl; (first | exact siI | exact siR | exact siV | exact siB | exact siSI | exact siSV | exact siW | exact siSR | exact siSO | exact siO); (exact one_all rfl); (exact dl); (exact Nat.le_of_ble_eq_true rfl); clear M; intro w1 M; simp only [SX] at M; (try clear F); have F := fx M) | (go_at_call 75; refine (HA.out _ _ _ _ M dl dl).mono ?_; rintro e w2 ⟨rfl, rfl⟩))
    (first | refine bodyPost_end (results_none rfl _ _ _) rfl ?_ | refine bodyPost_ret (results_none rfl _ _ _) rfl ?_)
    exact HF.out _ _ rfl (M.sel sl)
  | true =>
    have q2 := aliveIn_iff.1 q
    rw [runsLen] at q2
    obtain ⟨k, hk⟩ : ∃ k : Nat, id = (k : Int) + 1 := ⟨(id - 1).toNat, by omega⟩
    subst hk
    have hk : k < W.ps.length := by omega
    have e2 : ((k : Int) + 1 - 1).toNat = k := by omega
    have e1 : aliveP { W with sent := wr (W.sent + 1) } gr ((k : Int) + 1) = some ⟨gr, k * 13, none⟩ := by
      unfold aliveP
      rw [show aliveIn ({ W with sent := wr (W.sent + 1) } : Wm).wd.runs ((k : Int) + 1) = true from q, e2]
      rfl
    rw [e1] at HA
    rw [q, getR_ps hk, Bool.true_and] at h
    have hm2 : W.ps[k].1.mail.length = 12 := by
      have := hm k hk
      have := of_decide_eq_false h
      omega
    have HE := Lib.hid (fun V (L L2 : List Asn) (M : Mem w0 f V L) (hd : Del (rowR (some ⟨gr, 0, none⟩) W.rC W.ps) L L2) => elemR M hd hk)
    generalize W.ps[k] = p at HE hm2
    obtain ⟨r, a⟩ := p
    clear h q q2 e1 hm e2
    obtain ⟨code, cA, cC, ps, rA, rC, queue, qA, qC, now, sent, taken, lost⟩ := W
    simp only [w7] at *
    subst hgr
    generalize wr (sent + 1) = s1 at w1 HF HA
    generalize wr (lost + 1) = l1 at w2 HF
    (try clear F); have F := fx M
    go_enter Tryz.func69, Tryz.ntmps69
    go_upto_region 3 with (first | (with_reducible refine alA M ?_; clear M; (try clear F); intro w1 M F) | ((with_reducible apply ev_store (M := M)); rfl; rfl; ((conv => lhs; whnf) <;> rfl); rfl; (first | exact siI | exact siR | exact siV | exact siB | exact siSI | exact siSV | exact siW | exact siSR | exact siSO | exact siO); (exact one_all rfl); (exact dl); (exact Nat.le_of_ble_eq_true rfl); clear M; intro w1 M; simp only [SX] at M; (try clear F); have F := fx M) | (go_at_call 75; refine (HA.out _ _ _ _ M dl dl).mono ?_; rintro e w2 ⟨rfl, rfl⟩))
    obtain ⟨E0, E1, E2, E3, E4, E5, E6, E7, E8, E9, E10, E11, E12⟩ := HE.out _ _ _ M dl
    rw [hm2] at E4
    clear E0 E1 E2 E3 E5 E6 E7 E8 E9 E10 E11 E12
    go_wp2_with ((with_reducible apply ev_store (M := M)); rfl; rfl; ((conv => lhs; whnf) <;> rfl); rfl; (first | exact siI | exact siR | exact siV | exact siB | exact siSI | exact siSV | exact siW | exact siSR | exact siSO | exact siO); (exact one_all rfl); (exact dl); (exact Nat.le_of_ble_eq_true rfl); clear M; intro w1 M; simp only [SX] at M; (try clear F); have F := fx M)
    (first | refine bodyPost_end (results_none rfl _ _ _) rfl ?_ | refine bodyPost_ret (results_none rfl _ _ _) rfl ?_)
    exact HF.out _ _ rfl (M.sel sl)
end Go.Proofs.YtomolbhcggaakaaGreat
/- The program gives a run a value: who is there and has room. -/
namespace Go.Proofs.YtomolbhcggaakaaGreat
open Go.RowKit
set_option maxRecDepth 100000

theorem setR4 (id at_ : Int) (slots : List Vl) (full : Int) (mail : List Vl) (state due : Int) (links watched : List Int) (trap : Bool) (wk wn turns : Int) (sA : Option Addr) (sC : Nat) (mA : Option Addr) (mC : Nat) (lA : Option Addr) (lC : Nat) (wA : Option Addr) (wC : Nat) (m' : List Vl) (A' : Option Addr) (c' n : Nat) (h : m'.length = n) :
    encR (⟨id, at_, slots, full, m', state, due, links, watched, trap, ⟨wk, wn⟩, turns⟩, ⟨sA, sC, A', c', lA, lC, wA, wC⟩) = (encR (⟨id, at_, slots, full, mail, state, due, links, watched, trap, ⟨wk, wn⟩, turns⟩, ⟨sA, sC, mA, mC, lA, lC, wA, wC⟩)).set 4 (.slice A' n c') := by subst h; rfl
theorem heads_g {w0 w : World} {f : List Nat} {L L' : List Asn} {g c k : Nat} {pre post : List (Rn × RA)} {r : Rn} {a : RA} (M : Mem w0 f w L) (hd : Del (row encR 13 tR (some ⟨g, 0, none⟩) c (pre ++ (r, a) :: post)) L L') (hp : pre.length = k) :
    w.cell? ⟨g, k * 13, none⟩ = some (.int .i64 r.id) ∧ w.cell? ⟨g, k * 13 + 1, none⟩ = some (.int .i64 r.at_) ∧ w.cell? ⟨g, k * 13 + 4, none⟩ = some (.slice a.mA r.mail.length a.mC) ∧ w.cell? ⟨g, k * 13 + 5, none⟩ = some (.int .i64 r.state) := by
  have h := row_mid encR_length M hd hp
  exact ⟨h 0 (by decide), h 1 (by decide), h 4 (by decide), h 5 (by decide)⟩
theorem op_s {w0 w : World} {f : List Nat} {L L' : List Asn} {ad : Addr} {c : Nat} {xs : List Opx} (M : Mem w0 f w L) (hd : Del (row encO 6 tO (some ad) c xs) L L') {j : Nat} (hj : j < xs.length) : w.cell? ⟨(ad.add (j * 6)).block, (ad.add (j * 6)).off + 2, none⟩ = some (.int .i64 xs[j].s) := by
  obtain ⟨ad', e, _, _, _, h, _⟩ := (row_reads M hd).1.op hj
  injection e with e
  subst e
  exact h
set_option maxHeartbeats 8000000 in
theorem iGive_in (W : Wm) (k : Nat) (v : Vl) (g : Nat) {w0 w : World} {f : List Nat} {L : List Asn} (M : Mem w0 f w (blk g tW (w7 W) :: wld W :: L)) (hk : k < W.ps.length) (hn : W.ps.length ≤ 1000) (hq : W.queue.length ≤ 1000000)
    (hs : W.ps[k].1.state ≠ 3) (hm : W.ps[k].1.mail.length < 12) (ha : W.ps[k].1.state = 2 → 0 ≤ W.ps[k].1.at_ ∧ W.ps[k].1.at_ < W.code.length) (hid : W.ps[k].1.id = (k : Int) + 1) (hv : valOk v = true) :
    Calls Tryz.prog 69 #[.pointer (some ⟨g, 0, none⟩), .int .i64 ((k : Int) + 1), .agg #[.int .i64 v.k, .int .i64 v.n]] w (IGPost W ((k : Int) + 1) v g w0 f L) := by
  have AL := add_lit0
  replace M := (M.perm (.swap _ _ _)).unpackW
  obtain ⟨gr, hgr⟩ := row_form M (.there .here) (by omega)
  have hal : aliveP { W with sent := wr (W.sent + 1) } gr ((k : Int) + 1) = some ⟨gr, k * 13, none⟩ := by
    unfold aliveP
    have ha0 : aliveIn W.wd.runs ((k : Int) + 1) = true := aliveIn_iff.2 ⟨by rw [runsLen]; omega, by rw [getR_ps hk]; exact hs⟩
    rw [show aliveIn ({ W with sent := wr (W.sent + 1) } : Wm).wd.runs ((k : Int) + 1) = true from ha0]
    rw [show ((k : Int) + 1 - 1).toNat = k by omega]
    rfl
  have HA := Lib.hid (fun (V : World) (L1 L2 L3 : List Asn) (M : Mem w0 f V L1) (hd : Del (blk g tW (w7 { W with sent := wr (W.sent + 1) })) L1 L2) (hd2 : Del (row encR 13 tR (some ⟨gr, 0, none⟩) W.rC W.ps) L1 L3) => iAlive { W with sent := wr (W.sent + 1) } g gr ((k : Int) + 1) hn hgr V (BoxW.of M hd) (fun k hk => elemR M hd2 hk))
  rw [hal] at HA
  clear hal
  have HV : Hid (∀ kind V, Calls Tryz.prog 112 #[.agg #[.int .i64 v.k, .int .i64 v.n], .int .i64 kind] V fun e w' => e = .returned (.bool (fits v kind)) ∧ Below V.heap.size V w') := fun kind V => by
    have h := iFits v kind V
    unfold fitsOk at h
    rwa [hv, Bool.true_and] at h
  have w1 := wr_wrap (W.sent + 1)
  have HG := Lib.hid (fun a => give_in (v := v) hk hs hm a)
  clear hv
  obtain ⟨code, cA, cC, ps, rA, rC, queue, qA, qC, now, sent, taken, lost⟩ := W
  simp only [w7] at *
  subst hgr
  obtain ⟨pre, post, p, hps, hpl, hp⟩ := mid_split hk
  rw [← hp] at HG hs hm ha hid
  clear hp hk
  subst hps
  obtain ⟨⟨rid, at_, slots, full, mail, state, due, links, watched, trap, ⟨wk, wn⟩, turns⟩, ⟨sA, sC, mA, mC, lA, lC, wA, wC⟩⟩ := p
  simp only at HG hs hm ha hid
  obtain ⟨nn, hnn⟩ : ∃ nn, ∀ x : Rn × RA, (pre ++ x :: post).length = nn := ⟨pre.length + (post.length + 1), fun x => by rw [List.length_append, List.length_cons]⟩
  rw [hnn] at M HA
  have M1 : Mem w0 f w (rws (pre ++ (⟨rid, at_, slots, full, mail, state, due, links, watched, trap, ⟨wk, wn⟩, turns⟩, ⟨sA, sC, mA, mC, lA, lC, wA, wC⟩) :: post) :: rowO cA cC code :: rowR (some ⟨gr, 0, none⟩) rC (pre ++ (⟨rid, at_, slots, full, mail, state, due, links, watched, trap, ⟨wk, wn⟩, turns⟩, ⟨sA, sC, mA, mC, lA, lC, wA, wC⟩) :: post) :: rowI qA qC queue :: blk g tW [.slice cA code.length cC, .slice (some ⟨gr, 0, none⟩) nn rC, .slice qA queue.length qC, .int .i64 now, .int .i64 sent, .int .i64 taken, .int .i64 lost] :: L) := M.sel sl
  have M2 : Mem w0 f w (rowV sA sC slots :: row encV 2 tV mA mC mail :: rowI lA lC links :: rowI wA wC watched :: rws (pre ++ post) :: row encO 6 tO cA cC code :: row encR 13 tR (some ⟨gr, 0, none⟩) rC (pre ++ (⟨rid, at_, slots, full, mail, state, due, links, watched, trap, ⟨wk, wn⟩, turns⟩, ⟨sA, sC, mA, mC, lA, lC, wA, wC⟩) :: post) :: row encI 1 tI qA qC queue :: blk g tW [.slice cA code.length cC, .slice (some ⟨gr, 0, none⟩) nn rC, .slice qA queue.length qC, .int .i64 now, .int .i64 sent, .int .i64 taken, .int .i64 lost] :: L) := M1.rwsMid.unpackRun
  clear M1 M
  have M := M2
  clear M2
  have HF : Hid (∀ (U : World) (e : Ending) (st : Int) (q' : List Int) (A1 : Option Addr) (c1 : Nat) (A2 : Option Addr) (c2 n2 : Nat), st = (if state == 2 && fits v (opAt code at_).s then 1 else state) → q' = (if state == 2 && fits v (opAt code at_).s then queue ++ [(k : Int) + 1] else queue) → n2 = q'.length →
      e = .returned (.tuple #[]) →
      Mem w0 f U (rowV sA sC slots :: row encV 2 tV A1 c1 (mail ++ [v]) :: rowI lA lC links :: rowI wA wC watched :: rws (pre ++ post) :: row encO 6 tO cA cC code :: row encR 13 tR (some ⟨gr, 0, none⟩) rC (pre ++ (⟨rid, at_, slots, full, mail ++ [v], st, due, links, watched, trap, ⟨wk, wn⟩, turns⟩, ⟨sA, sC, A1, c1, lA, lC, wA, wC⟩) :: post) :: row encI 1 tI A2 c2 q' :: blk g tW [.slice cA code.length cC, .slice (some ⟨gr, 0, none⟩) nn rC, .slice A2 n2 c2, .int .i64 now, .int .i64 (wr (sent + 1)), .int .i64 taken, .int .i64 lost] :: L) →
      IGPost ⟨code, cA, cC, pre ++ (⟨rid, at_, slots, full, mail, state, due, links, watched, trap, ⟨wk, wn⟩, turns⟩, ⟨sA, sC, mA, mC, lA, lC, wA, wC⟩) :: post, some ⟨gr, 0, none⟩, rC, queue, qA, qC, now, sent, taken, lost⟩ ((k : Int) + 1) v g w0 f L e U) := by
    intro U e st q' A1 c1 A2 c2 n2 hst hq' hn2 he M0
    subst hn2
    have M : Mem w0 f U (rowV sA sC slots :: rowV A1 c1 (mail ++ [v]) :: rowI lA lC links :: rowI wA wC watched :: rws (pre ++ post) :: rowO cA cC code :: rowR (some ⟨gr, 0, none⟩) rC (pre ++ (⟨rid, at_, slots, full, mail ++ [v], st, due, links, watched, trap, ⟨wk, wn⟩, turns⟩, ⟨sA, sC, A1, c1, lA, lC, wA, wC⟩) :: post) :: rowI A2 c2 q' :: blk g tW [.slice cA code.length cC, .slice (some ⟨gr, 0, none⟩) nn rC, .slice A2 q'.length c2, .int .i64 now, .int .i64 (wr (sent + 1)), .int .i64 taken, .int .i64 lost] :: L) := M0
    have M1 := (Mem.packRun (r := ⟨rid, at_, slots, full, mail ++ [v], st, due, links, watched, trap, ⟨wk, wn⟩, turns⟩) (a := ⟨sA, sC, A1, c1, lA, lC, wA, wC⟩) M).rwsMidPut
    refine ⟨⟨code, cA, cC, pre ++ (⟨rid, at_, slots, full, mail ++ [v], st, due, links, watched, trap, ⟨wk, wn⟩, turns⟩, ⟨sA, sC, A1, c1, lA, lC, wA, wC⟩) :: post, some ⟨gr, 0, none⟩, rC, q', A2, c2, now, wr (sent + 1), taken, lost⟩, ?_, he, ?_⟩
    · rw [HG.out ⟨sA, sC, A1, c1, lA, lC, wA, wC⟩, hst, hq', mid_set _ _ _ _ hpl]
      rfl
    · simp only [w7, hnn]
      exact (Mem.packW (W := ⟨code, cA, cC, pre ++ (⟨rid, at_, slots, full, mail ++ [v], st, due, links, watched, trap, ⟨wk, wn⟩, turns⟩, ⟨sA, sC, A1, c1, lA, lC, wA, wC⟩) :: post, some ⟨gr, 0, none⟩, rC, q', A2, c2, now, wr (sent + 1), taken, lost⟩) (M1.sel sl)).perm (.swap _ _ _)
  clear HG
  have HE := Lib.hid (fun V (m' : List Vl) (a' : RA) (L L2 : List Asn) (M : Mem w0 f V L) (hd : Del (row encR 13 tR (some ⟨gr, 0, none⟩) rC (pre ++ (⟨rid, at_, slots, full, m', state, due, links, watched, trap, ⟨wk, wn⟩, turns⟩, a') :: post)) L L2) => heads_g M hd hpl)
  have HW := Lib.hid (fun (V : World) (m' : List Vl) (a' : RA) (L L1 L2 L3 : List Asn) (s0 s1 i3 i4 i5 i6 : Value) (M : Mem w0 f V L) (hd1 : Del (row encR 13 tR (some ⟨gr, 0, none⟩) rC (pre ++ (⟨rid, at_, slots, full, m', state, due, links, watched, trap, ⟨wk, wn⟩, turns⟩, a') :: post)) L L1) (hd2 : Del (row encI 1 tI qA qC queue) L1 L2) (hd3 : Del (blk g tW [s0, s1, .slice qA queue.length qC, i3, i4, i5, i6]) L2 L3) => iWake g gr k ⟨rid, at_, slots, full, m', state, due, links, watched, trap, ⟨wk, wn⟩, turns⟩ a' pre post rC s0 s1 i3 i4 i5 i6 queue qA qC (w0 := w0) (w := V) (f := f) (L := L3) (M.perm (hd1.perm.trans (.cons _ (hd2.perm.trans (.cons _ hd3.perm))))) hpl hq)
  have hpl := Lib.hid hpl
  generalize wr (sent + 1) = s1x at w1 HF HA
  obtain ⟨vk, vn⟩ := v
  simp only at HV HE HW
  have hm2 : ((mail.length : Int) == 12) = false := by simp; omega
  have hs2 : (state == 3) = false := by simpa using hs
  clear hnn hn
  replace hid := Lib.hid hid
  (try clear F); have F := fx M
  go_enter Tryz.func69, Tryz.ntmps69
  go_upto_region 3 with (first | (with_reducible refine alA M ?_; clear M; (try clear F); intro w1 M F) | ((with_reducible apply ev_store (M := M)); rfl; rfl; ((conv => lhs; whnf) <;> rfl); rfl; (first | exact siI | exact siR | exact siV | exact siB | exact siSI | exact siSV | exact siW | exact siSR | exact siSO | exact siO); (exact one_all rfl); (exact dl); (exact Nat.le_of_ble_eq_true rfl); clear M; intro w1 M; simp only [SX] at M; (try clear F); have F := fx M) | (go_at_call 75; refine (HA.out _ _ _ _ M dl dl).mono ?_; rintro e w2 ⟨rfl, rfl⟩))
  clear HA
  obtain ⟨E0, E1, E4, E5⟩ := HE.out _ _ _ _ _ M dl
  go_upto_region 5 with fail
  clear E0 E1 E4 E5
  go_cut [0, 5, 6] from 7 (fun s0 s5 s6 wx => ∃ (g5 : Nat) (A3 : Option Addr) (c3 : Nat), s0 = .pointer (some ⟨g, 0, none⟩) ∧ s5 = .pointer (some ⟨g5, 0, none⟩) ∧ s6 = .pointer (some ⟨gr, k * 13, none⟩) ∧ Mem w0 f wx (blk g tW [.slice cA code.length cC, .slice (some ⟨gr, 0, none⟩) nn rC, .slice qA queue.length qC, .int .i64 now, .int .i64 s1x, .int .i64 taken, .int .i64 lost] :: row encR 13 tR (some ⟨gr, 0, none⟩) rC (pre ++ (⟨rid, at_, slots, full, mail ++ [⟨vk, vn⟩], state, due, links, watched, trap, ⟨wk, wn⟩, turns⟩, ⟨sA, sC, A3, c3, lA, lC, wA, wC⟩) :: post) :: blk g5 tV [.int .i64 vk, .int .i64 vn] :: rowV sA sC slots :: row encV 2 tV A3 c3 (mail ++ [⟨vk, vn⟩]) :: rowI lA lC links :: rowI wA wC watched :: rws (pre ++ post) :: row encO 6 tO cA cC code :: row encI 1 tI qA qC queue :: L))
  case first =>
    (refine wp_region_any (by kernel_rfl) ?_); (try change wpAny _ _ _ _ _ _ _ (World.drew _)); (refine nm (G := fun W => wpAny _ _ _ _ _ _ _ W) ?_; clear M; (try clear F); intro w1 M F)
    have E4 := (HE.out _ _ _ _ _ M dl).2.2.1
    refine anP 0 ?_; refine anP 1 ?_; refine anP 2 ?_; refine anP 3 ?_
    refine an2 4 5 (fun K hK => ?_) (fun K hK => ?_)
    · (go_simp; (refine hK.out _ _ ?_; clear hK K; (try simp only [AX])))
      refine an1 5 (fun K hK => ?_); (go_simp; (refine hK.out _ _ ?_; clear hK K; (try simp only [AX])))
      refine an1 6 (fun K hK => ?_); (go_simp; (refine hK.out _ _ ?_; clear hK K; (try simp only [AX]); (refine nm (G := fun W => wpAny _ _ _ _ _ _ _ W) ?_; clear M; (try clear F); intro w1 M F))); have E4 := (HE.out _ _ _ _ _ M dl).2.2.1
      refine an1 7 (fun K hK => ?_); refine op_of_list rfl ?_; ((with_reducible apply ev_app1 (enc := encV) (v := (⟨vk, vn⟩ : Vl)) (hk := encV_length) (hone := oneV) (h0 := by decide) (hinfo := infVx) (ht := Tryz.underlying54) (M := M)); rfl; rfl; (exact dl); (exact dl); rfl; rfl; omega; (exact Nat.le_of_ble_eq_true rfl); clear M; intro A3 c3 w1 M; (try clear F); have F := fx M); (refine hK.out _ _ ?_; clear hK K; (try simp only [AX]))
      refine anP 8 ?_; refine anP 9 ?_
      refine an1 10 (fun K hK => ?_); refine op_of_list rfl ?_; ((with_reducible apply ev_elem (enc := encR) (x' := ((⟨rid, at_, slots, full, mail ++ [⟨vk, vn⟩], state, due, links, watched, trap, ⟨wk, wn⟩, turns⟩, ⟨sA, sC, A3, c3, lA, lC, wA, wC⟩) : Rn × RA)) (j := 4) (k := k) (hk := encR_length) (M := M)); rfl; rfl; ((conv => lhs; whnf) <;> rfl); rfl; exact siSV; rfl; (exact dl); (first | with_reducible rfl | with_reducible exact (Nat.add_zero _).symm); exact hpl.out; decide; exact setR4 _ _ _ _ _ _ _ _ _ _ _ _ _ _ _ _ _ _ _ _ _ _ _ _ _ (by rw [List.length_append]; rfl); clear M; intro w1 M); (refine hK.out _ _ ?_; clear hK K; (try simp only [AX]))
      refine wpAny_done (by kernel_rfl) ?_ _
      go_wp2
      (refine nm (G := fun W => Met _ _ W) ?_; clear M; (try clear F); intro w1 M F)
      go_meet
      case rel => exact ⟨_, A3, c3, rfl, rfl, rfl, M.sel sl⟩
    · (go_simp; (refine hK.out _ _ ?_; clear hK K; (try simp only [AX])))
      refine an2 4 6 (fun K hK => ?_) (fun K hK => ?_)
      · (go_simp; (refine hK.out _ _ ?_; clear hK K; (try simp only [AX])))
        refine an1 6 (fun K hK => ?_); (go_simp; (refine hK.out _ _ ?_; clear hK K; (try simp only [AX]); (refine nm (G := fun W => wpAny _ _ _ _ _ _ _ W) ?_; clear M; (try clear F); intro w1 M F))); have E4 := (HE.out _ _ _ _ _ M dl).2.2.1
        refine an1 7 (fun K hK => ?_); refine op_of_list rfl ?_; ((with_reducible apply ev_app1 (enc := encV) (v := (⟨vk, vn⟩ : Vl)) (hk := encV_length) (hone := oneV) (h0 := by decide) (hinfo := infVx) (ht := Tryz.underlying54) (M := M)); rfl; rfl; (exact dl); (exact dl); rfl; rfl; omega; (exact Nat.le_of_ble_eq_true rfl); clear M; intro A3 c3 w1 M; (try clear F); have F := fx M); (refine hK.out _ _ ?_; clear hK K; (try simp only [AX]))
        refine anP 8 ?_; refine anP 9 ?_
        refine an1 10 (fun K hK => ?_); refine op_of_list rfl ?_; ((with_reducible apply ev_elem (enc := encR) (x' := ((⟨rid, at_, slots, full, mail ++ [⟨vk, vn⟩], state, due, links, watched, trap, ⟨wk, wn⟩, turns⟩, ⟨sA, sC, A3, c3, lA, lC, wA, wC⟩) : Rn × RA)) (j := 4) (k := k) (hk := encR_length) (M := M)); rfl; rfl; ((conv => lhs; whnf) <;> rfl); rfl; exact siSV; rfl; (exact dl); (first | with_reducible rfl | with_reducible exact (Nat.add_zero _).symm); exact hpl.out; decide; exact setR4 _ _ _ _ _ _ _ _ _ _ _ _ _ _ _ _ _ _ _ _ _ _ _ _ _ (by rw [List.length_append]; rfl); clear M; intro w1 M); (refine hK.out _ _ ?_; clear hK K; (try simp only [AX]))
        refine wpAny_done (by kernel_rfl) ?_ _
        go_wp2
        (refine nm (G := fun W => Met _ _ W) ?_; clear M; (try clear F); intro w1 M F)
        go_meet
        case rel => exact ⟨_, A3, c3, rfl, rfl, rfl, M.sel sl⟩
      · (go_simp; (refine hK.out _ _ ?_; clear hK K; (try simp only [AX]); (refine nm (G := fun W => wpAny _ _ _ _ _ _ _ W) ?_; clear M; (try clear F); intro w1 M F))); have E4 := (HE.out _ _ _ _ _ M dl).2.2.1
        refine an1 4 (fun K hK => ?_); (go_simp; (refine hK.out _ _ ?_; clear hK K; (try simp only [AX])))
        refine an1 7 (fun K hK => ?_); refine op_of_list rfl ?_; ((with_reducible apply ev_app1 (enc := encV) (v := (⟨vk, vn⟩ : Vl)) (hk := encV_length) (hone := oneV) (h0 := by decide) (hinfo := infVx) (ht := Tryz.underlying54) (M := M)); rfl; rfl; (exact dl); (exact dl); rfl; rfl; omega; (exact Nat.le_of_ble_eq_true rfl); clear M; intro A3 c3 w1 M; (try clear F); have F := fx M); (refine hK.out _ _ ?_; clear hK K; (try simp only [AX]))
        refine anP 8 ?_; refine anP 9 ?_
        refine an1 10 (fun K hK => ?_); refine op_of_list rfl ?_; ((with_reducible apply ev_elem (enc := encR) (x' := ((⟨rid, at_, slots, full, mail ++ [⟨vk, vn⟩], state, due, links, watched, trap, ⟨wk, wn⟩, turns⟩, ⟨sA, sC, A3, c3, lA, lC, wA, wC⟩) : Rn × RA)) (j := 4) (k := k) (hk := encR_length) (M := M)); rfl; rfl; ((conv => lhs; whnf) <;> rfl); rfl; exact siSV; rfl; (exact dl); (first | with_reducible rfl | with_reducible exact (Nat.add_zero _).symm); exact hpl.out; decide; exact setR4 _ _ _ _ _ _ _ _ _ _ _ _ _ _ _ _ _ _ _ _ _ _ _ _ _ (by rw [List.length_append]; rfl); clear M; intro w1 M); (refine hK.out _ _ ?_; clear hK K; (try simp only [AX]))
        refine wpAny_done (by kernel_rfl) ?_ _
        go_wp2
        (refine nm (G := fun W => Met _ _ W) ?_; clear M; (try clear F); intro w1 M F)
        go_meet
        case rel => exact ⟨_, A3, c3, rfl, rfl, rfl, M.sel sl⟩
  case rest =>
    clear M F
    obtain ⟨g5, A3, c3, rfl, rfl, rfl, M⟩ := hcut
    have HEQ := Lib.hid (fun V (L L2 : List Asn) M hd => HE.out V (mail ++ [⟨vk, vn⟩]) ⟨sA, sC, A3, c3, lA, lC, wA, wC⟩ L L2 M hd)
    by_cases hst : state = 2
    · subst hst
      obtain ⟨a0, a1⟩ := ha rfl
      obtain ⟨j, rfl⟩ : ∃ j : Nat, at_ = j := ⟨at_.toNat, by omega⟩
      have hj : j < code.length := by omega
      obtain ⟨ad, rfl, _⟩ := (row_reads (enc := encO) (m := 6) (t := tO) (A := cA) (c := cC) (xs := code) M dl).1.op hj
      have hof : opAt code (j : Int) = code[j] := by simp [opAt, List.getD_eq_getElem?_getD, hj]
      have HOp := Lib.hid (fun V (L L2 : List Asn) (M : Mem w0 f V L) (hd : Del (row encO 6 tO (some ad) cC code) L L2) => op_s M hd hj)
      rw [hof] at HF
      generalize code[j] = o at HOp HF
      obtain ⟨xk, xr, xs, xt, ⟨xvk, xvn⟩⟩ := o
      have HV := Lib.hid (HV.out xs)
      simp only at HF HOp HEQ
      have j1 : (0 : Int) ≤ j := by omega
      have j2 : (j : Int) < code.length := by omega
      have hb2 : ((2 : Int) == 2) = true := rfl
      rw [hb2] at HF
      simp only [Bool.true_and] at HF
      generalize fits ⟨vk, vn⟩ xs = b at HV HF
      clear ha a0 a1 hof hb2
      (try clear F); have F := fx M
      go_upto_region 6 with fail
      refine held_begin (S := (fun W => (∀ j, W.cell? ⟨g, j, none⟩ = ([.slice (some ad) code.length cC, .slice (some ⟨gr, 0, none⟩) nn rC, .slice qA queue.length qC, .int .i64 now, .int .i64 s1x, .int .i64 taken, .int .i64 lost] : List Value)[j]?) ∧ (∀ j, W.cell? ⟨g5, j, none⟩ = ([.int .i64 vk, .int .i64 vn] : List Value)[j]?) ∧ W.cell? ⟨gr, k * 13 + 1, none⟩ = some (.int .i64 j) ∧ W.cell? ⟨gr, k * 13 + 5, none⟩ = some (.int .i64 2) ∧ W.cell? ⟨(ad.add (j * 6)).block, (ad.add (j * 6)).off + 2, none⟩ = some (.int .i64 xs))) (by kernel_rfl) (fun _ _ _ _ _ h => h) (by (exact ⟨kc, kc, (HEQ.out _ _ _ mb dl).2.1, (HEQ.out _ _ _ mb dl).2.2.2, HOp.out _ _ _ mb dl⟩)) (fun HQ hHeld => ?_)
      refine tkY HQ hHeld 0 ?_; refine tkY HQ hHeld 1 ?_; refine tkY HQ hHeld 2 ?_; refine tkY HQ hHeld 3 ?_; refine tkY HQ hHeld 4 ?_; refine tkY HQ hHeld 5 ?_; refine tkY HQ hHeld 6 ?_; refine tkY HQ hHeld 7 ?_; refine tkY HQ hHeld 8 ?_; refine tkY HQ hHeld 9 ?_; refine tkY HQ hHeld 10 ?_; refine tkY HQ hHeld 11 ?_; refine tkY HQ hHeld 12 ?_; refine tkY HQ hHeld 13 ?_; refine tkY HQ hHeld 14 ?_; refine tkY HQ hHeld 15 ?_; refine tkY HQ hHeld 16 ?_; refine tkY HQ hHeld 17 ?_
      refine stp 18 (fun K hK => ?_); go_simp
      (go_at_call 112; (refine nmK ?_; clear M; (try clear F); intro w1 M F); refine (HV.out _).mono ?_; rintro e w2 ⟨rfl, hb⟩; replace M := M.below hb; clear hb; (try clear F); have F := fx M)
      (try go_wp2_with fail); refine hK.out _ _ (by (exact ⟨kc, kc, (HEQ.out _ _ _ mb dl).2.1, (HEQ.out _ _ _ mb dl).2.2.2, HOp.out _ _ _ mb dl⟩)) (fun hHeld => ?_); clear hK K; (try simp only [AX])
      refine tkY HQ hHeld 19 ?_
      refine wpAnyH_done (by kernel_rfl) ?_ _; clear HQ; (repeat clear hHeld)
      cases b with
      | true =>
        simp only [if_true] at HF
        go_wp2_with (go_at_call 113; (refine nmK ?_; clear M; (try clear F); intro w1 M F); refine (HW.out _ (mail ++ [⟨vk, vn⟩]) ⟨sA, sC, A3, c3, lA, lC, wA, wC⟩ _ _ _ _ _ _ _ _ _ _ M dl dl dl).mono ?_; clear M; rintro e w2 ⟨A4, c4, rfl, M⟩; (try simp only at M); (try clear F); have F := fx M)
        (first | refine bodyPost_end (results_none rfl _ _ _) rfl ?_ | refine bodyPost_ret (results_none rfl _ _ _) rfl ?_)
        exact HF.out _ _ 1 (queue ++ [rid]) A3 c3 A4 c4 (queue.length + 1) rfl (by rw [hid.out]) (by simp) rfl (M.sel sl)
      | false =>
        simp only [Bool.false_eq_true, if_false] at HF
        go_wp2
        (first | refine bodyPost_end (results_none rfl _ _ _) rfl ?_ | refine bodyPost_ret (results_none rfl _ _ _) rfl ?_)
        exact HF.out _ _ 2 queue A3 c3 _ _ _ rfl rfl rfl rfl (M.sel sl)
    · have hst2 : (state == 2) = false := by simpa using hst
      rw [hst2] at HF
      simp only [Bool.false_and, Bool.false_eq_true, if_false] at HF
      (try clear F); have F := fx M
      go_upto_region 6 with fail
      refine held_begin (S := (fun W => (∀ j, W.cell? ⟨g, j, none⟩ = ([.slice cA code.length cC, .slice (some ⟨gr, 0, none⟩) nn rC, .slice qA queue.length qC, .int .i64 now, .int .i64 s1x, .int .i64 taken, .int .i64 lost] : List Value)[j]?) ∧ W.cell? ⟨gr, k * 13 + 5, none⟩ = some (.int .i64 state))) (by kernel_rfl) (fun _ _ _ _ _ h => h) (by (refine ⟨kc, (HEQ.out _ _ _ mb dl).2.2.2⟩)) (fun HQ hHeld => ?_)
      refine tkY HQ hHeld 0 ?_; refine tkY HQ hHeld 1 ?_; refine tkY HQ hHeld 2 ?_; refine tkY HQ hHeld 3 ?_; refine tkY HQ hHeld 4 ?_; refine tkY HQ hHeld 5 ?_; refine tkN HQ hHeld 6 ?_; refine tkN HQ hHeld 7 ?_; refine tkN HQ hHeld 8 ?_; refine tkN HQ hHeld 9 ?_; refine tkN HQ hHeld 10 ?_; refine tkN HQ hHeld 11 ?_; refine tkN HQ hHeld 12 ?_; refine tkN HQ hHeld 13 ?_; refine tkN HQ hHeld 14 ?_; refine tkN HQ hHeld 15 ?_; refine tkN HQ hHeld 16 ?_; refine tkN HQ hHeld 17 ?_; refine tkN HQ hHeld 18 ?_; refine tkY HQ hHeld 19 ?_
      refine wpAnyH_done (by kernel_rfl) ?_ _; clear HQ; (repeat clear hHeld)
      replace M := Mem.drew M
      go_wp2
      (first | refine bodyPost_end (results_none rfl _ _ _) rfl ?_ | refine bodyPost_ret (results_none rfl _ _ _) rfl ?_)
      exact HF.out _ _ state queue A3 c3 _ _ _ rfl rfl rfl rfl (M.sel sl)
end Go.Proofs.YtomolbhcggaakaaGreat
