/- Parts of the proof, in one text. -/
import Derived.Deep.Cut
import Derived.Test.YtomolbhcggaakaaGreatH26
import Derived.Test.YtomolbhcggaakaaGreatH27
import Derived.Test.YtomolbhcggaakaaGreatH14
import Derived.Test.YtomolbhcggaakaaGreatH18
import Derived.Test.YtomolbhcggaakaaGreatH37
/- A run is taken out of a world's runs and laid back; what a giving comes to, by the places of the lists. -/
namespace Go.Proofs.YtomolbhcggaakaaGreat
open Go.RowKit

theorem lset_perm {α : Type} {l : List α} {k : Nat} (hk : k < l.length) (x : α) : (l.set k x).Perm (x :: (l.take k ++ l.drop (k + 1))) := by
  rw [List.set_eq_take_append_cons_drop, if_pos hk]
  exact List.perm_middle
theorem lget_perm {α : Type} {l : List α} {k : Nat} (hk : k < l.length) : l.Perm (l[k] :: (l.take k ++ l.drop (k + 1))) := by
  have h := lset_perm hk l[k]
  rwa [List.set_getElem_self] at h
theorem Mem.rwsPerm {w0 w : World} {f : List Nat} {L : List Asn} {ps qs : List (Rn × RA)} (M : Mem w0 f w (rws ps :: L)) (h : ps.Perm qs) : Mem w0 f w (rws qs :: L) :=
  Mem.pack (L' := qs.map fun p => runA p.1 p.2) ((Mem.unpack (L' := ps.map fun p => runA p.1 p.2) M).perm ((h.map _).append_right L))
theorem Mem.rwsCons {w0 w : World} {f : List Nat} {L : List Asn} {r : Rn} {a : RA} {ps : List (Rn × RA)} (M : Mem w0 f w (runA r a :: rws ps :: L)) : Mem w0 f w (rws ((r, a) :: ps) :: L) :=
  M.rwsSnoc.rwsPerm (List.perm_append_comm (l₁ := ps) (l₂ := [(r, a)]))
theorem Mem.rwsTake {w0 w : World} {f : List Nat} {L : List Asn} {ps : List (Rn × RA)} {k : Nat} (M : Mem w0 f w (rws ps :: L)) (hk : k < ps.length) : Mem w0 f w (runA ps[k].1 ps[k].2 :: rws (ps.take k ++ ps.drop (k + 1)) :: L) :=
  (M.rwsPerm (lget_perm hk)).rwsHead
theorem Mem.rwsPut {w0 w : World} {f : List Nat} {L : List Asn} {ps : List (Rn × RA)} {k : Nat} {r : Rn} {a : RA} (M : Mem w0 f w (runA r a :: rws (ps.take k ++ ps.drop (k + 1)) :: L)) (hk : k < ps.length) : Mem w0 f w (rws (ps.set k (r, a)) :: L) :=
  M.rwsCons.rwsPerm (lset_perm hk _).symm
theorem wr_wrap (x : Int) : IntKind.i64.wrap x = wr x := by
  rw [IntKind.wrap_i64]; unfold wr; omega
theorem give_out {w : Wd} {id : Int} {v : Vl} (h : (aliveIn w.runs id && decide ((getR w.runs id).mail.length < 12)) = false) : give w id v = { w with sent := wr (w.sent + 1), lost := wr (w.lost + 1) } := by
  unfold give
  rw [h]
  rfl
theorem give_in {W : Wm} {k : Nat} {v : Vl} (hk : k < W.ps.length) (hs : W.ps[k].1.state ≠ 3) (hm : W.ps[k].1.mail.length < 12) (a : RA) : give W.wd ((k : Int) + 1) v =
    ⟨W.code, (W.ps.set k ({ W.ps[k].1 with mail := W.ps[k].1.mail ++ [v], state := if W.ps[k].1.state == 2 && fits v (opAt W.code W.ps[k].1.at_).s then 1 else W.ps[k].1.state }, a)).map (·.1),
      if W.ps[k].1.state == 2 && fits v (opAt W.code W.ps[k].1.at_).s then W.queue ++ [(k : Int) + 1] else W.queue, W.now, wr (W.sent + 1), W.taken, W.lost⟩ := by
  have hg := getR_ps hk
  have ha : aliveIn W.wd.runs ((k : Int) + 1) = true := by
    rw [aliveIn_iff, hg, runsLen]
    exact ⟨by omega, hs⟩
  have e2 : ((k : Int) + 1 - 1).toNat = k := by omega
  unfold give
  rw [ha, hg, Bool.true_and, if_pos (by simpa using hm)]
  unfold updR
  rw [hg, e2, List.map_set]
  rfl
end Go.Proofs.YtomolbhcggaakaaGreat
/- The reference's giving: who is not there, did end, or has no room. -/
namespace Go.Proofs.YtomolbhcggaakaaGreat
open Go.RowKit
set_option maxRecDepth 100000

def GivePost (W : Wm) (id : Int) (v : Vl) (w0 : World) (f : List Nat) (L : List Asn) (e : Ending) (w' : World) : Prop := ∃ V : Wm, V.wd = give W.wd id v ∧ e = .returned (.agg (wArr V)) ∧ Mem w0 f w' (wld V :: L)
set_option maxHeartbeats 4000000 in
theorem sGive_out (W : Wm) (id : Int) (v : Vl) {w0 w : World} {f : List Nat} {L L' : List Asn} (M : Mem w0 f w L) (hd : Del (wld W) L L') (hn : W.ps.length ≤ 1000) (h : (aliveIn W.wd.runs id && decide ((getR W.wd.runs id).mail.length < 12)) = false) :
    Calls Tryz.prog 65 #[.agg (wArr W), .int .i64 id, .agg #[.int .i64 v.k, .int .i64 v.n]] w (GivePost W id v w0 f L') := by
  have AL := add_lit0
  have M := (M.pull hd).unpackW
  have HI := Lib.hid (fun V => sIn id 1 W.ps.length V)
  have HF : Hid (∀ (U : World) (e : Ending), e = .returned (.agg (wArr { W with sent := wr (W.sent + 1), lost := wr (W.lost + 1) })) → Mem w0 f U (rowO W.cA W.cC W.code :: rowR W.rA W.rC W.ps :: rowI W.qA W.qC W.queue :: rws W.ps :: L') → GivePost W id v w0 f L' e U) := fun U e he M => ⟨{ W with sent := wr (W.sent + 1), lost := wr (W.lost + 1) }, (give_out h).symm, he, M.packW (W := { W with sent := wr (W.sent + 1), lost := wr (W.lost + 1) })⟩
  have w1 := wr_wrap (W.sent + 1)
  have w2 := wr_wrap (W.lost + 1)
  clear hd
  cases q : inB id 1 W.ps.length with
  | false =>
    rw [q] at HI
    clear h q
    obtain ⟨code, cA, cC, ps, rA, rC, queue, qA, qC, now, sent, taken, lost⟩ := W
    simp only at *
    generalize wr (sent + 1) = s1 at w1 HF
    generalize wr (lost + 1) = l1 at w2 HF
    go_enter Tryz.func65, Tryz.ntmps65
    go_upto_region 2 with (first | (with_reducible refine alA M ?_; clear M; (try clear F); intro w1 M F) | ((with_reducible apply ev_store (M := M)); rfl; rfl; ((conv => lhs; whnf) <;> rfl); rfl; (first | exact siI | exact siR | exact siV | exact siB | exact siSI | exact siSV | exact siW | exact siSR | exact siSO | exact siO); (exact one_all rfl); (exact dl); (exact Nat.le_of_ble_eq_true rfl); clear M; intro w1 M; simp only [SX] at M; (try clear F); have F := fx M))
    go_upto_region 3 with (go_at_call 45; refine (HI.out _).mono ?_; rintro e w2 ⟨rfl, rfl⟩)
    go_wp2_with ((with_reducible apply ev_store (M := M)); rfl; rfl; ((conv => lhs; whnf) <;> rfl); rfl; (first | exact siI | exact siR | exact siV | exact siB | exact siSI | exact siSV | exact siW | exact siSR | exact siSO | exact siO); (exact one_all rfl); (exact dl); (exact Nat.le_of_ble_eq_true rfl); clear M; intro w1 M; simp only [SX] at M; (try clear F); have F := fx M)
    apply ret_cell (M := M); rfl; rfl; (exact dl); (first | exact agR | exact agV | exact agW | exact agO); (first | exact siI | exact siR | exact siV | exact siB | exact siSI | exact siSV | exact siW | exact siSR | exact siSO | exact siO); rfl
    exact HF.out _ _ rfl (M.sel sl)
  | true =>
    rw [q] at HI
    have q2 := inB_iff.1 q
    obtain ⟨k, hk⟩ : ∃ k : Nat, id = (k : Int) + 1 := ⟨(id - 1).toNat, by omega⟩
    subst hk
    have hk : k < W.ps.length := by omega
    have e : aliveIn W.wd.runs ((k : Int) + 1) = !(W.ps[k].1.state == 3) := by unfold aliveIn; rw [runsLen, q, getR_ps hk]; rfl
    rw [e, getR_ps hk] at h
    obtain ⟨gr, hgr⟩ := row_form M (.there .here) (by omega)
    clear q e
    obtain ⟨code, cA, cC, ps, rA, rC, queue, qA, qC, now, sent, taken, lost⟩ := W
    simp only at *
    subst hgr
    generalize wr (sent + 1) = s1 at w1 HF
    generalize wr (lost + 1) = l1 at w2 HF
    have i1 : (0 : Int) ≤ k := by omega
    have i2 : (k : Int) < ps.length := by omega
    have i3 : (k : Int) + 1 - 1 = k := by omega
    have wi : IntKind.i64.wrap (k : Int) = k := by rw [IntKind.wrap_i64]; omega
    go_enter Tryz.func65, Tryz.ntmps65
    go_upto_region 2 with (first | (with_reducible refine alA M ?_; clear M; (try clear F); intro w1 M F) | ((with_reducible apply ev_store (M := M)); rfl; rfl; ((conv => lhs; whnf) <;> rfl); rfl; (first | exact siI | exact siR | exact siV | exact siB | exact siSI | exact siSV | exact siW | exact siSR | exact siSO | exact siO); (exact one_all rfl); (exact dl); (exact Nat.le_of_ble_eq_true rfl); clear M; intro w1 M; simp only [SX] at M; (try clear F); have F := fx M))
    have E := elemR (g := gr) (c := rC) M dl hk
    generalize ps[k] = p at h E
    obtain ⟨⟨rid, at_, slots, full, mail, state, due, links, watched, trap, ⟨wk, wn⟩, turns⟩, ⟨sA, sC, mA, mC, lA, lC, wA, wC⟩⟩ := p
    obtain ⟨E0, E1, E2, E3, E4, E5, E6, E7, E8, E9, E10, E11, E12⟩ := E
    simp only at h E4 E5
    have wj : IntKind.i64.wrap ((k : Int) + 1 - 1) = k := by rw [i3]; exact wi
    by_cases hs : state = 3
    · subst hs
      clear h
      go_upto_region 3 with (go_at_call 45; refine (HI.out _).mono ?_; rintro e w2 ⟨rfl, rfl⟩)
      go_wp2_with ((with_reducible apply ev_store (M := M)); rfl; rfl; ((conv => lhs; whnf) <;> rfl); rfl; (first | exact siI | exact siR | exact siV | exact siB | exact siSI | exact siSV | exact siW | exact siSR | exact siSO | exact siO); (exact one_all rfl); (exact dl); (exact Nat.le_of_ble_eq_true rfl); clear M; intro w1 M; simp only [SX] at M; (try clear F); have F := fx M)
      apply ret_cell (M := M); rfl; rfl; (exact dl); (first | exact agR | exact agV | exact agW | exact agO); (first | exact siI | exact siR | exact siV | exact siB | exact siSI | exact siSV | exact siW | exact siSR | exact siSO | exact siO); rfl
      exact HF.out _ _ rfl (M.sel sl)
    · have hs2 : (state == 3) = false := by simpa using hs
      have hm : 12 ≤ (mail.length : Int) := by
        rw [hs2] at h
        simp only [Bool.not_false, Bool.true_and, decide_eq_false_iff_not] at h
        omega
      clear h
      go_upto_region 3 with (go_at_call 45; refine (HI.out _).mono ?_; rintro e w2 ⟨rfl, rfl⟩)
      go_wp2_with ((with_reducible apply ev_store (M := M)); rfl; rfl; ((conv => lhs; whnf) <;> rfl); rfl; (first | exact siI | exact siR | exact siV | exact siB | exact siSI | exact siSV | exact siW | exact siSR | exact siSO | exact siO); (exact one_all rfl); (exact dl); (exact Nat.le_of_ble_eq_true rfl); clear M; intro w1 M; simp only [SX] at M; (try clear F); have F := fx M)
      apply ret_cell (M := M); rfl; rfl; (exact dl); (first | exact agR | exact agV | exact agW | exact agO); (first | exact siI | exact siR | exact siV | exact siB | exact siSI | exact siSV | exact siW | exact siSR | exact siSO | exact siO); rfl
      exact HF.out _ _ rfl (M.sel sl)
end Go.Proofs.YtomolbhcggaakaaGreat
