/- Parts of the proof, in one text. -/
import Derived.Deep.Cut
import Derived.Deep.RegionWith
import Derived.Test.YtomolbhcggaakaaGreatH48
import Derived.Test.YtomolbhcggaakaaGreatH26
/- The program's copy of a run. -/
namespace Go.Proofs.YtomolbhcggaakaaGreat
open Go.RowKit
set_option maxRecDepth 100000

set_option maxHeartbeats 2000000 in
theorem mICopied (r : Rn) (a : RA) (B : Nat) (w : World) (hr : ReadsRun w B r a) (hB : B ≤ w.heap.size) (hz : ZNil a) (h1 : r.slots.length ≤ 1048576) (h2 : r.mail.length ≤ 1048576) (h3 : r.links.length ≤ 1048576) (h4 : r.watched.length ≤ 1048576) :
    Calls Tryz.prog 110 #[.agg (runArr r a)] w fun e w' => ∃ b : RA, e = .returned (.agg (runArr r b)) ∧ Mem w [] w' [runA r b] := by
  obtain ⟨id, at_, slots, full, mail, state, due, links, watched, trap, ⟨wk, wn⟩, turns⟩ := r
  obtain ⟨sA, sC, mA, mC, lA, lC, wA, wC⟩ := a
  obtain ⟨z1, z2, z3, z4⟩ := hz
  simp only at *
  have H1 := Lib.hid (fun V (hb : Below w.heap.size w V) => mCloneV slots sA sC B V (hr.slots.below' hb hB) (Nat.le_trans hB hb.size) z1 h1)
  have H2 := Lib.hid (fun V (hb : Below w.heap.size w V) => mCloneV mail mA mC B V (hr.mail.below' hb hB) (Nat.le_trans hB hb.size) z2 h2)
  have H3 := Lib.hid (fun V (hb : Below w.heap.size w V) => mCloneI links lA lC B V (hr.links.below' hb hB) (Nat.le_trans hB hb.size) z3 h3)
  have H4 := Lib.hid (fun V (hb : Below w.heap.size w V) => mCloneI watched wA wC B V (hr.watched.below' hb hB) (Nat.le_trans hB hb.size) z4 h4)
  have M := Mem.nil w
  clear hr hB z1 z2 z3 z4 h1 h2 h3 h4
  simp only [runArr]
  go_enter Tryz.func110, Tryz.ntmps110
  go_wp2_with (first | (with_reducible refine alA M ?_; clear M; (try clear F); intro w1 M F) | ((with_reducible apply ev_store (M := M)); rfl; rfl; ((conv => lhs; whnf) <;> rfl); rfl; (first | exact siI | exact siR | exact siV | exact siB | exact siSI | exact siSV | exact siW | exact siSR | exact siSO | exact siO); (exact one_all rfl); (exact dl); (exact Nat.le_of_ble_eq_true rfl); clear M; intro w1 M; simp only [SX] at M; (try clear F); have F := fx M) | ((with_reducible refine goal_drewN (G := fun W => wpList _ _ _ _ _ W) M ?_); clear M; intro w1 M; (try clear F); have F := fx M) | ((with_reducible refine goal_drew (G := fun W => wpList _ _ _ _ _ W) M ?_); clear M; intro w1 M; (try clear F); have F := fx M) | ((with_reducible refine isSet (G := fun W => wpList _ _ _ _ _ W) ?_); (with_reducible refine nm (G := fun W => wpList _ _ _ _ _ W) ?_; clear M; (try clear F); intro w1 M F)))
  (refine nm (G := fun W => Code.wp _ _ _ _ W) ?_; clear M; (try clear F); intro w1 M F)
  go_cut [1, 2] from 3 (fun s1 s2 wx => ∃ (g1 g2 : Nat) (A1 A2 : Option Addr) (c1 c2 : Nat), s1 = .pointer (some ⟨g1, 0, none⟩) ∧ s2 = .pointer (some ⟨g2, 0, none⟩) ∧ Mem w [] wx [row encV 2 tV A1 c1 slots, row encV 2 tV A2 c2 mail, blk g1 tR [.int .i64 id, .int .i64 at_, .slice A1 slots.length c1, .int .i64 full, .slice A2 mail.length c2, .int .i64 state, .int .i64 due, .slice lA links.length lC, .slice wA watched.length wC, .bool trap, .int .i64 wk, .int .i64 wn, .int .i64 turns], blk g2 tR [.int .i64 0, .int .i64 0, .slice none 0 0, .int .i64 0, .slice none 0 0, .int .i64 0, .int .i64 0, .slice none 0 0, .slice none 0 0, .bool false, .int .i64 0, .int .i64 0, .int .i64 0]])
  case first =>
    go_region_with (first
      | ((go_at_call_of 145 (Value.slice sA slots.length sC)); (refine nmK ?_; clear M; (try clear F); intro w1 M F); refine (H1.out _ M.toBelow).mono ?_; rintro e w2 ⟨A1, c1, rfl, hm⟩; replace M := M.call0 hm; clear hm; (try clear F); have F := fx M)
      | ((go_at_call_of 145 (Value.slice mA mail.length mC)); (refine nmK ?_; clear M; (try clear F); intro w1 M F); refine (H2.out _ M.toBelow).mono ?_; rintro e w2 ⟨A2, c2, rfl, hm⟩; replace M := M.call0 hm; clear hm; (try clear F); have F := fx M))
    all_goals go_wp2
    all_goals ((refine nm (G := fun W => Met _ _ W) ?_; clear M; (try clear F); intro w1 M F); go_meet; case rel => exact ⟨_, _, _, _, _, _, rfl, rfl, M.sel sl⟩)
  case rest =>
    obtain ⟨g1, g2, A1, A2, c1, c2, rfl, rfl, M⟩ := hcut
    (try clear F); have F := fx M
    go_wp2
    go_cut [1, 2] from 3 (fun s1 s2 wx => ∃ (g1 g2 : Nat) (A3 A4 : Option Addr) (c3 c4 : Nat), s1 = .pointer (some ⟨g1, 0, none⟩) ∧ s2 = .pointer (some ⟨g2, 0, none⟩) ∧ Mem w [] wx [row encV 2 tV A1 c1 slots, row encV 2 tV A2 c2 mail, row encI 1 tI A3 c3 links, row encI 1 tI A4 c4 watched, blk g1 tR [.int .i64 id, .int .i64 at_, .slice A1 slots.length c1, .int .i64 full, .slice A2 mail.length c2, .int .i64 state, .int .i64 due, .slice A3 links.length c3, .slice A4 watched.length c4, .bool trap, .int .i64 wk, .int .i64 wn, .int .i64 turns], blk g2 tR [.int .i64 0, .int .i64 0, .slice none 0 0, .int .i64 0, .slice none 0 0, .int .i64 0, .int .i64 0, .slice none 0 0, .slice none 0 0, .bool false, .int .i64 0, .int .i64 0, .int .i64 0]])
    case first =>
      go_region_with (first
        | ((go_at_call_of 79 (Value.slice lA links.length lC)); (refine nmK ?_; clear M; (try clear F); intro w1 M F); refine (H3.out _ M.toBelow).mono ?_; rintro e w2 ⟨A3, c3, rfl, hm⟩; replace M := M.call0 hm; clear hm; (try clear F); have F := fx M)
        | ((go_at_call_of 79 (Value.slice wA watched.length wC)); (refine nmK ?_; clear M; (try clear F); intro w1 M F); refine (H4.out _ M.toBelow).mono ?_; rintro e w2 ⟨A4, c4, rfl, hm⟩; replace M := M.call0 hm; clear hm; (try clear F); have F := fx M))
      all_goals go_wp2
      all_goals ((refine nm (G := fun W => Met _ _ W) ?_; clear M; (try clear F); intro w1 M F); go_meet; case rel => exact ⟨_, _, _, _, _, _, rfl, rfl, M.sel sl⟩)
    case rest =>
      obtain ⟨g1, g2, A3, A4, c3, c4, rfl, rfl, M⟩ := hcut
      (try clear F); have F := fx M
      go_wp2_with (first | (with_reducible refine alA M ?_; clear M; (try clear F); intro w1 M F) | ((with_reducible apply ev_store (M := M)); rfl; rfl; ((conv => lhs; whnf) <;> rfl); rfl; (first | exact siI | exact siR | exact siV | exact siB | exact siSI | exact siSV | exact siW | exact siSR | exact siSO | exact siO); (exact one_all rfl); (exact dl); (exact Nat.le_of_ble_eq_true rfl); clear M; intro w1 M; simp only [SX] at M; (try clear F); have F := fx M) | ((with_reducible refine goal_drewN (G := fun W => wpList _ _ _ _ _ W) M ?_); clear M; intro w1 M; (try clear F); have F := fx M) | ((with_reducible refine goal_drew (G := fun W => wpList _ _ _ _ _ W) M ?_); clear M; intro w1 M; (try clear F); have F := fx M) | ((with_reducible refine isSet (G := fun W => wpList _ _ _ _ _ W) ?_); (with_reducible refine nm (G := fun W => wpList _ _ _ _ _ W) ?_; clear M; (try clear F); intro w1 M F)))
      apply ret_cell (M := M); rfl; rfl; (exact dl); (first | exact agR | exact agV | exact agW | exact agO); (first | exact siI | exact siR | exact siV | exact siB | exact siSI | exact siSV | exact siW | exact siSR | exact siSO | exact siO); rfl
      refine ⟨⟨A1, c1, A2, c2, A3, c3, A4, c4⟩, rfl, ?_⟩
      have M4 : Mem w [] _ [rowV A1 c1 slots, rowV A2 c2 mail, rowI A3 c3 links, rowI A4 c4 watched] := M.sel (T := [row encV 2 tV A1 c1 slots, row encV 2 tV A2 c2 mail, row encI 1 tI A3 c3 links, row encI 1 tI A4 c4 watched]) sl
      exact Mem.packRun (r := ⟨id, at_, slots, full, mail, state, due, links, watched, trap, ⟨wk, wn⟩, turns⟩) (a := ⟨A1, c1, A2, c2, A3, c3, A4, c4⟩) (L := []) M4
end Go.Proofs.YtomolbhcggaakaaGreat
/- The program's copy of a world. -/
namespace Go.Proofs.YtomolbhcggaakaaGreat
open Go.RowKit
set_option maxRecDepth 100000

set_option maxHeartbeats 4000000 in
theorem iCopyW (W : Wm) (B : Nat) (w : World) (h : ReadsW w B W) (hB : B ≤ w.heap.size) (hn : NilW W) (hz : SmallW W) :
    Calls Tryz.prog 68 #[.agg (wArr W)] w (CopyPost W w) := by
  have HC := Lib.hid (fun V (hb : Below w.heap.size w V) => mCloneO W.code W.cA W.cC B V (h.code.below' hb hB) (Nat.le_trans hB hb.size) hn.code hz.code)
  have HQ := Lib.hid (fun V (hb : Below w.heap.size w V) => mCloneI W.queue W.qA W.qC B V (h.queue.below' hb hB) (Nat.le_trans hB hb.size) hn.queue hz.queue)
  have HR := Lib.hid (fun V (hb : Below w.heap.size w V) => h.runs.below' hb hB)
  have HT := Lib.hid (fun k (hk : k < W.ps.length) V (hb : Below w.heap.size w V) => mICopied W.ps[k].1 W.ps[k].2 B V ((h.each k hk).below hb hB) (Nat.le_trans hB hb.size) (hn.each k hk) (by have := hz.each k hk; omega) (by have := hz.each k hk; omega) (by have := hz.each k hk; omega) (by have := hz.each k hk; omega))
  have ZC := Lib.hid hn.code
  have ZQ := Lib.hid hn.queue
  have sc := hz.code
  have sq := hz.queue
  have sr := hz.runs
  have M := Mem.nil w
  have HF : Hid (∀ (U : World) (e : Ending), (∃ V : Wm, V.wd = W.wd ∧ e = .returned (.agg (wArr V)) ∧ Mem w [] U [wld V]) → CopyPost W w e U) := fun _ _ h => h
  clear h hn hz hB
  obtain ⟨code, cA, cC, ps, rA, rC, queue, qA, qC, now, sent, taken, lost⟩ := W
  simp only [Wm.wd] at *
  go_enter Tryz.func68, Tryz.ntmps68
  go_wp2_with (first | (with_reducible refine alA M ?_; clear M; (try clear F); intro w1 M F))
  (refine nm (G := fun W => Code.wp _ _ _ _ W) ?_; clear M; (try clear F); intro w1 M F)
  generalize hgx : w.heap.size = g0 at M ⊢
  rename_i u1 K0 a0 b0
  clear F
  generalize u1.heap.size = gr at M ⊢
  have M1 := Mem.rwsNil M
  have M2 : Mem w [] w1 [row encR 13 tR none 0 ([] : List (Rn × RA)), rws [], blk gr tW [.slice none 0 0, .slice none 0 0, .slice none 0 0, .int .i64 0, .int .i64 0, .int .i64 0, .int .i64 0], blk g0 tW [.slice cA code.length cC, .slice rA ps.length rC, .slice qA queue.length qC, .int .i64 now, .int .i64 sent, .int .i64 taken, .int .i64 lost]] := M1.nilRow
  clear M M1
  go_loopg [3, 9] ps.length (fun gg v i wr => ∃ (k : Nat) (qs : List (Rn × RA)) (A : Option Addr) (c : Nat), k ≤ ps.length ∧ ps.length - k ≤ gg ∧ v = .slice A k c ∧ i = .int .i64 k ∧ Hid (qs.length = k) ∧ Hid (qs.map (·.1) = (ps.take k).map (·.1)) ∧ Hid (Mem w [] wr [row encR 13 tR A c qs, rws qs, blk gr tW [.slice none 0 0, .slice none 0 0, .slice none 0 0, .int .i64 0, .int .i64 0, .int .i64 0, .int .i64 0], blk g0 tW [.slice cA code.length cC, .slice rA ps.length rC, .slice qA queue.length qC, .int .i64 now, .int .i64 sent, .int .i64 taken, .int .i64 lost]]))
  case atStart => exact ⟨0, [], _, _, Nat.zero_le _, by omega, rfl, rfl, rfl, by simp [Hid], M2⟩
  case round =>
    clear M2
    obtain ⟨k, qs, A, c, hk, hg, rfl, rfl, hql, hqm, M⟩ := hrel
    replace M := M.out
    by_cases hlt : k < ps.length
    · obtain ⟨ad, rfl, hab, hc⟩ := (HR.out _ M.toBelow).run hlt
      have HT := Lib.hid (HT.out k hlt)
      have hqn : Hid (∀ b : RA, (qs ++ [(ps[k].1, b)]).map (·.1) = (ps.take (k + 1)).map (·.1)) := fun b => by
        rw [List.map_append, hqm.out, takeS _ hlt, List.map_append]
        rfl
      have hql2 : Hid (∀ p : Rn × RA, (qs ++ [p]).length = k + 1) := fun p => by rw [List.length_append, hql.out]; rfl
      clear hqm
      generalize ps[k] = p at hc HT hqn
      obtain ⟨r, a⟩ := p
      obtain ⟨id, at_, slots, full, mail, state, due, links, watched, trap, ⟨wk, wn⟩, turns⟩ := r
      obtain ⟨sA, sC, mA, mC, lA, lC, wA, wC⟩ := a
      simp only [RunCells] at hc
      simp only at HT
      obtain ⟨hc0, hc1, hc2, hc3, hc4, hc5, hc6, hc7, hc8, hc9, hc10, hc11, hc12⟩ := hc
      have i1 : (0 : Int) ≤ k := by omega
      have i2 : (k : Int) < ps.length := by omega
      have wi : IntKind.i64.wrap ((k : Int) + 1) = (k : Int) + 1 := by rw [IntKind.wrap_i64]; omega
      (try clear F); have F := fx M
      go_wp2_with (first
        | ((with_reducible refine alA M ?_; clear M; (try clear F); intro w1 M F); ((with_reducible apply ev_app1 (enc := encR) (v := (⟨⟨id, at_, slots, full, mail, state, due, links, watched, trap, ⟨wk, wn⟩, turns⟩, ⟨sA1, sC1, mA1, mC1, lA1, lC1, wA1, wC1⟩⟩ : Rn × RA)) (hk := encR_length) (hone := oneR) (h0 := by decide) (hinfo := infRx) (ht := Tryz.underlying30) (M := M)); rfl; rfl; (exact dl); (exact dl); rfl; (exact hql.out.symm); (have := hql.out; omega); (exact Nat.le_of_ble_eq_true rfl); clear M; intro A1 c1 w1 M; (try clear F); have F := fx M))
        | (with_reducible refine alA M ?_; clear M; (try clear F); intro w1 M F) | ((with_reducible apply ev_store (M := M)); rfl; rfl; ((conv => lhs; whnf) <;> rfl); rfl; (first | exact siI | exact siR | exact siV | exact siB | exact siSI | exact siSV | exact siW | exact siSR | exact siSO | exact siO); (exact one_all rfl); (exact dl); (exact Nat.le_of_ble_eq_true rfl); clear M; intro w1 M; simp only [SX] at M; (try clear F); have F := fx M)
        | (go_at_call 110; (refine nmK ?_; clear M; (try clear F); intro w1 M F); refine (HT.out _ M.toBelow).mono ?_; rintro e w2 ⟨⟨sA1, sC1, mA1, mC1, lA1, lC1, wA1, wC1⟩, rfl, hm⟩; replace M := M.call0 hm; clear hm; (try clear F); have F := fx M))
      go_roundg (ps.length - (k + 1))
      case measure => omega
      case rel =>
        have M5 : Mem w [] _ (runA ⟨id, at_, slots, full, mail, state, due, links, watched, trap, ⟨wk, wn⟩, turns⟩ ⟨sA1, sC1, mA1, mC1, lA1, lC1, wA1, wC1⟩ :: rws qs :: row encR 13 tR A1 c1 (qs ++ [⟨⟨id, at_, slots, full, mail, state, due, links, watched, trap, ⟨wk, wn⟩, turns⟩, ⟨sA1, sC1, mA1, mC1, lA1, lC1, wA1, wC1⟩⟩]) :: [blk gr tW [.slice none 0 0, .slice none 0 0, .slice none 0 0, .int .i64 0, .int .i64 0, .int .i64 0, .int .i64 0], blk g0 tW [.slice cA code.length cC, .slice (some ad) ps.length rC, .slice qA queue.length qC, .int .i64 now, .int .i64 sent, .int .i64 taken, .int .i64 lost]]) := M.sel sl
        exact ⟨k + 1, qs ++ [⟨⟨id, at_, slots, full, mail, state, due, links, watched, trap, ⟨wk, wn⟩, turns⟩, ⟨sA1, sC1, mA1, mC1, lA1, lC1, wA1, wC1⟩⟩], A1, c1, by omega, by omega, rfl, by go_num, Lib.hid (hql2.out _), Lib.hid (hqn.out _), M5.rwsSnoc.perm (.swap _ _ _)⟩
    · have : k = ps.length := by omega
      subst this
      have e1 := hqm.out
      rw [List.take_length] at e1
      have e1 := Lib.hid e1
      have e2 := Lib.hid hql.out
      clear hqm hql
      (try clear F); have F := fx M
      go_wp2
      go_cut [1, 2] from 8 (fun s1 s2 wx => ∃ (g1 g2 : Nat) (A1 A2 : Option Addr) (c1 c2 : Nat), s1 = .pointer (some ⟨g1, 0, none⟩) ∧ s2 = .pointer (some ⟨g2, 0, none⟩) ∧ Mem w [] wx [row encO 6 tO A1 c1 code, row encI 1 tI A2 c2 queue, row encR 13 tR A c qs, rws qs, blk g1 tW [.slice A1 code.length c1, .slice A ps.length c, .slice A2 queue.length c2, .int .i64 now, .int .i64 sent, .int .i64 taken, .int .i64 lost], blk g2 tW [.slice none 0 0, .slice none 0 0, .slice none 0 0, .int .i64 0, .int .i64 0, .int .i64 0, .int .i64 0]])
      case first =>
        go_region_with (first
          | (go_at_call 111; (refine nmK ?_; clear M; (try clear F); intro w1 M F); refine (HC.out _ M.toBelow).mono ?_; rintro e w2 ⟨A1, c1, rfl, hm⟩; replace M := M.call0 hm; clear hm; (try clear F); have F := fx M)
          | (go_at_call 79; (refine nmK ?_; clear M; (try clear F); intro w1 M F); refine (HQ.out _ M.toBelow).mono ?_; rintro e w2 ⟨A2, c2, rfl, hm⟩; replace M := M.call0 hm; clear hm; (try clear F); have F := fx M))
        all_goals go_wp2
        all_goals ((refine nm (G := fun W => Met _ _ W) ?_; clear M; (try clear F); intro w1 M F); go_meet; case rel => exact ⟨_, _, _, _, _, _, rfl, rfl, M.sel sl⟩)
      case rest =>
        obtain ⟨g1, g2, A1, A2, c1, c2, rfl, rfl, M⟩ := hcut
        (try clear F); have F := fx M
        go_wp2_with (first | ((with_reducible apply ev_store (M := M)); rfl; rfl; ((conv => lhs; whnf) <;> rfl); rfl; (first | exact siI | exact siR | exact siV | exact siB | exact siSI | exact siSV | exact siW | exact siSR | exact siSO | exact siO); (exact one_all rfl); (exact dl); (exact Nat.le_of_ble_eq_true rfl); clear M; intro w1 M; simp only [SX] at M; (try clear F); have F := fx M))
        apply ret_cell (M := M); rfl; rfl; (exact dl); (first | exact agR | exact agV | exact agW | exact agO); (first | exact siI | exact siR | exact siV | exact siB | exact siSI | exact siSV | exact siW | exact siSR | exact siSO | exact siO); rfl
        refine HF.out _ _ ⟨⟨code, A1, c1, qs, A, c, queue, A2, c2, now, sent, taken, lost⟩, by simp only [e1.out], ?_, ?_⟩
        · simp only [wArr, e2.out]
        · have M5 : Mem w [] _ [rowO A1 c1 code, rowR A c qs, rowI A2 c2 queue, rws qs] := M.sel (T := [row encO 6 tO A1 c1 code, row encR 13 tR A c qs, row encI 1 tI A2 c2 queue, rws qs]) sl
          exact Mem.pack (L' := wldL ⟨code, A1, c1, qs, A, c, queue, A2, c2, now, sent, taken, lost⟩) (L := []) M5
end Go.Proofs.YtomolbhcggaakaaGreat
