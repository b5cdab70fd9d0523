/- Parts of the proof, in one text. -/
import Derived.Deep.Cut
import Derived.Deep.RegionWith
import Derived.ArgAppend
import Derived.Test.YtmidnaafljgbiaaB27
import Derived.Test.YtmidnaafljgbiaaB30
import Derived.Test.YtmidnaafljgbiaaB05
import Derived.Test.YtmidnaafljgbiaaB22
import Derived.Test.YtmidnaafljgbiaaB21
import Derived.Test.YtmidnaafljgbiaaB03
import Derived.Test.YtmidnaafljgbiaaB16
/- A giving in the midst of a run's end, by the reference. -/
namespace Go.Proofs.Ytmidnaafljgbiaa
open Go.RowKit

theorem giveMid (V2 : Wm) (X : Wd) (hV : V2.wd = X) (n q : Nat) (hm : MidW n q X) (hn : n ≤ 1000) (hq : q ≤ 1000000) (id : Int) (v : Vl) {w0 U : World} {f : List Nat} {L1 L2 : List Asn} (M : Mem w0 f U L1) (hd : Del (wld V2) L1 L2) :
    Calls Try.prog 148 #[.agg (wArr V2), .int .i64 id, .agg #[.int .i64 v.k, .int .i64 v.n]] U (fun e w' => ∃ Y : Wm, Y.wd = give X id v ∧ e = .returned (.agg (wArr Y)) ∧ Mem w0 f w' (wld Y :: L2)) := by
  subst hV
  have hl : V2.ps.length = n := by rw [← runsLen]; exact hm.len
  have hq2 : V2.queue.length ≤ q := hm.queue
  refine sGive V2 id v M hd (by omega) (by omega) (fun ha _ => ?_)
  have h := aliveIn_iff.1 ha
  rw [runsLen, hl] at h
  exact hm.at_ id h.1.1 h.1.2
end Go.Proofs.Ytmidnaafljgbiaa
/- The end of one run, by the reference. -/
namespace Go.Proofs.Ytmidnaafljgbiaa
open Go.RowKit
set_option maxRecDepth 100000

def OnePost (W : Wm) (id : Int) (why : Vl) (w0 : World) (f : List Nat) (L : List Asn) (e : Ending) (w' : World) : Prop := ∃ (V : Wm) (A : Option Addr) (c : Nat), V.wd = (endRun W.wd id why).1 ∧ e = .returned (.tuple #[.agg (wArr V), .slice A (endRun W.wd id why).2.length c]) ∧ Mem w0 f w' (rowI A c (endRun W.wd id why).2 :: wld V :: L)
theorem rows0 {gm gl gw : Nat} {w0 w : World} {f : List Nat} {L : List Asn} (M : Mem w0 f w (blk gm tV [] :: blk gl tI [] :: blk gw tI [] :: L)) : Mem w0 f w (row encV 2 tV (some ⟨gm, 0, none⟩) 0 ([] : List Vl) :: row encI 1 tI (some ⟨gl, 0, none⟩) 0 ([] : List Int) :: row encI 1 tI (some ⟨gw, 0, none⟩) 0 ([] : List Int) :: L) := by
  have M1 : Mem w0 f w (row encI 1 tI (some ⟨gw, 0, none⟩) 0 ([] : List Int) :: blk gm tV [] :: blk gl tI [] :: L) := Mem.row_of encI_length (xs := []) (M.sel (T := blk gw tI [] :: blk gm tV [] :: blk gl tI [] :: L) sl) rfl (by simp)
  have M2 : Mem w0 f w (row encI 1 tI (some ⟨gl, 0, none⟩) 0 ([] : List Int) :: row encI 1 tI (some ⟨gw, 0, none⟩) 0 ([] : List Int) :: blk gm tV [] :: L) := Mem.row_of encI_length (xs := []) (M1.sel (T := blk gl tI [] :: row encI 1 tI (some ⟨gw, 0, none⟩) 0 ([] : List Int) :: blk gm tV [] :: L) sl) rfl (by simp)
  exact Mem.row_of encV_length (xs := []) (M2.sel (T := blk gm tV [] :: row encI 1 tI (some ⟨gl, 0, none⟩) 0 ([] : List Int) :: row encI 1 tI (some ⟨gw, 0, none⟩) 0 ([] : List Int) :: L) sl) rfl (by simp)
theorem wd_runs {V1 : Wm} {W1 : Wd} {x : List Rn} (hV : V1.wd = { W1 with runs := x }) (ps' : List (Rn × RA)) (cA rA qA : Option Addr) (cC rC qC : Nat) :
    Wm.wd ⟨V1.code, cA, cC, ps', rA, rC, V1.queue, qA, qC, V1.now, V1.sent, V1.taken, V1.lost⟩ = { W1 with runs := ps'.map (·.1) } := by
  have h1 := congrArg Wd.code hV
  have h2 := congrArg Wd.queue hV
  have h3 := congrArg Wd.now hV
  have h4 := congrArg Wd.sent hV
  have h5 := congrArg Wd.taken hV
  have h6 := congrArg Wd.lost hV
  simp only [Wm.wd] at h1 h2 h3 h4 h5 h6 ⊢
  rw [h1, h2, h3, h4, h5, h6]
theorem steps_succ {l : List Int} {j : Nat} (hj : j < l.length) (id : Int) (nm : Bool) (s : Wd × List Int) : (l.take (j + 1)).foldl (linkStep id nm) s = linkStep id nm ((l.take j).foldl (linkStep id nm) s) l[j] := by
  rw [takeS l hj, List.foldl_append]
  rfl
theorem gives_succ {l : List Int} {j : Nat} (hj : j < l.length) (id : Int) (w : Wd) : giveAll id w (l.take (j + 1)) = give (giveAll id w (l.take j)) l[j] ⟨3, id⟩ := by
  rw [takeS l hj, giveAll_append]
  rfl
theorem unlink_eq {V1 : Wm} {pre post : List (Rn × RA)} {r : Rn} {a : RA} {k : Nat} (hps : V1.ps = pre ++ (r, a) :: post) (hpl : pre.length = k) (id : Int) (a' : RA) (cA rA qA : Option Addr) (cC rC qC : Nat) :
    Wm.wd ⟨V1.code, cA, cC, pre ++ ({ r with links := less r.links id }, a') :: post, rA, rC, V1.queue, qA, qC, V1.now, V1.sent, V1.taken, V1.lost⟩ = unlink V1.wd ((k : Int) + 1) id := by
  have e1 := mid_upd (post := post) (p := (r, a)) hpl (fun r => { r with links := less r.links id }) a'
  have e3 : V1.wd.runs = (pre ++ (r, a) :: post).map (·.1) := by rw [← hps]; rfl
  unfold unlink
  rw [e3, ← e1]
  rfl
theorem link_n (id : Int) (s : Wd × List Int) (k : Int) : linkStep id true s k = (unlink s.1 k id, s.2) := rfl
theorem link_t {id : Int} {s : Wd × List Int} {k : Int} (h : (getR s.1.runs k).trap = true) : linkStep id false s k = (give (unlink s.1 k id) k ⟨3, id⟩, s.2) := by
  unfold linkStep
  rw [h]
  rfl
theorem link_o {id : Int} {s : Wd × List Int} {k : Int} (h : (getR s.1.runs k).trap = false) : linkStep id false s k = (unlink s.1 k id, s.2 ++ [k]) := by
  unfold linkStep
  rw [h]
  rfl
theorem endSelf_eq {W : Wm} {pre post : List (Rn × RA)} {r : Rn} {a : RA} {k : Nat} (hps : W.ps = pre ++ (r, a) :: post) (hpl : pre.length = k) (why : Vl) (a' : RA) {ls : Int} (hls : wr (W.lost + r.mail.length) = ls) (cA rA qA : Option Addr) (cC rC qC : Nat) :
    Wm.wd ⟨W.code, cA, cC, pre ++ (endOne why r, a') :: post, rA, rC, less W.queue ((k : Int) + 1), qA, qC, W.now, W.sent, W.taken, ls⟩ = endSelf W.wd ((k : Int) + 1) why := by
  have e1 := mid_upd (post := post) (p := (r, a)) hpl (endOne why) a'
  have e2 := mid_run (post := post) (p := (r, a)) hpl
  have e3 : W.wd.runs = (pre ++ (r, a) :: post).map (·.1) := by rw [← hps]; rfl
  unfold endSelf
  rw [e3, e2, ← e1]
  show _ = ({ W.wd with lost := wr (W.lost + r.mail.length), runs := _, queue := less W.queue _ } : Wd)
  rw [hls]
  rfl
set_option maxHeartbeats 8000000 in
theorem sOne (W : Wm) (k0 : Nat) (why : Vl) {w0 w : World} {f : List Nat} {L L' : List Asn} (M : Mem w0 f w L) (hd : Del (wld W) L L') (hk : k0 < W.ps.length) (hn : W.ps.length ≤ 1000) (hm : MidW W.ps.length 6 W.wd) (hl : ∀ x ∈ W.ps[k0].1.links, 1 ≤ x ∧ x ≤ W.ps.length) :
    Calls Try.prog 155 #[.agg (wArr W), .int .i64 ((k0 : Int) + 1), .agg #[.int .i64 why.k, .int .i64 why.n]] w (OnePost W ((k0 : Int) + 1) why w0 f L') := by
  have AL := add_lit0
  replace M := M.pull hd
  clear hd
  obtain ⟨vk, vn⟩ := why
  simp only
  go_enter Try.func155, Try.ntmps155
  go_upto_region 1 with (first | (with_reducible refine alAw M ?_; clear M; (try clear F); intro w1 M F))
  replace M := open_at (M.sel (T := blk w.heap.size tW (w7 W) :: wld W :: blk _ tV [.int .i64 vk, .int .i64 vn] :: blk _ tW [.slice none 0 0, .slice none 0 0, .slice none 0 0, .int .i64 0, .int .i64 0, .int .i64 0, .int .i64 0] :: L') sl) hk
  obtain ⟨gr, nn, pre, post, r, a, hA, hps, hpl, hnn, hlen, M⟩ := M
  unfold opened at M
  have wi : IntKind.i64.wrap ((k0 : Int) + 1 - 1) = (k0 : Int) := by rw [IntKind.wrap_i64]; omega
  have i1 : (0 : Int) ≤ k0 := by omega
  have i2 : (k0 : Int) < nn := by omega
  have wl := wr_wrap (W.lost + r.mail.length)
  generalize hls : wr (W.lost + r.mail.length) = ls at wl
  obtain ⟨E0, E1, E2, E3, E4, E5, E6, E7, E8, E9, E10, E11, E12⟩ := runAt_mid M dl hpl
  have hlk : Hid (∀ x ∈ r.links, 1 ≤ x ∧ x ≤ nn) := by
    rw [hlen]
    have e : W.ps[k0].1 = r := by simp only [hps]; rw [mid_get _ _ _ hpl]
    rw [e] at hl
    exact hl
  have hbd : r.links.length ≤ 1000 ∧ r.watched.length ≤ 1000 := by
    have h := hm.lst ((k0 : Int) + 1) (by omega) (by omega)
    have e3 : W.wd.runs = (pre ++ (r, a) :: post).map (·.1) := by rw [← hps]; rfl
    rw [e3, mid_run hpl] at h
    exact h
  obtain ⟨hbl, hbw⟩ := hbd
  have HFin : Hid (∀ (U : World) (V : Wm) (A : Option Addr) (c : Nat), V.wd = giveAll ((k0 : Int) + 1) (r.links.foldl (linkStep ((k0 : Int) + 1) (isNormal ⟨vk, vn⟩)) (endFirst W.wd ((k0 : Int) + 1) ⟨vk, vn⟩, [])).1 r.watched → Mem w0 f U (rowI A c (r.links.foldl (linkStep ((k0 : Int) + 1) (isNormal ⟨vk, vn⟩)) (endFirst W.wd ((k0 : Int) + 1) ⟨vk, vn⟩, [])).2 :: wld V :: L') →
      OnePost W ((k0 : Int) + 1) ⟨vk, vn⟩ w0 f L' (.returned (.tuple #[.agg (wArr V), .slice A (r.links.foldl (linkStep ((k0 : Int) + 1) (isNormal ⟨vk, vn⟩)) (endFirst W.wd ((k0 : Int) + 1) ⟨vk, vn⟩, [])).2.length c])) U) := by
    have e2 := mid_run (post := post) (p := (r, a)) hpl
    have e3 : W.wd.runs = (pre ++ (r, a) :: post).map (·.1) := by rw [← hps]; rfl
    have e4 : endRun W.wd ((k0 : Int) + 1) ⟨vk, vn⟩ = (giveAll ((k0 : Int) + 1) (r.links.foldl (linkStep ((k0 : Int) + 1) (isNormal ⟨vk, vn⟩)) (endFirst W.wd ((k0 : Int) + 1) ⟨vk, vn⟩, [])).1 r.watched, (r.links.foldl (linkStep ((k0 : Int) + 1) (isNormal ⟨vk, vn⟩)) (endFirst W.wd ((k0 : Int) + 1) ⟨vk, vn⟩, [])).2) := by
      unfold endRun
      rw [e3, e2]
    intro U V A c hV M
    unfold OnePost
    rw [e4]
    exact ⟨V, A, c, hV, rfl, M⟩
  replace hls := Lib.hid hls
  replace hA := Lib.hid hA
  replace hps := Lib.hid hps
  replace hpl := Lib.hid hpl
  replace hnn := Lib.hid hnn
  replace hlen := Lib.hid hlen
  replace hm := Lib.hid hm
  replace hl := Lib.hid hl
  (try clear F); have F := fxw M
  go_upto_region 2 with (first | (with_reducible refine alAw M ?_; clear M; (try clear F); intro w1 M F) | ((with_reducible apply ev_store (M := M)); rfl; rfl; ((conv => lhs; whnf) <;> rfl); rfl; (first | exact siI | exact siR | exact siV | exact siB | exact siSI | exact siSV | exact siW | exact siSR | exact siSO | exact siO); (exact one_all rfl); (exact dl); (exact Nat.le_of_ble_eq_true rfl); clear M; intro w1 M; simp only [SX] at M; (try clear F); have F := fxw M))
  clear E0 E1 E2 E3 E4 E5 E6 E7 E8 E9 E10 E11 E12
  go_upto_region 10 with (first | (with_reducible refine alAw M ?_; clear M; (try clear F); intro w1 M F) | ((with_reducible apply ev_store (M := M)); rfl; rfl; ((conv => lhs; whnf) <;> rfl); rfl; (first | exact siI | exact siR | exact siV | exact siB | exact siSI | exact siSV | exact siW | exact siSR | exact siSO | exact siO); (exact one_all rfl); (exact dl); (exact Nat.le_of_ble_eq_true rfl); clear M; intro w1 M; simp only [SX] at M; (try clear F); have F := fxw M))
  go_cut [1, 3, 5, 6, 8, 9, 10] from 16 (fun s1 s3 s5 s6 s8 s9 s10 wx => ∃ (g3 g5 g6 g8 gm gl gw : Nat), s1 = .int .i64 ((k0 : Int) + 1) ∧ s3 = .pointer (some ⟨g3, 0, none⟩) ∧ s5 = .pointer (some ⟨g5, 0, none⟩) ∧ s6 = .pointer (some ⟨g6, 0, none⟩) ∧ s8 = .pointer (some ⟨g8, 0, none⟩) ∧ s9 = .slice a.lA r.links.length a.lC ∧ s10 = .slice a.wA r.watched.length a.wC ∧
    Mem w0 f wx (blk g3 tW [.slice W.cA W.code.length W.cC, .slice (some ⟨gr, 0, none⟩) nn W.rC, .slice W.qA W.queue.length W.qC, .int .i64 W.now, .int .i64 W.sent, .int .i64 W.taken, .int .i64 ls] :: row encR 13 tR (some ⟨gr, 0, none⟩) W.rC (pre ++ (r, a) :: post) :: row encV 2 tV a.sA a.sC r.slots :: row encI 1 tI a.lA a.lC r.links :: row encI 1 tI a.wA a.wC r.watched :: rws (pre ++ post) :: row encO 6 tO W.cA W.cC W.code :: row encI 1 tI W.qA W.qC W.queue ::
      blk g8 tR [.int .i64 r.id, .int .i64 r.at_, .slice a.sA r.slots.length a.sC, .int .i64 r.full, .slice (some ⟨gm, 0, none⟩) 0 0, .int .i64 3, .int .i64 0, .slice (some ⟨gl, 0, none⟩) 0 0, .slice (some ⟨gw, 0, none⟩) 0 0, .bool r.trap, .int .i64 vk, .int .i64 vn, .int .i64 r.turns] :: blk gm tV [] :: blk gl tI [] :: blk gw tI [] :: blk g5 tV [.int .i64 vk, .int .i64 vn] :: blk g6 tW [.slice none 0 0, .slice none 0 0, .slice none 0 0, .int .i64 0, .int .i64 0, .int .i64 0, .int .i64 0] :: L'))
  case first =>
    --[1
    go_wp2_with (first | (with_reducible refine alAw M ?_; clear M; (try clear F); intro w1 M F) | ((with_reducible apply ev_store (M := M)); rfl; rfl; ((conv => lhs; whnf) <;> rfl); rfl; (first | exact siI | exact siR | exact siV | exact siB | exact siSI | exact siSV | exact siW | exact siSR | exact siSO | exact siO); (exact one_all rfl); (exact dl); (exact Nat.le_of_ble_eq_true rfl); clear M; intro w1 M; simp only [SX] at M; (try clear F); have F := fxw M))
    go_meet
    case rel => exact ⟨_, _, _, _, _, _, _, rfl, rfl, rfl, rfl, rfl, rfl, rfl, M.sel sl⟩
    --]1
  clear M F
  obtain ⟨g3, g5, g6, g8, gm, gl, gw, rfl, rfl, rfl, rfl, rfl, rfl, rfl, M⟩ := hcut
  (try clear F); have F := fxw M
  have HLQ := Lib.hid (fun (V : World) (L1 L2 : List Asn) (M : Mem w0 f V L1) (hd : Del (row encI 1 tI W.qA W.qC W.queue) L1 L2) => sLess W.queue ((k0 : Int) + 1) W.qA W.qC V.heap.size V (readsI M hd) (Nat.le_refl _) (Nat.le_trans hm.out.queue (by decide)))
  go_upto_region 13 with (first
    | (with_reducible refine alAw M ?_; clear M; (try clear F); intro w1 M F) | ((with_reducible apply ev_store (M := M)); rfl; rfl; ((conv => lhs; whnf) <;> rfl); rfl; (first | exact siI | exact siR | exact siV | exact siB | exact siSI | exact siSV | exact siW | exact siSR | exact siSO | exact siO); (exact one_all rfl); (exact dl); (exact Nat.le_of_ble_eq_true rfl); clear M; intro w1 M; simp only [SX] at M; (try clear F); have F := fxw M)
    | ((with_reducible apply ev_put_mid (x' := ((endOne ⟨vk, vn⟩ r, ⟨a.sA, a.sC, some ⟨gm, 0, none⟩, 0, some ⟨gl, 0, none⟩, 0, some ⟨gw, 0, none⟩, 0⟩) : Rn × RA)) (k := k0) (hk := encR_length) (hone := oneR) (M := M)); rfl; rfl; ((conv => lhs; whnf) <;> rfl); rfl; exact siR; (exact dl); rfl; exact hpl.out; clear M; intro w1 M; (try clear F); have F := fxw M)
    | (go_at_call 154; (refine nmKw ?_; clear M; (try clear F); intro w1 M F); refine (HLQ.out _ _ _ M dl).mono ?_; rintro e w2 ⟨Aq, cq, rfl, hm2⟩; replace M := M.call0 hm2; clear hm2; (try clear F); have F := fxw M))
  go_cut [1, 3, 5, 6, 9, 10, 11] from 16 (fun s1 s3 s5 s6 s9 s10 s11 wx => ∃ V : Wm, s1 = .int .i64 ((k0 : Int) + 1) ∧ s3 = .pointer (some ⟨g3, 0, none⟩) ∧ s5 = .pointer (some ⟨g5, 0, none⟩) ∧ s6 = .pointer (some ⟨g6, 0, none⟩) ∧ s9 = .slice a.lA r.links.length a.lC ∧ s10 = .slice a.wA r.watched.length a.wC ∧ s11 = .int .i64 0 ∧ Hid (V.wd = endSelf W.wd ((k0 : Int) + 1) ⟨vk, vn⟩) ∧
    Mem w0 f wx (blk g3 tW (w7 V) :: wld V :: row encI 1 tI a.lA a.lC r.links :: row encI 1 tI a.wA a.wC r.watched :: blk g5 tV [.int .i64 vk, .int .i64 vn] :: blk g6 tW [.slice none 0 0, .slice none 0 0, .slice none 0 0, .int .i64 0, .int .i64 0, .int .i64 0, .int .i64 0] :: L'))
  case first =>
    --[2
    go_wp2
    go_meet
    case rel =>
      have M1 := rows0 (M.sel (T := blk gm tV [] :: blk gl tI [] :: blk gw tI [] :: blk g3 tW [.slice W.cA W.code.length W.cC, .slice (some ⟨gr, 0, none⟩) nn W.rC, .slice Aq (less W.queue ((k0 : Int) + 1)).length cq, .int .i64 W.now, .int .i64 W.sent, .int .i64 W.taken, .int .i64 ls] :: row encR 13 tR (some ⟨gr, 0, none⟩) W.rC (pre ++ ((endOne ⟨vk, vn⟩ r, ⟨a.sA, a.sC, some ⟨gm, 0, none⟩, 0, some ⟨gl, 0, none⟩, 0, some ⟨gw, 0, none⟩, 0⟩) : Rn × RA) :: post) :: row encV 2 tV a.sA a.sC r.slots :: rws (pre ++ post) :: row encO 6 tO W.cA W.cC W.code :: rowI Aq cq (less W.queue ((k0 : Int) + 1)) :: row encI 1 tI a.lA a.lC r.links :: row encI 1 tI a.wA a.wC r.watched :: blk g5 tV [.int .i64 vk, .int .i64 vn] :: blk g6 tW [.slice none 0 0, .slice none 0 0, .slice none 0 0, .int .i64 0, .int .i64 0, .int .i64 0, .int .i64 0] :: L') sl)
      have M2 : Mem w0 f _ (opened g3 gr nn W.cA W.cC W.code W.rC pre post (endOne ⟨vk, vn⟩ r) ⟨a.sA, a.sC, some ⟨gm, 0, none⟩, 0, some ⟨gl, 0, none⟩, 0, some ⟨gw, 0, none⟩, 0⟩ (less W.queue ((k0 : Int) + 1)) Aq cq W.now W.sent W.taken ls (row encI 1 tI a.lA a.lC r.links :: row encI 1 tI a.wA a.wC r.watched :: blk g5 tV [.int .i64 vk, .int .i64 vn] :: blk g6 tW [.slice none 0 0, .slice none 0 0, .slice none 0 0, .int .i64 0, .int .i64 0, .int .i64 0, .int .i64 0] :: L')) :=
        M1.sel (T := blk g3 tW [.slice W.cA W.code.length W.cC, .slice (some ⟨gr, 0, none⟩) nn W.rC, .slice Aq (less W.queue ((k0 : Int) + 1)).length cq, .int .i64 W.now, .int .i64 W.sent, .int .i64 W.taken, .int .i64 ls] :: row encR 13 tR (some ⟨gr, 0, none⟩) W.rC (pre ++ ((endOne ⟨vk, vn⟩ r, ⟨a.sA, a.sC, some ⟨gm, 0, none⟩, 0, some ⟨gl, 0, none⟩, 0, some ⟨gw, 0, none⟩, 0⟩) : Rn × RA) :: post) :: row encV 2 tV a.sA a.sC r.slots :: row encV 2 tV (some ⟨gm, 0, none⟩) 0 ([] : List Vl) :: row encI 1 tI (some ⟨gl, 0, none⟩) 0 ([] : List Int) :: row encI 1 tI (some ⟨gw, 0, none⟩) 0 ([] : List Int) :: rws (pre ++ post) :: row encO 6 tO W.cA W.cC W.code :: rowI Aq cq (less W.queue ((k0 : Int) + 1)) :: row encI 1 tI a.lA a.lC r.links :: row encI 1 tI a.wA a.wC r.watched :: blk g5 tV [.int .i64 vk, .int .i64 vn] :: blk g6 tW [.slice none 0 0, .slice none 0 0, .slice none 0 0, .int .i64 0, .int .i64 0, .int .i64 0, .int .i64 0] :: L') sl
      exact ⟨_, rfl, rfl, rfl, rfl, rfl, rfl, rfl, endSelf_eq hps.out hpl.out _ _ hls.out _ _ _ _ _ _, close_at M2 hnn.out⟩
    --]2
  case rest =>
    have hsf : MidW nn 6 (endSelf W.wd ((k0 : Int) + 1) ⟨vk, vn⟩) := by rw [hlen.out]; exact hm.out.self (by omega) (by omega) _
    have hse := endFirst_self W.wd ((k0 : Int) + 1) ⟨vk, vn⟩
    have hW1 : Hid (MidW nn 6 (endSelf W.wd ((k0 : Int) + 1) ⟨vk, vn⟩)) := hsf
    have hn1 : nn ≤ 1000 := by rw [hlen.out]; exact hn
    clear M F HLQ wl ls hls hpl hnn
    obtain ⟨V, rfl, rfl, rfl, rfl, rfl, rfl, rfl, hV, M⟩ := hcut
    replace hse := Lib.hid hse
    clear hsf
    generalize endSelf W.wd ((k0 : Int) + 1) ⟨vk, vn⟩ = W1 at hV hse hW1
    (try clear F); have F := fxw M
    go_wp2
    go_loopg [11] nn (fun gg i wr => ∃ (k : Nat) (V1 : Wm), k ≤ nn ∧ nn - k ≤ gg ∧ i = .int .i64 k ∧ Hid (V1.wd = { W1 with runs := wat ((k0 : Int) + 1) k W1.runs }) ∧ Hid (Mem w0 f wr (blk g3 tW (w7 V1) :: wld V1 :: row encI 1 tI a.lA a.lC r.links :: row encI 1 tI a.wA a.wC r.watched :: blk g5 tV [.int .i64 vk, .int .i64 vn] :: blk g6 tW [.slice none 0 0, .slice none 0 0, .slice none 0 0, .int .i64 0, .int .i64 0, .int .i64 0, .int .i64 0] :: L')))
    case atStart => exact ⟨0, V, by omega, by omega, rfl, by rw [wat_zero]; exact hV, M⟩
    case round =>
      clear M F hV
      obtain ⟨k, V1, hk1, hg, rfl, hV1, M⟩ := hrel
      replace M := M.out
      have hl1 : V1.ps.length = nn := by
        have h1 := congrArg (fun w => w.runs.length) hV1.out
        simp only [runsLen, wat_length] at h1
        rw [h1]
        exact hW1.out.len
      by_cases hlt : k < nn
      · --[3
        replace M := open_at (k := k) M (by omega)
        obtain ⟨gr1, n1, pre1, post1, r1, a1, hA1, hps1, hpl1, hnn1, hlen1, M⟩ := M
        have hsp := wat_split (id := (k0 : Int) + 1) (i := k) (l := W1.runs) (pre := pre1) (post := post1) (p := (r1, a1)) (by rw [← hps1]; exact congrArg Wd.runs hV1.out) hpl1 (by rw [hW1.out.len]; exact hlt)
        have hb : r1.watched.length ≤ 1000 := by
          have e := hsp.1
          simp only at e
          rw [e]
          exact hW1.out.wlen _
        have HL1 := Lib.hid (fun (V : World) (L1 L2 : List Asn) (M : Mem w0 f V L1) (hd : Del (row encI 1 tI a1.wA a1.wC r1.watched) L1 L2) => sLess r1.watched ((k0 : Int) + 1) a1.wA a1.wC V.heap.size V (readsI M hd) (Nat.le_refl _) (Nat.le_trans hb (by decide)))
        have i1 : (0 : Int) ≤ k := by omega
        have i2 : (k : Int) < n1 := by omega
        have wi : IntKind.i64.wrap ((k : Int) + 1) = (k : Int) + 1 := by rw [IntKind.wrap_i64]; omega
        have hwd := Lib.hid (fun (A : Option Addr) (c : Nat) => (wd_runs hV1.out (pre1 ++ (({ r1 with watched := less r1.watched ((k0 : Int) + 1) }, { a1 with wA := A, wC := c }) : Rn × RA) :: post1) V1.cA (some ⟨gr1, 0, none⟩) V1.qA V1.cC V1.rC V1.qC).trans (by rw [hsp.2]))
        replace hnn1 := Lib.hid hnn1
        replace hpl1 := Lib.hid hpl1
        clear hA1 hps1 hlen1 hsp hb hl1 hV1
        unfold opened at M
        (try clear F); have F := fxw M
        go_upto_region 16 with fail
        have E8 := (runAt_mid M dl hpl1.out).2.2.2.2.2.2.2.2.1
        clear F
        refine held_begin (S := (fun W' => ∀ j, W'.cell? ⟨g3, j, none⟩ = ([.slice V1.cA V1.code.length V1.cC, .slice (some ⟨gr1, 0, none⟩) n1 V1.rC, .slice V1.qA V1.queue.length V1.qC, .int .i64 V1.now, .int .i64 V1.sent, .int .i64 V1.taken, .int .i64 V1.lost] : List Value)[j]?)) (by kernel_rfl) (fun _ _ _ _ _ h => h) (by (exact kc)) (fun HQ hHeld => ?_)
        refine tkY HQ hHeld 0 ?_; refine tkY HQ hHeld 1 ?_; refine tkY HQ hHeld 2 ?_; refine tkY HQ hHeld 3 ?_; refine tkY HQ hHeld 4 ?_; refine tkY HQ hHeld 5 ?_; refine tkY HQ hHeld 6 ?_; refine tkY HQ hHeld 7 ?_; refine tkY HQ hHeld 9 ?_
        refine stp 8 (fun K hK => ?_); go_simp
        (try go_wp2_with fail); refine hK.out _ _ (by (exact kc)) (fun hHeld => ?_); clear hK K; (try simp only [AX])
        refine stp 10 (fun K hK => ?_); go_simp
        (go_at_call 154; (refine nmKw ?_; clear M; (try clear F); intro w1 M F); refine (HL1.out _ _ _ M dl).mono ?_; rintro e w2 ⟨A5, c5, rfl, hm2⟩; replace M := M.call0 hm2; clear hm2; clear F)
        (try go_wp2_with fail); refine hK.out _ _ (by (exact kc)) (fun hHeld => ?_); clear hK K; (try simp only [AX])
        refine tkY HQ hHeld 11 ?_; refine tkY HQ hHeld 12 ?_
        refine stp 13 (fun K hK => ?_)
        refine op_of_list rfl ?_; ((with_reducible apply ev_elem (enc := encR) (x' := (({ r1 with watched := less r1.watched ((k0 : Int) + 1) }, { a1 with wA := A5, wC := c5 }) : Rn × RA)) (j := 8) (k := k) (hk := encR_length) (M := M)); rfl; rfl; ((conv => lhs; whnf) <;> rfl); rfl; exact siSI; rfl; (exact dl); (first | with_reducible rfl | with_reducible exact (Nat.add_zero _).symm); exact hpl1.out; decide; exact setR8x _ _ _ _ _; clear M; intro w1 M)
        (try go_wp2_with fail); refine hK.out _ _ (by (exact kc)) (fun hHeld => ?_); clear hK K; (try simp only [AX])
        refine wpAnyH_done (by kernel_rfl) ?_ _; clear HQ; (repeat clear hHeld)
        go_wp2
        go_roundg (nn - (k + 1))
        case measure => omega
        case rel => exact ⟨k + 1, _, by omega, by omega, by go_num, hwd.out A5 c5, close_at (g := g3) (r := { r1 with watched := less r1.watched ((k0 : Int) + 1) }) (a := { a1 with wA := A5, wC := c5 }) (M.sel (T := blk g3 tW [.slice V1.cA V1.code.length V1.cC, .slice (some ⟨gr1, 0, none⟩) n1 V1.rC, .slice V1.qA V1.queue.length V1.qC, .int .i64 V1.now, .int .i64 V1.sent, .int .i64 V1.taken, .int .i64 V1.lost] :: row encR 13 tR (some ⟨gr1, 0, none⟩) V1.rC (pre1 ++ (({ r1 with watched := less r1.watched ((k0 : Int) + 1) }, { a1 with wA := A5, wC := c5 }) : Rn × RA) :: post1) :: row encV 2 tV a1.sA a1.sC r1.slots :: row encV 2 tV a1.mA a1.mC r1.mail :: row encI 1 tI a1.lA a1.lC r1.links :: rowI A5 c5 (less r1.watched ((k0 : Int) + 1)) :: rws (pre1 ++ post1) :: row encO 6 tO V1.cA V1.cC V1.code :: row encI 1 tI V1.qA V1.qC V1.queue :: row encI 1 tI a.lA a.lC r.links :: row encI 1 tI a.wA a.wC r.watched :: blk g5 tV [.int .i64 vk, .int .i64 vn] :: blk g6 tW [.slice none 0 0, .slice none 0 0, .slice none 0 0, .int .i64 0, .int .i64 0, .int .i64 0, .int .i64 0] :: L') (.cons (.there (.there .here)) (.cons .here (.cons (.there .here) (.cons (.there .here) (.cons (.there .here) (.cons .here (.cons (.there .here) (.cons (.there .here) (.cons (.there .here) (.drop .refl))))))))))) hnn1.out⟩
        --]3
      · have hkn : k = nn := by omega
        have hV2 : V1.wd = endFirst W.wd ((k0 : Int) + 1) ⟨vk, vn⟩ := by rw [hV1.out, hse.out, hkn, hW1.out.len]
        replace hV2 := Lib.hid hV2
        subst hkn
        have i3 : ¬ ((k : Int) < V1.ps.length) := by omega
        clear hV1 hse hg hl1
        (try clear F); have F := fxw M
        go_upto_region 18 with (first | (with_reducible refine alAw M ?_; clear M; (try clear F); intro w1 M F))
        go_cut [1, 3, 5, 6, 9, 10, 12, 13] from 16 (fun s1 s3 s5 s6 s9 s10 s12 s13 wx => ∃ g12 : Nat, s1 = .int .i64 ((k0 : Int) + 1) ∧ s3 = .pointer (some ⟨g3, 0, none⟩) ∧ s5 = .pointer (some ⟨g5, 0, none⟩) ∧ s6 = .pointer (some ⟨g6, 0, none⟩) ∧ s9 = .slice a.lA r.links.length a.lC ∧ s10 = .slice a.wA r.watched.length a.wC ∧ s12 = .slice (some ⟨g12, 0, none⟩) 0 0 ∧ s13 = .int .i64 0 ∧ Mem w0 f wx (row encI 1 tI (some ⟨g12, 0, none⟩) 0 ([] : List Int) :: blk g3 tW (w7 V1) :: wld V1 :: row encI 1 tI a.lA a.lC r.links :: row encI 1 tI a.wA a.wC r.watched :: blk g5 tV [.int .i64 vk, .int .i64 vn] :: blk g6 tW [.slice none 0 0, .slice none 0 0, .slice none 0 0, .int .i64 0, .int .i64 0, .int .i64 0, .int .i64 0] :: L'))
        case first =>
          go_wp2
          (refine nmw (G := fun W => Met _ _ W) ?_; clear M; (try clear F); intro w1 M F)
          go_meet
          case rel => exact ⟨_, rfl, rfl, rfl, rfl, rfl, rfl, rfl, rfl, Mem.row_of encI_length (xs := []) M rfl (by simp)⟩
        case rest =>
          clear M F
          obtain ⟨g12, rfl, rfl, rfl, rfl, rfl, rfl, rfl, rfl, M⟩ := hcut
          have hm2 : MidW k 6 (endFirst W.wd ((k0 : Int) + 1) ⟨vk, vn⟩) := by
            have h := hm.out
            rw [← hlen.out] at h
            exact h.first (by omega) (by omega) _
          have hl2 := hlk.out
          have HF := HFin.out
          clear hlk HFin i3 hm hlen hn hk hps hA hl
          generalize endFirst W.wd ((k0 : Int) + 1) ⟨vk, vn⟩ = W2 at hV2 hm2 HF
          generalize r.links = ll at M HF hl2 hbl ⊢
          generalize r.watched = ws at M HF hbw ⊢
          generalize a.lA = lA at M ⊢
          generalize a.lC = lC at M ⊢
          generalize a.wA = wA at M ⊢
          generalize a.wC = wC at M ⊢
          replace HF := Lib.hid HF
          replace hl2 := Lib.hid hl2
          replace hm2 := Lib.hid hm2
          (try clear F); have F := fxw M
          go_wp2
          go_loopg [12, 13, 14] ll.length (fun gg v i _ wr => ∃ (j : Nat) (V1 : Wm) (A : Option Addr) (c : Nat), j ≤ ll.length ∧ ll.length - j ≤ gg ∧ v = .slice A ((ll.take j).foldl (linkStep ((k0 : Int) + 1) (isNormal ⟨vk, vn⟩)) (W2, [])).2.length c ∧ i = .int .i64 j ∧ Hid (V1.wd = ((ll.take j).foldl (linkStep ((k0 : Int) + 1) (isNormal ⟨vk, vn⟩)) (W2, [])).1) ∧ Hid (MidW k (6 + j) ((ll.take j).foldl (linkStep ((k0 : Int) + 1) (isNormal ⟨vk, vn⟩)) (W2, [])).1) ∧ Hid (((ll.take j).foldl (linkStep ((k0 : Int) + 1) (isNormal ⟨vk, vn⟩)) (W2, [])).2.length ≤ j) ∧ Hid (Mem w0 f wr (row encI 1 tI A c ((ll.take j).foldl (linkStep ((k0 : Int) + 1) (isNormal ⟨vk, vn⟩)) (W2, [])).2 :: blk g3 tW (w7 V1) :: wld V1 :: row encI 1 tI lA lC ll :: row encI 1 tI wA wC ws :: blk g5 tV [.int .i64 vk, .int .i64 vn] :: blk g6 tW [.slice none 0 0, .slice none 0 0, .slice none 0 0, .int .i64 0, .int .i64 0, .int .i64 0, .int .i64 0] :: L')))
          case atStart => exact ⟨0, V1, _, _, by omega, by omega, rfl, rfl, hV2, hm2, by simp [Hid], M⟩
          case round =>
            clear M F hV2 hm2
            clear V1
            obtain ⟨j, V1, A, c, hj1, hg, rfl, rfl, hV1, hmj, hnj, M⟩ := hrel
            replace M := M.out
            by_cases hlt : j < ll.length
            · have hx := hl2.out _ (List.getElem_mem hlt)
              have hsj := steps_succ hlt ((k0 : Int) + 1) (isNormal ⟨vk, vn⟩) (W2, [])
              obtain ⟨ad, rfl, _, hcx⟩ := (readsI M (.there (.there (.there .here)))).int hlt
              generalize ll[j] = x at hx hsj hcx
              generalize (ll.take j).foldl (linkStep ((k0 : Int) + 1) (isNormal ⟨vk, vn⟩)) (W2, []) = st at hV1 hmj hnj M hsj ⊢
              obtain ⟨kk, hkk⟩ : ∃ kk : Nat, x = (kk : Int) + 1 := ⟨(x - 1).toNat, by omega⟩
              subst hkk
              have hl1 : V1.ps.length = k := by
                rw [← runsLen, hV1.out]
                exact hmj.out.len
              have i1 : (0 : Int) ≤ j := by omega
              have i2 : (j : Int) < ll.length := by omega
              have wi : IntKind.i64.wrap ((j : Int) + 1) = (j : Int) + 1 := by rw [IntKind.wrap_i64]; omega
              have wk : IntKind.i64.wrap ((kk : Int) + 1 - 1) = (kk : Int) := by rw [IntKind.wrap_i64]; omega
              have wk2 : IntKind.i64.wrap (kk : Int) = (kk : Int) := by rw [IntKind.wrap_i64]; omega
              have i4 : (0 : Int) ≤ kk := by omega
              replace M := open_at (k := kk) (M.sel (T := blk g3 tW (w7 V1) :: wld V1 :: row encI 1 tI A c st.2 :: row encI 1 tI (some ad) lC ll :: row encI 1 tI wA wC ws :: blk g5 tV [.int .i64 vk, .int .i64 vn] :: blk g6 tW [.slice none 0 0, .slice none 0 0, .slice none 0 0, .int .i64 0, .int .i64 0, .int .i64 0, .int .i64 0] :: L') sl) (by omega)
              obtain ⟨gr1, n1, pre1, post1, r1, a1, hA1, hps1, hpl1, hnn1, hlen1, M⟩ := M
              have i5 : (kk : Int) < n1 := by omega
              have hb : r1.links.length ≤ 1000 := by
                have h := (hmj.out.lst ((kk : Int) + 1) (by omega) (by omega)).1
                rw [← hV1.out] at h
                have e : V1.wd.runs = (pre1 ++ (r1, a1) :: post1).map (·.1) := by rw [← hps1]; rfl
                rw [e, mid_run hpl1] at h
                exact h
              have htr : (getR st.1.runs ((kk : Int) + 1)).trap = r1.trap := by
                have e : st.1.runs = (pre1 ++ (r1, a1) :: post1).map (·.1) := by rw [← hV1.out, ← hps1]; rfl
                rw [e, mid_run hpl1]
              have HL1 := Lib.hid (fun (V : World) (L1 L2 : List Asn) (M : Mem w0 f V L1) (hd : Del (row encI 1 tI a1.lA a1.lC r1.links) L1 L2) => sLess r1.links ((k0 : Int) + 1) a1.lA a1.lC V.heap.size V (readsI M hd) (Nat.le_refl _) (Nat.le_trans hb (by decide)))
              have hwd : Hid (∀ (A : Option Addr) (c : Nat), Wm.wd ⟨V1.code, V1.cA, V1.cC, pre1 ++ (({ r1 with links := less r1.links ((k0 : Int) + 1) }, { a1 with lA := A, lC := c }) : Rn × RA) :: post1, some ⟨gr1, 0, none⟩, V1.rC, V1.queue, V1.qA, V1.qC, V1.now, V1.sent, V1.taken, V1.lost⟩ = unlink st.1 ((kk : Int) + 1) ((k0 : Int) + 1)) := fun A c => by
                rw [← hV1.out]
                exact unlink_eq hps1 hpl1 _ _ _ _ _ _ _ _
              have hmu : Hid (MidW k (6 + j) (unlink st.1 ((kk : Int) + 1) ((k0 : Int) + 1))) := hmj.out.unlink (by omega) (by omega) _
              have hms : Hid (MidW k (6 + (j + 1)) ((ll.take (j + 1)).foldl (linkStep ((k0 : Int) + 1) (isNormal ⟨vk, vn⟩)) (W2, [])).1) := by
                rw [hsj]
                exact hmj.out.step _ _ (by omega) (by omega)
              have hns : Hid (((ll.take (j + 1)).foldl (linkStep ((k0 : Int) + 1) (isNormal ⟨vk, vn⟩)) (W2, [])).2.length ≤ j + 1) := by
                rw [hsj]
                exact Nat.le_trans (step_next _ _ _ _) (Nat.succ_le_succ hnj.out)
              have hkk : Hid ((kk : Int) + 1 ≤ k ∧ k ≤ 1000) := ⟨by omega, by omega⟩
              have hkk2 : 6 + j ≤ 1000000 := by omega
              replace hnn1 := Lib.hid hnn1
              replace hpl1 := Lib.hid hpl1
              replace hsj := Lib.hid hsj
              replace htr := Lib.hid htr
              clear hA1 hps1 hlen1 hb hl1 hV1 hmj hx
              unfold opened at M
              (try clear F); have F := fxw M
              go_upto_region 22 with fail
              clear hcx
              go_cut [1, 3, 5, 6, 9, 10, 12, 13, 14, 124, 125, 126, 127, 128, 129, 130, 131, 132, 133, 134, 135, 136, 137, 138, 139] from 75 (fun s1 s3 s5 s6 s9 s10 s12 s13 s14 s124 s125 s126 s127 s128 s129 s130 s131 s132 s133 s134 s135 s136 s137 s138 s139 wx => ∃ (A5 : Option Addr) (c5 : Nat), s1 = .int .i64 ((k0 : Int) + 1) ∧ s3 = .pointer (some ⟨g3, 0, none⟩) ∧ s5 = .pointer (some ⟨g5, 0, none⟩) ∧ s6 = .pointer (some ⟨g6, 0, none⟩) ∧ s9 = .slice (some ad) ll.length lC ∧ s10 = .slice wA ws.length wC ∧ s12 = .slice A st.2.length c ∧ s13 = .int .i64 j ∧ s14 = .int .i64 ((kk : Int) + 1) ∧ u124 = s124 ∧ u125 = s125 ∧ u126 = s126 ∧ u127 = s127 ∧ u128 = s128 ∧ u129 = s129 ∧ u130 = s130 ∧ u131 = s131 ∧ u132 = s132 ∧ u133 = s133 ∧ u134 = s134 ∧ u135 = s135 ∧ u136 = s136 ∧ u137 = s137 ∧ u138 = s138 ∧ u139 = s139 ∧
                Mem w0 f wx (blk g3 tW [.slice V1.cA V1.code.length V1.cC, .slice (some ⟨gr1, 0, none⟩) n1 V1.rC, .slice V1.qA V1.queue.length V1.qC, .int .i64 V1.now, .int .i64 V1.sent, .int .i64 V1.taken, .int .i64 V1.lost] :: row encR 13 tR (some ⟨gr1, 0, none⟩) V1.rC (pre1 ++ (({ r1 with links := less r1.links ((k0 : Int) + 1) }, { a1 with lA := A5, lC := c5 }) : Rn × RA) :: post1) :: row encV 2 tV a1.sA a1.sC r1.slots :: row encV 2 tV a1.mA a1.mC r1.mail :: rowI A5 c5 (less r1.links ((k0 : Int) + 1)) :: row encI 1 tI a1.wA a1.wC r1.watched :: rws (pre1 ++ post1) :: row encO 6 tO V1.cA V1.cC V1.code :: row encI 1 tI V1.qA V1.qC V1.queue :: row encI 1 tI A c st.2 :: row encI 1 tI (some ad) lC ll :: row encI 1 tI wA wC ws :: blk g5 tV [.int .i64 vk, .int .i64 vn] :: blk g6 tW [.slice none 0 0, .slice none 0 0, .slice none 0 0, .int .i64 0, .int .i64 0, .int .i64 0, .int .i64 0] :: L'))
              case first =>
                --[5
                have E7 := (runAt_mid M dl hpl1.out).2.2.2.2.2.2.2.1
                clear F
                refine held_begin (S := (fun W' => ∀ j, W'.cell? ⟨g3, j, none⟩ = ([.slice V1.cA V1.code.length V1.cC, .slice (some ⟨gr1, 0, none⟩) n1 V1.rC, .slice V1.qA V1.queue.length V1.qC, .int .i64 V1.now, .int .i64 V1.sent, .int .i64 V1.taken, .int .i64 V1.lost] : List Value)[j]?)) (by kernel_rfl) (fun _ _ _ _ _ h => h) (by (exact kc)) (fun HQ hHeld => ?_)
                refine tkY HQ hHeld 0 ?_; refine tkY HQ hHeld 1 ?_; refine tkY HQ hHeld 2 ?_; refine tkY HQ hHeld 3 ?_; refine tkY HQ hHeld 4 ?_; refine tkY HQ hHeld 5 ?_; refine tkY HQ hHeld 6 ?_; refine tkY HQ hHeld 7 ?_; refine tkY HQ hHeld 8 ?_; refine tkY HQ hHeld 9 ?_; refine tkY HQ hHeld 11 ?_
                refine stp 10 (fun K hK => ?_); go_simp
                (try go_wp2_with fail); refine hK.out _ _ (by (exact kc)) (fun hHeld => ?_); clear hK K; (try simp only [AX])
                refine stp 12 (fun K hK => ?_); go_simp
                (go_at_call 154; (refine nmKw ?_; clear M; (try clear F); intro w1 M F); refine (HL1.out _ _ _ M dl).mono ?_; rintro e w2 ⟨A5, c5, rfl, hm2⟩; replace M := M.call0 hm2; clear hm2; clear F)
                (try go_wp2_with fail); refine hK.out _ _ (by (exact kc)) (fun hHeld => ?_); clear hK K; (try simp only [AX])
                refine tkY HQ hHeld 13 ?_; refine tkY HQ hHeld 14 ?_
                refine stp 15 (fun K hK => ?_)
                refine op_of_list rfl ?_; ((with_reducible apply ev_elem (enc := encR) (x' := (({ r1 with links := less r1.links ((k0 : Int) + 1) }, { a1 with lA := A5, lC := c5 }) : Rn × RA)) (j := 7) (k := kk) (hk := encR_length) (M := M)); rfl; rfl; ((conv => lhs; whnf) <;> rfl); rfl; exact siSI; rfl; (exact dl); (first | with_reducible rfl | with_reducible exact (Nat.add_zero _).symm); exact hpl1.out; decide; exact setR7x _ _ _ _ _; clear M; intro w1 M)
                (try go_wp2_with fail); refine hK.out _ _ (by (exact kc)) (fun hHeld => ?_); clear hK K; (try simp only [AX])
                refine wpAnyH_done (by kernel_rfl) ?_ _; clear HQ; (repeat clear hHeld)
                go_wp2
                (refine nmw (G := fun W => Met _ _ W) ?_; clear M; (try clear F); intro w1 M F)
                go_meet
                case rel => exact ⟨A5, c5, rfl, rfl, rfl, rfl, rfl, rfl, rfl, rfl, rfl, rfl, rfl, rfl, rfl, rfl, rfl, rfl, rfl, rfl, rfl, rfl, rfl, rfl, rfl, rfl, rfl, M.sel (.cons (.there (.there .here)) (.cons .here (.cons (.there .here) (.cons (.there .here) (.cons .here (.cons (.there .here) (.cons (.there .here) (.cons (.there .here) (.cons (.there .here) (.drop .refl))))))))))⟩
                --]5
              case rest =>
                clear M F
                obtain ⟨A5, c5, rfl, rfl, rfl, rfl, rfl, rfl, rfl, rfl, rfl, rfl, rfl, rfl, rfl, rfl, rfl, rfl, rfl, rfl, rfl, rfl, rfl, rfl, rfl, rfl, rfl, M⟩ := hcut
                have HN := Lib.hid (fun V => sNormal ⟨vk, vn⟩ V)
                have HE9 : Hid (∀ (U : World) (L1 L2 : List Asn), Mem w0 f U L1 → Del (row encR 13 tR (some ⟨gr1, 0, none⟩) V1.rC (pre1 ++ (({ r1 with links := less r1.links ((k0 : Int) + 1) }, { a1 with lA := A5, lC := c5 }) : Rn × RA) :: post1)) L1 L2 → U.cell? ⟨gr1, kk * 13 + 9, none⟩ = some (.bool r1.trap)) := fun U L1 L2 M hd => (runAt_mid M hd hpl1.out).2.2.2.2.2.2.2.2.2.1
                obtain ⟨V2, hV2, hM⟩ : ∃ V2 : Wm, Hid (V2.wd = unlink st.1 ((kk : Int) + 1) ((k0 : Int) + 1)) ∧ Hid (∀ U : World, Mem w0 f U (blk g3 tW [.slice V1.cA V1.code.length V1.cC, .slice (some ⟨gr1, 0, none⟩) n1 V1.rC, .slice V1.qA V1.queue.length V1.qC, .int .i64 V1.now, .int .i64 V1.sent, .int .i64 V1.taken, .int .i64 V1.lost] :: row encR 13 tR (some ⟨gr1, 0, none⟩) V1.rC (pre1 ++ (({ r1 with links := less r1.links ((k0 : Int) + 1) }, { a1 with lA := A5, lC := c5 }) : Rn × RA) :: post1) :: row encV 2 tV a1.sA a1.sC r1.slots :: row encV 2 tV a1.mA a1.mC r1.mail :: rowI A5 c5 (less r1.links ((k0 : Int) + 1)) :: row encI 1 tI a1.wA a1.wC r1.watched :: rws (pre1 ++ post1) :: row encO 6 tO V1.cA V1.cC V1.code :: row encI 1 tI V1.qA V1.qC V1.queue :: row encI 1 tI A c st.2 :: row encI 1 tI (some ad) lC ll :: row encI 1 tI wA wC ws :: blk g5 tV [.int .i64 vk, .int .i64 vn] :: blk g6 tW [.slice none 0 0, .slice none 0 0, .slice none 0 0, .int .i64 0, .int .i64 0, .int .i64 0, .int .i64 0] :: L') → Mem w0 f U (blk g3 tW (w7 V2) :: wld V2 :: row encI 1 tI A c st.2 :: row encI 1 tI (some ad) lC ll :: row encI 1 tI wA wC ws :: blk g5 tV [.int .i64 vk, .int .i64 vn] :: blk g6 tW [.slice none 0 0, .slice none 0 0, .slice none 0 0, .int .i64 0, .int .i64 0, .int .i64 0, .int .i64 0] :: L')) := ⟨_, hwd.out A5 c5, fun U M => close_at (g := g3) (r := { r1 with links := less r1.links ((k0 : Int) + 1) }) (a := { a1 with lA := A5, lC := c5 }) M hnn1.out⟩
                clear hwd HL1
                cases hnm : isNormal ⟨vk, vn⟩ with
                | true =>
                  --[6
                  have e : Hid ((ll.take (j + 1)).foldl (linkStep ((k0 : Int) + 1) (isNormal ⟨vk, vn⟩)) (W2, []) = (unlink st.1 ((kk : Int) + 1) ((k0 : Int) + 1), st.2)) := hsj.out.trans (by rw [hnm]; exact link_n _ _ _)
                  rw [hnm] at HN
                  clear hsj htr
                  replace hnm := Lib.hid hnm
                  (try clear F); have F := fxw M
                  go_wp2_with (first | (go_at_call 169; (refine nmKw ?_; clear M; (try clear F); intro w1 M F); refine (HN.out _).mono ?_; rintro e w2 ⟨rfl, hb⟩; replace M := M.below hb; clear hb; (try clear F); have F := fxw M))
                  go_roundg (ll.length - (j + 1))
                  case measure => omega
                  case rel =>
                    have M2 : Mem w0 f _ (row encI 1 tI A c st.2 :: blk g3 tW (w7 V2) :: wld V2 :: row encI 1 tI (some ad) lC ll :: row encI 1 tI wA wC ws :: blk g5 tV [.int .i64 vk, .int .i64 vn] :: blk g6 tW [.slice none 0 0, .slice none 0 0, .slice none 0 0, .int .i64 0, .int .i64 0, .int .i64 0, .int .i64 0] :: L') := (hM.out _ M).sel sl
                    refine ⟨j + 1, V2, A, c, by omega, by omega, ?_, by go_num, ?_, hms, hns, ?_⟩
                    all_goals rw [e.out]
                    · exact hV2
                    · exact M2
                  --]6
                | false =>
                  rw [hnm] at HN
                  cases htp : r1.trap with
                  | true =>
                    --[7
                    have e : Hid ((ll.take (j + 1)).foldl (linkStep ((k0 : Int) + 1) (isNormal ⟨vk, vn⟩)) (W2, []) = (give (unlink st.1 ((kk : Int) + 1) ((k0 : Int) + 1)) ((kk : Int) + 1) ⟨3, (k0 : Int) + 1⟩, st.2)) := hsj.out.trans (by rw [hnm]; exact link_t (htr.out.trans htp))
                    replace HE9 : Hid (∀ (U : World) (L1 L2 : List Asn), Mem w0 f U L1 → Del (row encR 13 tR (some ⟨gr1, 0, none⟩) V1.rC (pre1 ++ (({ r1 with links := less r1.links ((k0 : Int) + 1) }, { a1 with lA := A5, lC := c5 }) : Rn × RA) :: post1)) L1 L2 → U.cell? ⟨gr1, kk * 13 + 9, none⟩ = some (.bool true)) := fun U L1 L2 M hd => by rw [HE9.out U L1 L2 M hd, htp]
                    have HG : Hid (∀ (U : World) (L1 L2 : List Asn), Mem w0 f U L1 → Del (wld V2) L1 L2 → Calls Try.prog 148 #[.agg (wArr V2), .int .i64 ((kk : Int) + 1), .agg #[.int .i64 3, .int .i64 ((k0 : Int) + 1)]] U (fun e w' => ∃ Y : Wm, Y.wd = give (unlink st.1 ((kk : Int) + 1) ((k0 : Int) + 1)) ((kk : Int) + 1) ⟨3, (k0 : Int) + 1⟩ ∧ e = .returned (.agg (wArr Y)) ∧ Mem w0 f w' (wld Y :: L2))) := fun U L1 L2 M hd => giveMid V2 _ hV2.out k (6 + j) hmu.out hkk.out.2 hkk2 ((kk : Int) + 1) ⟨3, (k0 : Int) + 1⟩ M hd
                    clear hsj htr htp
                    replace hnm := Lib.hid hnm
                    (try clear F); have F := fxw M
                    go_upto_region 24 with (first | (go_at_call 169; (refine nmKw ?_; clear M; (try clear F); intro w1 M F); refine (HN.out _).mono ?_; rintro e w2 ⟨rfl, hb⟩; replace M := M.below hb; clear hb; (try clear F); have F := fxw M; have E9 := HE9.out _ _ _ M dl))
                    replace M := hM.out _ M
                    clear E9 HE9
                    (try clear F); have F := fxw M
                    go_wp2_with (first | ((with_reducible apply ev_store (M := M)); rfl; rfl; ((conv => lhs; whnf) <;> rfl); rfl; (first | exact siI | exact siR | exact siV | exact siB | exact siSI | exact siSV | exact siW | exact siSR | exact siSO | exact siO); (exact one_all rfl); (exact dl); (exact Nat.le_of_ble_eq_true rfl); clear M; intro w1 M; simp only [SX] at M; (try clear F); have F := fxw M) | (go_at_call 148; (refine nmKw ?_; clear M; (try clear F); intro w1 M F); refine (HG.out _ _ _ M dl).mono ?_; clear M; rintro e w2 ⟨Y, hY, rfl, M⟩; replace hY := Lib.hid hY; (try clear F); have F := fxw M))
                    go_roundg (ll.length - (j + 1))
                    case measure => omega
                    case rel =>
                      have M2 : Mem w0 f _ (row encI 1 tI A c st.2 :: blk g3 tW (w7 Y) :: wld Y :: row encI 1 tI (some ad) lC ll :: row encI 1 tI wA wC ws :: blk g5 tV [.int .i64 vk, .int .i64 vn] :: blk g6 tW [.slice none 0 0, .slice none 0 0, .slice none 0 0, .int .i64 0, .int .i64 0, .int .i64 0, .int .i64 0] :: L') := M.sel sl
                      refine ⟨j + 1, Y, A, c, by omega, by omega, ?_, by go_num, ?_, hms, hns, ?_⟩
                      all_goals rw [e.out]
                      · exact hY
                      · exact M2
                    --]7
                  | false =>
                    --[8
                    have e : Hid ((ll.take (j + 1)).foldl (linkStep ((k0 : Int) + 1) (isNormal ⟨vk, vn⟩)) (W2, []) = (unlink st.1 ((kk : Int) + 1) ((k0 : Int) + 1), st.2 ++ [(kk : Int) + 1])) := hsj.out.trans (by rw [hnm]; exact link_o (htr.out.trans htp))
                    replace HE9 : Hid (∀ (U : World) (L1 L2 : List Asn), Mem w0 f U L1 → Del (row encR 13 tR (some ⟨gr1, 0, none⟩) V1.rC (pre1 ++ (({ r1 with links := less r1.links ((k0 : Int) + 1) }, { a1 with lA := A5, lC := c5 }) : Rn × RA) :: post1)) L1 L2 → U.cell? ⟨gr1, kk * 13 + 9, none⟩ = some (.bool false)) := fun U L1 L2 M hd => by rw [HE9.out U L1 L2 M hd, htp]
                    clear hsj htr htp
                    replace hnm := Lib.hid hnm
                    have hn2 : st.2.length ≤ 1000 := Nat.le_trans hnj.out (by omega)
                    (try clear F); have F := fxw M
                    go_upto_region 26 with (first | (go_at_call 169; (refine nmKw ?_; clear M; (try clear F); intro w1 M F); refine (HN.out _).mono ?_; rintro e w2 ⟨rfl, hb⟩; replace M := M.below hb; clear hb; (try clear F); have F := fxw M; have E9 := HE9.out _ _ _ M dl))
                    replace M := hM.out _ M
                    clear E9 HE9
                    (try clear F); have F := fxw M
                    go_wp2_with (first | ((with_reducible refine alAw M ?_; clear M; (try clear F); intro w1 M F); ((with_reducible apply ev_app1 (enc := encI) (v := (kk : Int) + 1) (hk := encI_length) (hone := oneIx) (h0 := by decide) (hinfo := infIx) (ht := Try.underlying23) (M := M)); rfl; rfl; (exact dl); (exact dl); rfl; rfl; (first | exact Nat.le_of_ble_eq_true rfl | omega); (exact Nat.le_of_ble_eq_true rfl); clear M; intro A1 c1 w1 M; replace M := Mem.perm M (.swap _ _ _) |> Mem.drop; (try clear F); have F := fxw M)))
                    go_roundg (ll.length - (j + 1))
                    case measure => omega
                    case rel =>
                      have M2 : Mem w0 f _ (row encI 1 tI A1 c1 (st.2 ++ [(kk : Int) + 1]) :: blk g3 tW (w7 V2) :: wld V2 :: row encI 1 tI (some ad) lC ll :: row encI 1 tI wA wC ws :: blk g5 tV [.int .i64 vk, .int .i64 vn] :: blk g6 tW [.slice none 0 0, .slice none 0 0, .slice none 0 0, .int .i64 0, .int .i64 0, .int .i64 0, .int .i64 0] :: L') := M.sel sl
                      refine ⟨j + 1, V2, A1, c1, by omega, by omega, ?_, by go_num, ?_, hms, hns, ?_⟩
                      all_goals rw [e.out]
                      · rw [List.length_append]; rfl
                      · exact hV2
                      · exact M2
                    --]8
            · have hjl : j = ll.length := by omega
              subst hjl
              rw [List.take_length] at hV1 hmj M ⊢
              generalize ll.foldl (linkStep ((k0 : Int) + 1) (isNormal ⟨vk, vn⟩)) (W2, []) = st at HF hV1 hmj M ⊢
              have hk2 : k ≤ 1000 := hn1
              clear hl2 hnj hlt hj1 hg
              have i6 : ¬ ((ll.length : Int) < ll.length) := by omega
              (try clear F); have F := fxw M
              go_upto_region 27 with fail
              go_wp2
              go_loopg [15] ws.length (fun gg v wr => ∃ (i : Nat) (V1 : Wm), i ≤ ws.length ∧ ws.length - i ≤ gg ∧ v = .int .i64 i ∧ Hid (V1.wd = giveAll ((k0 : Int) + 1) st.1 (ws.take i)) ∧ Hid (MidW k (6 + ll.length + i) (giveAll ((k0 : Int) + 1) st.1 (ws.take i))) ∧ Hid (Mem w0 f wr (row encI 1 tI A c st.2 :: blk g3 tW (w7 V1) :: wld V1 :: row encI 1 tI lA lC ll :: row encI 1 tI wA wC ws :: blk g5 tV [.int .i64 vk, .int .i64 vn] :: blk g6 tW [.slice none 0 0, .slice none 0 0, .slice none 0 0, .int .i64 0, .int .i64 0, .int .i64 0, .int .i64 0] :: L')))
              case atStart => exact ⟨0, V1, by omega, by omega, rfl, hV1, hmj, M⟩
              case round =>
                clear M F hV1 hmj i6
                clear V1
                obtain ⟨i, V1, hi1, hg, rfl, hV1, hmi, M⟩ := hrel
                replace M := M.out
                by_cases hlt : i < ws.length
                · --[9
                  have hgs := gives_succ hlt ((k0 : Int) + 1) st.1
                  obtain ⟨ad2, rfl, _, hcx⟩ := (readsI M (.there (.there (.there (.there .here))))).int hlt
                  have HX : Hid (∀ (U : World) (L1 L2 : List Asn), Mem w0 f U L1 → Del (row encI 1 tI (some ad2) wC ws) L1 L2 → U.cell? (ad2.add i) = some (.int .i64 ws[i])) := fun U L1 L2 M hd => by
                    obtain ⟨ad', e, _, h⟩ := (readsI M hd).int hlt
                    injection e with e
                    subst e
                    exact h
                  clear hcx
                  generalize ws[i] = x at hgs HX
                  generalize giveAll ((k0 : Int) + 1) st.1 (ws.take i) = X at hgs hV1 hmi
                  have hmg : Hid (MidW k (6 + ll.length + (i + 1)) (give X x ⟨3, (k0 : Int) + 1⟩)) := hmi.out.give _ _
                  have hqq : 6 + ll.length + i ≤ 1000000 := by omega
                  have HG : Hid (∀ (U : World) (L1 L2 : List Asn), Mem w0 f U L1 → Del (wld V1) L1 L2 → Calls Try.prog 148 #[.agg (wArr V1), .int .i64 x, .agg #[.int .i64 3, .int .i64 ((k0 : Int) + 1)]] U (fun e w' => ∃ Y : Wm, Y.wd = give X x ⟨3, (k0 : Int) + 1⟩ ∧ e = .returned (.agg (wArr Y)) ∧ Mem w0 f w' (wld Y :: L2))) := fun U L1 L2 M hd => giveMid V1 _ hV1.out k _ hmi.out hk2 hqq x ⟨3, (k0 : Int) + 1⟩ M hd
                  have i1 : (0 : Int) ≤ i := by omega
                  have i2 : (i : Int) < ws.length := by omega
                  have wi : IntKind.i64.wrap ((i : Int) + 1) = (i : Int) + 1 := by rw [IntKind.wrap_i64]; omega
                  replace hgs := Lib.hid hgs
                  clear hV1 hmi HF
                  (try clear F); have F := fxw M
                  go_upto_region 30 with fail
                  have EX := HX.out _ _ _ M dl
                  refine held_begin (S := (fun W' => W'.cell? (ad2.add i) = some (.int .i64 x))) (by kernel_rfl) (fun _ _ _ _ _ h => h) (by (exact HX.out _ _ _ mb dl)) (fun HQ hHeld => ?_)
                  refine tkY HQ hHeld 1 ?_; refine tkY HQ hHeld 2 ?_; refine tkY HQ hHeld 3 ?_; refine tkY HQ hHeld 4 ?_; refine tkY HQ hHeld 5 ?_; refine tkY HQ hHeld 6 ?_
                  refine stp 0 (fun K hK => ?_); go_simp
                  (try go_wp2_with fail); refine hK.out _ _ (by (exact HX.out _ _ _ mb dl)) (fun hHeld => ?_); clear hK K; (try simp only [AX])
                  refine stp 7 (fun K hK => ?_); go_simp
                  (go_at_call 148; (refine nmKw ?_; clear M; (try clear F); intro w1 M F); refine (HG.out _ _ _ M dl).mono ?_; clear M; rintro e w2 ⟨Y, hY, rfl, M⟩; replace hY := Lib.hid hY; (try clear F); have F := fxw M)
                  (try go_wp2_with fail); refine hK.out _ _ (by (exact HX.out _ _ _ mb dl)) (fun hHeld => ?_); clear hK K; (try simp only [AX])
                  refine stp 8 (fun K hK => ?_)
                  refine op_of_list rfl ?_; ((with_reducible apply ev_store (M := M)); rfl; rfl; ((conv => lhs; whnf) <;> rfl); rfl; (first | exact siI | exact siR | exact siV | exact siB | exact siSI | exact siSV | exact siW | exact siSR | exact siSO | exact siO); (exact one_all rfl); (exact dl); (exact Nat.le_of_ble_eq_true rfl); clear M; intro w1 M; simp only [SX] at M; (try clear F); have F := fxw M)
                  (try go_wp2_with fail); refine hK.out _ _ (by (exact HX.out _ _ _ mb dl)) (fun hHeld => ?_); clear hK K; (try simp only [AX])
                  refine wpAnyH_done (by kernel_rfl) ?_ _; clear HQ; (repeat clear hHeld)
                  go_wp2
                  go_roundg (ws.length - (i + 1))
                  case measure => omega
                  case rel => exact ⟨i + 1, Y, by omega, by omega, by go_num, by rw [hgs.out]; exact hY, by rw [hgs.out]; exact hmg, M.sel (T := row encI 1 tI A c st.2 :: blk g3 tW (w7 Y) :: wld Y :: row encI 1 tI lA lC ll :: row encI 1 tI (some ad2) wC ws :: blk g5 tV [.int .i64 vk, .int .i64 vn] :: blk g6 tW [.slice none 0 0, .slice none 0 0, .slice none 0 0, .int .i64 0, .int .i64 0, .int .i64 0, .int .i64 0] :: L') sl⟩
                  --]9
                · --[10
                  have hil : i = ws.length := by omega
                  subst hil
                  rw [List.take_length] at hV1
                  have hV3 : Hid (V1.wd = giveAll ((k0 : Int) + 1) st.1 ws) := hV1
                  have i6 : ¬ ((ws.length : Int) < ws.length) := by omega
                  clear hV1 hmi
                  (try clear F); have F := fxw M
                  go_wp2_with (first | ((with_reducible apply ev_store (M := M)); rfl; rfl; ((conv => lhs; whnf) <;> rfl); rfl; (first | exact siI | exact siR | exact siV | exact siB | exact siSI | exact siSV | exact siW | exact siSR | exact siSO | exact siO); (exact one_all rfl); (exact dl); (exact Nat.le_of_ble_eq_true rfl); clear M; intro w1 M; simp only [SX] at M; (try clear F); have F := fxw M))
                  apply ret_cell_tmp (M := M); rfl; rfl; rfl; (exact dl); (first | exact agR | exact agV | exact agW | exact agO); (first | exact siI | exact siR | exact siV | exact siB | exact siSI | exact siSV | exact siW | exact siSR | exact siSO | exact siO); rfl
                  have M2 : Mem w0 f _ (row encI 1 tI A c st.2 :: wld V1 :: L') := M.sel (.drop (.cons .here (.drop (.cons .here (.drop (.drop (.drop .refl)))))))
                  have h9 := HF.out _ V1 A c hV3.out M2
                  exact h9
                  --]10
end Go.Proofs.Ytmidnaafljgbiaa
/- A window of a block of numbers: what a list that is cut at its head lies in; and one round of a falling, plain. -/
namespace Go.Proofs.Ytmidnaafljgbiaa
open Go.RowKit

def win (g d c : Nat) (xs : List Int) : Asn where
  fp := [g]
  P w := ∃ cs : List Value, w.heap[g]? = some (.cells cs.toArray tI (0, 0)) ∧ d + c ≤ cs.length ∧ xs.length ≤ c ∧ c ≤ maxLen ∧ (cs.drop d).take xs.length = flat encI xs
  F _ := True
  loc w w' _ h := fun ⟨cs, hp, r⟩ => ⟨cs, (h g (by simp)).trans hp, r⟩
  lt w := fun ⟨cs, hp, _⟩ k hk => by
    obtain rfl : k = g := by simpa using hk
    exact (Array.getElem?_eq_some_iff.1 hp).1
  imp _ _ := trivial
section
variable {w0 w : World} {f : List Nat} {L L' : List Asn} {g d c : Nat} {x : Int} {xs ys : List Int}
theorem Mem.toWin (M : Mem w0 f w (row encI 1 tI (some ⟨g, 0, none⟩) c xs :: L)) : Mem w0 f w (win g 0 c xs :: L) := by
  refine M.turn (fun h => ?_) (List.Sublist.refl _)
  obtain ⟨cur, hb, c1, c2, c3, c4, c5⟩ := row_blk h
  exact ⟨cur, hb, by omega, c1, c2, by simpa using c4⟩
theorem Mem.winTail (M : Mem w0 f w (win g d c (x :: xs) :: L)) : Mem w0 f w (win g (d + 1) (c - 1) xs :: L) := by
  refine M.turn (fun h => ?_) (List.Sublist.refl _)
  obtain ⟨cs, hb, c1, c2, c3, c4⟩ := h
  simp only [List.length_cons] at c2 c4
  refine ⟨cs, hb, by omega, by omega, by omega, ?_⟩
  have e : (cs.drop (d + 1)).take xs.length = ((cs.drop d).take (xs.length + 1)).drop 1 := by
    rw [List.drop_take, List.drop_drop]
    rfl
  rw [e, c4]
  rfl
theorem Mem.winLast (M : Mem w0 f w (win g d 1 (x :: xs) :: L)) : Mem w0 f w (win g d 0 xs :: L) := by
  refine M.turn (fun h => ?_) (List.Sublist.refl _)
  obtain ⟨cs, hb, c1, c2, c3, c4⟩ := h
  simp only [List.length_cons] at c2
  obtain rfl : xs = [] := List.eq_nil_of_length_eq_zero (by omega)
  exact ⟨cs, hb, by omega, Nat.le_refl _, Nat.zero_le _, rfl⟩
theorem win_cells (M : Mem w0 f w L) (hd : Del (win g d c xs) L L') : ∀ j u, (flat encI xs)[j]? = some u → w.cell? ⟨g, d + j, none⟩ = some u := by
  obtain ⟨cs, hb, c1, c2, c3, c4⟩ := (M.is hd : (win g d c xs).P w)
  intro j u hu
  rw [← c4, List.getElem?_take] at hu
  split at hu
  · rw [List.getElem?_drop] at hu
    rw [cell_of_row w g _ _ tI _ hb]
    simpa using hu
  · cases hu
theorem win_head (M : Mem w0 f w L) (hd : Del (win g d c (x :: xs)) L L') : w.cell? ⟨g, d, none⟩ = some (.int .i64 x) := by
  have h := win_cells M hd 0 (.int .i64 x) rfl
  exact h
theorem win_le (M : Mem w0 f w L) (hd : Del (win g d c xs) L L') : xs.length ≤ c := by
  obtain ⟨cs, hb, c1, c2, c3, c4⟩ := (M.is hd : (win g d c xs).P w)
  exact c2
theorem Mem.setCells {tb : TypeId} : ∀ (vs : List Value) (o : Nat) (w : World) (cs : List Value), Mem w0 f w (blk g tb cs :: L) → o + vs.length ≤ cs.length → Mem w0 f (w.setCells g o vs) (blk g tb (splice cs o vs) :: L)
  | [], o, w, cs, M, _ => by simpa [World.setCells, splice] using M
  | v :: r, o, w, cs, M, h => by
    simp only [List.length_cons] at h
    have M1 := Mem.setCells r (o + 1) _ (cs.set o v) (M.set o v) (by rw [List.length_set]; omega)
    rw [splice_set _ _ _ _ (by omega)] at M1
    exact M1
section
variable {P : Program} {ops : Array Oper} {rest : List Oper} {Q : Exit → Act → World → Prop} {a : Act} {p q : Operand} {ty tt : TypeId} {pos : String} {after : Array Edge}
/-- An append to a window. -/
theorem ev_appW {dst : Option Tmp} {z : Value} {bytes n n2 B c2 : Nat} {A2 : Option Addr} (ht : P.underlying tt = some (.slice tI)) (hinfo : (P.info? tI).map (fun i => (i.zero, i.size, i.bytes)) = some (some z, 1, bytes)) (hzs : z.cells.size = 1)
    (hs : a.eval p = .slice (some ⟨g, d, none⟩) n c) (M : Mem w0 f w L) (hd : Del (win g d c xs) L L') (hn : n = xs.length) (hx : a.eval q = .slice A2 n2 c2) (hr : ReadsL encI 1 w B A2 n2 ys) (hz : A2 = none → c2 = 0) (hlen : xs.length + ys.length ≤ 140737488355328) (hby : (xs.length + ys.length) * bytes ≤ 140737488355328)
    (h : ∀ g' d' c' w1, Mem w0 f w1 (win g' d' c' (xs ++ ys) :: L') → wpList P ops Q rest (a.put dst (.slice (some ⟨g', d', none⟩) (n + n2) c')) w1) :
    wpList P ops Q (⟨dst, .call { callee := .builtin .append, args := #[p, q], argTypes := #[tt, tt] }, ty, pos, after, none⟩ :: rest) a w := by
  subst hn
  obtain ⟨i, hi, hzz⟩ := Option.map_eq_some_iff.1 hinfo
  simp only [Prod.mk.injEq] at hzz
  obtain ⟨hz0, hz1, hz2⟩ := hzz
  have M1 := M.pull hd
  have hnn : ys.length = n2 := hr.1
  subst hnn
  have hcl := win_cells M hd
  obtain ⟨cs, hb, c1, c2', c3, c4⟩ := (M.is hd : (win g d c xs).P w)
  have hfl : flat encI (xs ++ ys) = flat encI xs ++ flat encI ys := by simp [flat]
  have hlx : (flat encI xs).length = xs.length * 1 := flat_length encI_length xs
  have hly : (flat encI ys).length = ys.length * 1 := flat_length encI_length ys
  cases A2 with
  | none =>
    obtain rfl := hz rfl
    obtain rfl : ys = [] := by
      cases ys with
      | nil => rfl
      | cons y ys =>
        obtain ⟨_, e, _⟩ := hr.2.2.2 (by simp)
        cases e
    have h' := h g d c w (by simpa using M1)
    refine wpList_plain rfl fun K hK => ?_
    have hrun : (Builtin.append_ #[tt, tt] ty #[.slice (some ⟨g, d, none⟩) xs.length c, .slice none 0 0]).run P w = .ok (.slice (some ⟨g, d, none⟩) xs.length c) w := by
      simp [Builtin.append_, run_underlying ht, sizeOf, typeInfo, hi, Builtin.lenOf, c2', Builtin.firstCells, storeCells]
    unfold Oper.wp
    simp only [List.length_nil] at hx
    simp [execOp, resolve, invoke, builtin, hs, hx, hrun, Result.andThen]
    exact hK _ _ h'
  | some ad =>
    refine wpList_append_arg w rfl p q tt rfl tI i z 1 bytes ht hi hz0 hz1 hz2 hzs (by decide) g d xs.length c (flat encI xs) hs hlx hcl ad ys.length c2 (flat encI ys) hx hly ?_ ?_ ?_ (by unfold maxLen; omega) hby ?_ ?_
    · intro j u hu
      have hp : 0 < ys.length := by
        cases ys with
        | nil => simp [flat] at hu
        | cons y ys => simp
      obtain ⟨ad', e, _, hc⟩ := hr.2.2.2 hp
      injection e with e
      subst e
      exact hc j u hu
    · intro u hu
      obtain ⟨y, _, hy⟩ := List.mem_flatMap.1 hu
      have : u = .int .i64 y := by simpa [encI] using hy
      subst this
      rfl
    · intro hle j hj
      refine ⟨?_, by simp [World.frozen?, hb]⟩
      rw [cell_of_row w g _ _ tI _ hb]
      have : d + xs.length + j < cs.length := by omega
      simp [this]
    · intro hle
      refine h g d c _ ?_
      have M2 : Mem w0 f w (blk g tI cs :: L') := M1.turn (fun _ => hb) (List.Sublist.refl _)
      refine (Mem.setCells (flat encI ys) (d + xs.length * 1) w cs M2 (by omega)).turn (fun hb2 => ⟨_, hb2, ?_, ?_, c3, ?_⟩) (List.Sublist.refl _)
      · unfold splice
        simp only [List.length_append, List.length_take, List.length_drop]
        omega
      · rw [List.length_append]; omega
      · unfold splice
        rw [List.drop_append_of_le_length (by rw [List.length_take]; omega), List.drop_take, show d + xs.length * 1 - d = xs.length by omega, c4, ← List.append_assoc, ← hfl]
        exact List.take_left' (by rw [flat_length encI_length]; omega)
    · intro hlt v' w' hw' hg
      obtain ⟨_, ⟨_, e⟩ | ⟨g', cap, cur, e, h0, hh, hc, hm, hsz, htk⟩⟩ := hw'
      · omega
      · subst e
        refine h g' 0 cap w' (M1.drop.call0 ⟨⟨hg.os, hg.tape, hg.output, hg.size, fun k hk _ => hg.block k hk (by simp), fun k hk => .inr ?_, by simp [fps, win]⟩, fun X hX => ?_⟩)
        · obtain rfl : k = g' := by simpa [fps, win] using hk
          exact h0
        · obtain rfl : X = win g' 0 cap (xs ++ ys) := by simpa using hX
          refine ⟨cur.toList, by simpa using hh, by (have e : cur.toList.length = cap := (by simpa using hsz)); omega, by rw [List.length_append]; exact hc, hm, ?_⟩
          rw [List.drop_zero, hfl, List.length_append, ← htk]
          simp
theorem ev_appWr {dst : Option Tmp} {z : Value} {bytes n n2 c2 : Nat} {A2 : Option Addr} {L2 : List Asn} (ht : P.underlying tt = some (.slice tI)) (hinfo : (P.info? tI).map (fun i => (i.zero, i.size, i.bytes)) = some (some z, 1, bytes)) (hzs : z.cells.size = 1)
    (hs : a.eval p = .slice (some ⟨g, d, none⟩) n c) (M : Mem w0 f w L) (hd : Del (win g d c xs) L L') (hn : n = xs.length) (hx : a.eval q = .slice A2 n2 c2) (hd2 : Del (row encI 1 tI A2 c2 ys) L' L2) (hn2 : n2 = ys.length) (hlen : xs.length + ys.length ≤ 140737488355328) (hby : (xs.length + ys.length) * bytes ≤ 140737488355328)
    (h : ∀ g' d' c' w1, Mem w0 f w1 (win g' d' c' (xs ++ ys) :: L') → wpList P ops Q rest (a.put dst (.slice (some ⟨g', d', none⟩) (n + n2) c')) w1) :
    wpList P ops Q (⟨dst, .call { callee := .builtin .append, args := #[p, q], argTypes := #[tt, tt] }, ty, pos, after, none⟩ :: rest) a w := by
  subst hn2
  have h2 := row_reads (M.pull hd).drop hd2
  exact ev_appW ht hinfo hzs hs M hd hn hx h2.1 h2.2.2 hlen hby h
end
end
/-! One round of a falling. -/
theorem sumR_bound (g : Rn → Nat) (c : Nat) : ∀ l : List Rn, (∀ r, r ∈ l → g r ≤ c) → sumR g l ≤ c * l.length
  | [], _ => Nat.zero_le _
  | r :: l, h => by
    have h1 := h r (by simp)
    have h2 := sumR_bound g c l (fun x hx => h x (by simp [hx]))
    simp only [sumR, List.length_cons]
    rw [Nat.mul_succ]
    omega
theorem pot_small {w : Wd} (h : WOk w) (id : Int) : pot w [id] ≤ 100 := by
  have h1 := sumR_bound linkW 7 w.runs (fun r hr => by
    obtain ⟨k, hk, rfl⟩ := List.getElem_of_mem hr
    have := len6 (runOk_parts (h.fit k hk).ok).2.2.2.2.2.2.2.2.2.2.1
    unfold linkW
    split <;> omega)
  have h2 := h.len.2
  unfold pot
  simp only [List.length_singleton]
  omega
structure Falls (w : Wd) (l : List Int) (n : Nat) : Prop where
  ok : WOk w
  small : pot w l ≤ n
  sent : w.sent + 12 * (sumR liveW w.runs : Nat) ≤ 9999
  list : ∀ x ∈ l, 1 ≤ x ∧ x ≤ w.runs.length
theorem sumR_live {w : Wd} {k : Int} (ha : aliveIn w.runs k = true) : 1 ≤ sumR liveW w.runs := by
  have hk := aliveIn_iff.1 ha
  have h2 : liveW (getR w.runs k) = 1 := by unfold liveW; rw [if_neg hk.2]
  have h3 := sumR_set (g := liveW) (l := w.runs) (k := (k - 1).toNat) (by omega) { Rn.zero with state := 3 }
  rw [← mem_getR hk.1.1 hk.1.2, h2] at h3
  have h4 : liveW { Rn.zero with state := 3 } = 0 := rfl
  omega
theorem Falls.ended {w : Wd} {k : Int} {l : List Int} {n : Nat} {why : Vl} (hv : valOk why = true) (h : Falls w (k :: l) (n + 1)) (ha : aliveIn w.runs k = true) :
    fallN why (n + 1) w (k :: l) = fallN why n (endRun w k why).1 (l ++ (endRun w k why).2) ∧ Falls (endRun w k why).1 (l ++ (endRun w k why).2) n ∧ (endRun w k why).1.runs.length = w.runs.length ∧ (endRun w k why).2.length ≤ 6 := by
  obtain ⟨ok, hp, hs, hl⟩ := h
  have hk := aliveIn_iff.1 ha
  have hlive := sumR_live ha
  have E := endRun_facts ok ha hv (by omega)
  have ld := live_down ha E
  have pd := pot_down ha E
  have nx := E.nexts
  have hsent := E.sent
  have h6 := len6 (runOk_parts (ok.run hk.1.1 hk.1.2).ok).2.2.2.2.2.2.2.2.2.2.1
  unfold pot at hp
  simp only [List.length_cons] at hp
  refine ⟨?_, ⟨E.ok, ?_, by omega, fun x hx => ?_⟩, E.len, by omega⟩
  · show (if aliveIn w.runs k then _ else _) = _
    rw [if_pos ha]
  · unfold pot
    rw [List.length_append]
    omega
  · rw [E.len]
    rcases List.mem_append.1 hx with hx | hx
    · exact hl x (List.mem_cons_of_mem _ hx)
    · exact (ok.link hk.1.1 hk.1.2 (E.next x hx).1).1
theorem Falls.over {w : Wd} {k : Int} {l : List Int} {n : Nat} {why : Vl} (h : Falls w (k :: l) (n + 1)) (ha : aliveIn w.runs k = false) : fallN why (n + 1) w (k :: l) = fallN why n w l ∧ Falls w l n := by
  obtain ⟨ok, hp, hs, hl⟩ := h
  unfold pot at hp
  simp only [List.length_cons] at hp
  refine ⟨?_, ⟨ok, by unfold pot; omega, hs, fun x hx => hl x (List.mem_cons_of_mem _ hx)⟩⟩
  show (if aliveIn w.runs k then _ else _) = _
  rw [if_neg (by simp [ha])]
theorem fallN_nil (why : Vl) (n : Nat) (w : Wd) : fallN why n w [] = w := by cases n <;> rfl
end Go.Proofs.Ytmidnaafljgbiaa
/- All that fall with one, by the reference: where one's end is as it should be. -/
namespace Go.Proofs.Ytmidnaafljgbiaa
open Go.RowKit
set_option maxRecDepth 100000

/-- What a run's end asks and gives. -/
def OneSpec (vk vn : Int) (w0 : World) (f : List Nat) : Prop := ∀ (V : Wm) (k : Nat) (U : World) (L1 L2 : List Asn), Mem w0 f U L1 → Del (wld V) L1 L2 → ∀ hk : k < V.ps.length, V.ps.length ≤ 1000 → MidW V.ps.length 6 V.wd → (∀ x ∈ (V.ps[k]'hk).1.links, 1 ≤ x ∧ x ≤ V.ps.length) →
  Calls Try.prog 155 #[.agg (wArr V), .int .i64 ((k : Int) + 1), .agg #[.int .i64 vk, .int .i64 vn]] U (fun e w' => ∃ (Y : Wm) (A : Option Addr) (c : Nat), Y.wd = (endRun V.wd ((k : Int) + 1) ⟨vk, vn⟩).1 ∧ e = .returned (.tuple #[.agg (wArr Y), .slice A (endRun V.wd ((k : Int) + 1) ⟨vk, vn⟩).2.length c]) ∧ Mem w0 f w' (rowI A c (endRun V.wd ((k : Int) + 1) ⟨vk, vn⟩).2 :: wld Y :: L2))
theorem alive_iff_state {w : Wd} {k : Nat} (hk : k < w.runs.length) : aliveIn w.runs ((k : Int) + 1) = !((w.runs[k]).state == 3) := by
  have e : getR w.runs ((k : Int) + 1) = w.runs[k] := by
    rw [mem_getR (by omega) (by omega)]
    congr 1; omega
  rw [Bool.eq_iff_iff, aliveIn_iff, e]
  simp
  omega
set_option maxHeartbeats 4000000 in
theorem sEnd' (W : Wm) (k0 : Nat) (vk vn : Int) {w0 w : World} {f : List Nat} {L L' : List Asn} (HO : OneSpec vk vn w0 f) (M : Mem w0 f w L) (hd : Del (wld W) L L') (hk : k0 < W.ps.length) (hok : WOk W.wd) (hv : valOk ⟨vk, vn⟩ = true) (hs : W.sent + 12 * (sumR liveW W.wd.runs : Nat) ≤ 9999) :
    Calls Try.prog 149 #[.agg (wArr W), .int .i64 ((k0 : Int) + 1), .agg #[.int .i64 vk, .int .i64 vn]] w fun e w' => ∃ V : Wm, V.wd = fallAll W.wd ((k0 : Int) + 1) ⟨vk, vn⟩ ∧ e = .returned (.agg (wArr V)) ∧ Mem w0 f w' (wld V :: L') := by
  have AL := add_lit0
  replace M := M.pull hd
  clear hd
  have hF0 : Hid (Falls W.wd [(k0 : Int) + 1] (pot W.wd [(k0 : Int) + 1])) := ⟨hok, Nat.le_refl _, hs, fun x hx => by
    have : x = (k0 : Int) + 1 := by simpa using hx
    subst this
    rw [runsLen]
    omega⟩
  have hR0 : Hid (fallN ⟨vk, vn⟩ (pot W.wd [(k0 : Int) + 1]) W.wd [(k0 : Int) + 1] = fallAll W.wd ((k0 : Int) + 1) ⟨vk, vn⟩) := rfl
  have hN : pot W.wd [(k0 : Int) + 1] ≤ 100 := pot_small hok _
  generalize fallAll W.wd ((k0 : Int) + 1) ⟨vk, vn⟩ = R at hR0 ⊢
  generalize pot W.wd [(k0 : Int) + 1] = N at hF0 hR0 hN
  have HF : Hid (∀ (U : World) (V : Wm), V.wd = R → Mem w0 f U (wld V :: L') → (fun (e : Ending) w' => ∃ V : Wm, V.wd = R ∧ e = .returned (.agg (wArr V)) ∧ Mem w0 f w' (wld V :: L')) (.returned (.agg (wArr V))) U) := fun U V h M => ⟨V, h, rfl, M⟩
  replace HO := Lib.hid HO
  replace hv := Lib.hid hv
  clear hok hs hk
  go_enter Try.func149, Try.ntmps149
  go_upto_region 1 with (first | (with_reducible refine alAw M ?_; clear M; (try clear F); intro w1 M F))
  go_cut [3, 5, 6, 7] from 11 (fun s3 s5 s6 s7 wx => ∃ (g3 g5 g6 g7 : Nat), s3 = .pointer (some ⟨g3, 0, none⟩) ∧ s5 = .pointer (some ⟨g5, 0, none⟩) ∧ s6 = .pointer (some ⟨g6, 0, none⟩) ∧ s7 = .slice (some ⟨g7, 0, none⟩) 1 1 ∧ Mem w0 f wx (win g7 0 1 [(k0 : Int) + 1] :: blk g3 tW (w7 W) :: wld W :: blk g5 tV [.int .i64 vk, .int .i64 vn] :: blk g6 tW [.slice none 0 0, .slice none 0 0, .slice none 0 0, .int .i64 0, .int .i64 0, .int .i64 0, .int .i64 0] :: L'))
  case first =>
    go_wp2_with (first | (with_reducible refine alAw M ?_; clear M; (try clear F); intro w1 M F))
    (refine nmw (G := fun W => Met _ _ W) ?_; clear M; (try clear F); intro w1 M F)
    go_meet
    case rel =>
      have M2 : Mem w0 f _ (win _ 0 1 [(k0 : Int) + 1] :: _) := (Mem.row_of encI_length (xs := [(k0 : Int) + 1]) M rfl (by simp)).toWin
      exact ⟨_, _, _, _, rfl, rfl, rfl, rfl, M2.sel sl⟩
  clear M
  obtain ⟨g3, g5, g6, g7, rfl, rfl, rfl, rfl, M⟩ := hcut
  go_wp2
  go_loopg [7] N (fun gg v wr => ∃ (n g d c : Nat) (xs : List Int) (V : Wm), n ≤ gg ∧ n ≤ N ∧ v = .slice (some ⟨g, d, none⟩) xs.length c ∧ Hid (fallN ⟨vk, vn⟩ n V.wd xs = R) ∧ Hid (Falls V.wd xs n) ∧ Hid (Mem w0 f wr (win g d c xs :: blk g3 tW (w7 V) :: wld V :: blk g5 tV [.int .i64 vk, .int .i64 vn] :: blk g6 tW [.slice none 0 0, .slice none 0 0, .slice none 0 0, .int .i64 0, .int .i64 0, .int .i64 0, .int .i64 0] :: L')))
  case atStart => exact ⟨N, g7, 0, 1, [(k0 : Int) + 1], W, Nat.le_refl _, Nat.le_refl _, rfl, hR0, hF0, M⟩
  case round =>
    clear M hR0 hF0
    obtain ⟨n, g, d, c, xs, V, hn, hnN, rfl, hR, hF, M⟩ := hrel
    replace M := M.out
    cases xs with
    | nil =>
      have hR2 : Hid (V.wd = R) := (fallN_nil _ _ _).symm.trans hR.out
      clear hR hF
      (try clear F); have F := fxw M
      simp only [List.length_nil]
      go_wp2_with (first | ((with_reducible apply ev_store (M := M)); rfl; rfl; ((conv => lhs; whnf) <;> rfl); rfl; (first | exact siI | exact siR | exact siV | exact siB | exact siSI | exact siSV | exact siW | exact siSR | exact siSO | exact siO); (exact one_all rfl); (exact dl); (exact Nat.le_of_ble_eq_true rfl); clear M; intro w1 M; simp only [SX] at M; (try clear F); have F := fxw M))
      apply ret_cell (M := M); rfl; rfl; (exact dl); (first | exact agR | exact agV | exact agW | exact agO); (first | exact siI | exact siR | exact siV | exact siB | exact siSI | exact siSV | exact siW | exact siSR | exact siSO | exact siO); rfl
      exact HF.out _ V hR2.out (M.sel (T := wld V :: L') (.drop (.drop (.drop (.cons .here (.drop .refl))))))
    | cons k l =>
      obtain ⟨m, rfl⟩ : ∃ m, n = m + 1 := ⟨n - 1, by have := hF.out.small; unfold pot at this; simp only [List.length_cons] at this; omega⟩
      have hkl := hF.out.list k List.mem_cons_self
      obtain ⟨kk, rfl⟩ : ∃ kk : Nat, k = (kk : Int) + 1 := ⟨(k - 1).toNat, by omega⟩
      have hkk : kk < V.ps.length := by rw [runsLen] at hkl; omega
      have hn6 : V.ps.length ≤ 6 := by have := hF.out.ok.len.2; rwa [runsLen] at this
      have E0 := win_head M dl
      have hlc := win_le M dl
      obtain ⟨gr, hA, _, hat⟩ := (Mem.rw_ (M.pull (.there (.there .here))).unpackW).runs kk hkk
      have E5 := hat.2.2.2.2.2.1
      have hal := alive_iff_state (w := V.wd) (k := kk) (by rw [runsLen]; exact hkk)
      have est : (V.wd.runs[kk]'(by rw [runsLen]; exact hkk)).state = V.ps[kk].1.state := by simp [Wm.wd]
      rw [est] at hal
      have hsm : l.length + 1 ≤ 100 := by
        have h := hF.out.small
        unfold pot at h
        simp only [List.length_cons] at h
        omega
      replace M : Mem w0 f wr (win g d c (((kk : Int) + 1) :: l) :: blk g3 tW [.slice V.cA V.code.length V.cC, .slice V.rA V.ps.length V.rC, .slice V.qA V.queue.length V.qC, .int .i64 V.now, .int .i64 V.sent, .int .i64 V.taken, .int .i64 V.lost] :: wld V :: blk g5 tV [.int .i64 vk, .int .i64 vn] :: blk g6 tW [.slice none 0 0, .slice none 0 0, .slice none 0 0, .int .i64 0, .int .i64 0, .int .i64 0, .int .i64 0] :: L') := M
      simp only [List.length_cons] at hlc ⊢
      have i0 : (0 : Int) < ((l.length + 1 : Nat) : Int) := by omega
      have i1 : (0 : Int) ≤ kk := by omega
      have i2 : (kk : Int) < V.ps.length := by omega
      have wi : IntKind.i64.wrap ((kk : Int) + 1 - 1) = (kk : Int) := by rw [IntKind.wrap_i64]; omega
      have hgr : getR V.wd.runs ((kk : Int) + 1) = V.ps[kk].1 := by
        rw [mem_getR (by omega) (by rw [runsLen]; omega)]
        have e : ((kk : Int) + 1 - 1).toNat = kk := by omega
        simp only [e]
        simp [Wm.wd]
      clear hat est
      (try clear F); have F := fxw M
      go_upto_region 4 with fail
      clear E0
      go_cut [3, 5, 6, 7, 8, 40] from 13 (fun s3 s5 s6 s7 s8 s40 wx => ∃ (d1 c1 : Nat), s3 = .pointer (some ⟨g3, 0, none⟩) ∧ s5 = .pointer (some ⟨g5, 0, none⟩) ∧ s6 = .pointer (some ⟨g6, 0, none⟩) ∧ s7 = .slice (some ⟨g, d1, none⟩) l.length c1 ∧ s8 = .int .i64 ((kk : Int) + 1) ∧ u40 = s40 ∧ wr = wx ∧ Mem w0 f wx (win g d1 c1 l :: blk g3 tW [.slice V.cA V.code.length V.cC, .slice V.rA V.ps.length V.rC, .slice V.qA V.queue.length V.qC, .int .i64 V.now, .int .i64 V.sent, .int .i64 V.taken, .int .i64 V.lost] :: wld V :: blk g5 tV [.int .i64 vk, .int .i64 vn] :: blk g6 tW [.slice none 0 0, .slice none 0 0, .slice none 0 0, .int .i64 0, .int .i64 0, .int .i64 0, .int .i64 0] :: L'))
      case first =>
        --[0
        by_cases hc1 : c = 1
        · subst hc1
          obtain rfl : l = [] := List.eq_nil_of_length_eq_zero (by omega)
          go_wp2
          go_meet
          case rel => exact ⟨d, 0, rfl, rfl, rfl, rfl, rfl, rfl, rfl, M.winLast⟩
        · have hc2 : (c - 1 == 0) = false := by simp; omega
          have hc3 : ¬ c - 1 = 0 := by omega
          have hc4 : ¬ c ≤ 1 := by omega
          go_wp2
          go_meet
          case rel => exact ⟨d + 1, c - 1, rfl, rfl, rfl, rfl, rfl, rfl, rfl, M.winTail⟩
        --]0
      clear M F
      obtain ⟨d1, c1, rfl, rfl, rfl, rfl, rfl, rfl, rfl, M⟩ := hcut
      have MA : Hid (∀ (U : World) (D C : Nat) (xs : List Int), Mem w0 f U (win g D C xs :: blk g3 tW [.slice V.cA V.code.length V.cC, .slice (some ⟨gr, 0, none⟩) V.ps.length V.rC, .slice V.qA V.queue.length V.qC, .int .i64 V.now, .int .i64 V.sent, .int .i64 V.taken, .int .i64 V.lost] :: wld V :: blk g5 tV [.int .i64 vk, .int .i64 vn] :: blk g6 tW [.slice none 0 0, .slice none 0 0, .slice none 0 0, .int .i64 0, .int .i64 0, .int .i64 0, .int .i64 0] :: L') → Mem w0 f U (win g D C xs :: blk g3 tW (w7 V) :: wld V :: blk g5 tV [.int .i64 vk, .int .i64 vn] :: blk g6 tW [.slice none 0 0, .slice none 0 0, .slice none 0 0, .int .i64 0, .int .i64 0, .int .i64 0, .int .i64 0] :: L')) := fun U D C xs M => by rw [← hA] at M; exact M
      rw [hA] at M
      replace hA := Lib.hid hA
      cases hst : (V.ps[kk].1.state == 3) with
      | true =>
        --[1
        have e3 : V.ps[kk].1.state = 3 := by simpa using hst
        rw [e3] at E5
        have ha : aliveIn V.wd.runs ((kk : Int) + 1) = false := by rw [hal, hst]; rfl
        obtain ⟨hR2, hF2⟩ := Falls.over (why := ⟨vk, vn⟩) hF.out ha
        have hR3 : Hid (fallN ⟨vk, vn⟩ m V.wd l = R) := hR2.symm.trans hR.out
        replace hF2 := Lib.hid hF2
        clear hR hF hal ha hR2 hst e3 hgr
        (try clear F); have F := fxw M
        go_wp2
        go_roundg m
        case measure => omega
        case rel => exact ⟨m, g, d1, c1, l, V, Nat.le_refl _, by omega, rfl, hR3, hF2, MA.out _ _ _ _ M⟩
        --]1
      | false =>
        --[2
        have ha : aliveIn V.wd.runs ((kk : Int) + 1) = true := by rw [hal, hst]; rfl
        obtain ⟨hR2, hF2, hlen2, h6⟩ := Falls.ended (why := ⟨vk, vn⟩) hv.out hF.out ha
        have HO2 := fun (U : World) (L1 L2 : List Asn) (M : Mem w0 f U L1) (hd : Del (wld V) L1 L2) => HO.out V kk U L1 L2 M hd hkk (by omega) (by have := MidW.of hF.out.ok; rwa [runsLen] at this) (fun x hx => by
          rw [← hgr] at hx
          have h := (hF.out.ok.link (a := (kk : Int) + 1) (by omega) (by rw [runsLen]; omega) hx).1
          rwa [runsLen] at h)
        generalize endRun V.wd ((kk : Int) + 1) ⟨vk, vn⟩ = E at hR2 hF2 h6 HO2
        obtain ⟨W2, nx⟩ := E
        simp only at hR2 hF2 h6 HO2
        have hR3 : Hid (fallN ⟨vk, vn⟩ m W2 (l ++ nx) = R) := hR2.symm.trans hR.out
        replace hF2 := Lib.hid hF2
        have ew : wArr V = #[.slice V.cA V.code.length V.cC, .slice (some ⟨gr, 0, none⟩) V.ps.length V.rC, .slice V.qA V.queue.length V.qC, .int .i64 V.now, .int .i64 V.sent, .int .i64 V.taken, .int .i64 V.lost] := by simp only [wArr, hA.out]
        rw [ew] at HO2
        clear ew
        replace HO2 := Lib.hid HO2
        have e3 : (V.ps[kk].1.state == 3) = false := hst
        generalize V.ps[kk].1.state = st at E5 e3
        clear hR hF hal ha hR2 hst hgr hlen2
        (try clear F); have F := fxw M
        go_wp2_with (first
          | (with_reducible refine alAw M ?_; clear M; (try clear F); intro w1 M F) | ((with_reducible apply ev_store (M := M)); rfl; rfl; ((conv => lhs; whnf) <;> rfl); rfl; (first | exact siI | exact siR | exact siV | exact siB | exact siSI | exact siSV | exact siW | exact siSR | exact siSO | exact siO); (exact one_all rfl); (exact dl); (exact Nat.le_of_ble_eq_true rfl); clear M; intro w1 M; simp only [SX] at M; (try clear F); have F := fxw M)
          | (go_at_call 155; (refine nmKw ?_; clear M; (try clear F); intro w1 M F); refine (HO2.out _ _ _ M dl).mono ?_; clear M; rintro e w2 ⟨Y, A2, c2, hY, rfl, M⟩; unfold rowI at M; replace hY := Lib.hid hY; (try clear F); have F := fxw M)
          | ((with_reducible apply ev_appWr (ys := nx) (ht := Try.underlying23) (hinfo := nfI) (hzs := rfl) (M := M)); rfl; (exact dl); rfl; rfl; (exact dl); rfl; omega; omega; clear M; intro g1 d2 c3 w1 M; (try clear F); have F := fxw M))
        go_roundg m
        case measure => omega
        case rel =>
          refine ⟨m, g1, d2, c3, l ++ nx, Y, Nat.le_refl _, by omega, by rw [List.length_append], by rw [hY.out]; exact hR3, by rw [hY.out]; exact hF2, ?_⟩
          exact M.sel (T := win g1 d2 c3 (l ++ nx) :: blk g3 tW [.slice Y.cA Y.code.length Y.cC, .slice Y.rA Y.ps.length Y.rC, .slice Y.qA Y.queue.length Y.qC, .int .i64 Y.now, .int .i64 Y.sent, .int .i64 Y.taken, .int .i64 Y.lost] :: wld Y :: blk g5 tV [.int .i64 vk, .int .i64 vn] :: blk g6 tW [.slice none 0 0, .slice none 0 0, .slice none 0 0, .int .i64 0, .int .i64 0, .int .i64 0, .int .i64 0] :: L') sl
        --]2
end Go.Proofs.Ytmidnaafljgbiaa
