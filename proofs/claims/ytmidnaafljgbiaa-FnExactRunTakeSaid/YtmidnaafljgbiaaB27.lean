/- Parts of the proof, in one text. -/
import Derived.Deep.Cut
import Derived.Test.YtmidnaafljgbiaaB26
import Derived.Test.YtmidnaafljgbiaaB12
import Derived.Test.YtmidnaafljgbiaaB14
import Derived.Test.YtmidnaafljgbiaaB25
import Derived.Test.YtmidnaafljgbiaaB16
import Derived.Test.YtmidnaafljgbiaaB23
import Derived.Test.YtmidnaafljgbiaaB05
import Derived.Test.YtmidnaafljgbiaaB08
import Derived.Test.YtmidnaafljgbiaaB03
/- A run is taken out of a world's runs and laid back; what a giving comes to, by the places of the lists. -/
namespace Go.Proofs.Ytmidnaafljgbiaa
open Go.RowKit

theorem lset_perm {α : Type} {l : List α} {k : Nat} (hk : k < l.length) (x : α) : (l.set k x).Perm (x :: (l.take k ++ l.drop (k + 1))) := by
  rw [List.set_eq_take_append_cons_drop, if_pos hk]
  exact List.perm_middle
theorem lget_perm {α : Type} {l : List α} {k : Nat} (hk : k < l.length) : l.Perm (l[k] :: (l.take k ++ l.drop (k + 1))) := by
  have h := lset_perm hk l[k]
  rwa [List.set_getElem_self] at h
theorem Mem.rwsPerm {w0 w : World} {f : List Nat} {L : List Asn} {ps qs : List (Rn × RA)} (M : Mem w0 f w (rws ps :: L)) (h : ps.Perm qs) : Mem w0 f w (rws qs :: L) :=
  Mem.pack (L' := qs.map fun p => runA p.1 p.2) ((Mem.unpack (L' := ps.map fun p => runA p.1 p.2) M).perm ((h.map _).append_right L))
theorem Mem.rwsCons {w0 w : World} {f : List Nat} {L : List Asn} {r : Rn} {a : RA} {ps : List (Rn × RA)} (M : Mem w0 f w (runA r a :: rws ps :: L)) : Mem w0 f w (rws ((r, a) :: ps) :: L) :=
  M.rwsSnoc.rwsPerm (List.perm_append_comm (l₁ := ps) (l₂ := [(r, a)]))
theorem Mem.rwsTake {w0 w : World} {f : List Nat} {L : List Asn} {ps : List (Rn × RA)} {k : Nat} (M : Mem w0 f w (rws ps :: L)) (hk : k < ps.length) : Mem w0 f w (runA ps[k].1 ps[k].2 :: rws (ps.take k ++ ps.drop (k + 1)) :: L) :=
  (M.rwsPerm (lget_perm hk)).rwsHead
theorem Mem.rwsPut {w0 w : World} {f : List Nat} {L : List Asn} {ps : List (Rn × RA)} {k : Nat} {r : Rn} {a : RA} (M : Mem w0 f w (runA r a :: rws (ps.take k ++ ps.drop (k + 1)) :: L)) (hk : k < ps.length) : Mem w0 f w (rws (ps.set k (r, a)) :: L) :=
  M.rwsCons.rwsPerm (lset_perm hk _).symm
theorem wr_wrap (x : Int) : IntKind.i64.wrap x = wr x := by
  rw [IntKind.wrap_i64]; unfold wr; omega
theorem give_out {w : Wd} {id : Int} {v : Vl} (h : (aliveIn w.runs id && decide ((getR w.runs id).mail.length < 12)) = false) : give w id v = { w with sent := wr (w.sent + 1), lost := wr (w.lost + 1) } := by
  unfold give
  rw [h]
  rfl
theorem give_in {W : Wm} {k : Nat} {v : Vl} (hk : k < W.ps.length) (hs : W.ps[k].1.state ≠ 3) (hm : W.ps[k].1.mail.length < 12) (a : RA) : give W.wd ((k : Int) + 1) v =
    ⟨W.code, (W.ps.set k ({ W.ps[k].1 with mail := W.ps[k].1.mail ++ [v], state := if W.ps[k].1.state == 2 && fits v (opAt W.code W.ps[k].1.at_).s then 1 else W.ps[k].1.state }, a)).map (·.1),
      if W.ps[k].1.state == 2 && fits v (opAt W.code W.ps[k].1.at_).s then W.queue ++ [(k : Int) + 1] else W.queue, W.now, wr (W.sent + 1), W.taken, W.lost⟩ := by
  have hg := getR_ps hk
  have ha : aliveIn W.wd.runs ((k : Int) + 1) = true := by
    rw [aliveIn_iff, hg, runsLen]
    exact ⟨by omega, hs⟩
  have e2 : ((k : Int) + 1 - 1).toNat = k := by omega
  unfold give
  rw [ha, hg, Bool.true_and, if_pos (by simpa using hm)]
  unfold updR
  rw [hg, e2, List.map_set]
  rfl
end Go.Proofs.Ytmidnaafljgbiaa
/- A world in a box, opened at one run and closed again. -/
namespace Go.Proofs.Ytmidnaafljgbiaa
open Go.RowKit
set_option maxRecDepth 100000

abbrev w7 (W : Wm) : List Value := [.slice W.cA W.code.length W.cC, .slice W.rA W.ps.length W.rC, .slice W.qA W.queue.length W.qC, .int .i64 W.now, .int .i64 W.sent, .int .i64 W.taken, .int .i64 W.lost]
theorem Mem.rwsMid {w0 w : World} {f : List Nat} {L : List Asn} {pre post : List (Rn × RA)} {p : Rn × RA} (M : Mem w0 f w (rws (pre ++ p :: post) :: L)) : Mem w0 f w (runA p.1 p.2 :: rws (pre ++ post) :: L) := (M.rwsPerm List.perm_middle).rwsHead
theorem Mem.rwsMidPut {w0 w : World} {f : List Nat} {L : List Asn} {pre post : List (Rn × RA)} {r : Rn} {a : RA} (M : Mem w0 f w (runA r a :: rws (pre ++ post) :: L)) : Mem w0 f w (rws (pre ++ (r, a) :: post) :: L) := M.rwsCons.rwsPerm List.perm_middle.symm
theorem mid_split {α : Type} {l : List α} {k : Nat} (hk : k < l.length) : ∃ (pre post : List α) (p : α), l = pre ++ p :: post ∧ pre.length = k ∧ p = l[k] :=
  ⟨l.take k, l.drop (k + 1), l[k], by rw [List.getElem_cons_drop, List.take_append_drop], by rw [List.length_take]; omega, rfl⟩
/-- What is held of a world opened at a run. -/
def opened (g gr nn : Nat) (cA : Option Addr) (cC : Nat) (code : List Opx) (rC : Nat) (pre post : List (Rn × RA)) (r : Rn) (a : RA) (queue : List Int) (qA : Option Addr) (qC : Nat) (now sent taken lost : Int) (L : List Asn) : List Asn :=
  blk g tW [.slice cA code.length cC, .slice (some ⟨gr, 0, none⟩) nn rC, .slice qA queue.length qC, .int .i64 now, .int .i64 sent, .int .i64 taken, .int .i64 lost] ::
  row encR 13 tR (some ⟨gr, 0, none⟩) rC (pre ++ (r, a) :: post) :: row encV 2 tV a.sA a.sC r.slots :: row encV 2 tV a.mA a.mC r.mail :: row encI 1 tI a.lA a.lC r.links :: row encI 1 tI a.wA a.wC r.watched ::
  rws (pre ++ post) :: row encO 6 tO cA cC code :: row encI 1 tI qA qC queue :: L
theorem open_at {V : Wm} {g k : Nat} {w0 w : World} {f : List Nat} {L : List Asn} (M : Mem w0 f w (blk g tW (w7 V) :: wld V :: L)) (hk : k < V.ps.length) :
    ∃ (gr nn : Nat) (pre post : List (Rn × RA)) (r : Rn) (a : RA), V.rA = some ⟨gr, 0, none⟩ ∧ V.ps = pre ++ (r, a) :: post ∧ pre.length = k ∧ (∀ x : Rn × RA, (pre ++ x :: post).length = nn) ∧ nn = V.ps.length ∧
      Mem w0 f w (opened g gr nn V.cA V.cC V.code V.rC pre post r a V.queue V.qA V.qC V.now V.sent V.taken V.lost L) := by
  replace M := (M.perm (.swap _ _ _)).unpackW
  obtain ⟨gr, hgr⟩ := row_form M (.there .here) (by omega)
  obtain ⟨code, cA, cC, ps, rA, rC, queue, qA, qC, now, sent, taken, lost⟩ := V
  simp only [w7] at *
  subst hgr
  obtain ⟨pre, post, p, hps, hpl, _⟩ := mid_split hk
  subst hps
  obtain ⟨r, a⟩ := p
  have M1 : Mem w0 f w (rws (pre ++ (r, a) :: post) :: blk g tW [.slice cA code.length cC, .slice (some ⟨gr, 0, none⟩) (pre ++ (r, a) :: post).length rC, .slice qA queue.length qC, .int .i64 now, .int .i64 sent, .int .i64 taken, .int .i64 lost] :: rowO cA cC code :: rowR (some ⟨gr, 0, none⟩) rC (pre ++ (r, a) :: post) :: rowI qA qC queue :: L) := M.sel sl
  have M2 := M1.rwsMid.unpackRun
  refine ⟨gr, (pre ++ (r, a) :: post).length, pre, post, r, a, rfl, rfl, hpl, fun x => by simp, rfl, ?_⟩
  unfold opened
  have M3 : Mem w0 f w (rowV a.sA a.sC r.slots :: rowV a.mA a.mC r.mail :: rowI a.lA a.lC r.links :: rowI a.wA a.wC r.watched :: rws (pre ++ post) :: blk g tW [.slice cA code.length cC, .slice (some ⟨gr, 0, none⟩) (pre ++ (r, a) :: post).length rC, .slice qA queue.length qC, .int .i64 now, .int .i64 sent, .int .i64 taken, .int .i64 lost] :: rowO cA cC code :: rowR (some ⟨gr, 0, none⟩) rC (pre ++ (r, a) :: post) :: rowI qA qC queue :: L) := M2
  exact M3.sel (T := blk g tW [.slice cA code.length cC, .slice (some ⟨gr, 0, none⟩) (pre ++ (r, a) :: post).length rC, .slice qA queue.length qC, .int .i64 now, .int .i64 sent, .int .i64 taken, .int .i64 lost] :: rowR (some ⟨gr, 0, none⟩) rC (pre ++ (r, a) :: post) :: rowV a.sA a.sC r.slots :: rowV a.mA a.mC r.mail :: rowI a.lA a.lC r.links :: rowI a.wA a.wC r.watched :: rws (pre ++ post) :: rowO cA cC code :: rowI qA qC queue :: L) sl
theorem close_at {g gr nn : Nat} {cA : Option Addr} {cC : Nat} {code : List Opx} {rC : Nat} {pre post : List (Rn × RA)} {r : Rn} {a : RA} {queue : List Int} {qA : Option Addr} {qC : Nat} {now sent taken lost : Int} {w0 w : World} {f : List Nat} {L : List Asn}
    (M : Mem w0 f w (opened g gr nn cA cC code rC pre post r a queue qA qC now sent taken lost L)) (hnn : ∀ x : Rn × RA, (pre ++ x :: post).length = nn) :
    Mem w0 f w (blk g tW (w7 ⟨code, cA, cC, pre ++ (r, a) :: post, some ⟨gr, 0, none⟩, rC, queue, qA, qC, now, sent, taken, lost⟩) :: wld ⟨code, cA, cC, pre ++ (r, a) :: post, some ⟨gr, 0, none⟩, rC, queue, qA, qC, now, sent, taken, lost⟩ :: L) := by
  unfold opened at M
  have M1 : Mem w0 f w (blk g tW [.slice cA code.length cC, .slice (some ⟨gr, 0, none⟩) nn rC, .slice qA queue.length qC, .int .i64 now, .int .i64 sent, .int .i64 taken, .int .i64 lost] :: rowR (some ⟨gr, 0, none⟩) rC (pre ++ (r, a) :: post) :: rowV a.sA a.sC r.slots :: rowV a.mA a.mC r.mail :: rowI a.lA a.lC r.links :: rowI a.wA a.wC r.watched :: rws (pre ++ post) :: rowO cA cC code :: rowI qA qC queue :: L) := M
  have M2 : Mem w0 f w (rowV a.sA a.sC r.slots :: rowV a.mA a.mC r.mail :: rowI a.lA a.lC r.links :: rowI a.wA a.wC r.watched :: rws (pre ++ post) :: blk g tW [.slice cA code.length cC, .slice (some ⟨gr, 0, none⟩) nn rC, .slice qA queue.length qC, .int .i64 now, .int .i64 sent, .int .i64 taken, .int .i64 lost] :: rowR (some ⟨gr, 0, none⟩) rC (pre ++ (r, a) :: post) :: rowO cA cC code :: rowI qA qC queue :: L) := M1.sel sl
  have M3 := M2.packRun.rwsMidPut
  have M4 : Mem w0 f w (rowO cA cC code :: rowR (some ⟨gr, 0, none⟩) rC (pre ++ (r, a) :: post) :: rowI qA qC queue :: rws (pre ++ (r, a) :: post) :: blk g tW [.slice cA code.length cC, .slice (some ⟨gr, 0, none⟩) nn rC, .slice qA queue.length qC, .int .i64 now, .int .i64 sent, .int .i64 taken, .int .i64 lost] :: L) := M3.sel sl
  simp only [w7, hnn]
  exact (Mem.packW (W := ⟨code, cA, cC, pre ++ (r, a) :: post, some ⟨gr, 0, none⟩, rC, queue, qA, qC, now, sent, taken, lost⟩) M4).perm (.swap _ _ _)
theorem runAt_mid {w0 w : World} {f : List Nat} {L L' : List Asn} {g c k : Nat} {pre post : List (Rn × RA)} {r : Rn} {a : RA} (M : Mem w0 f w L) (hd : Del (row encR 13 tR (some ⟨g, 0, none⟩) c (pre ++ (r, a) :: post)) L L') (hp : pre.length = k) : RunAt w g (k * 13) r a := by
  have h := row_mid encR_length M hd hp
  exact ⟨h 0 (by decide), h 1 (by decide), h 2 (by decide), h 3 (by decide), h 4 (by decide), h 5 (by decide), h 6 (by decide), h 7 (by decide), h 8 (by decide), h 9 (by decide), h 10 (by decide), h 11 (by decide), h 12 (by decide)⟩
theorem setR7x (r : Rn) (a : RA) (l : List Int) (A : Option Addr) (c : Nat) : encR ({ r with links := l }, { a with lA := A, lC := c }) = (encR (r, a)).set 7 (.slice A l.length c) := rfl
theorem setR8x (r : Rn) (a : RA) (l : List Int) (A : Option Addr) (c : Nat) : encR ({ r with watched := l }, { a with wA := A, wC := c }) = (encR (r, a)).set 8 (.slice A l.length c) := rfl
section
variable {α : Type} {enc : α → List Value} {m : Nat} {t : TypeId} {c : Nat} {pre post : List α} {e0 : α} {w0 w : World} {f : List Nat} {L L' : List Asn}
variable {P : Program} {ops : Array Oper} {rest : List Oper} {Q : Exit → Act → World → Prop} {a : Act} {x y : Operand} {tt ty : TypeId} {pos : String} {after : Array Edge} {gd : Option (Nat × Bool)}
/-- A whole element in the midst of a row is written. -/
theorem ev_put_mid (x' : α) (hk : ∀ x, (enc x).length = m) (hone : ∀ x, ∀ u ∈ enc x, u.oneCell' = true) (M : Mem w0 f w L) {v : Value} {g off k : Nat} (hw : Region.wanted ⟨none, .store tt x y, ty, pos, after, gd⟩ (yielded ops a.tmps) = true) (hx : a.eval x = .pointer (some ⟨g, off, none⟩)) (hy : a.eval y = v) (hv : v.cells = (enc x').toArray)
    (hs : (P.info? tt).map (·.size) = some m) (hd : Del (row enc m t (some ⟨g, 0, none⟩) c (pre ++ e0 :: post)) L L') (ho : off = k * m) (hp : pre.length = k)
    (h : ∀ w1, Mem w0 f w1 (row enc m t (some ⟨g, 0, none⟩) c (pre ++ x' :: post) :: L') → wpList P ops Q rest a w1) : wpList P ops Q (⟨none, .store tt x y, ty, pos, after, gd⟩ :: rest) a w := by
  refine ev_put_row x' hk hone M hw hx hy hv hs hd ho (by rw [List.length_append, List.length_cons]; omega) fun w1 M1 => h w1 ?_
  rw [mid_set _ _ _ _ hp] at M1
  exact M1
end
end Go.Proofs.Ytmidnaafljgbiaa
/- A turn's small parts, by the reference: a run waits; the next step. -/
namespace Go.Proofs.Ytmidnaafljgbiaa
open Go.RowKit
set_option maxRecDepth 100000

def WPost (R : Wd) (w0 : World) (f : List Nat) (L : List Asn) (e : Ending) (w' : World) : Prop := ∃ V : Wm, V.wd = R ∧ e = .returned (.agg (wArr V)) ∧ Mem w0 f w' (wld V :: L)
theorem wd_mid {W : Wm} {pre post : List (Rn × RA)} {r : Rn} {a : RA} {k : Nat} (hps : W.ps = pre ++ (r, a) :: post) (hpl : pre.length = k) (g : Rn → Rn) (a' : RA) (cA rA qA : Option Addr) (cC rC qC : Nat) (q : List Int) (now sent taken lost : Int) :
    Wm.wd ⟨W.code, cA, cC, pre ++ (g r, a') :: post, rA, rC, q, qA, qC, now, sent, taken, lost⟩ = ⟨W.code, updR W.wd.runs ((k : Int) + 1) g, q, now, sent, taken, lost⟩ := by
  have e1 := mid_upd (post := post) (p := (r, a)) hpl g a'
  have e3 : W.wd.runs = (pre ++ (r, a) :: post).map (·.1) := by rw [← hps]; rfl
  rw [e3, ← e1]
  rfl
theorem wpost_mid {W : Wm} {pre post : List (Rn × RA)} {r : Rn} {a : RA} {k nn : Nat} (hps : W.ps = pre ++ (r, a) :: post) (hpl : pre.length = k) (hnn : ∀ x : Rn × RA, (pre ++ x :: post).length = nn) (g : Rn → Rn) (a' : RA)
    {q : List Int} {cA qA : Option Addr} {cC qC rC gr g3 : Nat} {now sent taken lost : Int} {R : Wd} {w0 U : World} {fl : List Nat} {L : List Asn} {e : Ending} (hR : (⟨W.code, updR W.wd.runs ((k : Int) + 1) g, q, now, sent, taken, lost⟩ : Wd) = R)
    (he : e = .returned (.agg #[.slice cA W.code.length cC, .slice (some ⟨gr, 0, none⟩) nn rC, .slice qA q.length qC, .int .i64 now, .int .i64 sent, .int .i64 taken, .int .i64 lost]))
    (M : Mem w0 fl U (blk g3 tW [.slice cA W.code.length cC, .slice (some ⟨gr, 0, none⟩) nn rC, .slice qA q.length qC, .int .i64 now, .int .i64 sent, .int .i64 taken, .int .i64 lost] ::
      row encR 13 tR (some ⟨gr, 0, none⟩) rC (pre ++ (g r, a') :: post) :: row encV 2 tV a'.sA a'.sC (g r).slots :: row encV 2 tV a'.mA a'.mC (g r).mail :: row encI 1 tI a'.lA a'.lC (g r).links :: row encI 1 tI a'.wA a'.wC (g r).watched ::
      rws (pre ++ post) :: row encO 6 tO cA cC W.code :: row encI 1 tI qA qC q :: L)) : WPost R w0 fl L e U := by
  refine ⟨⟨W.code, cA, cC, pre ++ (g r, a') :: post, some ⟨gr, 0, none⟩, rC, q, qA, qC, now, sent, taken, lost⟩, ?_, ?_, ?_⟩
  · rw [← hR]
    exact wd_mid hps hpl g a' _ _ _ _ _ _ _ _ _ _ _
  · rw [he]
    simp only [wArr, hnn]
  · exact (close_at (r := g r) (a := a') M hnn).drop
theorem mid_bound {W : Wm} {pre post : List (Rn × RA)} {r : Rn} {a : RA} {k : Nat} (hps : W.ps = pre ++ (r, a) :: post) (hpl : pre.length = k) (hk : k < W.ps.length) : W.ps[k].1 = r := by
  simp only [hps]
  rw [mid_get _ _ _ hpl]

set_option maxHeartbeats 4000000 in
theorem sWait21 (W : Wm) (k : Nat) (due : Int) {w0 w : World} {f : List Nat} {L L' : List Asn} (M : Mem w0 f w L) (hd : Del (wld W) L L') (hk : k < W.ps.length) (hn : W.ps.length ≤ 1000) (hq : W.queue.length ≤ 1000000) :
    Calls Try.prog 175 #[.agg (wArr W), .int .i64 ((k : Int) + 1), .int .i64 due] w (WPost (waitW W.wd ((k : Int) + 1) due) w0 f L') := by
  have AL := add_lit0
  replace M := M.pull hd
  clear hd
  have HLQ := Lib.hid (fun (V : World) (L1 L2 : List Asn) (M : Mem w0 f V L1) (hd : Del (row encI 1 tI W.qA W.qC W.queue) L1 L2) => sLess W.queue ((k : Int) + 1) W.qA W.qC V.heap.size V (readsI M hd) (Nat.le_refl _) hq)
  go_enter Try.func175, Try.ntmps175
  go_upto_region 1 with (first | (with_reducible refine alAw M ?_; clear M; (try clear F); intro w1 M F))
  replace M := open_at (M.sel (T := blk w.heap.size tW (w7 W) :: wld W :: blk _ tW [.slice none 0 0, .slice none 0 0, .slice none 0 0, .int .i64 0, .int .i64 0, .int .i64 0, .int .i64 0] :: L') sl) hk
  obtain ⟨gr, nn, pre, post, r, a, hA, hps, hpl, hnn, hlen, M⟩ := M
  unfold opened at M
  have wi : IntKind.i64.wrap ((k : Int) + 1 - 1) = (k : Int) := by rw [IntKind.wrap_i64]; omega
  have wj : IntKind.i64.wrap (k : Int) = (k : Int) := by rw [IntKind.wrap_i64]; omega
  have i1 : (0 : Int) ≤ k := by omega
  have i2 : (k : Int) < nn := by omega
  replace hA := Lib.hid hA
  replace hps := Lib.hid hps
  replace hpl := Lib.hid hpl
  replace hnn := Lib.hid hnn
  replace hlen := Lib.hid hlen
  (try clear F); have F := fxw M
  go_wp2_with (first
    | (with_reducible refine alAw M ?_; clear M; (try clear F); intro w1 M F) | ((with_reducible apply ev_store (M := M)); rfl; rfl; ((conv => lhs; whnf) <;> rfl); rfl; (first | exact siI | exact siR | exact siV | exact siB | exact siSI | exact siSV | exact siW | exact siSR | exact siSO | exact siO); (exact one_all rfl); (exact dl); (exact Nat.le_of_ble_eq_true rfl); clear M; intro w1 M; simp only [SX] at M; (try clear F); have F := fxw M)
    | ((with_reducible apply ev_elem (enc := encR) (x' := (({ r with state := 2 }, a) : Rn × RA)) (j := 5) (k := k) (hk := encR_length) (M := M)); rfl; rfl; ((conv => lhs; whnf) <;> rfl); rfl; (first | exact siI | exact siB | exact siSI); rfl; (exact dl); (first | with_reducible rfl | with_reducible exact (Nat.add_zero _).symm); exact hpl.out; decide; exact rfl; clear M; intro w1 M; (try clear F); have F := fxw M)
    | ((with_reducible apply ev_elem (enc := encR) (x' := (({ { r with state := 2 } with due := due }, a) : Rn × RA)) (j := 6) (k := k) (hk := encR_length) (M := M)); rfl; rfl; ((conv => lhs; whnf) <;> rfl); rfl; (first | exact siI | exact siB | exact siSI); rfl; (exact dl); (first | with_reducible rfl | with_reducible exact (Nat.add_zero _).symm); exact hpl.out; decide; exact rfl; clear M; intro w1 M; (try clear F); have F := fxw M)
    | (go_at_call 154; (refine nmKw ?_; clear M; (try clear F); intro w1 M F); refine (HLQ.out _ _ _ M dl).mono ?_; rintro e w2 ⟨Aq, cq, rfl, hm2⟩; replace M := M.call0 hm2; clear hm2; unfold rowI at M; (try clear F); have F := fxw M))
  apply ret_cell (M := M); rfl; rfl; (exact dl); (first | exact agR | exact agV | exact agW | exact agO); (first | exact siI | exact siR | exact siV | exact siB | exact siSI | exact siSV | exact siW | exact siSR | exact siSO | exact siO); rfl
  refine wpost_mid hps.out hpl.out hnn.out (fun r => { r with state := 2, due := due }) a (g3 := w.heap.size) ?_ rfl ?_
  · rfl
  · exact M.sel sl

set_option maxHeartbeats 2000000 in
theorem sNext21 (r : Rn) (a : RA) (w : World) (ha : 0 ≤ r.at_ ∧ r.at_ ≤ 1000) : Calls Try.prog 174 #[.agg (runArr r a)] w fun e w' => e = .returned (.agg (runArr (nextR r) a)) ∧ Below w.heap.size w w' := by
  have AL := add_lit0
  have M := Mem.nil w
  obtain ⟨id, at_, slots, full, mail, state, due, links, watched, trap, ⟨wk, wn⟩, turns⟩ := r
  simp only at ha
  have wi : IntKind.i64.wrap (at_ + 1) = at_ + 1 := by rw [IntKind.wrap_i64]; omega
  go_enter Try.func174, Try.ntmps174
  go_wp2_with (first | (with_reducible refine alAw M ?_; clear M; (try clear F); intro w1 M F) | ((with_reducible apply ev_store (M := M)); rfl; rfl; ((conv => lhs; whnf) <;> rfl); rfl; (first | exact siI | exact siR | exact siV | exact siB | exact siSI | exact siSV | exact siW | exact siSR | exact siSO | exact siO); (exact one_all rfl); (exact dl); (exact Nat.le_of_ble_eq_true rfl); clear M; intro w1 M; simp only [SX] at M; (try clear F); have F := fxw M) | ((with_reducible refine isSet (G := fun W => wpList _ _ _ _ _ W) ?_); (with_reducible refine nmw (G := fun W => wpList _ _ _ _ _ W) ?_; clear M; (try clear F); intro w1 M F)))
  apply ret_cell (M := M); rfl; rfl; (exact dl); (first | exact agR | exact agV | exact agW | exact agO); (first | exact siI | exact siR | exact siV | exact siB | exact siSI | exact siSV | exact siW | exact siSR | exact siSO | exact siO); rfl
  exact ⟨rfl, M.toBelow⟩

end Go.Proofs.Ytmidnaafljgbiaa
/- The reference's put into a slot, over what is held (for seats without RunPut). -/
namespace Go.Proofs.Ytmidnaafljgbiaa
open Go.RowKit
set_option maxRecDepth 100000

set_option maxHeartbeats 2000000 in
theorem sPutM (r : Rn) (a : RA) (k : Nat) (v : Vl) {w0 w : World} {f : List Nat} {L : List Asn} (M : Mem w0 f w (runA r a :: L)) (hl : r.slots.length = 4) (hk : k < 4) (hf : 0 ≤ r.full) (hf' : r.full ≤ 15) :
    Calls Try.prog 90 #[.agg (runArr r a), .int .i64 (k : Int), .agg #[.int .i64 v.k, .int .i64 v.n]] w fun e w' => e = .returned (.agg (runArr { r with slots := r.slots.set k v, full := withBit r.full k } a)) ∧
      Mem w0 f w' (runA { r with slots := r.slots.set k v, full := withBit r.full k } a :: L) := by
  have HW := Lib.hid (fun W => sWithW r.full k hf hf' (inB_iff.2 ⟨by omega, by omega⟩) W)
  obtain ⟨id, at_, slots, full, mail, state, due, links, watched, trap, ⟨wk, wn⟩, turns⟩ := r
  obtain ⟨sA, sC, mA, mC, lA, lC, wA, wC⟩ := a
  obtain ⟨vk, vn⟩ := v
  simp only at hl hf hf' HW
  replace M := M.unpackRun
  simp only at M
  obtain ⟨gs, rfl⟩ := row_form M .here (by omega)
  have k1 : (0 : Int) ≤ k := by omega
  have k2 : (k : Int) < 4 := by omega
  have AL := add_lit0
  have RE : Hid (∀ W (L L' : List Asn), Mem w0 f W L → Del (rowV (some ⟨gs, 0, none⟩) sC slots) L L' → W.cell? ⟨gs, k * 2, none⟩ = some (.int .i64 (slots[k]'(by omega)).k) ∧ W.cell? ⟨gs, k * 2 + 1, none⟩ = some (.int .i64 (slots[k]'(by omega)).n) ∧ ∀ j, W.frozen? ⟨gs, j, none⟩ = false) := by
    intro W L L' M hd
    obtain ⟨_, e2, e3⟩ := row_elem encV_length M hd (k := k) (by omega)
    exact ⟨by simpa [encV] using e2 0 (by decide), by simpa [encV] using e2 1 (by decide), e3⟩
  have hkl : k < slots.length := by omega
  simp only [runArr, hl]
  go_enter Try.func90, Try.ntmps90
  go_wp2_with (first
    | (with_reducible refine alAw M ?_; clear M; (try clear F); intro w1 M F) | ((with_reducible apply ev_store (M := M)); rfl; rfl; ((conv => lhs; whnf) <;> rfl); rfl; (first | exact siI | exact siR | exact siV | exact siB | exact siSI | exact siSV | exact siW | exact siSR | exact siSO | exact siO); (exact one_all rfl); (exact dl); (exact Nat.le_of_ble_eq_true rfl); clear M; intro w1 M; simp only [SX] at M; (try clear F); have F := fxw M) | ((with_reducible refine goal_drewN (G := fun W => wpList _ _ _ _ _ W) M ?_); clear M; intro w1 M; (try clear F); have F := fxw M) | ((with_reducible refine goal_drew (G := fun W => wpList _ _ _ _ _ W) M ?_); clear M; intro w1 M; (try clear F); have F := fxw M) | ((with_reducible refine isSet (G := fun W => wpList _ _ _ _ _ W) ?_); (with_reducible refine nmw (G := fun W => wpList _ _ _ _ _ W) ?_; clear M; (try clear F); intro w1 M F))
    | ((with_reducible refine gate_dst (N := 7) rfl ?_); have E := RE.out _ _ _ M dl; clear RE)
    | (go_at_call 112; refine (HW.out _).mono ?_; rintro e w2 ⟨rfl, hb⟩; replace M := M.below hb; clear hb; (try clear F); have F := fxw M))
  apply ret_cell (M := M); rfl; rfl; (exact dl); (first | exact agR | exact agV | exact agW | exact agO); (first | exact siI | exact siR | exact siV | exact siB | exact siSI | exact siSV | exact siW | exact siSR | exact siSO | exact siO); rfl
  refine ⟨?_, ?_⟩
  · simp only [List.length_set, hl]
  · apply Mem.packRun
    exact M.sel sl
end Go.Proofs.Ytmidnaafljgbiaa
