/- Parts of the proof, in one text. -/
import Derived.Test.YtomolbhcggaakaaGreatH42
import Derived.Test.YtomolbhcggaakaaGreatH38
import Derived.Test.YtomolbhcggaakaaGreatH20
import Derived.Test.YtomolbhcggaakaaGreatH26
/- The end of one run, plain: what stays within its bounds while it goes on, and how the lists turn. -/
namespace Go.Proofs.YtomolbhcggaakaaGreat

/-- A world in the midst of a run's end: places and lists stay within bounds. -/
structure MidW (n q : Nat) (w : Wd) : Prop where
  len : w.runs.length = n
  at_ : ∀ x : Int, 1 ≤ x → x ≤ n → 0 ≤ (getR w.runs x).at_ ∧ (getR w.runs x).at_ < w.code.length
  lst : ∀ x : Int, 1 ≤ x → x ≤ n → (getR w.runs x).links.length ≤ 1000 ∧ (getR w.runs x).watched.length ≤ 1000
  queue : w.queue.length ≤ q
theorem MidW.more {n q q' : Nat} {w : Wd} (h : MidW n q w) (hq : q ≤ q') : MidW n q' w := ⟨h.len, h.at_, h.lst, Nat.le_trans h.queue hq⟩
theorem MidW.of {w : Wd} (h : WOk w) : MidW w.runs.length 6 w := by
  refine ⟨rfl, fun x x1 x2 => ?_, fun x x1 x2 => ?_, wok_queue (worldOk_iff.2 h)⟩
  · have hr := h.run x1 x2
    exact ⟨(runOk_parts hr.ok).2.1.1, hr.at_⟩
  · have hr := runOk_parts (h.run x1 x2).ok
    have a := len6 hr.2.2.2.2.2.2.2.2.2.2.1
    have b := len6 hr.2.2.2.2.2.2.2.2.2.2.2.1
    omega
theorem MidW.give {n q : Nat} {w : Wd} (h : MidW n q w) (id : Int) (v : Vl) : MidW n (q + 1) (give w id v) := by
  refine ⟨by rw [give_length]; exact h.len, fun x x1 x2 => ?_, fun x x1 x2 => ?_, by have := (give_size w id v).1; have := h.queue; omega⟩
  · rw [give_code, (give_fields w id v x1).2.1]
    exact h.at_ x x1 x2
  · rw [(give_fields w id v x1).2.2.2.2.1, (give_fields w id v x1).2.2.2.2.2.1]
    exact h.lst x x1 x2
theorem MidW.unlink {n q : Nat} {w : Wd} (h : MidW n q w) {k : Int} (k1 : 1 ≤ k) (k2 : k ≤ n) (id : Int) : MidW n q (unlink w k id) := by
  have k3 : k ≤ w.runs.length := by rw [h.len]; exact k2
  refine ⟨by rw [unlink_length]; exact h.len, fun x x1 x2 => ?_, fun x x1 x2 => ?_, h.queue⟩
  · rw [unlink_run w k1 k3 x1]
    have := h.at_ x x1 x2
    split <;> exact this
  · rw [unlink_run w k1 k3 x1]
    have := h.lst x x1 x2
    split
    · exact ⟨Nat.le_trans (less_le _ id) this.1, this.2⟩
    · exact this
theorem MidW.first {n q : Nat} {w : Wd} (h : MidW n q w) {id : Int} (i1 : 1 ≤ id) (i2 : id ≤ n) (why : Vl) : MidW n q (endFirst w id why) := by
  have i3 : id ≤ w.runs.length := by rw [h.len]; exact i2
  refine ⟨by rw [endFirst_length]; exact h.len, fun x x1 x2 => ?_, fun x x1 x2 => ?_, ?_⟩
  · rw [endFirst_run i1 i3 why x1 (by rw [h.len]; exact x2)]
    have := h.at_ x x1 x2
    split
    · rename_i e
      subst e
      exact this
    · exact this
  · rw [endFirst_run i1 i3 why x1 (by rw [h.len]; exact x2)]
    have := h.lst x x1 x2
    split
    · exact ⟨Nat.zero_le _, Nat.zero_le _⟩
    · exact ⟨this.1, Nat.le_trans (less_le _ id) this.2⟩
  · have := less_le w.queue id
    have := h.queue
    show (less w.queue id).length ≤ q
    omega
theorem MidW.step {n q : Nat} {s : Wd × List Int} (h : MidW n q s.1) (id : Int) (nm : Bool) {k : Int} (k1 : 1 ≤ k) (k2 : k ≤ n) : MidW n (q + 1) (linkStep id nm s k).1 := by
  unfold linkStep
  have hu := h.unlink k1 k2 id
  split
  · exact hu.more (by omega)
  · split
    · exact hu.give k _
    · exact hu.more (by omega)
theorem step_next (id : Int) (nm : Bool) (s : Wd × List Int) (k : Int) : (linkStep id nm s k).2.length ≤ s.2.length + 1 := by
  unfold linkStep
  split
  · simp
  · split <;> simp

/-! The watched of the first i runs are cleared. -/
def wat (id : Int) (i : Nat) (l : List Rn) : List Rn := (l.take i).map (fun x => { x with watched := less x.watched id }) ++ l.drop i
theorem wat_zero (id : Int) (l : List Rn) : wat id 0 l = l := by simp [wat]
theorem wat_full (id : Int) (l : List Rn) : wat id l.length l = l.map (fun x => { x with watched := less x.watched id }) := by simp [wat]
theorem wat_length (id : Int) (i : Nat) (l : List Rn) : (wat id i l).length = l.length := by simp [wat]; omega
theorem wat_split {id : Int} {i : Nat} {l : List Rn} {pre post : List (Rn × RA)} {p : Rn × RA} (h : (pre ++ p :: post).map (·.1) = wat id i l) (hp : pre.length = i) (hi : i < l.length) :
    p.1 = l[i] ∧ ∀ a : RA, (pre ++ (({ p.1 with watched := less p.1.watched id } : Rn), a) :: post).map (·.1) = wat id (i + 1) l := by
  have hd : l.drop i = l[i] :: l.drop (i + 1) := (List.drop_eq_getElem_cons hi)
  unfold wat at *
  rw [hd, List.map_append, List.map_cons] at h
  obtain ⟨h1, h2⟩ := List.append_inj h (by simp; omega)
  injection h2 with h3 h4
  refine ⟨h3, fun a => ?_⟩
  rw [List.map_append, List.map_cons, h1, h4, takeS l hi, List.map_append, h3]
  simp
/-! A run in the midst of a list turns. -/
theorem mid_upd {pre post : List (Rn × RA)} {p : Rn × RA} {k : Nat} (hp : pre.length = k) (f : Rn → Rn) (a : RA) : (pre ++ (f p.1, a) :: post).map (·.1) = updR ((pre ++ p :: post).map (·.1)) ((k : Int) + 1) f := by
  unfold updR getR
  have e : ((k : Int) + 1 - 1).toNat = k := by omega
  rw [e, List.map_append, List.map_append, List.map_cons, List.map_cons]
  have hl : (pre.map (·.1)).length = k := by simpa using hp
  rw [List.getD_eq_getElem?_getD, List.getElem?_append_right (by omega), List.set_append_right _ _ (by omega), hl]
  simp
theorem mid_run {pre post : List (Rn × RA)} {p : Rn × RA} {k : Nat} (hp : pre.length = k) : getR ((pre ++ p :: post).map (·.1)) ((k : Int) + 1) = p.1 := by
  unfold getR
  have e : ((k : Int) + 1 - 1).toNat = k := by omega
  have hl : (pre.map (·.1)).length = k := by simpa using hp
  rw [e, List.map_append, List.map_cons, List.getD_eq_getElem?_getD, List.getElem?_append_right (by omega), hl]
  simp
/-! A run's end: its own entry, ahead of the others'. -/
def endSelf (w : Wd) (id : Int) (why : Vl) : Wd := { w with lost := wr (w.lost + (getR w.runs id).mail.length), runs := updR w.runs id (endOne why), queue := less w.queue id }
theorem MidW.self {n q : Nat} {w : Wd} (h : MidW n q w) {id : Int} (i1 : 1 ≤ id) (i2 : id ≤ n) (why : Vl) : MidW n q (endSelf w id why) := by
  have i3 : id ≤ w.runs.length := by rw [h.len]; exact i2
  refine ⟨by show (updR _ _ _).length = n; rw [updR_length]; exact h.len, fun x x1 x2 => ?_, fun x x1 x2 => ?_, ?_⟩
  · show 0 ≤ (getR (updR w.runs id (endOne why)) x).at_ ∧ (getR (updR w.runs id (endOne why)) x).at_ < _
    rw [getR_updR i1 i3 x1]
    have := h.at_ x x1 x2
    split
    · rename_i e
      subst e
      exact this
    · exact this
  · show (getR (updR w.runs id (endOne why)) x).links.length ≤ 1000 ∧ (getR (updR w.runs id (endOne why)) x).watched.length ≤ 1000
    rw [getR_updR i1 i3 x1]
    have := h.lst x x1 x2
    split
    · exact ⟨Nat.zero_le _, Nat.zero_le _⟩
    · exact this
  · exact Nat.le_trans (less_le w.queue id) h.queue
theorem endFirst_self (w : Wd) (id : Int) (why : Vl) : endFirst w id why = { endSelf w id why with runs := wat id (endSelf w id why).runs.length (endSelf w id why).runs } := by
  rw [wat_full]
  rfl
theorem MidW.wlen {n q : Nat} {w : Wd} (h : MidW n q w) {k : Nat} (hk : k < w.runs.length) : (w.runs[k]).watched.length ≤ 1000 := by
  have h1 := (h.lst ((k : Int) + 1) (by omega) (by rw [← h.len]; omega)).2
  have e : getR w.runs ((k : Int) + 1) = w.runs[k] := by
    rw [mem_getR (by omega) (by omega)]
    congr 1; omega
  rwa [e] at h1
end Go.Proofs.YtomolbhcggaakaaGreat
/- A world in a box, opened at one run and closed again. -/
namespace Go.Proofs.YtomolbhcggaakaaGreat
open Go.RowKit
set_option maxRecDepth 100000

abbrev w7 (W : Wm) : List Value := [.slice W.cA W.code.length W.cC, .slice W.rA W.ps.length W.rC, .slice W.qA W.queue.length W.qC, .int .i64 W.now, .int .i64 W.sent, .int .i64 W.taken, .int .i64 W.lost]
theorem Mem.rwsMid {w0 w : World} {f : List Nat} {L : List Asn} {pre post : List (Rn × RA)} {p : Rn × RA} (M : Mem w0 f w (rws (pre ++ p :: post) :: L)) : Mem w0 f w (runA p.1 p.2 :: rws (pre ++ post) :: L) := (M.rwsPerm List.perm_middle).rwsHead
theorem Mem.rwsMidPut {w0 w : World} {f : List Nat} {L : List Asn} {pre post : List (Rn × RA)} {r : Rn} {a : RA} (M : Mem w0 f w (runA r a :: rws (pre ++ post) :: L)) : Mem w0 f w (rws (pre ++ (r, a) :: post) :: L) := M.rwsCons.rwsPerm List.perm_middle.symm
theorem mid_split {α : Type} {l : List α} {k : Nat} (hk : k < l.length) : ∃ (pre post : List α) (p : α), l = pre ++ p :: post ∧ pre.length = k ∧ p = l[k] :=
  ⟨l.take k, l.drop (k + 1), l[k], by rw [List.getElem_cons_drop, List.take_append_drop], by rw [List.length_take]; omega, rfl⟩
/-- What is held of a world opened at a run. -/
def opened (g gr nn : Nat) (cA : Option Addr) (cC : Nat) (code : List Opx) (rC : Nat) (pre post : List (Rn × RA)) (r : Rn) (a : RA) (queue : List Int) (qA : Option Addr) (qC : Nat) (now sent taken lost : Int) (L : List Asn) : List Asn :=
  blk g tW [.slice cA code.length cC, .slice (some ⟨gr, 0, none⟩) nn rC, .slice qA queue.length qC, .int .i64 now, .int .i64 sent, .int .i64 taken, .int .i64 lost] ::
  row encR 13 tR (some ⟨gr, 0, none⟩) rC (pre ++ (r, a) :: post) :: row encV 2 tV a.sA a.sC r.slots :: row encV 2 tV a.mA a.mC r.mail :: row encI 1 tI a.lA a.lC r.links :: row encI 1 tI a.wA a.wC r.watched ::
  rws (pre ++ post) :: row encO 6 tO cA cC code :: row encI 1 tI qA qC queue :: L
theorem open_at {V : Wm} {g k : Nat} {w0 w : World} {f : List Nat} {L : List Asn} (M : Mem w0 f w (blk g tW (w7 V) :: wld V :: L)) (hk : k < V.ps.length) :
    ∃ (gr nn : Nat) (pre post : List (Rn × RA)) (r : Rn) (a : RA), V.rA = some ⟨gr, 0, none⟩ ∧ V.ps = pre ++ (r, a) :: post ∧ pre.length = k ∧ (∀ x : Rn × RA, (pre ++ x :: post).length = nn) ∧ nn = V.ps.length ∧
      Mem w0 f w (opened g gr nn V.cA V.cC V.code V.rC pre post r a V.queue V.qA V.qC V.now V.sent V.taken V.lost L) := by
  replace M := (M.perm (.swap _ _ _)).unpackW
  obtain ⟨gr, hgr⟩ := row_form M (.there .here) (by omega)
  obtain ⟨code, cA, cC, ps, rA, rC, queue, qA, qC, now, sent, taken, lost⟩ := V
  simp only [w7] at *
  subst hgr
  obtain ⟨pre, post, p, hps, hpl, _⟩ := mid_split hk
  subst hps
  obtain ⟨r, a⟩ := p
  have M1 : Mem w0 f w (rws (pre ++ (r, a) :: post) :: blk g tW [.slice cA code.length cC, .slice (some ⟨gr, 0, none⟩) (pre ++ (r, a) :: post).length rC, .slice qA queue.length qC, .int .i64 now, .int .i64 sent, .int .i64 taken, .int .i64 lost] :: rowO cA cC code :: rowR (some ⟨gr, 0, none⟩) rC (pre ++ (r, a) :: post) :: rowI qA qC queue :: L) := M.sel sl
  have M2 := M1.rwsMid.unpackRun
  refine ⟨gr, (pre ++ (r, a) :: post).length, pre, post, r, a, rfl, rfl, hpl, fun x => by simp, rfl, ?_⟩
  unfold opened
  have M3 : Mem w0 f w (rowV a.sA a.sC r.slots :: rowV a.mA a.mC r.mail :: rowI a.lA a.lC r.links :: rowI a.wA a.wC r.watched :: rws (pre ++ post) :: blk g tW [.slice cA code.length cC, .slice (some ⟨gr, 0, none⟩) (pre ++ (r, a) :: post).length rC, .slice qA queue.length qC, .int .i64 now, .int .i64 sent, .int .i64 taken, .int .i64 lost] :: rowO cA cC code :: rowR (some ⟨gr, 0, none⟩) rC (pre ++ (r, a) :: post) :: rowI qA qC queue :: L) := M2
  exact M3.sel (T := blk g tW [.slice cA code.length cC, .slice (some ⟨gr, 0, none⟩) (pre ++ (r, a) :: post).length rC, .slice qA queue.length qC, .int .i64 now, .int .i64 sent, .int .i64 taken, .int .i64 lost] :: rowR (some ⟨gr, 0, none⟩) rC (pre ++ (r, a) :: post) :: rowV a.sA a.sC r.slots :: rowV a.mA a.mC r.mail :: rowI a.lA a.lC r.links :: rowI a.wA a.wC r.watched :: rws (pre ++ post) :: rowO cA cC code :: rowI qA qC queue :: L) sl
theorem close_at {g gr nn : Nat} {cA : Option Addr} {cC : Nat} {code : List Opx} {rC : Nat} {pre post : List (Rn × RA)} {r : Rn} {a : RA} {queue : List Int} {qA : Option Addr} {qC : Nat} {now sent taken lost : Int} {w0 w : World} {f : List Nat} {L : List Asn}
    (M : Mem w0 f w (opened g gr nn cA cC code rC pre post r a queue qA qC now sent taken lost L)) (hnn : ∀ x : Rn × RA, (pre ++ x :: post).length = nn) :
    Mem w0 f w (blk g tW (w7 ⟨code, cA, cC, pre ++ (r, a) :: post, some ⟨gr, 0, none⟩, rC, queue, qA, qC, now, sent, taken, lost⟩) :: wld ⟨code, cA, cC, pre ++ (r, a) :: post, some ⟨gr, 0, none⟩, rC, queue, qA, qC, now, sent, taken, lost⟩ :: L) := by
  unfold opened at M
  have M1 : Mem w0 f w (blk g tW [.slice cA code.length cC, .slice (some ⟨gr, 0, none⟩) nn rC, .slice qA queue.length qC, .int .i64 now, .int .i64 sent, .int .i64 taken, .int .i64 lost] :: rowR (some ⟨gr, 0, none⟩) rC (pre ++ (r, a) :: post) :: rowV a.sA a.sC r.slots :: rowV a.mA a.mC r.mail :: rowI a.lA a.lC r.links :: rowI a.wA a.wC r.watched :: rws (pre ++ post) :: rowO cA cC code :: rowI qA qC queue :: L) := M
  have M2 : Mem w0 f w (rowV a.sA a.sC r.slots :: rowV a.mA a.mC r.mail :: rowI a.lA a.lC r.links :: rowI a.wA a.wC r.watched :: rws (pre ++ post) :: blk g tW [.slice cA code.length cC, .slice (some ⟨gr, 0, none⟩) nn rC, .slice qA queue.length qC, .int .i64 now, .int .i64 sent, .int .i64 taken, .int .i64 lost] :: rowR (some ⟨gr, 0, none⟩) rC (pre ++ (r, a) :: post) :: rowO cA cC code :: rowI qA qC queue :: L) := M1.sel sl
  have M3 := M2.packRun.rwsMidPut
  have M4 : Mem w0 f w (rowO cA cC code :: rowR (some ⟨gr, 0, none⟩) rC (pre ++ (r, a) :: post) :: rowI qA qC queue :: rws (pre ++ (r, a) :: post) :: blk g tW [.slice cA code.length cC, .slice (some ⟨gr, 0, none⟩) nn rC, .slice qA queue.length qC, .int .i64 now, .int .i64 sent, .int .i64 taken, .int .i64 lost] :: L) := M3.sel sl
  simp only [w7, hnn]
  exact (Mem.packW (W := ⟨code, cA, cC, pre ++ (r, a) :: post, some ⟨gr, 0, none⟩, rC, queue, qA, qC, now, sent, taken, lost⟩) M4).perm (.swap _ _ _)
theorem runAt_mid {w0 w : World} {f : List Nat} {L L' : List Asn} {g c k : Nat} {pre post : List (Rn × RA)} {r : Rn} {a : RA} (M : Mem w0 f w L) (hd : Del (row encR 13 tR (some ⟨g, 0, none⟩) c (pre ++ (r, a) :: post)) L L') (hp : pre.length = k) : RunAt w g (k * 13) r a := by
  have h := row_mid encR_length M hd hp
  exact ⟨h 0 (by decide), h 1 (by decide), h 2 (by decide), h 3 (by decide), h 4 (by decide), h 5 (by decide), h 6 (by decide), h 7 (by decide), h 8 (by decide), h 9 (by decide), h 10 (by decide), h 11 (by decide), h 12 (by decide)⟩
theorem setR7x (r : Rn) (a : RA) (l : List Int) (A : Option Addr) (c : Nat) : encR ({ r with links := l }, { a with lA := A, lC := c }) = (encR (r, a)).set 7 (.slice A l.length c) := rfl
theorem setR8x (r : Rn) (a : RA) (l : List Int) (A : Option Addr) (c : Nat) : encR ({ r with watched := l }, { a with wA := A, wC := c }) = (encR (r, a)).set 8 (.slice A l.length c) := rfl
section
variable {α : Type} {enc : α → List Value} {m : Nat} {t : TypeId} {c : Nat} {pre post : List α} {e0 : α} {w0 w : World} {f : List Nat} {L L' : List Asn}
variable {P : Program} {ops : Array Oper} {rest : List Oper} {Q : Exit → Act → World → Prop} {a : Act} {x y : Operand} {tt ty : TypeId} {pos : String} {after : Array Edge} {gd : Option (Nat × Bool)}
/-- A whole element in the midst of a row is written. -/
theorem ev_put_mid (x' : α) (hk : ∀ x, (enc x).length = m) (hone : ∀ x, ∀ u ∈ enc x, u.oneCell' = true) (M : Mem w0 f w L) {v : Value} {g off k : Nat} (hw : Region.wanted ⟨none, .store tt x y, ty, pos, after, gd⟩ (yielded ops a.tmps) = true) (hx : a.eval x = .pointer (some ⟨g, off, none⟩)) (hy : a.eval y = v) (hv : v.cells = (enc x').toArray)
    (hs : (P.info? tt).map (·.size) = some m) (hd : Del (row enc m t (some ⟨g, 0, none⟩) c (pre ++ e0 :: post)) L L') (ho : off = k * m) (hp : pre.length = k)
    (h : ∀ w1, Mem w0 f w1 (row enc m t (some ⟨g, 0, none⟩) c (pre ++ x' :: post) :: L') → wpList P ops Q rest a w1) : wpList P ops Q (⟨none, .store tt x y, ty, pos, after, gd⟩ :: rest) a w := by
  refine ev_put_row x' hk hone M hw hx hy hv hs hd ho (by rw [List.length_append, List.length_cons]; omega) fun w1 M1 => h w1 ?_
  rw [mid_set _ _ _ _ hp] at M1
  exact M1
end
end Go.Proofs.YtomolbhcggaakaaGreat
