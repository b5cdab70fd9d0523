/- Parts of the proof, in one text. -/
import Derived.Test.YtmidnaafljgbiaaB31
import Derived.Test.YtmidnaafljgbiaaB27
import Derived.Test.YtmidnaafljgbiaaB29
import Derived.Test.YtmidnaafljgbiaaB05
import Derived.Test.YtmidnaafljgbiaaB04
import Derived.Test.YtmidnaafljgbiaaB22
/- All that fall with one, by the reference. -/
namespace Go.Proofs.Ytmidnaafljgbiaa
open Go.RowKit

theorem sEnd (W : Wm) (k0 : Nat) (why : Vl) {w0 w : World} {f : List Nat} {L L' : List Asn} (M : Mem w0 f w L) (hd : Del (wld W) L L') (hk : k0 < W.ps.length) (hok : WOk W.wd) (hv : valOk why = true) (hs : W.sent + 12 * (sumR liveW W.wd.runs : Nat) ≤ 9999) :
    Calls Try.prog 149 #[.agg (wArr W), .int .i64 ((k0 : Int) + 1), .agg #[.int .i64 why.k, .int .i64 why.n]] w (WPost (fallAll W.wd ((k0 : Int) + 1) why) w0 f L') :=
  sEnd' W k0 why.k why.n (fun V k _ _ _ M hd hk hn hm hl => sOne V k ⟨why.k, why.n⟩ M hd hk hn hm hl) M hd hk hok hv hs
end Go.Proofs.Ytmidnaafljgbiaa
/- Turns in plain words: a step, a turn, a tick, an event. No Go and no memory here. -/
namespace Go.Proofs.Ytmidnaafljgbiaa

def otherW (w : Wd) (id : Int) (o : Opx) : Wd :=
  let to := slotAt (getR w.runs id) o.r
  if to.k ≠ 3 then fallAll w id ⟨2, 2⟩
  else
    let w1 := upd w id nextR
    if o.k = 6 then give w1 to.n (slotAt (getR w.runs id) o.s)
    else if o.k = 12 ∧ aliveIn w1.runs to.n = false then give w1 id to
    else if to.n = id ∨ aliveIn w1.runs to.n = false then w1
    else if o.k = 12 ∧ id ∉ (getR w1.runs to.n).watched then watchW w1 to.n id
    else if o.k = 11 ∧ to.n ∉ (getR w.runs id).links then linkW2 w1 id to.n
    else w1
theorem ok_name {n : Int} (h : 0 ≤ n ∧ n ≤ 9) : valOk ⟨2, n⟩ = true := by
  unfold valOk
  simp only [if_neg (by decide : ¬ (2 : Int) = 0), if_neg (by decide : ¬ (2 : Int) = 1), if_true]
  exact inB_iff.2 h
theorem next_turned {w : Wd} {id : Int} (h : WOk w) (h1 : 1 ≤ id) (h2 : id ≤ w.runs.length) (hs : (getR w.runs id).state = 1)
    (k9 : (opAt w.code (getR w.runs id).at_).k ≠ 9) (k14 : (opAt w.code (getR w.runs id).at_).k ≠ 14) (hf : fillsR (opAt w.code (getR w.runs id).at_).k = false) {n : Int} (hn : 0 ≤ n) : Turned w (upd w id nextR) n := by
  have f := h.run h1 h2
  have nd := h.need h1 h2 (by omega)
  obtain ⟨_, ha, _, _, _, _, hd, _⟩ := runOk_parts f.ok
  exact goto_ok (i := (getR w.runs id).at_ + 1) (d := (getR w.runs id).due) (b := (getR w.runs id).trap) h h1 h2 hs ⟨by omega, (nd.at_.next k9 k14).1⟩ hd ((nd.next k9 k14).2 hf) hn |> fun t => by
    have e : upd w id nextR = upd w id (fun r => { r with at_ := (getR w.runs id).at_ + 1, due := (getR w.runs id).due, trap := (getR w.runs id).trap }) := by
      unfold upd updR nextR
      rfl
    rw [e]
    exact t
theorem otherW_turned {w : Wd} {id : Int} (h : WOk w) (hr : room w < 9999) (h1 : 1 ≤ id) (h2 : id ≤ w.runs.length) (hs : (getR w.runs id).state = 1)
    (hk : (opAt w.code (getR w.runs id).at_).k = 6 ∨ (opAt w.code (getR w.runs id).at_).k = 11 ∨ (opAt w.code (getR w.runs id).at_).k = 12) : Turned w (otherW w id (opAt w.code (getR w.runs id).at_)) 1 := by
  have f := h.run h1 h2
  have nd := h.need h1 h2 (by omega)
  have hlen := h.len
  obtain ⟨_, _, _, _, kr, ks, _⟩ := opOk_parts nd.at_.op
  have hto := slot_ok f.ok kr
  have hsl := slot_ok f.ok ks
  generalize hT : slotAt (getR w.runs id) (opAt w.code (getR w.runs id).at_).r = T at hto
  obtain ⟨tk, tn⟩ := T
  unfold otherW
  rw [hT]
  by_cases h3 : tk ≠ 3
  · show Turned w (if tk ≠ 3 then _ else _) 1
    rw [if_pos h3]
    exact fall_turned h (by omega) id (ok_name (by omega)) (by omega)
  · show Turned w (if tk ≠ 3 then _ else _) 1
    rw [if_neg h3]
    have h3 : tk = 3 := by omega
    subst h3
    have t1 := next_turned h h1 h2 hs (by omega) (by omega) (by rcases hk with e | e | e <;> rw [e] <;> rfl) (n := 0) (Int.le_refl _)
    have r1 := t1.room
    have hi : aliveIn (upd w id nextR).runs id = true := by
      show aliveIn (updR w.runs id nextR) id = true
      rw [updR_alive h1 h2 (by omega) (by show (getR w.runs id).state ≠ 3; omega)]
      exact aliveIn_iff.2 ⟨⟨h1, h2⟩, by omega⟩
    have el : (getR (upd w id nextR).runs id).links = (getR w.runs id).links := by
      show (getR (updR w.runs id nextR) id).links = _
      rw [getR_updR h1 h2 h1, if_pos rfl]
      rfl
    dsimp only
    by_cases c6 : (opAt w.code (getR w.runs id).at_).k = 6
    · rw [if_pos c6]
      exact t1.trans (give_turned t1.ok (by omega) tn hsl (Int.le_refl 1)) (by omega)
    rw [if_neg c6]
    by_cases c12 : (opAt w.code (getR w.runs id).at_).k = 12 ∧ aliveIn (upd w id nextR).runs tn = false
    · rw [if_pos c12]
      exact t1.trans (give_turned t1.ok (by omega) id hto (Int.le_refl 1)) (by omega)
    rw [if_neg c12]
    by_cases ct : tn = id ∨ aliveIn (upd w id nextR).runs tn = false
    · rw [if_pos ct]
      exact t1.trans (Turned.refl t1.ok (n := 1) (by omega)) (by omega)
    rw [if_neg ct]
    have hne : tn ≠ id := fun e => ct (.inl e)
    have hal : aliveIn (upd w id nextR).runs tn = true := by
      cases hx : aliveIn (upd w id nextR).runs tn with
      | true => rfl
      | false => exact absurd (.inr hx) ct
    by_cases cw : (opAt w.code (getR w.runs id).at_).k = 12 ∧ id ∉ (getR (upd w id nextR).runs tn).watched
    · rw [if_pos cw]
      exact t1.trans (watchW_turned t1.ok hal hi (fun e => hne e.symm) cw.2 (n := 1) (by omega)) (by omega)
    rw [if_neg cw]
    by_cases cl : (opAt w.code (getR w.runs id).at_).k = 11 ∧ tn ∉ (getR w.runs id).links
    · rw [if_pos cl]
      exact t1.trans (linkW2_turned t1.ok hi hal hne (by rw [el]; exact cl.2) (n := 1) (by omega)) (by omega)
    rw [if_neg cl]
    exact t1.trans (Turned.refl t1.ok (n := 1) (by omega)) (by omega)

def addV (a b : Vl) : Vl × Bool := if a.k = 1 ∧ b.k = 1 ∧ valOk ⟨1, wr (a.n + b.n)⟩ = true then (⟨1, wr (a.n + b.n)⟩, true) else (Vl.zero, false)
def stepW (w : Wd) (id : Int) : Wd :=
  let r := getR w.runs id
  let o := opAt w.code r.at_
  if o.k = 1 then setW w id o.r o.v
  else if o.k = 2 then setW w id o.r (slotAt r o.s)
  else if o.k = 3 then (if (addV (slotAt r o.r) (slotAt r o.s)).2 then setW w id o.r (addV (slotAt r o.r) (slotAt r o.s)).1 else fallAll w id ⟨2, 1⟩)
  else if o.k = 4 then setW w id o.r ⟨3, id⟩
  else if o.k = 5 then beginW w id o
  else if o.k = 7 ∨ o.k = 8 then takeW w id o
  else if o.k = 9 then upd w id (fun r => { r with at_ := o.to })
  else if o.k = 10 then upd w id (fun q => { q with at_ := if slotAt r o.r = o.v then o.to else r.at_ + 1 })
  else if o.k = 13 then upd w id (fun q => { q with trap := o.v.n == 1, at_ := r.at_ + 1 })
  else if o.k = 14 then fallAll w id (slotAt r o.r)
  else otherW w id o
theorem stepW_turned {w : Wd} {id : Int} (h : WOk w) (hr : room w < 9999) (h1 : 1 ≤ id) (h2 : id ≤ w.runs.length) (hs : (getR w.runs id).state = 1) : Turned w (stepW w id) 1 := by
  have f := h.run h1 h2
  have nd := h.need h1 h2 (by omega)
  have hlen := h.len
  obtain ⟨kk, ov, _, _, kr, ks, kt⟩ := opOk_parts nd.at_.op
  have hlt := nd.at_.lt
  obtain ⟨_, ha, _, _, _, _, hd, _⟩ := runOk_parts f.ok
  have s1 := slot_ok f.ok kr
  have s2 := slot_ok f.ok ks
  generalize ho : opAt w.code (getR w.runs id).at_ = o at *
  have set : ∀ v : Vl, valOk v = true → fillsR o.k = true ∨ o.k = 3 → Turned w (setW w id o.r v) 1 := by
    intro v hv hk
    have t := setW_turned h h1 h2 hs hv (n := 1) (by rw [ho]; exact hk) (by omega)
    rw [ho] at t
    exact t
  have next := nd.next
  have goes := nd.goes
  have nxt := nd.at_.next
  have toLt := nd.at_.to
  rw [ho] at next goes nxt toLt
  unfold stepW
  dsimp only
  rw [ho]
  by_cases k1 : o.k = 1
  · rw [if_pos k1]; exact set _ ov (.inl (by rw [k1]; rfl))
  rw [if_neg k1]
  by_cases k2 : o.k = 2
  · rw [if_pos k2]; exact set _ s2 (.inl (by rw [k2]; rfl))
  rw [if_neg k2]
  by_cases k3 : o.k = 3
  · rw [if_pos k3]
    cases hx : (addV (slotAt (getR w.runs id) o.r) (slotAt (getR w.runs id) o.s)).2 with
    | true =>
      rw [if_pos rfl]
      refine set _ ?_ (.inr k3)
      unfold addV at hx ⊢
      split at hx
      · rename_i hc
        rw [if_pos hc]
        exact hc.2.2
      · cases hx
    | false =>
      rw [if_neg (by decide)]
      exact fall_turned h (by omega) id (ok_name (by omega)) (by omega)
  rw [if_neg k3]
  by_cases k4 : o.k = 4
  · rw [if_pos k4]; exact set _ (ok_run (by omega)) (.inl (by rw [k4]; rfl))
  rw [if_neg k4]
  by_cases k5 : o.k = 5
  · rw [if_pos k5]
    have t := beginW_turned h h1 h2 hs (by rw [ho]; exact k5) (n := 1) (by omega)
    rw [ho] at t
    exact t
  rw [if_neg k5]
  by_cases k7 : o.k = 7 ∨ o.k = 8
  · rw [if_pos k7]
    have t := takeW_turned h h1 h2 hs (by rw [ho]; exact k7) (n := 1) (by omega)
    rw [ho] at t
    exact t
  rw [if_neg k7]
  by_cases k9 : o.k = 9
  · rw [if_pos k9]
    have t := goto_ok (i := o.to) (d := (getR w.runs id).due) (b := (getR w.runs id).trap) h h1 h2 hs ⟨kt.1, toLt (by rw [k9]; rfl)⟩ hd (goes (.inr (.inl k9))) (n := 1) (by omega)
    exact t
  rw [if_neg k9]
  by_cases k10 : o.k = 10
  · rw [if_pos k10]
    have n14 : o.k ≠ 14 := by omega
    by_cases hv : slotAt (getR w.runs id) o.r = o.v
    · rw [if_pos hv]
      exact goto_ok (i := o.to) (d := (getR w.runs id).due) (b := (getR w.runs id).trap) h h1 h2 hs ⟨kt.1, toLt (by rw [k10]; rfl)⟩ hd (goes (.inr (.inr k10))) (n := 1) (by omega)
    · rw [if_neg hv]
      exact goto_ok (i := (getR w.runs id).at_ + 1) (d := (getR w.runs id).due) (b := (getR w.runs id).trap) h h1 h2 hs ⟨by omega, (nxt k9 n14).1⟩ hd ((next k9 n14).2 (by rw [k10]; rfl)) (n := 1) (by omega)
  rw [if_neg k10]
  by_cases k13 : o.k = 13
  · rw [if_pos k13]
    have n14 : o.k ≠ 14 := by omega
    exact goto_ok (i := (getR w.runs id).at_ + 1) (d := (getR w.runs id).due) (b := o.v.n == 1) h h1 h2 hs ⟨by omega, (nxt k9 n14).1⟩ hd ((next k9 n14).2 (by rw [k13]; rfl)) (n := 1) (by omega)
  rw [if_neg k13]
  by_cases k14 : o.k = 14
  · rw [if_pos k14]
    exact fall_turned h (by omega) id s1 (by omega)
  rw [if_neg k14]
  have t := otherW_turned h hr h1 h2 hs (by rw [ho]; omega)
  rw [ho] at t
  exact t

/-! ### A turn -/
def stepsN : Nat → Wd → Int → Wd
  | 0, w, _ => w
  | n + 1, w, id => if (getR w.runs id).state = 1 then stepsN n (stepW w id) id else w
theorem stepsN_turned : ∀ (n : Nat) {w : Wd} {id : Int}, WOk w → room w + n ≤ 9999 → 1 ≤ id → id ≤ w.runs.length → Turned w (stepsN n w id) n
  | 0, w, id, h, _, _, _ => Turned.refl h (by omega)
  | n + 1, w, id, h, hr, h1, h2 => by
    show Turned w (if _ then _ else _) _
    by_cases hs : (getR w.runs id).state = 1
    · rw [if_pos hs]
      have t := stepW_turned h (by omega) h1 h2 hs
      have := t.room
      have hl := t.len
      exact t.trans (stepsN_turned n t.ok (by omega) h1 (by omega)) (by omega)
    · rw [if_neg hs]
      exact Turned.refl h (by omega)
def mn_ (a b : Int) : Int := if a ≤ b then a else b
def turnFirst (w : Wd) (id : Int) : Wd := upd w id (fun r => { r with turns := mn_ (wr (r.turns + 1)) 9999 })
def lastW (w : Wd) (id : Int) : Wd := if (getR w.runs id).state = 1 then { w with queue := less w.queue id ++ [id] } else w
def doW (w : Wd) : Wd := match w.queue with
  | [] => w
  | id :: _ => lastW (stepsN 3 (turnFirst w id) id) id
theorem turnFirst_turned {w : Wd} {id : Int} (h : WOk w) (h1 : 1 ≤ id) (h2 : id ≤ w.runs.length) (hs : (getR w.runs id).state = 1) : Turned w (turnFirst w id) 0 := by
  have f := h.run h1 h2
  obtain ⟨_, ha, _, _, _, _, hd, ht, _⟩ := runOk_parts f.ok
  refine Turned.upd (q := w.queue) (t := w.taken) h1 h2 (by omega) (by show (getR w.runs id).state ≠ 3; omega) (upd_ok1 h h1 h2 _ hs hs ?_ rfl f.at_ (f.need (by omega)) rfl f.watched rfl) (Int.le_refl _)
  refine runOk_turn f.ok (by omega) ha (s := (getR w.runs id).state) (by omega) hd ?_
  rw [wr_eq (by omega) (by omega)]
  unfold mn_
  split <;> omega
theorem lastW_turned {w : Wd} {id : Int} (h : WOk w) (h1 : 1 ≤ id) (h2 : id ≤ w.runs.length) : Turned w (lastW w id) 0 := by
  unfold lastW
  by_cases hs : (getR w.runs id).state = 1
  · rw [if_pos hs]
    have f := h.run h1 h2
    have hq := f.queue
    rw [h.run_id h1 h2] at hq
    have hm : ∀ x, x ∈ less w.queue id ++ [id] ↔ x ∈ w.queue := by
      intro x
      rw [List.mem_append, List.mem_singleton, mem_less]
      constructor
      · rintro (hx | rfl)
        · exact hx.1
        · exact hq.2 hs
      · intro hx
        by_cases e : x = id
        · exact .inr e
        · exact .inl ⟨hx, e⟩
    refine ⟨⟨h.safe, h.len, h.now, h.sent, h.taken, h.lost, fun x hx => h.qin x ((hm x).1 hx), ?_, fun k hk => (h.fit k hk).keep rfl (fun _ => rfl) (fun _ hx => hx) (hm _), h.sym, h.sum⟩, rfl, Nat.le_refl _, by show room w ≤ _; omega⟩
    show (less w.queue id ++ [id]).Nodup
    rw [List.nodup_append]
    refine ⟨h.qnd.filter _, by simp, ?_⟩
    intro a ha b hb e
    rw [List.mem_singleton] at hb
    subst hb
    subst e
    exact (mem_less.1 ha).2 rfl
  · rw [if_neg hs]
    exact Turned.refl h (Int.le_refl _)
theorem doW_turned {w : Wd} (h : WOk w) (hr : room w + 3 ≤ 9999) : Turned w (doW w) 3 := by
  unfold doW
  cases hq : w.queue with
  | nil => exact Turned.refl h (by omega)
  | cons id q =>
    have hm : id ∈ w.queue := by rw [hq]; simp
    have hi := h.qin id hm
    have hs : (getR w.runs id).state = 1 := (h.run hi.1 hi.2).queue.1 (by rw [h.run_id hi.1 hi.2]; exact hm)
    have t1 := turnFirst_turned h hi.1 hi.2 hs
    have r1 := t1.room
    have l1 := t1.len
    have t2 := stepsN_turned 3 t1.ok (by omega) hi.1 (by omega)
    have l2 := t2.len
    have t3 := lastW_turned t2.ok hi.1 (by omega)
    exact (t1.trans t2 (k := 3) (by omega)).trans t3 (by omega)
end Go.Proofs.Ytmidnaafljgbiaa
/- A step that is about another run, by the reference: the ways to it. -/
namespace Go.Proofs.Ytmidnaafljgbiaa
open Go.RowKit
set_option maxRecDepth 100000

theorem slotAt_eq {r : Rn} {s : Nat} (h : s < r.slots.length) : slotAt r (s : Int) = r.slots[s] := by
  unfold slotAt
  rw [Int.toNat_natCast, List.getD_eq_getElem?_getD, List.getElem?_eq_getElem h]
  rfl
theorem setR8n (r : Rn) (a : RA) (l : List Int) (A : Option Addr) (c n : Nat) (h : l.length = n) : encR ({ r with watched := l }, { { a with wA := A } with wC := c }) = (encR (r, a)).set 8 (.slice A n c) := by
  subst h
  rfl
theorem setR7n (r : Rn) (a : RA) (l : List Int) (A : Option Addr) (c n : Nat) (h : l.length = n) : encR ({ r with links := l }, { { a with lA := A } with lC := c }) = (encR (r, a)).set 7 (.slice A n c) := by
  subst h
  rfl
set_option maxHeartbeats 8000000 in
theorem sOther21 (W : Wm) (k : Nat) (o : Opx) {w0 w : World} {f : List Nat} {L L' : List Asn} (M : Mem w0 f w L) (hd : Del (wld W) L L') (hk : k < W.ps.length) (hok : WOk W.wd) (hs1 : (W.ps[k]'hk).1.state = 1) (ho : o = opAt W.code (W.ps[k]'hk).1.at_) (hkk : o.k = 6 ∨ o.k = 11 ∨ o.k = 12) (hroom : room W.wd < 9999) :
    Calls Try.prog 168 #[.agg (wArr W), .int .i64 ((k : Int) + 1), .agg (opArr o)] w (WPost (otherW W.wd ((k : Int) + 1) o) w0 f L') := by
  have AL := add_lit0
  replace M := M.pull hd
  clear hd
  have hgr := getR_ps hk
  have hps6 : W.ps.length ≤ 6 := by have := hok.len.2; rwa [runsLen] at this
  have hid1 : (1 : Int) ≤ (k : Int) + 1 := by omega
  have hid2 : (k : Int) + 1 ≤ W.wd.runs.length := by rw [runsLen]; omega
  have hrun := (hok.run hid1 hid2).ok
  have nd := hok.need hid1 hid2 (by rw [hgr, hs1]; decide)
  have t0 := fun h9 h14 hf => next_turned hok hid1 hid2 (by rw [hgr]; exact hs1) h9 h14 hf (n := 0) (Int.le_refl _)
  rw [hgr] at hrun nd t0
  have hop := nd.at_.op
  have ho' : opAt W.wd.code (W.ps[k]'hk).1.at_ = o := ho.symm
  rw [ho'] at hop t0
  obtain ⟨_, _, _, _, kr, ks, _⟩ := opOk_parts hop
  have hto := slot_ok hrun kr
  have hsl := slot_ok hrun ks
  have t1 := t0 (by omega) (by omega) (by rcases hkk with e | e | e <;> rw [e] <;> rfl)
  have f4 := Fit4.of hrun
  have hfs := hok.sent
  obtain ⟨hrm1, hrm2⟩ := room_sent hok
  have hE : Hid (∀ (U : World) (L1 L2 : List Asn), Mem w0 f U L1 → Del (wld W) L1 L2 → Calls Try.prog 149 #[.agg (wArr W), .int .i64 ((k : Int) + 1), .agg #[.int .i64 2, .int .i64 2]] U (WPost (fallAll W.wd ((k : Int) + 1) ⟨2, 2⟩) w0 f L2)) := fun U L1 L2 M hd => sEnd W k ⟨2, 2⟩ M hd hk hok (ok_name (by omega)) (by have : W.wd.sent = W.sent := rfl; omega)
  clear ho' nd hop hfs t0
  obtain ⟨gr, hA, _, _⟩ := (Mem.rw_ (M.pull .here).unpackW).runs k hk
  have hA2 := arr_at hA rfl
  obtain ⟨p, hp⟩ : ∃ p, p = W.ps[k]'hk := ⟨_, rfl⟩
  have HE : Hid (∀ (U : World) (L1 L2 : List Asn), Mem w0 f U L1 → Del (wld W) L1 L2 → RunAt U gr (k * 13) (W.ps[k]'hk).1 (W.ps[k]'hk).2) := by
    intro U L1 L2 M hd
    obtain ⟨g', hA', _, E⟩ := (Mem.rw_ (M.pull hd).unpackW).runs k hk
    rw [hA] at hA'
    injection hA' with e
    injection e with e
    subst e
    exact E
  have HSL : Hid (∀ (U : World) (L1 L2 : List Asn), Mem w0 f U L1 → Del (wld W) L1 L2 → ReadsV U U.heap.size (W.ps[k]'hk).2.sA (W.ps[k]'hk).1.slots.length (W.ps[k]'hk).1.slots) := fun U L1 L2 M hd => ((Mem.rw_ (M.pull hd).unpackW).each k hk).slots
  obtain ⟨gs, hgs⟩ : ∃ gs, (W.ps[k]'hk).2.sA = some ⟨gs, 0, none⟩ := by
    obtain ⟨g', nn, pre, post, r', a', hA', hps, hpl, hnn, hlen, M1⟩ := open_at (g := w.heap.size) (Mem.alloc M tW (w7 W)) hk
    unfold opened at M1
    have e : (W.ps[k]'hk) = (r', a') := by simp only [hps]; rw [mid_get _ _ _ hpl]
    rw [e]
    exact row_form M1 (.there (.there .here)) (by rw [show r'.slots.length = 4 by have := f4.slots; rw [e] at this; exact this]; decide)
  rw [← hp] at hs1 ho hrun hto hsl f4 HE HSL hgs
  obtain ⟨ok, or_, os, oto, ⟨ovk, ovn⟩⟩ := o
  simp only [opArr] at kr ks hto hsl hkk ⊢
  obtain ⟨sN, rfl⟩ : ∃ s : Nat, or_ = (s : Int) := ⟨or_.toNat, by omega⟩
  obtain ⟨sS, rfl⟩ : ∃ s : Nat, os = (s : Int) := ⟨os.toNat, by omega⟩
  obtain ⟨r, ⟨sA, sC, mA, mC, lA, lC, wA, wC⟩⟩ := p
  simp only at hs1 ho hrun hto hsl f4 HE HSL hgs
  subst hgs
  have hsN : sN < r.slots.length := by rw [f4.slots]; omega
  have hsS : sS < r.slots.length := by rw [f4.slots]; omega
  have HC : Hid (∀ (U : World) (L1 L2 : List Asn) (j : Nat) (hj : j < r.slots.length), Mem w0 f U L1 → Del (wld W) L1 L2 → U.cell? ⟨gs, j * 2, none⟩ = some (.int .i64 r.slots[j].k) ∧ U.cell? ⟨gs, j * 2 + 1, none⟩ = some (.int .i64 r.slots[j].n)) := by
    intro U L1 L2 j hj M hd
    obtain ⟨ad, e, _, h1, h2⟩ := (HSL.out U L1 L2 M hd).val hj
    injection e with e
    subst e
    rw [add_lit0, Nat.zero_add] at h1 h2
    exact ⟨h1, h2⟩
  clear HSL
  have eT := slotAt_eq hsN
  have eS := slotAt_eq hsS
  generalize hT : r.slots[sN] = T at eT
  obtain ⟨tk, tn⟩ := T
  generalize hX : r.slots[sS] = X at eS
  obtain ⟨xk, xn⟩ := X
  have ET : Hid (∀ (U : World) (L1 L2 : List Asn), Mem w0 f U L1 → Del (wld W) L1 L2 → U.cell? ⟨gs, sN * 2, none⟩ = some (.int .i64 tk) ∧ U.cell? ⟨gs, sN * 2 + 1, none⟩ = some (.int .i64 tn)) := by
    intro U L1 L2 M hd
    have h := HC.out U L1 L2 sN hsN M hd
    rw [hT] at h
    exact h
  clear HC
  rw [eT] at hto
  have hgr2 : getR W.wd.runs ((k : Int) + 1) = r := by rw [hgr, ← hp]
  clear hgr
  obtain ⟨Xw, hXw⟩ : ∃ X, X = upd W.wd ((k : Int) + 1) nextR := ⟨_, rfl⟩
  have hO : otherW W.wd ((k : Int) + 1) ⟨ok, sN, sS, oto, ⟨ovk, ovn⟩⟩ = if tk ≠ 3 then fallAll W.wd ((k : Int) + 1) ⟨2, 2⟩ else if ok = 6 then give Xw tn (slotAt r (sS : Int)) else if ok = 12 ∧ aliveIn Xw.runs tn = false then give Xw ((k : Int) + 1) ⟨tk, tn⟩ else if tn = (k : Int) + 1 ∨ aliveIn Xw.runs tn = false then Xw else if ok = 12 ∧ (k : Int) + 1 ∉ (getR Xw.runs tn).watched then watchW Xw tn ((k : Int) + 1) else if ok = 11 ∧ tn ∉ r.links then linkW2 Xw ((k : Int) + 1) tn else Xw := by
    unfold otherW
    rw [hgr2, eT, hXw]
  rw [eS] at hO
  obtain ⟨Q, HQ0, hQ⟩ : ∃ Q : Ending → World → Prop, (∀ e U, WPost (otherW W.wd ((k : Int) + 1) ⟨ok, sN, sS, oto, ⟨ovk, ovn⟩⟩) w0 f L' e U → Q e U) ∧ Q = WPost (otherW W.wd ((k : Int) + 1) ⟨ok, sN, sS, oto, ⟨ovk, ovn⟩⟩) w0 f L' := ⟨_, fun _ _ h => h, rfl⟩
  rw [← hQ]
  clear hQ
  rw [hO] at HQ0
  have HQ := Lib.hid HQ0
  clear HQ0 hO
  rw [hA2] at hE ⊢
  rw [← hXw] at t1
  have wi : IntKind.i64.wrap ((k : Int) + 1 - 1) = (k : Int) := by rw [IntKind.wrap_i64]; omega
  have wj : IntKind.i64.wrap (k : Int) = (k : Int) := by rw [IntKind.wrap_i64]; omega
  have i1 : (0 : Int) ≤ k := by omega
  have i2 : (k : Int) < W.ps.length := by omega
  have i3 : (0 : Int) ≤ sN := by omega
  have i4 : (sN : Int) < r.slots.length := by omega
  have i5 : (0 : Int) ≤ sS := by omega
  have i6 : (sS : Int) < r.slots.length := by omega
  have HN : Hid (∀ V : World, Calls Try.prog 174 #[.agg (runArr r ⟨some ⟨gs, 0, none⟩, sC, mA, mC, lA, lC, wA, wC⟩)] V (fun e w' => e = .returned (.agg (runArr (nextR r) ⟨some ⟨gs, 0, none⟩, sC, mA, mC, lA, lC, wA, wC⟩)) ∧ Below V.heap.size V w')) := fun V => sNext21 r ⟨some ⟨gs, 0, none⟩, sC, mA, mC, lA, lC, wA, wC⟩ V f4.at_
  replace hp := Lib.hid hp
  replace hA := Lib.hid hA
  replace hA2 := Lib.hid hA2
  replace f4 := Lib.hid f4
  replace hs1 := Lib.hid hs1
  replace ho := Lib.hid ho
  replace hrun := Lib.hid hrun
  replace eT := Lib.hid eT
  replace eS := Lib.hid eS
  replace hT := Lib.hid hT
  replace hX := Lib.hid hX
  replace hgr2 := Lib.hid hgr2
  replace hXw := Lib.hid hXw
  replace hto := Lib.hid hto
  replace hsl := Lib.hid hsl
  replace hok := Lib.hid hok
  replace t1 := Lib.hid t1
  go_enter Try.func168, Try.ntmps168
  go_upto_region 1 with (first | (with_reducible refine alA M ?_; clear M; (try clear F); intro w1 M F))
  clear F
  rename_i u1 u2 _ _
  generalize w.heap.size = g3 at M ⊢
  generalize u1.heap.size = g5 at M ⊢
  generalize u2.heap.size = g6 at M ⊢
  obtain ⟨E0, E1, E2, E3, E4, E5, E6, E7, E8, E9, E10, E11, E12⟩ := HE.out _ _ _ M dl
  (try clear F); have F := fx M
  go_upto_region 2 with (first | (with_reducible refine alA M ?_; clear M; (try clear F); intro w1 M F) | ((with_reducible apply ev_store (M := M)); rfl; rfl; ((conv => lhs; whnf) <;> rfl); rfl; (first | exact siI | exact siR | exact siV | exact siB | exact siSI | exact siSV | exact siW | exact siSR | exact siSO | exact siO); (exact one_all rfl); (exact dl); (exact Nat.le_of_ble_eq_true rfl); clear M; intro w1 M; simp only [SX] at M; (try clear F); have F := fx M))
  clear E0 E1 E2 E3 E4 E5 E6 E7 E8 E9 E10 E11 E12 F
  rename_i u3 u4 _ _
  generalize u3.heap.size = g7 at M ⊢
  obtain ⟨T0, T1⟩ := ET.out _ _ _ M dl
  (try clear F); have F := fx M
  go_upto_region 3 with (first | (with_reducible refine alA M ?_; clear M; (try clear F); intro w1 M F) | ((with_reducible apply ev_store (M := M)); rfl; rfl; ((conv => lhs; whnf) <;> rfl); rfl; (first | exact siI | exact siR | exact siV | exact siB | exact siSI | exact siSV | exact siW | exact siSR | exact siSO | exact siO); (exact one_all rfl); (exact dl); (exact Nat.le_of_ble_eq_true rfl); clear M; intro w1 M; simp only [SX] at M; (try clear F); have F := fx M))
  clear T0 T1 F
  rename_i u5 u6 _ _ _ _
  generalize u5.heap.size = g8 at M ⊢
  by_cases h3 : tk = 3
  · subst h3
    have HQ := Lib.hid (fun e U => HQ.out e U)
    simp only [ne_eq, not_true_eq_false, if_false] at HQ
    have htn : 1 ≤ tn ∧ tn ≤ 6 := by
      have h := hto.out
      unfold valOk at h
      simpa [inB_iff] using h
    (try clear F); have F := fx M
    go_upto_region 5 with fail
    obtain ⟨pre, post, hps, hpl, hnn, M1⟩ := open_gr hA.out (M.sel (T := blk g3 tW [.slice W.cA W.code.length W.cC, .slice (some ⟨gr, 0, none⟩) W.ps.length W.rC, .slice W.qA W.queue.length W.qC, .int .i64 W.now, .int .i64 W.sent, .int .i64 W.taken, .int .i64 W.lost] :: wld W :: blk g8 tV [.int .i64 3, .int .i64 tn] :: blk g7 tR [.int .i64 r.id, .int .i64 r.at_, .slice (some ⟨gs, 0, none⟩) r.slots.length sC, .int .i64 r.full, .slice mA r.mail.length mC, .int .i64 r.state, .int .i64 r.due, .slice lA r.links.length lC, .slice wA r.watched.length wC, .bool r.trap, .int .i64 r.why.k, .int .i64 r.why.n, .int .i64 r.turns] :: blk g5 tO [.int .i64 ok, .int .i64 (sN : Int), .int .i64 (sS : Int), .int .i64 oto, .int .i64 ovk, .int .i64 ovn] :: blk g6 tW [.slice none 0 0, .slice none 0 0, .slice none 0 0, .int .i64 0, .int .i64 0, .int .i64 0, .int .i64 0] :: L') sl) hk hp.out
    clear M F
    have M := M1
    clear M1
    unfold opened at M
    replace hps := Lib.hid hps
    replace hpl := Lib.hid hpl
    replace hnn := Lib.hid hnn
    refine held_begin (S := (fun W' => (∀ j, W'.cell? ⟨g3, j, none⟩ = ([.slice W.cA W.code.length W.cC, .slice (some ⟨gr, 0, none⟩) W.ps.length W.rC, .slice W.qA W.queue.length W.qC, .int .i64 W.now, .int .i64 W.sent, .int .i64 W.taken, .int .i64 W.lost] : List Value)[j]?) ∧ ∀ j, W'.cell? ⟨g7, j, none⟩ = ([.int .i64 r.id, .int .i64 r.at_, .slice (some ⟨gs, 0, none⟩) r.slots.length sC, .int .i64 r.full, .slice mA r.mail.length mC, .int .i64 r.state, .int .i64 r.due, .slice lA r.links.length lC, .slice wA r.watched.length wC, .bool r.trap, .int .i64 r.why.k, .int .i64 r.why.n, .int .i64 r.turns] : List Value)[j]?)) (by kernel_rfl) (fun _ _ _ _ _ h => h) (by (exact ⟨kc, kc⟩)) (fun HQ hHeld => ?_)
    refine tkY HQ hHeld 0 ?_; refine tkY HQ hHeld 1 ?_; refine tkY HQ hHeld 2 ?_; refine tkY HQ hHeld 3 ?_; refine tkY HQ hHeld 4 ?_
    refine stp 5 (fun K hK => ?_); go_simp
    (go_at_call 174; (refine nmK ?_; clear M; (try clear F); intro w1 M F); refine (HN.out _).mono ?_; rintro e w2 ⟨rfl, hb⟩; replace M := M.below hb; clear hb; (try clear F); have F := fx M)
    (try go_wp2_with fail); refine hK.out _ _ (by (exact ⟨kc, kc⟩)) (fun hHeld => ?_); clear hK K; (try simp only [AX])
    refine tkY HQ hHeld 6 ?_
    refine stp 7 (fun K hK => ?_)
    refine op_of_list rfl ?_; ((with_reducible apply ev_put_mid (x' := ((nextR r, ⟨some ⟨gs, 0, none⟩, sC, mA, mC, lA, lC, wA, wC⟩) : Rn × RA)) (k := k) (hk := encR_length) (hone := oneR) (M := M)); rfl; rfl; ((conv => lhs; whnf) <;> rfl); rfl; exact siR; (exact dl); rfl; exact hpl.out; clear M; intro w1 M; (try clear F); have F := fx M)
    (try go_wp2_with fail); refine hK.out _ _ (by (exact ⟨kc, kc⟩)) (fun hHeld => ?_); clear hK K; (try simp only [AX])
    refine wpAnyH_done (by kernel_rfl) ?_ _; clear HQ; (repeat clear hHeld)
    go_upto_region 6 with fail
    have M2 : Mem w0 f _ (opened g3 gr W.ps.length W.cA W.cC W.code W.rC pre post (nextR r) ⟨some ⟨gs, 0, none⟩, sC, mA, mC, lA, lC, wA, wC⟩ W.queue W.qA W.qC W.now W.sent W.taken W.lost (blk g8 tV [.int .i64 3, .int .i64 tn] :: blk g7 tR [.int .i64 r.id, .int .i64 r.at_, .slice (some ⟨gs, 0, none⟩) r.slots.length sC, .int .i64 r.full, .slice mA r.mail.length mC, .int .i64 r.state, .int .i64 r.due, .slice lA r.links.length lC, .slice wA r.watched.length wC, .bool r.trap, .int .i64 r.why.k, .int .i64 r.why.n, .int .i64 r.turns] :: blk g5 tO [.int .i64 ok, .int .i64 (sN : Int), .int .i64 (sS : Int), .int .i64 oto, .int .i64 ovk, .int .i64 ovn] :: blk g6 tW [.slice none 0 0, .slice none 0 0, .slice none 0 0, .int .i64 0, .int .i64 0, .int .i64 0, .int .i64 0] :: L')) := M.sel (.cons (.there .here) (.cons .here .refl))
    clear M F
    have M := close_at M2 hnn.out
    clear M2
    have hw : (⟨W.code, W.cA, W.cC, pre ++ ((nextR r, ⟨some ⟨gs, 0, none⟩, sC, mA, mC, lA, lC, wA, wC⟩) : Rn × RA) :: post, some ⟨gr, 0, none⟩, W.rC, W.queue, W.qA, W.qC, W.now, W.sent, W.taken, W.lost⟩ : Wm).wd = Xw := by rw [hXw.out]; exact wd_mid hps.out hpl.out nextR ⟨some ⟨gs, 0, none⟩, sC, mA, mC, lA, lC, wA, wC⟩ _ _ _ _ _ _ _ _ _ _ _
    have hl1 : (⟨W.code, W.cA, W.cC, pre ++ ((nextR r, ⟨some ⟨gs, 0, none⟩, sC, mA, mC, lA, lC, wA, wC⟩) : Rn × RA) :: post, some ⟨gr, 0, none⟩, W.rC, W.queue, W.qA, W.qC, W.now, W.sent, W.taken, W.lost⟩ : Wm).ps.length = W.ps.length := hnn.out _
    have hA1 : wArr (⟨W.code, W.cA, W.cC, pre ++ ((nextR r, ⟨some ⟨gs, 0, none⟩, sC, mA, mC, lA, lC, wA, wC⟩) : Rn × RA) :: post, some ⟨gr, 0, none⟩, W.rC, W.queue, W.qA, W.qC, W.now, W.sent, W.taken, W.lost⟩ : Wm) = #[.slice W.cA W.code.length W.cC, .slice (some ⟨gr, 0, none⟩) W.ps.length W.rC, .slice W.qA W.queue.length W.qC, .int .i64 W.now, .int .i64 W.sent, .int .i64 W.taken, .int .i64 W.lost] := arr_at rfl hl1.symm
    have hw7 : w7 (⟨W.code, W.cA, W.cC, pre ++ ((nextR r, ⟨some ⟨gs, 0, none⟩, sC, mA, mC, lA, lC, wA, wC⟩) : Rn × RA) :: post, some ⟨gr, 0, none⟩, W.rC, W.queue, W.qA, W.qC, W.now, W.sent, W.taken, W.lost⟩ : Wm) = [.slice W.cA W.code.length W.cC, .slice (some ⟨gr, 0, none⟩) W.ps.length W.rC, .slice W.qA W.queue.length W.qC, .int .i64 W.now, .int .i64 W.sent, .int .i64 W.taken, .int .i64 W.lost] := by rw [← hl1]
    have hA3 : (⟨W.code, W.cA, W.cC, pre ++ ((nextR r, ⟨some ⟨gs, 0, none⟩, sC, mA, mC, lA, lC, wA, wC⟩) : Rn × RA) :: post, some ⟨gr, 0, none⟩, W.rC, W.queue, W.qA, W.qC, W.now, W.sent, W.taken, W.lost⟩ : Wm).rA = some ⟨gr, 0, none⟩ := rfl
    have hp1 : ∀ h : k < (⟨W.code, W.cA, W.cC, pre ++ ((nextR r, ⟨some ⟨gs, 0, none⟩, sC, mA, mC, lA, lC, wA, wC⟩) : Rn × RA) :: post, some ⟨gr, 0, none⟩, W.rC, W.queue, W.qA, W.qC, W.now, W.sent, W.taken, W.lost⟩ : Wm).ps.length, ((⟨W.code, W.cA, W.cC, pre ++ ((nextR r, ⟨some ⟨gs, 0, none⟩, sC, mA, mC, lA, lC, wA, wC⟩) : Rn × RA) :: post, some ⟨gr, 0, none⟩, W.rC, W.queue, W.qA, W.qC, W.now, W.sent, W.taken, W.lost⟩ : Wm).ps[k]'h) = (nextR r, ⟨some ⟨gs, 0, none⟩, sC, mA, mC, lA, lC, wA, wC⟩) := fun h => mid_get _ _ _ hpl.out h
    rw [hw7] at M
    clear hw7
    generalize (⟨W.code, W.cA, W.cC, pre ++ ((nextR r, ⟨some ⟨gs, 0, none⟩, sC, mA, mC, lA, lC, wA, wC⟩) : Rn × RA) :: post, some ⟨gr, 0, none⟩, W.rC, W.queue, W.qA, W.qC, W.now, W.sent, W.taken, W.lost⟩ : Wm) = W1 at hw hl1 hA1 hA3 hp1 M
    have hlX : Xw.runs.length = W.ps.length := by rw [← hw, runsLen, hl1]
    have hm6 : MidW W.ps.length 6 Xw := by have h := MidW.of t1.out.ok; rwa [hlX] at h
    have HG0 : Hid (∀ (id vk vn : Int) (U : World) (L1 L2 : List Asn), Mem w0 f U L1 → Del (wld W1) L1 L2 → Calls Try.prog 148 #[.agg #[.slice W.cA W.code.length W.cC, .slice (some ⟨gr, 0, none⟩) W.ps.length W.rC, .slice W.qA W.queue.length W.qC, .int .i64 W.now, .int .i64 W.sent, .int .i64 W.taken, .int .i64 W.lost], .int .i64 id, .agg #[.int .i64 vk, .int .i64 vn]] U (fun e w' => ∃ Y : Wm, Y.wd = give Xw id ⟨vk, vn⟩ ∧ e = .returned (.agg (wArr Y)) ∧ Mem w0 f w' (wld Y :: L2))) := fun id vk vn U L1 L2 M hd => by
      have h := giveMid W1 Xw hw W.ps.length 6 hm6 (by omega) (by omega) id ⟨vk, vn⟩ M hd
      rw [hA1] at h
      exact h
    have hk1 : k < W1.ps.length := by rw [hl1]; exact hk
    have HS1 : Hid (∀ (U : World) (L1 L2 : List Asn), Mem w0 f U L1 → Del (wld W1) L1 L2 → U.cell? ⟨gs, sS * 2, none⟩ = some (.int .i64 xk) ∧ U.cell? ⟨gs, sS * 2 + 1, none⟩ = some (.int .i64 xn)) := by
      intro U L1 L2 M hd
      have h0 := ((Mem.rw_ (M.pull hd).unpackW).each k hk1).slots
      rw [hp1 hk1] at h0
      obtain ⟨ad, e, _, h1, h2⟩ := h0.val (j := sS) hsS
      injection e with e
      subst e
      rw [add_lit0, Nat.zero_add] at h1 h2
      have hX' : (nextR r).slots[sS]'hsS = ⟨xk, xn⟩ := hX.out
      rw [hX'] at h1 h2
      exact ⟨h1, h2⟩
    obtain ⟨m, rfl⟩ : ∃ m : Nat, tn = (m : Int) + 1 := ⟨(tn - 1).toNat, by omega⟩
    have wm : IntKind.i64.wrap ((m : Int) + 1 - 1) = (m : Int) := by rw [IntKind.wrap_i64]; omega
    have wn : IntKind.i64.wrap (m : Int) = (m : Int) := by rw [IntKind.wrap_i64]; omega
    obtain ⟨al, hal⟩ : ∃ b, b = aliveIn Xw.runs ((m : Int) + 1) := ⟨_, rfl⟩
    rw [← hal] at HQ
    have hal3 : ∀ h : m < W1.ps.length, al = !((W1.ps[m]'h).1.state == 3) := fun h => by
      rw [hal, ← hw, alive_iff_state (w := W1.wd) (k := m) (by rw [runsLen]; exact h)]
      simp [Wm.wd]
    have hal4 : ¬ m < W1.ps.length → al = false := fun h => by
      rw [hal]
      cases hc : aliveIn Xw.runs ((m : Int) + 1) with
      | false => rfl
      | true =>
        have := (aliveIn_iff.1 hc).1.2
        rw [hlX] at this
        omega
    replace hal := Lib.hid hal
    replace hw := Lib.hid hw
    replace hA1 := Lib.hid hA1
    replace hA3 := Lib.hid hA3
    replace hp1 := Lib.hid hp1
    replace hl1 := Lib.hid hl1
    replace hlX := Lib.hid hlX
    replace hm6 := Lib.hid hm6
    (try clear F); have F := fx M
    go_cut [1, 3, 5, 6, 7, 8, 9] from 29 (fun s1 s3 s5 s6 s7 s8 s9 wx => s1 = .int .i64 ((k : Int) + 1) ∧ s3 = .pointer (some ⟨g3, 0, none⟩) ∧ s5 = .pointer (some ⟨g5, 0, none⟩) ∧ s6 = .pointer (some ⟨g6, 0, none⟩) ∧ s7 = .pointer (some ⟨g7, 0, none⟩) ∧ s8 = .pointer (some ⟨g8, 0, none⟩) ∧ s9 = .bool al ∧ Mem w0 f wx (blk g3 tW [.slice W.cA W.code.length W.cC, .slice (some ⟨gr, 0, none⟩) W.ps.length W.rC, .slice W.qA W.queue.length W.qC, .int .i64 W.now, .int .i64 W.sent, .int .i64 W.taken, .int .i64 W.lost] :: wld W1 :: blk g8 tV [.int .i64 3, .int .i64 ((m : Int) + 1)] :: blk g7 tR [.int .i64 r.id, .int .i64 r.at_, .slice (some ⟨gs, 0, none⟩) r.slots.length sC, .int .i64 r.full, .slice mA r.mail.length mC, .int .i64 r.state, .int .i64 r.due, .slice lA r.links.length lC, .slice wA r.watched.length wC, .bool r.trap, .int .i64 r.why.k, .int .i64 r.why.n, .int .i64 r.turns] :: blk g5 tO [.int .i64 ok, .int .i64 (sN : Int), .int .i64 (sS : Int), .int .i64 oto, .int .i64 ovk, .int .i64 ovn] :: blk g6 tW [.slice none 0 0, .slice none 0 0, .slice none 0 0, .int .i64 0, .int .i64 0, .int .i64 0, .int .i64 0] :: L'))
    case first =>
      --[2
      have j1 : (0 : Int) ≤ m := by omega
      by_cases hm : m < W1.ps.length
      · have j2 : (m : Int) < W.ps.length := by have := hl1.out; omega
        have j3 : (m : Int) + 1 ≤ W.ps.length := by omega
        have hst := hal3 hm
        obtain ⟨g', hA', _, hat⟩ := (Mem.rw_ (M.pull (.there .here)).unpackW).runs m hm
        obtain rfl : g' = gr := by
          rw [hA3.out] at hA'
          injection hA' with e
          injection e with e
          exact e.symm
        have E5 := hat.2.2.2.2.2.1
        clear hat hal3 hal4
        generalize (W1.ps[m]'hm).1.state = st at E5 hst
        have h9 : (st != 3) = al := by rw [hst]; rfl
        clear hst
        go_wp2
        go_meet
        case rel => exact ⟨rfl, rfl, rfl, rfl, rfl, rfl, rfl, M⟩
      · have j3 : ¬ ((m : Int) + 1 ≤ W.ps.length) := by have := hl1.out; omega
        have hst := hal4 hm
        clear hal3 hal4
        subst hst
        go_wp2
        go_meet
        case rel => exact ⟨rfl, rfl, rfl, rfl, rfl, rfl, rfl, M⟩
      --]2
    clear M F
    obtain ⟨rfl, rfl, rfl, rfl, rfl, rfl, rfl, M⟩ := hcut
    rcases hkk with h6 | hkk
    · --[3
      have HQ := Lib.hid (fun e U => HQ.out e U)
      simp only [h6, if_true] at HQ
      have b6 : (ok == 6) = true := by simpa using h6
      clear h6
      have HG : Hid (∀ (U : World) (L1 L2 : List Asn), Mem w0 f U L1 → Del (wld W1) L1 L2 → Calls Try.prog 148 #[.agg #[.slice W.cA W.code.length W.cC, .slice (some ⟨gr, 0, none⟩) W.ps.length W.rC, .slice W.qA W.queue.length W.qC, .int .i64 W.now, .int .i64 W.sent, .int .i64 W.taken, .int .i64 W.lost], .int .i64 ((m : Int) + 1), .agg #[.int .i64 xk, .int .i64 xn]] U (fun e w' => ∃ Y : Wm, Y.wd = give Xw ((m : Int) + 1) ⟨xk, xn⟩ ∧ e = .returned (.agg (wArr Y)) ∧ Mem w0 f w' (wld Y :: L2))) := HG0.out _ _ _
      clear hal3 hal4
      (try clear F); have F := fx M
      go_upto_region 8 with fail
      obtain ⟨T0, T1⟩ := HS1.out _ _ _ M dl
      clear F
      refine held_begin (S := (fun W' => (∀ j, W'.cell? ⟨g3, j, none⟩ = ([.slice W.cA W.code.length W.cC, .slice (some ⟨gr, 0, none⟩) W.ps.length W.rC, .slice W.qA W.queue.length W.qC, .int .i64 W.now, .int .i64 W.sent, .int .i64 W.taken, .int .i64 W.lost] : List Value)[j]?) ∧ (∀ j, W'.cell? ⟨g8, j, none⟩ = ([.int .i64 3, .int .i64 ((m : Int) + 1)] : List Value)[j]?) ∧ (∀ j, W'.cell? ⟨g7, j, none⟩ = ([.int .i64 r.id, .int .i64 r.at_, .slice (some ⟨gs, 0, none⟩) r.slots.length sC, .int .i64 r.full, .slice mA r.mail.length mC, .int .i64 r.state, .int .i64 r.due, .slice lA r.links.length lC, .slice wA r.watched.length wC, .bool r.trap, .int .i64 r.why.k, .int .i64 r.why.n, .int .i64 r.turns] : List Value)[j]?) ∧ ∀ j, W'.cell? ⟨g5, j, none⟩ = ([.int .i64 ok, .int .i64 (sN : Int), .int .i64 (sS : Int), .int .i64 oto, .int .i64 ovk, .int .i64 ovn] : List Value)[j]?)) (by kernel_rfl) (fun _ _ _ _ _ h => h) (by (exact ⟨kc, kc, kc, kc⟩)) (fun HQ hHeld => ?_)
      refine tkY HQ hHeld 0 ?_; refine tkY HQ hHeld 1 ?_; refine tkY HQ hHeld 2 ?_; refine tkY HQ hHeld 3 ?_; refine tkY HQ hHeld 4 ?_; refine tkY HQ hHeld 5 ?_; refine tkY HQ hHeld 6 ?_; refine tkY HQ hHeld 7 ?_
      refine stp 8 (fun K hK => ?_); go_simp
      (try go_wp2_with fail); refine hK.out _ _ (by (exact ⟨kc, kc, kc, kc⟩)) (fun hHeld => ?_); clear hK K; (try simp only [AX])
      refine stp 9 (fun K hK => ?_); go_simp
      (go_at_call 148; (refine nmK ?_; clear M; (try clear F); intro w1 M F); refine (HG.out _ _ _ M dl).mono ?_; clear M; rintro e w2 ⟨Y, hY, rfl, M⟩; replace hY := Lib.hid hY; clear F)
      (try go_wp2_with fail); refine hK.out _ _ (by (exact ⟨kc, kc, kc, kc⟩)) (fun hHeld => ?_); clear hK K; (try simp only [AX])
      refine stp 10 (fun K hK => ?_)
      refine op_of_list rfl ?_; ((with_reducible apply ev_store (M := M)); rfl; rfl; ((conv => lhs; whnf) <;> rfl); rfl; (first | exact siI | exact siR | exact siV | exact siB | exact siSI | exact siSV | exact siW | exact siSR | exact siSO | exact siO); (exact one_all rfl); (exact dl); (exact Nat.le_of_ble_eq_true rfl); clear M; intro w1 M; simp only [SX] at M; (try clear F); have F := fx M)
      (try go_wp2_with fail); refine hK.out _ _ (by (exact ⟨kc, kc, kc, kc⟩)) (fun hHeld => ?_); clear hK K; (try simp only [AX])
      refine wpAnyH_done (by kernel_rfl) ?_ _; clear HQ; (repeat clear hHeld)
      go_wp2
      apply ret_cell (M := M); rfl; rfl; (exact dl); (first | exact agR | exact agV | exact agW | exact agO); (first | exact siI | exact siR | exact siV | exact siB | exact siSI | exact siSV | exact siW | exact siSR | exact siSO | exact siO); rfl
      exact HQ.out _ _ ⟨Y, hY.out, rfl, M.sel (.drop (.cons .here (.drop (.drop (.drop (.drop .refl))))))⟩
      --]3
    · have b6 : (ok == 6) = false := by rcases hkk with h | h <;> simp [h]
      have n6 : ¬ ok = 6 := by rcases hkk with h | h <;> omega
      have hcell : ([.slice W1.cA W1.code.length W1.cC, .slice (some ⟨gr, 0, none⟩) W1.ps.length W1.rC, .slice W1.qA W1.queue.length W1.qC, .int .i64 W1.now, .int .i64 W1.sent, .int .i64 W1.taken, .int .i64 W1.lost] : List Value) = [.slice W.cA W.code.length W.cC, .slice (some ⟨gr, 0, none⟩) W.ps.length W.rC, .slice W.qA W.queue.length W.qC, .int .i64 W.now, .int .i64 W.sent, .int .i64 W.taken, .int .i64 W.lost] := congrArg Array.toList ((arr_at hA3.out rfl).symm.trans hA1.out)
      rw [← hcell] at M HG0
      clear hcell
      have hQW : Hid (∀ (U : World), Mem w0 f U (wld W1 :: L') → WPost Xw w0 f L' (.returned (.agg #[.slice W1.cA W1.code.length W1.cC, .slice (some ⟨gr, 0, none⟩) W1.ps.length W1.rC, .slice W1.qA W1.queue.length W1.qC, .int .i64 W1.now, .int .i64 W1.sent, .int .i64 W1.taken, .int .i64 W1.lost])) U) := fun U M => ⟨W1, hw.out, congrArg (fun x => Ending.returned (.agg x)) (arr_at hA3.out rfl).symm, M⟩
      have k2 : (k : Int) < W1.ps.length := by omega
      simp only [n6, if_false] at HQ
      rcases hkk with h11 | h12
      · have b11 : (ok == 11) = true := by simpa using h11
        have b12 : (ok == 12) = false := by simp [h11]
        have n12 : ¬ ok = 12 := by omega
        simp only [h11, true_and] at HQ
        clear n6 n12 h11
        cases al with
        | false =>
          --[4
          simp only [or_true, if_true] at HQ
          cases q1 : ((m : Int) + 1 == (k : Int) + 1) with
          | true => ((try clear F); have F := fx M; go_wp2_with (first | ((with_reducible apply ev_store (M := M)); rfl; rfl; ((conv => lhs; whnf) <;> rfl); rfl; (first | exact siI | exact siR | exact siV | exact siB | exact siSI | exact siSV | exact siW | exact siSR | exact siSO | exact siO); (exact one_all rfl); (exact dl); (exact Nat.le_of_ble_eq_true rfl); clear M; intro w1 M; simp only [SX] at M; (try clear F); have F := fx M) | (go_at_call 108; (refine nmK ?_; clear M; (try clear F); intro w1 M F); refine (HAm.out _ _ _ M dl).mono ?_; rintro e w2 ⟨rfl, rfl⟩)); apply ret_cell (M := M); rfl; rfl; (exact dl); (first | exact agR | exact agV | exact agW | exact agO); (first | exact siI | exact siR | exact siV | exact siB | exact siSI | exact siSV | exact siW | exact siSR | exact siSO | exact siO); rfl; exact HQ.out _ _ (hQW.out _ (M.sel (.drop (.drop (.cons .here (.drop (.drop (.drop .refl)))))))))
          | false => ((try clear F); have F := fx M; go_wp2_with (first | ((with_reducible apply ev_store (M := M)); rfl; rfl; ((conv => lhs; whnf) <;> rfl); rfl; (first | exact siI | exact siR | exact siV | exact siB | exact siSI | exact siSV | exact siW | exact siSR | exact siSO | exact siO); (exact one_all rfl); (exact dl); (exact Nat.le_of_ble_eq_true rfl); clear M; intro w1 M; simp only [SX] at M; (try clear F); have F := fx M) | (go_at_call 108; (refine nmK ?_; clear M; (try clear F); intro w1 M F); refine (HAm.out _ _ _ M dl).mono ?_; rintro e w2 ⟨rfl, rfl⟩)); apply ret_cell (M := M); rfl; rfl; (exact dl); (first | exact agR | exact agV | exact agW | exact agO); (first | exact siI | exact siR | exact siV | exact siB | exact siSI | exact siSV | exact siW | exact siSR | exact siSO | exact siO); rfl; exact HQ.out _ _ (hQW.out _ (M.sel (.drop (.drop (.cons .here (.drop (.drop (.drop .refl)))))))))
          --]4
        | true =>
          by_cases hmk : (m : Int) + 1 = (k : Int) + 1
          · --[5
            simp only [hmk, true_or, if_true] at HQ
            have q1 : ((m : Int) + 1 == (k : Int) + 1) = true := by simpa using hmk
            replace hmk := Lib.hid hmk
            clear hal3 hal4
            ((try clear F); have F := fx M; go_wp2_with (first | ((with_reducible apply ev_store (M := M)); rfl; rfl; ((conv => lhs; whnf) <;> rfl); rfl; (first | exact siI | exact siR | exact siV | exact siB | exact siSI | exact siSV | exact siW | exact siSR | exact siSO | exact siO); (exact one_all rfl); (exact dl); (exact Nat.le_of_ble_eq_true rfl); clear M; intro w1 M; simp only [SX] at M; (try clear F); have F := fx M) | (go_at_call 108; (refine nmK ?_; clear M; (try clear F); intro w1 M F); refine (HAm.out _ _ _ M dl).mono ?_; rintro e w2 ⟨rfl, rfl⟩)); apply ret_cell (M := M); rfl; rfl; (exact dl); (first | exact agR | exact agV | exact agW | exact agO); (first | exact siI | exact siR | exact siV | exact siB | exact siSI | exact siSV | exact siW | exact siSR | exact siSO | exact siO); rfl; exact HQ.out _ _ (hQW.out _ (M.sel (.drop (.drop (.cons .here (.drop (.drop (.drop .refl)))))))))
            --]5
          · simp only [hmk, Bool.true_eq_false, or_self, if_false] at HQ
            have q1 : ((m : Int) + 1 == (k : Int) + 1) = false := by simpa using hmk
            have q2 : ((m : Int) == (k : Int)) = false := by simp; omega
            have hmk2 : ¬ m = k := by omega
            have hmem : ((m : Int) + 1 ∈ r.links) = (inL r.links ((m : Int) + 1) = true) := by simp [inL]
            have HAm : Hid (∀ (U : World) (L1 L2 : List Asn), Mem w0 f U L1 → Del (wld W1) L1 L2 → Calls Try.prog 108 #[.slice lA r.links.length lC, .int .i64 ((m : Int) + 1)] U (fun e w' => e = .returned (.bool (inL r.links ((m : Int) + 1))) ∧ U = w')) := fun U L1 L2 M hd => by
              have h0 := ((Mem.rw_ (M.pull hd).unpackW).each k hk1).links
              rw [hp1.out hk1] at h0
              exact sAmong r.links ((m : Int) + 1) lA lC _ U h0
            simp only [hmem] at HQ
            generalize inL r.links ((m : Int) + 1) = b at HQ HAm
            clear hmem
            cases b with
            | true =>
              --[6
              simp only [not_true_eq_false, if_false] at HQ
              clear hal3 hal4
              ((try clear F); have F := fx M; go_upto_region 18 with (first | (go_at_call 108; (refine nmK ?_; clear M; (try clear F); intro w1 M F); refine (HAm.out _ _ _ M dl).mono ?_; rintro e w2 ⟨rfl, rfl⟩)); go_wp2_with (first | ((with_reducible apply ev_store (M := M)); rfl; rfl; ((conv => lhs; whnf) <;> rfl); rfl; (first | exact siI | exact siR | exact siV | exact siB | exact siSI | exact siSV | exact siW | exact siSR | exact siSO | exact siO); (exact one_all rfl); (exact dl); (exact Nat.le_of_ble_eq_true rfl); clear M; intro w1 M; simp only [SX] at M; (try clear F); have F := fx M)); apply ret_cell (M := M); rfl; rfl; (exact dl); (first | exact agR | exact agV | exact agW | exact agO); (first | exact siI | exact siR | exact siV | exact siB | exact siSI | exact siSV | exact siW | exact siSR | exact siSO | exact siO); rfl; exact HQ.out _ _ (hQW.out _ (M.sel (.drop (.drop (.cons .here (.drop (.drop (.drop .refl)))))))))
              --]6
            | false =>
              --[7
              simp only [Bool.false_eq_true, not_false_eq_true, if_true] at HQ
              have hm1 : m < W1.ps.length := Decidable.byContradiction (fun h => by have := hal4 h; cases this)
              have m2 : (m : Int) < W1.ps.length := by omega
              have m1 : (0 : Int) ≤ m := by omega
              clear hal3 hal4
              (try clear F); have F := fx M
              go_upto_region 16 with (first | (go_at_call 108; (refine nmK ?_; clear M; (try clear F); intro w1 M F); refine (HAm.out _ _ _ M dl).mono ?_; rintro e w2 ⟨rfl, rfl⟩))
              clear F
              obtain ⟨pk, hpk⟩ : ∃ p, p = W1.ps[k]'hk1 := ⟨_, rfl⟩
              have hbk : pk.1.links.length ≤ 1000 := by
                have h := (hm6.out.lst ((k : Int) + 1) (by omega) (by have := hl1.out; omega)).1
                rw [← hw.out, getR_ps hk1, ← hpk] at h
                exact h
              obtain ⟨rk, ak⟩ := pk
              simp only at hbk
              obtain ⟨pre3, post3, hps3, hpl3, hnn3, M1⟩ := open_gr hA3.out M hk1 hpk
              clear M
              have M := M1
              clear M1
              unfold opened at M
              replace hpk := Lib.hid hpk
              replace hps3 := Lib.hid hps3
              replace hpl3 := Lib.hid hpl3
              replace hnn3 := Lib.hid hnn3
              have HE8 : Hid (∀ (U : World) (L1 L2 : List Asn), Mem w0 f U L1 → Del (row encR 13 tR (some ⟨gr, 0, none⟩) W1.rC (pre3 ++ (rk, ak) :: post3)) L1 L2 → U.cell? ⟨gr, k * 13 + 7, none⟩ = some (.slice ak.lA rk.links.length ak.lC)) := fun U L1 L2 M hd => (runAt_mid M hd hpl3.out).2.2.2.2.2.2.2.1
              (refine beginE (S := (fun W' => (∀ j, W'.cell? ⟨g3, j, none⟩ = ([.slice W1.cA W1.code.length W1.cC, .slice (some ⟨gr, 0, none⟩) W1.ps.length W1.rC, .slice W1.qA W1.queue.length W1.qC, .int .i64 W1.now, .int .i64 W1.sent, .int .i64 W1.taken, .int .i64 W1.lost] : List Value)[j]?) ∧ (∀ j, W'.cell? ⟨g8, j, none⟩ = ([.int .i64 3, .int .i64 ((m : Int) + 1)] : List Value)[j]?) ∧ W'.cell? ⟨gr, k * 13 + 7, none⟩ = some (.slice ak.lA rk.links.length ak.lC))) 17 (by kernel_rfl) (fun _ _ _ _ _ h => h) (by (exact ⟨kc, kc, HE8.out _ _ _ mb dl⟩)) (fun HQ hHeld => ?_))
              refine tkYE HQ hHeld 0 ?_; refine tkYE HQ hHeld 1 ?_; refine tkYE HQ hHeld 2 ?_; refine tkYE HQ hHeld 3 ?_; refine tkYE HQ hHeld 4 ?_; refine tkYE HQ hHeld 5 ?_; refine tkYE HQ hHeld 6 ?_; refine tkYE HQ hHeld 7 ?_; refine tkYE HQ hHeld 8 ?_; refine tkYE HQ hHeld 9 ?_; refine tkYE HQ hHeld 10 ?_; refine tkYE HQ hHeld 11 ?_; refine tkYE HQ hHeld 12 ?_
              refine stpE 13 (fun K hK => ?_); go_simp
              (try go_wp2_with fail); refine hK.out _ _ (by (exact ⟨kc, kc, HE8.out _ _ _ mb dl⟩)) (fun hHeld => ?_); clear hK K; (try simp only [AX]); clear hHeld; (refine nm (G := fun W => wpAnyE _ _ _ _ _ _ _ _ _ W) ?_; clear M; (try clear F); intro w1 M F)
              refine stpE 14 (fun K hK => ?_); refine op_of_list rfl ?_; ((with_reducible apply ev_app1 (enc := encI) (v := (m : Int) + 1) (hk := encI_length) (hone := oneIx) (h0 := by decide) (hinfo := infIx) (ht := Try.underlying23) (M := M)); rfl; rfl; (exact dl); (exact dl); rfl; rfl; (first | exact Nat.le_of_ble_eq_true rfl | omega); (exact Nat.le_of_ble_eq_true rfl); clear M; intro A1 c1 w1 M; replace M := Mem.perm M (.swap _ _ _) |> Mem.drop; (try clear F); have F := fx M); (try go_wp2_with fail); refine hK.out _ _ (by (exact ⟨kc, kc, HE8.out _ _ _ mb dl⟩)) (fun hHeld => ?_); clear hK K; (try simp only [AX])
              refine tkYE HQ hHeld 15 ?_; refine tkYE HQ hHeld 16 ?_
              refine stpT (fun K hK => ?_); refine op_of_list rfl ?_; ((with_reducible apply ev_elem (enc := encR) (x' := (({ rk with links := rk.links ++ [(m : Int) + 1] }, { { ak with lA := A1 } with lC := c1 }) : Rn × RA)) (j := 7) (k := k) (hk := encR_length) (M := M)); rfl; rfl; ((conv => lhs; whnf) <;> rfl); rfl; exact siSI; rfl; (exact dl); (first | with_reducible rfl | with_reducible exact (Nat.add_zero _).symm); exact hpl3.out; decide; exact setR7n _ _ _ _ _ _ (by rw [List.length_append]; rfl); clear M; intro w1 M); (try go_wp2_with fail); refine hK.out _ _ ?_; clear hK K; (try simp only [AX])
              clear HQ
              go_upto_region 17 with fail
              have M2 : Mem w0 f _ (opened g3 gr W1.ps.length W1.cA W1.cC W1.code W1.rC pre3 post3 { rk with links := rk.links ++ [(m : Int) + 1] } { { ak with lA := A1 } with lC := c1 } W1.queue W1.qA W1.qC W1.now W1.sent W1.taken W1.lost (blk g8 tV [.int .i64 3, .int .i64 ((m : Int) + 1)] :: blk g7 tR [.int .i64 r.id, .int .i64 r.at_, .slice (some ⟨gs, 0, none⟩) r.slots.length sC, .int .i64 r.full, .slice mA r.mail.length mC, .int .i64 r.state, .int .i64 r.due, .slice lA r.links.length lC, .slice wA r.watched.length wC, .bool r.trap, .int .i64 r.why.k, .int .i64 r.why.n, .int .i64 r.turns] :: blk g5 tO [.int .i64 ok, .int .i64 (sN : Int), .int .i64 (sS : Int), .int .i64 oto, .int .i64 ovk, .int .i64 ovn] :: blk g6 tW [.slice none 0 0, .slice none 0 0, .slice none 0 0, .int .i64 0, .int .i64 0, .int .i64 0, .int .i64 0] :: L')) := M.sel (.cons (.there (.there .here)) (.cons .here (.cons (.there .here) (.cons (.there .here) (.cons .here .refl)))))
              clear M
              (try clear F)
              have M3 := close_at M2 hnn3.out
              clear M2
              have hw2 : (⟨W1.code, W1.cA, W1.cC, pre3 ++ (({ rk with links := rk.links ++ [(m : Int) + 1] }, { { ak with lA := A1 } with lC := c1 }) : Rn × RA) :: post3, some ⟨gr, 0, none⟩, W1.rC, W1.queue, W1.qA, W1.qC, W1.now, W1.sent, W1.taken, W1.lost⟩ : Wm).wd = upd Xw ((k : Int) + 1) (fun r => { r with links := r.links ++ [(m : Int) + 1] }) := by
                rw [← hw.out]
                exact wd_mid hps3.out hpl3.out (fun r => { r with links := r.links ++ [(m : Int) + 1] }) { { ak with lA := A1 } with lC := c1 } _ _ _ _ _ _ _ _ _ _ _
              have hl2 : (⟨W1.code, W1.cA, W1.cC, pre3 ++ (({ rk with links := rk.links ++ [(m : Int) + 1] }, { { ak with lA := A1 } with lC := c1 }) : Rn × RA) :: post3, some ⟨gr, 0, none⟩, W1.rC, W1.queue, W1.qA, W1.qC, W1.now, W1.sent, W1.taken, W1.lost⟩ : Wm).ps.length = W1.ps.length := hnn3.out _
              have hA4 : (⟨W1.code, W1.cA, W1.cC, pre3 ++ (({ rk with links := rk.links ++ [(m : Int) + 1] }, { { ak with lA := A1 } with lC := c1 }) : Rn × RA) :: post3, some ⟨gr, 0, none⟩, W1.rC, W1.queue, W1.qA, W1.qC, W1.now, W1.sent, W1.taken, W1.lost⟩ : Wm).rA = some ⟨gr, 0, none⟩ := rfl
              have M4 : Mem w0 f _ (blk g3 tW [.slice (⟨W1.code, W1.cA, W1.cC, pre3 ++ (({ rk with links := rk.links ++ [(m : Int) + 1] }, { { ak with lA := A1 } with lC := c1 }) : Rn × RA) :: post3, some ⟨gr, 0, none⟩, W1.rC, W1.queue, W1.qA, W1.qC, W1.now, W1.sent, W1.taken, W1.lost⟩ : Wm).cA (⟨W1.code, W1.cA, W1.cC, pre3 ++ (({ rk with links := rk.links ++ [(m : Int) + 1] }, { { ak with lA := A1 } with lC := c1 }) : Rn × RA) :: post3, some ⟨gr, 0, none⟩, W1.rC, W1.queue, W1.qA, W1.qC, W1.now, W1.sent, W1.taken, W1.lost⟩ : Wm).code.length (⟨W1.code, W1.cA, W1.cC, pre3 ++ (({ rk with links := rk.links ++ [(m : Int) + 1] }, { { ak with lA := A1 } with lC := c1 }) : Rn × RA) :: post3, some ⟨gr, 0, none⟩, W1.rC, W1.queue, W1.qA, W1.qC, W1.now, W1.sent, W1.taken, W1.lost⟩ : Wm).cC, .slice (some ⟨gr, 0, none⟩) (⟨W1.code, W1.cA, W1.cC, pre3 ++ (({ rk with links := rk.links ++ [(m : Int) + 1] }, { { ak with lA := A1 } with lC := c1 }) : Rn × RA) :: post3, some ⟨gr, 0, none⟩, W1.rC, W1.queue, W1.qA, W1.qC, W1.now, W1.sent, W1.taken, W1.lost⟩ : Wm).ps.length (⟨W1.code, W1.cA, W1.cC, pre3 ++ (({ rk with links := rk.links ++ [(m : Int) + 1] }, { { ak with lA := A1 } with lC := c1 }) : Rn × RA) :: post3, some ⟨gr, 0, none⟩, W1.rC, W1.queue, W1.qA, W1.qC, W1.now, W1.sent, W1.taken, W1.lost⟩ : Wm).rC, .slice (⟨W1.code, W1.cA, W1.cC, pre3 ++ (({ rk with links := rk.links ++ [(m : Int) + 1] }, { { ak with lA := A1 } with lC := c1 }) : Rn × RA) :: post3, some ⟨gr, 0, none⟩, W1.rC, W1.queue, W1.qA, W1.qC, W1.now, W1.sent, W1.taken, W1.lost⟩ : Wm).qA (⟨W1.code, W1.cA, W1.cC, pre3 ++ (({ rk with links := rk.links ++ [(m : Int) + 1] }, { { ak with lA := A1 } with lC := c1 }) : Rn × RA) :: post3, some ⟨gr, 0, none⟩, W1.rC, W1.queue, W1.qA, W1.qC, W1.now, W1.sent, W1.taken, W1.lost⟩ : Wm).queue.length (⟨W1.code, W1.cA, W1.cC, pre3 ++ (({ rk with links := rk.links ++ [(m : Int) + 1] }, { { ak with lA := A1 } with lC := c1 }) : Rn × RA) :: post3, some ⟨gr, 0, none⟩, W1.rC, W1.queue, W1.qA, W1.qC, W1.now, W1.sent, W1.taken, W1.lost⟩ : Wm).qC, .int .i64 (⟨W1.code, W1.cA, W1.cC, pre3 ++ (({ rk with links := rk.links ++ [(m : Int) + 1] }, { { ak with lA := A1 } with lC := c1 }) : Rn × RA) :: post3, some ⟨gr, 0, none⟩, W1.rC, W1.queue, W1.qA, W1.qC, W1.now, W1.sent, W1.taken, W1.lost⟩ : Wm).now, .int .i64 (⟨W1.code, W1.cA, W1.cC, pre3 ++ (({ rk with links := rk.links ++ [(m : Int) + 1] }, { { ak with lA := A1 } with lC := c1 }) : Rn × RA) :: post3, some ⟨gr, 0, none⟩, W1.rC, W1.queue, W1.qA, W1.qC, W1.now, W1.sent, W1.taken, W1.lost⟩ : Wm).sent, .int .i64 (⟨W1.code, W1.cA, W1.cC, pre3 ++ (({ rk with links := rk.links ++ [(m : Int) + 1] }, { { ak with lA := A1 } with lC := c1 }) : Rn × RA) :: post3, some ⟨gr, 0, none⟩, W1.rC, W1.queue, W1.qA, W1.qC, W1.now, W1.sent, W1.taken, W1.lost⟩ : Wm).taken, .int .i64 (⟨W1.code, W1.cA, W1.cC, pre3 ++ (({ rk with links := rk.links ++ [(m : Int) + 1] }, { { ak with lA := A1 } with lC := c1 }) : Rn × RA) :: post3, some ⟨gr, 0, none⟩, W1.rC, W1.queue, W1.qA, W1.qC, W1.now, W1.sent, W1.taken, W1.lost⟩ : Wm).lost] :: wld (⟨W1.code, W1.cA, W1.cC, pre3 ++ (({ rk with links := rk.links ++ [(m : Int) + 1] }, { { ak with lA := A1 } with lC := c1 }) : Rn × RA) :: post3, some ⟨gr, 0, none⟩, W1.rC, W1.queue, W1.qA, W1.qC, W1.now, W1.sent, W1.taken, W1.lost⟩ : Wm) :: blk g8 tV [.int .i64 3, .int .i64 ((m : Int) + 1)] :: blk g7 tR [.int .i64 r.id, .int .i64 r.at_, .slice (some ⟨gs, 0, none⟩) r.slots.length sC, .int .i64 r.full, .slice mA r.mail.length mC, .int .i64 r.state, .int .i64 r.due, .slice lA r.links.length lC, .slice wA r.watched.length wC, .bool r.trap, .int .i64 r.why.k, .int .i64 r.why.n, .int .i64 r.turns] :: blk g5 tO [.int .i64 ok, .int .i64 (sN : Int), .int .i64 (sS : Int), .int .i64 oto, .int .i64 ovk, .int .i64 ovn] :: blk g6 tW [.slice none 0 0, .slice none 0 0, .slice none 0 0, .int .i64 0, .int .i64 0, .int .i64 0, .int .i64 0] :: L') := M3
              clear M3
              generalize (⟨W1.code, W1.cA, W1.cC, pre3 ++ (({ rk with links := rk.links ++ [(m : Int) + 1] }, { { ak with lA := A1 } with lC := c1 }) : Rn × RA) :: post3, some ⟨gr, 0, none⟩, W1.rC, W1.queue, W1.qA, W1.qC, W1.now, W1.sent, W1.taken, W1.lost⟩ : Wm) = W2 at hw2 hl2 hA4 M4
              have hm2 : m < W2.ps.length := by rw [hl2]; exact hm1
              obtain ⟨pm, hpm⟩ : ∃ p, p = W2.ps[m]'hm2 := ⟨_, rfl⟩
              have hbm : pm.1.links.length ≤ 1000 := by
                have h := (hm6.out.lst ((m : Int) + 1) (by omega) (by have := hl1.out; omega)).1
                have e : getR W2.wd.runs ((m : Int) + 1) = getR Xw.runs ((m : Int) + 1) := by
                  rw [hw2]
                  unfold upd
                  simp only
                  rw [getR_updR (by omega) (by rw [hlX.out]; omega) (by omega), if_neg (by omega)]
                rw [← e, getR_ps hm2, ← hpm] at h
                exact h
              have m4 : (m : Int) < W2.ps.length := by omega
              obtain ⟨rm, am⟩ := pm
              simp only at hbm
              obtain ⟨pre2, post2, hps2, hpl2, hnn2, M1⟩ := open_gr hA4 M4 hm2 hpm
              clear M4
              have M := M1
              clear M1
              unfold opened at M
              replace hpm := Lib.hid hpm
              replace hps2 := Lib.hid hps2
              replace hpl2 := Lib.hid hpl2
              replace hnn2 := Lib.hid hnn2
              replace hA4 := Lib.hid hA4
              replace hw2 := Lib.hid hw2
              replace hl2 := Lib.hid hl2
              clear HE8
              have HE8 : Hid (∀ (U : World) (L1 L2 : List Asn), Mem w0 f U L1 → Del (row encR 13 tR (some ⟨gr, 0, none⟩) W2.rC (pre2 ++ (rm, am) :: post2)) L1 L2 → U.cell? ⟨gr, m * 13 + 7, none⟩ = some (.slice am.lA rm.links.length am.lC)) := fun U L1 L2 M hd => (runAt_mid M hd hpl2.out).2.2.2.2.2.2.2.1
              (refine beginE (S := (fun W' => (∀ j, W'.cell? ⟨g3, j, none⟩ = ([.slice W2.cA W2.code.length W2.cC, .slice (some ⟨gr, 0, none⟩) W2.ps.length W2.rC, .slice W2.qA W2.queue.length W2.qC, .int .i64 W2.now, .int .i64 W2.sent, .int .i64 W2.taken, .int .i64 W2.lost] : List Value)[j]?) ∧ (∀ j, W'.cell? ⟨g8, j, none⟩ = ([.int .i64 3, .int .i64 ((m : Int) + 1)] : List Value)[j]?) ∧ W'.cell? ⟨gr, m * 13 + 7, none⟩ = some (.slice am.lA rm.links.length am.lC))) 18 (by kernel_rfl) (fun _ _ _ _ _ h => h) (by (exact ⟨kc, kc, HE8.out _ _ _ mb dl⟩)) (fun HQ hHeld => ?_))
              refine tkYE HQ hHeld 0 ?_; refine tkYE HQ hHeld 1 ?_; refine tkYE HQ hHeld 2 ?_; refine tkYE HQ hHeld 3 ?_; refine tkYE HQ hHeld 4 ?_; refine tkYE HQ hHeld 5 ?_; refine tkYE HQ hHeld 6 ?_; refine tkYE HQ hHeld 7 ?_; refine tkYE HQ hHeld 8 ?_; refine tkYE HQ hHeld 9 ?_; refine tkYE HQ hHeld 10 ?_; refine tkYE HQ hHeld 11 ?_; refine tkYE HQ hHeld 12 ?_; refine tkYE HQ hHeld 13 ?_
              refine stpE 14 (fun K hK => ?_); go_simp
              (try go_wp2_with fail); refine hK.out _ _ (by (exact ⟨kc, kc, HE8.out _ _ _ mb dl⟩)) (fun hHeld => ?_); clear hK K; (try simp only [AX]); clear hHeld; (refine nm (G := fun W => wpAnyE _ _ _ _ _ _ _ _ _ W) ?_; clear M; (try clear F); intro w1 M F)
              refine stpE 15 (fun K hK => ?_); refine op_of_list rfl ?_; ((with_reducible apply ev_app1 (enc := encI) (v := (k : Int) + 1) (hk := encI_length) (hone := oneIx) (h0 := by decide) (hinfo := infIx) (ht := Try.underlying23) (M := M)); rfl; rfl; (exact dl); (exact dl); rfl; rfl; (first | exact Nat.le_of_ble_eq_true rfl | omega); (exact Nat.le_of_ble_eq_true rfl); clear M; intro A1 c1 w1 M; replace M := Mem.perm M (.swap _ _ _) |> Mem.drop; (try clear F); have F := fx M); (try go_wp2_with fail); refine hK.out _ _ (by (exact ⟨kc, kc, HE8.out _ _ _ mb dl⟩)) (fun hHeld => ?_); clear hK K; (try simp only [AX])
              refine tkYE HQ hHeld 16 ?_; refine tkYE HQ hHeld 17 ?_
              refine stpT (fun K hK => ?_); refine op_of_list rfl ?_; ((with_reducible apply ev_elem (enc := encR) (x' := (({ rm with links := rm.links ++ [(k : Int) + 1] }, { { am with lA := A1 } with lC := c1 }) : Rn × RA)) (j := 7) (k := m) (hk := encR_length) (M := M)); rfl; rfl; ((conv => lhs; whnf) <;> rfl); rfl; exact siSI; rfl; (exact dl); (first | with_reducible rfl | with_reducible exact (Nat.add_zero _).symm); exact hpl2.out; decide; exact setR7n _ _ _ _ _ _ (by rw [List.length_append]; rfl); clear M; intro w1 M); (try go_wp2_with fail); refine hK.out _ _ ?_; clear hK K; (try simp only [AX])
              clear HQ
              (try clear F); have F := fx M
              go_wp2_with (first | ((with_reducible apply ev_store (M := M)); rfl; rfl; ((conv => lhs; whnf) <;> rfl); rfl; (first | exact siI | exact siR | exact siV | exact siB | exact siSI | exact siSV | exact siW | exact siSR | exact siSO | exact siO); (exact one_all rfl); (exact dl); (exact Nat.le_of_ble_eq_true rfl); clear M; intro w1 M; simp only [SX] at M; (try clear F); have F := fx M))
              apply ret_cell (M := M); rfl; rfl; (exact dl); (first | exact agR | exact agV | exact agW | exact agO); (first | exact siI | exact siR | exact siV | exact siB | exact siSI | exact siSV | exact siW | exact siSR | exact siSO | exact siO); rfl
              refine HQ.out _ _ (wpost_mid (W := W2) hps2.out hpl2.out hnn2.out (fun r => { r with links := r.links ++ [(k : Int) + 1] }) { { am with lA := A1 } with lC := c1 } (g3 := g3) ?_ rfl ?_)
              · have e : linkW2 Xw ((k : Int) + 1) ((m : Int) + 1) = upd W2.wd ((m : Int) + 1) (fun r => { r with links := r.links ++ [(k : Int) + 1] }) := by rw [hw2.out]; rfl
                rw [e]
                rfl
              · exact M.sel (.cons (.there (.there (.there .here))) (.cons (.there .here) (.cons (.there (.there .here)) (.cons (.there (.there .here)) (.cons (.there .here) (.cons (.there .here) (.cons (.there .here) (.cons (.there .here) (.cons (.there .here) (.drop (.drop (.drop (.drop .refl)))))))))))))
              --]7
      · have b12 : (ok == 12) = true := by simpa using h12
        have b11 : (ok == 11) = false := by simp [h12]
        have n11 : ¬ ok = 11 := by omega
        simp only [h12, true_and] at HQ
        clear n6 n11 h12
        cases al with
        | false =>
          --[8
          simp only [if_true] at HQ
          have HG : Hid (∀ (U : World) (L1 L2 : List Asn), Mem w0 f U L1 → Del (wld W1) L1 L2 → Calls Try.prog 148 #[.agg #[.slice W1.cA W1.code.length W1.cC, .slice (some ⟨gr, 0, none⟩) W1.ps.length W1.rC, .slice W1.qA W1.queue.length W1.qC, .int .i64 W1.now, .int .i64 W1.sent, .int .i64 W1.taken, .int .i64 W1.lost], .int .i64 ((k : Int) + 1), .agg #[.int .i64 3, .int .i64 ((m : Int) + 1)]] U (fun e w' => ∃ Y : Wm, Y.wd = give Xw ((k : Int) + 1) ⟨3, (m : Int) + 1⟩ ∧ e = .returned (.agg (wArr Y)) ∧ Mem w0 f w' (wld Y :: L2))) := HG0.out _ _ _
          clear hal3 hal4
          (try clear F); have F := fx M
          go_wp2_with (first | ((with_reducible apply ev_store (M := M)); rfl; rfl; ((conv => lhs; whnf) <;> rfl); rfl; (first | exact siI | exact siR | exact siV | exact siB | exact siSI | exact siSV | exact siW | exact siSR | exact siSO | exact siO); (exact one_all rfl); (exact dl); (exact Nat.le_of_ble_eq_true rfl); clear M; intro w1 M; simp only [SX] at M; (try clear F); have F := fx M) | (go_at_call 148; (refine nmK ?_; clear M; (try clear F); intro w1 M F); refine (HG.out _ _ _ M dl).mono ?_; clear M; rintro e w2 ⟨Y, hY, rfl, M⟩; replace hY := Lib.hid hY; (try clear F); have F := fx M))
          apply ret_cell (M := M); rfl; rfl; (exact dl); (first | exact agR | exact agV | exact agW | exact agO); (first | exact siI | exact siR | exact siV | exact siB | exact siSI | exact siSV | exact siW | exact siSR | exact siSO | exact siO); rfl
          exact HQ.out _ _ ⟨Y, hY.out, rfl, M.sel (.drop (.cons .here (.drop (.drop (.drop (.drop .refl))))))⟩
          --]8
        | true =>
          simp only [Bool.true_eq_false, if_false] at HQ
          by_cases hmk : (m : Int) + 1 = (k : Int) + 1
          · --[9
            simp only [hmk, true_or, if_true] at HQ
            have q1 : ((m : Int) + 1 == (k : Int) + 1) = true := by simpa using hmk
            replace hmk := Lib.hid hmk
            clear hal3 hal4
            ((try clear F); have F := fx M; go_wp2_with (first | ((with_reducible apply ev_store (M := M)); rfl; rfl; ((conv => lhs; whnf) <;> rfl); rfl; (first | exact siI | exact siR | exact siV | exact siB | exact siSI | exact siSV | exact siW | exact siSR | exact siSO | exact siO); (exact one_all rfl); (exact dl); (exact Nat.le_of_ble_eq_true rfl); clear M; intro w1 M; simp only [SX] at M; (try clear F); have F := fx M) | (go_at_call 108; (refine nmK ?_; clear M; (try clear F); intro w1 M F); refine (HAm.out _ _ _ M dl).mono ?_; rintro e w2 ⟨rfl, rfl⟩)); apply ret_cell (M := M); rfl; rfl; (exact dl); (first | exact agR | exact agV | exact agW | exact agO); (first | exact siI | exact siR | exact siV | exact siB | exact siSI | exact siSV | exact siW | exact siSR | exact siSO | exact siO); rfl; exact HQ.out _ _ (hQW.out _ (M.sel (.drop (.drop (.cons .here (.drop (.drop (.drop .refl)))))))))
            --]9
          · simp only [hmk, or_self, if_false] at HQ
            have q1 : ((m : Int) + 1 == (k : Int) + 1) = false := by simpa using hmk
            have q2 : ((m : Int) == (k : Int)) = false := by simp; omega
            have hmk2 : ¬ m = k := by omega
            have hm1 : m < W1.ps.length := Decidable.byContradiction (fun h => by have := hal4 h; cases this)
            have m2 : (m : Int) < W1.ps.length := by omega
            have m1 : (0 : Int) ≤ m := by omega
            have hgm : getR Xw.runs ((m : Int) + 1) = (W1.ps[m]'hm1).1 := by rw [← hw.out, getR_ps hm1]
            rw [hgm] at HQ
            have hb8 : (W1.ps[m]'hm1).1.watched.length ≤ 1000 := by
              have h := (hm6.out.lst ((m : Int) + 1) (by omega) (by have := hl1.out; omega)).2
              rwa [hgm] at h
            clear hgm hal3 hal4
            obtain ⟨g', hA', _, hat⟩ := (Mem.rw_ (M.pull (.there .here)).unpackW).runs m hm1
            obtain rfl : gr = g' := by
              rw [hA3.out] at hA'
              injection hA' with e
              injection e with e
            have E8 := hat.2.2.2.2.2.2.2.2.1
            clear hat
            have HRm : Hid (∀ (U : World) (L1 L2 : List Asn), Mem w0 f U L1 → Del (wld W1) L1 L2 → ReadsI U U.heap.size (W1.ps[m]'hm1).2.wA (W1.ps[m]'hm1).1.watched.length (W1.ps[m]'hm1).1.watched) := fun U L1 L2 M hd => ((Mem.rw_ (M.pull hd).unpackW).each m hm1).watched
            obtain ⟨p, hpm⟩ : ∃ p, p = W1.ps[m]'hm1 := ⟨_, rfl⟩
            rw [← hpm] at HQ E8 HRm hb8
            obtain ⟨rm, am⟩ := p
            simp only at HQ E8 HRm hb8
            have hmem : ((k : Int) + 1 ∈ rm.watched) = (inL rm.watched ((k : Int) + 1) = true) := by simp [inL]
            have HAm : Hid (∀ (U : World) (L1 L2 : List Asn), Mem w0 f U L1 → Del (wld W1) L1 L2 → Calls Try.prog 108 #[.slice am.wA rm.watched.length am.wC, .int .i64 ((k : Int) + 1)] U (fun e w' => e = .returned (.bool (inL rm.watched ((k : Int) + 1))) ∧ U = w')) := fun U L1 L2 M hd => sAmong rm.watched ((k : Int) + 1) am.wA am.wC _ U (HRm.out U L1 L2 M hd)
            simp only [hmem] at HQ
            generalize inL rm.watched ((k : Int) + 1) = b at HQ HAm
            clear hmem HRm
            replace hpm := Lib.hid hpm
            cases b with
            | true =>
              --[a
              simp only [not_true_eq_false, if_false] at HQ
              ((try clear F); have F := fx M; go_upto_region 18 with (first | (go_at_call 108; (refine nmK ?_; clear M; (try clear F); intro w1 M F); refine (HAm.out _ _ _ M dl).mono ?_; rintro e w2 ⟨rfl, rfl⟩)); go_wp2_with (first | ((with_reducible apply ev_store (M := M)); rfl; rfl; ((conv => lhs; whnf) <;> rfl); rfl; (first | exact siI | exact siR | exact siV | exact siB | exact siSI | exact siSV | exact siW | exact siSR | exact siSO | exact siO); (exact one_all rfl); (exact dl); (exact Nat.le_of_ble_eq_true rfl); clear M; intro w1 M; simp only [SX] at M; (try clear F); have F := fx M)); apply ret_cell (M := M); rfl; rfl; (exact dl); (first | exact agR | exact agV | exact agW | exact agO); (first | exact siI | exact siR | exact siV | exact siB | exact siSI | exact siSV | exact siW | exact siSR | exact siSO | exact siO); rfl; exact HQ.out _ _ (hQW.out _ (M.sel (.drop (.drop (.cons .here (.drop (.drop (.drop .refl)))))))))
              --]a
            | false =>
              --[b
              simp only [Bool.false_eq_true, not_false_eq_true, if_true] at HQ
              (try clear F); have F := fx M
              go_upto_region 14 with (first | (go_at_call 108; (refine nmK ?_; clear M; (try clear F); intro w1 M F); refine (HAm.out _ _ _ M dl).mono ?_; rintro e w2 ⟨rfl, rfl⟩))
              clear E8 F
              obtain ⟨pre2, post2, hps2, hpl2, hnn2, M1⟩ := open_gr hA3.out M hm1 hpm.out
              clear M
              have M := M1
              clear M1
              unfold opened at M
              replace hps2 := Lib.hid hps2
              replace hpl2 := Lib.hid hpl2
              replace hnn2 := Lib.hid hnn2
              have HE8 : Hid (∀ (U : World) (L1 L2 : List Asn), Mem w0 f U L1 → Del (row encR 13 tR (some ⟨gr, 0, none⟩) W1.rC (pre2 ++ (rm, am) :: post2)) L1 L2 → U.cell? ⟨gr, m * 13 + 8, none⟩ = some (.slice am.wA rm.watched.length am.wC)) := fun U L1 L2 M hd => (runAt_mid M hd hpl2.out).2.2.2.2.2.2.2.2.1
              (refine beginE (S := (fun W' => (∀ j, W'.cell? ⟨g3, j, none⟩ = ([.slice W1.cA W1.code.length W1.cC, .slice (some ⟨gr, 0, none⟩) W1.ps.length W1.rC, .slice W1.qA W1.queue.length W1.qC, .int .i64 W1.now, .int .i64 W1.sent, .int .i64 W1.taken, .int .i64 W1.lost] : List Value)[j]?) ∧ (∀ j, W'.cell? ⟨g8, j, none⟩ = ([.int .i64 3, .int .i64 ((m : Int) + 1)] : List Value)[j]?) ∧ W'.cell? ⟨gr, m * 13 + 8, none⟩ = some (.slice am.wA rm.watched.length am.wC))) 18 (by kernel_rfl) (fun _ _ _ _ _ h => h) (by (exact ⟨kc, kc, HE8.out _ _ _ mb dl⟩)) (fun HQ hHeld => ?_))
              refine tkYE HQ hHeld 0 ?_; refine tkYE HQ hHeld 1 ?_; refine tkYE HQ hHeld 2 ?_; refine tkYE HQ hHeld 3 ?_; refine tkYE HQ hHeld 4 ?_; refine tkYE HQ hHeld 5 ?_; refine tkYE HQ hHeld 6 ?_; refine tkYE HQ hHeld 7 ?_; refine tkYE HQ hHeld 8 ?_; refine tkYE HQ hHeld 9 ?_; refine tkYE HQ hHeld 10 ?_; refine tkYE HQ hHeld 11 ?_; refine tkYE HQ hHeld 12 ?_; refine tkYE HQ hHeld 13 ?_
              refine stpE 14 (fun K hK => ?_); go_simp
              (try go_wp2_with fail); refine hK.out _ _ (by (exact ⟨kc, kc, HE8.out _ _ _ mb dl⟩)) (fun hHeld => ?_); clear hK K; (try simp only [AX]); clear hHeld; (refine nm (G := fun W => wpAnyE _ _ _ _ _ _ _ _ _ W) ?_; clear M; (try clear F); intro w1 M F)
              refine stpE 15 (fun K hK => ?_); refine op_of_list rfl ?_; ((with_reducible apply ev_app1 (enc := encI) (v := (k : Int) + 1) (hk := encI_length) (hone := oneIx) (h0 := by decide) (hinfo := infIx) (ht := Try.underlying23) (M := M)); rfl; rfl; (exact dl); (exact dl); rfl; rfl; (first | exact Nat.le_of_ble_eq_true rfl | omega); (exact Nat.le_of_ble_eq_true rfl); clear M; intro A1 c1 w1 M; replace M := Mem.perm M (.swap _ _ _) |> Mem.drop; (try clear F); have F := fx M); (try go_wp2_with fail); refine hK.out _ _ (by (exact ⟨kc, kc, HE8.out _ _ _ mb dl⟩)) (fun hHeld => ?_); clear hK K; (try simp only [AX])
              refine tkYE HQ hHeld 16 ?_; refine tkYE HQ hHeld 17 ?_
              refine stpT (fun K hK => ?_); refine op_of_list rfl ?_; ((with_reducible apply ev_elem (enc := encR) (x' := (({ rm with watched := rm.watched ++ [(k : Int) + 1] }, { { am with wA := A1 } with wC := c1 }) : Rn × RA)) (j := 8) (k := m) (hk := encR_length) (M := M)); rfl; rfl; ((conv => lhs; whnf) <;> rfl); rfl; exact siSI; rfl; (exact dl); (first | with_reducible rfl | with_reducible exact (Nat.add_zero _).symm); exact hpl2.out; decide; exact setR8n _ _ _ _ _ _ (by rw [List.length_append]; rfl); clear M; intro w1 M); (try go_wp2_with fail); refine hK.out _ _ ?_; clear hK K; (try simp only [AX])
              clear HQ
              (try clear F); have F := fx M
              go_wp2_with (first | ((with_reducible apply ev_store (M := M)); rfl; rfl; ((conv => lhs; whnf) <;> rfl); rfl; (first | exact siI | exact siR | exact siV | exact siB | exact siSI | exact siSV | exact siW | exact siSR | exact siSO | exact siO); (exact one_all rfl); (exact dl); (exact Nat.le_of_ble_eq_true rfl); clear M; intro w1 M; simp only [SX] at M; (try clear F); have F := fx M))
              apply ret_cell (M := M); rfl; rfl; (exact dl); (first | exact agR | exact agV | exact agW | exact agO); (first | exact siI | exact siR | exact siV | exact siB | exact siSI | exact siSV | exact siW | exact siSR | exact siSO | exact siO); rfl
              refine HQ.out _ _ (wpost_mid (W := W1) hps2.out hpl2.out hnn2.out (fun r => { r with watched := r.watched ++ [(k : Int) + 1] }) { { am with wA := A1 } with wC := c1 } (g3 := g3) ?_ rfl ?_)
              · rw [← hw.out]
                rfl
              · exact M.sel (.cons (.there (.there (.there .here))) (.cons (.there .here) (.cons (.there (.there .here)) (.cons (.there (.there .here)) (.cons (.there (.there .here)) (.cons (.there .here) (.cons (.there .here) (.cons (.there .here) (.cons (.there .here) (.drop (.drop (.drop (.drop .refl)))))))))))))
              --]b
  · --[1
    have h3' : (tk == 3) = false := by simpa using h3
    have h3'' : (tk != 3) = true := by simpa using h3
    have HQ := Lib.hid (fun e U => HQ.out e U)
    simp only [ne_eq, h3, not_false_eq_true, if_true] at HQ
    (try clear F); have F := fx M
    go_wp2_with (first | (with_reducible refine alA M ?_; clear M; (try clear F); intro w1 M F) | ((with_reducible apply ev_store (M := M)); rfl; rfl; ((conv => lhs; whnf) <;> rfl); rfl; (first | exact siI | exact siR | exact siV | exact siB | exact siSI | exact siSV | exact siW | exact siSR | exact siSO | exact siO); (exact one_all rfl); (exact dl); (exact Nat.le_of_ble_eq_true rfl); clear M; intro w1 M; simp only [SX] at M; (try clear F); have F := fx M) | (go_at_call 149; (refine nmK ?_; clear M; (try clear F); intro w1 M F); refine (hE.out _ _ _ M dl).mono ?_; clear M; rintro e w2 ⟨Y, hY, rfl, M⟩; replace hY := Lib.hid hY; (try clear F); have F := fx M))
    apply ret_cell (M := M); rfl; rfl; (exact dl); (first | exact agR | exact agV | exact agW | exact agO); (first | exact siI | exact siR | exact siV | exact siB | exact siSI | exact siSV | exact siW | exact siSR | exact siSO | exact siO); rfl
    exact HQ.out _ _ ⟨Y, hY.out, rfl, M.sel (.drop (.cons .here (.drop (.drop (.drop (.drop .refl))))))⟩
    --]1
end Go.Proofs.Ytmidnaafljgbiaa
/- Two values added, by the reference. -/
namespace Go.Proofs.Ytmidnaafljgbiaa
open Go.RowKit
set_option maxRecDepth 100000

set_option maxHeartbeats 2000000 in
theorem sAdd21 (a b : Vl) (w : World) : Calls Try.prog 165 #[.agg #[.int .i64 a.k, .int .i64 a.n], .agg #[.int .i64 b.k, .int .i64 b.n]] w fun e w' => e = .returned (.tuple #[.agg #[.int .i64 (addV a b).1.k, .int .i64 (addV a b).1.n], .bool (addV a b).2]) ∧ Below w.heap.size w w' := by
  have M := Mem.nil w
  obtain ⟨ak, an⟩ := a
  obtain ⟨bk, bn⟩ := b
  have wn := wr_wrap (an + bn)
  unfold addV
  simp only
  generalize wr (an + bn) = s at wn ⊢
  have HV := Lib.hid (fun V => sValOk ⟨1, s⟩ V)
  by_cases h1 : ak = 1
  · have h1' : (ak != 1) = false := by simp [h1]
    by_cases h2 : bk = 1
    · have h2' : (bk != 1) = false := by simp [h2]
      cases h3 : valOk ⟨1, s⟩ with
      | true =>
        rw [h3] at HV
        rw [if_pos ⟨h1, h2, rfl⟩]
        clear h1 h2 h3
        simp only
        go_enter Try.func165, Try.ntmps165
        go_wp2_with (first | (with_reducible refine alAw M ?_; clear M; (try clear F); intro w1 M F) | ((with_reducible apply ev_store (M := M)); rfl; rfl; ((conv => lhs; whnf) <;> rfl); rfl; (first | exact siI | exact siR | exact siV | exact siB | exact siSI | exact siSV | exact siW | exact siSR | exact siSO | exact siO); (exact one_all rfl); (exact dl); (exact Nat.le_of_ble_eq_true rfl); clear M; intro w1 M; simp only [SX] at M; (try clear F); have F := fxw M) | (go_at_call 42; (refine nmKw ?_; clear M; (try clear F); intro w1 M F); refine (HV.out _).mono ?_; rintro e w2 ⟨rfl, hb⟩; replace M := M.below hb; clear hb; (try clear F); have F := fxw M))
        apply ret_cell_tmp (M := M); rfl; rfl; rfl; (exact dl); (first | exact agR | exact agV | exact agW | exact agO); (first | exact siI | exact siR | exact siV | exact siB | exact siSI | exact siSV | exact siW | exact siSR | exact siSO | exact siO); rfl
        exact ⟨rfl, M.toBelow⟩
      | false =>
        rw [h3] at HV
        rw [if_neg (by rintro ⟨_, _, h⟩; cases h)]
        clear h1 h2 h3
        simp only
        go_enter Try.func165, Try.ntmps165
        go_wp2_with (first | (with_reducible refine alAw M ?_; clear M; (try clear F); intro w1 M F) | ((with_reducible apply ev_store (M := M)); rfl; rfl; ((conv => lhs; whnf) <;> rfl); rfl; (first | exact siI | exact siR | exact siV | exact siB | exact siSI | exact siSV | exact siW | exact siSR | exact siSO | exact siO); (exact one_all rfl); (exact dl); (exact Nat.le_of_ble_eq_true rfl); clear M; intro w1 M; simp only [SX] at M; (try clear F); have F := fxw M) | (go_at_call 42; (refine nmKw ?_; clear M; (try clear F); intro w1 M F); refine (HV.out _).mono ?_; rintro e w2 ⟨rfl, hb⟩; replace M := M.below hb; clear hb; (try clear F); have F := fxw M))
        apply ret_cell_tmp (M := M); rfl; rfl; rfl; (exact dl); (first | exact agR | exact agV | exact agW | exact agO); (first | exact siI | exact siR | exact siV | exact siB | exact siSI | exact siSV | exact siW | exact siSR | exact siSO | exact siO); rfl
        exact ⟨rfl, M.toBelow⟩
    · have h2' : (bk != 1) = true := by simpa using h2
      rw [if_neg (fun h => h2 h.2.1)]
      clear h1 h2
      simp only
      go_enter Try.func165, Try.ntmps165
      go_wp2_with (first | (with_reducible refine alAw M ?_; clear M; (try clear F); intro w1 M F) | ((with_reducible apply ev_store (M := M)); rfl; rfl; ((conv => lhs; whnf) <;> rfl); rfl; (first | exact siI | exact siR | exact siV | exact siB | exact siSI | exact siSV | exact siW | exact siSR | exact siSO | exact siO); (exact one_all rfl); (exact dl); (exact Nat.le_of_ble_eq_true rfl); clear M; intro w1 M; simp only [SX] at M; (try clear F); have F := fxw M))
      apply ret_cell_tmp (M := M); rfl; rfl; rfl; (exact dl); (first | exact agR | exact agV | exact agW | exact agO); (first | exact siI | exact siR | exact siV | exact siB | exact siSI | exact siSV | exact siW | exact siSR | exact siSO | exact siO); rfl
      exact ⟨rfl, M.toBelow⟩
  · have h1' : (ak != 1) = true := by simpa using h1
    rw [if_neg (fun h => h1 h.1)]
    clear h1
    simp only
    go_enter Try.func165, Try.ntmps165
    go_wp2_with (first | (with_reducible refine alAw M ?_; clear M; (try clear F); intro w1 M F) | ((with_reducible apply ev_store (M := M)); rfl; rfl; ((conv => lhs; whnf) <;> rfl); rfl; (first | exact siI | exact siR | exact siV | exact siB | exact siSI | exact siSV | exact siW | exact siSR | exact siSO | exact siO); (exact one_all rfl); (exact dl); (exact Nat.le_of_ble_eq_true rfl); clear M; intro w1 M; simp only [SX] at M; (try clear F); have F := fxw M))
    apply ret_cell_tmp (M := M); rfl; rfl; rfl; (exact dl); (first | exact agR | exact agV | exact agW | exact agO); (first | exact siI | exact siR | exact siV | exact siB | exact siSI | exact siSV | exact siW | exact siSR | exact siSO | exact siO); rfl
    exact ⟨rfl, M.toBelow⟩
end Go.Proofs.Ytmidnaafljgbiaa
