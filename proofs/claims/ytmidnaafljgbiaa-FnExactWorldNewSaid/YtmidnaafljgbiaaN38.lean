/- Parts of the proof, in one text. -/
import Derived.Test.YtmidnaafljgbiaaN28
import Derived.Test.YtmidnaafljgbiaaN25
import Derived.Test.YtmidnaafljgbiaaN29
import Derived.Test.YtmidnaafljgbiaaN26
/- Numbers without one, by the reference. -/
namespace Go.Proofs.Ytmidnaafljgbiaa
open Go.RowKit
set_option maxRecDepth 100000

theorem less_le (l : List Int) (n : Int) : (less l n).length ≤ l.length := List.length_filter_le _ _
end Go.Proofs.Ytmidnaafljgbiaa
/- How great a world is that was given to, and the row of an ok world: plain. -/
namespace Go.Proofs.Ytmidnaafljgbiaa

theorem wok_queue {w : Wd} (h : worldOk w = true) : w.queue.length ≤ 6 := by
  have h1 := worldOk_iff.1 h
  have h2 := h1.len
  refine len6 (own := 0) (idsOk_iff.2 ⟨fun x hx => ?_, h1.qnd⟩)
  have := h1.qin x hx
  omega
theorem sizesR_set {l : List Rn} {k : Nat} (hk : k < l.length) (r : Rn) : sizesR (l.set k r) = sizesR l - sizeR l[k] + sizeR r := by
  induction l generalizing k with
  | nil => simp at hk
  | cons x l ih =>
    cases k with
    | zero => simp only [List.set_cons_zero, sizesR, List.getElem_cons_zero]; omega
    | succ k => simp only [List.set_cons_succ, sizesR, List.getElem_cons_succ, ih (by simpa using hk)]; omega
theorem give_size (w : Wd) (id : Int) (v : Vl) : (give w id v).queue.length ≤ w.queue.length + 1 ∧ sizesR (give w id v).runs ≤ sizesR w.runs + 1 := by
  unfold give
  split
  · rename_i h
    simp only [Bool.and_eq_true, decide_eq_true_eq] at h
    have h2 := aliveIn_iff.1 h.1
    refine ⟨?_, ?_⟩
    · show (if (getR w.runs id).state == 2 && fits v (opAt w.code (getR w.runs id).at_).s then w.queue ++ [id] else w.queue).length ≤ _
      split
      · simp
      · omega
    · have hk : (id - 1).toNat < w.runs.length := by omega
      have e : getR w.runs id = w.runs[(id - 1).toNat] := mem_getR h2.1.1 h2.1.2
      simp only [updR, e]
      rw [sizesR_set hk]
      generalize w.runs[(id - 1).toNat] = r
      have e3 : ∀ s : Int, sizeR { r with mail := r.mail ++ [v], state := s } = sizeR r + 1 := fun s => by unfold sizeR; simp only [List.length_append, List.length_singleton]; omega
      rw [e3]
      omega
  · exact ⟨Nat.le_succ _, by show sizesR w.runs ≤ _; omega⟩
end Go.Proofs.Ytmidnaafljgbiaa
/- The end of one run, plain: what stays within its bounds while it goes on, and how the lists turn. -/
namespace Go.Proofs.Ytmidnaafljgbiaa

/-- A world in the midst of a run's end: places and lists stay within bounds. -/
structure MidW (n q : Nat) (w : Wd) : Prop where
  len : w.runs.length = n
  at_ : ∀ x : Int, 1 ≤ x → x ≤ n → 0 ≤ (getR w.runs x).at_ ∧ (getR w.runs x).at_ < w.code.length
  lst : ∀ x : Int, 1 ≤ x → x ≤ n → (getR w.runs x).links.length ≤ 1000 ∧ (getR w.runs x).watched.length ≤ 1000
  queue : w.queue.length ≤ q
theorem MidW.more {n q q' : Nat} {w : Wd} (h : MidW n q w) (hq : q ≤ q') : MidW n q' w := ⟨h.len, h.at_, h.lst, Nat.le_trans h.queue hq⟩
theorem MidW.of {w : Wd} (h : WOk w) : MidW w.runs.length 6 w := by
  refine ⟨rfl, fun x x1 x2 => ?_, fun x x1 x2 => ?_, wok_queue (worldOk_iff.2 h)⟩
  · have hr := h.run x1 x2
    exact ⟨(runOk_parts hr.ok).2.1.1, hr.at_⟩
  · have hr := runOk_parts (h.run x1 x2).ok
    have a := len6 hr.2.2.2.2.2.2.2.2.2.2.1
    have b := len6 hr.2.2.2.2.2.2.2.2.2.2.2.1
    omega
theorem MidW.give {n q : Nat} {w : Wd} (h : MidW n q w) (id : Int) (v : Vl) : MidW n (q + 1) (give w id v) := by
  refine ⟨by rw [give_length]; exact h.len, fun x x1 x2 => ?_, fun x x1 x2 => ?_, by have := (give_size w id v).1; have := h.queue; omega⟩
  · rw [give_code, (give_fields w id v x1).2.1]
    exact h.at_ x x1 x2
  · rw [(give_fields w id v x1).2.2.2.2.1, (give_fields w id v x1).2.2.2.2.2.1]
    exact h.lst x x1 x2
theorem MidW.unlink {n q : Nat} {w : Wd} (h : MidW n q w) {k : Int} (k1 : 1 ≤ k) (k2 : k ≤ n) (id : Int) : MidW n q (unlink w k id) := by
  have k3 : k ≤ w.runs.length := by rw [h.len]; exact k2
  refine ⟨by rw [unlink_length]; exact h.len, fun x x1 x2 => ?_, fun x x1 x2 => ?_, h.queue⟩
  · rw [unlink_run w k1 k3 x1]
    have := h.at_ x x1 x2
    split <;> exact this
  · rw [unlink_run w k1 k3 x1]
    have := h.lst x x1 x2
    split
    · exact ⟨Nat.le_trans (less_le _ id) this.1, this.2⟩
    · exact this
theorem MidW.first {n q : Nat} {w : Wd} (h : MidW n q w) {id : Int} (i1 : 1 ≤ id) (i2 : id ≤ n) (why : Vl) : MidW n q (endFirst w id why) := by
  have i3 : id ≤ w.runs.length := by rw [h.len]; exact i2
  refine ⟨by rw [endFirst_length]; exact h.len, fun x x1 x2 => ?_, fun x x1 x2 => ?_, ?_⟩
  · rw [endFirst_run i1 i3 why x1 (by rw [h.len]; exact x2)]
    have := h.at_ x x1 x2
    split
    · rename_i e
      subst e
      exact this
    · exact this
  · rw [endFirst_run i1 i3 why x1 (by rw [h.len]; exact x2)]
    have := h.lst x x1 x2
    split
    · exact ⟨Nat.zero_le _, Nat.zero_le _⟩
    · exact ⟨this.1, Nat.le_trans (less_le _ id) this.2⟩
  · have := less_le w.queue id
    have := h.queue
    show (less w.queue id).length ≤ q
    omega
theorem MidW.step {n q : Nat} {s : Wd × List Int} (h : MidW n q s.1) (id : Int) (nm : Bool) {k : Int} (k1 : 1 ≤ k) (k2 : k ≤ n) : MidW n (q + 1) (linkStep id nm s k).1 := by
  unfold linkStep
  have hu := h.unlink k1 k2 id
  split
  · exact hu.more (by omega)
  · split
    · exact hu.give k _
    · exact hu.more (by omega)
/-! The watched of the first i runs are cleared. -/
/-! A run in the midst of a list turns. -/
/-! A run's end: its own entry, ahead of the others'. -/
def endSelf (w : Wd) (id : Int) (why : Vl) : Wd := { w with lost := wr (w.lost + (getR w.runs id).mail.length), runs := updR w.runs id (endOne why), queue := less w.queue id }
theorem MidW.self {n q : Nat} {w : Wd} (h : MidW n q w) {id : Int} (i1 : 1 ≤ id) (i2 : id ≤ n) (why : Vl) : MidW n q (endSelf w id why) := by
  have i3 : id ≤ w.runs.length := by rw [h.len]; exact i2
  refine ⟨by show (updR _ _ _).length = n; rw [updR_length]; exact h.len, fun x x1 x2 => ?_, fun x x1 x2 => ?_, ?_⟩
  · show 0 ≤ (getR (updR w.runs id (endOne why)) x).at_ ∧ (getR (updR w.runs id (endOne why)) x).at_ < _
    rw [getR_updR i1 i3 x1]
    have := h.at_ x x1 x2
    split
    · rename_i e
      subst e
      exact this
    · exact this
  · show (getR (updR w.runs id (endOne why)) x).links.length ≤ 1000 ∧ (getR (updR w.runs id (endOne why)) x).watched.length ≤ 1000
    rw [getR_updR i1 i3 x1]
    have := h.lst x x1 x2
    split
    · exact ⟨Nat.zero_le _, Nat.zero_le _⟩
    · exact this
  · exact Nat.le_trans (less_le w.queue id) h.queue
end Go.Proofs.Ytmidnaafljgbiaa
