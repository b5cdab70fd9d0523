/- Parts of the proof, in one text. -/
import Derived.Test.YtmidnaafljgbiaaN35
/- Turns in plain words: a run begins, is linked, watches, sends. No Go and no memory here. -/
namespace Go.Proofs.Ytmidnaafljgbiaa

/-! ### One more run -/
/-! ### Links and watchers -/
end Go.Proofs.Ytmidnaafljgbiaa
/- Turns in plain words: a step, a turn, a tick, an event. No Go and no memory here. -/
namespace Go.Proofs.Ytmidnaafljgbiaa

/-! ### A turn -/
end Go.Proofs.Ytmidnaafljgbiaa
/- Ticks and events in plain words: an ok world stays ok. No Go and no memory here. -/
namespace Go.Proofs.Ytmidnaafljgbiaa

/-- One run looked at by a tick. -/
def tickHit (w : Wd) (i : Int) : Bool := (getR w.runs i).state == 2 && (getR w.runs i).due == w.now
def wake (w : Wd) (i : Int) : Wd := { w with runs := updR w.runs i (fun r => { r with state := 1, due := -1 }), queue := w.queue ++ [i] }
/-- Ok but for those who wait until now, from place i on. -/
structure TOk (w0 w : Wd) (i : Int) : Prop where
  code : w.code = w0.code
  now : w.now = w0.now + 1
  sent : w.sent = w0.sent
  taken : w.taken = w0.taken
  lost : w.lost = w0.lost
  len : w.runs.length = w0.runs.length
  old : ∀ x : Int, 1 ≤ x → x ≤ w0.runs.length → getR w.runs x = getR w0.runs x ∨ ((getR w0.runs x).state = 2 ∧ getR w.runs x = { getR w0.runs x with state := 1, due := -1 })
  done : ∀ x : Int, 1 ≤ x → x < i → x ≤ w0.runs.length → (getR w.runs x).state = 2 → w.now < (getR w.runs x).due ∨ (getR w.runs x).due = 0
  rest : ∀ x : Int, i ≤ x → x ≤ w0.runs.length → getR w.runs x = getR w0.runs x
  queue : ∀ x, x ∈ w.queue ↔ x ∈ w0.queue ∨ (1 ≤ x ∧ x ≤ w0.runs.length ∧ (getR w0.runs x).state = 2 ∧ (getR w.runs x).state = 1)
  qnd : w.queue.Nodup
theorem wait_due {w : Wd} {r : Rn} (h : waitsOk w r = true) : w.now < r.due ∨ (r.due = 0 ∧ (opAt w.code r.at_).k = 7) := by
  unfold waitsOk at h
  simp only [Bool.and_eq_true, Bool.or_eq_true, beq_iff_eq, decide_eq_true_eq] at h
  rcases h.1 with h | h
  · exact .inr ⟨h.2, h.1⟩
  · exact .inl h.2
theorem TOk.step {w0 w : Wd} {i : Int} (h0 : WOk w0) (h : TOk w0 w i) (i1 : 1 ≤ i) (i2 : i ≤ w0.runs.length) : TOk w0 (if tickHit w i then wake w i else w) (i + 1) := by
  have hi := h.rest i (Int.le_refl _) i2
  have f := h0.run i1 i2
  have hnow := h0.now
  by_cases hx : tickHit w i = true
  · rw [if_pos hx]
    unfold tickHit at hx
    rw [Bool.and_eq_true, beq_iff_eq, beq_iff_eq, hi] at hx
    have hl : i ≤ w.runs.length := by rw [h.len]; exact i2
    have hr : ∀ x : Int, 1 ≤ x → getR (wake w i).runs x = if x = i then { getR w0.runs i with state := 1, due := -1 } else getR w.runs x := by
      intro x x1
      unfold wake
      dsimp only
      rw [getR_updR i1 hl x1, hi]
    have hnq : i ∉ w.queue := by
      intro hm
      rcases (h.queue i).1 hm with hm | ⟨_, _, _, hm⟩
      · have := f.queue.1 (by rw [h0.run_id i1 i2]; exact hm)
        omega
      · rw [hi] at hm
        omega
    refine ⟨h.code, h.now, h.sent, h.taken, h.lost, by unfold wake; dsimp only; rw [updR_length]; exact h.len, fun x x1 x2 => ?_, fun x x1 x2 x3 hs => ?_, fun x x1 x2 => ?_, fun x => ?_, ?_⟩
    · rw [hr x x1]
      split
      · rename_i e; subst e; exact .inr ⟨hx.1, rfl⟩
      · exact h.old x x1 x2
    · rw [hr x x1] at hs ⊢
      split at hs
      · have hs : (1 : Int) = 2 := hs
        omega
      · rename_i e
        rw [if_neg e]
        exact h.done x x1 (by omega) x3 hs
    · rw [hr x (by omega), if_neg (by omega)]
      exact h.rest x (by omega) x2
    · show x ∈ w.queue ++ [i] ↔ _
      rw [List.mem_append, List.mem_singleton, h.queue]
      constructor
      · rintro ((hm | ⟨a, b, c, d⟩) | rfl)
        · exact .inl hm
        · refine .inr ⟨a, b, c, ?_⟩
          rw [hr x a]
          split
          · rfl
          · exact d
        · refine .inr ⟨i1, i2, hx.1, ?_⟩
          rw [hr x i1, if_pos rfl]
      · rintro (hm | ⟨a, b, c, d⟩)
        · exact .inl (.inl hm)
        · rw [hr x a] at d
          split at d
          · rename_i e; exact .inr e
          · exact .inl (.inr ⟨a, b, c, d⟩)
    · show (w.queue ++ [i]).Nodup
      rw [List.nodup_append]
      refine ⟨h.qnd, by simp, ?_⟩
      intro a ha b hb e
      rw [List.mem_singleton] at hb
      subst hb
      subst e
      exact hnq ha
  · rw [if_neg hx]
    refine ⟨h.code, h.now, h.sent, h.taken, h.lost, h.len, h.old, fun x x1 x2 x3 hs => ?_, fun x x1 x2 => h.rest x (by omega) x2, h.queue, h.qnd⟩
    by_cases e : x = i
    · subst e
      rw [hi] at hs ⊢
      have hw := wait_due (f.waits hs)
      unfold tickHit at hx
      rw [hi, hs] at hx
      simp only [beq_self_eq_true, Bool.true_and, beq_iff_eq] at hx
      have := h.now
      rcases hw with hw | hw
      · exact .inl (by omega)
      · exact .inr hw.1
    · exact h.done x x1 (by omega) x3 hs
/-! ### Events -/
/-! ### A new world -/
def newWorld (c : List Opx) : Wd := ⟨c, [newRun 1 0 ⟨3, 1⟩], [1], 0, 0, 0, 0⟩
end Go.Proofs.Ytmidnaafljgbiaa
