/- Parts of the proof, in one text. -/
import Derived.Deep.RegionWith
import Derived.Deep.DrawnRows
import Derived.Test.YtmidnaafljgbiaaN23
import Derived.Test.YtmidnaafljgbiaaN11
import Derived.Test.YtmidnaafljgbiaaN15
/- Whether a run fits its world. It is told by its state. -/
namespace Go.Proofs.Ytmidnaafljgbiaa
open Go.RowKit
set_option maxRecDepth 100000
attribute [local go_sem ↓] Go.wp_at_zero Go.wp_at_succ

end Go.Proofs.Ytmidnaafljgbiaa
/- Giving and falling in plain words; an ok world stays ok. No Go and no memory here. -/
namespace Go.Proofs.Ytmidnaafljgbiaa

def wr (x : Int) : Int := (x + 9223372036854775808) % 18446744073709551616 - 9223372036854775808
def updR (l : List Rn) (id : Int) (f : Rn → Rn) : List Rn := l.set (id - 1).toNat (f (getR l id))
theorem updR_length (l : List Rn) (id : Int) (f : Rn → Rn) : (updR l id f).length = l.length := by simp [updR]
theorem getR_updR {l : List Rn} {id j : Int} (h1 : 1 ≤ id) (h2 : id ≤ l.length) (hj : 1 ≤ j) (f : Rn → Rn) : getR (updR l id f) j = if j = id then f (getR l id) else getR l j := by
  unfold updR
  rw [getR, List.getD_eq_getElem?_getD, List.getElem?_set]
  by_cases h : j = id
  · subst h
    rw [if_pos rfl, if_pos (by omega), if_pos rfl]
    rfl
  · rw [if_neg (by omega), if_neg h, getR, List.getD_eq_getElem?_getD]

def give (w : Wd) (id : Int) (v : Vl) : Wd :=
  if aliveIn w.runs id && decide ((getR w.runs id).mail.length < 12) then
    { w with
      sent := wr (w.sent + 1)
      runs := updR w.runs id (fun r => { r with mail := r.mail ++ [v], state := if r.state == 2 && fits v (opAt w.code r.at_).s then 1 else r.state })
      queue := if (getR w.runs id).state == 2 && fits v (opAt w.code (getR w.runs id).at_).s then w.queue ++ [id] else w.queue }
  else { w with sent := wr (w.sent + 1), lost := wr (w.lost + 1) }
def less (l : List Int) (n : Int) : List Int := l.filter (fun x => !(x == n))
def isNormal (v : Vl) : Bool := v == ⟨2, 0⟩
def endOne (why : Vl) (r : Rn) : Rn := { r with mail := [], links := [], watched := [], state := 3, due := 0, why := why }
def unlink (w : Wd) (k id : Int) : Wd := { w with runs := updR w.runs k (fun r => { r with links := less r.links id }) }
def linkStep (id : Int) (normal : Bool) (s : Wd × List Int) (k : Int) : Wd × List Int :=
  if normal then (unlink s.1 k id, s.2) else if (getR s.1.runs k).trap then (give (unlink s.1 k id) k ⟨3, id⟩, s.2) else (unlink s.1 k id, s.2 ++ [k])
def endFirst (w : Wd) (id : Int) (why : Vl) : Wd :=
  { w with
    lost := wr (w.lost + (getR w.runs id).mail.length)
    runs := (updR w.runs id (endOne why)).map (fun x => { x with watched := less x.watched id })
    queue := less w.queue id }
/-- How many rounds a falling takes at most. -/
def sumR (g : Rn → Nat) : List Rn → Nat
  | [] => 0
  | r :: l => g r + sumR g l
def liveW (r : Rn) : Nat := if r.state = 3 then 0 else 1
/-! ### An ok world, as a proposition -/
structure FitR (w : Wd) (f : List Int) (k : Nat) (r : Rn) : Prop where
  ok : runOk r = true
  id : r.id = (k : Int) + 1
  at_ : r.at_ < w.code.length
  queue : r.id ∈ w.queue ↔ r.state = 1
  waits : r.state = 2 → waitsOk w r = true
  links : ∀ x ∈ r.links, aliveIn w.runs x = true
  watched : ∀ x ∈ r.watched, aliveIn w.runs x = true
  need : r.state ≠ 3 → needOk f r = true
structure WOk (w : Wd) : Prop where
  safe : codeSafe w.code = true
  len : 1 ≤ w.runs.length ∧ w.runs.length ≤ 6
  now : 0 ≤ w.now ∧ w.now ≤ 300
  sent : 0 ≤ w.sent ∧ w.sent ≤ 9999
  taken : 0 ≤ w.taken ∧ w.taken ≤ 9999
  lost : 0 ≤ w.lost ∧ w.lost ≤ 9999
  qin : ∀ x ∈ w.queue, 1 ≤ x ∧ x ≤ w.runs.length
  qnd : w.queue.Nodup
  fit : ∀ k (hk : k < w.runs.length), FitR w (fullOf w.code) k w.runs[k]
  sym : ∀ a (ha : a < w.runs.length) b (hb : b < w.runs.length), (b : Int) + 1 ∈ (w.runs[a]).links → (a : Int) + 1 ∈ (w.runs[b]).links
  sum : w.sent = w.taken + w.lost + waits w.runs

theorem runFits_iff {w : Wd} {f : List Int} {k : Nat} {r : Rn} : runFits w f k r = true ↔ FitR w f k r := by
  simp only [runFits, Bool.and_eq_true, beq_iff_eq, decide_eq_true_eq, Bool.or_eq_true, Bool.not_eq_true', beq_eq_false_iff_ne, List.all_eq_true]
  constructor
  · rintro ⟨⟨⟨⟨⟨h1, h2⟩, h3⟩, h4⟩, h5⟩, h6⟩
    rw [Bool.eq_iff_iff, List.contains_iff_mem, beq_iff_eq] at h4
    obtain ⟨_, _, _, _, _, _, _, _, _, _, _, _, _, e, _⟩ := runOk_parts h1
    refine ⟨h1, h2, h3, h4, fun hs => h5.resolve_left (fun hn => hn hs), fun x hx => ?_, fun x hx => ?_, fun hs => (h6.resolve_left hs).2⟩
    · rcases h6 with h6 | h6
      · rw [(e h6).2.1] at hx
        simp at hx
      · exact h6.1.1 x hx
    · rcases h6 with h6 | h6
      · rw [(e h6).2.2] at hx
        simp at hx
      · exact h6.1.2 x hx
  · rintro ⟨h1, h2, h3, h4, h5, h6, h7, h8⟩
    refine ⟨⟨⟨⟨⟨h1, h2⟩, h3⟩, ?_⟩, ?_⟩, ?_⟩
    · rw [Bool.eq_iff_iff, List.contains_iff_mem, beq_iff_eq]
      exact h4
    · by_cases hs : r.state = 2
      · exact .inr (h5 hs)
      · exact .inl hs
    · by_cases hs : r.state = 3
      · exact .inl hs
      · exact .inr ⟨⟨h6, h7⟩, h8 hs⟩
theorem worldOk_iff {w : Wd} : worldOk w = true ↔ WOk w := by
  simp only [worldOk, Bool.and_eq_true, beq_iff_eq, fitsFrom_iff, Nat.zero_add, idsOk_iff, linkedAll_iff, List.all_eq_true, decide_eq_true_eq, inB_iff, runFits_iff]
  constructor
  · rintro ⟨⟨⟨⟨⟨⟨⟨⟨⟨⟨h1, h2⟩, h3⟩, h4⟩, h5⟩, h6⟩, hq1, hq2⟩, h8⟩, h9⟩, h10⟩, h7⟩
    exact ⟨h1, by omega, h3, h4, h5, h6, fun x hx => ⟨(hq1 x hx).1, h9 x hx⟩, hq2, h8, fun a ha b hb => (h10 a ha b hb).1, h7⟩
  · rintro ⟨h1, h2, h3, h4, h5, h6, hq1, hq2, h8, h10, h7⟩
    exact ⟨⟨⟨⟨⟨⟨⟨⟨⟨⟨h1, by omega⟩, h3⟩, h4⟩, h5⟩, h6⟩, fun x hx => ⟨(hq1 x hx).1, by have := (hq1 x hx).2; omega, by have := (hq1 x hx).1; omega⟩, hq2⟩, h8⟩, fun x hx => (hq1 x hx).2⟩, fun a ha b hb => ⟨h10 a ha b hb, h10 b hb a ha⟩⟩, h7⟩

/-! ### A run is turned -/
/-- By numbers, not by places. -/
theorem WOk.run {w : Wd} (h : WOk w) {x : Int} (h1 : 1 ≤ x) (h2 : x ≤ w.runs.length) : FitR w (fullOf w.code) (x - 1).toNat (getR w.runs x) := by
  rw [mem_getR h1 h2]
  exact h.fit _ _
theorem WOk.run_id {w : Wd} (h : WOk w) {x : Int} (h1 : 1 ≤ x) (h2 : x ≤ w.runs.length) : (getR w.runs x).id = x := by
  have := (h.run h1 h2).id
  omega
/-! ### Giving -/
theorem give_length (w : Wd) (id : Int) (v : Vl) : (give w id v).runs.length = w.runs.length := by
  unfold give
  split
  · simp only [updR_length]
  · rfl
theorem give_code (w : Wd) (id : Int) (v : Vl) : (give w id v).code = w.code := by unfold give; split <;> rfl
/-- What a run is behind a giving: all but mail, and whether it goes, is as it was. -/
theorem give_run (w : Wd) (id : Int) (v : Vl) {x : Int} (hx : 1 ≤ x) :
    getR (give w id v).runs x = (if (aliveIn w.runs id && decide ((getR w.runs id).mail.length < 12)) = true ∧ x = id then
      { getR w.runs x with mail := (getR w.runs x).mail ++ [v], state := if (getR w.runs x).state == 2 && fits v (opAt w.code (getR w.runs x).at_).s then 1 else (getR w.runs x).state } else getR w.runs x) := by
  unfold give
  by_cases h : (aliveIn w.runs id && decide ((getR w.runs id).mail.length < 12)) = true
  · rw [if_pos h]
    obtain ⟨⟨a1, a2⟩, _⟩ := aliveIn_iff.1 (Bool.and_eq_true_iff.1 h).1
    rw [getR_updR a1 a2 hx]
    by_cases e : x = id
    · subst e; rw [if_pos rfl]; exact (if_pos ⟨h, rfl⟩).symm
    · rw [if_neg e, if_neg (fun hh => e hh.2)]
  · rw [if_neg h, if_neg (fun hh => h hh.1)]
theorem give_fields (w : Wd) (id : Int) (v : Vl) {x : Int} (hx : 1 ≤ x) :
    (getR (give w id v).runs x).id = (getR w.runs x).id ∧ (getR (give w id v).runs x).at_ = (getR w.runs x).at_ ∧ (getR (give w id v).runs x).slots = (getR w.runs x).slots ∧ (getR (give w id v).runs x).full = (getR w.runs x).full ∧
    (getR (give w id v).runs x).links = (getR w.runs x).links ∧ (getR (give w id v).runs x).watched = (getR w.runs x).watched ∧ (getR (give w id v).runs x).trap = (getR w.runs x).trap ∧ (getR (give w id v).runs x).why = (getR w.runs x).why ∧
    ((getR (give w id v).runs x).state = 3 ↔ (getR w.runs x).state = 3) ∧ (getR (give w id v).runs x).due = (getR w.runs x).due ∧ (getR (give w id v).runs x).turns = (getR w.runs x).turns := by
  rw [give_run w id v hx]
  split
  · refine ⟨rfl, rfl, rfl, rfl, rfl, rfl, rfl, rfl, ?_, rfl, rfl⟩
    by_cases h : ((getR w.runs x).state == 2 && fits v (opAt w.code (getR w.runs x).at_).s) = true
    · simp only [if_pos h]
      simp only [Bool.and_eq_true, beq_iff_eq] at h
      omega
    · simp only [if_neg h]
  · exact ⟨rfl, rfl, rfl, rfl, rfl, rfl, rfl, rfl, Iff.rfl, rfl, rfl⟩
end Go.Proofs.Ytmidnaafljgbiaa
/- A run ends: the world stays ok; who falls next, who is told. No Go and no memory here. -/
namespace Go.Proofs.Ytmidnaafljgbiaa

/-! ### Links are taken away -/
theorem unlink_length (w : Wd) (k id : Int) : (unlink w k id).runs.length = w.runs.length := by simp only [unlink, updR_length]
theorem unlink_run (w : Wd) {k id : Int} (k1 : 1 ≤ k) (k2 : k ≤ w.runs.length) {x : Int} (hx : 1 ≤ x) :
    getR (unlink w k id).runs x = if x = k then { getR w.runs x with links := less (getR w.runs x).links id } else getR w.runs x := by
  unfold unlink
  rw [getR_updR k1 k2 hx]
  by_cases e : x = k
  · subst e; rw [if_pos rfl]
  · rw [if_neg e, if_neg e]
def unlinkAll (id : Int) (w : Wd) (l : List Int) : Wd := l.foldl (fun w k => unlink w k id) w
/-! ### The run itself -/
/-- The world behind a run's end, before anybody is told. -/
def cleared (w : Wd) (id : Int) (why : Vl) : Wd := unlinkAll id (endFirst w id why) (getR w.runs id).links
theorem endFirst_length (w : Wd) (id : Int) (why : Vl) : (endFirst w id why).runs.length = w.runs.length := by simp [endFirst, updR_length]
theorem getR_map {l : List Rn} {f : Rn → Rn} {x : Int} (h1 : 1 ≤ x) (h2 : x ≤ l.length) : getR (l.map f) x = f (getR l x) := by
  rw [mem_getR h1 (by rw [List.length_map]; exact h2), mem_getR h1 h2]
  simp
theorem endFirst_run {w : Wd} {id : Int} (i1 : 1 ≤ id) (i2 : id ≤ w.runs.length) (why : Vl) {x : Int} (x1 : 1 ≤ x) (x2 : x ≤ w.runs.length) :
    getR (endFirst w id why).runs x = if x = id then endOne why (getR w.runs id) else { getR w.runs x with watched := less (getR w.runs x).watched id } := by
  unfold endFirst
  rw [getR_map x1 (by rw [updR_length]; exact x2), getR_updR i1 i2 x1]
  by_cases e : x = id
  · rw [if_pos e, if_pos e]
    rfl
  · rw [if_neg e, if_neg e]
end Go.Proofs.Ytmidnaafljgbiaa
