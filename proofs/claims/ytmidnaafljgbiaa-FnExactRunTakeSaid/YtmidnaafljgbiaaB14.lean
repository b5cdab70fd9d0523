/- Parts of the proof, in one text. -/
import Derived.Deep.RegionWith
import Derived.Deep.DrawnRows
import Derived.Test.YtmidnaafljgbiaaB13
import Derived.Test.YtmidnaafljgbiaaB12
/- Whether a run fits its world. Its place is none. -/
namespace Go.Proofs.Ytmidnaafljgbiaa
open Go.RowKit
set_option maxRecDepth 100000
attribute [local go_sem ↓] Go.wp_at_zero Go.wp_at_succ

end Go.Proofs.Ytmidnaafljgbiaa
/- Whether a run fits its world. It is to go on, and does not go, or goes, and is not to go on. -/
namespace Go.Proofs.Ytmidnaafljgbiaa
open Go.RowKit
set_option maxRecDepth 100000
attribute [local go_sem ↓] Go.wp_at_zero Go.wp_at_succ

end Go.Proofs.Ytmidnaafljgbiaa
/- Whether a run fits its world. It is told by its state. -/
namespace Go.Proofs.Ytmidnaafljgbiaa
open Go.RowKit
set_option maxRecDepth 100000
attribute [local go_sem ↓] Go.wp_at_zero Go.wp_at_succ

end Go.Proofs.Ytmidnaafljgbiaa
/- Giving and falling in plain words; an ok world stays ok. No Go and no memory here. -/
namespace Go.Proofs.Ytmidnaafljgbiaa

def wr (x : Int) : Int := (x + 9223372036854775808) % 18446744073709551616 - 9223372036854775808
theorem wr_eq {x : Int} (h0 : -9223372036854775808 ≤ x) (h1 : x ≤ 9223372036854775807) : wr x = x := by unfold wr; omega

def updR (l : List Rn) (id : Int) (f : Rn → Rn) : List Rn := l.set (id - 1).toNat (f (getR l id))
theorem updR_length (l : List Rn) (id : Int) (f : Rn → Rn) : (updR l id f).length = l.length := by simp [updR]
theorem getR_updR {l : List Rn} {id j : Int} (h1 : 1 ≤ id) (h2 : id ≤ l.length) (hj : 1 ≤ j) (f : Rn → Rn) : getR (updR l id f) j = if j = id then f (getR l id) else getR l j := by
  unfold updR
  rw [getR, List.getD_eq_getElem?_getD, List.getElem?_set]
  by_cases h : j = id
  · subst h
    rw [if_pos rfl, if_pos (by omega), if_pos rfl]
    rfl
  · rw [if_neg (by omega), if_neg h, getR, List.getD_eq_getElem?_getD]

def give (w : Wd) (id : Int) (v : Vl) : Wd :=
  if aliveIn w.runs id && decide ((getR w.runs id).mail.length < 12) then
    { w with
      sent := wr (w.sent + 1)
      runs := updR w.runs id (fun r => { r with mail := r.mail ++ [v], state := if r.state == 2 && fits v (opAt w.code r.at_).s then 1 else r.state })
      queue := if (getR w.runs id).state == 2 && fits v (opAt w.code (getR w.runs id).at_).s then w.queue ++ [id] else w.queue }
  else { w with sent := wr (w.sent + 1), lost := wr (w.lost + 1) }
def less (l : List Int) (n : Int) : List Int := l.filter (fun x => !(x == n))
def isNormal (v : Vl) : Bool := v == ⟨2, 0⟩
def endOne (why : Vl) (r : Rn) : Rn := { r with mail := [], links := [], watched := [], state := 3, due := 0, why := why }
def unlink (w : Wd) (k id : Int) : Wd := { w with runs := updR w.runs k (fun r => { r with links := less r.links id }) }
def linkStep (id : Int) (normal : Bool) (s : Wd × List Int) (k : Int) : Wd × List Int :=
  if normal then (unlink s.1 k id, s.2) else if (getR s.1.runs k).trap then (give (unlink s.1 k id) k ⟨3, id⟩, s.2) else (unlink s.1 k id, s.2 ++ [k])
def endFirst (w : Wd) (id : Int) (why : Vl) : Wd :=
  { w with
    lost := wr (w.lost + (getR w.runs id).mail.length)
    runs := (updR w.runs id (endOne why)).map (fun x => { x with watched := less x.watched id })
    queue := less w.queue id }
def giveAll (id : Int) (w : Wd) (l : List Int) : Wd := l.foldl (fun w k => give w k ⟨3, id⟩) w
def endRun (w : Wd) (id : Int) (why : Vl) : Wd × List Int :=
  let s := (getR w.runs id).links.foldl (linkStep id (isNormal why)) (endFirst w id why, [])
  (giveAll id s.1 (getR w.runs id).watched, s.2)
/-- Who is listed falls, one behind the other. -/
def fallN (why : Vl) : Nat → Wd → List Int → Wd
  | 0, w, _ => w
  | _ + 1, w, [] => w
  | n + 1, w, k :: l => if aliveIn w.runs k then fallN why n (endRun w k why).1 (l ++ (endRun w k why).2) else fallN why n w l
/-- How many rounds a falling takes at most. -/
def sumR (g : Rn → Nat) : List Rn → Nat
  | [] => 0
  | r :: l => g r + sumR g l
def linkW (r : Rn) : Nat := if r.state = 3 then 0 else r.links.length + 1
def liveW (r : Rn) : Nat := if r.state = 3 then 0 else 1
def pot (w : Wd) (l : List Int) : Nat := l.length + sumR linkW w.runs
def fallAll (w : Wd) (id : Int) (why : Vl) : Wd := fallN why (pot w [id]) w [id]
/-! ### An ok world, as a proposition -/
structure FitR (w : Wd) (f : List Int) (k : Nat) (r : Rn) : Prop where
  ok : runOk r = true
  id : r.id = (k : Int) + 1
  at_ : r.at_ < w.code.length
  queue : r.id ∈ w.queue ↔ r.state = 1
  waits : r.state = 2 → waitsOk w r = true
  links : ∀ x ∈ r.links, aliveIn w.runs x = true
  watched : ∀ x ∈ r.watched, aliveIn w.runs x = true
  need : r.state ≠ 3 → needOk f r = true
structure WOk (w : Wd) : Prop where
  safe : codeSafe w.code = true
  len : 1 ≤ w.runs.length ∧ w.runs.length ≤ 6
  now : 0 ≤ w.now ∧ w.now ≤ 300
  sent : 0 ≤ w.sent ∧ w.sent ≤ 9999
  taken : 0 ≤ w.taken ∧ w.taken ≤ 9999
  lost : 0 ≤ w.lost ∧ w.lost ≤ 9999
  qin : ∀ x ∈ w.queue, 1 ≤ x ∧ x ≤ w.runs.length
  qnd : w.queue.Nodup
  fit : ∀ k (hk : k < w.runs.length), FitR w (fullOf w.code) k w.runs[k]
  sym : ∀ a (ha : a < w.runs.length) b (hb : b < w.runs.length), (b : Int) + 1 ∈ (w.runs[a]).links → (a : Int) + 1 ∈ (w.runs[b]).links
  sum : w.sent = w.taken + w.lost + waits w.runs

theorem runFits_iff {w : Wd} {f : List Int} {k : Nat} {r : Rn} : runFits w f k r = true ↔ FitR w f k r := by
  simp only [runFits, Bool.and_eq_true, beq_iff_eq, decide_eq_true_eq, Bool.or_eq_true, Bool.not_eq_true', beq_eq_false_iff_ne, List.all_eq_true]
  constructor
  · rintro ⟨⟨⟨⟨⟨h1, h2⟩, h3⟩, h4⟩, h5⟩, h6⟩
    rw [Bool.eq_iff_iff, List.contains_iff_mem, beq_iff_eq] at h4
    obtain ⟨_, _, _, _, _, _, _, _, _, _, _, _, _, e, _⟩ := runOk_parts h1
    refine ⟨h1, h2, h3, h4, fun hs => h5.resolve_left (fun hn => hn hs), fun x hx => ?_, fun x hx => ?_, fun hs => (h6.resolve_left hs).2⟩
    · rcases h6 with h6 | h6
      · rw [(e h6).2.1] at hx
        simp at hx
      · exact h6.1.1 x hx
    · rcases h6 with h6 | h6
      · rw [(e h6).2.2] at hx
        simp at hx
      · exact h6.1.2 x hx
  · rintro ⟨h1, h2, h3, h4, h5, h6, h7, h8⟩
    refine ⟨⟨⟨⟨⟨h1, h2⟩, h3⟩, ?_⟩, ?_⟩, ?_⟩
    · rw [Bool.eq_iff_iff, List.contains_iff_mem, beq_iff_eq]
      exact h4
    · by_cases hs : r.state = 2
      · exact .inr (h5 hs)
      · exact .inl hs
    · by_cases hs : r.state = 3
      · exact .inl hs
      · exact .inr ⟨⟨h6, h7⟩, h8 hs⟩
theorem worldOk_iff {w : Wd} : worldOk w = true ↔ WOk w := by
  simp only [worldOk, Bool.and_eq_true, beq_iff_eq, fitsFrom_iff, Nat.zero_add, idsOk_iff, linkedAll_iff, List.all_eq_true, decide_eq_true_eq, inB_iff, runFits_iff]
  constructor
  · rintro ⟨⟨⟨⟨⟨⟨⟨⟨⟨⟨h1, h2⟩, h3⟩, h4⟩, h5⟩, h6⟩, hq1, hq2⟩, h8⟩, h9⟩, h10⟩, h7⟩
    exact ⟨h1, by omega, h3, h4, h5, h6, fun x hx => ⟨(hq1 x hx).1, h9 x hx⟩, hq2, h8, fun a ha b hb => (h10 a ha b hb).1, h7⟩
  · rintro ⟨h1, h2, h3, h4, h5, h6, hq1, hq2, h8, h10, h7⟩
    exact ⟨⟨⟨⟨⟨⟨⟨⟨⟨⟨h1, by omega⟩, h3⟩, h4⟩, h5⟩, h6⟩, fun x hx => ⟨(hq1 x hx).1, by have := (hq1 x hx).2; omega, by have := (hq1 x hx).1; omega⟩, hq2⟩, h8⟩, fun x hx => (hq1 x hx).2⟩, fun a ha b hb => ⟨h10 a ha b hb, h10 b hb a ha⟩⟩, h7⟩

/-! ### A run is turned -/
theorem waits_set {l : List Rn} {k : Nat} (hk : k < l.length) (r : Rn) : waits (l.set k r) = waits l - (l[k]).mail.length + r.mail.length := by
  induction l generalizing k with
  | nil => simp at hk
  | cons x l ih =>
    cases k with
    | zero => simp only [List.set_cons_zero, waits, List.getElem_cons_zero]; omega
    | succ k => simp only [List.set_cons_succ, waits, List.getElem_cons_succ, ih (by simpa using hk)]; omega
theorem waits_updR {l : List Rn} {id : Int} (h1 : 1 ≤ id) (h2 : id ≤ l.length) (f : Rn → Rn) : waits (updR l id f) = waits l - (getR l id).mail.length + (f (getR l id)).mail.length := by
  unfold updR
  rw [waits_set (by omega), mem_getR h1 h2]
theorem waits_nonneg (l : List Rn) : 0 ≤ waits l := by
  induction l with
  | nil => simp [waits]
  | cons r l ih => simp only [waits]; omega
theorem waits_ge {l : List Rn} {id : Int} (h1 : 1 ≤ id) (h2 : id ≤ l.length) : ((getR l id).mail.length : Int) ≤ waits l := by
  have := waits_updR h1 h2 (fun r => { r with mail := [] })
  have h := waits_nonneg (updR l id (fun r => { r with mail := [] }))
  simp only [List.length_nil] at this
  omega

/-- By numbers, not by places. -/
theorem WOk.run {w : Wd} (h : WOk w) {x : Int} (h1 : 1 ≤ x) (h2 : x ≤ w.runs.length) : FitR w (fullOf w.code) (x - 1).toNat (getR w.runs x) := by
  rw [mem_getR h1 h2]
  exact h.fit _ _
theorem WOk.run_id {w : Wd} (h : WOk w) {x : Int} (h1 : 1 ≤ x) (h2 : x ≤ w.runs.length) : (getR w.runs x).id = x := by
  have := (h.run h1 h2).id
  omega
theorem WOk.link {w : Wd} (h : WOk w) {a b : Int} (a1 : 1 ≤ a) (a2 : a ≤ w.runs.length) (hb : b ∈ (getR w.runs a).links) : (1 ≤ b ∧ b ≤ w.runs.length) ∧ a ∈ (getR w.runs b).links ∧ (getR w.runs b).state ≠ 3 ∧ b ≠ a := by
  have f := h.run a1 a2
  obtain ⟨⟨b1, b2⟩, b3⟩ := aliveIn_iff.1 (f.links b hb)
  refine ⟨⟨b1, b2⟩, ?_, b3, ?_⟩
  · rw [mem_getR a1 a2] at hb
    have := h.sym (a - 1).toNat (by omega) (b - 1).toNat (by omega) (by rw [show (((b - 1).toNat : Nat) : Int) + 1 = b by omega]; exact hb)
    rw [show (((a - 1).toNat : Nat) : Int) + 1 = a by omega] at this
    rwa [mem_getR b1 b2]
  · obtain ⟨_, _, _, _, _, _, _, _, _, _, e, _⟩ := runOk_parts f.ok
    have := ((idsOk_iff.1 e).1 b hb).2.2
    have := h.run_id a1 a2
    omega
/-- Of numbers: all that an ok world is. -/
theorem wok_of {w : Wd} (h1 : codeSafe w.code = true) (h2 : 1 ≤ w.runs.length ∧ w.runs.length ≤ 6) (h3 : 0 ≤ w.now ∧ w.now ≤ 300) (h4 : 0 ≤ w.sent ∧ w.sent ≤ 9999) (h5 : 0 ≤ w.taken ∧ w.taken ≤ 9999) (h6 : 0 ≤ w.lost ∧ w.lost ≤ 9999)
    (h7 : ∀ x ∈ w.queue, 1 ≤ x ∧ x ≤ w.runs.length) (h8 : w.queue.Nodup) (h9 : ∀ x : Int, 1 ≤ x → x ≤ w.runs.length → FitR w (fullOf w.code) (x - 1).toNat (getR w.runs x))
    (h10 : ∀ a b : Int, 1 ≤ a → a ≤ w.runs.length → 1 ≤ b → b ≤ w.runs.length → b ∈ (getR w.runs a).links → a ∈ (getR w.runs b).links) (h11 : w.sent = w.taken + w.lost + waits w.runs) : WOk w := by
  refine ⟨h1, h2, h3, h4, h5, h6, h7, h8, fun k hk => ?_, fun a ha b hb hm => ?_, h11⟩
  · have := h9 ((k : Int) + 1) (by omega) (by omega)
    rw [mem_getR (by omega) (by omega)] at this
    simpa using this
  · have := h10 ((a : Int) + 1) ((b : Int) + 1) (by omega) (by omega) (by omega) (by omega) (by rw [mem_getR (by omega) (by omega)]; simpa using hm)
    rw [mem_getR (by omega) (by omega)] at this
    simpa using this

/-! ### Giving -/
theorem give_length (w : Wd) (id : Int) (v : Vl) : (give w id v).runs.length = w.runs.length := by
  unfold give
  split
  · simp only [updR_length]
  · rfl
theorem give_code (w : Wd) (id : Int) (v : Vl) : (give w id v).code = w.code := by unfold give; split <;> rfl
theorem give_now (w : Wd) (id : Int) (v : Vl) : (give w id v).now = w.now := by unfold give; split <;> rfl
theorem give_taken (w : Wd) (id : Int) (v : Vl) : (give w id v).taken = w.taken := by unfold give; split <;> rfl
theorem give_sent (w : Wd) (id : Int) (v : Vl) : (give w id v).sent = wr (w.sent + 1) := by unfold give; split <;> rfl
/-- What a run is behind a giving: all but mail, and whether it goes, is as it was. -/
theorem give_run (w : Wd) (id : Int) (v : Vl) {x : Int} (hx : 1 ≤ x) :
    getR (give w id v).runs x = (if (aliveIn w.runs id && decide ((getR w.runs id).mail.length < 12)) = true ∧ x = id then
      { getR w.runs x with mail := (getR w.runs x).mail ++ [v], state := if (getR w.runs x).state == 2 && fits v (opAt w.code (getR w.runs x).at_).s then 1 else (getR w.runs x).state } else getR w.runs x) := by
  unfold give
  by_cases h : (aliveIn w.runs id && decide ((getR w.runs id).mail.length < 12)) = true
  · rw [if_pos h]
    obtain ⟨⟨a1, a2⟩, _⟩ := aliveIn_iff.1 (Bool.and_eq_true_iff.1 h).1
    rw [getR_updR a1 a2 hx]
    by_cases e : x = id
    · subst e; rw [if_pos rfl]; exact (if_pos ⟨h, rfl⟩).symm
    · rw [if_neg e, if_neg (fun hh => e hh.2)]
  · rw [if_neg h, if_neg (fun hh => h hh.1)]
theorem give_fields (w : Wd) (id : Int) (v : Vl) {x : Int} (hx : 1 ≤ x) :
    (getR (give w id v).runs x).id = (getR w.runs x).id ∧ (getR (give w id v).runs x).at_ = (getR w.runs x).at_ ∧ (getR (give w id v).runs x).slots = (getR w.runs x).slots ∧ (getR (give w id v).runs x).full = (getR w.runs x).full ∧
    (getR (give w id v).runs x).links = (getR w.runs x).links ∧ (getR (give w id v).runs x).watched = (getR w.runs x).watched ∧ (getR (give w id v).runs x).trap = (getR w.runs x).trap ∧ (getR (give w id v).runs x).why = (getR w.runs x).why ∧
    ((getR (give w id v).runs x).state = 3 ↔ (getR w.runs x).state = 3) ∧ (getR (give w id v).runs x).due = (getR w.runs x).due ∧ (getR (give w id v).runs x).turns = (getR w.runs x).turns := by
  rw [give_run w id v hx]
  split
  · refine ⟨rfl, rfl, rfl, rfl, rfl, rfl, rfl, rfl, ?_, rfl, rfl⟩
    by_cases h : ((getR w.runs x).state == 2 && fits v (opAt w.code (getR w.runs x).at_).s) = true
    · simp only [if_pos h]
      simp only [Bool.and_eq_true, beq_iff_eq] at h
      omega
    · simp only [if_neg h]
  · exact ⟨rfl, rfl, rfl, rfl, rfl, rfl, rfl, rfl, Iff.rfl, rfl, rfl⟩
theorem give_alive (w : Wd) (id : Int) (v : Vl) (x : Int) : aliveIn (give w id v).runs x = aliveIn w.runs x := by
  rw [Bool.eq_iff_iff, aliveIn_iff, aliveIn_iff, give_length]
  constructor
  · rintro ⟨h, hs⟩
    exact ⟨h, fun e => hs ((give_fields w id v h.1).2.2.2.2.2.2.2.2.1.2 e)⟩
  · rintro ⟨h, hs⟩
    exact ⟨h, fun e => hs ((give_fields w id v h.1).2.2.2.2.2.2.2.2.1.1 e)⟩
theorem give_lost {w : Wd} (id : Int) (v : Vl) : (give w id v).lost = if (aliveIn w.runs id && decide ((getR w.runs id).mail.length < 12)) = true then w.lost else wr (w.lost + 1) := by
  unfold give
  split <;> rfl
theorem give_waits {w : Wd} (id : Int) (v : Vl) : waits (give w id v).runs = waits w.runs + if (aliveIn w.runs id && decide ((getR w.runs id).mail.length < 12)) = true then 1 else 0 := by
  unfold give
  by_cases h : (aliveIn w.runs id && decide ((getR w.runs id).mail.length < 12)) = true
  · rw [if_pos h, if_pos h]
    obtain ⟨⟨a1, a2⟩, _⟩ := aliveIn_iff.1 (Bool.and_eq_true_iff.1 h).1
    rw [waits_updR a1 a2]
    simp only [List.length_append, List.length_cons, List.length_nil]
    omega
  · rw [if_neg h, if_neg h]
    simp

theorem runOk_give {r : Rn} (h : runOk r = true) (hs : r.state ≠ 3) (hm : r.mail.length < 12) {v : Vl} (hv : valOk v = true) (s : Int) (hs' : s = 1 ∨ s = r.state) : runOk { r with mail := r.mail ++ [v], state := s } = true := by
  obtain ⟨h1, h2, h3, h4, h5, h6, h7, h8, h9, h10, h11, h12, h13, h14, h15⟩ := runOk_parts h
  simp only [runOk, Bool.and_eq_true, decide_eq_true_eq, inB_iff, beq_iff_eq, List.length_append, List.length_cons, List.length_nil]
  refine ⟨⟨⟨⟨⟨⟨⟨⟨⟨⟨⟨⟨⟨h1, h2⟩, h3⟩, h4⟩, by omega⟩, by omega⟩, h7⟩, h8⟩, h9⟩, ?_⟩, h11⟩, h12⟩, h13⟩, ?_⟩
  · rw [List.all_append, h10]
    simp [hv]
  · rw [if_neg (by omega)]
    simpa using h15 hs

theorem firstIx_append_none {m : List Vl} {v : Vl} {kind : Int} (h : (firstIx m kind).isNone = true) (hv : fits v kind = false) : (firstIx (m ++ [v]) kind).isNone = true := by
  rw [Option.isNone_iff_eq_none, firstIx_none] at h ⊢
  intro x hx
  rcases List.mem_append.1 hx with hx | hx
  · exact h x hx
  · rw [List.mem_singleton] at hx
    subst hx
    exact hv

/-- An ok world stays ok by a giving. -/
theorem give_ok {w : Wd} (h : WOk w) (hs : w.sent < 9999) (id : Int) {v : Vl} (hv : valOk v = true) : WOk (give w id v) := by
  have hc := give_code w id v
  have wn := waits_nonneg w.runs
  have b1 := h.sent; have b2 := h.taken; have b3 := h.lost; have b4 := h.sum
  by_cases hg : (aliveIn w.runs id && decide ((getR w.runs id).mail.length < 12)) = true
  · obtain ⟨ga, gm⟩ := Bool.and_eq_true_iff.1 hg
    obtain ⟨⟨a1, a2⟩, a3⟩ := aliveIn_iff.1 ga
    have fr := h.run a1 a2
    have hid := h.run_id a1 a2
    have hm : (getR w.runs id).mail.length < 12 := by simpa using gm
    have hq : (give w id v).queue = if (getR w.runs id).state == 2 && fits v (opAt w.code (getR w.runs id).at_).s then w.queue ++ [id] else w.queue := by
      unfold give; rw [if_pos hg]
    have hnq : (getR w.runs id).state = 2 → id ∉ w.queue := fun hs hm => by
      have := fr.queue.1 (by rw [hid]; exact hm)
      omega
    have hqm : ∀ x, x ∈ (give w id v).queue ↔ x ∈ w.queue ∨ (x = id ∧ (getR w.runs id).state = 2 ∧ fits v (opAt w.code (getR w.runs id).at_).s = true) := by
      intro x
      rw [hq]
      split
      · rename_i hw
        simp only [Bool.and_eq_true, beq_iff_eq] at hw
        simp [hw]
      · rename_i hw
        simp only [Bool.and_eq_true, beq_iff_eq] at hw
        constructor
        · exact .inl
        · rintro (hx | ⟨_, hx⟩)
          · exact hx
          · exact absurd hx hw
    refine wok_of (by rw [hc]; exact h.safe) (by rw [give_length]; exact h.len) (by rw [give_now]; exact h.now) ?_ (by rw [give_taken]; exact h.taken) ?_ ?_ ?_ ?_ ?_ ?_
    · rw [give_sent, wr_eq (by omega) (by omega)]; omega
    · rw [give_lost, if_pos hg]; exact h.lost
    · intro x hx
      rw [give_length]
      rcases (hqm x).1 hx with hx | ⟨rfl, _⟩
      · exact h.qin x hx
      · exact ⟨a1, a2⟩
    · rw [hq]
      split
      · rename_i hw
        simp only [Bool.and_eq_true, beq_iff_eq] at hw
        rw [List.nodup_append]
        refine ⟨h.qnd, by simp, ?_⟩
        intro a ha b hb e
        rw [List.mem_singleton] at hb
        subst hb
        subst e
        exact hnq hw.1 ha
      · exact h.qnd
    · intro x hx1 hx2
      rw [give_length] at hx2
      rw [hc]
      have f := h.run hx1 hx2
      have hxid := h.run_id hx1 hx2
      by_cases e : x = id
      · subst e
        rw [give_run w x v hx1, if_pos ⟨hg, rfl⟩]
        by_cases hw : ((getR w.runs x).state == 2 && fits v (opAt w.code (getR w.runs x).at_).s) = true
        · simp only [if_pos hw]
          refine ⟨runOk_give f.ok a3 hm hv 1 (.inl rfl), f.id, by rw [hc]; exact f.at_, ?_, fun hs => by simp at hs, fun y hy => by rw [give_alive]; exact f.links y hy, fun y hy => by rw [give_alive]; exact f.watched y hy, fun hs => f.need a3⟩
          simp only [Bool.and_eq_true, beq_iff_eq] at hw
          refine ⟨fun _ => rfl, fun _ => (hqm _).2 (.inr ⟨hxid, hw⟩)⟩
        · simp only [if_neg hw]
          refine ⟨runOk_give f.ok a3 hm hv _ (.inr rfl), f.id, by rw [hc]; exact f.at_, ?_, fun hs => ?_, fun y hy => by rw [give_alive]; exact f.links y hy, fun y hy => by rw [give_alive]; exact f.watched y hy, fun hs => f.need a3⟩
          · simp only [Bool.and_eq_true, beq_iff_eq] at hw
            rw [hqm]
            refine ⟨fun hm => ?_, fun hs => .inl (f.queue.2 hs)⟩
            rcases hm with hm | ⟨_, hm⟩
            · exact f.queue.1 hm
            · exact absurd hm hw
          · have hs2 : (getR w.runs x).state = 2 := hs
            have hfv : fits v (opAt w.code (getR w.runs x).at_).s = false := by
              simp only [Bool.and_eq_true, beq_iff_eq, not_and, Bool.not_eq_true] at hw
              exact hw hs2
            have := f.waits hs2
            simp only [waitsOk, Bool.and_eq_true, hc, give_now] at this ⊢
            exact ⟨this.1, firstIx_append_none this.2 hfv⟩
      · rw [give_run w id v hx1, if_neg (fun hh => e hh.2)]
        refine ⟨f.ok, f.id, by rw [hc]; exact f.at_, ?_, fun hs => ?_, fun y hy => by rw [give_alive]; exact f.links y hy, fun y hy => by rw [give_alive]; exact f.watched y hy, f.need⟩
        · rw [hqm]
          refine ⟨fun hm => ?_, fun hs => .inl (f.queue.2 hs)⟩
          rcases hm with hm | ⟨hm, _⟩
          · exact f.queue.1 hm
          · omega
        · have := f.waits hs
          simp only [waitsOk, Bool.and_eq_true, hc, give_now] at this ⊢
          exact this
    · intro a b a1' a2' b1' b2' hb
      rw [give_length] at a2' b2'
      rw [(give_fields w id v a1').2.2.2.2.1] at hb
      rw [(give_fields w id v b1').2.2.2.2.1]
      exact (h.link a1' a2' hb).2.1
    · rw [give_sent, give_taken, give_lost, give_waits, if_pos hg, if_pos hg, wr_eq (by omega) (by omega)]; omega
  · -- it is lost
    have e : give w id v = { w with sent := wr (w.sent + 1), lost := wr (w.lost + 1) } := by unfold give; rw [if_neg hg]
    rw [e, wr_eq (by omega) (by omega), wr_eq (by omega) (by omega)]
    refine ⟨h.safe, h.len, h.now, by simp only; omega, h.taken, by simp only; omega, h.qin, h.qnd, fun k hk => ?_, h.sym, by simp only; omega⟩
    have f := h.fit k hk
    exact ⟨f.ok, f.id, f.at_, f.queue, f.waits, f.links, f.watched, f.need⟩

end Go.Proofs.Ytmidnaafljgbiaa
