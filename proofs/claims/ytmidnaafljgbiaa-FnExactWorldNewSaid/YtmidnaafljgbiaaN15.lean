/- Parts of the proof, in one text. -/
import Derived.Test.YtmidnaafljgbiaaN14
import Derived.Test.YtmidnaafljgbiaaN04
import Derived.Test.YtmidnaafljgbiaaN05
import Derived.Test.YtmidnaafljgbiaaN11
/- The first value of a run's mail that fits, on both sides. -/
namespace Go.Proofs.Ytmidnaafljgbiaa
open Go.RowKit
set_option maxRecDepth 100000

end Go.Proofs.Ytmidnaafljgbiaa
/- Worlds in plain words: when one is ok, by either text. No Go and no memory here. -/
namespace Go.Proofs.Ytmidnaafljgbiaa

def getR (l : List Rn) (id : Int) : Rn := l.getD (id - 1).toNat Rn.zero
def opAt (c : List Opx) (i : Int) : Opx := c.getD i.toNat default
/-- Is there such a run, which did not end? -/
def aliveIn (l : List Rn) (id : Int) : Bool := inB id 1 l.length && !((getR l id).state == 3)
def waitsOk (w : Wd) (r : Rn) : Bool :=
  let o := opAt w.code r.at_
  ((o.k == 7 && r.due == 0) || (o.k == 8 && decide (w.now < r.due))) && (firstIx r.mail o.s).isNone
def needOk (f : List Int) (r : Rn) : Bool := decide (0 ≤ getI f r.at_) && both (getI f r.at_) r.full == getI f r.at_
def runFits (w : Wd) (f : List Int) (i : Nat) (r : Rn) : Bool :=
  runOk r && r.id == (i : Int) + 1 && decide (r.at_ < w.code.length) && (w.queue.contains r.id == (r.state == 1)) && (!(r.state == 2) || waitsOk w r) && ((r.state == 3) || (r.links.all (aliveIn w.runs) && r.watched.all (aliveIn w.runs) && needOk f r))
def fitsFrom (w : Wd) (f : List Int) : Nat → List Rn → Bool
  | _, [] => true
  | i, r :: l => runFits w f i r && fitsFrom w f (i + 1) l
def waits (l : List Rn) : Int := match l with | [] => 0 | r :: l => (r.mail.length : Int) + waits l
/-- Is the run at place a linked both ways with those ahead of it? -/
def linkedWith (l : List Rn) (a b : Nat) : Bool := ((l.getD a Rn.zero).links.contains ((b : Int) + 1)) == ((l.getD b Rn.zero).links.contains ((a : Int) + 1))
def linkedAll (l : List Rn) : Bool := (List.range l.length).all fun a => (List.range a).all fun b => linkedWith l a b
def worldOk (w : Wd) : Bool :=
  codeSafe w.code && inB w.runs.length 1 6 && inB w.now 0 300 && inB w.sent 0 9999 && inB w.taken 0 9999 && inB w.lost 0 9999 && idsOk w.queue 0
    && fitsFrom w (fullOf w.code) 0 w.runs && w.queue.all (fun q => decide (q ≤ w.runs.length)) && linkedAll w.runs && w.sent == w.taken + w.lost + waits w.runs

/-! ### The other text's way -/
/-! ### What they come to -/
theorem fitsFrom_iff {w : Wd} {f : List Int} : ∀ {l : List Rn} {i : Nat}, fitsFrom w f i l = true ↔ ∀ k (hk : k < l.length), runFits w f (i + k) l[k] = true := by
  intro l
  induction l with
  | nil => intro i; simp [fitsFrom]
  | cons r l ih =>
    intro i
    simp only [fitsFrom, Bool.and_eq_true, ih]
    constructor
    · rintro ⟨h0, h1⟩ k hk
      cases k with
      | zero => simpa using h0
      | succ k => have := h1 k (by simpa using hk); simpa [Nat.add_assoc, Nat.add_comm 1 k] using this
    · intro h
      refine ⟨h 0 (Nat.zero_lt_succ _), fun k hk => ?_⟩
      have := h (k + 1) (by simpa using hk)
      simpa [Nat.add_assoc, Nat.add_comm 1 k] using this
theorem idsFrom_iff {own : Int} : ∀ {l pre : List Int}, idsFrom own pre l = true ↔ (∀ x ∈ l, 1 ≤ x ∧ x ≤ 6 ∧ x ≠ own ∧ x ∉ pre) ∧ l.Nodup := by
  intro l
  induction l with
  | nil => intro pre; simp [idsFrom]
  | cons y l ih =>
    intro pre
    simp only [idsFrom, Bool.and_eq_true, ih, inB_iff, Bool.not_eq_true', beq_eq_false_iff_ne, List.nodup_cons]
    simp only [← Bool.not_eq_true, List.contains_iff_mem, List.mem_append, List.mem_cons, forall_eq_or_imp]
    constructor
    · rintro ⟨⟨⟨h1, h2⟩, h3⟩, h4, h5⟩
      refine ⟨⟨⟨h1.1, h1.2, h2, h3⟩, fun x hx => ?_⟩, fun hy => ?_, h5⟩
      · obtain ⟨a, b, c, d⟩ := h4 x hx
        exact ⟨a, b, c, fun hp => d (.inl hp)⟩
      · exact (h4 y hy).2.2.2 (.inr (.inl rfl))
    · rintro ⟨⟨⟨h1, h1', h2, h3⟩, h4⟩, h5, h6⟩
      refine ⟨⟨⟨⟨h1, h1'⟩, h2⟩, h3⟩, fun x hx => ?_, h6⟩
      obtain ⟨a, b, c, d⟩ := h4 x hx
      refine ⟨a, b, c, fun hp => hp.elim d (fun e => ?_)⟩
      rcases e with rfl | e
      · exact h5 hx
      · simp at e
theorem idsOk_iff {l : List Int} {own : Int} : idsOk l own = true ↔ (∀ x ∈ l, 1 ≤ x ∧ x ≤ 6 ∧ x ≠ own) ∧ l.Nodup := by
  unfold idsOk
  rw [idsFrom_iff]
  simp
theorem aliveIn_iff {l : List Rn} {x : Int} : aliveIn l x = true ↔ (1 ≤ x ∧ x ≤ l.length) ∧ (getR l x).state ≠ 3 := by
  simp [aliveIn, inB]

theorem mem_getR {l : List Rn} {x : Int} (h1 : 1 ≤ x) (h2 : x ≤ l.length) : getR l x = l[(x - 1).toNat]'(by omega) := by
  unfold getR
  rw [List.getD_eq_getElem?_getD, List.getElem?_eq_getElem (by omega)]
  rfl
theorem getD_eq {l : List Rn} {a : Nat} (h : a < l.length) : l.getD a Rn.zero = l[a] := by
  rw [List.getD_eq_getElem?_getD, List.getElem?_eq_getElem h]
  rfl

theorem length_of_sub {a b : List Int} (ha : a.Nodup) (hs : ∀ x ∈ a, x ∈ b) : a.length ≤ b.length := by
  induction a generalizing b with
  | nil => simp
  | cons x a ih =>
    have hx := hs x List.mem_cons_self
    rw [List.nodup_cons] at ha
    have := ih (b := b.erase x) ha.2 (fun y hy => (List.mem_erase_of_ne (fun e => ha.1 (by rw [← e]; exact hy))).2 (hs y (List.mem_cons_of_mem _ hy)))
    rw [List.length_erase_of_mem hx] at this
    have : 0 < b.length := List.length_pos_of_mem hx
    simp only [List.length_cons]
    omega

theorem linkedAll_iff {l : List Rn} : linkedAll l = true ↔ ∀ a (ha : a < l.length) b (hb : b < l.length), ((b : Int) + 1 ∈ (l[a]).links ↔ (a : Int) + 1 ∈ (l[b]).links) := by
  have one : ∀ a (ha : a < l.length) b (hb : b < l.length), linkedWith l a b = true ↔ ((b : Int) + 1 ∈ (l[a]).links ↔ (a : Int) + 1 ∈ (l[b]).links) := by
    intro a ha b hb
    unfold linkedWith
    rw [getD_eq ha, getD_eq hb, beq_iff_eq, Bool.eq_iff_iff, List.contains_iff_mem, List.contains_iff_mem]
  unfold linkedAll
  simp only [List.all_eq_true, List.mem_range]
  constructor
  · intro h a ha b hb
    rcases Nat.lt_trichotomy a b with hl | rfl | hl
    · exact ((one b hb a ha).1 (h b hb a hl)).symm
    · exact Iff.rfl
    · exact (one a ha b hb).1 (h a ha b hl)
  · intro h a ha b hb
    exact (one a ha b (by omega)).2 (h a ha b (by omega))

end Go.Proofs.Ytmidnaafljgbiaa
/- A world that is read: what its readers may ask. Whether two runs are linked both ways. -/
namespace Go.Proofs.Ytmidnaafljgbiaa
open Go.RowKit
set_option maxRecDepth 100000

/-- The cells of a run at a place. -/
def RunAt (w : World) (g o : Nat) (r : Rn) (a : RA) : Prop :=
  w.cell? ⟨g, o, none⟩ = some (.int .i64 r.id) ∧ w.cell? ⟨g, o + 1, none⟩ = some (.int .i64 r.at_) ∧ w.cell? ⟨g, o + 2, none⟩ = some (.slice a.sA r.slots.length a.sC) ∧ w.cell? ⟨g, o + 3, none⟩ = some (.int .i64 r.full) ∧
  w.cell? ⟨g, o + 4, none⟩ = some (.slice a.mA r.mail.length a.mC) ∧ w.cell? ⟨g, o + 5, none⟩ = some (.int .i64 r.state) ∧ w.cell? ⟨g, o + 6, none⟩ = some (.int .i64 r.due) ∧ w.cell? ⟨g, o + 7, none⟩ = some (.slice a.lA r.links.length a.lC) ∧
  w.cell? ⟨g, o + 8, none⟩ = some (.slice a.wA r.watched.length a.wC) ∧ w.cell? ⟨g, o + 9, none⟩ = some (.bool r.trap) ∧ w.cell? ⟨g, o + 10, none⟩ = some (.int .i64 r.why.k) ∧ w.cell? ⟨g, o + 11, none⟩ = some (.int .i64 r.why.n) ∧ w.cell? ⟨g, o + 12, none⟩ = some (.int .i64 r.turns)
def OpAt (w : World) (g o : Nat) (x : Opx) : Prop :=
  w.cell? ⟨g, o, none⟩ = some (.int .i64 x.k) ∧ w.cell? ⟨g, o + 1, none⟩ = some (.int .i64 x.r) ∧ w.cell? ⟨g, o + 2, none⟩ = some (.int .i64 x.s) ∧ w.cell? ⟨g, o + 3, none⟩ = some (.int .i64 x.to) ∧ w.cell? ⟨g, o + 4, none⟩ = some (.int .i64 x.v.k) ∧ w.cell? ⟨g, o + 5, none⟩ = some (.int .i64 x.v.n)
theorem RunAt.below {w w' : World} {g o : Nat} {r : Rn} {a : RA} {B : Nat} (h : RunAt w g o r a) (hb : Below B w w') (hg : g < B) : RunAt w' g o r a := by
  unfold RunAt at h ⊢
  simp only [hb.cell (p := ⟨g, _, none⟩) hg]
  exact h
theorem OpAt.below {w w' : World} {g o : Nat} {x : Opx} {B : Nat} (h : OpAt w g o x) (hb : Below B w w') (hg : g < B) : OpAt w' g o x := by
  unfold OpAt at h ⊢
  simp only [hb.cell (p := ⟨g, _, none⟩) hg]
  exact h
structure RW (w : World) (B : Nat) (W : Wm) : Prop where
  code : ∀ k (hk : k < W.code.length), ∃ g, W.cA = some ⟨g, 0, none⟩ ∧ g < B ∧ OpAt w g (k * 6) W.code[k]
  runs : ∀ k (hk : k < W.ps.length), ∃ g, W.rA = some ⟨g, 0, none⟩ ∧ g < B ∧ RunAt w g (k * 13) W.ps[k].1 W.ps[k].2
  queue : ReadsI w B W.qA W.queue.length W.queue
  each : ∀ k (hk : k < W.ps.length), ReadsRun w B W.ps[k].1 W.ps[k].2
  lens : W.code.length ≤ W.cC ∧ W.ps.length ≤ W.rC ∧ W.queue.length ≤ W.qC
  szs : W.code.length ≤ 140737488355328 ∧ W.ps.length ≤ 140737488355328
theorem RW.below {w w' : World} {B : Nat} {W : Wm} (h : RW w B W) (hb : Below w.heap.size w w') (hB : B ≤ w.heap.size) : RW w' B W :=
  ⟨fun k hk => by
    obtain ⟨g, e, hg, hc⟩ := h.code k hk
    exact ⟨g, e, hg, hc.below (hb.mono hB) hg⟩, fun k hk => by
    obtain ⟨g, e, hg, hc⟩ := h.runs k hk
    exact ⟨g, e, hg, hc.below (hb.mono hB) hg⟩, h.queue.below' hb hB, fun k hk => (h.each k hk).below hb hB, h.lens, h.szs⟩
end Go.Proofs.Ytmidnaafljgbiaa
