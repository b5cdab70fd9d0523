/- Parts of the proof, in one text. -/
import Derived.Test.YtomolbhcggaakaaGreatH06
import Derived.Test.YtomolbhcggaakaaGreatH08
import Derived.Test.YtomolbhcggaakaaGreatH14
/- Worlds in plain words: when one is ok, by either text. No Go and no memory here. -/
namespace Go.Proofs.YtomolbhcggaakaaGreat

def getR (l : List Rn) (id : Int) : Rn := l.getD (id - 1).toNat Rn.zero
def opAt (c : List Opx) (i : Int) : Opx := c.getD i.toNat default
/-- Is there such a run, which did not end? -/
def aliveIn (l : List Rn) (id : Int) : Bool := inB id 1 l.length && !((getR l id).state == 3)
def waitsOk (w : Wd) (r : Rn) : Bool :=
  let o := opAt w.code r.at_
  ((o.k == 7 && r.due == 0) || (o.k == 8 && decide (w.now < r.due))) && (firstIx r.mail o.s).isNone
def needOk (f : List Int) (r : Rn) : Bool := decide (0 ≤ getI f r.at_) && both (getI f r.at_) r.full == getI f r.at_
def runFits (w : Wd) (f : List Int) (i : Nat) (r : Rn) : Bool :=
  runOk r && r.id == (i : Int) + 1 && decide (r.at_ < w.code.length) && (w.queue.contains r.id == (r.state == 1)) && (!(r.state == 2) || waitsOk w r) && ((r.state == 3) || (r.links.all (aliveIn w.runs) && r.watched.all (aliveIn w.runs) && needOk f r))
def fitsFrom (w : Wd) (f : List Int) : Nat → List Rn → Bool
  | _, [] => true
  | i, r :: l => runFits w f i r && fitsFrom w f (i + 1) l
def waits (l : List Rn) : Int := match l with | [] => 0 | r :: l => (r.mail.length : Int) + waits l
/-- Is the run at place a linked both ways with those ahead of it? -/
def linkedWith (l : List Rn) (a b : Nat) : Bool := ((l.getD a Rn.zero).links.contains ((b : Int) + 1)) == ((l.getD b Rn.zero).links.contains ((a : Int) + 1))
def linkedAll (l : List Rn) : Bool := (List.range l.length).all fun a => (List.range a).all fun b => linkedWith l a b
def worldOk (w : Wd) : Bool :=
  codeSafe w.code && inB w.runs.length 1 6 && inB w.now 0 300 && inB w.sent 0 9999 && inB w.taken 0 9999 && inB w.lost 0 9999 && idsOk w.queue 0
    && fitsFrom w (fullOf w.code) 0 w.runs && w.queue.all (fun q => decide (q ≤ w.runs.length)) && linkedAll w.runs && w.sent == w.taken + w.lost + waits w.runs

/-! ### The other text's way -/
def runFitsI (w : Wd) (f : List Int) (r : Rn) : Bool :=
  runOk r && decide (r.at_ < w.code.length) && (!(r.state == 2) || waitsOk w r) && ((r.state == 3) || (r.links.all (aliveIn w.runs) && r.watched.all (aliveIn w.runs) && needOk f r))
def fitsFromI (w : Wd) (f : List Int) : Nat → List Rn → Bool
  | _, [] => true
  | i, r :: l => r.id == (i : Int) + 1 && runFitsI w f r && (!(r.state == 1) || w.queue.contains r.id) && r.links.all (fun x => (getR w.runs x).links.contains r.id) && fitsFromI w f (i + 1) l
def going (l : List Rn) : Int := match l with | [] => 0 | r :: l => (if r.state == 1 then 1 else 0) + going l
def worldOkI (w : Wd) : Bool :=
  codeSafe w.code && inB w.runs.length 1 6 && inB w.now 0 300 && inB w.sent 0 9999 && inB w.taken 0 9999 && inB w.lost 0 9999 && w.sent == w.taken + w.lost + waits w.runs
    && fitsFromI w (fullOf w.code) 0 w.runs && (w.queue.length : Int) == going w.runs

/-! ### What they come to -/
theorem fitsFrom_iff {w : Wd} {f : List Int} : ∀ {l : List Rn} {i : Nat}, fitsFrom w f i l = true ↔ ∀ k (hk : k < l.length), runFits w f (i + k) l[k] = true := by
  intro l
  induction l with
  | nil => intro i; simp [fitsFrom]
  | cons r l ih =>
    intro i
    simp only [fitsFrom, Bool.and_eq_true, ih]
    constructor
    · rintro ⟨h0, h1⟩ k hk
      cases k with
      | zero => simpa using h0
      | succ k => have := h1 k (by simpa using hk); simpa [Nat.add_assoc, Nat.add_comm 1 k] using this
    · intro h
      refine ⟨h 0 (Nat.zero_lt_succ _), fun k hk => ?_⟩
      have := h (k + 1) (by simpa using hk)
      simpa [Nat.add_assoc, Nat.add_comm 1 k] using this
theorem fitsFromI_iff {w : Wd} {f : List Int} : ∀ {l : List Rn} {i : Nat}, fitsFromI w f i l = true ↔ ∀ k (hk : k < l.length), (l[k]).id = ((i + k : Nat) : Int) + 1 ∧ runFitsI w f l[k] = true ∧ ((l[k]).state = 1 → (l[k]).id ∈ w.queue) ∧ ∀ x ∈ (l[k]).links, (l[k]).id ∈ (getR w.runs x).links := by
  intro l
  induction l with
  | nil => intro i; simp [fitsFromI]
  | cons r l ih =>
    intro i
    simp only [fitsFromI, Bool.and_eq_true, ih, beq_iff_eq, Bool.or_eq_true, Bool.not_eq_true', beq_eq_false_iff_ne, List.all_eq_true, List.contains_iff_mem]
    constructor
    · rintro ⟨⟨⟨⟨h1, h2⟩, h3⟩, h4⟩, h5⟩ k hk
      cases k with
      | zero => exact ⟨by simpa using h1, h2, fun hs => h3.resolve_left (fun hn => hn hs), h4⟩
      | succ k => have := h5 k (by simpa using hk); simpa [Nat.add_assoc, Nat.add_comm 1 k] using this
    · intro h
      obtain ⟨h1, h2, h3, h4⟩ := h 0 (by simp)
      refine ⟨⟨⟨⟨by simpa using h1, h2⟩, ?_⟩, h4⟩, fun k hk => ?_⟩
      · by_cases hs : r.state = 1
        · exact .inr (h3 hs)
        · exact .inl hs
      · have := h (k + 1) (by simpa using hk)
        simpa [Nat.add_assoc, Nat.add_comm 1 k] using this
theorem idsFrom_iff {own : Int} : ∀ {l pre : List Int}, idsFrom own pre l = true ↔ (∀ x ∈ l, 1 ≤ x ∧ x ≤ 6 ∧ x ≠ own ∧ x ∉ pre) ∧ l.Nodup := by
  intro l
  induction l with
  | nil => intro pre; simp [idsFrom]
  | cons y l ih =>
    intro pre
    simp only [idsFrom, Bool.and_eq_true, ih, inB_iff, Bool.not_eq_true', beq_eq_false_iff_ne, List.nodup_cons]
    simp only [← Bool.not_eq_true, List.contains_iff_mem, List.mem_append, List.mem_cons, forall_eq_or_imp]
    constructor
    · rintro ⟨⟨⟨h1, h2⟩, h3⟩, h4, h5⟩
      refine ⟨⟨⟨h1.1, h1.2, h2, h3⟩, fun x hx => ?_⟩, fun hy => ?_, h5⟩
      · obtain ⟨a, b, c, d⟩ := h4 x hx
        exact ⟨a, b, c, fun hp => d (.inl hp)⟩
      · exact (h4 y hy).2.2.2 (.inr (.inl rfl))
    · rintro ⟨⟨⟨h1, h1', h2, h3⟩, h4⟩, h5, h6⟩
      refine ⟨⟨⟨⟨h1, h1'⟩, h2⟩, h3⟩, fun x hx => ?_, h6⟩
      obtain ⟨a, b, c, d⟩ := h4 x hx
      refine ⟨a, b, c, fun hp => hp.elim d (fun e => ?_)⟩
      rcases e with rfl | e
      · exact h5 hx
      · simp at e
theorem idsOk_iff {l : List Int} {own : Int} : idsOk l own = true ↔ (∀ x ∈ l, 1 ≤ x ∧ x ≤ 6 ∧ x ≠ own) ∧ l.Nodup := by
  unfold idsOk
  rw [idsFrom_iff]
  simp
theorem aliveIn_iff {l : List Rn} {x : Int} : aliveIn l x = true ↔ (1 ≤ x ∧ x ≤ l.length) ∧ (getR l x).state ≠ 3 := by
  simp [aliveIn, inB]

/-- The runs that go, by their numbers. -/
def goers (l : List Rn) : List Int := (l.filter (fun r => r.state == 1)).map (·.id)
theorem goers_length (l : List Rn) : ((goers l).length : Int) = going l := by
  induction l with
  | nil => rfl
  | cons r l ih =>
    unfold goers at ih ⊢
    rw [List.filter_cons]
    by_cases h : r.state = 1
    · simp only [h, beq_self_eq_true, if_true, List.map_cons, List.length_cons, going]
      omega
    · simp only [going, show (r.state == 1) = false by simpa using h, if_false, Bool.false_eq_true]
      omega

theorem mem_getR {l : List Rn} {x : Int} (h1 : 1 ≤ x) (h2 : x ≤ l.length) : getR l x = l[(x - 1).toNat]'(by omega) := by
  unfold getR
  rw [List.getD_eq_getElem?_getD, List.getElem?_eq_getElem (by omega)]
  rfl
theorem getD_eq {l : List Rn} {a : Nat} (h : a < l.length) : l.getD a Rn.zero = l[a] := by
  rw [List.getD_eq_getElem?_getD, List.getElem?_eq_getElem h]
  rfl

/-- Two lists without doubles, one in the other, and as long. -/
theorem same_of_length {a b : List Int} (ha : a.Nodup) (hs : ∀ x ∈ a, x ∈ b) (hl : b.length ≤ a.length) : b.Nodup ∧ ∀ x ∈ b, x ∈ a := by
  induction a generalizing b with
  | nil =>
    have : b = [] := List.eq_nil_of_length_eq_zero (by simpa using hl)
    subst this
    simp
  | cons x a ih =>
    have hx := hs x List.mem_cons_self
    have hlen : (b.erase x).length + 1 = b.length := by
      rw [List.length_erase_of_mem hx]
      have : 0 < b.length := List.length_pos_of_mem hx
      omega
    rw [List.nodup_cons] at ha
    obtain ⟨h1, h2⟩ := ih (b := b.erase x) ha.2 (fun y hy => (List.mem_erase_of_ne (fun e => ha.1 (by rw [← e]; exact hy))).2 (hs y (List.mem_cons_of_mem _ hy))) (by simp only [List.length_cons] at hl; omega)
    have hp : b.Perm (x :: b.erase x) := List.perm_cons_erase hx
    refine ⟨hp.nodup_iff.2 (List.nodup_cons.2 ⟨fun hm => ha.1 (h2 x hm), h1⟩), fun y hy => ?_⟩
    rcases List.mem_cons.1 (hp.mem_iff.1 hy) with e | hy
    · exact e ▸ List.mem_cons_self
    · exact List.mem_cons_of_mem _ (h2 y hy)
theorem length_of_sub {a b : List Int} (ha : a.Nodup) (hs : ∀ x ∈ a, x ∈ b) : a.length ≤ b.length := by
  induction a generalizing b with
  | nil => simp
  | cons x a ih =>
    have hx := hs x List.mem_cons_self
    rw [List.nodup_cons] at ha
    have := ih (b := b.erase x) ha.2 (fun y hy => (List.mem_erase_of_ne (fun e => ha.1 (by rw [← e]; exact hy))).2 (hs y (List.mem_cons_of_mem _ hy)))
    rw [List.length_erase_of_mem hx] at this
    have : 0 < b.length := List.length_pos_of_mem hx
    simp only [List.length_cons]
    omega

theorem linkedAll_iff {l : List Rn} : linkedAll l = true ↔ ∀ a (ha : a < l.length) b (hb : b < l.length), ((b : Int) + 1 ∈ (l[a]).links ↔ (a : Int) + 1 ∈ (l[b]).links) := by
  have one : ∀ a (ha : a < l.length) b (hb : b < l.length), linkedWith l a b = true ↔ ((b : Int) + 1 ∈ (l[a]).links ↔ (a : Int) + 1 ∈ (l[b]).links) := by
    intro a ha b hb
    unfold linkedWith
    rw [getD_eq ha, getD_eq hb, beq_iff_eq, Bool.eq_iff_iff, List.contains_iff_mem, List.contains_iff_mem]
  unfold linkedAll
  simp only [List.all_eq_true, List.mem_range]
  constructor
  · intro h a ha b hb
    rcases Nat.lt_trichotomy a b with hl | rfl | hl
    · exact ((one b hb a ha).1 (h b hb a hl)).symm
    · exact Iff.rfl
    · exact (one a ha b hb).1 (h a ha b hl)
  · intro h a ha b hb
    exact (one a ha b (by omega)).2 (h a ha b (by omega))

theorem runFitsI_alive {w : Wd} {f : List Int} {r : Rn} (h : runFitsI w f r = true) : ∀ x ∈ r.links, aliveIn w.runs x = true := by
  simp only [runFitsI, Bool.and_eq_true, Bool.or_eq_true, List.all_eq_true, beq_iff_eq] at h
  obtain ⟨⟨⟨h1, _⟩, _⟩, h4⟩ := h
  intro x hx
  rcases h4 with h4 | h4
  · obtain ⟨_, _, _, _, _, _, _, _, _, _, _, _, _, k, _⟩ := runOk_parts h1
    rw [(k h4).2.1] at hx
    simp at hx
  · exact h4.1.1 x hx

theorem worldOkI_eq (w : Wd) : worldOkI w = worldOk w := by
  rw [Bool.eq_iff_iff]
  constructor
  · intro h
    simp only [worldOkI, Bool.and_eq_true, beq_iff_eq, fitsFromI_iff, Nat.zero_add] at h
    obtain ⟨⟨⟨⟨⟨⟨⟨⟨h1, h2⟩, h3⟩, h4⟩, h5⟩, h6⟩, h7⟩, h8⟩, h9⟩ := h
    have hid : ∀ k (hk : k < w.runs.length), (w.runs[k]).id = (k : Int) + 1 := fun k hk => (h8 k hk).1
    have hlen := inB_iff.1 h2
    -- the queue is those that go
    have hnd : (goers w.runs).Nodup := by
      unfold goers
      rw [List.nodup_iff_pairwise_ne, List.pairwise_map]
      refine List.Pairwise.filter _ ?_
      rw [List.pairwise_iff_getElem]
      intro i j hi hj hij
      rw [hid i hi, hid j hj]
      omega
    have hsub : ∀ x ∈ goers w.runs, x ∈ w.queue := by
      intro x hx
      unfold goers at hx
      rw [List.mem_map] at hx
      obtain ⟨r, hr, rfl⟩ := hx
      rw [List.mem_filter] at hr
      obtain ⟨k, hk, rfl⟩ := List.getElem_of_mem hr.1
      exact (h8 k hk).2.2.1 (by simpa using hr.2)
    have hle : w.queue.length ≤ (goers w.runs).length := by have := goers_length w.runs; omega
    obtain ⟨q1, q2⟩ := same_of_length hnd hsub hle
    have hq : ∀ x ∈ w.queue, ∃ k, ∃ hk : k < w.runs.length, x = (k : Int) + 1 ∧ (w.runs[k]).state = 1 := by
      intro x hx
      have := q2 x hx
      unfold goers at this
      rw [List.mem_map] at this
      obtain ⟨r, hr, rfl⟩ := this
      rw [List.mem_filter] at hr
      obtain ⟨k, hk, rfl⟩ := List.getElem_of_mem hr.1
      exact ⟨k, hk, hid k hk, by simpa using hr.2⟩
    simp only [worldOk, Bool.and_eq_true, beq_iff_eq, fitsFrom_iff, Nat.zero_add, idsOk_iff, linkedAll_iff, List.all_eq_true, decide_eq_true_eq]
    refine ⟨⟨⟨⟨⟨⟨⟨⟨⟨⟨h1, h2⟩, h3⟩, h4⟩, h5⟩, h6⟩, fun x hx => ?_, q1⟩, fun k hk => ?_⟩, fun x hx => ?_⟩, fun a ha b hb => ?_⟩, h7⟩
    · obtain ⟨k, hk, rfl, _⟩ := hq x hx
      omega
    · obtain ⟨e1, e2, e3, e4⟩ := h8 k hk
      simp only [runFitsI, Bool.and_eq_true] at e2
      simp only [runFits, Bool.and_eq_true, beq_iff_eq]
      refine ⟨⟨⟨⟨⟨e2.1.1.1, e1⟩, e2.1.1.2⟩, ?_⟩, e2.1.2⟩, e2.2⟩
      rw [Bool.eq_iff_iff, List.contains_iff_mem, beq_iff_eq]
      refine ⟨fun hm => ?_, e3⟩
      obtain ⟨k', hk', e, hs⟩ := hq _ hm
      have : k = k' := by omega
      subst this
      exact hs
    · obtain ⟨k, hk, rfl, _⟩ := hq x hx
      omega
    · constructor
      · intro hm
        have := (h8 a ha).2.2.2 _ hm
        rw [hid a ha, mem_getR (by omega) (by omega)] at this
        simpa using this
      · intro hm
        have := (h8 b hb).2.2.2 _ hm
        rw [hid b hb, mem_getR (by omega) (by omega)] at this
        simpa using this
  · intro h
    simp only [worldOk, Bool.and_eq_true, beq_iff_eq, fitsFrom_iff, Nat.zero_add, idsOk_iff, linkedAll_iff, List.all_eq_true, decide_eq_true_eq] at h
    obtain ⟨⟨⟨⟨⟨⟨⟨⟨⟨⟨h1, h2⟩, h3⟩, h4⟩, h5⟩, h6⟩, hq1, hq2⟩, h8⟩, h9⟩, h10⟩, h7⟩ := h
    have fit : ∀ k (hk : k < w.runs.length), runOk w.runs[k] = true ∧ (w.runs[k]).id = (k : Int) + 1 ∧ ((w.runs[k]).id ∈ w.queue ↔ (w.runs[k]).state = 1) ∧ runFitsI w (fullOf w.code) w.runs[k] = true := by
      intro k hk
      have e := h8 k hk
      simp only [runFits, Bool.and_eq_true, beq_iff_eq] at e
      obtain ⟨⟨⟨⟨⟨a, b⟩, c⟩, d⟩, e⟩, f⟩ := e
      rw [Bool.eq_iff_iff, List.contains_iff_mem, beq_iff_eq] at d
      refine ⟨a, b, d, ?_⟩
      simp only [runFitsI, Bool.and_eq_true]
      exact ⟨⟨⟨a, c⟩, e⟩, f⟩
    simp only [worldOkI, Bool.and_eq_true, beq_iff_eq, fitsFromI_iff, Nat.zero_add]
    refine ⟨⟨⟨⟨⟨⟨⟨⟨h1, h2⟩, h3⟩, h4⟩, h5⟩, h6⟩, h7⟩, fun k hk => ?_⟩, ?_⟩
    · obtain ⟨a, b, c, d⟩ := fit k hk
      refine ⟨b, d, c.2, fun x hx => ?_⟩
      obtain ⟨⟨x1, x2⟩, _⟩ := aliveIn_iff.1 (runFitsI_alive d x hx)
      have := (h10 k hk (x - 1).toNat (by omega)).1 (by rw [show (((x - 1).toNat : Nat) : Int) + 1 = x by omega]; exact hx)
      rw [mem_getR x1 x2, b]
      exact this
    · rw [← goers_length]
      have hnd : (goers w.runs).Nodup := by
        unfold goers
        rw [List.nodup_iff_pairwise_ne, List.pairwise_map]
        refine List.Pairwise.filter _ ?_
        rw [List.pairwise_iff_getElem]
        intro i j hi hj hij
        rw [(fit i hi).2.1, (fit j hj).2.1]
        omega
      have s1 : ∀ x ∈ goers w.runs, x ∈ w.queue := by
        intro x hx
        unfold goers at hx
        rw [List.mem_map] at hx
        obtain ⟨r, hr, rfl⟩ := hx
        rw [List.mem_filter] at hr
        obtain ⟨k, hk, rfl⟩ := List.getElem_of_mem hr.1
        exact (fit k hk).2.2.1.2 (by simpa using hr.2)
      have s2 : ∀ x ∈ w.queue, x ∈ goers w.runs := by
        intro x hx
        have hb := (hq1 x hx).1
        have hb2 := h9 x hx
        have hk : (x - 1).toNat < w.runs.length := by omega
        obtain ⟨_, b, c, _⟩ := fit (x - 1).toNat hk
        unfold goers
        rw [List.mem_map]
        have e : (w.runs[(x - 1).toNat]).id = x := by rw [b]; omega
        refine ⟨w.runs[(x - 1).toNat], ?_, e⟩
        rw [List.mem_filter]
        refine ⟨List.getElem_mem _, ?_⟩
        rw [beq_iff_eq]
        exact c.1 (by rw [e]; exact hx)
      have l1 := length_of_sub hnd s1
      have l2 := length_of_sub hq2 s2
      omega

end Go.Proofs.YtomolbhcggaakaaGreat
/- A world that is read: what its readers may ask. Whether two runs are linked both ways. -/
namespace Go.Proofs.YtomolbhcggaakaaGreat
open Go.RowKit
set_option maxRecDepth 100000

/-- The cells of a run at a place. -/
def RunAt (w : World) (g o : Nat) (r : Rn) (a : RA) : Prop :=
  w.cell? ⟨g, o, none⟩ = some (.int .i64 r.id) ∧ w.cell? ⟨g, o + 1, none⟩ = some (.int .i64 r.at_) ∧ w.cell? ⟨g, o + 2, none⟩ = some (.slice a.sA r.slots.length a.sC) ∧ w.cell? ⟨g, o + 3, none⟩ = some (.int .i64 r.full) ∧
  w.cell? ⟨g, o + 4, none⟩ = some (.slice a.mA r.mail.length a.mC) ∧ w.cell? ⟨g, o + 5, none⟩ = some (.int .i64 r.state) ∧ w.cell? ⟨g, o + 6, none⟩ = some (.int .i64 r.due) ∧ w.cell? ⟨g, o + 7, none⟩ = some (.slice a.lA r.links.length a.lC) ∧
  w.cell? ⟨g, o + 8, none⟩ = some (.slice a.wA r.watched.length a.wC) ∧ w.cell? ⟨g, o + 9, none⟩ = some (.bool r.trap) ∧ w.cell? ⟨g, o + 10, none⟩ = some (.int .i64 r.why.k) ∧ w.cell? ⟨g, o + 11, none⟩ = some (.int .i64 r.why.n) ∧ w.cell? ⟨g, o + 12, none⟩ = some (.int .i64 r.turns)
def OpAt (w : World) (g o : Nat) (x : Opx) : Prop :=
  w.cell? ⟨g, o, none⟩ = some (.int .i64 x.k) ∧ w.cell? ⟨g, o + 1, none⟩ = some (.int .i64 x.r) ∧ w.cell? ⟨g, o + 2, none⟩ = some (.int .i64 x.s) ∧ w.cell? ⟨g, o + 3, none⟩ = some (.int .i64 x.to) ∧ w.cell? ⟨g, o + 4, none⟩ = some (.int .i64 x.v.k) ∧ w.cell? ⟨g, o + 5, none⟩ = some (.int .i64 x.v.n)
theorem RunAt.below {w w' : World} {g o : Nat} {r : Rn} {a : RA} {B : Nat} (h : RunAt w g o r a) (hb : Below B w w') (hg : g < B) : RunAt w' g o r a := by
  unfold RunAt at h ⊢
  simp only [hb.cell (p := ⟨g, _, none⟩) hg]
  exact h
theorem OpAt.below {w w' : World} {g o : Nat} {x : Opx} {B : Nat} (h : OpAt w g o x) (hb : Below B w w') (hg : g < B) : OpAt w' g o x := by
  unfold OpAt at h ⊢
  simp only [hb.cell (p := ⟨g, _, none⟩) hg]
  exact h
structure RW (w : World) (B : Nat) (W : Wm) : Prop where
  code : ∀ k (hk : k < W.code.length), ∃ g, W.cA = some ⟨g, 0, none⟩ ∧ g < B ∧ OpAt w g (k * 6) W.code[k]
  runs : ∀ k (hk : k < W.ps.length), ∃ g, W.rA = some ⟨g, 0, none⟩ ∧ g < B ∧ RunAt w g (k * 13) W.ps[k].1 W.ps[k].2
  queue : ReadsI w B W.qA W.queue.length W.queue
  each : ∀ k (hk : k < W.ps.length), ReadsRun w B W.ps[k].1 W.ps[k].2
  lens : W.code.length ≤ W.cC ∧ W.ps.length ≤ W.rC ∧ W.queue.length ≤ W.qC
  szs : W.code.length ≤ 140737488355328 ∧ W.ps.length ≤ 140737488355328
theorem RW.below {w w' : World} {B : Nat} {W : Wm} (h : RW w B W) (hb : Below w.heap.size w w') (hB : B ≤ w.heap.size) : RW w' B W :=
  ⟨fun k hk => by
    obtain ⟨g, e, hg, hc⟩ := h.code k hk
    exact ⟨g, e, hg, hc.below (hb.mono hB) hg⟩, fun k hk => by
    obtain ⟨g, e, hg, hc⟩ := h.runs k hk
    exact ⟨g, e, hg, hc.below (hb.mono hB) hg⟩, h.queue.below' hb hB, fun k hk => (h.each k hk).below hb hB, h.lens, h.szs⟩
theorem rws_reads {w : World} {ps : List (Rn × RA)} (h : (rws ps).P w) {k : Nat} (hk : k < ps.length) : ReadsRun w w.heap.size ps[k].1 ps[k].2 ∧ (ps[k].2.sA = none → ps[k].2.sC = 0) ∧ (ps[k].2.mA = none → ps[k].2.mC = 0) ∧ (ps[k].2.lA = none → ps[k].2.lC = 0) ∧ (ps[k].2.wA = none → ps[k].2.wC = 0) :=
  runA_reads (h (runA ps[k].1 ps[k].2) (List.mem_map.2 ⟨ps[k], List.getElem_mem hk, rfl⟩))
theorem elemR {w0 w : World} {f : List Nat} {L L' : List Asn} {g k c : Nat} {xs : List (Rn × RA)} (M : Mem w0 f w L) (hd : Del (rowR (some ⟨g, 0, none⟩) c xs) L L') (hlt : k < xs.length) : RunAt w g (k * 13) xs[k].1 xs[k].2 := by
  have h := (row_elem encR_length M hd hlt).2.1
  exact ⟨h 0 (by decide), h 1 (by decide), h 2 (by decide), h 3 (by decide), h 4 (by decide), h 5 (by decide), h 6 (by decide), h 7 (by decide), h 8 (by decide), h 9 (by decide), h 10 (by decide), h 11 (by decide), h 12 (by decide)⟩
theorem Mem.rw_ {w0 w : World} {f : List Nat} {L : List Asn} {W : Wm} (M : Mem w0 f w (rowO W.cA W.cC W.code :: rowR W.rA W.rC W.ps :: rowI W.qA W.qC W.queue :: rws W.ps :: L)) : RW w w.heap.size W := by
  refine ⟨fun k hk => ?_, fun k hk => ?_, readsI M (.there (.there .here)), fun k hk => (rws_reads (M.is (.there (.there (.there .here)))) hk).1, ⟨(row_reads M .here).2.1, (row_reads M (.there .here)).2.1, (row_reads M (.there (.there .here))).2.1⟩, (row_reads M .here).1.2.1, (row_reads M (.there .here)).1.2.1⟩
  · obtain ⟨g, e⟩ := row_form M .here (by omega)
    rw [e] at M
    exact ⟨g, e, (row_elem encO_length M .here hk).1, elemO0 M .here hk⟩
  · obtain ⟨g, e⟩ := row_form M (.there .here) (by omega)
    rw [e] at M
    exact ⟨g, e, (row_elem encR_length M (.there .here) hk).1, elemR M (.there .here) hk⟩

set_option maxHeartbeats 2000000 in
theorem sLinked (W : Wm) (a b : Nat) (ha : a < W.ps.length) (hb : b < W.ps.length) (B : Nat) (w : World) (h : RW w B W) (hB : B ≤ w.heap.size) (hl : W.ps.length ≤ 1000) :
    Calls Tryz.prog 49 #[.agg (wArr W), .int .i64 (a : Int), .int .i64 (b : Int)] w fun e w' => e = .returned (.bool (inL W.ps[a].1.links ((b : Int) + 1) == inL W.ps[b].1.links ((a : Int) + 1))) ∧ Below w.heap.size w w' := by
  obtain ⟨g, hA, hg, ca⟩ := h.runs a ha
  obtain ⟨g', hA', _, cb⟩ := h.runs b hb
  obtain rfl : g = g' := by rw [hA] at hA'; injection hA' with e; injection e
  have RA1 := Lib.hid (fun V (hv : Below w.heap.size w V) => (ca.below (hv.mono hB) hg).2.2.2.2.2.2.2.1)
  have RB1 := Lib.hid (fun V (hv : Below w.heap.size w V) => (cb.below (hv.mono hB) hg).2.2.2.2.2.2.2.1)
  have HA := Lib.hid (fun V n (hv : Below w.heap.size w V) => quiet_eq (sAmong W.ps[a].1.links ((b : Int) + 1) W.ps[a].2.lA W.ps[a].2.lC B (V.drewN n) (((h.each a ha).links.below' hv hB).drewN n)))
  have HB := Lib.hid (fun V n (hv : Below w.heap.size w V) => quiet_eq (sAmong W.ps[b].1.links ((a : Int) + 1) W.ps[b].2.lA W.ps[b].2.lC B (V.drewN n) (((h.each b hb).links.below' hv hB).drewN n)))
  clear h ca cb
  obtain ⟨code, cA, cC, ps, rA, rC, queue, qA, qC, now, sent, taken, lost⟩ := W
  simp only at *
  subst hA
  generalize ps[a] = p at RA1 HA ⊢
  generalize ps[b] = q at RB1 HB ⊢
  obtain ⟨p, pa⟩ := p
  obtain ⟨q, qa⟩ := q
  simp only at *
  generalize inL p.links ((b : Int) + 1) = x at HA ⊢
  generalize inL q.links ((a : Int) + 1) = y at HB ⊢
  have M := Mem.nil w
  have AL := add_lit0
  have i1 : (0 : Int) ≤ a := by omega
  have i2 : (a : Int) < ps.length := by omega
  have i3 : (0 : Int) ≤ b := by omega
  have i4 : (b : Int) < ps.length := by omega
  have w1 : IntKind.i64.wrap ((a : Int) + 1) = (a : Int) + 1 := by rw [IntKind.wrap_i64]; omega
  have w2 : IntKind.i64.wrap ((b : Int) + 1) = (b : Int) + 1 := by rw [IntKind.wrap_i64]; omega
  clear hl hB hg
  go_enter Tryz.func49, Tryz.ntmps49
  go_wp2
  (refine nmw (G := fun W => Code.wp _ _ _ _ W) ?_; clear M; (try clear F); intro w1 M F)
  have E1 := RA1.out _ M.toBelow
  have E2 := RB1.out _ M.toBelow
  go_quiet ((first | (go_at_call 74; with_reducible exact HA.out _ _ M.toBelow) | (go_at_call 74; with_reducible exact HB.out _ _ M.toBelow)))
  go_wp2
  go_ret
  exact ⟨rfl, below_drewN M.toBelow _⟩
end Go.Proofs.YtomolbhcggaakaaGreat
/- Whether a run that waits waits for what is not there. -/
namespace Go.Proofs.YtomolbhcggaakaaGreat
open Go.RowKit
set_option maxRecDepth 100000

theorem idxP_none {α : Type} (p : α → Bool) (l : List α) : decide (idxP p l < 0) = (l.findIdx? p).isNone := by
  unfold idxP
  cases l.findIdx? p with
  | none => rfl
  | some i => simp
theorem waitsOk_eq {w : Wd} {r : Rn} {o : Opx} (ho : opAt w.code r.at_ = o) : waitsOk w r = (((o.k == 7 && r.due == 0) || (o.k == 8 && decide (w.now < r.due))) && decide (idxP (fits · o.s) r.mail < 0)) := by
  unfold waitsOk firstIx
  rw [ho, idxP_none]
theorem opAt_nat {c : List Opx} {k : Nat} (hk : k < c.length) : opAt c k = c[k] := by
  unfold opAt
  rw [Int.toNat_natCast, List.getD_eq_getElem?_getD, List.getElem?_eq_getElem hk]
  rfl
set_option maxHeartbeats 2000000 in
theorem sWaiting (W : Wm) (r : Rn) (ra : RA) (h0 : 0 ≤ r.at_) (h1 : r.at_ < W.code.length) (B : Nat) (w : World) (h : RW w B W) (hr : ReadsRun w B r ra) (hB : B ≤ w.heap.size) :
    Calls Tryz.prog 91 #[.agg (wArr W), .agg (runArr r ra)] w fun e w' => e = .returned (.bool (waitsOk W.wd r)) ∧ Below w.heap.size w w' := by
  obtain ⟨k, hk⟩ := Int.eq_ofNat_of_zero_le h0
  have hlt : k < W.code.length := by omega
  obtain ⟨g, hA, hg, co⟩ := h.code k hlt
  have ho : opAt W.wd.code r.at_ = W.code[k] := by rw [hk]; exact opAt_nat hlt
  rw [waitsOk_eq ho]
  clear ho
  have RC := Lib.hid (fun V (hv : Below w.heap.size w V) => co.below (hv.mono hB) hg)
  have HF := Lib.hid (fun V (hv : Below w.heap.size w V) => sFirst r ra W.code[k].s B V (hr.below hv hB) (Nat.le_trans hB hv.size))
  have i1 : (0 : Int) ≤ k := by omega
  have i2 : (k : Int) < W.code.length := by omega
  clear h co hr h0 h1
  obtain ⟨code, cA, cC, ps, rA, rC, queue, qA, qC, now, sent, taken, lost⟩ := W
  simp only [Wm.wd] at *
  subst hA
  generalize code[k] = o at RC HF ⊢
  clear hlt
  obtain ⟨kk, rr, s, to, ⟨vk, vn⟩⟩ := o
  obtain ⟨id, at_, slots, full, mail, state, due, links, watched, trap, ⟨wk, wn⟩, turns⟩ := r
  obtain ⟨sA, sC, mA, mC, lA, lC, wA, wC⟩ := ra
  simp only [runArr, OpAt] at *
  subst hk
  generalize idxP (fits · s) mail = ix at HF ⊢
  have M := Mem.nil w
  have AL := add_lit0
  clear hB hg
  cases c7 : (kk == 7) with
  | true =>
    simp only [Bool.true_and]
    have c8 : (kk == 8) = false := by rw [beq_iff_eq] at c7; rw [beq_eq_false_iff_ne]; omega
    cases cd : (due == 0) with
    | true =>
      simp only [Bool.true_or, Bool.true_and]
      go_enter Tryz.func91, Tryz.ntmps91
      go_wp2_with (first
        | ((with_reducible refine alAw M ?_; clear M; (try clear F); intro w1 M F); have E1 := RC.out _ M.toBelow) | (((with_reducible apply ev_store (M := M)); rfl; rfl; ((conv => lhs; whnf) <;> rfl); rfl; (first | exact siI | exact siR | exact siV | exact siB | exact siSI | exact siSV | exact siW | exact siSR | exact siSO | exact siO); (exact one_all rfl); (exact dl); (exact Nat.le_of_ble_eq_true rfl); clear M; intro w1 M; simp only [SX] at M; (try clear F); have F := fxw M); have E1 := RC.out _ M.toBelow)
        | (go_at_call 128; (refine nmKw ?_; clear M; (try clear F); intro w1 M F); refine (HF.out _ M.toBelow).mono ?_; rintro e w2 ⟨rfl, hb⟩; replace M := M.below hb; clear hb; (try clear F); have F := fxw M))
      go_ret
      exact ⟨rfl, M.toBelow⟩
    | false =>
      simp only [c8, Bool.false_or, Bool.false_and]
      go_enter Tryz.func91, Tryz.ntmps91
      go_wp2_with (first
        | ((with_reducible refine alAw M ?_; clear M; (try clear F); intro w1 M F); have E1 := RC.out _ M.toBelow) | (((with_reducible apply ev_store (M := M)); rfl; rfl; ((conv => lhs; whnf) <;> rfl); rfl; (first | exact siI | exact siR | exact siV | exact siB | exact siSI | exact siSV | exact siW | exact siSR | exact siSO | exact siO); (exact one_all rfl); (exact dl); (exact Nat.le_of_ble_eq_true rfl); clear M; intro w1 M; simp only [SX] at M; (try clear F); have F := fxw M); have E1 := RC.out _ M.toBelow)
        | (go_at_call 128; (refine nmKw ?_; clear M; (try clear F); intro w1 M F); refine (HF.out _ M.toBelow).mono ?_; rintro e w2 ⟨rfl, hb⟩; replace M := M.below hb; clear hb; (try clear F); have F := fxw M))
      go_ret
      exact ⟨rfl, M.toBelow⟩
  | false =>
    simp only [Bool.false_and, Bool.false_or]
    cases c8 : (kk == 8) with
    | false =>
      simp only [Bool.false_and]
      go_enter Tryz.func91, Tryz.ntmps91
      go_wp2_with (first
        | ((with_reducible refine alAw M ?_; clear M; (try clear F); intro w1 M F); have E1 := RC.out _ M.toBelow) | (((with_reducible apply ev_store (M := M)); rfl; rfl; ((conv => lhs; whnf) <;> rfl); rfl; (first | exact siI | exact siR | exact siV | exact siB | exact siSI | exact siSV | exact siW | exact siSR | exact siSO | exact siO); (exact one_all rfl); (exact dl); (exact Nat.le_of_ble_eq_true rfl); clear M; intro w1 M; simp only [SX] at M; (try clear F); have F := fxw M); have E1 := RC.out _ M.toBelow)
        | (go_at_call 128; (refine nmKw ?_; clear M; (try clear F); intro w1 M F); refine (HF.out _ M.toBelow).mono ?_; rintro e w2 ⟨rfl, hb⟩; replace M := M.below hb; clear hb; (try clear F); have F := fxw M))
      go_ret
      exact ⟨rfl, M.toBelow⟩
    | true =>
      by_cases cp : now < due
      case neg =>
        have cn : decide (now < due) = false := decide_eq_false cp
        simp only [cp, decide_false, Bool.true_and, Bool.false_and]
        clear cp
        go_enter Tryz.func91, Tryz.ntmps91
        go_wp2_with (first
          | ((with_reducible refine alAw M ?_; clear M; (try clear F); intro w1 M F); have E1 := RC.out _ M.toBelow) | (((with_reducible apply ev_store (M := M)); rfl; rfl; ((conv => lhs; whnf) <;> rfl); rfl; (first | exact siI | exact siR | exact siV | exact siB | exact siSI | exact siSV | exact siW | exact siSR | exact siSO | exact siO); (exact one_all rfl); (exact dl); (exact Nat.le_of_ble_eq_true rfl); clear M; intro w1 M; simp only [SX] at M; (try clear F); have F := fxw M); have E1 := RC.out _ M.toBelow)
          | (go_at_call 128; (refine nmKw ?_; clear M; (try clear F); intro w1 M F); refine (HF.out _ M.toBelow).mono ?_; rintro e w2 ⟨rfl, hb⟩; replace M := M.below hb; clear hb; (try clear F); have F := fxw M))
        go_ret
        exact ⟨rfl, M.toBelow⟩
      case pos =>
        have cn : decide (now < due) = true := decide_eq_true cp
        simp only [cp, decide_true, Bool.true_and]
        clear cp
        go_enter Tryz.func91, Tryz.ntmps91
        go_wp2_with (first
          | ((with_reducible refine alAw M ?_; clear M; (try clear F); intro w1 M F); have E1 := RC.out _ M.toBelow) | (((with_reducible apply ev_store (M := M)); rfl; rfl; ((conv => lhs; whnf) <;> rfl); rfl; (first | exact siI | exact siR | exact siV | exact siB | exact siSI | exact siSV | exact siW | exact siSR | exact siSO | exact siO); (exact one_all rfl); (exact dl); (exact Nat.le_of_ble_eq_true rfl); clear M; intro w1 M; simp only [SX] at M; (try clear F); have F := fxw M); have E1 := RC.out _ M.toBelow)
          | (go_at_call 128; (refine nmKw ?_; clear M; (try clear F); intro w1 M F); refine (HF.out _ M.toBelow).mono ?_; rintro e w2 ⟨rfl, hb⟩; replace M := M.below hb; clear hb; (try clear F); have F := fxw M))
        go_ret
        exact ⟨rfl, M.toBelow⟩
end Go.Proofs.YtomolbhcggaakaaGreat
