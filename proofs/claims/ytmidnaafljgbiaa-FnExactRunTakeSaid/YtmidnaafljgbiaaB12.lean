/- Parts of the proof, in one text. -/
import Derived.Test.YtmidnaafljgbiaaB11
import Derived.Test.YtmidnaafljgbiaaB05
import Derived.Test.YtmidnaafljgbiaaB06
/- The first value of a run's mail that fits, on both sides. -/
namespace Go.Proofs.Ytmidnaafljgbiaa
open Go.RowKit
set_option maxRecDepth 100000

theorem sFits (v : Vl) (kind : Int) (w : World) : Calls Try.prog 109 #[.agg #[.int .i64 v.k, .int .i64 v.n], .int .i64 kind] w fun e w' => e = .returned (.bool (fits v kind)) ∧ Below w.heap.size w w' := by
  obtain ⟨k, n⟩ := v
  unfold fits
  by_cases h : kind = 0
  · have e : (kind == 0 || (⟨k, n⟩ : Vl).k == kind) = true := by simp [h]
    rw [e]
    clear e
    have h' : (kind == 0) = true := by simp [h]
    clear h
    go_enter Try.func109, Try.ntmps109
    go_wp2
    go_ret
    exact ⟨rfl, below_box _ _⟩
  · have e : (kind == 0 || (⟨k, n⟩ : Vl).k == kind) = (k == kind) := by simp [h]
    rw [e]
    clear e
    have h' : (kind == 0) = false := by simp [h]
    clear h
    go_enter Try.func109, Try.ntmps109
    go_wp2
    go_ret
    exact ⟨ret_bool (by simp), below_box _ _⟩
def fitsOk (v : Vl) (kind : Int) : Bool := valOk v && fits v kind
set_option maxHeartbeats 1000000 in
theorem iFits (v : Vl) (kind : Int) (w : World) : Calls Try.prog 37 #[.agg #[.int .i64 v.k, .int .i64 v.n], .int .i64 kind] w fun e w' => e = .returned (.bool (fitsOk v kind)) ∧ Below w.heap.size w w' := by
  obtain ⟨k, n⟩ := v
  have hv := Lib.hid (fun W => iValOk ⟨k, n⟩ W)
  unfold fitsOk fits
  generalize valOk ⟨k, n⟩ = b at hv ⊢
  cases b with
  | false =>
    go_enter Try.func37, Try.ntmps37
    go_wp2_with (go_at_call 79; refine (hv.out _).mono ?_; rintro e w1 ⟨rfl, hb1⟩; have B1 := below_step (below_box _ _) hb1)
    go_ret
    exact ⟨ret_bool (by simp), B1⟩
  | true =>
    by_cases h : kind = 0
    · have e : (true && (kind == 0 || (⟨k, n⟩ : Vl).k == kind)) = true := by simp [h]
      rw [e]
      clear e
      have h' : (kind == 0) = true := by simp [h]
      clear h
      go_enter Try.func37, Try.ntmps37
      go_wp2_with (go_at_call 79; refine (hv.out _).mono ?_; rintro e w1 ⟨rfl, hb1⟩; have B1 := below_step (below_box _ _) hb1; obtain ⟨hc1, hf1⟩ := bcell hb1; have hx1 : w.heap.size < w1.heap.size := (by have := hb1.size; simp at this; omega))
      go_ret
      exact ⟨ret_bool (by simp), B1⟩
    · have e : (true && (kind == 0 || (⟨k, n⟩ : Vl).k == kind)) = (kind == k) := by simp only [Bool.true_and, beq_eq_false_iff_ne.2 h, Bool.false_or]; exact Bool.eq_iff_iff.2 ⟨fun h => by simpa using (beq_iff_eq.1 h).symm, fun h => by simpa using (beq_iff_eq.1 h).symm⟩
      rw [e]
      clear e
      have h' : (kind == 0) = false := by simp [h]
      clear h
      go_enter Try.func37, Try.ntmps37
      go_wp2_with (go_at_call 79; refine (hv.out _).mono ?_; rintro e w1 ⟨rfl, hb1⟩; have B1 := below_step (below_box _ _) hb1; obtain ⟨hc1, hf1⟩ := bcell hb1; have hx1 : w.heap.size < w1.heap.size := (by have := hb1.size; simp at this; omega))
      go_ret
      exact ⟨ret_bool (by simp), B1⟩
theorem iFirst1 (v : Vl) (kind : Int) (g : Nat) (w : World) (hc : w.cell? ⟨g, 0, none⟩ = some (.int .i64 kind)) (hg : g < w.heap.size) : Calls Try.prog 111 #[.agg #[.int .i64 v.k, .int .i64 v.n], .pointer (some ⟨g, 0, none⟩)] w fun e w' => e = .returned (.bool (fitsOk v kind)) ∧ Below w.heap.size w w' := by
  obtain ⟨k, n⟩ := v
  have hv := Lib.hid (fun W => iFits ⟨k, n⟩ kind W)
  generalize fitsOk ⟨k, n⟩ kind = b at hv ⊢
  go_enter Try.func111, Try.ntmps111
  go_wp2_with (go_at_call 37; refine (hv.out _).mono ?_; rintro e w1 ⟨rfl, hb1⟩; have B1 := below_step (below_box _ _) hb1)
  go_ret
  exact ⟨rfl, B1⟩

set_option maxHeartbeats 1000000 in
theorem iFirst (r : Rn) (a : RA) (kind : Int) (B : Nat) (w : World) (hr : ReadsRun w B r a) (hB : B ≤ w.heap.size) : Calls Try.prog 85 #[.agg (runArr r a), .int .i64 kind] w fun e w' => e = .returned (.int .i64 (idxP (fitsOk · kind) r.mail)) ∧ Below w.heap.size w w' := by
  have eg := enters_of Try.func111 (by kernel_rfl) rfl
  have hp : ∀ (W : World) (g : Nat), W.cell? ⟨g, 0, none⟩ = some (.int .i64 kind) → g < W.heap.size → PredV 111 #[.pointer (some ⟨g, 0, none⟩)] (fitsOk · kind) W :=
    fun W g hc hg V x hb => (iFirst1 x kind g V ((hb.cell (p := ⟨g, 0, none⟩) hg).trans hc) (Nat.lt_of_lt_of_le hg hb.size)).mono fun e w' ⟨h1, h2⟩ => ⟨h1, hb.trans (h2.mono hb.size)⟩
  have HC := Lib.hid (fun W (hb : Below w.heap.size w W) g (hc : W.cell? ⟨g, 0, none⟩ = some (.int .i64 kind)) (hg : g < W.heap.size) => iIndexFunc _ _ _ eg r.mail a.mA a.mC B W (hr.mail.below' hb hB) (Nat.le_trans hB hb.size) (hp W g hc hg))
  clear eg hp hr
  generalize idxP (fitsOk · kind) r.mail = ix at HC ⊢
  obtain ⟨id, at_, slots, full, mail, state, due, links, watched, trap, ⟨wk, wn⟩, turns⟩ := r
  obtain ⟨sA, sC, mA, mC, lA, lC, wA, wC⟩ := a
  simp only [runArr] at HC ⊢
  go_enter Try.func85, Try.ntmps85
  go_wp2_with (go_at_call 110; refine (HC.out _ ?p1 _ ?p2 ?p3).mono ?_; (case p1 => exact below_new (below_box _ _) _); (case p2 => simp [go_sem]; done); (case p3 => simp; done); rintro e w1 ⟨rfl, hb1⟩; have B1 := below_step (below_new (below_box _ _) _) hb1)
  go_ret
  exact ⟨rfl, B1⟩

set_option maxHeartbeats 2000000 in
theorem sFirst (r : Rn) (a : RA) (kind : Int) (B : Nat) (w : World) (hr : ReadsRun w B r a) (hB : B ≤ w.heap.size) : Calls Try.prog 84 #[.agg (runArr r a), .int .i64 kind] w fun e w' => e = .returned (.int .i64 (idxP (fits · kind) r.mail)) ∧ Below w.heap.size w w' := by
  have hm := hr.mail
  have hm2 := hm.2.1
  clear hr
  have HX := Lib.hid (rfl : idxP (fits · kind) r.mail = idxP (fits · kind) r.mail)
  obtain ⟨id, at_, slots, full, mail, state, due, links, watched, trap, ⟨wk, wn⟩, turns⟩ := r
  obtain ⟨sA, sC, mA, mC, lA, lC, wA, wC⟩ := a
  simp only [runArr] at hm hm2 ⊢
  go_enter Try.func84, Try.ntmps84
  go_wp2_with (first
    | ((with_reducible refine gate_dst (N := 2) rfl ?_); refine box_ev ?hg (N := 2) ?hd (cs := #[.int .i64 id, .int .i64 at_, .slice sA slots.length sC, .int .i64 full, .slice mA mail.length mC, .int .i64 state, .int .i64 due, .slice lA links.length lC, .slice wA watched.length wC, .bool trap, .int .i64 wk, .int .i64 wn, .int .i64 turns]) (t := 32) ?hr ?_; (case hd => rfl); (case hg => rfl); (case hr => first | (go_simp; done) | (go_simp; rfl)); intro g w1 hg hbox hW; obtain ⟨hgl, hcell⟩ := hbox))
  go_loopg [5] mail.length (fun gg s5 wr => ∃ k : Nat, k ≤ mail.length ∧ mail.length - k ≤ gg ∧ s5 = .int .i64 k ∧ Hid (Below w1.heap.size w1 wr) ∧ Hid (∀ j (hj : j < mail.length), j < k → fits mail[j] kind = false))
  case atStart => exact ⟨0, Nat.zero_le _, by omega, rfl, Below.refl _ _, fun j _ h => absurd h (by omega)⟩
  case round =>
    obtain ⟨k, hk, hgg, rfl, BW, hn⟩ := hrel
    have hcell1 := keepB BW.out hgl hcell
    have hgr : g < wr.heap.size := Nat.lt_of_lt_of_le hgl BW.out.size
    by_cases hlt : k < mail.length
    · have hlk : Hid (fits mail[k] kind = true → idxP (fits · kind) mail = k) := fun h1 => idxP_hit hlt h1 (fun j hj => hn j (by omega) hj)
      have hl2 : Hid (fits mail[k] kind = false → ∀ j (hj : j < mail.length), j < k + 1 → fits mail[j] kind = false) := fun h1 j hj hjk => by
        by_cases e : j = k
        · subst e; exact h1
        · exact hn j hj (by omega)
      obtain ⟨ad, rfl, hab, hc1, hc2⟩ := ((hm.below' hW hB).below' BW.out (Nat.le_trans hB hW.size)).val hlt
      generalize mail[k] = x at hlk hl2 hc1 hc2
      obtain ⟨xk, xn⟩ := x
      have hcall := Lib.hid (fun W => sFits ⟨xk, xn⟩ kind W)
      generalize fits ⟨xk, xn⟩ kind = q at hcall hlk hl2
      cases q with
      | true =>
        go_wp2_with (go_at_call 109; refine (hcall.out _).mono ?_; rintro e w2 ⟨rfl, hb2⟩)
        go_ret
        exact ⟨ret_int (hlk.out (by trivial)).symm, below_step (below_step hW BW.out) hb2⟩
      | false =>
        go_wp2_with (go_at_call 109; refine (hcall.out _).mono ?_; rintro e w2 ⟨rfl, hb2⟩)
        go_roundg (mail.length - (k + 1))
        case measure => omega
        case rel => exact ⟨k + 1, by omega, by omega, by go_num, below_step BW.out hb2, hl2.out (by trivial)⟩
    · have hkl : k = mail.length := by omega
      subst hkl
      go_wp2
      go_ret
      exact ⟨ret_int (idxP_miss (fun j hj => hn.out j hj hj)).symm, below_step hW BW.out⟩
end Go.Proofs.Ytmidnaafljgbiaa
/- Worlds in plain words: when one is ok, by either text. No Go and no memory here. -/
namespace Go.Proofs.Ytmidnaafljgbiaa

def getR (l : List Rn) (id : Int) : Rn := l.getD (id - 1).toNat Rn.zero
def opAt (c : List Opx) (i : Int) : Opx := c.getD i.toNat default
/-- Is there such a run, which did not end? -/
def aliveIn (l : List Rn) (id : Int) : Bool := inB id 1 l.length && !((getR l id).state == 3)
def waitsOk (w : Wd) (r : Rn) : Bool :=
  let o := opAt w.code r.at_
  ((o.k == 7 && r.due == 0) || (o.k == 8 && decide (w.now < r.due))) && (firstIx r.mail o.s).isNone
def needOk (f : List Int) (r : Rn) : Bool := decide (0 ≤ getI f r.at_) && both (getI f r.at_) r.full == getI f r.at_
def runFits (w : Wd) (f : List Int) (i : Nat) (r : Rn) : Bool :=
  runOk r && r.id == (i : Int) + 1 && decide (r.at_ < w.code.length) && (w.queue.contains r.id == (r.state == 1)) && (!(r.state == 2) || waitsOk w r) && ((r.state == 3) || (r.links.all (aliveIn w.runs) && r.watched.all (aliveIn w.runs) && needOk f r))
def fitsFrom (w : Wd) (f : List Int) : Nat → List Rn → Bool
  | _, [] => true
  | i, r :: l => runFits w f i r && fitsFrom w f (i + 1) l
def waits (l : List Rn) : Int := match l with | [] => 0 | r :: l => (r.mail.length : Int) + waits l
/-- Is the run at place a linked both ways with those ahead of it? -/
def linkedWith (l : List Rn) (a b : Nat) : Bool := ((l.getD a Rn.zero).links.contains ((b : Int) + 1)) == ((l.getD b Rn.zero).links.contains ((a : Int) + 1))
def linkedAll (l : List Rn) : Bool := (List.range l.length).all fun a => (List.range a).all fun b => linkedWith l a b
def worldOk (w : Wd) : Bool :=
  codeSafe w.code && inB w.runs.length 1 6 && inB w.now 0 300 && inB w.sent 0 9999 && inB w.taken 0 9999 && inB w.lost 0 9999 && idsOk w.queue 0
    && fitsFrom w (fullOf w.code) 0 w.runs && w.queue.all (fun q => decide (q ≤ w.runs.length)) && linkedAll w.runs && w.sent == w.taken + w.lost + waits w.runs

/-! ### The other text's way -/
/-! ### What they come to -/
theorem fitsFrom_iff {w : Wd} {f : List Int} : ∀ {l : List Rn} {i : Nat}, fitsFrom w f i l = true ↔ ∀ k (hk : k < l.length), runFits w f (i + k) l[k] = true := by
  intro l
  induction l with
  | nil => intro i; simp [fitsFrom]
  | cons r l ih =>
    intro i
    simp only [fitsFrom, Bool.and_eq_true, ih]
    constructor
    · rintro ⟨h0, h1⟩ k hk
      cases k with
      | zero => simpa using h0
      | succ k => have := h1 k (by simpa using hk); simpa [Nat.add_assoc, Nat.add_comm 1 k] using this
    · intro h
      refine ⟨h 0 (Nat.zero_lt_succ _), fun k hk => ?_⟩
      have := h (k + 1) (by simpa using hk)
      simpa [Nat.add_assoc, Nat.add_comm 1 k] using this
theorem idsFrom_iff {own : Int} : ∀ {l pre : List Int}, idsFrom own pre l = true ↔ (∀ x ∈ l, 1 ≤ x ∧ x ≤ 6 ∧ x ≠ own ∧ x ∉ pre) ∧ l.Nodup := by
  intro l
  induction l with
  | nil => intro pre; simp [idsFrom]
  | cons y l ih =>
    intro pre
    simp only [idsFrom, Bool.and_eq_true, ih, inB_iff, Bool.not_eq_true', beq_eq_false_iff_ne, List.nodup_cons]
    simp only [← Bool.not_eq_true, List.contains_iff_mem, List.mem_append, List.mem_cons, forall_eq_or_imp]
    constructor
    · rintro ⟨⟨⟨h1, h2⟩, h3⟩, h4, h5⟩
      refine ⟨⟨⟨h1.1, h1.2, h2, h3⟩, fun x hx => ?_⟩, fun hy => ?_, h5⟩
      · obtain ⟨a, b, c, d⟩ := h4 x hx
        exact ⟨a, b, c, fun hp => d (.inl hp)⟩
      · exact (h4 y hy).2.2.2 (.inr (.inl rfl))
    · rintro ⟨⟨⟨h1, h1', h2, h3⟩, h4⟩, h5, h6⟩
      refine ⟨⟨⟨⟨h1, h1'⟩, h2⟩, h3⟩, fun x hx => ?_, h6⟩
      obtain ⟨a, b, c, d⟩ := h4 x hx
      refine ⟨a, b, c, fun hp => hp.elim d (fun e => ?_)⟩
      rcases e with rfl | e
      · exact h5 hx
      · simp at e
theorem idsOk_iff {l : List Int} {own : Int} : idsOk l own = true ↔ (∀ x ∈ l, 1 ≤ x ∧ x ≤ 6 ∧ x ≠ own) ∧ l.Nodup := by
  unfold idsOk
  rw [idsFrom_iff]
  simp
theorem aliveIn_iff {l : List Rn} {x : Int} : aliveIn l x = true ↔ (1 ≤ x ∧ x ≤ l.length) ∧ (getR l x).state ≠ 3 := by
  simp [aliveIn, inB]

theorem mem_getR {l : List Rn} {x : Int} (h1 : 1 ≤ x) (h2 : x ≤ l.length) : getR l x = l[(x - 1).toNat]'(by omega) := by
  unfold getR
  rw [List.getD_eq_getElem?_getD, List.getElem?_eq_getElem (by omega)]
  rfl
theorem getD_eq {l : List Rn} {a : Nat} (h : a < l.length) : l.getD a Rn.zero = l[a] := by
  rw [List.getD_eq_getElem?_getD, List.getElem?_eq_getElem h]
  rfl

theorem length_of_sub {a b : List Int} (ha : a.Nodup) (hs : ∀ x ∈ a, x ∈ b) : a.length ≤ b.length := by
  induction a generalizing b with
  | nil => simp
  | cons x a ih =>
    have hx := hs x List.mem_cons_self
    rw [List.nodup_cons] at ha
    have := ih (b := b.erase x) ha.2 (fun y hy => (List.mem_erase_of_ne (fun e => ha.1 (by rw [← e]; exact hy))).2 (hs y (List.mem_cons_of_mem _ hy)))
    rw [List.length_erase_of_mem hx] at this
    have : 0 < b.length := List.length_pos_of_mem hx
    simp only [List.length_cons]
    omega

theorem linkedAll_iff {l : List Rn} : linkedAll l = true ↔ ∀ a (ha : a < l.length) b (hb : b < l.length), ((b : Int) + 1 ∈ (l[a]).links ↔ (a : Int) + 1 ∈ (l[b]).links) := by
  have one : ∀ a (ha : a < l.length) b (hb : b < l.length), linkedWith l a b = true ↔ ((b : Int) + 1 ∈ (l[a]).links ↔ (a : Int) + 1 ∈ (l[b]).links) := by
    intro a ha b hb
    unfold linkedWith
    rw [getD_eq ha, getD_eq hb, beq_iff_eq, Bool.eq_iff_iff, List.contains_iff_mem, List.contains_iff_mem]
  unfold linkedAll
  simp only [List.all_eq_true, List.mem_range]
  constructor
  · intro h a ha b hb
    rcases Nat.lt_trichotomy a b with hl | rfl | hl
    · exact ((one b hb a ha).1 (h b hb a hl)).symm
    · exact Iff.rfl
    · exact (one a ha b hb).1 (h a ha b hl)
  · intro h a ha b hb
    exact (one a ha b (by omega)).2 (h a ha b (by omega))

end Go.Proofs.Ytmidnaafljgbiaa
/- A world that is read: what its readers may ask. Whether two runs are linked both ways. -/
namespace Go.Proofs.Ytmidnaafljgbiaa
open Go.RowKit
set_option maxRecDepth 100000

/-- The cells of a run at a place. -/
def RunAt (w : World) (g o : Nat) (r : Rn) (a : RA) : Prop :=
  w.cell? ⟨g, o, none⟩ = some (.int .i64 r.id) ∧ w.cell? ⟨g, o + 1, none⟩ = some (.int .i64 r.at_) ∧ w.cell? ⟨g, o + 2, none⟩ = some (.slice a.sA r.slots.length a.sC) ∧ w.cell? ⟨g, o + 3, none⟩ = some (.int .i64 r.full) ∧
  w.cell? ⟨g, o + 4, none⟩ = some (.slice a.mA r.mail.length a.mC) ∧ w.cell? ⟨g, o + 5, none⟩ = some (.int .i64 r.state) ∧ w.cell? ⟨g, o + 6, none⟩ = some (.int .i64 r.due) ∧ w.cell? ⟨g, o + 7, none⟩ = some (.slice a.lA r.links.length a.lC) ∧
  w.cell? ⟨g, o + 8, none⟩ = some (.slice a.wA r.watched.length a.wC) ∧ w.cell? ⟨g, o + 9, none⟩ = some (.bool r.trap) ∧ w.cell? ⟨g, o + 10, none⟩ = some (.int .i64 r.why.k) ∧ w.cell? ⟨g, o + 11, none⟩ = some (.int .i64 r.why.n) ∧ w.cell? ⟨g, o + 12, none⟩ = some (.int .i64 r.turns)
def OpAt (w : World) (g o : Nat) (x : Opx) : Prop :=
  w.cell? ⟨g, o, none⟩ = some (.int .i64 x.k) ∧ w.cell? ⟨g, o + 1, none⟩ = some (.int .i64 x.r) ∧ w.cell? ⟨g, o + 2, none⟩ = some (.int .i64 x.s) ∧ w.cell? ⟨g, o + 3, none⟩ = some (.int .i64 x.to) ∧ w.cell? ⟨g, o + 4, none⟩ = some (.int .i64 x.v.k) ∧ w.cell? ⟨g, o + 5, none⟩ = some (.int .i64 x.v.n)
theorem RunAt.below {w w' : World} {g o : Nat} {r : Rn} {a : RA} {B : Nat} (h : RunAt w g o r a) (hb : Below B w w') (hg : g < B) : RunAt w' g o r a := by
  unfold RunAt at h ⊢
  simp only [hb.cell (p := ⟨g, _, none⟩) hg]
  exact h
theorem OpAt.below {w w' : World} {g o : Nat} {x : Opx} {B : Nat} (h : OpAt w g o x) (hb : Below B w w') (hg : g < B) : OpAt w' g o x := by
  unfold OpAt at h ⊢
  simp only [hb.cell (p := ⟨g, _, none⟩) hg]
  exact h
structure RW (w : World) (B : Nat) (W : Wm) : Prop where
  code : ∀ k (hk : k < W.code.length), ∃ g, W.cA = some ⟨g, 0, none⟩ ∧ g < B ∧ OpAt w g (k * 6) W.code[k]
  runs : ∀ k (hk : k < W.ps.length), ∃ g, W.rA = some ⟨g, 0, none⟩ ∧ g < B ∧ RunAt w g (k * 13) W.ps[k].1 W.ps[k].2
  queue : ReadsI w B W.qA W.queue.length W.queue
  each : ∀ k (hk : k < W.ps.length), ReadsRun w B W.ps[k].1 W.ps[k].2
  lens : W.code.length ≤ W.cC ∧ W.ps.length ≤ W.rC ∧ W.queue.length ≤ W.qC
  szs : W.code.length ≤ 140737488355328 ∧ W.ps.length ≤ 140737488355328
theorem RW.below {w w' : World} {B : Nat} {W : Wm} (h : RW w B W) (hb : Below w.heap.size w w') (hB : B ≤ w.heap.size) : RW w' B W :=
  ⟨fun k hk => by
    obtain ⟨g, e, hg, hc⟩ := h.code k hk
    exact ⟨g, e, hg, hc.below (hb.mono hB) hg⟩, fun k hk => by
    obtain ⟨g, e, hg, hc⟩ := h.runs k hk
    exact ⟨g, e, hg, hc.below (hb.mono hB) hg⟩, h.queue.below' hb hB, fun k hk => (h.each k hk).below hb hB, h.lens, h.szs⟩
theorem rws_reads {w : World} {ps : List (Rn × RA)} (h : (rws ps).P w) {k : Nat} (hk : k < ps.length) : ReadsRun w w.heap.size ps[k].1 ps[k].2 ∧ (ps[k].2.sA = none → ps[k].2.sC = 0) ∧ (ps[k].2.mA = none → ps[k].2.mC = 0) ∧ (ps[k].2.lA = none → ps[k].2.lC = 0) ∧ (ps[k].2.wA = none → ps[k].2.wC = 0) :=
  runA_reads (h (runA ps[k].1 ps[k].2) (List.mem_map.2 ⟨ps[k], List.getElem_mem hk, rfl⟩))
theorem elemR {w0 w : World} {f : List Nat} {L L' : List Asn} {g k c : Nat} {xs : List (Rn × RA)} (M : Mem w0 f w L) (hd : Del (rowR (some ⟨g, 0, none⟩) c xs) L L') (hlt : k < xs.length) : RunAt w g (k * 13) xs[k].1 xs[k].2 := by
  have h := (row_elem encR_length M hd hlt).2.1
  exact ⟨h 0 (by decide), h 1 (by decide), h 2 (by decide), h 3 (by decide), h 4 (by decide), h 5 (by decide), h 6 (by decide), h 7 (by decide), h 8 (by decide), h 9 (by decide), h 10 (by decide), h 11 (by decide), h 12 (by decide)⟩
theorem Mem.rw_ {w0 w : World} {f : List Nat} {L : List Asn} {W : Wm} (M : Mem w0 f w (rowO W.cA W.cC W.code :: rowR W.rA W.rC W.ps :: rowI W.qA W.qC W.queue :: rws W.ps :: L)) : RW w w.heap.size W := by
  refine ⟨fun k hk => ?_, fun k hk => ?_, readsI M (.there (.there .here)), fun k hk => (rws_reads (M.is (.there (.there (.there .here)))) hk).1, ⟨(row_reads M .here).2.1, (row_reads M (.there .here)).2.1, (row_reads M (.there (.there .here))).2.1⟩, (row_reads M .here).1.2.1, (row_reads M (.there .here)).1.2.1⟩
  · obtain ⟨g, e⟩ := row_form M .here (by omega)
    rw [e] at M
    exact ⟨g, e, (row_elem encO_length M .here hk).1, elemO0 M .here hk⟩
  · obtain ⟨g, e⟩ := row_form M (.there .here) (by omega)
    rw [e] at M
    exact ⟨g, e, (row_elem encR_length M (.there .here) hk).1, elemR M (.there .here) hk⟩

end Go.Proofs.Ytmidnaafljgbiaa
/- Whether a run that waits waits for what is not there. -/
namespace Go.Proofs.Ytmidnaafljgbiaa
open Go.RowKit
set_option maxRecDepth 100000

theorem opAt_nat {c : List Opx} {k : Nat} (hk : k < c.length) : opAt c k = c[k] := by
  unfold opAt
  rw [Int.toNat_natCast, List.getD_eq_getElem?_getD, List.getElem?_eq_getElem hk]
  rfl
end Go.Proofs.Ytmidnaafljgbiaa
