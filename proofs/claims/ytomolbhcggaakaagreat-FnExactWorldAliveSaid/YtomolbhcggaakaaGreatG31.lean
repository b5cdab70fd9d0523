/- Parts of the proof, in one text. -/
import Derived.Test.YtomolbhcggaakaaGreatG30
import Derived.Test.YtomolbhcggaakaaGreatG16
import Derived.Test.YtomolbhcggaakaaGreatG02
/- The first value of a run's mail that fits, on both sides. -/
namespace Go.Proofs.YtomolbhcggaakaaGreat
open Go.RowKit
set_option maxRecDepth 100000

theorem sFits (v : Vl) (kind : Int) (w : World) : Calls Tryz.prog 108 #[.agg #[.int .i64 v.k, .int .i64 v.n], .int .i64 kind] w fun e w' => e = .returned (.bool (fits v kind)) ∧ Below w.heap.size w w' := by
  obtain ⟨k, n⟩ := v
  unfold fits
  by_cases h : kind = 0
  · have e : (kind == 0 || (⟨k, n⟩ : Vl).k == kind) = true := by simp [h]
    rw [e]
    clear e
    have h' : (kind == 0) = true := by simp [h]
    clear h
    go_enter Tryz.func108, Tryz.ntmps108
    go_wp2
    go_ret
    exact ⟨rfl, below_box _ _⟩
  · have e : (kind == 0 || (⟨k, n⟩ : Vl).k == kind) = (k == kind) := by simp [h]
    rw [e]
    clear e
    have h' : (kind == 0) = false := by simp [h]
    clear h
    go_enter Tryz.func108, Tryz.ntmps108
    go_wp2
    go_ret
    exact ⟨ret_bool (by simp), below_box _ _⟩
def fitsOk (v : Vl) (kind : Int) : Bool := valOk v && fits v kind
set_option maxHeartbeats 1000000 in
theorem iFits (v : Vl) (kind : Int) (w : World) : Calls Tryz.prog 112 #[.agg #[.int .i64 v.k, .int .i64 v.n], .int .i64 kind] w fun e w' => e = .returned (.bool (fitsOk v kind)) ∧ Below w.heap.size w w' := by
  obtain ⟨k, n⟩ := v
  have hv := Lib.hid (fun W => iValOk ⟨k, n⟩ W)
  unfold fitsOk fits
  generalize valOk ⟨k, n⟩ = b at hv ⊢
  cases b with
  | false =>
    go_enter Tryz.func112, Tryz.ntmps112
    go_wp2_with (go_at_call 67; refine (hv.out _).mono ?_; rintro e w1 ⟨rfl, hb1⟩; have B1 := below_step (below_box _ _) hb1)
    go_ret
    exact ⟨ret_bool (by simp), B1⟩
  | true =>
    by_cases h : kind = 0
    · have e : (true && (kind == 0 || (⟨k, n⟩ : Vl).k == kind)) = true := by simp [h]
      rw [e]
      clear e
      have h' : (kind == 0) = true := by simp [h]
      clear h
      go_enter Tryz.func112, Tryz.ntmps112
      go_wp2_with (go_at_call 67; refine (hv.out _).mono ?_; rintro e w1 ⟨rfl, hb1⟩; have B1 := below_step (below_box _ _) hb1; obtain ⟨hc1, hf1⟩ := bcell hb1; have hx1 : w.heap.size < w1.heap.size := (by have := hb1.size; simp at this; omega))
      go_ret
      exact ⟨ret_bool (by simp), B1⟩
    · have e : (true && (kind == 0 || (⟨k, n⟩ : Vl).k == kind)) = (kind == k) := by simp only [Bool.true_and, beq_eq_false_iff_ne.2 h, Bool.false_or]; exact Bool.eq_iff_iff.2 ⟨fun h => by simpa using (beq_iff_eq.1 h).symm, fun h => by simpa using (beq_iff_eq.1 h).symm⟩
      rw [e]
      clear e
      have h' : (kind == 0) = false := by simp [h]
      clear h
      go_enter Tryz.func112, Tryz.ntmps112
      go_wp2_with (go_at_call 67; refine (hv.out _).mono ?_; rintro e w1 ⟨rfl, hb1⟩; have B1 := below_step (below_box _ _) hb1; obtain ⟨hc1, hf1⟩ := bcell hb1; have hx1 : w.heap.size < w1.heap.size := (by have := hb1.size; simp at this; omega))
      go_ret
      exact ⟨ret_bool (by simp), B1⟩
theorem iFirst1 (v : Vl) (kind : Int) (g : Nat) (w : World) (hc : w.cell? ⟨g, 0, none⟩ = some (.int .i64 kind)) (hg : g < w.heap.size) : Calls Tryz.prog 171 #[.agg #[.int .i64 v.k, .int .i64 v.n], .pointer (some ⟨g, 0, none⟩)] w fun e w' => e = .returned (.bool (fitsOk v kind)) ∧ Below w.heap.size w w' := by
  obtain ⟨k, n⟩ := v
  have hv := Lib.hid (fun W => iFits ⟨k, n⟩ kind W)
  generalize fitsOk ⟨k, n⟩ kind = b at hv ⊢
  go_enter Tryz.func171, Tryz.ntmps171
  go_wp2_with (go_at_call 112; refine (hv.out _).mono ?_; rintro e w1 ⟨rfl, hb1⟩; have B1 := below_step (below_box _ _) hb1)
  go_ret
  exact ⟨rfl, B1⟩

set_option maxHeartbeats 1000000 in
theorem iFirst (r : Rn) (a : RA) (kind : Int) (B : Nat) (w : World) (hr : ReadsRun w B r a) (hB : B ≤ w.heap.size) : Calls Tryz.prog 142 #[.agg (runArr r a), .int .i64 kind] w fun e w' => e = .returned (.int .i64 (idxP (fitsOk · kind) r.mail)) ∧ Below w.heap.size w w' := by
  have eg := enters_of Tryz.func171 (by kernel_rfl) rfl
  have hp : ∀ (W : World) (g : Nat), W.cell? ⟨g, 0, none⟩ = some (.int .i64 kind) → g < W.heap.size → PredV 171 #[.pointer (some ⟨g, 0, none⟩)] (fitsOk · kind) W :=
    fun W g hc hg V x hb => (iFirst1 x kind g V ((hb.cell (p := ⟨g, 0, none⟩) hg).trans hc) (Nat.lt_of_lt_of_le hg hb.size)).mono fun e w' ⟨h1, h2⟩ => ⟨h1, hb.trans (h2.mono hb.size)⟩
  have HC := Lib.hid (fun W (hb : Below w.heap.size w W) g (hc : W.cell? ⟨g, 0, none⟩ = some (.int .i64 kind)) (hg : g < W.heap.size) => iIndexFunc _ _ _ eg r.mail a.mA a.mC B W (hr.mail.below' hb hB) (Nat.le_trans hB hb.size) (hp W g hc hg))
  clear eg hp hr
  generalize idxP (fitsOk · kind) r.mail = ix at HC ⊢
  obtain ⟨id, at_, slots, full, mail, state, due, links, watched, trap, ⟨wk, wn⟩, turns⟩ := r
  obtain ⟨sA, sC, mA, mC, lA, lC, wA, wC⟩ := a
  simp only [runArr] at HC ⊢
  go_enter Tryz.func142, Tryz.ntmps142
  go_wp2_with (go_at_call 170; refine (HC.out _ ?p1 _ ?p2 ?p3).mono ?_; (case p1 => exact below_new (below_box _ _) _); (case p2 => simp [go_sem]; done); (case p3 => simp; done); rintro e w1 ⟨rfl, hb1⟩; have B1 := below_step (below_new (below_box _ _) _) hb1)
  go_ret
  exact ⟨rfl, B1⟩

set_option maxHeartbeats 2000000 in
theorem sFirst (r : Rn) (a : RA) (kind : Int) (B : Nat) (w : World) (hr : ReadsRun w B r a) (hB : B ≤ w.heap.size) : Calls Tryz.prog 128 #[.agg (runArr r a), .int .i64 kind] w fun e w' => e = .returned (.int .i64 (idxP (fits · kind) r.mail)) ∧ Below w.heap.size w w' := by
  have hm := hr.mail
  have hm2 := hm.2.1
  clear hr
  have HX := Lib.hid (rfl : idxP (fits · kind) r.mail = idxP (fits · kind) r.mail)
  obtain ⟨id, at_, slots, full, mail, state, due, links, watched, trap, ⟨wk, wn⟩, turns⟩ := r
  obtain ⟨sA, sC, mA, mC, lA, lC, wA, wC⟩ := a
  simp only [runArr] at hm hm2 ⊢
  go_enter Tryz.func128, Tryz.ntmps128
  go_wp2_with (first
    | ((with_reducible refine gate_dst (N := 2) rfl ?_); refine box_ev ?hg (N := 2) ?hd (cs := #[.int .i64 id, .int .i64 at_, .slice sA slots.length sC, .int .i64 full, .slice mA mail.length mC, .int .i64 state, .int .i64 due, .slice lA links.length lC, .slice wA watched.length wC, .bool trap, .int .i64 wk, .int .i64 wn, .int .i64 turns]) (t := 56) ?hr ?_; (case hd => rfl); (case hg => rfl); (case hr => first | (go_simp; done) | (go_simp; rfl)); intro g w1 hg hbox hW; obtain ⟨hgl, hcell⟩ := hbox))
  go_loopg [5] mail.length (fun gg s5 wr => ∃ k : Nat, k ≤ mail.length ∧ mail.length - k ≤ gg ∧ s5 = .int .i64 k ∧ Hid (Below w1.heap.size w1 wr) ∧ Hid (∀ j (hj : j < mail.length), j < k → fits mail[j] kind = false))
  case atStart => exact ⟨0, Nat.zero_le _, by omega, rfl, Below.refl _ _, fun j _ h => absurd h (by omega)⟩
  case round =>
    obtain ⟨k, hk, hgg, rfl, BW, hn⟩ := hrel
    have hcell1 := keepB BW.out hgl hcell
    have hgr : g < wr.heap.size := Nat.lt_of_lt_of_le hgl BW.out.size
    by_cases hlt : k < mail.length
    · have hlk : Hid (fits mail[k] kind = true → idxP (fits · kind) mail = k) := fun h1 => idxP_hit hlt h1 (fun j hj => hn j (by omega) hj)
      have hl2 : Hid (fits mail[k] kind = false → ∀ j (hj : j < mail.length), j < k + 1 → fits mail[j] kind = false) := fun h1 j hj hjk => by
        by_cases e : j = k
        · subst e; exact h1
        · exact hn j hj (by omega)
      obtain ⟨ad, rfl, hab, hc1, hc2⟩ := ((hm.below' hW hB).below' BW.out (Nat.le_trans hB hW.size)).val hlt
      generalize mail[k] = x at hlk hl2 hc1 hc2
      obtain ⟨xk, xn⟩ := x
      have hcall := Lib.hid (fun W => sFits ⟨xk, xn⟩ kind W)
      generalize fits ⟨xk, xn⟩ kind = q at hcall hlk hl2
      cases q with
      | true =>
        go_wp2_with (go_at_call 108; refine (hcall.out _).mono ?_; rintro e w2 ⟨rfl, hb2⟩)
        go_ret
        exact ⟨ret_int (hlk.out (by trivial)).symm, below_step (below_step hW BW.out) hb2⟩
      | false =>
        go_wp2_with (go_at_call 108; refine (hcall.out _).mono ?_; rintro e w2 ⟨rfl, hb2⟩)
        go_roundg (mail.length - (k + 1))
        case measure => omega
        case rel => exact ⟨k + 1, by omega, by omega, by go_num, below_step BW.out hb2, hl2.out (by trivial)⟩
    · have hkl : k = mail.length := by omega
      subst hkl
      go_wp2
      go_ret
      exact ⟨ret_int (idxP_miss (fun j hj => hn.out j hj hj)).symm, below_step hW BW.out⟩
end Go.Proofs.YtomolbhcggaakaaGreat
/- Worlds in plain words: when one is ok, by either text. No Go and no memory here. -/
namespace Go.Proofs.YtomolbhcggaakaaGreat

def getR (l : List Rn) (id : Int) : Rn := l.getD (id - 1).toNat Rn.zero
def opAt (c : List Opx) (i : Int) : Opx := c.getD i.toNat default
/-- Is there such a run, which did not end? -/
def aliveIn (l : List Rn) (id : Int) : Bool := inB id 1 l.length && !((getR l id).state == 3)
def waitsOk (w : Wd) (r : Rn) : Bool :=
  let o := opAt w.code r.at_
  ((o.k == 7 && r.due == 0) || (o.k == 8 && decide (w.now < r.due))) && (firstIx r.mail o.s).isNone
def needOk (f : List Int) (r : Rn) : Bool := decide (0 ≤ getI f r.at_) && both (getI f r.at_) r.full == getI f r.at_
def runFits (w : Wd) (f : List Int) (i : Nat) (r : Rn) : Bool :=
  runOk r && r.id == (i : Int) + 1 && decide (r.at_ < w.code.length) && (w.queue.contains r.id == (r.state == 1)) && (!(r.state == 2) || waitsOk w r) && ((r.state == 3) || (r.links.all (aliveIn w.runs) && r.watched.all (aliveIn w.runs) && needOk f r))
def fitsFrom (w : Wd) (f : List Int) : Nat → List Rn → Bool
  | _, [] => true
  | i, r :: l => runFits w f i r && fitsFrom w f (i + 1) l
def waits (l : List Rn) : Int := match l with | [] => 0 | r :: l => (r.mail.length : Int) + waits l
/-- Is the run at place a linked both ways with those ahead of it? -/
def linkedWith (l : List Rn) (a b : Nat) : Bool := ((l.getD a Rn.zero).links.contains ((b : Int) + 1)) == ((l.getD b Rn.zero).links.contains ((a : Int) + 1))
def linkedAll (l : List Rn) : Bool := (List.range l.length).all fun a => (List.range a).all fun b => linkedWith l a b
def worldOk (w : Wd) : Bool :=
  codeSafe w.code && inB w.runs.length 1 6 && inB w.now 0 300 && inB w.sent 0 9999 && inB w.taken 0 9999 && inB w.lost 0 9999 && idsOk w.queue 0
    && fitsFrom w (fullOf w.code) 0 w.runs && w.queue.all (fun q => decide (q ≤ w.runs.length)) && linkedAll w.runs && w.sent == w.taken + w.lost + waits w.runs

/-! ### The other text's way -/
def runFitsI (w : Wd) (f : List Int) (r : Rn) : Bool :=
  runOk r && decide (r.at_ < w.code.length) && (!(r.state == 2) || waitsOk w r) && ((r.state == 3) || (r.links.all (aliveIn w.runs) && r.watched.all (aliveIn w.runs) && needOk f r))
def fitsFromI (w : Wd) (f : List Int) : Nat → List Rn → Bool
  | _, [] => true
  | i, r :: l => r.id == (i : Int) + 1 && runFitsI w f r && (!(r.state == 1) || w.queue.contains r.id) && r.links.all (fun x => (getR w.runs x).links.contains r.id) && fitsFromI w f (i + 1) l
def going (l : List Rn) : Int := match l with | [] => 0 | r :: l => (if r.state == 1 then 1 else 0) + going l
def worldOkI (w : Wd) : Bool :=
  codeSafe w.code && inB w.runs.length 1 6 && inB w.now 0 300 && inB w.sent 0 9999 && inB w.taken 0 9999 && inB w.lost 0 9999 && w.sent == w.taken + w.lost + waits w.runs
    && fitsFromI w (fullOf w.code) 0 w.runs && (w.queue.length : Int) == going w.runs

/-! ### What they come to -/
theorem fitsFrom_iff {w : Wd} {f : List Int} : ∀ {l : List Rn} {i : Nat}, fitsFrom w f i l = true ↔ ∀ k (hk : k < l.length), runFits w f (i + k) l[k] = true := by
  intro l
  induction l with
  | nil => intro i; simp [fitsFrom]
  | cons r l ih =>
    intro i
    simp only [fitsFrom, Bool.and_eq_true, ih]
    constructor
    · rintro ⟨h0, h1⟩ k hk
      cases k with
      | zero => simpa using h0
      | succ k => have := h1 k (by simpa using hk); simpa [Nat.add_assoc, Nat.add_comm 1 k] using this
    · intro h
      refine ⟨h 0 (Nat.zero_lt_succ _), fun k hk => ?_⟩
      have := h (k + 1) (by simpa using hk)
      simpa [Nat.add_assoc, Nat.add_comm 1 k] using this
theorem fitsFromI_iff {w : Wd} {f : List Int} : ∀ {l : List Rn} {i : Nat}, fitsFromI w f i l = true ↔ ∀ k (hk : k < l.length), (l[k]).id = ((i + k : Nat) : Int) + 1 ∧ runFitsI w f l[k] = true ∧ ((l[k]).state = 1 → (l[k]).id ∈ w.queue) ∧ ∀ x ∈ (l[k]).links, (l[k]).id ∈ (getR w.runs x).links := by
  intro l
  induction l with
  | nil => intro i; simp [fitsFromI]
  | cons r l ih =>
    intro i
    simp only [fitsFromI, Bool.and_eq_true, ih, beq_iff_eq, Bool.or_eq_true, Bool.not_eq_true', beq_eq_false_iff_ne, List.all_eq_true, List.contains_iff_mem]
    constructor
    · rintro ⟨⟨⟨⟨h1, h2⟩, h3⟩, h4⟩, h5⟩ k hk
      cases k with
      | zero => exact ⟨by simpa using h1, h2, fun hs => h3.resolve_left (fun hn => hn hs), h4⟩
      | succ k => have := h5 k (by simpa using hk); simpa [Nat.add_assoc, Nat.add_comm 1 k] using this
    · intro h
      obtain ⟨h1, h2, h3, h4⟩ := h 0 (by simp)
      refine ⟨⟨⟨⟨by simpa using h1, h2⟩, ?_⟩, h4⟩, fun k hk => ?_⟩
      · by_cases hs : r.state = 1
        · exact .inr (h3 hs)
        · exact .inl hs
      · have := h (k + 1) (by simpa using hk)
        simpa [Nat.add_assoc, Nat.add_comm 1 k] using this
theorem idsFrom_iff {own : Int} : ∀ {l pre : List Int}, idsFrom own pre l = true ↔ (∀ x ∈ l, 1 ≤ x ∧ x ≤ 6 ∧ x ≠ own ∧ x ∉ pre) ∧ l.Nodup := by
  intro l
  induction l with
  | nil => intro pre; simp [idsFrom]
  | cons y l ih =>
    intro pre
    simp only [idsFrom, Bool.and_eq_true, ih, inB_iff, Bool.not_eq_true', beq_eq_false_iff_ne, List.nodup_cons]
    simp only [← Bool.not_eq_true, List.contains_iff_mem, List.mem_append, List.mem_cons, forall_eq_or_imp]
    constructor
    · rintro ⟨⟨⟨h1, h2⟩, h3⟩, h4, h5⟩
      refine ⟨⟨⟨h1.1, h1.2, h2, h3⟩, fun x hx => ?_⟩, fun hy => ?_, h5⟩
      · obtain ⟨a, b, c, d⟩ := h4 x hx
        exact ⟨a, b, c, fun hp => d (.inl hp)⟩
      · exact (h4 y hy).2.2.2 (.inr (.inl rfl))
    · rintro ⟨⟨⟨h1, h1', h2, h3⟩, h4⟩, h5, h6⟩
      refine ⟨⟨⟨⟨h1, h1'⟩, h2⟩, h3⟩, fun x hx => ?_, h6⟩
      obtain ⟨a, b, c, d⟩ := h4 x hx
      refine ⟨a, b, c, fun hp => hp.elim d (fun e => ?_)⟩
      rcases e with rfl | e
      · exact h5 hx
      · simp at e
theorem idsOk_iff {l : List Int} {own : Int} : idsOk l own = true ↔ (∀ x ∈ l, 1 ≤ x ∧ x ≤ 6 ∧ x ≠ own) ∧ l.Nodup := by
  unfold idsOk
  rw [idsFrom_iff]
  simp
theorem aliveIn_iff {l : List Rn} {x : Int} : aliveIn l x = true ↔ (1 ≤ x ∧ x ≤ l.length) ∧ (getR l x).state ≠ 3 := by
  simp [aliveIn, inB]

/-- The runs that go, by their numbers. -/
def goers (l : List Rn) : List Int := (l.filter (fun r => r.state == 1)).map (·.id)
theorem goers_length (l : List Rn) : ((goers l).length : Int) = going l := by
  induction l with
  | nil => rfl
  | cons r l ih =>
    unfold goers at ih ⊢
    rw [List.filter_cons]
    by_cases h : r.state = 1
    · simp only [h, beq_self_eq_true, if_true, List.map_cons, List.length_cons, going]
      omega
    · simp only [going, show (r.state == 1) = false by simpa using h, if_false, Bool.false_eq_true]
      omega

theorem mem_getR {l : List Rn} {x : Int} (h1 : 1 ≤ x) (h2 : x ≤ l.length) : getR l x = l[(x - 1).toNat]'(by omega) := by
  unfold getR
  rw [List.getD_eq_getElem?_getD, List.getElem?_eq_getElem (by omega)]
  rfl
theorem getD_eq {l : List Rn} {a : Nat} (h : a < l.length) : l.getD a Rn.zero = l[a] := by
  rw [List.getD_eq_getElem?_getD, List.getElem?_eq_getElem h]
  rfl

/-- Two lists without doubles, one in the other, and as long. -/
theorem same_of_length {a b : List Int} (ha : a.Nodup) (hs : ∀ x ∈ a, x ∈ b) (hl : b.length ≤ a.length) : b.Nodup ∧ ∀ x ∈ b, x ∈ a := by
  induction a generalizing b with
  | nil =>
    have : b = [] := List.eq_nil_of_length_eq_zero (by simpa using hl)
    subst this
    simp
  | cons x a ih =>
    have hx := hs x List.mem_cons_self
    have hlen : (b.erase x).length + 1 = b.length := by
      rw [List.length_erase_of_mem hx]
      have : 0 < b.length := List.length_pos_of_mem hx
      omega
    rw [List.nodup_cons] at ha
    obtain ⟨h1, h2⟩ := ih (b := b.erase x) ha.2 (fun y hy => (List.mem_erase_of_ne (fun e => ha.1 (by rw [← e]; exact hy))).2 (hs y (List.mem_cons_of_mem _ hy))) (by simp only [List.length_cons] at hl; omega)
    have hp : b.Perm (x :: b.erase x) := List.perm_cons_erase hx
    refine ⟨hp.nodup_iff.2 (List.nodup_cons.2 ⟨fun hm => ha.1 (h2 x hm), h1⟩), fun y hy => ?_⟩
    rcases List.mem_cons.1 (hp.mem_iff.1 hy) with e | hy
    · exact e ▸ List.mem_cons_self
    · exact List.mem_cons_of_mem _ (h2 y hy)
theorem length_of_sub {a b : List Int} (ha : a.Nodup) (hs : ∀ x ∈ a, x ∈ b) : a.length ≤ b.length := by
  induction a generalizing b with
  | nil => simp
  | cons x a ih =>
    have hx := hs x List.mem_cons_self
    rw [List.nodup_cons] at ha
    have := ih (b := b.erase x) ha.2 (fun y hy => (List.mem_erase_of_ne (fun e => ha.1 (by rw [← e]; exact hy))).2 (hs y (List.mem_cons_of_mem _ hy)))
    rw [List.length_erase_of_mem hx] at this
    have : 0 < b.length := List.length_pos_of_mem hx
    simp only [List.length_cons]
    omega

theorem linkedAll_iff {l : List Rn} : linkedAll l = true ↔ ∀ a (ha : a < l.length) b (hb : b < l.length), ((b : Int) + 1 ∈ (l[a]).links ↔ (a : Int) + 1 ∈ (l[b]).links) := by
  have one : ∀ a (ha : a < l.length) b (hb : b < l.length), linkedWith l a b = true ↔ ((b : Int) + 1 ∈ (l[a]).links ↔ (a : Int) + 1 ∈ (l[b]).links) := by
    intro a ha b hb
    unfold linkedWith
    rw [getD_eq ha, getD_eq hb, beq_iff_eq, Bool.eq_iff_iff, List.contains_iff_mem, List.contains_iff_mem]
  unfold linkedAll
  simp only [List.all_eq_true, List.mem_range]
  constructor
  · intro h a ha b hb
    rcases Nat.lt_trichotomy a b with hl | rfl | hl
    · exact ((one b hb a ha).1 (h b hb a hl)).symm
    · exact Iff.rfl
    · exact (one a ha b hb).1 (h a ha b hl)
  · intro h a ha b hb
    exact (one a ha b (by omega)).2 (h a ha b (by omega))

theorem runFitsI_alive {w : Wd} {f : List Int} {r : Rn} (h : runFitsI w f r = true) : ∀ x ∈ r.links, aliveIn w.runs x = true := by
  simp only [runFitsI, Bool.and_eq_true, Bool.or_eq_true, List.all_eq_true, beq_iff_eq] at h
  obtain ⟨⟨⟨h1, _⟩, _⟩, h4⟩ := h
  intro x hx
  rcases h4 with h4 | h4
  · obtain ⟨_, _, _, _, _, _, _, _, _, _, _, _, _, k, _⟩ := runOk_parts h1
    rw [(k h4).2.1] at hx
    simp at hx
  · exact h4.1.1 x hx

theorem worldOkI_eq (w : Wd) : worldOkI w = worldOk w := by
  rw [Bool.eq_iff_iff]
  constructor
  · intro h
    simp only [worldOkI, Bool.and_eq_true, beq_iff_eq, fitsFromI_iff, Nat.zero_add] at h
    obtain ⟨⟨⟨⟨⟨⟨⟨⟨h1, h2⟩, h3⟩, h4⟩, h5⟩, h6⟩, h7⟩, h8⟩, h9⟩ := h
    have hid : ∀ k (hk : k < w.runs.length), (w.runs[k]).id = (k : Int) + 1 := fun k hk => (h8 k hk).1
    have hlen := inB_iff.1 h2
    -- the queue is those that go
    have hnd : (goers w.runs).Nodup := by
      unfold goers
      rw [List.nodup_iff_pairwise_ne, List.pairwise_map]
      refine List.Pairwise.filter _ ?_
      rw [List.pairwise_iff_getElem]
      intro i j hi hj hij
      rw [hid i hi, hid j hj]
      omega
    have hsub : ∀ x ∈ goers w.runs, x ∈ w.queue := by
      intro x hx
      unfold goers at hx
      rw [List.mem_map] at hx
      obtain ⟨r, hr, rfl⟩ := hx
      rw [List.mem_filter] at hr
      obtain ⟨k, hk, rfl⟩ := List.getElem_of_mem hr.1
      exact (h8 k hk).2.2.1 (by simpa using hr.2)
    have hle : w.queue.length ≤ (goers w.runs).length := by have := goers_length w.runs; omega
    obtain ⟨q1, q2⟩ := same_of_length hnd hsub hle
    have hq : ∀ x ∈ w.queue, ∃ k, ∃ hk : k < w.runs.length, x = (k : Int) + 1 ∧ (w.runs[k]).state = 1 := by
      intro x hx
      have := q2 x hx
      unfold goers at this
      rw [List.mem_map] at this
      obtain ⟨r, hr, rfl⟩ := this
      rw [List.mem_filter] at hr
      obtain ⟨k, hk, rfl⟩ := List.getElem_of_mem hr.1
      exact ⟨k, hk, hid k hk, by simpa using hr.2⟩
    simp only [worldOk, Bool.and_eq_true, beq_iff_eq, fitsFrom_iff, Nat.zero_add, idsOk_iff, linkedAll_iff, List.all_eq_true, decide_eq_true_eq]
    refine ⟨⟨⟨⟨⟨⟨⟨⟨⟨⟨h1, h2⟩, h3⟩, h4⟩, h5⟩, h6⟩, fun x hx => ?_, q1⟩, fun k hk => ?_⟩, fun x hx => ?_⟩, fun a ha b hb => ?_⟩, h7⟩
    · obtain ⟨k, hk, rfl, _⟩ := hq x hx
      omega
    · obtain ⟨e1, e2, e3, e4⟩ := h8 k hk
      simp only [runFitsI, Bool.and_eq_true] at e2
      simp only [runFits, Bool.and_eq_true, beq_iff_eq]
      refine ⟨⟨⟨⟨⟨e2.1.1.1, e1⟩, e2.1.1.2⟩, ?_⟩, e2.1.2⟩, e2.2⟩
      rw [Bool.eq_iff_iff, List.contains_iff_mem, beq_iff_eq]
      refine ⟨fun hm => ?_, e3⟩
      obtain ⟨k', hk', e, hs⟩ := hq _ hm
      have : k = k' := by omega
      subst this
      exact hs
    · obtain ⟨k, hk, rfl, _⟩ := hq x hx
      omega
    · constructor
      · intro hm
        have := (h8 a ha).2.2.2 _ hm
        rw [hid a ha, mem_getR (by omega) (by omega)] at this
        simpa using this
      · intro hm
        have := (h8 b hb).2.2.2 _ hm
        rw [hid b hb, mem_getR (by omega) (by omega)] at this
        simpa using this
  · intro h
    simp only [worldOk, Bool.and_eq_true, beq_iff_eq, fitsFrom_iff, Nat.zero_add, idsOk_iff, linkedAll_iff, List.all_eq_true, decide_eq_true_eq] at h
    obtain ⟨⟨⟨⟨⟨⟨⟨⟨⟨⟨h1, h2⟩, h3⟩, h4⟩, h5⟩, h6⟩, hq1, hq2⟩, h8⟩, h9⟩, h10⟩, h7⟩ := h
    have fit : ∀ k (hk : k < w.runs.length), runOk w.runs[k] = true ∧ (w.runs[k]).id = (k : Int) + 1 ∧ ((w.runs[k]).id ∈ w.queue ↔ (w.runs[k]).state = 1) ∧ runFitsI w (fullOf w.code) w.runs[k] = true := by
      intro k hk
      have e := h8 k hk
      simp only [runFits, Bool.and_eq_true, beq_iff_eq] at e
      obtain ⟨⟨⟨⟨⟨a, b⟩, c⟩, d⟩, e⟩, f⟩ := e
      rw [Bool.eq_iff_iff, List.contains_iff_mem, beq_iff_eq] at d
      refine ⟨a, b, d, ?_⟩
      simp only [runFitsI, Bool.and_eq_true]
      exact ⟨⟨⟨a, c⟩, e⟩, f⟩
    simp only [worldOkI, Bool.and_eq_true, beq_iff_eq, fitsFromI_iff, Nat.zero_add]
    refine ⟨⟨⟨⟨⟨⟨⟨⟨h1, h2⟩, h3⟩, h4⟩, h5⟩, h6⟩, h7⟩, fun k hk => ?_⟩, ?_⟩
    · obtain ⟨a, b, c, d⟩ := fit k hk
      refine ⟨b, d, c.2, fun x hx => ?_⟩
      obtain ⟨⟨x1, x2⟩, _⟩ := aliveIn_iff.1 (runFitsI_alive d x hx)
      have := (h10 k hk (x - 1).toNat (by omega)).1 (by rw [show (((x - 1).toNat : Nat) : Int) + 1 = x by omega]; exact hx)
      rw [mem_getR x1 x2, b]
      exact this
    · rw [← goers_length]
      have hnd : (goers w.runs).Nodup := by
        unfold goers
        rw [List.nodup_iff_pairwise_ne, List.pairwise_map]
        refine List.Pairwise.filter _ ?_
        rw [List.pairwise_iff_getElem]
        intro i j hi hj hij
        rw [(fit i hi).2.1, (fit j hj).2.1]
        omega
      have s1 : ∀ x ∈ goers w.runs, x ∈ w.queue := by
        intro x hx
        unfold goers at hx
        rw [List.mem_map] at hx
        obtain ⟨r, hr, rfl⟩ := hx
        rw [List.mem_filter] at hr
        obtain ⟨k, hk, rfl⟩ := List.getElem_of_mem hr.1
        exact (fit k hk).2.2.1.2 (by simpa using hr.2)
      have s2 : ∀ x ∈ w.queue, x ∈ goers w.runs := by
        intro x hx
        have hb := (hq1 x hx).1
        have hb2 := h9 x hx
        have hk : (x - 1).toNat < w.runs.length := by omega
        obtain ⟨_, b, c, _⟩ := fit (x - 1).toNat hk
        unfold goers
        rw [List.mem_map]
        have e : (w.runs[(x - 1).toNat]).id = x := by rw [b]; omega
        refine ⟨w.runs[(x - 1).toNat], ?_, e⟩
        rw [List.mem_filter]
        refine ⟨List.getElem_mem _, ?_⟩
        rw [beq_iff_eq]
        exact c.1 (by rw [e]; exact hx)
      have l1 := length_of_sub hnd s1
      have l2 := length_of_sub hq2 s2
      omega

end Go.Proofs.YtomolbhcggaakaaGreat
