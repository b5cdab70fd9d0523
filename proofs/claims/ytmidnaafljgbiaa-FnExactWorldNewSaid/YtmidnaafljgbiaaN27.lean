/- Parts of the proof, in one text. -/
import Derived.Test.YtmidnaafljgbiaaN26
/- When a world is ok: the tests ahead of the runs. -/
namespace Go.Proofs.Ytmidnaafljgbiaa
open Go.RowKit
set_option maxRecDepth 100000

theorem Mem.packW {w0 w : World} {f : List Nat} {L : List Asn} {W : Wm} (M : Mem w0 f w (rowO W.cA W.cC W.code :: rowR W.rA W.rC W.ps :: rowI W.qA W.qC W.queue :: rws W.ps :: L)) : Mem w0 f w (wld W :: L) := Mem.pack (L' := wldL W) M
end Go.Proofs.Ytmidnaafljgbiaa
/- All that fall. No Go and no memory here. -/
namespace Go.Proofs.Ytmidnaafljgbiaa

/-- A sum over the numbers 1 to n. -/
def sumZ (f : Int → Int) : Nat → Int
  | 0 => 0
  | n + 1 => sumZ f n + f ((n : Int) + 1)
theorem sumZ_le {f g : Int → Int} : ∀ {n : Nat}, (∀ x : Int, 1 ≤ x → x ≤ n → f x ≤ g x) → sumZ f n ≤ sumZ g n := by
  intro n
  induction n with
  | zero => intro _; exact Int.le_refl _
  | succ n ih =>
    intro h
    have h1 := ih (fun x x1 x2 => h x x1 (by omega))
    have h2 := h ((n : Int) + 1) (by omega) (by omega)
    simp only [sumZ]
    omega
theorem sumZ_one {f g : Int → Int} {id A : Int} (hA : 0 ≤ A) : ∀ {n : Nat}, (∀ x : Int, 1 ≤ x → x ≤ n → f x ≤ (if x = id then A else 0) + g x) → sumZ f n ≤ (if 1 ≤ id ∧ id ≤ n then A else 0) + sumZ g n := by
  intro n
  induction n with
  | zero => intro _; simp only [sumZ]; split <;> omega
  | succ n ih =>
    intro h
    have h1 := ih (fun x x1 x2 => h x x1 (by omega))
    have h2 := h ((n : Int) + 1) (by omega) (by omega)
    simp only [sumZ]
    split at h1 <;> split at h2 <;> split <;> omega
/-- What waited for one that ended between two worlds. -/
def lostAt (l m : List Rn) (x : Int) : Int := if (getR l x).state ≠ 3 ∧ (getR m x).state = 3 then ((getR l x).mail.length : Int) else 0

structure Fell (w : Wd) (why : Vl) (w' : Wd) : Prop where
  ok : WOk w'
  code : w'.code = w.code
  len : w'.runs.length = w.runs.length
  now : w'.now = w.now
  taken : w'.taken = w.taken
  sent : w.sent ≤ w'.sent ∧ w'.sent + 12 * (sumR liveW w'.runs : Nat) ≤ w.sent + 12 * (sumR liveW w.runs : Nat)
  lost : w.lost + sumZ (lostAt w.runs w'.runs) w.runs.length ≤ w'.lost
  alive : ∀ x, aliveIn w'.runs x = true → aliveIn w.runs x = true
  cause : ∀ x, aliveIn w.runs x = true → aliveIn w'.runs x = false → (getR w'.runs x).why = why
  dead : ∀ x : Int, 1 ≤ x → x ≤ w.runs.length → (getR w.runs x).state = 3 → (getR w'.runs x).why = (getR w.runs x).why ∧ (getR w'.runs x).mail = (getR w.runs x).mail
  stays : ∀ x : Int, 1 ≤ x → x ≤ w.runs.length → (getR w'.runs x).at_ = (getR w.runs x).at_ ∧ (getR w'.runs x).slots = (getR w.runs x).slots ∧ (getR w'.runs x).trap = (getR w.runs x).trap
  links : ∀ x : Int, 1 ≤ x → x ≤ w.runs.length → (∀ y ∈ (getR w'.runs x).links, y ∈ (getR w.runs x).links) ∧ (∀ y ∈ (getR w'.runs x).watched, y ∈ (getR w.runs x).watched)
  mail : ∀ x, aliveIn w'.runs x = true → ∃ m, (getR w'.runs x).mail = (getR w.runs x).mail ++ m
  quiet : ∀ x, aliveIn w'.runs x = true → (∀ i, aliveIn w.runs i = true → aliveIn w'.runs i = false → (x ∉ (getR w.runs i).links ∨ isNormal why = true) ∧ x ∉ (getR w.runs i).watched) → (getR w'.runs x).mail = (getR w.runs x).mail

theorem Fell.refl {w : Wd} (h : WOk w) (why : Vl) : Fell w why w :=
  ⟨h, rfl, rfl, rfl, rfl, ⟨Int.le_refl _, Int.le_refl _⟩, (by
    have : sumZ (lostAt w.runs w.runs) w.runs.length ≤ sumZ (fun _ => 0) w.runs.length := sumZ_le (fun x _ _ => by unfold lostAt; split <;> omega)
    have z : ∀ n, sumZ (fun _ => 0) n = 0 := fun n => by
      induction n with
      | zero => rfl
      | succ n ih => simp only [sumZ, ih]; rfl
    rw [z] at this
    omega), fun _ h => h, fun x h1 h2 => (by rw [h1] at h2; cases h2), fun _ _ _ _ => ⟨rfl, rfl⟩, fun _ _ _ => ⟨rfl, rfl, rfl⟩, fun _ _ _ => ⟨fun _ h => h, fun _ h => h⟩, fun _ _ => ⟨[], by simp⟩, fun _ _ _ => rfl⟩

theorem live_down {w : Wd} {id : Int} {why : Vl} {e : Wd × List Int} (ha : aliveIn w.runs id = true) (h : Ended w id why e) : sumR liveW e.1.runs + 1 ≤ sumR liveW w.runs := by
  obtain ⟨⟨i1, i2⟩, i3⟩ := aliveIn_iff.1 ha
  refine sumR_down h.len (fun x x1 x2 => ?_) i1 (by rw [h.len]; exact i2) ?_
  · rw [h.len] at x2
    unfold liveW
    by_cases hs : (getR w.runs x).state = 3
    · have hn : ¬ aliveIn e.1.runs x = true := fun hh => (aliveIn_iff.1 ((h.alive x).1 hh).1).2 hs
      have : (getR e.1.runs x).state = 3 := by
        by_cases hs2 : (getR e.1.runs x).state = 3
        · exact hs2
        · exact absurd (aliveIn_iff.2 ⟨⟨x1, by rw [h.len]; exact x2⟩, hs2⟩) hn
      rw [if_pos hs, if_pos this]
      exact Nat.le_refl _
    · rw [if_neg hs]
      split <;> omega
  · unfold liveW
    rw [if_pos h.self.2, if_neg i3]
    omega
/-- One ends, and then those that fall. -/
theorem Fell.step {w : Wd} {id : Int} {why : Vl} {e : Wd × List Int} (ha : aliveIn w.runs id = true) (h : Ended w id why e) {w' : Wd} (f : Fell e.1 why w') : Fell w why w' := by
  obtain ⟨⟨i1, i2⟩, i3⟩ := aliveIn_iff.1 ha
  have ld := live_down ha h
  have hlost := h.lost
  refine ⟨f.ok, f.code.trans h.code, f.len.trans h.len, f.now.trans h.now, f.taken.trans h.taken, ?_, ?_, fun x hx => ((h.alive x).1 (f.alive x hx)).1, fun x h1 h2 => ?_, fun x x1 x2 hs => ?_, fun x x1 x2 => ?_, fun x x1 x2 => ?_, fun x hx => ?_, fun x hx hq => ?_⟩
  · have := f.sent
    have := h.sent
    omega
  · have f1 := f.lost
    rw [h.len] at f1
    have : sumZ (lostAt w.runs w'.runs) w.runs.length ≤ (if 1 ≤ id ∧ id ≤ (w.runs.length : Nat) then ((getR w.runs id).mail.length : Int) else 0) + sumZ (lostAt e.1.runs w'.runs) w.runs.length := by
      refine sumZ_one (by omega) (fun x x1 x2 => ?_)
      unfold lostAt
      by_cases hx : x = id
      · rw [if_pos hx, hx]
        split <;> split <;> omega
      · rw [if_neg hx]
        by_cases hc : (getR w.runs x).state ≠ 3 ∧ (getR w'.runs x).state = 3
        · have hal := (h.alive x).2 ⟨aliveIn_iff.2 ⟨⟨x1, x2⟩, hc.1⟩, hx⟩
          obtain ⟨m, hm⟩ := h.mail x x1 x2 hx
          rw [if_pos hc, if_pos ⟨(aliveIn_iff.1 hal).2, hc.2⟩, hm, List.length_append]
          omega
        · rw [if_neg hc]
          split <;> omega
    rw [if_pos ⟨i1, i2⟩] at this
    omega
  · by_cases hx : aliveIn e.1.runs x = true
    · exact f.cause x hx h2
    · have : x = id := by
        by_cases e : x = id
        · exact e
        · exact absurd ((h.alive x).2 ⟨h1, e⟩) hx
      subst this
      rw [(f.dead x i1 (by rw [h.len]; exact i2) h.self.2).1, h.self.1]
  · have hs' : (getR e.1.runs x).state = 3 := by
      by_cases hs2 : (getR e.1.runs x).state = 3
      · exact hs2
      · exact absurd hs (aliveIn_iff.1 ((h.alive x).1 (aliveIn_iff.2 ⟨⟨x1, by rw [h.len]; exact x2⟩, hs2⟩)).1).2
    have a := f.dead x x1 (by rw [h.len]; exact x2) hs'
    have b := h.dead x x1 x2 hs
    exact ⟨a.1.trans b.1, a.2.trans b.2⟩
  · have a := f.stays x x1 (by rw [h.len]; exact x2)
    have b := h.stays x x1 x2
    exact ⟨a.1.trans b.1, a.2.1.trans b.2.1, a.2.2.trans b.2.2⟩
  · have a := f.links x x1 (by rw [h.len]; exact x2)
    have b := h.links x x1 x2
    exact ⟨fun y hy => b.1 y (a.1 y hy), fun y hy => b.2 y (a.2 y hy)⟩
  · obtain ⟨m, hm⟩ := f.mail x hx
    have hx' := (h.alive x).1 (f.alive x hx)
    have hb := (aliveIn_iff.1 hx'.1).1
    obtain ⟨m', hm'⟩ := h.mail x hb.1 hb.2 hx'.2
    exact ⟨m' ++ m, by rw [hm, hm', List.append_assoc]⟩
  · have hx' := (h.alive x).1 (f.alive x hx)
    have hb := (aliveIn_iff.1 hx'.1).1
    have hidn : aliveIn w'.runs id = false := by
      cases hc : aliveIn w'.runs id with
      | false => rfl
      | true => exact absurd rfl ((h.alive id).1 (f.alive id hc)).2
    obtain ⟨q1, q2⟩ := hq id ha hidn
    rw [f.quiet x hx (fun i hi hi2 => ?_), h.quiet x hb.1 hb.2 hx'.2 q1 q2]
    obtain ⟨hi3, hi4⟩ := (h.alive i).1 hi
    have ib := (aliveIn_iff.1 hi3).1
    obtain ⟨k1, k2⟩ := hq i hi3 hi2
    have l := h.links i ib.1 ib.2
    exact ⟨k1.imp (fun hn hm => hn (l.1 x hm)) (fun h => h), fun hm => k2 (l.2 x hm)⟩

end Go.Proofs.Ytmidnaafljgbiaa
/- Turns in plain words: an ok world stays ok by a step. No Go and no memory here. -/
namespace Go.Proofs.Ytmidnaafljgbiaa

/-! ### Bits -/
theorem sub_iff {a f : Int} (ha : 0 ≤ a ∧ a ≤ 15) (hf : 0 ≤ f ∧ f ≤ 15) : both a f = a ↔ ∀ s, inB s 0 3 = true → hasBit a s = true → hasBit f s = true := by
  have key : ∀ a f : Fin 16, both a.val f.val = a.val ↔ ∀ s : Fin 4, hasBit a.val s.val = true → hasBit f.val s.val = true := by decide
  obtain ⟨a', rfl⟩ := Int.eq_ofNat_of_zero_le ha.1
  obtain ⟨f', rfl⟩ := Int.eq_ofNat_of_zero_le hf.1
  have k := key ⟨a', by omega⟩ ⟨f', by omega⟩
  refine k.trans ⟨fun h s hs => ?_, fun h s => h s.val (inB_iff.2 (by omega))⟩
  have hs' := inB_iff.1 hs
  obtain ⟨s', rfl⟩ := Int.eq_ofNat_of_zero_le hs'.1
  exact h ⟨s', by omega⟩
theorem both_pos {a b : Int} (hb : 0 ≤ b) (h : both a b = a) : 0 ≤ a := by
  by_cases hn : a < 0
  · unfold both at h
    rw [if_pos hn] at h
    omega
  · omega
theorem both_trans {a b c : Int} (ha : -1 ≤ a ∧ a ≤ 15) (hb : 0 ≤ b ∧ b ≤ 15) (hc : 0 ≤ c ∧ c ≤ 15) (h1 : both a b = a) (h2 : both b c = b) : 0 ≤ a ∧ both a c = a := by
  have h0 := both_pos hb.1 h1
  refine ⟨h0, (sub_iff ⟨h0, ha.2⟩ hc).2 fun s hs h => ?_⟩
  exact (sub_iff hb hc).1 h2 s hs ((sub_iff ⟨h0, ha.2⟩ hb).1 h1 s hs h)
theorem both_with {a f s : Int} (ha : 0 ≤ a ∧ a ≤ 15) (hf : 0 ≤ f ∧ f ≤ 15) (hs : inB s 0 3 = true) (h : both a f = a) : both a (withBit f s) = a ∧ both (withBit a s) (withBit f s) = withBit a s := by
  have wa := withBit_facts ha.1 ha.2 hs
  have wf := withBit_facts hf.1 hf.2 hs
  have h' := (sub_iff ha hf).1 h
  constructor
  · refine (sub_iff ha wf.1).2 fun t ht k => ?_
    by_cases e : t = s
    · subst e; exact wf.2.1
    · rw [wf.2.2.1 t ht e]; exact h' t ht k
  · refine (sub_iff wa.1 wf.1).2 fun t ht k => ?_
    by_cases e : t = s
    · subst e; exact wf.2.1
    · rw [wf.2.2.1 t ht e]; rw [wa.2.2.1 t ht e] at k; exact h' t ht k

/-! ### Code that is safe -/
theorem safeFrom_all {n : Nat} {F : List Int} : ∀ (c : List Opx) (i : Nat), safeFrom n F i c = true → ∀ j (hj : j < c.length), safeAt n F (i + j) c[j] = true
  | [], _, _, _, hj => by simp at hj
  | o :: c, i, h, j, hj => by
    simp only [safeFrom, Bool.and_eq_true] at h
    cases j with
    | zero => simpa using h.1
    | succ j =>
      have := safeFrom_all c (i + 1) h.2 j (by simpa using hj)
      rw [show i + (j + 1) = i + 1 + j by omega]
      simpa using this
theorem opAt_eq {c : List Opx} {i : Int} (h0 : 0 ≤ i) (h1 : i < c.length) : opAt c i = c[i.toNat]'(by omega) := by
  unfold opAt
  rw [List.getD_eq_getElem?_getD, List.getElem?_eq_getElem (by omega)]
  rfl
theorem codeOk_op {c : List Opx} (h : codeOk c = true) {i : Int} (h0 : 0 ≤ i) (h1 : i < c.length) : opOk (opAt c i) = true ∧ (goesTo (opAt c i).k = true → (opAt c i).to < c.length) := by
  rw [opAt_eq h0 h1]
  simp only [codeOk, Bool.and_eq_true, List.all_eq_true] at h
  have k := h.1.1 _ (List.getElem_mem (show i.toNat < c.length by omega))
  simp only [Bool.not_eq_true', Bool.and_eq_false_iff, decide_eq_false_iff_not] at k
  exact ⟨k.1, fun hg => by
    rcases k.2 with k2 | k2
    · rw [hg] at k2; cases k2
    · omega⟩
/-- At a place that one comes to: the next place, and where it goes. -/
structure AtOk (c : List Opx) (i : Int) (bits : Int) : Prop where
  lt : 0 ≤ i ∧ i < c.length
  op : opOk (opAt c i) = true
  to : goesTo (opAt c i).k = true → (opAt c i).to < c.length
  next : (opAt c i).k ≠ 9 → (opAt c i).k ≠ 14 → i + 1 < c.length ∧ both (getI (fullOf c) (i + 1)) (if fillsR (opAt c i).k then withBit bits (opAt c i).r else bits) = getI (fullOf c) (i + 1)
  goes : (opAt c i).k = 8 ∨ (opAt c i).k = 9 ∨ (opAt c i).k = 10 → both (getI (fullOf c) (opAt c i).to) bits = getI (fullOf c) (opAt c i).to
  begins : (opAt c i).k = 5 → both (getI (fullOf c) (opAt c i).to) 1 = getI (fullOf c) (opAt c i).to
theorem settled_of {c : List Opx} (h : codeSafe c = true) : Settled c (fullOf c) ∧ 0 ≤ getI (fullOf c) 0 := by
  unfold codeSafe at h
  rw [Bool.and_eq_true] at h
  have ho := h.1
  simp only [codeOk, Bool.and_eq_true, List.all_eq_true, decide_eq_true_eq] at ho
  exact fullOf_facts (fun o hm => (ho.1.1 o hm).1) ho.1.2
theorem bitsAt {c : List Opx} (h : codeSafe c = true) {i : Int} (h0 : 0 ≤ i) (h1 : i < c.length) : -1 ≤ getI (fullOf c) i ∧ getI (fullOf c) i ≤ 15 := by
  have s := (settled_of h).1
  exact s.2.1 _ (getI_mem h0 (by rw [s.1]; exact h1))
theorem atOk_of {c : List Opx} (h : codeSafe c = true) {i : Int} (h0 : 0 ≤ i) (h1 : i < c.length) (hb : 0 ≤ getI (fullOf c) i) : AtOk c i (getI (fullOf c) i) := by
  have s := (settled_of h).1
  unfold codeSafe at h
  rw [Bool.and_eq_true] at h
  obtain ⟨ho, hs⟩ := h
  have k := codeOk_op ho h0 h1
  have sa := safeFrom_all c 0 hs i.toNat (by omega)
  have st := s.2.2 i.toNat (by omega)
  rw [Nat.zero_add] at sa
  rw [← opAt_eq h0 h1] at sa st
  have e : ((i.toNat : Nat) : Int) = i := by omega
  rw [e] at st
  have st := st hb
  unfold safeAt at sa
  rw [e, decide_eq_false (show ¬ getI (fullOf c) i < 0 by omega), Bool.false_or, Bool.and_eq_true] at sa
  refine ⟨⟨h0, h1⟩, k.1, k.2, fun k9 k14 => ?_, fun hk => ?_, fun hk => ?_⟩
  · have hl : i + 1 < c.length := by
      have s2 := sa.2
      simp only [Bool.or_eq_true, Bool.not_eq_true', beq_eq_false_iff_ne, beq_iff_eq] at s2
      rcases s2 with (s2 | s2) | s2
      · omega
      · exact absurd s2 k9
      · exact absurd s2 k14
    exact ⟨hl, st _ _ (.inl ⟨k9, k14, rfl, hl, rfl⟩)⟩
  · exact st _ _ (.inr (.inl ⟨hk, rfl, k.2 (by rcases hk with e | e | e <;> rw [e] <;> rfl), rfl⟩))
  · exact st _ _ (.inr (.inr ⟨hk, rfl, k.2 (by rw [hk]; rfl), rfl⟩))
def needAt (F : List Int) (i full : Int) : Bool := decide (0 ≤ getI F i) && both (getI F i) full == getI F i
theorem needAt_iff {F : List Int} {i full : Int} : needAt F i full = true ↔ 0 ≤ getI F i ∧ both (getI F i) full = getI F i := by
  unfold needAt
  rw [Bool.and_eq_true, decide_eq_true_eq, beq_iff_eq]
/-- What a run needs at the places to which it goes. -/
structure Need (c : List Opx) (i full : Int) : Prop where
  at_ : AtOk c i (getI (fullOf c) i)
  next : (opAt c i).k ≠ 9 → (opAt c i).k ≠ 14 → (fillsR (opAt c i).k = true ∨ (opAt c i).k = 3 → needAt (fullOf c) (i + 1) (withBit full (opAt c i).r) = true) ∧ (fillsR (opAt c i).k = false → needAt (fullOf c) (i + 1) full = true)
  goes : (opAt c i).k = 8 ∨ (opAt c i).k = 9 ∨ (opAt c i).k = 10 → needAt (fullOf c) (opAt c i).to full = true
  begins : (opAt c i).k = 5 → needAt (fullOf c) (opAt c i).to 1 = true
theorem need_of {c : List Opx} (h : codeSafe c = true) {i full : Int} (h0 : 0 ≤ i) (h1 : i < c.length) (hf : 0 ≤ full ∧ full ≤ 15) (hn : needAt (fullOf c) i full = true) : Need c i full := by
  obtain ⟨n0, n1⟩ := needAt_iff.1 hn
  have a := atOk_of h h0 h1 n0
  have b := bitsAt h h0 h1
  obtain ⟨_, _, _, _, kr, _, kt⟩ := opOk_parts a.op
  refine ⟨a, fun k9 k14 => ?_, fun hk => ?_, fun hk => ?_⟩
  · obtain ⟨hl, hb⟩ := a.next k9 k14
    have b2 := bitsAt h (i := i + 1) (by omega) hl
    have hw := both_with ⟨n0, b.2⟩ hf (inB_iff.2 kr) n1
    have wf := (withBit_facts hf.1 hf.2 (inB_iff.2 kr)).1
    have wa := (withBit_facts n0 b.2 (inB_iff.2 kr)).1
    constructor
    · rintro (hk | hk)
      · rw [if_pos hk] at hb
        exact needAt_iff.2 (both_trans b2 wa wf hb hw.2)
      · rw [if_neg (by rw [hk]; decide)] at hb
        exact needAt_iff.2 (both_trans b2 ⟨n0, b.2⟩ wf hb hw.1)
    · intro hk
      rw [hk] at hb
      exact needAt_iff.2 (both_trans b2 ⟨n0, b.2⟩ hf hb n1)
  · have hg : goesTo (opAt c i).k = true := by rcases hk with e | e | e <;> rw [e] <;> rfl
    exact needAt_iff.2 (both_trans (bitsAt h kt.1 (a.to hg)) ⟨n0, b.2⟩ hf (a.goes hk) n1)
  · have hg : goesTo (opAt c i).k = true := by rw [hk]; rfl
    have e := a.begins hk
    exact needAt_iff.2 ⟨both_pos (by omega) e, e⟩

/-! ### One run is turned -/
theorem FitR.keep {w w' : Wd} {f : List Int} {k : Nat} {r : Rn} (h : FitR w f k r) (hc : w'.code = w.code) (hn : r.state = 2 → w'.now = w.now) (ha : ∀ x, aliveIn w.runs x = true → aliveIn w'.runs x = true) (hq : r.id ∈ w'.queue ↔ r.id ∈ w.queue) : FitR w' f k r :=
  ⟨h.ok, h.id, by rw [hc]; exact h.at_, by rw [hq]; exact h.queue, fun hs => by
    have := h.waits hs
    unfold waitsOk at this ⊢
    rw [hc, hn hs]
    exact this, fun x hx => ha x (h.links x hx), fun x hx => ha x (h.watched x hx), h.need⟩
end Go.Proofs.Ytmidnaafljgbiaa
