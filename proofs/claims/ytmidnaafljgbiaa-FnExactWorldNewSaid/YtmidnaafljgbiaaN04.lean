/- Parts of the proof, in one text. -/
import Derived.Test.YtmidnaafljgbiaaN03
import Derived.Test.YtmidnaafljgbiaaN01
/- Sizes of the program's types: steps and worlds. -/
namespace Go.Proofs.Ytmidnaafljgbiaa
open Go.RowKit
theorem siO : (Try.prog.info? tO).map (·.size) = some 6 := by kernel_rfl
theorem siW : (Try.prog.info? tW).map (·.size) = some 7 := by kernel_rfl
theorem siSR : (Try.prog.info? 43).map (·.size) = some 1 := by kernel_rfl
theorem siSO : (Try.prog.info? 42).map (·.size) = some 1 := by kernel_rfl
theorem agO (W : World) : (isAgg tO).run Try.prog W = .ok true W := by kernel_rfl
theorem agW (W : World) : (isAgg tW).run Try.prog W = .ok true W := by kernel_rfl
theorem nfO : (Try.prog.info? tO).map (fun i => (i.zero, i.size, i.bytes)) = some (some (.agg #[.int .i64 0, .int .i64 0, .int .i64 0, .int .i64 0, .int .i64 0, .int .i64 0]), 6, 48) := by kernel_rfl
end Go.Proofs.Ytmidnaafljgbiaa
/- Steps and their code in plain words: what is ok, what is full, what is safe. No Go and no memory here. -/
namespace Go.Proofs.Ytmidnaafljgbiaa

/-- What a step of a kind has: a slot, a second one, a place, a value. -/
def opForm (k : Int) : List Bool :=
  if k = 1 then [true, false, false, true]
  else if k = 2 ∨ k = 3 ∨ k = 6 ∨ k = 7 then [true, true, false, false]
  else if k = 4 ∨ k = 11 ∨ k = 12 ∨ k = 14 then [true, false, false, false]
  else if k = 5 then [true, false, true, false]
  else if k = 8 then [true, true, true, true]
  else if k = 9 then [false, false, true, false]
  else if k = 10 then [true, false, true, true]
  else if k = 13 then [false, false, false, true]
  else []
def formAt (k : Int) (i : Nat) : Bool := (opForm k).getD i false
def opOk (o : Opx) : Bool :=
  inB o.k 1 14 && valOk o.v && (!(o.k == 8) || (o.v.k == 1 && decide (1 ≤ o.v.n))) && (!(o.k == 13) || (o.v.k == 1 && inB o.v.n 0 1))
    && (formAt o.k 0 && inB o.r 0 3 || o.r == 0) && (formAt o.k 1 && inB o.s 0 3 || o.s == 0) && (formAt o.k 2 && inB o.to 0 15 || o.to == 0) && (formAt o.k 3 || o.v == Vl.zero)

def goesTo (k : Int) : Bool := k == 5 || k == 8 || k == 9 || k == 10
def fillsR (k : Int) : Bool := k == 1 || k == 2 || k == 4 || k == 5 || k == 7 || k == 8
def opUses (o : Opx) : List Int :=
  if o.k = 2 then [o.s] else if o.k = 3 ∨ o.k = 6 then [o.r, o.s] else if o.k = 10 ∨ o.k = 11 ∨ o.k = 12 ∨ o.k = 14 then [o.r] else []
def codeOk (c : List Opx) : Bool := c.all (fun o => opOk o && !(goesTo o.k && decide ((c.length : Int) ≤ o.to))) && decide (1 ≤ c.length) && decide (c.length ≤ 16)

/-- The bits that two have; below 0 all. -/
def both (a b : Int) : Int :=
  if a < 0 then b else (if hasBit a 0 && hasBit b 0 then 1 else 0) + (if hasBit a 1 && hasBit b 1 then 2 else 0) + (if hasBit a 2 && hasBit b 2 then 4 else 0) + (if hasBit a 3 && hasBit b 3 then 8 else 0)
def getI (l : List Int) (i : Int) : Int := l.getD i.toNat 0
def merge (f : List Int) (at_ bits : Int) : List Int × Bool :=
  if (f.length : Int) ≤ at_ then (f, false) else if both (getI f at_) bits = getI f at_ then (f, false) else (f.set at_.toNat (both (getI f at_) bits), true)

/-- On from a step: first where it goes, then the next one. -/
def stepFrom (o : Opx) (f : List Int) (i : Int) : List Int × Bool :=
  let bits := getI f i
  let on := if fillsR o.k then withBit bits o.r else bits
  if o.k = 9 then merge f o.to bits
  else if o.k = 14 then (f, false)
  else
    let a := if o.k = 5 then merge f o.to 1 else if o.k = 8 ∨ o.k = 10 then merge f o.to bits else (f, false)
    let b := merge a.1 (i + 1) on
    (b.1, b.2 || a.2)

/-- One round over the steps, from place i on. -/
def sweepFrom : List Opx → Int → List Int × Bool → List Int × Bool
  | [], _, s => s
  | o :: c, i, s => sweepFrom c (i + 1) (if 0 ≤ getI s.1 i then ((stepFrom o s.1 i).1, s.2 || (stepFrom o s.1 i).2) else s)
def sweep (c : List Opx) (f : List Int) : List Int × Bool := sweepFrom c 0 (f, false)
/-- What a list of bits weighs: a round that turns anything makes it less. -/
def weight : List Int → Nat
  | [] => 0
  | x :: l => (if x < 0 then 16 else x.toNat) + weight l
def settle (c : List Opx) (f : List Int) : List Int :=
  if _h : (sweep c f).2 = true ∧ weight (sweep c f).1 < weight f then settle c (sweep c f).1 else (sweep c f).1
termination_by weight f
def full0 (n : Nat) : List Int := (List.replicate n (-1)).set 0 1
def fullOf (c : List Opx) : List Int := settle c (full0 c.length)

def safeAt (n : Nat) (f : List Int) (i : Nat) (o : Opx) : Bool :=
  decide (getI f i < 0) || ((opUses o).all (fun s => hasBit (getI f i) s) && (!(i + 1 == n) || o.k == 9 || o.k == 14))
def safeFrom (n : Nat) (f : List Int) : Nat → List Opx → Bool
  | _, [] => true
  | i, o :: c => safeAt n f i o && safeFrom n f (i + 1) c
def codeSafe (c : List Opx) : Bool := codeOk c && safeFrom c.length (fullOf c) 0 c

/-! ### What a round does -/
/-- Bits: 0 to 15, or -1. -/
def Bits (f : List Int) : Prop := ∀ x ∈ f, -1 ≤ x ∧ x ≤ 15
theorem getI_set {f : List Int} {i j : Int} (hi : 0 ≤ i) (hj : 0 ≤ j) (hl : i < f.length) (x : Int) : getI (f.set i.toNat x) j = if j = i then x else getI f j := by
  unfold getI
  rw [List.getD_eq_getElem?_getD, List.getElem?_set]
  by_cases h : j = i
  · subst h
    rw [if_pos rfl, if_pos (by omega), if_pos rfl]; rfl
  · rw [if_neg (by omega), if_neg h, List.getD_eq_getElem?_getD]
theorem getI_mem {f : List Int} {i : Int} (hi : 0 ≤ i) (hl : i < f.length) : getI f i ∈ f := by
  unfold getI
  rw [List.getD_eq_getElem?_getD, List.getElem?_eq_getElem (by omega)]
  exact List.getElem_mem _
theorem weight_set {f : List Int} {i : Nat} {x : Int} (hi : i < f.length) (h : (if x < 0 then 16 else x.toNat) < (if f[i] < 0 then 16 else (f[i]).toNat)) : weight (f.set i x) < weight f := by
  induction f generalizing i with
  | nil => simp at hi
  | cons y f ih =>
    cases i with
    | zero => simp only [List.getElem_cons_zero] at h; simp only [List.set_cons_zero, weight]; omega
    | succ i =>
      simp only [List.getElem_cons_succ] at h
      have := ih (by simpa using hi) h
      simp only [List.set_cons_succ, weight]
      omega
theorem both_facts {a b : Int} (ha : -1 ≤ a ∧ a ≤ 15) (hb : 0 ≤ b ∧ b ≤ 15) : (0 ≤ both a b ∧ both a b ≤ 15) ∧ (0 ≤ a → both a b ≤ a) ∧ both (both a b) b = both a b ∧ (∀ s, inB s 0 3 = true → 0 ≤ a → hasBit (both a b) s = (hasBit a s && hasBit b s)) := by
  have key : ∀ a b : Fin 16, (0 ≤ both a.val b.val ∧ both a.val b.val ≤ 15) ∧ both a.val b.val ≤ a.val ∧ both (both a.val b.val) b.val = both a.val b.val ∧ (∀ s : Fin 4, hasBit (both a.val b.val) s.val = (hasBit a.val s.val && hasBit b.val s.val)) ∧ both b.val b.val = b.val := by decide
  obtain ⟨b', rfl⟩ := Int.eq_ofNat_of_zero_le hb.1
  by_cases hn : a < 0
  · have k := key 0 ⟨b', by omega⟩
    have e : both a b' = b' := by unfold both; rw [if_pos hn]
    refine ⟨by rw [e]; omega, fun h => by omega, by rw [e]; exact k.2.2.2.2, fun s _ h => by omega⟩
  · obtain ⟨a', rfl⟩ := Int.eq_ofNat_of_zero_le (by omega : 0 ≤ a)
    have k := key ⟨a', by omega⟩ ⟨b', by omega⟩
    refine ⟨k.1, fun _ => k.2.1, k.2.2.1, fun s hs _ => ?_⟩
    have hs' := inB_iff.1 hs
    obtain ⟨s', rfl⟩ := Int.eq_ofNat_of_zero_le hs'.1
    exact k.2.2.2.1 ⟨s', by omega⟩

theorem merge_facts {f : List Int} (hf : Bits f) {at_ bits : Int} (h0 : 0 ≤ at_) (hb : 0 ≤ bits ∧ bits ≤ 15) :
    (merge f at_ bits).1.length = f.length ∧ Bits (merge f at_ bits).1 ∧ ((merge f at_ bits).2 = true → weight (merge f at_ bits).1 < weight f) ∧ ((merge f at_ bits).2 = false → (merge f at_ bits).1 = f ∧ (at_ < f.length → both (getI f at_) bits = getI f at_)) ∧
      (∀ j : Int, 0 ≤ j → j < f.length → 0 ≤ getI f j → 0 ≤ getI (merge f at_ bits).1 j) ∧ (∀ j : Int, 0 ≤ j → j ≠ at_ → getI (merge f at_ bits).1 j = getI f j) := by
  unfold merge
  by_cases h1 : (f.length : Int) ≤ at_
  · rw [if_pos h1]
    exact ⟨rfl, hf, fun h => (by cases h), fun _ => ⟨rfl, fun h => by omega⟩, fun _ _ _ h => h, fun _ _ _ => rfl⟩
  rw [if_neg h1]
  by_cases h2 : both (getI f at_) bits = getI f at_
  · rw [if_pos h2]
    exact ⟨rfl, hf, fun h => (by cases h), fun _ => ⟨rfl, fun _ => h2⟩, fun _ _ _ h => h, fun _ _ _ => rfl⟩
  rw [if_neg h2]
  have hm := hf _ (getI_mem h0 (by omega))
  obtain ⟨g1, g2, _⟩ := both_facts hm hb
  refine ⟨by simp, fun x hx => ?_, fun _ => ?_, fun h => (by cases h), fun j hj0 hjl hj => ?_, fun j hj0 hj => ?_⟩
  · rcases List.mem_or_eq_of_mem_set hx with hx | rfl
    · exact hf x hx
    · exact ⟨by omega, g1.2⟩
  · refine weight_set (by omega) ?_
    have e : f[at_.toNat]'(by omega) = getI f at_ := by unfold getI; rw [List.getD_eq_getElem?_getD, List.getElem?_eq_getElem (by omega)]; rfl
    rw [e, if_neg (by omega)]
    split
    · omega
    · rename_i hn
      have := g2 (by omega)
      omega
  · show 0 ≤ getI (f.set _ _) j
    rw [getI_set h0 hj0 (by omega)]
    split
    · exact g1.1
    · exact hj
  · show getI (f.set _ _) j = _
    rw [getI_set h0 hj0 (by omega), if_neg hj]

theorem withBit_le {f s : Int} (h : 0 ≤ f ∧ f ≤ 15) (hs : inB s 0 3 = true) : 0 ≤ withBit f s ∧ withBit f s ≤ 15 := by
  have key : ∀ f : Fin 16, ∀ s : Fin 4, 0 ≤ withBit f.val s.val ∧ withBit f.val s.val ≤ 15 := by decide
  have hs' := inB_iff.1 hs
  obtain ⟨f', rfl⟩ := Int.eq_ofNat_of_zero_le h.1
  obtain ⟨s', rfl⟩ := Int.eq_ofNat_of_zero_le hs'.1
  exact key ⟨f', by omega⟩ ⟨s', by omega⟩

theorem opOk_parts {o : Opx} (h : opOk o = true) : (1 ≤ o.k ∧ o.k ≤ 14) ∧ valOk o.v = true ∧ (o.k = 8 → o.v.k = 1 ∧ 1 ≤ o.v.n) ∧ (o.k = 13 → o.v.k = 1 ∧ 0 ≤ o.v.n ∧ o.v.n ≤ 1) ∧ (0 ≤ o.r ∧ o.r ≤ 3) ∧ (0 ≤ o.s ∧ o.s ≤ 3) ∧ (0 ≤ o.to ∧ o.to ≤ 15) := by
  simp only [opOk, Bool.and_eq_true, Bool.or_eq_true, Bool.not_eq_true', beq_eq_false_iff_ne, beq_iff_eq, decide_eq_true_eq, inB_iff] at h
  obtain ⟨⟨⟨⟨⟨⟨⟨h1, h2⟩, h3⟩, h4⟩, h5⟩, h6⟩, h7⟩, _⟩ := h
  refine ⟨h1, h2, fun hk => h3.resolve_left (fun hn => hn hk), fun hk => h4.resolve_left (fun hn => hn hk), ?_, ?_, ?_⟩
  · rcases h5 with h5 | h5
    · exact h5.2
    · omega
  · rcases h6 with h6 | h6
    · exact h6.2
    · omega
  · rcases h7 with h7 | h7
    · exact h7.2
    · omega

/-- Where a run may come from a step: to a place with bits. -/
def Comes_ (o : Opx) (n : Nat) (i : Int) (bits : Int) (j : Int) (b : Int) : Prop :=
  (o.k ≠ 9 ∧ o.k ≠ 14 ∧ j = i + 1 ∧ i + 1 < n ∧ b = (if fillsR o.k then withBit bits o.r else bits)) ∨
  ((o.k = 8 ∨ o.k = 9 ∨ o.k = 10) ∧ j = o.to ∧ j < n ∧ b = bits) ∨ (o.k = 5 ∧ j = o.to ∧ j < n ∧ b = 1)

theorem stepFrom_facts {o : Opx} (ho : opOk o = true) {f : List Int} (hf : Bits f) {i : Int} (h0 : 0 ≤ i) (hi : i < f.length) (hb : 0 ≤ getI f i) :
    (stepFrom o f i).1.length = f.length ∧ Bits (stepFrom o f i).1 ∧ ((stepFrom o f i).2 = true → weight (stepFrom o f i).1 < weight f) ∧
      ((stepFrom o f i).2 = false → (stepFrom o f i).1 = f ∧ ∀ j b, Comes_ o f.length i (getI f i) j b → both (getI f j) b = getI f j) ∧
      (∀ j : Int, 0 ≤ j → j < f.length → 0 ≤ getI f j → 0 ≤ getI (stepFrom o f i).1 j) := by
  obtain ⟨k1, _, _, _, kr, _, kt⟩ := opOk_parts ho
  have hm := hf _ (getI_mem h0 hi)
  have hbits : 0 ≤ getI f i ∧ getI f i ≤ 15 := ⟨hb, hm.2⟩
  have hon : 0 ≤ (if fillsR o.k then withBit (getI f i) o.r else getI f i) ∧ (if fillsR o.k then withBit (getI f i) o.r else getI f i) ≤ 15 := by
    split
    · exact withBit_le hbits (inB_iff.2 kr)
    · exact hbits
  have e : stepFrom o f i = (if o.k = 9 then merge f o.to (getI f i) else if o.k = 14 then (f, false) else ((merge (if o.k = 5 then merge f o.to 1 else if o.k = 8 ∨ o.k = 10 then merge f o.to (getI f i) else (f, false)).1 (i + 1) (if fillsR o.k then withBit (getI f i) o.r else getI f i)).1, (merge (if o.k = 5 then merge f o.to 1 else if o.k = 8 ∨ o.k = 10 then merge f o.to (getI f i) else (f, false)).1 (i + 1) (if fillsR o.k then withBit (getI f i) o.r else getI f i)).2 || (if o.k = 5 then merge f o.to 1 else if o.k = 8 ∨ o.k = 10 then merge f o.to (getI f i) else (f, false)).2)) := rfl
  rw [e]
  clear e
  by_cases h9 : o.k = 9
  · rw [if_pos h9]
    obtain ⟨g1, g2, g3, g4, g5, _⟩ := merge_facts hf kt.1 hbits
    refine ⟨g1, g2, g3, fun h => ⟨(g4 h).1, ?_⟩, g5⟩
    rintro j b (⟨h, _⟩ | ⟨_, rfl, hl, rfl⟩ | ⟨h, _⟩)
    · exact absurd h9 h
    · exact (g4 h).2 hl
    · omega
  rw [if_neg h9]
  by_cases h14 : o.k = 14
  · rw [if_pos h14]
    refine ⟨rfl, hf, fun h => (by cases h), fun _ => ⟨rfl, ?_⟩, fun _ _ _ h => h⟩
    rintro j b (⟨_, h, _⟩ | ⟨h, _⟩ | ⟨h, _⟩)
    · exact absurd h14 h
    · omega
    · omega
  rw [if_neg h14]
  -- where it goes
  obtain ⟨a, ha⟩ : ∃ a, a = (if o.k = 5 then merge f o.to 1 else if o.k = 8 ∨ o.k = 10 then merge f o.to (getI f i) else (f, false)) := ⟨_, rfl⟩
  have fa : a.1.length = f.length ∧ Bits a.1 ∧ (a.2 = true → weight a.1 < weight f) ∧ (a.2 = false → a.1 = f ∧ ∀ j b, (((o.k = 8 ∨ o.k = 9 ∨ o.k = 10) ∧ j = o.to ∧ j < f.length ∧ b = getI f i) ∨ (o.k = 5 ∧ j = o.to ∧ j < f.length ∧ b = 1)) → both (getI f j) b = getI f j) ∧ (∀ j : Int, 0 ≤ j → j < f.length → 0 ≤ getI f j → 0 ≤ getI a.1 j) := by
    by_cases h5 : o.k = 5
    · rw [if_pos h5] at ha
      subst ha
      obtain ⟨g1, g2, g3, g4, g5, _⟩ := merge_facts hf kt.1 (bits := 1) (by omega)
      refine ⟨g1, g2, g3, fun h => ⟨(g4 h).1, ?_⟩, g5⟩
      rintro j b (⟨h, _⟩ | ⟨_, rfl, hl, rfl⟩)
      · omega
      · exact (g4 h).2 hl
    · rw [if_neg h5] at ha
      by_cases h8 : o.k = 8 ∨ o.k = 10
      · rw [if_pos h8] at ha
        subst ha
        obtain ⟨g1, g2, g3, g4, g5, _⟩ := merge_facts hf kt.1 hbits
        refine ⟨g1, g2, g3, fun h => ⟨(g4 h).1, ?_⟩, g5⟩
        rintro j b (⟨_, rfl, hl, rfl⟩ | ⟨h, _⟩)
        · exact (g4 h).2 hl
        · omega
      · rw [if_neg h8] at ha
        subst ha
        refine ⟨rfl, hf, fun h => (by cases h), fun _ => ⟨rfl, ?_⟩, fun _ _ _ h => h⟩
        rintro j b (⟨h, _⟩ | ⟨h, _⟩) <;> omega
  rw [← ha]
  obtain ⟨a1, a2, a3, a4, a5⟩ := fa
  obtain ⟨g1, g2, g3, g4, g5, _⟩ := merge_facts a2 (at_ := i + 1) (by omega) hon
  refine ⟨g1.trans a1, g2, fun h => ?_, fun h => ?_, fun j hj hl hp => g5 j hj (by omega) (a5 j hj hl hp)⟩
  · simp only [Bool.or_eq_true] at h
    rcases h with h | h
    · have := g3 h
      cases hx : a.2 with
      | true => exact Nat.lt_trans this (a3 hx)
      | false => rw [(a4 hx).1] at this; rw [(a4 hx).1]; exact this
    · have := a3 h
      cases hx : (merge a.1 (i + 1) (if fillsR o.k then withBit (getI f i) o.r else getI f i)).2 with
      | true => exact Nat.lt_trans (g3 hx) this
      | false => rw [(g4 hx).1]; exact this
  · simp only [Bool.or_eq_false_iff] at h
    obtain ⟨e1, e2⟩ := a4 h.2
    obtain ⟨e3, e4⟩ := g4 h.1
    refine ⟨e3.trans e1, ?_⟩
    rintro j b (⟨_, _, rfl, hl, rfl⟩ | hc | hc)
    · rw [e1] at e4
      exact e4 hl
    · exact e2 j b (.inl hc)
    · exact e2 j b (.inr hc)

theorem sweepFrom_facts : ∀ (c : List Opx) (i : Int) (s : List Int × Bool), (∀ o ∈ c, opOk o = true) → Bits s.1 → 0 ≤ i → i + c.length = s.1.length →
    (sweepFrom c i s).1.length = s.1.length ∧ Bits (sweepFrom c i s).1 ∧ ((sweepFrom c i s).2 = true → s.2 = true ∨ weight (sweepFrom c i s).1 < weight s.1) ∧ weight (sweepFrom c i s).1 ≤ weight s.1 ∧
      ((sweepFrom c i s).2 = false → s.2 = false ∧ (sweepFrom c i s).1 = s.1 ∧ ∀ k (hk : k < c.length), 0 ≤ getI s.1 (i + k) → ∀ j b, Comes_ (c[k]) s.1.length (i + k) (getI s.1 (i + k)) j b → both (getI s.1 j) b = getI s.1 j) ∧
      (∀ j : Int, 0 ≤ j → j < s.1.length → 0 ≤ getI s.1 j → 0 ≤ getI (sweepFrom c i s).1 j) := by
  intro c
  induction c with
  | nil => intro i s _ hb _ _; exact ⟨rfl, hb, fun h => .inl h, Nat.le_refl _, fun h => ⟨h, rfl, fun k hk => by simp at hk⟩, fun _ _ _ h => h⟩
  | cons o c ih =>
    intro i s ho hb h0 hl
    simp only [List.length_cons] at hl
    obtain ⟨s', hs'⟩ : ∃ s', s' = (if 0 ≤ getI s.1 i then ((stepFrom o s.1 i).1, s.2 || (stepFrom o s.1 i).2) else s) := ⟨_, rfl⟩
    have fs : s'.1.length = s.1.length ∧ Bits s'.1 ∧ (s'.2 = true → s.2 = true ∨ weight s'.1 < weight s.1) ∧ weight s'.1 ≤ weight s.1 ∧ (s'.2 = false → s.2 = false ∧ s'.1 = s.1 ∧ (0 ≤ getI s.1 i → ∀ j b, Comes_ o s.1.length i (getI s.1 i) j b → both (getI s.1 j) b = getI s.1 j)) ∧ (∀ j : Int, 0 ≤ j → j < s.1.length → 0 ≤ getI s.1 j → 0 ≤ getI s'.1 j) := by
      by_cases hg : 0 ≤ getI s.1 i
      · rw [if_pos hg] at hs'
        subst hs'
        obtain ⟨g1, g2, g3, g4, g5⟩ := stepFrom_facts (ho o List.mem_cons_self) hb h0 (by omega) hg
        refine ⟨g1, g2, fun h => ?_, ?_, fun h => ?_, g5⟩
        · simp only [Bool.or_eq_true] at h
          exact h.imp id g3
        · cases hx : (stepFrom o s.1 i).2 with
          | true => exact Nat.le_of_lt (g3 hx)
          | false => rw [(g4 hx).1]; exact Nat.le_refl _
        · simp only [Bool.or_eq_false_iff] at h
          exact ⟨h.1, (g4 h.2).1, fun _ => (g4 h.2).2⟩
      · rw [if_neg hg] at hs'
        subst hs'
        exact ⟨rfl, hb, fun h => .inl h, Nat.le_refl _, fun h => ⟨h, rfl, fun h => absurd h hg⟩, fun _ _ _ h => h⟩
    obtain ⟨f1, f2, f3, f4, f5, f6⟩ := fs
    obtain ⟨g1, g2, g3, g4, g5, g6⟩ := ih (i + 1) s' (fun x hx => ho x (List.mem_cons_of_mem _ hx)) f2 (by omega) (by omega)
    show (sweepFrom c (i + 1) _).1.length = _ ∧ _
    rw [sweepFrom, ← hs']
    refine ⟨g1.trans f1, g2, fun h => ?_, by omega, fun h => ?_, fun j hj hl hp => g6 j hj (by omega) (f6 j hj hl hp)⟩
    · rcases g3 h with h | h
      · rcases f3 h with h | h
        · exact .inl h
        · exact .inr (by omega)
      · exact .inr (by omega)
    · obtain ⟨k1, k2, k3⟩ := g5 h
      obtain ⟨m1, m2, m3⟩ := f5 k1
      refine ⟨m1, k2.trans m2, fun k hk hp => ?_⟩
      cases k with
      | zero => simpa using m3 (by simpa using hp)
      | succ k =>
        have hk' : k < c.length := by simpa using hk
        have e : i + ((k + 1 : Nat) : Int) = i + 1 + k := by omega
        rw [e] at hp ⊢
        rw [m2] at k3
        simpa using k3 k hk' hp

theorem sweep_facts {c : List Opx} {f : List Int} (ho : ∀ o ∈ c, opOk o = true) (hb : Bits f) (hl : c.length = f.length) :
    (sweep c f).1.length = f.length ∧ Bits (sweep c f).1 ∧ ((sweep c f).2 = true → weight (sweep c f).1 < weight f) ∧ ((sweep c f).2 = false → (sweep c f).1 = f) ∧ (∀ j : Int, 0 ≤ j → j < f.length → 0 ≤ getI f j → 0 ≤ getI (sweep c f).1 j) := by
  obtain ⟨g1, g2, g3, _, g5, g6⟩ := sweepFrom_facts c 0 (f, false) ho hb (by omega) (by simp [hl])
  exact ⟨g1, g2, fun h => (g3 h).resolve_left (by simp), fun h => (g5 h).2.1, g6⟩

/-- A round more. -/
theorem settle_on {c : List Opx} {f : List Int} (ho : ∀ o ∈ c, opOk o = true) (hb : Bits f) (hl : c.length = f.length) (hm : (sweep c f).2 = true) : settle c f = settle c (sweep c f).1 := by
  rw [settle, dif_pos ⟨hm, (sweep_facts ho hb hl).2.2.1 hm⟩]
theorem settle_end {c : List Opx} {f : List Int} (hm : (sweep c f).2 = false) : settle c f = (sweep c f).1 := by
  rw [settle, dif_neg (by simp [hm])]

/-- What has settled: where a run may come, no more is full than ahead of it. -/
def Settled (c : List Opx) (f : List Int) : Prop :=
  f.length = c.length ∧ Bits f ∧ ∀ k (hk : k < c.length), 0 ≤ getI f k → ∀ j b, Comes_ (c[k]) c.length k (getI f k) j b → both (getI f j) b = getI f j
theorem settle_facts {c : List Opx} (ho : ∀ o ∈ c, opOk o = true) : ∀ (n : Nat) (f : List Int), weight f ≤ n → Bits f → c.length = f.length → Settled c (settle c f) ∧ (∀ j : Int, 0 ≤ j → j < f.length → 0 ≤ getI f j → 0 ≤ getI (settle c f) j) := by
  intro n
  induction n with
  | zero =>
    intro f hw hb hl
    obtain ⟨g1, g2, g3, g4, g5⟩ := sweep_facts ho hb hl
    cases hm : (sweep c f).2 with
    | true => have := g3 hm; omega
    | false =>
      rw [settle_end hm, g4 hm]
      obtain ⟨_, _, _, _, k5, _⟩ := sweepFrom_facts c 0 (f, false) ho hb (by omega) (by simp [hl])
      refine ⟨⟨hl.symm, hb, fun k hk hp j b hc => ?_⟩, fun _ _ _ h => h⟩
      have := (k5 hm).2.2 k hk
      simp only [Int.zero_add] at this
      exact this hp j b (by rw [← hl]; exact hc)
  | succ n ih =>
    intro f hw hb hl
    obtain ⟨g1, g2, g3, g4, g5⟩ := sweep_facts ho hb hl
    cases hm : (sweep c f).2 with
    | true =>
      rw [settle_on ho hb hl hm]
      have := g3 hm
      obtain ⟨k1, k2⟩ := ih (sweep c f).1 (by omega) g2 (by omega)
      exact ⟨k1, fun j hj hl hp => k2 j hj (by omega) (g5 j hj hl hp)⟩
    | false =>
      rw [settle_end hm, g4 hm]
      obtain ⟨_, _, _, _, k5, _⟩ := sweepFrom_facts c 0 (f, false) ho hb (by omega) (by simp [hl])
      refine ⟨⟨hl.symm, hb, fun k hk hp j b hc => ?_⟩, fun _ _ _ h => h⟩
      have := (k5 hm).2.2 k hk
      simp only [Int.zero_add] at this
      exact this hp j b (by rw [← hl]; exact hc)

theorem bits_full0 (n : Nat) : Bits (full0 n) := by
  intro x hx
  unfold full0 at hx
  rcases List.mem_or_eq_of_mem_set hx with hx | rfl
  · rw [List.mem_replicate] at hx
    omega
  · omega
theorem full0_length (n : Nat) : (full0 n).length = n := by simp [full0]
theorem fullOf_facts {c : List Opx} (ho : ∀ o ∈ c, opOk o = true) (h1 : 1 ≤ c.length) : Settled c (fullOf c) ∧ 0 ≤ getI (fullOf c) 0 := by
  obtain ⟨g1, g2⟩ := settle_facts ho _ (full0 c.length) (Nat.le_refl _) (bits_full0 _) (full0_length _).symm
  refine ⟨g1, g2 0 (by omega) (by rw [full0_length]; omega) ?_⟩
  unfold full0
  have := getI_set (f := List.replicate c.length (-1)) (i := 0) (j := 0) (by omega) (by omega) (by simp; omega) 1
  rw [if_pos rfl] at this
  show 0 ≤ getI (List.set _ 0 1) 0
  have e : (0 : Int).toNat = 0 := rfl
  rw [e] at this
  rw [this]
  omega

end Go.Proofs.Ytmidnaafljgbiaa
/- What a step of a kind has. -/
namespace Go.Proofs.Ytmidnaafljgbiaa
open Go.RowKit
set_option maxRecDepth 100000

def encB (b : Bool) : List Value := [.bool b]
theorem encB_length (b : Bool) : (encB b).length = 1 := rfl
def rowB (A : Option Addr) (c : Nat) (xs : List Bool) : Asn := row encB 1 4 A c xs
theorem rowB_blk {w0 w : World} {f : List Nat} {L : List Asn} {g : Nat} {b0 b1 b2 b3 : Bool} (M : Mem w0 f w (blk g 4 [.bool b0, .bool b1, .bool b2, .bool b3] :: L)) : Mem w0 f w (rowB (some ⟨g, 0, none⟩) 4 [b0, b1, b2, b3] :: L) :=
  Mem.row_of encB_length (xs := [b0, b1, b2, b3]) M rfl (by simp)
theorem rowB_nil {w0 w : World} {f : List Nat} {L : List Asn} {g : Nat} (M : Mem w0 f w (blk g 4 [] :: L)) : Mem w0 f w (rowB (some ⟨g, 0, none⟩) 0 [] :: L) :=
  Mem.row_of encB_length (xs := []) M rfl (by simp)
def FormPost (k : Int) (w0 : World) (f : List Nat) (L : List Asn) (e : Ending) (w' : World) : Prop := ∃ (A : Option Addr) (c : Nat), e = .returned (.slice A (opForm k).length c) ∧ Mem w0 f w' (rowB A c (opForm k) :: L)
set_option maxHeartbeats 4000000 in
theorem sForm (k : Int) {w0 w : World} {f : List Nat} {L : List Asn} (M : Mem w0 f w L) : Calls Try.prog 126 #[.int .i64 k] w (FormPost k w0 f L) := by
  have HF : Hid (∀ W g b0 b1 b2 b3, opForm k = [b0, b1, b2, b3] → Mem w0 f W (blk g 4 [.bool b0, .bool b1, .bool b2, .bool b3] :: L) → FormPost k w0 f L (.returned (.slice (some ⟨g, 0, none⟩) 4 4)) W) := fun W g b0 b1 b2 b3 h M => ⟨_, _, by rw [h]; rfl, by rw [h]; exact rowB_blk M⟩
  have HN : Hid (∀ W g, opForm k = [] → Mem w0 f W (blk g 4 [] :: L) → FormPost k w0 f L (.returned (.slice (some ⟨g, 0, none⟩) 0 0)) W) := fun W g h M => ⟨_, _, by rw [h]; rfl, by rw [h]; exact rowB_nil M⟩
  go_enter Try.func126, Try.ntmps126
  go_wp2
  all_goals (refine nmw (G := fun W => bodyPost _ _ _ _ _ W) ?_; clear M; (try clear F); intro w1 M F)
  all_goals go_ret
  all_goals (simp only [beq_iff_eq, beq_eq_false_iff_ne, ne_eq] at *)
  all_goals (first | (refine HF.out _ _ _ _ _ _ ?_ M; subst_vars; rfl) | (refine HN.out _ _ ?_ M; simp [opForm, *]))
end Go.Proofs.Ytmidnaafljgbiaa
/- What kinds of steps do. -/
namespace Go.Proofs.Ytmidnaafljgbiaa
open Go.RowKit
set_option maxRecDepth 100000

set_option maxHeartbeats 1000000 in
theorem sGoes (k : Int) (w : World) : Calls Try.prog 114 #[.int .i64 k] w fun e w' => e = .returned (.bool (goesTo k)) ∧ w = w' := by
  have h : goesTo k = true ∨ goesTo k = false := by cases goesTo k <;> simp
  unfold goesTo at *
  go_enter Try.func114, Try.ntmps114
  go_wp2
  all_goals go_ret
  all_goals exact ⟨by simp_all, rfl⟩
set_option maxHeartbeats 1000000 in
theorem sFills (k : Int) (w : World) : Calls Try.prog 127 #[.int .i64 k] w fun e w' => e = .returned (.bool (fillsR k)) ∧ w = w' := by
  unfold fillsR
  go_enter Try.func127, Try.ntmps127
  go_wp2
  all_goals go_ret
  all_goals exact ⟨by simp_all, rfl⟩
abbrev opArr (o : Opx) : Array Value := #[.int .i64 o.k, .int .i64 o.r, .int .i64 o.s, .int .i64 o.to, .int .i64 o.v.k, .int .i64 o.v.n]
def UsesPost (o : Opx) (w0 : World) (f : List Nat) (L : List Asn) (e : Ending) (w' : World) : Prop := ∃ (A : Option Addr) (c : Nat), e = .returned (.slice A (opUses o).length c) ∧ Mem w0 f w' (rowI A c (opUses o) :: L)
theorem rowI_list {w0 w : World} {f : List Nat} {L : List Asn} {g : Nat} (xs : List Int) (hl : xs.length ≤ 1000) (M : Mem w0 f w (blk g tI (xs.map (.int .i64 ·)) :: L)) : Mem w0 f w (rowI (some ⟨g, 0, none⟩) xs.length xs :: L) :=
  Mem.row_of encI_length (xs := xs) M (by clear hl M; induction xs with | nil => rfl | cons x xs ih => simp [flat, encI] at ih ⊢; exact ih) (by omega)
set_option maxHeartbeats 2000000 in
theorem sUses (o : Opx) {w0 w : World} {f : List Nat} {L : List Asn} (M : Mem w0 f w L) : Calls Try.prog 96 #[.agg (opArr o)] w (UsesPost o w0 f L) := by
  have HF : Hid (∀ W g (xs : List Int) n, opUses o = xs → xs.length = n → xs.length ≤ 1000 → Mem w0 f W (blk g tI (xs.map (.int .i64 ·)) :: L) → UsesPost o w0 f L (.returned (.slice (some ⟨g, 0, none⟩) n n)) W) := fun W g xs n h hn hl M => ⟨_, _, by rw [h, hn], by rw [h]; exact hn ▸ rowI_list xs hl M⟩
  obtain ⟨k, r, s, to, ⟨vk, vn⟩⟩ := o
  simp only [opArr]
  go_enter Try.func96, Try.ntmps96
  go_wp2_with (first
    | (with_reducible refine alAw M ?_; clear M; (try clear F); intro w1 M F) | ((with_reducible apply ev_store (M := M)); rfl; rfl; ((conv => lhs; whnf) <;> rfl); rfl; (first | exact siI | exact siR | exact siV | exact siB | exact siSI | exact siSV | exact siW | exact siSR | exact siSO | exact siO); (exact one_all rfl); (exact dl); (exact Nat.le_of_ble_eq_true rfl); clear M; intro w1 M; simp only [SX] at M; (try clear F); have F := fxw M) | ((with_reducible refine goal_drewN (G := fun W => wpList _ _ _ _ _ W) M ?_); clear M; intro w1 M; (try clear F); have F := fxw M) | ((with_reducible refine goal_drew (G := fun W => wpList _ _ _ _ _ W) M ?_); clear M; intro w1 M; (try clear F); have F := fxw M) | ((with_reducible refine isSet (G := fun W => wpList _ _ _ _ _ W) ?_); (with_reducible refine nmw (G := fun W => wpList _ _ _ _ _ W) ?_; clear M; (try clear F); intro w1 M F)))
  all_goals (refine nmw (G := fun W => bodyPost _ _ _ _ _ W) ?_; clear M; (try clear F); intro w1 M F)
  all_goals go_ret
  all_goals (simp only [beq_iff_eq, beq_eq_false_iff_ne, ne_eq] at *)
  all_goals (first | exact HF.out _ _ [s] _ (by subst_vars; rfl) rfl (by simp) (M.sel (T := blk _ tI [.int .i64 s] :: L) sl) | exact HF.out _ _ [r, s] _ (by subst_vars; rfl) rfl (by simp) (M.sel (T := blk _ tI [.int .i64 r, .int .i64 s] :: L) sl) | exact HF.out _ _ [r] _ (by subst_vars; rfl) rfl (by simp) (M.sel (T := blk _ tI [.int .i64 r] :: L) sl) | exact HF.out _ _ [] _ (by simp [opUses, *]) rfl (by simp) (M.sel (T := blk _ tI [] :: L) sl))
end Go.Proofs.Ytmidnaafljgbiaa
