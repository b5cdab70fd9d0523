/- Parts of the proof, in one text. -/
import Derived.Test.YtomolbhcggaakaaGreatH06
import Derived.Test.YtomolbhcggaakaaGreatH34
/- The same rounds with each step's ways in another order: what is full is one. No Go and no memory here. -/
namespace Go.Proofs.YtomolbhcggaakaaGreat

theorem both_comm2 {a b c : Int} (ha : -1 ≤ a ∧ a ≤ 15) (hb : 0 ≤ b ∧ b ≤ 15) (hc : 0 ≤ c ∧ c ≤ 15) : both (both a b) c = both (both a c) b ∧ (both (both a b) c = a → both a b = a) := by
  have key : ∀ a b c : Fin 16, both (both a.val b.val) c.val = both (both a.val c.val) b.val ∧ (both (both a.val b.val) c.val = a.val → both a.val b.val = a.val) := by decide
  have key2 : ∀ b c : Fin 16, both b.val c.val = both c.val b.val := by decide
  obtain ⟨b', rfl⟩ := Int.eq_ofNat_of_zero_le hb.1
  obtain ⟨c', rfl⟩ := Int.eq_ofNat_of_zero_le hc.1
  by_cases hn : a < 0
  · have e1 : both a b' = b' := by unfold both; rw [if_pos hn]
    have e2 : both a c' = c' := by unfold both; rw [if_pos hn]
    rw [e1, e2]
    exact ⟨key2 ⟨b', by omega⟩ ⟨c', by omega⟩, fun h => by have := (both_facts (a := b') (b := c') (by omega) (by omega)).1; omega⟩
  · obtain ⟨a', rfl⟩ := Int.eq_ofNat_of_zero_le (by omega : 0 ≤ a)
    exact key ⟨a', by omega⟩ ⟨b', by omega⟩ ⟨c', by omega⟩

theorem merge_out {f : List Int} {x b : Int} (h : (f.length : Int) ≤ x) : merge f x b = (f, false) := by unfold merge; rw [if_pos h]
theorem merge_in {f : List Int} {x b : Int} (h0 : 0 ≤ x) (h : x < f.length) : merge f x b = (f.set x.toNat (both (getI f x) b), decide (both (getI f x) b ≠ getI f x)) := by
  unfold merge
  rw [if_neg (by omega)]
  by_cases e : both (getI f x) b = getI f x
  · rw [if_pos e, e]
    have : f.set x.toNat (getI f x) = f := by
      apply List.ext_getElem? 
      intro k
      rw [List.getElem?_set]
      split
      · rename_i hk
        subst hk
        rw [if_pos (by omega), getI, List.getD_eq_getElem?_getD, List.getElem?_eq_getElem (by omega)]
        rfl
      · rfl
    rw [this]
    simp
  · rw [if_neg e]
    simp [e]

theorem merge_comm {f : List Int} (hf : Bits f) {x y b c : Int} (hx : 0 ≤ x) (hy : 0 ≤ y) (hb : 0 ≤ b ∧ b ≤ 15) (hc : 0 ≤ c ∧ c ≤ 15) :
    (merge (merge f x b).1 y c).1 = (merge (merge f y c).1 x b).1 ∧ ((merge f x b).2 || (merge (merge f x b).1 y c).2) = ((merge f y c).2 || (merge (merge f y c).1 x b).2) := by
  have l1 := (merge_facts hf hx hb).1
  have l2 := (merge_facts hf hy hc).1
  by_cases h1 : (f.length : Int) ≤ x
  · rw [merge_out h1, merge_out (f := (merge f y c).1) (by omega)]
    simp
  by_cases h2 : (f.length : Int) ≤ y
  · rw [merge_out h2, merge_out (f := (merge f x b).1) (by omega)]
    simp
  rw [merge_in (f := f) hx (by omega), merge_in (f := f) hy (by omega)]
  dsimp only
  rw [merge_in (f := f.set x.toNat _) hy (by rw [List.length_set]; omega), merge_in (f := f.set y.toNat _) hx (by rw [List.length_set]; omega)]
  have gx := hf _ (getI_mem hx (by omega : x < f.length))
  by_cases e : x = y
  · subst e
    rw [getI_set hx hx (by omega), if_pos rfl, getI_set hx hx (by omega), if_pos rfl]
    obtain ⟨k1, k2⟩ := both_comm2 gx hb hc
    obtain ⟨k3, k4⟩ := both_comm2 gx hc hb
    simp only [List.set_set]
    refine ⟨by rw [k1], ?_⟩
    rw [← k1]
    by_cases q : both (both (getI f x) b) c = getI f x
    · have q1 := k2 q
      have q2 := k4 (by rw [← k1]; exact q)
      simp [q1, q2]
    · by_cases q1 : both (getI f x) b = getI f x
      · rw [q1] at q ⊢
        simp [q]
      · by_cases q2 : both (getI f x) c = getI f x
        · have : both (both (getI f x) b) c = both (getI f x) b := by rw [k1, q2]
          simp [q1, q2, this]
        · simp [q1, q2]
  · rw [getI_set hx hy (by omega), if_neg (fun h => e h.symm), getI_set hy hx (by omega), if_neg e]
    refine ⟨List.set_comm _ _ (by omega), ?_⟩
    exact Bool.or_comm _ _

/-- A step's ways, the next place first. -/
def stepWays (o : Opx) (f : List Int) (i : Int) : List Int × Bool :=
  let a := if o.k ≠ 9 ∧ o.k ≠ 14 ∧ i + 1 < f.length then merge f (i + 1) (if fillsR o.k then withBit (getI f i) o.r else getI f i) else (f, false)
  let b := if o.k = 5 then merge a.1 o.to 1 else if goesTo o.k then merge a.1 o.to (getI a.1 i) else (a.1, false)
  (b.1, a.2 || b.2)

theorem stepWays_eq {o : Opx} (ho : opOk o = true) {f : List Int} (hf : Bits f) {i : Int} (h0 : 0 ≤ i) (hi : i < f.length) (hb : 0 ≤ getI f i) : stepWays o f i = stepFrom o f i := by
  obtain ⟨k1, _, _, _, kr, _, kt⟩ := opOk_parts ho
  have hm := hf _ (getI_mem h0 hi)
  have hbits : 0 ≤ getI f i ∧ getI f i ≤ 15 := ⟨hb, hm.2⟩
  obtain ⟨on, hon⟩ : ∃ on, on = (if fillsR o.k then withBit (getI f i) o.r else getI f i) := ⟨_, rfl⟩
  have bon : 0 ≤ on ∧ on ≤ 15 := by
    rw [hon]
    split
    · exact withBit_le hbits (inB_iff.2 kr)
    · exact hbits
  have next : (if o.k ≠ 9 ∧ o.k ≠ 14 ∧ i + 1 < f.length then merge f (i + 1) on else (f, false)) = (if o.k ≠ 9 ∧ o.k ≠ 14 then merge f (i + 1) on else (f, false)) := by
    by_cases h1 : i + 1 < f.length
    · simp [h1]
    · rw [if_neg (by omega), merge_out (by omega)]
      split <;> rfl
  unfold stepWays stepFrom
  simp only [← hon, next]
  by_cases h9 : o.k = 9
  · simp [h9, goesTo]
  by_cases h14 : o.k = 14
  · simp [h14, goesTo]
  simp only [h9, h14, ne_eq, not_false_eq_true, and_self, if_true, if_false]
  have same : getI (merge f (i + 1) on).1 i = getI f i := (merge_facts hf (by omega) bon).2.2.2.2.2 i h0 (by omega)
  by_cases h5 : o.k = 5
  · simp only [h5, if_true]
    obtain ⟨e1, e2⟩ := merge_comm hf (x := i + 1) (y := o.to) (b := on) (c := 1) (by omega) kt.1 bon (by omega)
    rw [e1, e2, Bool.or_comm]
  · simp only [h5, if_false]
    by_cases h8 : o.k = 8 ∨ o.k = 10
    · have hg : goesTo o.k = true := by rcases h8 with h | h <;> simp [goesTo, h]
      simp only [hg, h8, if_true, same]
      obtain ⟨e1, e2⟩ := merge_comm hf (x := i + 1) (y := o.to) (b := on) (c := getI f i) (by omega) kt.1 bon hbits
      rw [e1, e2, Bool.or_comm]
    · have hg : goesTo o.k = false := by simp [goesTo, h5, h9]; omega
      simp [hg, h8]

end Go.Proofs.YtomolbhcggaakaaGreat
/- The ways from a step, taken one by one; nothing is walked here. -/
namespace Go.Proofs.YtomolbhcggaakaaGreat
open Go.RowKit
set_option maxRecDepth 100000

theorem andBoth_all : ∀ a : Fin 17, ∀ b : Fin 16, bits .and .i64 ((a.val : Int) - 1) (b.val : Int) = both ((a.val : Int) - 1) b.val := by decide +kernel
theorem andBoth {a b : Int} (ha : -1 ≤ a ∧ a ≤ 15) (hb : 0 ≤ b ∧ b ≤ 15) : bits .and .i64 a b = both a b := by
  have h := andBoth_all ⟨(a + 1).toNat, by omega⟩ ⟨b.toNat, by omega⟩
  simp only [Int.toNat_of_nonneg hb.1, Int.toNat_of_nonneg (show 0 ≤ a + 1 by omega), Int.add_sub_cancel] at h
  exact h
/-- What a way makes of the slots that are full. -/
def apFk (r : Int) : Fk → Int → Int
  | .same, B => B
  | .fill _, B => withBit B r
  | .one, _ => 1
def wayStep (r i : Int) (p : List Int × Bool) (x : Arw) : List Int × Bool := ((merge p.1 x.to (apFk r x.fn (getI p.1 i))).1, p.2 || (merge p.1 x.to (apFk r x.fn (getI p.1 i))).2)
theorem ways_fold {o : Opx} (ho : opOk o = true) (F : List Int) (k g : Nat) : (arrowsOf o F.length k g).foldl (wayStep o.r k) (F, false) = stepWays o F k := by
  have e : ∀ p : List Int × Bool, (goWay o).foldl (wayStep o.r k) p = (if o.k = 5 then ((merge p.1 o.to 1).1, p.2 || (merge p.1 o.to 1).2) else if goesTo o.k then ((merge p.1 o.to (getI p.1 k)).1, p.2 || (merge p.1 o.to (getI p.1 k)).2) else p) := by
    intro p
    unfold goWay
    rw [goes_form ho]
    split
    · rfl
    · split <;> rfl
  have hc : (o.k ≠ 9 ∧ o.k ≠ 14 ∧ (k : Int) + 1 < F.length) ↔ (o.k ≠ 9 ∧ o.k ≠ 14 ∧ k + 1 < F.length) := by omega
  unfold arrowsOf stepWays
  rw [List.foldl_append, e]
  unfold nextWay
  by_cases h : o.k ≠ 9 ∧ o.k ≠ 14 ∧ k + 1 < F.length
  · rw [if_pos h, if_pos (hc.2 h)]
    simp only [List.foldl_cons, List.foldl_nil]
    have e2 : wayStep o.r k (F, false) ⟨(k : Int) + 1, if fillsR o.k then .fill g else .same⟩ = merge F ((k : Int) + 1) (if fillsR o.k then withBit (getI F k) o.r else getI F k) := by
      cases hf : fillsR o.k <;> simp [wayStep, apFk]
    rw [e2]
    split
    · rfl
    · split
      · rfl
      · simp
  · rw [if_neg h, if_neg (fun q => h (hc.1 q))]
    simp only [List.foldl_nil]
    split
    · rfl
    · split
      · rfl
      · simp
end Go.Proofs.YtomolbhcggaakaaGreat
