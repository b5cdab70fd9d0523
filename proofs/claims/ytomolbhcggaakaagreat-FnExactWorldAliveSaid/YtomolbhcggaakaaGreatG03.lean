/- Parts of the proof, in one text. -/
import Derived.Deep.QuietTactic
import Derived.BigQuiet
import Derived.Shelf.Abstract
import Derived.Laws.MakeOwn
import Derived.Deep.OwnRows
import Derived.Test.YtomolbhcggaakaaGreatG02
import Derived.Test.YtomolbhcggaakaaGreatG01
/- Lists of numbers and values are looked through: each call returns what its plain word says. -/
namespace Go.Proofs.YtomolbhcggaakaaGreat
open Go.RowKit
set_option maxRecDepth 100000

/-- Is a number in a list? -/
def inL (l : List Int) (n : Int) : Bool := l.contains n
theorem inL_iff {l : List Int} {n : Int} : inL l n = true ↔ n ∈ l := by unfold inL; exact List.contains_iff_mem
theorem inL_take (l : List Int) (n : Int) (k : Nat) (hk : k < l.length) : inL (l.take (k + 1)) n = (inL (l.take k) n || (l[k] == n)) := by
  rw [List.take_succ_eq_append_getElem hk]
  rw [Bool.eq_iff_iff]
  simp only [inL_iff, List.mem_append, List.mem_singleton, Bool.or_eq_true, beq_iff_eq]
  exact or_congr Iff.rfl ⟨fun h => h.symm, fun h => h.symm⟩

set_option maxHeartbeats 400000 in
theorem sAmong (l : List Int) (n : Int) (A : Option Addr) (c B : Nat) (w : World) (h : ReadsI w B A l.length l) :
    Calls Tryz.prog 74 #[.slice A l.length c, .int .i64 n] w fun e w' => e = .returned (.bool (inL l n)) ∧ w = w' := by
  have hm := h.2.1
  go_enter Tryz.func74, Tryz.ntmps74
  go_wp2
  go_loop [5] (fun i => ∃ k : Nat, k ≤ l.length ∧ i = .int .i64 k ∧ Hid (inL (l.take k) n = false)) (fun i => l.length - (intOf i).toNat)
  case atStart => exact ⟨0, Nat.zero_le _, rfl, by simp [Hid, inL]⟩
  case round =>
    obtain ⟨k, hk, rfl, hn⟩ := hrel
    by_cases hlt : k < l.length
    · obtain ⟨ad, rfl, _, hc⟩ := h.int hlt
      have hct := Lib.hid (inL_take l n k hlt)
      generalize l[k] = x at hc hct
      by_cases hx : x = n
      · subst hx
        go_wp2
        go_ret
        refine ⟨ret_bool ?_, rfl⟩
        have := hct.out
        simp only [beq_self_eq_true, Bool.or_true] at this
        exact (inL_iff.2 (List.mem_of_mem_take (inL_iff.1 this))).symm
      · have hx' : (x == n) = false := by simpa using hx
        go_wp2
        go_round
        case rel => exact ⟨k + 1, by omega, by go_num, by unfold Hid; rw [hct.out, hn.out, hx']; rfl⟩
        case measure => simp [intOf]; omega
    · have : k = l.length := by omega
      subst this
      go_wp2
      go_ret
      refine ⟨ret_bool ?_, rfl⟩
      have := hn.out
      rw [List.take_length] at this
      exact this.symm
/-- Where the first is of which p holds; -1, if there is none. -/
def idxP {α : Type} (p : α → Bool) (l : List α) : Int := match l.findIdx? p with | some i => (i : Int) | none => -1
theorem idxP_hit {α : Type} {p : α → Bool} {l : List α} {k : Nat} (hk : k < l.length) (h : p l[k] = true) (hn : ∀ j (hj : j < k), p (l[j]'(by omega)) = false) : idxP p l = k := by
  have : l.findIdx? p = some k := by
    rw [List.findIdx?_eq_some_iff_getElem]
    exact ⟨hk, h, fun j hj => by simpa using hn j hj⟩
  unfold idxP
  rw [this]
theorem idxP_miss {α : Type} {p : α → Bool} {l : List α} (hn : ∀ j (hj : j < l.length), p l[j] = false) : idxP p l = -1 := by
  have : l.findIdx? p = none := by
    rw [List.findIdx?_eq_none_iff]
    intro x hx
    obtain ⟨j, hj, rfl⟩ := List.getElem_of_mem hx
    exact hn j hj
  unfold idxP
  rw [this]
theorem idxP_any {α : Type} (p : α → Bool) (l : List α) : decide (0 ≤ idxP p l) = l.any p := by
  unfold idxP
  cases h : l.findIdx? p with
  | some i =>
    rw [List.findIdx?_eq_some_iff_getElem] at h
    obtain ⟨hi, h1, _⟩ := h
    have : l.any p = true := List.any_eq_true.2 ⟨l[i], List.getElem_mem _, h1⟩
    rw [this]
    show decide ((0 : Int) ≤ (i : Int)) = true
    exact decide_eq_true (by omega)
  | none =>
    rw [List.findIdx?_eq_none_iff] at h
    have : l.any p = false := by
      rw [List.any_eq_false]
      exact fun x hx => by simp [h x hx]
    rw [this]
    rfl

set_option maxHeartbeats 400000 in
theorem iIndex (l : List Int) (n : Int) (A : Option Addr) (c B : Nat) (w : World) (h : ReadsI w B A l.length l) :
    Calls Tryz.prog 103 #[.slice A l.length c, .int .i64 n] w fun e w' => e = .returned (.int .i64 (idxP (fun x => n == x) l)) ∧ w = w' := by
  have hm := h.2.1
  go_enter Tryz.func103, Tryz.ntmps103
  go_wp2
  go_loop [5, 8] (fun _ i => ∃ k : Nat, k ≤ l.length ∧ i = .int .i64 k ∧ Hid (∀ j (hj : j < l.length), j < k → (n == l[j]) = false)) (fun _ i => l.length - (intOf i).toNat)
  case atStart => exact ⟨0, Nat.zero_le _, rfl, fun j _ h => absurd h (by omega)⟩
  case round =>
    obtain ⟨k, hk, rfl, hn⟩ := hrel
    by_cases hlt : k < l.length
    · obtain ⟨ad, rfl, _, hc⟩ := h.int hlt
      have hlk : Hid (∀ y, y = l[k] → (n == y) = true → idxP (fun x => n == x) l = k) := fun y hy h1 => idxP_hit hlt (by rw [← hy]; exact h1) (fun j hj => hn j (by omega) hj)
      have hl2 : Hid (∀ y, y = l[k] → (n == y) = false → ∀ j (hj : j < l.length), j < k + 1 → (n == l[j]) = false) := fun y hy h1 j hj hjk => by
        by_cases e : j = k
        · subst e; rw [← hy]; exact h1
        · exact hn j hj (by omega)
      obtain ⟨x, hx⟩ : ∃ x, x = l[k] := ⟨_, rfl⟩
      have hl3 := Lib.hid hx
      rw [← hx] at hc
      clear hx
      by_cases hx : n = x
      · have hl4 := Lib.hid (hlk.out x hl3.out (by simpa using hx))
        subst hx
        go_wp2
        go_ret
        exact ⟨ret_int hl4.out.symm, rfl⟩
      · have hx' : (n == x) = false := by simpa using hx
        go_wp2
        go_round
        case rel => exact ⟨k + 1, by omega, by go_num, hl2.out x hl3.out hx'⟩
        case measure => simp [intOf]; omega
    · have : k = l.length := by omega
      subst this
      go_wp2
      go_ret
      exact ⟨ret_int (idxP_miss (fun j hj => hn.out j hj hj)).symm, rfl⟩
theorem inL_any (l : List Int) (n : Int) : l.any (fun x => n == x) = inL l n := by
  rw [Bool.eq_iff_iff, List.any_eq_true, inL_iff]
  constructor
  · rintro ⟨x, hx, h⟩
    rw [beq_iff_eq] at h
    exact h ▸ hx
  · intro h
    exact ⟨n, h, by simp⟩
theorem iContains (l : List Int) (n : Int) (A : Option Addr) (c B : Nat) (w : World) (h : ReadsI w B A l.length l) :
    Calls Tryz.prog 58 #[.slice A l.length c, .int .i64 n] w fun e w' => e = .returned (.bool (inL l n)) ∧ w = w' := by
  have e := (idxP_any (fun x => n == x) l).trans (inL_any l n)
  rw [← e]
  clear e
  go_enter Tryz.func58, Tryz.ntmps58
  go_wp2_with (go_at_call 103; refine (iIndex l n A c B _ h).mono ?_; rintro e w' ⟨rfl, rfl⟩)
  go_ret
  exact ⟨rfl, rfl⟩

/-! ### A predicate on values, as a function value -/
def PredV (g : Nat) (lb : Array Value) (p : Vl → Bool) (w : World) : Prop :=
  ∀ (W : World) (x : Vl), Below w.heap.size w W → Calls Tryz.prog g (#[.agg #[.int .i64 x.k, .int .i64 x.n]] ++ lb) W fun e w' => e = .returned (.bool (p x)) ∧ Below w.heap.size w w'
set_option maxHeartbeats 1000000 in
theorem iIndexFunc (p : Vl → Bool) (g : Nat) (lb : Array Value) (eg : ∀ args w, (callFunc g args).run Tryz.prog w = .ok (.enter g args) w) (l : List Vl) (A : Option Addr) (c B : Nat) (w : World) (h : ReadsV w B A l.length l) (hB : B ≤ w.heap.size) (hp : PredV g lb p w) :
    Calls Tryz.prog 170 #[.slice A l.length c, .func (.func g) #[] lb] w fun e w' => e = .returned (.int .i64 (idxP p l)) ∧ Below w.heap.size w w' := by
  have hm := h.2.1
  go_enter Tryz.func170, Tryz.ntmps170
  go_wp2
  go_loopg [5, 8] l.length (fun gg _ s8 wr => ∃ k : Nat, k ≤ l.length ∧ l.length - k ≤ gg ∧ s8 = .int .i64 k ∧ Hid (Below w.heap.size w wr) ∧ Hid (∀ j (hj : j < l.length), j < k → p l[j] = false))
  case atStart => exact ⟨0, Nat.zero_le _, by omega, rfl, Below.refl _ w, fun j _ h => absurd h (by omega)⟩
  case round =>
    obtain ⟨k, hk, hg, rfl, BW, hn⟩ := hrel
    by_cases hlt : k < l.length
    · have hlk : Hid (p l[k] = true → idxP p l = k) := fun h1 => idxP_hit hlt h1 (fun j hj => hn j (by omega) hj)
      have hl2 : Hid (p l[k] = false → ∀ j (hj : j < l.length), j < k + 1 → p l[j] = false) := fun h1 j hj hjk => by
        by_cases e : j = k
        · subst e; exact h1
        · exact hn j hj (by omega)
      obtain ⟨ad, rfl, hb, hc1, hc2⟩ := (h.below' BW.out hB).val hlt
      have hcall := hp wr l[k] BW.out
      clear hp
      generalize l[k] = x at hlk hl2 hc1 hc2 hcall
      obtain ⟨xk, xn⟩ := x
      cases hq : p ⟨xk, xn⟩ with
      | true =>
        rw [hq] at hcall
        go_wp2_with (go_at_fn g; refine hcall.mono ?_; rintro e w' ⟨rfl, hb'⟩)
        go_ret
        exact ⟨ret_int (hlk.out hq).symm, hb'⟩
      | false =>
        rw [hq] at hcall
        go_wp2_with (go_at_fn g; refine hcall.mono ?_; rintro e w' ⟨rfl, hb'⟩)
        go_roundg (l.length - (k + 1))
        case measure => omega
        case rel => exact ⟨k + 1, by omega, by omega, by go_num, hb', hl2.out hq⟩
    · have : k = l.length := by omega
      subst this
      go_wp2
      go_ret
      exact ⟨ret_int (idxP_miss (fun j hj => hn.out j hj hj)).symm, BW.out⟩
end Go.Proofs.YtomolbhcggaakaaGreat
/- Rows of the call's own, that read as lists; nothing of the program. -/
namespace Go.Proofs.YtomolbhcggaakaaGreat
open Go.RowKit

def OwnL {α : Type} (enc : α → List Value) (m t : Nat) (w : World) (base : Nat) (v : Value) (xs : List α) : Prop := xs.length ≤ 140737488355328 ∧ w.ownsRow base t m v xs.length (flat enc xs)
section
variable {α : Type} {enc : α → List Value} {m t : Nat} {w w' : World} {base : Nat} {v : Value} {xs : List α}
theorem flat_set {α : Type} {enc : α → List Value} {m : Nat} (hk : ∀ x, (enc x).length = m) {xs : List α} {j i : Nat} (hj : j < xs.length) (hi : i < m) {x' : α} {u : Value} (h : enc x' = (enc xs[j]).set i u) : flat enc (xs.set j x') = (flat enc xs).set (j * m + i) u := by
  induction xs generalizing j with
  | nil => simp at hj
  | cons x xs ih =>
    cases j with
    | zero =>
      simp only [List.set_cons_zero, flat, List.flatMap_cons, Nat.zero_mul, Nat.zero_add]
      rw [List.set_append_left _ _ (by rw [hk]; exact hi)]
      simp only [List.getElem_cons_zero] at h
      rw [h]
    | succ j =>
      have := ih (j := j) (by simpa using hj) (by simpa using h)
      simp only [flat] at this
      simp only [List.set_cons_succ, flat, List.flatMap_cons]
      rw [List.set_append_right _ _ (by rw [hk, Nat.succ_mul]; omega), hk, this]
      congr 2
      rw [Nat.succ_mul]; omega
theorem OwnL.stored (hk : ∀ x, (enc x).length = m) {g cap : Nat} (h : OwnL enc m t w base (.slice (some ⟨g, 0, none⟩) xs.length cap) xs) {j i : Nat} (hj : j < xs.length) (hi : i < m) {x' : α} {u : Value} (e : enc x' = (enc xs[j]).set i u) :
    OwnL enc m t (w.setCell ⟨g, j * m + i, none⟩ u) base (.slice (some ⟨g, 0, none⟩) (xs.set j x').length cap) (xs.set j x') ∧ w.grownBy (w.setCell ⟨g, j * m + i, none⟩ u) (some g) := by
  obtain ⟨h1, h2⟩ := h.2.stored (j * m + i) u
  refine ⟨⟨by rw [List.length_set]; exact h.1, ?_⟩, h2⟩
  rw [List.length_set, flat_set hk hj hi e]
  exact h1
theorem OwnL.kept (h : OwnL enc m t w base v xs) {row : Option Nat} (hg : w.grownBy w' row) (hne : v.ownBlock = none ∨ v.ownBlock ≠ row) : OwnL enc m t w' base v xs := ⟨h.1, h.2.kept hg hne⟩
theorem grown_below {w w1 : World} (h : Below w.heap.size w w1) (row : Option Nat) : w.grownBy w1 row := ⟨h.os, h.tape, h.output, h.size, fun i hi _ => h.block i hi⟩
theorem OwnL.below (h : OwnL enc m t w base v xs) (hb : Below w.heap.size w w') : OwnL enc m t w' base v xs := h.kept (grown_below hb none) (by cases v.ownBlock <;> simp)
theorem OwnL.lower {base' : Nat} (h : OwnL enc m t w base v xs) (hb : base' ≤ base) : OwnL enc m t w base' v xs := by
  obtain ⟨h0, h1, h2⟩ := h
  refine ⟨h0, h1, ?_⟩
  rcases h2 with h2 | ⟨g, cap, cur, e, h3, r⟩
  · exact .inl h2
  · exact .inr ⟨g, cap, cur, e, by omega, r⟩
theorem OwnL.nil (w : World) (base : Nat) : OwnL enc m t w base (.slice none 0 0) [] := ⟨by simp, World.ownsRow_nil w base t m⟩
theorem OwnL.reads (h : OwnL enc m t w base v xs) : ∃ A c, v = .slice A xs.length c ∧ xs.length ≤ c ∧ ReadsL enc m w w.heap.size A xs.length xs := by
  obtain ⟨h0, h⟩ := h
  have hs : ∃ A c, v = .slice A xs.length c ∧ xs.length ≤ c := by
    rcases h.2 with ⟨rfl, e⟩ | ⟨g, cap, cur, rfl, _, _, hc, _⟩
    · exact ⟨none, 0, by rw [e], by omega⟩
    · exact ⟨_, cap, rfl, hc⟩
  obtain ⟨A, c, rfl, hc⟩ := hs
  exact ⟨A, c, rfl, hc, rfl, h0, Reads.of_own h⟩
/-- Where the row begins, if it has an element. -/
theorem OwnL.form (h : OwnL enc m t w base v xs) (hp : 0 < xs.length) : ∃ g c, v = .slice (some ⟨g, 0, none⟩) xs.length c ∧ base ≤ g ∧ g < w.heap.size := h.2.form hp
theorem OwnL.cell (hk : ∀ x, (enc x).length = m) {g cap : Nat} (h : OwnL enc m t w base (.slice (some ⟨g, 0, none⟩) xs.length cap) xs) {j i : Nat} (hj : j < xs.length) (hi : i < m) :
    w.cell? ⟨g, j * m + i, none⟩ = (enc xs[j])[i]? ∧ w.frozen? ⟨g, j * m + i, none⟩ = false := by
  have hlt : j * m + i < xs.length * m := by
    have : j * m + m ≤ xs.length * m := by rw [← Nat.succ_mul]; exact Nat.mul_le_mul_right _ hj
    omega
  exact ⟨by rw [h.2.cellAt _ hlt, flat_get hk _ _ _ hi hj], h.2.frozenAt _⟩
theorem madeCells_flat {z : Array Value} {x : α} (hz : enc x = z.toList) (h0 : 0 < z.size) (n : Nat) : (madeCells z (n * z.size)).toList = flat enc (List.replicate n x) := by
  have hk : (enc x).length = z.size := by rw [hz]; simp
  induction n with
  | zero => simp [madeCells, flat]
  | succ n ih =>
    have e : flat enc (List.replicate (n + 1) x) = flat enc (List.replicate n x) ++ enc x := by
      rw [List.replicate_succ']
      simp [flat]
    rw [e, ← ih, hz]
    apply List.ext_getElem?
    intro k
    simp only [madeCells, Array.toList_map, Array.toList_range, List.getElem?_map]
    by_cases h1 : k < n * z.size
    · rw [List.getElem?_append_left (by simpa using h1), List.getElem?_map, List.getElem?_range h1, List.getElem?_range (by rw [Nat.succ_mul]; omega)]
    · rw [List.getElem?_append_right (by simpa using h1)]
      simp only [List.length_map, List.length_range]
      by_cases h2 : k < (n + 1) * z.size
      · have h3 : k - n * z.size < z.size := by rw [Nat.succ_mul] at h2; omega
        have h4 : k % z.size = k - n * z.size := by
          have : k = z.size * n + (k - n * z.size) := by rw [Nat.mul_comm]; omega
          rw [this, Nat.mul_add_mod, Nat.mod_eq_of_lt (by rw [Nat.mul_comm]; omega)]
          rw [Nat.mul_comm z.size n]; omega
        rw [List.getElem?_range h2, Option.map_some, h4, Array.getElem?_toList, Array.getElem?_eq_getElem h3, getElem!_pos z _ h3]
      · rw [List.getElem?_eq_none (by simpa using h2), List.getElem?_eq_none (by rw [Nat.succ_mul] at h2; simp; omega)]
        rfl
theorem OwnL.made {z : Array Value} {x : α} (hz : enc x = z.toList) (h0 : 0 < z.size) (hm : m = z.size) {n : Nat} (hn : n ≤ 140737488355328) (hb : base ≤ w.heap.size) :
    OwnL enc m t (w.alloc (.cells (madeCells z (n * m)) t)) base (.slice (some ⟨w.heap.size, 0, none⟩) (List.replicate n x).length n) (List.replicate n x) := by
  refine ⟨by simpa using hn, ?_⟩
  rw [List.length_replicate, hm, ← madeCells_flat hz h0]
  exact World.ownsRow_lit w _ n hb (by unfold maxLen; omega) (size_madeCells _ _)
end
end Go.Proofs.YtomolbhcggaakaaGreat
