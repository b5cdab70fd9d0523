/- Lists of numbers and values are looked through: each call returns what its plain word says. -/
import Derived.Test.YtemglijebbodkaaS1
import Derived.Test.YtemglijebbodkaaRuns
import Derived.Deep.QuietTactic
import Derived.BigQuiet
import Derived.Shelf.Abstract
namespace Go.Proofs.Ytemglijebbodkaa
open Go.RowKit
set_option maxRecDepth 100000

/-- Is a number in a list? -/
def inL (l : List Int) (n : Int) : Bool := l.contains n
theorem inL_iff {l : List Int} {n : Int} : inL l n = true ↔ n ∈ l := by unfold inL; exact List.contains_iff_mem
theorem inL_take (l : List Int) (n : Int) (k : Nat) (hk : k < l.length) : inL (l.take (k + 1)) n = (inL (l.take k) n || (l[k] == n)) := by
  rw [List.take_succ_eq_append_getElem hk]
  rw [Bool.eq_iff_iff]
  simp only [inL_iff, List.mem_append, List.mem_singleton, Bool.or_eq_true, beq_iff_eq]
  exact or_congr Iff.rfl ⟨fun h => h.symm, fun h => h.symm⟩

set_option maxHeartbeats 400000 in
theorem sAmong (l : List Int) (n : Int) (A : Option Addr) (c B : Nat) (w : World) (h : ReadsI w B A l.length l) :
    Calls Try.prog 67 #[.slice A l.length c, .int .i64 n] w fun e w' => e = .returned (.bool (inL l n)) ∧ w = w' := by
  have hm := h.2.1
  go_enter Try.func67, Try.ntmps67
  go_wp2
  go_loop [5] (fun i => ∃ k : Nat, k ≤ l.length ∧ i = .int .i64 k ∧ Hid (inL (l.take k) n = false)) (fun i => l.length - (intOf i).toNat)
  case atStart => exact ⟨0, Nat.zero_le _, rfl, by simp [Hid, inL]⟩
  case round =>
    obtain ⟨k, hk, rfl, hn⟩ := hrel
    by_cases hlt : k < l.length
    · obtain ⟨ad, rfl, _, hc⟩ := h.int hlt
      have hct := Lib.hid (inL_take l n k hlt)
      generalize l[k] = x at hc hct
      by_cases hx : x = n
      · subst hx
        go_wp2
        go_ret
        refine ⟨ret_bool ?_, rfl⟩
        have := hct.out
        simp only [beq_self_eq_true, Bool.or_true] at this
        exact (inL_iff.2 (List.mem_of_mem_take (inL_iff.1 this))).symm
      · have hx' : (x == n) = false := by simpa using hx
        go_wp2
        go_round
        case rel => exact ⟨k + 1, by omega, by go_num, by unfold Hid; rw [hct.out, hn.out, hx']; rfl⟩
        case measure => simp [intOf]; omega
    · have : k = l.length := by omega
      subst this
      go_wp2
      go_ret
      refine ⟨ret_bool ?_, rfl⟩
      have := hn.out
      rw [List.take_length] at this
      exact this.symm
/-- Where the first is of which p holds; -1, if there is none. -/
def idxP {α : Type} (p : α → Bool) (l : List α) : Int := match l.findIdx? p with | some i => (i : Int) | none => -1
theorem idxP_hit {α : Type} {p : α → Bool} {l : List α} {k : Nat} (hk : k < l.length) (h : p l[k] = true) (hn : ∀ j (hj : j < k), p (l[j]'(by omega)) = false) : idxP p l = k := by
  have : l.findIdx? p = some k := by
    rw [List.findIdx?_eq_some_iff_getElem]
    exact ⟨hk, h, fun j hj => by simpa using hn j hj⟩
  unfold idxP
  rw [this]
theorem idxP_miss {α : Type} {p : α → Bool} {l : List α} (hn : ∀ j (hj : j < l.length), p l[j] = false) : idxP p l = -1 := by
  have : l.findIdx? p = none := by
    rw [List.findIdx?_eq_none_iff]
    intro x hx
    obtain ⟨j, hj, rfl⟩ := List.getElem_of_mem hx
    exact hn j hj
  unfold idxP
  rw [this]
theorem idxP_any {α : Type} (p : α → Bool) (l : List α) : decide (0 ≤ idxP p l) = l.any p := by
  unfold idxP
  cases h : l.findIdx? p with
  | some i =>
    rw [List.findIdx?_eq_some_iff_getElem] at h
    obtain ⟨hi, h1, _⟩ := h
    have : l.any p = true := List.any_eq_true.2 ⟨l[i], List.getElem_mem _, h1⟩
    rw [this]
    show decide ((0 : Int) ≤ (i : Int)) = true
    exact decide_eq_true (by omega)
  | none =>
    rw [List.findIdx?_eq_none_iff] at h
    have : l.any p = false := by
      rw [List.any_eq_false]
      exact fun x hx => by simp [h x hx]
    rw [this]
    rfl

set_option maxHeartbeats 400000 in
theorem iIndex (l : List Int) (n : Int) (A : Option Addr) (c B : Nat) (w : World) (h : ReadsI w B A l.length l) :
    Calls Try.prog 76 #[.slice A l.length c, .int .i64 n] w fun e w' => e = .returned (.int .i64 (idxP (fun x => n == x) l)) ∧ w = w' := by
  have hm := h.2.1
  go_enter Try.func76, Try.ntmps76
  go_wp2
  go_loop [5, 8] (fun _ i => ∃ k : Nat, k ≤ l.length ∧ i = .int .i64 k ∧ Hid (∀ j (hj : j < l.length), j < k → (n == l[j]) = false)) (fun _ i => l.length - (intOf i).toNat)
  case atStart => exact ⟨0, Nat.zero_le _, rfl, fun j _ h => absurd h (by omega)⟩
  case round =>
    obtain ⟨k, hk, rfl, hn⟩ := hrel
    by_cases hlt : k < l.length
    · obtain ⟨ad, rfl, _, hc⟩ := h.int hlt
      have hlk : Hid (∀ y, y = l[k] → (n == y) = true → idxP (fun x => n == x) l = k) := fun y hy h1 => idxP_hit hlt (by rw [← hy]; exact h1) (fun j hj => hn j (by omega) hj)
      have hl2 : Hid (∀ y, y = l[k] → (n == y) = false → ∀ j (hj : j < l.length), j < k + 1 → (n == l[j]) = false) := fun y hy h1 j hj hjk => by
        by_cases e : j = k
        · subst e; rw [← hy]; exact h1
        · exact hn j hj (by omega)
      obtain ⟨x, hx⟩ : ∃ x, x = l[k] := ⟨_, rfl⟩
      have hl3 := Lib.hid hx
      rw [← hx] at hc
      clear hx
      by_cases hx : n = x
      · have hl4 := Lib.hid (hlk.out x hl3.out (by simpa using hx))
        subst hx
        go_wp2
        go_ret
        exact ⟨ret_int hl4.out.symm, rfl⟩
      · have hx' : (n == x) = false := by simpa using hx
        go_wp2
        go_round
        case rel => exact ⟨k + 1, by omega, by go_num, hl2.out x hl3.out hx'⟩
        case measure => simp [intOf]; omega
    · have : k = l.length := by omega
      subst this
      go_wp2
      go_ret
      exact ⟨ret_int (idxP_miss (fun j hj => hn.out j hj hj)).symm, rfl⟩
theorem inL_any (l : List Int) (n : Int) : l.any (fun x => n == x) = inL l n := by
  rw [Bool.eq_iff_iff, List.any_eq_true, inL_iff]
  constructor
  · rintro ⟨x, hx, h⟩
    rw [beq_iff_eq] at h
    exact h ▸ hx
  · intro h
    exact ⟨n, h, by simp⟩
theorem iContains (l : List Int) (n : Int) (A : Option Addr) (c B : Nat) (w : World) (h : ReadsI w B A l.length l) :
    Calls Try.prog 65 #[.slice A l.length c, .int .i64 n] w fun e w' => e = .returned (.bool (inL l n)) ∧ w = w' := by
  have e := (idxP_any (fun x => n == x) l).trans (inL_any l n)
  rw [← e]
  clear e
  go_enter Try.func65, Try.ntmps65
  go_wp2_with (go_at_call 76; refine (iIndex l n A c B _ h).mono ?_; rintro e w' ⟨rfl, rfl⟩)
  go_ret
  exact ⟨rfl, rfl⟩

/-! ### A predicate on values, as a function value -/
def PredV (g : Nat) (lb : Array Value) (p : Vl → Bool) (w : World) : Prop :=
  ∀ (W : World) (x : Vl), Below w.heap.size w W → Calls Try.prog g (#[.agg #[.int .i64 x.k, .int .i64 x.n]] ++ lb) W fun e w' => e = .returned (.bool (p x)) ∧ Below w.heap.size w w'
set_option maxHeartbeats 1000000 in
theorem iIndexFunc (p : Vl → Bool) (g : Nat) (lb : Array Value) (eg : ∀ args w, (callFunc g args).run Try.prog w = .ok (.enter g args) w) (l : List Vl) (A : Option Addr) (c B : Nat) (w : World) (h : ReadsV w B A l.length l) (hB : B ≤ w.heap.size) (hp : PredV g lb p w) :
    Calls Try.prog 69 #[.slice A l.length c, .func (.func g) #[] lb] w fun e w' => e = .returned (.int .i64 (idxP p l)) ∧ Below w.heap.size w w' := by
  have hm := h.2.1
  go_enter Try.func69, Try.ntmps69
  go_wp2
  go_loopg [5, 8] l.length (fun gg _ s8 wr => ∃ k : Nat, k ≤ l.length ∧ l.length - k ≤ gg ∧ s8 = .int .i64 k ∧ Hid (Below w.heap.size w wr) ∧ Hid (∀ j (hj : j < l.length), j < k → p l[j] = false))
  case atStart => exact ⟨0, Nat.zero_le _, by omega, rfl, Below.refl _ w, fun j _ h => absurd h (by omega)⟩
  case round =>
    obtain ⟨k, hk, hg, rfl, BW, hn⟩ := hrel
    by_cases hlt : k < l.length
    · have hlk : Hid (p l[k] = true → idxP p l = k) := fun h1 => idxP_hit hlt h1 (fun j hj => hn j (by omega) hj)
      have hl2 : Hid (p l[k] = false → ∀ j (hj : j < l.length), j < k + 1 → p l[j] = false) := fun h1 j hj hjk => by
        by_cases e : j = k
        · subst e; exact h1
        · exact hn j hj (by omega)
      obtain ⟨ad, rfl, hb, hc1, hc2⟩ := (h.below' BW.out hB).val hlt
      have hcall := hp wr l[k] BW.out
      clear hp
      generalize l[k] = x at hlk hl2 hc1 hc2 hcall
      obtain ⟨xk, xn⟩ := x
      cases hq : p ⟨xk, xn⟩ with
      | true =>
        rw [hq] at hcall
        go_wp2_with (go_at_fn g; refine hcall.mono ?_; rintro e w' ⟨rfl, hb'⟩)
        go_ret
        exact ⟨ret_int (hlk.out hq).symm, hb'⟩
      | false =>
        rw [hq] at hcall
        go_wp2_with (go_at_fn g; refine hcall.mono ?_; rintro e w' ⟨rfl, hb'⟩)
        go_roundg (l.length - (k + 1))
        case measure => omega
        case rel => exact ⟨k + 1, by omega, by omega, by go_num, hb', hl2.out hq⟩
    · have : k = l.length := by omega
      subst this
      go_wp2
      go_ret
      exact ⟨ret_int (idxP_miss (fun j hj => hn.out j hj hj)).symm, BW.out⟩
end Go.Proofs.Ytemglijebbodkaa
