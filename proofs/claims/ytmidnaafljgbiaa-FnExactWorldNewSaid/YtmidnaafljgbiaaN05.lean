/- Parts of the proof, in one text. -/
import Derived.Test.YtmidnaafljgbiaaProg
import Derived.Deep.QuietTactic
import Derived.BigQuiet
import Derived.Shelf.Abstract
import Derived.Test.YtmidnaafljgbiaaN01
/- Small functions of values and numbers: each call returns what its plain word says. -/
namespace Go.Proofs.Ytmidnaafljgbiaa
open Go.RowKit
set_option maxRecDepth 100000

theorem ret_bool {a b : Bool} (h : a = b) : Ending.returned (.bool a) = .returned (.bool b) := by rw [h]
theorem ret_int {a b : Int} (h : a = b) : Ending.returned (.int .i64 a) = .returned (.int .i64 b) := by rw [h]
theorem below_box (w : World) (o : Obj) : Below w.heap.size w (w.alloc o) := below_new (Below.refl _ _) _
theorem inB_lo {n lo hi : Int} (h : lo ≤ n) : inB n lo hi = decide (n ≤ hi) := by simp [inB, h]
theorem inB_out {n lo hi : Int} (h : ¬ lo ≤ n) : inB n lo hi = false := by simp only [inB, decide_eq_false h, Bool.false_and]

theorem sIn (n lo hi : Int) (w : World) : Calls Try.prog 80 #[.int .i64 n, .int .i64 lo, .int .i64 hi] w fun e w' => e = .returned (.bool (inB n lo hi)) ∧ w = w' := by
  by_cases h : lo ≤ n
  · have e := inB_lo (hi := hi) h
    rw [e]
    clear e
    go_enter Try.func80, Try.ntmps80
    go_wp2
    go_ret
    exact ⟨rfl, rfl⟩
  · have e := inB_out (hi := hi) h
    rw [e]
    clear e
    go_enter Try.func80, Try.ntmps80
    go_wp2
    go_ret
    exact ⟨rfl, rfl⟩
theorem iIn (n lo hi : Int) (w : World) : Calls Try.prog 75 #[.int .i64 n, .int .i64 lo, .int .i64 hi] w fun e w' => e = .returned (.bool (inB n lo hi)) ∧ w = w' := by
  by_cases h : lo ≤ n
  · have e := inB_lo (hi := hi) h
    rw [e]
    clear e
    go_enter Try.func75, Try.ntmps75
    go_wp2
    go_ret
    exact ⟨rfl, rfl⟩
  · have e := inB_out (hi := hi) h
    rw [e]
    clear e
    go_enter Try.func75, Try.ntmps75
    go_wp2
    go_ret
    exact ⟨rfl, rfl⟩

theorem valOk_else {k n : Int} (h0 : ¬ k = 0) (h1 : ¬ k = 1) (h2 : ¬ k = 2) (h3 : ¬ k = 3) : valOk ⟨k, n⟩ = false := by simp [valOk, h0, h1, h2, h3]
theorem sValOk (v : Vl) (w : World) : Calls Try.prog 42 #[.agg #[.int .i64 v.k, .int .i64 v.n]] w fun e w' => e = .returned (.bool (valOk v)) ∧ Below w.heap.size w w' := by
  obtain ⟨k, n⟩ := v
  by_cases h0 : k = 0
  · subst h0
    go_enter Try.func42, Try.ntmps42
    go_wp2
    go_ret
    exact ⟨rfl, below_box _ _⟩
  by_cases h1 : k = 1
  · subst h1
    go_enter Try.func42, Try.ntmps42
    go_wp2_with (go_at_call 80; refine (sIn _ _ _ _).mono ?_; rintro e w' ⟨rfl, rfl⟩)
    go_ret
    exact ⟨rfl, below_box _ _⟩
  by_cases h2 : k = 2
  · subst h2
    go_enter Try.func42, Try.ntmps42
    go_wp2_with (go_at_call 80; refine (sIn _ _ _ _).mono ?_; rintro e w' ⟨rfl, rfl⟩)
    go_ret
    exact ⟨rfl, below_box _ _⟩
  by_cases h3 : k = 3
  · subst h3
    go_enter Try.func42, Try.ntmps42
    go_wp2_with (go_at_call 80; refine (sIn _ _ _ _).mono ?_; rintro e w' ⟨rfl, rfl⟩)
    go_ret
    exact ⟨rfl, below_box _ _⟩
  rw [valOk_else h0 h1 h2 h3]
  go_enter Try.func42, Try.ntmps42
  go_wp2
  go_ret
  exact ⟨rfl, below_box _ _⟩
theorem sBit (s b : Int) (h : (s = 0 ∧ b = 1) ∨ (s = 1 ∧ b = 2) ∨ (s = 2 ∧ b = 4) ∨ (s = 3 ∧ b = 8)) (w : World) : Calls Try.prog 107 #[.int .i64 s] w fun e w' => e = .returned (.int .i64 b) ∧ Below w.heap.size w w' := by
  rcases h with ⟨rfl, rfl⟩ | ⟨rfl, rfl⟩ | ⟨rfl, rfl⟩ | ⟨rfl, rfl⟩
  all_goals
    go_enter Try.func107, Try.ntmps107
    go_wp2
    go_ret
    exact ⟨rfl, below_box _ _⟩
theorem bitI_pairs {s : Int} (h : inB s 0 3 = true) : (s = 0 ∧ bitI s = 1) ∨ (s = 1 ∧ bitI s = 2) ∨ (s = 2 ∧ bitI s = 4) ∨ (s = 3 ∧ bitI s = 8) := by
  have b := inB_iff.1 h
  obtain rfl | rfl | rfl | rfl : s = 0 ∨ s = 1 ∨ s = 2 ∨ s = 3 := by omega
  all_goals simp [bitI]
theorem sHas (f s : Int) (hf : 0 ≤ f) (hf' : f ≤ 15) (hs : inB s 0 3 = true) (w : World) : Calls Try.prog 82 #[.int .i64 f, .int .i64 s] w fun e w' => e = .returned (.bool (hasBit f s)) ∧ Below w.heap.size w w' := by
  have hb := bitI_pairs hs
  have hB := fun W => sBit s (bitI s) hb W
  unfold hasBit
  generalize bitI s = b at hb hB
  clear hs
  have HB := Lib.hid hB
  clear hB
  rcases hb with ⟨rfl, rfl⟩ | ⟨rfl, rfl⟩ | ⟨rfl, rfl⟩ | ⟨rfl, rfl⟩
  all_goals
    go_enter Try.func82, Try.ntmps82
    go_wp2_with (go_at_call 107; refine (HB.out _).mono ?_; rintro e w' ⟨rfl, hb⟩)
    go_ret
    exact ⟨ret_bool (by first | rfl | simp), hb⟩
end Go.Proofs.Ytmidnaafljgbiaa
/- Plain laws on runs: what is taken, what is put, what stays. No Go and no memory here. -/
namespace Go.Proofs.Ytmidnaafljgbiaa

theorem runOk_parts {r : Rn} (h : runOk r = true) : (1 ≤ r.id ∧ r.id ≤ 6) ∧ (0 ≤ r.at_ ∧ r.at_ ≤ 15) ∧ r.slots.length = 4 ∧ (0 ≤ r.full ∧ r.full ≤ 15) ∧ r.mail.length ≤ 12 ∧ (1 ≤ r.state ∧ r.state ≤ 3) ∧ (-1 ≤ r.due ∧ r.due ≤ 400) ∧ (0 ≤ r.turns ∧ r.turns ≤ 9999) ∧
    slotsFrom r.full 0 r.slots = true ∧ r.mail.all valOk = true ∧ idsOk r.links r.id = true ∧ idsOk r.watched r.id = true ∧ valOk r.why = true ∧
    (r.state = 3 → r.mail = [] ∧ r.links = [] ∧ r.watched = []) ∧ (r.state ≠ 3 → r.why = Vl.zero) := by
  simp only [runOk, Bool.and_eq_true, decide_eq_true_eq, inB_iff, beq_iff_eq] at h
  obtain ⟨⟨⟨⟨⟨⟨⟨⟨⟨⟨⟨⟨⟨h1, h2⟩, h3⟩, h4⟩, h5⟩, h6⟩, h7⟩, h8⟩, h9⟩, h10⟩, h11⟩, h12⟩, h13⟩, h14⟩ := h
  refine ⟨h1, h2, h3, h4, h5, h6, h7, h8, h9, h10, h11, h12, h13, fun hs => ?_, fun hs => ?_⟩
  · rw [if_pos hs] at h14
    simp only [Bool.and_eq_true, List.isEmpty_iff] at h14
    exact ⟨h14.1.1, h14.1.2, h14.2⟩
  · rw [if_neg hs] at h14
    simpa using h14

/-! ### What fits first -/
/-! ### What is put -/
theorem withBit_facts {f s : Int} (h0 : 0 ≤ f) (h1 : f ≤ 15) (hs : inB s 0 3 = true) :
    (0 ≤ withBit f s ∧ withBit f s ≤ 15) ∧ hasBit (withBit f s) s = true ∧ (∀ t, inB t 0 3 = true → t ≠ s → hasBit (withBit f s) t = hasBit f t) ∧ withBit (withBit f s) s = withBit f s ∧
      (∀ t, inB t 0 3 = true → withBit (withBit f s) t = withBit (withBit f t) s) := by
  have key : ∀ f : Fin 16, ∀ s t : Fin 4, (0 ≤ withBit f.val s.val ∧ withBit f.val s.val ≤ 15) ∧ hasBit (withBit f.val s.val) s.val = true ∧ (t ≠ s → hasBit (withBit f.val s.val) t.val = hasBit f.val t.val) ∧
      withBit (withBit f.val s.val) s.val = withBit f.val s.val ∧ withBit (withBit f.val s.val) t.val = withBit (withBit f.val t.val) s.val := by decide
  have hs' := inB_iff.1 hs
  obtain ⟨f', rfl⟩ := Int.eq_ofNat_of_zero_le h0
  obtain ⟨s', rfl⟩ := Int.eq_ofNat_of_zero_le hs'.1
  have k := fun t => key ⟨f', by omega⟩ ⟨s', by omega⟩ t
  refine ⟨(k 0).1, (k 0).2.1, fun t ht hne => ?_, (k 0).2.2.2.1, fun t ht => ?_⟩
  · have ht' := inB_iff.1 ht
    obtain ⟨t', rfl⟩ := Int.eq_ofNat_of_zero_le ht'.1
    exact (k ⟨t', by omega⟩).2.2.1 (fun e => hne (by injection e with e; rw [e]))
  · have ht' := inB_iff.1 ht
    obtain ⟨t', rfl⟩ := Int.eq_ofNat_of_zero_le ht'.1
    exact (k ⟨t', by omega⟩).2.2.2.2

/-! ### What is not ok -/
end Go.Proofs.Ytmidnaafljgbiaa
/- Lists of numbers and values are looked through: each call returns what its plain word says. -/
namespace Go.Proofs.Ytmidnaafljgbiaa
open Go.RowKit
set_option maxRecDepth 100000

/-- Where the first is of which p holds; -1, if there is none. -/
def idxP {α : Type} (p : α → Bool) (l : List α) : Int := match l.findIdx? p with | some i => (i : Int) | none => -1
theorem idxP_hit {α : Type} {p : α → Bool} {l : List α} {k : Nat} (hk : k < l.length) (h : p l[k] = true) (hn : ∀ j (hj : j < k), p (l[j]'(by omega)) = false) : idxP p l = k := by
  have : l.findIdx? p = some k := by
    rw [List.findIdx?_eq_some_iff_getElem]
    exact ⟨hk, h, fun j hj => by simpa using hn j hj⟩
  unfold idxP
  rw [this]
theorem idxP_miss {α : Type} {p : α → Bool} {l : List α} (hn : ∀ j (hj : j < l.length), p l[j] = false) : idxP p l = -1 := by
  have : l.findIdx? p = none := by
    rw [List.findIdx?_eq_none_iff]
    intro x hx
    obtain ⟨j, hj, rfl⟩ := List.getElem_of_mem hx
    exact hn j hj
  unfold idxP
  rw [this]
theorem idxP_any {α : Type} (p : α → Bool) (l : List α) : decide (0 ≤ idxP p l) = l.any p := by
  unfold idxP
  cases h : l.findIdx? p with
  | some i =>
    rw [List.findIdx?_eq_some_iff_getElem] at h
    obtain ⟨hi, h1, _⟩ := h
    have : l.any p = true := List.any_eq_true.2 ⟨l[i], List.getElem_mem _, h1⟩
    rw [this]
    show decide ((0 : Int) ≤ (i : Int)) = true
    exact decide_eq_true (by omega)
  | none =>
    rw [List.findIdx?_eq_none_iff] at h
    have : l.any p = false := by
      rw [List.any_eq_false]
      exact fun x hx => by simp [h x hx]
    rw [this]
    rfl

/-! ### A predicate on values, as a function value -/
end Go.Proofs.Ytmidnaafljgbiaa
/- Values and numbers of runs, looked at by both texts. -/
namespace Go.Proofs.Ytmidnaafljgbiaa
open Go.RowKit
set_option maxRecDepth 100000

theorem iValOk (v : Vl) (w : World) : Calls Try.prog 79 #[.agg #[.int .i64 v.k, .int .i64 v.n]] w fun e w' => e = .returned (.bool (valOk v)) ∧ Below w.heap.size w w' := by
  obtain ⟨k, n⟩ := v
  by_cases h0 : k = 0
  · subst h0
    go_enter Try.func79, Try.ntmps79
    go_wp2
    go_ret
    exact ⟨rfl, below_box _ _⟩
  by_cases h1 : k = 1
  · subst h1
    go_enter Try.func79, Try.ntmps79
    go_wp2_with (go_at_call 75; refine (iIn _ _ _ _).mono ?_; rintro e w' ⟨rfl, rfl⟩)
    go_ret
    exact ⟨rfl, below_box _ _⟩
  by_cases h2 : k = 2
  · subst h2
    go_enter Try.func79, Try.ntmps79
    go_wp2_with (go_at_call 75; refine (iIn _ _ _ _).mono ?_; rintro e w' ⟨rfl, rfl⟩)
    go_ret
    exact ⟨rfl, below_box _ _⟩
  by_cases h3 : k = 3
  · subst h3
    go_enter Try.func79, Try.ntmps79
    go_wp2_with (go_at_call 75; refine (iIn _ _ _ _).mono ?_; rintro e w' ⟨rfl, rfl⟩)
    go_ret
    exact ⟨rfl, below_box _ _⟩
  rw [valOk_else h0 h1 h2 h3]
  go_enter Try.func79, Try.ntmps79
  go_wp2
  go_ret
  exact ⟨rfl, below_box _ _⟩

/-! ### Numbers of other runs -/
end Go.Proofs.Ytmidnaafljgbiaa
