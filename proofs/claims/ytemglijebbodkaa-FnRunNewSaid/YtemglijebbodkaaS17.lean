/- The laws' marks on a run of the call's own, and their reading. -/
import Derived.Test.YtemglijebbodkaaS16
namespace Go.Proofs.Ytemglijebbodkaa
open Go.RowKit
set_option maxRecDepth 100000

theorem grown_cell {W W' : World} {row : Option Nat} {b : Nat} (h : W.grownBy W' row) (hne : row ≠ some b) (hb : b < W.heap.size) : ∀ o, W'.cell? ⟨b, o, none⟩ = W.cell? ⟨b, o, none⟩ := fun o => by
  have := h.block b hb (fun e => hne e.symm)
  unfold World.cell?
  simp only
  rw [this]
theorem OwnL.ne_size {α : Type} {enc : α → List Value} {m t base : Nat} {w : World} {v : Value} {xs : List α} (h : OwnL enc m t w base v xs) {b : Nat} (hb : w.heap.size ≤ b) : v.ownBlock ≠ some b := fun e => by
  have := (h.lt _ e).2
  omega
theorem NeB.kept {v u : Value} (h : NeB v u) : u.ownBlock = none ∨ u.ownBlock ≠ v.ownBlock := by
  cases e : u.ownBlock with
  | none => exact .inl rfl
  | some k => exact .inr fun e' => h k e'.symm e
theorem NeB.kept' {v u : Value} (h : NeB v u) : v.ownBlock = none ∨ v.ownBlock ≠ u.ownBlock := by
  cases e : v.ownBlock with
  | none => exact .inl rfl
  | some k => exact .inr fun e' => h k e e'.symm
theorem below_grown {base : Nat} {w W W' : World} {α : Type} {enc : α → List Value} {m t : Nat} {V : World} {v : Value} {xs : List α} (h : Below base w W) (hb : base ≤ W.heap.size) (g : W.grownBy W' v.ownBlock) (ho : OwnL enc m t V base v xs) : Below base w W' :=
  h.trans ⟨g.os, g.tape, g.output, g.size, fun k hk => g.block k (Nat.lt_of_lt_of_le hk hb) (fun e => by have := (ho.lt _ e.symm).1; omega)⟩

theorem lMarkI (xs : List Int) (A : Option Addr) (c base : Nat) (k0 : Int) (w : World) (h : OwnL encI 1 3 w base (.slice A xs.length c) xs) (hn : xs.length ≤ 140737488355328) (h0 : 0 ≤ k0) (h1 : k0 ≤ 1152921504606846976) :
    Calls Try.prog 45 #[.slice A xs.length c, .int .i64 k0] w fun e w' => e = .returned (.int .i64 (k0 + xs.length)) ∧ OwnL encI 1 3 w' base (.slice A xs.length c) (marksI k0 xs.length) ∧ w.grownBy w' (Value.slice A xs.length c).ownBlock := by
  by_cases hp : 0 < xs.length
  · obtain ⟨g, c', e, _, _⟩ := h.form hp
    simp only [Value.slice.injEq, true_and] at e
    obtain ⟨rfl, rfl⟩ := e
    exact (lMarkI1 xs g xs.length c base k0 w ⟨rfl, h⟩ hn h0 h1).mono fun e w' ⟨h1, h2, h3⟩ => ⟨h1, h2.2, h3⟩
  · have hz : xs.length = 0 := by omega
    have hx : xs = [] := List.length_eq_zero_iff.1 hz
    subst hx
    have H := Lib.hid h
    clear h hp hz
    simp only [List.length_nil] at H ⊢
    go_enter Try.func45, Try.ntmps45
    go_wp2
    go_loopg [1, 5] 0 (fun gg s1 s5 wr => s1 = .int .i64 k0 ∧ s5 = .int .i64 0 ∧ w = wr)
    case atStart => exact ⟨rfl, rfl, rfl⟩
    case round =>
      obtain ⟨rfl, rfl, rfl⟩ := hrel
      go_wp2
      go_ret
      exact ⟨ret_int (by simp), H.out, grown_refl _ _⟩
theorem lMarkV (xs : List Vl) (A : Option Addr) (c base : Nat) (k0 : Int) (w : World) (h : OwnL encV 2 24 w base (.slice A xs.length c) xs) (hn : xs.length ≤ 140737488355328) (h0 : 0 ≤ k0) (h1 : k0 ≤ 1152921504606846976) :
    Calls Try.prog 44 #[.slice A xs.length c, .int .i64 k0] w fun e w' => e = .returned (.int .i64 (k0 + 2 * xs.length)) ∧ OwnL encV 2 24 w' base (.slice A xs.length c) (marksV k0 xs.length) ∧ w.grownBy w' (Value.slice A xs.length c).ownBlock := by
  by_cases hp : 0 < xs.length
  · obtain ⟨g, c', e, _, _⟩ := h.form hp
    simp only [Value.slice.injEq, true_and] at e
    obtain ⟨rfl, rfl⟩ := e
    exact (lMarkV1 xs g xs.length c base k0 w ⟨rfl, h⟩ hn h0 h1).mono fun e w' ⟨h1, h2, h3⟩ => ⟨h1, h2.2, h3⟩
  · have hz : xs.length = 0 := by omega
    have hx : xs = [] := List.length_eq_zero_iff.1 hz
    subst hx
    have H := Lib.hid h
    clear h hp hz
    simp only [List.length_nil] at H ⊢
    go_enter Try.func44, Try.ntmps44
    go_wp2
    go_loopg [1, 5] 0 (fun gg s1 s5 wr => s1 = .int .i64 k0 ∧ s5 = .int .i64 0 ∧ w = wr)
    case atStart => exact ⟨rfl, rfl, rfl⟩
    case round =>
      obtain ⟨rfl, rfl, rfl⟩ := hrel
      go_wp2
      go_ret
      exact ⟨ret_int (by simp), H.out, grown_refl _ _⟩

set_option maxHeartbeats 1000000 in
theorem lHeldI (n : Nat) (k0 : Int) (A : Option Addr) (c B : Nat) (w : World) (h : ReadsI w B A n (marksI k0 n)) (h0 : 0 ≤ k0) (h1 : k0 ≤ 1152921504606846976) :
    Calls Try.prog 47 #[.slice A n c, .int .i64 k0] w fun e w' => e = .returned (.int .i64 (k0 + n)) ∧ w = w' := by
  have hn := h.2.1
  have H := Lib.hid h
  clear h
  go_enter Try.func47, Try.ntmps47
  go_wp2
  go_loopg [1, 5] n (fun gg s1 s5 wr => ∃ k : Nat, k ≤ n ∧ n - k ≤ gg ∧ s1 = .int .i64 (k0 + k) ∧ s5 = .int .i64 k ∧ w = wr)
  case atStart => exact ⟨0, Nat.zero_le _, by omega, by simp, rfl, rfl⟩
  case round =>
    obtain ⟨k, hk, hg, rfl, rfl, rfl⟩ := hrel
    by_cases hlt : k < n
    · obtain ⟨ad, rfl, _, hc⟩ := H.out.int (j := k) (by rw [marksI_length]; exact hlt)
      have e : (marksI k0 n)[k]'(by rw [marksI_length]; exact hlt) = k0 + k := Option.some.inj ((List.getElem?_eq_getElem _).symm.trans (marksI_get hlt))
      rw [e] at hc
      clear e
      have i1 : (0 : Int) ≤ k := by omega
      have i2 : (k : Int) < n := by omega
      go_wp2
      go_roundg (n - (k + 1))
      case measure => omega
      case rel => exact ⟨k + 1, by omega, by omega, by go_num, by go_num, rfl⟩
    · have : k = n := by omega
      subst this
      go_wp2
      go_ret
      exact ⟨rfl, rfl⟩
set_option maxHeartbeats 1000000 in
theorem lHeldV (n : Nat) (k0 : Int) (A : Option Addr) (c B : Nat) (w : World) (h : ReadsV w B A n (marksV k0 n)) (h0 : 0 ≤ k0) (h1 : k0 ≤ 1152921504606846976) :
    Calls Try.prog 46 #[.slice A n c, .int .i64 k0] w fun e w' => e = .returned (.int .i64 (k0 + 2 * n)) ∧ w = w' := by
  have hn := h.2.1
  have H := Lib.hid h
  clear h
  go_enter Try.func46, Try.ntmps46
  go_wp2
  go_loopg [1, 5] n (fun gg s1 s5 wr => ∃ k : Nat, k ≤ n ∧ n - k ≤ gg ∧ s1 = .int .i64 (k0 + 2 * k) ∧ s5 = .int .i64 k ∧ w = wr)
  case atStart => exact ⟨0, Nat.zero_le _, by omega, by simp, rfl, rfl⟩
  case round =>
    obtain ⟨k, hk, hg, rfl, rfl, rfl⟩ := hrel
    by_cases hlt : k < n
    · obtain ⟨ad, rfl, _, hc1, hc2⟩ := H.out.val (j := k) (by rw [marksV_length]; exact hlt)
      have e : (marksV k0 n)[k]'(by rw [marksV_length]; exact hlt) = ⟨k0 + 2 * k, k0 + 2 * k + 1⟩ := Option.some.inj ((List.getElem?_eq_getElem _).symm.trans (marksV_get hlt))
      rw [e] at hc1 hc2
      clear e
      have i1 : (0 : Int) ≤ k := by omega
      have i2 : (k : Int) < n := by omega
      have e1 : IntKind.i64.wrap (k0 + 2 * (k : Int) + 1) = k0 + 2 * (k : Int) + 1 := by rw [IntKind.wrap_i64]; omega
      go_wp2
      go_roundg (n - (k + 1))
      case measure => omega
      case rel => exact ⟨k + 1, by omega, by omega, by go_num, by go_num, rfl⟩
    · have : k = n := by omega
      subst this
      go_wp2
      go_ret
      exact ⟨rfl, rfl⟩
end Go.Proofs.Ytemglijebbodkaa
