/- Parts of the proof, in one text. -/
import Derived.Deep.RegionWith
import Derived.Test.YtmidnaafljgbiaaN20
import Derived.Test.YtmidnaafljgbiaaN02
/- The laws' marks: each cell of a run's lists is given a number of its own. -/
namespace Go.Proofs.Ytmidnaafljgbiaa
open Go.RowKit
set_option maxRecDepth 100000

def marksI (k : Int) (n : Nat) : List Int := (List.range n).map fun (i : Nat) => k + (i : Int)
def marksV (k : Int) (n : Nat) : List Vl := (List.range n).map fun (i : Nat) => ⟨k + 2 * (i : Int), k + 2 * (i : Int) + 1⟩
theorem marksI_length (k : Int) (n : Nat) : (marksI k n).length = n := by simp [marksI]
theorem marksV_length (k : Int) (n : Nat) : (marksV k n).length = n := by simp [marksV]
theorem marksI_get {k : Int} {n j : Nat} (h : j < n) : (marksI k n)[j]? = some (k + j) := by simp [marksI, h]
theorem marksV_get {k : Int} {n j : Nat} (h : j < n) : (marksV k n)[j]? = some ⟨k + 2 * j, k + 2 * j + 1⟩ := by simp [marksV, h]
theorem grown_refl (w : World) (row : Option Nat) : w.grownBy w row := ⟨rfl, rfl, rfl, Nat.le_refl _, fun _ _ _ => rfl⟩
theorem grown_trans {w a b : World} {row : Option Nat} (h : w.grownBy a row) (k : a.grownBy b row) : w.grownBy b row :=
  ⟨k.os.trans h.os, k.tape.trans h.tape, k.output.trans h.output, Nat.le_trans h.size k.size, fun i hi hne => (k.block i (Nat.lt_of_lt_of_le hi h.size) hne).trans (h.block i hi hne)⟩
theorem grown_set {w W : World} {g : Nat} (h : w.grownBy W (some g)) (j : Nat) (u : Value) : w.grownBy (W.setCell ⟨g, j, none⟩ u) (some g) :=
  grown_trans h ⟨rfl, rfl, rfl, by simp [World.setCell], fun k _ hne => Below.heap_setCell W ⟨g, j, none⟩ u k (fun e => hne (by rw [e]))⟩

set_option maxHeartbeats 1000000 in
theorem lMarkI1 (xs : List Int) (g n c base : Nat) (k0 : Int) (w : World) (h : RowL encI 1 3 w base g n c xs) (hn : n ≤ 140737488355328) (h0 : 0 ≤ k0) (h1 : k0 ≤ 1152921504606846976) :
    Calls Try.prog 58 #[.slice (some ⟨g, 0, none⟩) n c, .int .i64 k0] w fun e w' => e = .returned (.int .i64 (k0 + n)) ∧ RowL encI 1 3 w' base g n c (marksI k0 n) ∧ w.grownBy w' (some g) := by
  go_enter Try.func58, Try.ntmps58
  go_wp2
  go_loopg [1, 5] n (fun gg s1 s5 wr => ∃ (k : Nat) (cur : List Int), k ≤ n ∧ n - k ≤ gg ∧ s1 = .int .i64 (k0 + k) ∧ s5 = .int .i64 k ∧ Hid (RowL encI 1 3 wr base g n c cur) ∧ Hid (∀ j, j < k → cur[j]? = (marksI k0 n)[j]?) ∧ Hid (w.grownBy wr (some g)))
  case atStart => exact ⟨0, xs, Nat.zero_le _, by omega, by simp, rfl, h, fun j hj => absurd hj (by omega), grown_refl _ _⟩
  case round =>
    obtain ⟨k, cur, hk, hg, rfl, rfl, RW, CU, GW⟩ := hrel
    by_cases hlt : k < n
    · have hcl : k < cur.length := by rw [RW.out.1]; exact hlt
      obtain ⟨hd1, hd2⟩ := RW.out.cell encI_length hcl (i := 0) (by decide)
      have hst := Lib.hid (RW.out.store encI_length hcl (i := 0) (by decide) (x' := k0 + k) (u := .int .i64 (k0 + k)) rfl)
      have hup := Lib.hid (upto_step hcl CU.out (marksI_get hlt))
      have hge := (RW.out.ge (by omega)).2
      simp only [Nat.mul_one, Nat.add_zero] at hd1 hd2 hst
      have hd1' : wr.cell? ⟨g, k, none⟩ = some (.int .i64 cur[k]) := hd1
      clear hd1
      generalize cur[k] = y at hd1'
      have i1 : (0 : Int) ≤ k := by omega
      have i2 : (k : Int) < n := by omega
      go_wp2
      go_roundg (n - (k + 1))
      case measure => omega
      case rel => exact ⟨k + 1, cur.set k (k0 + k), by omega, by omega, by go_num, by go_num, hst.out, hup.out, grown_set GW.out _ _⟩
    · have : k = n := by omega
      subst this
      have e := upto_end (marksI_length _ _) RW.out.1 CU.out
      subst e
      have RR := Lib.hid RW.out
      clear RW CU
      go_wp2
      go_ret
      exact ⟨rfl, RR.out, GW.out⟩
set_option maxHeartbeats 1000000 in
theorem lMarkV1 (xs : List Vl) (g n c base : Nat) (k0 : Int) (w : World) (h : RowL encV 2 30 w base g n c xs) (hn : n ≤ 140737488355328) (h0 : 0 ≤ k0) (h1 : k0 ≤ 1152921504606846976) :
    Calls Try.prog 57 #[.slice (some ⟨g, 0, none⟩) n c, .int .i64 k0] w fun e w' => e = .returned (.int .i64 (k0 + 2 * n)) ∧ RowL encV 2 30 w' base g n c (marksV k0 n) ∧ w.grownBy w' (some g) := by
  go_enter Try.func57, Try.ntmps57
  go_wp2
  go_loopg [1, 5] n (fun gg s1 s5 wr => ∃ (k : Nat) (cur : List Vl), k ≤ n ∧ n - k ≤ gg ∧ s1 = .int .i64 (k0 + 2 * k) ∧ s5 = .int .i64 k ∧ Hid (RowL encV 2 30 wr base g n c cur) ∧ Hid (∀ j, j < k → cur[j]? = (marksV k0 n)[j]?) ∧ Hid (w.grownBy wr (some g)))
  case atStart => exact ⟨0, xs, Nat.zero_le _, by omega, by simp, rfl, h, fun j hj => absurd hj (by omega), grown_refl _ _⟩
  case round =>
    obtain ⟨k, cur, hk, hg, rfl, rfl, RW, CU, GW⟩ := hrel
    by_cases hlt : k < n
    · have hcl : k < cur.length := by rw [RW.out.1]; exact hlt
      obtain ⟨⟨y1, hd1⟩, ⟨y2, hd2⟩, hd3, hd4, hst⟩ := row_set2 RW.out hcl ⟨k0 + 2 * k, k0 + 2 * k + 1⟩
      have HST := Lib.hid hst
      clear hst
      have hup := Lib.hid (upto_step hcl CU.out (marksV_get hlt))
      have hge := (RW.out.ge (by omega)).2
      have i1 : (0 : Int) ≤ k := by omega
      have i2 : (k : Int) < n := by omega
      have e1 : IntKind.i64.wrap (k0 + 2 * (k : Int) + 1) = k0 + 2 * (k : Int) + 1 := by rw [IntKind.wrap_i64]; omega
      go_wp2
      go_roundg (n - (k + 1))
      case measure => omega
      case rel => exact ⟨k + 1, cur.set k ⟨k0 + 2 * k, k0 + 2 * k + 1⟩, by omega, by omega, by go_num, by go_num, HST.out, hup.out, grown_set (grown_set GW.out _ _) _ _⟩
    · have : k = n := by omega
      subst this
      have e := upto_end (marksV_length _ _) RW.out.1 CU.out
      subst e
      have RR := Lib.hid RW.out
      clear RW CU
      go_wp2
      go_ret
      exact ⟨rfl, RR.out, GW.out⟩
end Go.Proofs.Ytmidnaafljgbiaa
/- The laws' marks on a run of the call's own, and their reading. -/
namespace Go.Proofs.Ytmidnaafljgbiaa
open Go.RowKit
set_option maxRecDepth 100000

theorem NeB.kept {v u : Value} (h : NeB v u) : u.ownBlock = none ∨ u.ownBlock ≠ v.ownBlock := by
  cases e : u.ownBlock with
  | none => exact .inl rfl
  | some k => exact .inr fun e' => h k e'.symm e
theorem lMarkI (xs : List Int) (A : Option Addr) (c base : Nat) (k0 : Int) (w : World) (h : OwnL encI 1 3 w base (.slice A xs.length c) xs) (hn : xs.length ≤ 140737488355328) (h0 : 0 ≤ k0) (h1 : k0 ≤ 1152921504606846976) :
    Calls Try.prog 58 #[.slice A xs.length c, .int .i64 k0] w fun e w' => e = .returned (.int .i64 (k0 + xs.length)) ∧ OwnL encI 1 3 w' base (.slice A xs.length c) (marksI k0 xs.length) ∧ w.grownBy w' (Value.slice A xs.length c).ownBlock := by
  by_cases hp : 0 < xs.length
  · obtain ⟨g, c', e, _, _⟩ := h.form hp
    simp only [Value.slice.injEq, true_and] at e
    obtain ⟨rfl, rfl⟩ := e
    exact (lMarkI1 xs g xs.length c base k0 w ⟨rfl, h⟩ hn h0 h1).mono fun e w' ⟨h1, h2, h3⟩ => ⟨h1, h2.2, h3⟩
  · have hz : xs.length = 0 := by omega
    have hx : xs = [] := List.length_eq_zero_iff.1 hz
    subst hx
    have H := Lib.hid h
    clear h hp hz
    simp only [List.length_nil] at H ⊢
    go_enter Try.func58, Try.ntmps58
    go_wp2
    go_loopg [1, 5] 0 (fun gg s1 s5 wr => s1 = .int .i64 k0 ∧ s5 = .int .i64 0 ∧ w = wr)
    case atStart => exact ⟨rfl, rfl, rfl⟩
    case round =>
      obtain ⟨rfl, rfl, rfl⟩ := hrel
      go_wp2
      go_ret
      exact ⟨ret_int (by simp), H.out, grown_refl _ _⟩
theorem lMarkV (xs : List Vl) (A : Option Addr) (c base : Nat) (k0 : Int) (w : World) (h : OwnL encV 2 30 w base (.slice A xs.length c) xs) (hn : xs.length ≤ 140737488355328) (h0 : 0 ≤ k0) (h1 : k0 ≤ 1152921504606846976) :
    Calls Try.prog 57 #[.slice A xs.length c, .int .i64 k0] w fun e w' => e = .returned (.int .i64 (k0 + 2 * xs.length)) ∧ OwnL encV 2 30 w' base (.slice A xs.length c) (marksV k0 xs.length) ∧ w.grownBy w' (Value.slice A xs.length c).ownBlock := by
  by_cases hp : 0 < xs.length
  · obtain ⟨g, c', e, _, _⟩ := h.form hp
    simp only [Value.slice.injEq, true_and] at e
    obtain ⟨rfl, rfl⟩ := e
    exact (lMarkV1 xs g xs.length c base k0 w ⟨rfl, h⟩ hn h0 h1).mono fun e w' ⟨h1, h2, h3⟩ => ⟨h1, h2.2, h3⟩
  · have hz : xs.length = 0 := by omega
    have hx : xs = [] := List.length_eq_zero_iff.1 hz
    subst hx
    have H := Lib.hid h
    clear h hp hz
    simp only [List.length_nil] at H ⊢
    go_enter Try.func57, Try.ntmps57
    go_wp2
    go_loopg [1, 5] 0 (fun gg s1 s5 wr => s1 = .int .i64 k0 ∧ s5 = .int .i64 0 ∧ w = wr)
    case atStart => exact ⟨rfl, rfl, rfl⟩
    case round =>
      obtain ⟨rfl, rfl, rfl⟩ := hrel
      go_wp2
      go_ret
      exact ⟨ret_int (by simp), H.out, grown_refl _ _⟩

set_option maxHeartbeats 1000000 in
theorem lHeldI (n : Nat) (k0 : Int) (A : Option Addr) (c B : Nat) (w : World) (h : ReadsI w B A n (marksI k0 n)) (h0 : 0 ≤ k0) (h1 : k0 ≤ 1152921504606846976) :
    Calls Try.prog 60 #[.slice A n c, .int .i64 k0] w fun e w' => e = .returned (.int .i64 (k0 + n)) ∧ w = w' := by
  have hn := h.2.1
  have H := Lib.hid h
  clear h
  go_enter Try.func60, Try.ntmps60
  go_wp2
  go_loopg [1, 5] n (fun gg s1 s5 wr => ∃ k : Nat, k ≤ n ∧ n - k ≤ gg ∧ s1 = .int .i64 (k0 + k) ∧ s5 = .int .i64 k ∧ w = wr)
  case atStart => exact ⟨0, Nat.zero_le _, by omega, by simp, rfl, rfl⟩
  case round =>
    obtain ⟨k, hk, hg, rfl, rfl, rfl⟩ := hrel
    by_cases hlt : k < n
    · obtain ⟨ad, rfl, _, hc⟩ := H.out.int (j := k) (by rw [marksI_length]; exact hlt)
      have e : (marksI k0 n)[k]'(by rw [marksI_length]; exact hlt) = k0 + k := Option.some.inj ((List.getElem?_eq_getElem _).symm.trans (marksI_get hlt))
      rw [e] at hc
      clear e
      have i1 : (0 : Int) ≤ k := by omega
      have i2 : (k : Int) < n := by omega
      go_wp2
      go_roundg (n - (k + 1))
      case measure => omega
      case rel => exact ⟨k + 1, by omega, by omega, by go_num, by go_num, rfl⟩
    · have : k = n := by omega
      subst this
      go_wp2
      go_ret
      exact ⟨rfl, rfl⟩
set_option maxHeartbeats 1000000 in
theorem lHeldV (n : Nat) (k0 : Int) (A : Option Addr) (c B : Nat) (w : World) (h : ReadsV w B A n (marksV k0 n)) (h0 : 0 ≤ k0) (h1 : k0 ≤ 1152921504606846976) :
    Calls Try.prog 59 #[.slice A n c, .int .i64 k0] w fun e w' => e = .returned (.int .i64 (k0 + 2 * n)) ∧ w = w' := by
  have hn := h.2.1
  have H := Lib.hid h
  clear h
  go_enter Try.func59, Try.ntmps59
  go_wp2
  go_loopg [1, 5] n (fun gg s1 s5 wr => ∃ k : Nat, k ≤ n ∧ n - k ≤ gg ∧ s1 = .int .i64 (k0 + 2 * k) ∧ s5 = .int .i64 k ∧ w = wr)
  case atStart => exact ⟨0, Nat.zero_le _, by omega, by simp, rfl, rfl⟩
  case round =>
    obtain ⟨k, hk, hg, rfl, rfl, rfl⟩ := hrel
    by_cases hlt : k < n
    · obtain ⟨ad, rfl, _, hc1, hc2⟩ := H.out.val (j := k) (by rw [marksV_length]; exact hlt)
      have e : (marksV k0 n)[k]'(by rw [marksV_length]; exact hlt) = ⟨k0 + 2 * k, k0 + 2 * k + 1⟩ := Option.some.inj ((List.getElem?_eq_getElem _).symm.trans (marksV_get hlt))
      rw [e] at hc1 hc2
      clear e
      have i1 : (0 : Int) ≤ k := by omega
      have i2 : (k : Int) < n := by omega
      have e1 : IntKind.i64.wrap (k0 + 2 * (k : Int) + 1) = k0 + 2 * (k : Int) + 1 := by rw [IntKind.wrap_i64]; omega
      go_wp2
      go_roundg (n - (k + 1))
      case measure => omega
      case rel => exact ⟨k + 1, by omega, by omega, by go_num, by go_num, rfl⟩
    · have : k = n := by omega
      subst this
      go_wp2
      go_ret
      exact ⟨rfl, rfl⟩
end Go.Proofs.Ytmidnaafljgbiaa
/- A whole run of the call's own marked, and its marks read. -/
namespace Go.Proofs.Ytmidnaafljgbiaa
open Go.RowKit
set_option maxRecDepth 100000

/-- A run's slices as values. -/
abbrev OwnA (w : World) (base : Nat) (r : Rn) (a : RA) : Prop := OwnRun 30 3 w base r (.slice a.sA r.slots.length a.sC) (.slice a.mA r.mail.length a.mC) (.slice a.lA r.links.length a.lC) (.slice a.wA r.watched.length a.wC)
end Go.Proofs.Ytmidnaafljgbiaa
