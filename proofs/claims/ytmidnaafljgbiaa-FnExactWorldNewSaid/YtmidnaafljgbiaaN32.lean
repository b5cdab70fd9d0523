/- Parts of the proof, in one text. -/
import Derived.Test.YtmidnaafljgbiaaN31
import Derived.Test.YtmidnaafljgbiaaN29
import Derived.Test.YtmidnaafljgbiaaN30
/- The reference's copy of a world. -/
namespace Go.Proofs.Ytmidnaafljgbiaa
open Go.RowKit
set_option maxRecDepth 100000

end Go.Proofs.Ytmidnaafljgbiaa
/- The laws' marks on steps: laid, and held. -/
namespace Go.Proofs.Ytmidnaafljgbiaa
open Go.RowKit
set_option maxRecDepth 100000

section
variable {P : Program} {ops : Array Oper} {rest : List Oper} {Q : Exit → Act → World → Prop} {a : Act} {x y : Operand} {ty tt : TypeId} {pos : String} {after : Array Edge} {gd : Option (Nat × Bool)}
variable {α : Type} {enc : α → List Value} {m : Nat} {t : TypeId} {c : Nat} {pre post : List α} {e0 : α} {w0 w : World} {f : List Nat} {L L' : List Asn}
theorem mid_get (pre post : List α) (e0 : α) {k : Nat} (hp : pre.length = k) (h : k < (pre ++ e0 :: post).length) : (pre ++ e0 :: post)[k] = e0 := by
  subst hp
  simp
theorem mid_set (pre post : List α) (e0 x' : α) {k : Nat} (hp : pre.length = k) : (pre ++ e0 :: post).set k x' = pre ++ x' :: post := by
  subst hp
  simp
/-- One cell of an element of a row is stored. -/
theorem ev_elem (x' : α) (j : Nat) (hk : ∀ x, (enc x).length = m) (M : Mem w0 f w L) {v : Value} {g off k : Nat} (hw : Region.wanted ⟨none, .store tt x y, ty, pos, after, gd⟩ (yielded ops a.tmps) = true) (hx : a.eval x = .pointer (some ⟨g, off, none⟩)) (hy : a.eval y = v) (hv : v.cells = [v].toArray)
    (hs : (P.info? tt).map (·.size) = some 1) (h1 : v.oneCell' = true) (hd : Del (row enc m t (some ⟨g, 0, none⟩) c (pre ++ e0 :: post)) L L') (ho : off = k * m + j) (hp : pre.length = k) (hj : j < m) (e : enc x' = (enc e0).set j v)
    (h : ∀ w1, Mem w0 f w1 (row enc m t (some ⟨g, 0, none⟩) c (pre ++ x' :: post) :: L') → wpList P ops Q rest a w1) : wpList P ops Q (⟨none, .store tt x y, ty, pos, after, gd⟩ :: rest) a w := by
  have hl : k < (pre ++ e0 :: post).length := by rw [List.length_append, List.length_cons]; omega
  refine ev_store_row (j := j) (k := k) (x' := x') (vs := [v]) hk hw hx hy hv hs (by intro u hu; rw [List.mem_singleton.1 hu]; exact h1) M hd ho hl (by rw [List.length_singleton]; omega) ?_ fun w1 M1 => h w1 ?_
  · rw [mid_get _ _ _ hp hl, splice_one _ _ _ (by rw [hk]; exact hj)]
    exact e
  · rw [mid_set _ _ _ _ hp] at M1
    exact M1
theorem row_mid (hk : ∀ x, (enc x).length = m) {g k : Nat} (M : Mem w0 f w L) (hd : Del (row enc m t (some ⟨g, 0, none⟩) c (pre ++ e0 :: post)) L L') (hp : pre.length = k) : ∀ j, j < m → w.cell? ⟨g, k * m + j, none⟩ = (enc e0)[j]? := by
  have hl : k < (pre ++ e0 :: post).length := by rw [List.length_append, List.length_cons]; omega
  have h := (row_elem hk M hd hl).2.1
  rw [mid_get _ _ _ hp hl] at h
  exact h
end
theorem setO0 (k r s to vk vn u : Int) : encO ⟨u, r, s, to, ⟨vk, vn⟩⟩ = (encO ⟨k, r, s, to, ⟨vk, vn⟩⟩).set 0 (.int .i64 u) := rfl
theorem setO1 (k r s to vk vn u : Int) : encO ⟨k, u, s, to, ⟨vk, vn⟩⟩ = (encO ⟨k, r, s, to, ⟨vk, vn⟩⟩).set 1 (.int .i64 u) := rfl
theorem setO2 (k r s to vk vn u : Int) : encO ⟨k, r, u, to, ⟨vk, vn⟩⟩ = (encO ⟨k, r, s, to, ⟨vk, vn⟩⟩).set 2 (.int .i64 u) := rfl
theorem setO3 (k r s to vk vn u : Int) : encO ⟨k, r, s, u, ⟨vk, vn⟩⟩ = (encO ⟨k, r, s, to, ⟨vk, vn⟩⟩).set 3 (.int .i64 u) := rfl
theorem setO4 (k r s to vk vn u : Int) : encO ⟨k, r, s, to, ⟨u, vn⟩⟩ = (encO ⟨k, r, s, to, ⟨vk, vn⟩⟩).set 4 (.int .i64 u) := rfl
theorem setO5 (k r s to vk vn u : Int) : encO ⟨k, r, s, to, ⟨vk, u⟩⟩ = (encO ⟨k, r, s, to, ⟨vk, vn⟩⟩).set 5 (.int .i64 u) := rfl
def markO (k : Int) : Opx := ⟨k, k + 1, k + 2, k + 3, ⟨k + 4, k + 5⟩⟩
def marksO (k : Int) (n : Nat) : List Opx := (List.range n).map fun (i : Nat) => markO (k + 6 * (i : Int))
theorem marksO_length (k : Int) (n : Nat) : (marksO k n).length = n := by simp [marksO]
theorem marksO_succ (k : Int) (n : Nat) : marksO k (n + 1) = marksO k n ++ [markO (k + 6 * (n : Int))] := by simp [marksO, List.range_succ]
theorem marksO_get {k : Int} {n j : Nat} (h : j < (marksO k n).length) : (marksO k n)[j] = markO (k + 6 * (j : Int)) := by simp [marksO]
set_option maxHeartbeats 4000000 in
theorem lMarkOpS (xs : List Opx) (A : Option Addr) (c : Nat) (k0 : Int) {w0 w : World} {f : List Nat} {L L' : List Asn} (M : Mem w0 f w L) (hd : Del (rowO A c xs) L L') (h0 : 0 ≤ k0) (h1 : k0 ≤ 1152921504606846976) (hn : xs.length ≤ 140737488355328) :
    Calls Try.prog 28 #[.slice A xs.length c, .int .i64 k0] w fun e w' => e = .returned (.int .i64 (k0 + 6 * xs.length)) ∧ Mem w0 f w' (rowO A c (marksO k0 xs.length) :: L') := by
  replace M := M.pull hd
  clear hd
  have AL := add_lit0
  go_enter Try.func28, Try.ntmps28
  go_wp2
  go_loopg [1, 5] xs.length (fun gg s1 s5 wr => ∃ k : Nat, k ≤ xs.length ∧ xs.length - k ≤ gg ∧ s1 = .int .i64 (k0 + 6 * k) ∧ s5 = .int .i64 k ∧ Hid (Mem w0 f wr (row encO 6 tO A c (marksO k0 k ++ xs.drop k) :: L')))
  case atStart => exact ⟨0, Nat.zero_le _, by omega, by simp, rfl, by (have e : marksO k0 0 ++ xs.drop 0 = xs := by simp [marksO]); rw [e]; exact M⟩
  case round =>
    clear M
    obtain ⟨k, hk, hg, rfl, rfl, M⟩ := hrel
    replace M := M.out
    by_cases hlt : k < xs.length
    · obtain ⟨g, rfl⟩ := row_form M .here (by rw [List.length_append, marksO_length, List.length_drop]; omega)
      have hpl := marksO_length k0 k
      have hdr : xs.drop k = xs[k] :: xs.drop (k + 1) := List.drop_eq_getElem_cons hlt
      rw [hdr] at M
      have hms := marksO_succ k0 k
      have hpl := Lib.hid hpl
      have hms := Lib.hid hms
      generalize marksO k0 k = pre at M hpl hms
      generalize xs[k] = x at M
      obtain ⟨xk, xr, xs1, xt, ⟨xvk, xvn⟩⟩ := x
      clear hdr
      have i1 : (0 : Int) ≤ k := by omega
      have i2 : (k : Int) < xs.length := by omega
      have a0 : IntKind.i64.wrap (k0 + 6 * (k : Int) + 1) = k0 + 6 * (k : Int) + 1 := by rw [IntKind.wrap_i64]; omega
      have a1 : IntKind.i64.wrap (k0 + 6 * (k : Int) + 1 + 1) = k0 + 6 * (k : Int) + 2 := by rw [IntKind.wrap_i64]; omega
      have a2 : IntKind.i64.wrap (k0 + 6 * (k : Int) + 2 + 1) = k0 + 6 * (k : Int) + 3 := by rw [IntKind.wrap_i64]; omega
      have a3 : IntKind.i64.wrap (k0 + 6 * (k : Int) + 3 + 1) = k0 + 6 * (k : Int) + 4 := by rw [IntKind.wrap_i64]; omega
      have a4 : IntKind.i64.wrap (k0 + 6 * (k : Int) + 4 + 1) = k0 + 6 * (k : Int) + 5 := by rw [IntKind.wrap_i64]; omega
      have a5 : IntKind.i64.wrap (k0 + 6 * (k : Int) + 5 + 1) = k0 + 6 * ((k + 1 : Nat) : Int) := by rw [IntKind.wrap_i64]; omega
      have b2 : IntKind.i64.wrap (k0 + 6 * (k : Int) + 2) = k0 + 6 * (k : Int) + 2 := by rw [IntKind.wrap_i64]; omega
      have b3 : IntKind.i64.wrap (k0 + 6 * (k : Int) + 3) = k0 + 6 * (k : Int) + 3 := by rw [IntKind.wrap_i64]; omega
      have b4 : IntKind.i64.wrap (k0 + 6 * (k : Int) + 4) = k0 + 6 * (k : Int) + 4 := by rw [IntKind.wrap_i64]; omega
      have b5 : IntKind.i64.wrap (k0 + 6 * (k : Int) + 5) = k0 + 6 * (k : Int) + 5 := by rw [IntKind.wrap_i64]; omega
      have b6 : IntKind.i64.wrap (k0 + 6 * (k : Int) + 6) = k0 + 6 * ((k + 1 : Nat) : Int) := by rw [IntKind.wrap_i64]; omega
      go_wp2_with (first | ((with_reducible apply ev_elem (enc := encO) (j := 0) (k := k) (hk := encO_length) (M := M)); rfl; rfl; ((conv => lhs; whnf) <;> rfl); rfl; exact siI; rfl; exact .here; (first | with_reducible rfl | with_reducible exact (Nat.add_zero _).symm); exact hpl.out; decide; exact setO0 _ _ _ _ _ _ _; clear M; intro w1 M) | ((with_reducible apply ev_elem (enc := encO) (j := 1) (k := k) (hk := encO_length) (M := M)); rfl; rfl; ((conv => lhs; whnf) <;> rfl); rfl; exact siI; rfl; exact .here; (first | with_reducible rfl | with_reducible exact (Nat.add_zero _).symm); exact hpl.out; decide; exact setO1 _ _ _ _ _ _ _; clear M; intro w1 M) | ((with_reducible apply ev_elem (enc := encO) (j := 2) (k := k) (hk := encO_length) (M := M)); rfl; rfl; ((conv => lhs; whnf) <;> rfl); rfl; exact siI; rfl; exact .here; (first | with_reducible rfl | with_reducible exact (Nat.add_zero _).symm); exact hpl.out; decide; exact setO2 _ _ _ _ _ _ _; clear M; intro w1 M) | ((with_reducible apply ev_elem (enc := encO) (j := 3) (k := k) (hk := encO_length) (M := M)); rfl; rfl; ((conv => lhs; whnf) <;> rfl); rfl; exact siI; rfl; exact .here; (first | with_reducible rfl | with_reducible exact (Nat.add_zero _).symm); exact hpl.out; decide; exact setO3 _ _ _ _ _ _ _; clear M; intro w1 M) | ((with_reducible apply ev_elem (enc := encO) (j := 4) (k := k) (hk := encO_length) (M := M)); rfl; rfl; ((conv => lhs; whnf) <;> rfl); rfl; exact siI; rfl; exact .here; (first | with_reducible rfl | with_reducible exact (Nat.add_zero _).symm); exact hpl.out; decide; exact setO4 _ _ _ _ _ _ _; clear M; intro w1 M) | ((with_reducible apply ev_elem (enc := encO) (j := 5) (k := k) (hk := encO_length) (M := M)); rfl; rfl; ((conv => lhs; whnf) <;> rfl); rfl; exact siI; rfl; exact .here; (first | with_reducible rfl | with_reducible exact (Nat.add_zero _).symm); exact hpl.out; decide; exact setO5 _ _ _ _ _ _ _; clear M; intro w1 M))
      go_roundg (xs.length - (k + 1))
      case measure => omega
      case rel => exact ⟨k + 1, by omega, by omega, rfl, by go_num, by rw [hms.out, List.append_assoc]; exact M⟩
    · have : k = xs.length := by omega
      subst this
      rw [List.drop_length, List.append_nil] at M
      go_wp2
      go_ret
      exact ⟨rfl, M⟩
end Go.Proofs.Ytmidnaafljgbiaa
/- The laws' own sizes of worlds. -/
namespace Go.Proofs.Ytmidnaafljgbiaa
open Go.RowKit
set_option maxRecDepth 100000

theorem sizesR_psle (ps : List (Rn × RA)) (k : Nat) : sizesR ((ps.take k).map (·.1)) ≤ sizesR (ps.map (·.1)) := by
  have h := sizesR_le (ps.map (·.1)) k
  rw [List.map_take]
  exact h
end Go.Proofs.Ytmidnaafljgbiaa
