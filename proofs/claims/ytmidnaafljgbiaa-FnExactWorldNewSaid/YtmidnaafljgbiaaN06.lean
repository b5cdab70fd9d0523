/- Parts of the proof, in one text. -/
import Derived.Deep.RegionWith
import Derived.Deep.LoopGhost
import Derived.Test.YtmidnaafljgbiaaN05
import Derived.Test.YtmidnaafljgbiaaN04
/- When a run is ok, by the reference's text. -/
namespace Go.Proofs.Ytmidnaafljgbiaa
open Go.RowKit
set_option maxRecDepth 100000

end Go.Proofs.Ytmidnaafljgbiaa
/- The bits that two have, and what is full in one more way. -/
namespace Go.Proofs.Ytmidnaafljgbiaa
open Go.RowKit
set_option maxRecDepth 100000

def bothUpto (a b : Int) : Nat → Int
  | 0 => 0
  | k + 1 => bothUpto a b k + if hasBit a k && hasBit b k then bitI k else 0
theorem bothUpto_four (a b : Int) (h : 0 ≤ a) : bothUpto a b 4 = both a b := by
  unfold both
  rw [if_neg (by omega)]
  simp [bothUpto, bitI]
theorem bothUpto_le (a b : Int) : ∀ k, k ≤ 4 → 0 ≤ bothUpto a b k ∧ bothUpto a b k ≤ 8 * k := by
  intro k
  induction k with
  | zero => intro _; simp [bothUpto]
  | succ k ih =>
    intro hk
    have := ih (by omega)
    have hb : 0 ≤ bitI k ∧ bitI k ≤ 8 := by unfold bitI; (repeat' split) <;> omega
    unfold bothUpto
    split <;> omega
set_option maxHeartbeats 2000000 in
theorem sBoth (a b : Int) (ha : -1 ≤ a) (ha' : a ≤ 15) (hb : 0 ≤ b) (hb' : b ≤ 15) (w : World) : Calls Try.prog 141 #[.int .i64 a, .int .i64 b] w fun e w' => e = .returned (.int .i64 (both a b)) ∧ Below w.heap.size w w' := by
  by_cases h0 : a < 0
  · have e : both a b = b := by unfold both; rw [if_pos h0]
    rw [e]
    have b1 : decide (a < 0) = true := by simpa using h0
    clear e
    go_enter Try.func141, Try.ntmps141
    go_wp2
    go_ret
    exact ⟨rfl, Below.refl _ _⟩
  · have h1 : 0 ≤ a := by omega
    rw [← bothUpto_four a b h1]
    have HA := Lib.hid (fun (k : Nat) (hk : k < 4) W => sHas a k h1 ha' (inB_iff.2 ⟨by omega, by omega⟩) W)
    have HB := Lib.hid (fun (k : Nat) (hk : k < 4) W => sHas b k hb hb' (inB_iff.2 ⟨by omega, by omega⟩) W)
    have HI := Lib.hid (fun (k : Nat) (hk : k < 4) W => sBit k (bitI k) (bitI_pairs (inB_iff.2 ⟨by omega, by omega⟩)) W)
    have HL := Lib.hid (bothUpto_le a b)
    have b1 : decide (a < 0) = false := by simpa using h0
    clear ha h0
    go_enter Try.func141, Try.ntmps141
    go_wp2
    go_loopg [5, 6] 4 (fun gg s5 s6 wr => ∃ k : Nat, k ≤ 4 ∧ 4 - k ≤ gg ∧ s5 = .int .i64 (bothUpto a b k) ∧ s6 = .int .i64 k ∧ Hid (Below w.heap.size w wr))
    case atStart => exact ⟨0, by omega, by omega, rfl, rfl, Below.refl _ _⟩
    case round =>
      obtain ⟨k, hk, hg, rfl, rfl, BW⟩ := hrel
      by_cases hlt : k < 4
      · have hq := HL.out k (by omega)
        have hbi : 0 ≤ bitI k ∧ bitI k ≤ 8 := by unfold bitI; (repeat' split) <;> omega
        have H1 := Lib.hid (HA.out k hlt)
        have H2 := Lib.hid (HB.out k hlt)
        have H3 := Lib.hid (HI.out k hlt)
        have HS : Hid (bothUpto a b (k + 1) = bothUpto a b k + if hasBit a k && hasBit b k then bitI k else 0) := rfl
        clear HA HB HI HL
        have i1 : (0 : Int) ≤ k := by omega
        have i2 : (k : Int) ≤ 3 := by omega
        have MW := Mem.nil wr
        have M := MW
        clear MW
        generalize hasBit a k = x at H1 HS
        generalize hasBit b k = y at H2 HS
        cases x <;> cases y
        all_goals
          go_wp2_with (first
            | (go_at_call_of 82 (Value.int .i64 a); refine (H1.out _).mono ?_; rintro e w2 ⟨rfl, hb⟩; replace M := M.below hb; clear hb)
            | (go_at_call_of 82 (Value.int .i64 b); refine (H2.out _).mono ?_; rintro e w2 ⟨rfl, hb⟩; replace M := M.below hb; clear hb)
            | (go_at_call 107; refine (H3.out _).mono ?_; rintro e w2 ⟨rfl, hb⟩; replace M := M.below hb; clear hb))
          go_roundg (4 - (k + 1))
          case measure => omega
          case rel => exact ⟨k + 1, by omega, by omega, by rw [HS.out]; simp, by go_num, below_step BW.out M.toBelow⟩
      · have : k = 4 := by omega
        subst this
        go_wp2
        go_ret
        exact ⟨rfl, BW.out⟩
end Go.Proofs.Ytmidnaafljgbiaa
/- What is full is met with one more way. -/
namespace Go.Proofs.Ytmidnaafljgbiaa
open Go.RowKit
set_option maxRecDepth 100000

theorem Mem.setI {w0 w : World} {f : List Nat} {L L' : List Asn} {g k c : Nat} {z : Int} {xs : List Int} (M : Mem w0 f w L) (hd : Del (rowI (some ⟨g, 0, none⟩) c xs) L L') (hlt : k < xs.length) : Mem w0 f (w.setCell ⟨g, k, none⟩ (.int .i64 z)) (rowI (some ⟨g, 0, none⟩) c (xs.set k z) :: L') := by
  have M1 := Mem.setRow encI_length (j := 0) (u := .int .i64 z) (x' := z) M hd hlt (by decide) rfl
  rw [show k * 1 + 0 = k by omega] at M1
  exact M1
theorem elemI {w0 w : World} {f : List Nat} {L L' : List Asn} {g k c : Nat} {xs : List Int} (M : Mem w0 f w L) (hd : Del (rowI (some ⟨g, 0, none⟩) c xs) L L') (hlt : k < xs.length) : w.cell? ⟨g, k, none⟩ = some (.int .i64 xs[k]) ∧ w.frozen? ⟨g, k, none⟩ = false := by
  obtain ⟨_, h1, h2⟩ := row_elem encI_length M hd hlt
  have := h1 0 (by decide)
  simp only [Nat.mul_one, Nat.add_zero] at this
  exact ⟨this, h2 k⟩
set_option maxHeartbeats 2000000 in
theorem sMerge (F : List Int) (A : Option Addr) (c k : Nat) (b : Int) {w0 w : World} {f : List Nat} {L : List Asn} (M : Mem w0 f w (rowI A c F :: L)) (hF : Bits F) (hb : 0 ≤ b) (hb' : b ≤ 15) (hl : F.length ≤ 1000) (hk : k ≤ 1000) :
    Calls Try.prog 128 #[.slice A F.length c, .int .i64 (k : Int), .int .i64 b] w fun e w' => e = .returned (.bool (merge F k b).2) ∧ Mem w0 f w' (rowI A c (merge F k b).1 :: L) := by
  by_cases h : k < F.length
  · have hm : merge F k b = if both (F[k]) b = F[k] then (F, false) else (F.set k (both (F[k]) b), true) := by
      unfold merge getI
      rw [if_neg (by omega)]
      simp only [Int.toNat_natCast, List.getD_eq_getElem?_getD, List.getElem?_eq_getElem h, Option.getD_some]
    have hx := hF F[k] (List.getElem_mem h)
    obtain ⟨g, rfl⟩ := row_form M .here (by omega)
    have E := elemI M .here h
    have RE := Lib.hid (fun W (L L' : List Asn) (M : Mem w0 f W L) (hd : Del (rowI (some ⟨g, 0, none⟩) c F) L L') => elemI M hd h)
    have HB := Lib.hid (fun W => sBoth F[k] b hx.1 hx.2 hb hb' W)
    have AL := add_lit0
    rw [hm]
    generalize F[k] = x at E RE HB hx ⊢
    generalize hy : both x b = y at HB ⊢
    clear hm hF hx hy
    have i1 : (0 : Int) ≤ k := by omega
    have i2 : (k : Int) < F.length := by omega
    by_cases he : y = x
    · subst he
      rw [if_pos rfl]
      go_enter Try.func128, Try.ntmps128
      go_wp2_with (first
        | (go_at_call 141; refine (HB.out _).mono ?_; rintro e w2 ⟨rfl, hb⟩; replace M := M.below hb; clear hb; have E2 := RE.out _ _ _ M dl))
      go_ret
      exact ⟨rfl, M⟩
    · rw [if_neg he]
      have b1 : (y == x) = false := by simpa using he
      go_enter Try.func128, Try.ntmps128
      go_wp2_with (first
        | (go_at_call 141; refine (HB.out _).mono ?_; rintro e w2 ⟨rfl, hb⟩; replace M := M.below hb; clear hb; have E2 := RE.out _ _ _ M dl))
      go_ret
      exact ⟨rfl, Mem.setI M .here h⟩
  · have hm : merge F k b = (F, false) := by unfold merge; rw [if_pos (by omega)]
    rw [hm]
    have i1 : (F.length : Int) ≤ k := by omega
    clear hm hF
    go_enter Try.func128, Try.ntmps128
    go_wp2
    go_ret
    exact ⟨rfl, M⟩
end Go.Proofs.Ytmidnaafljgbiaa
