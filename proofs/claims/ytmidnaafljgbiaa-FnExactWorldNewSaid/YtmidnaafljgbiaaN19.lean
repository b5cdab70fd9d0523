/- Parts of the proof, in one text. -/
import Derived.Deep.RegionHeld3
import Derived.Test.YtmidnaafljgbiaaN18
import Derived.Test.YtmidnaafljgbiaaN07
/- The ways from a step, taken one by one; nothing is walked here. -/
namespace Go.Proofs.Ytmidnaafljgbiaa
open Go.RowKit
set_option maxRecDepth 100000

theorem andBoth_all : ∀ a : Fin 17, ∀ b : Fin 16, bits .and .i64 ((a.val : Int) - 1) (b.val : Int) = both ((a.val : Int) - 1) b.val := by decide +kernel
theorem andBoth {a b : Int} (ha : -1 ≤ a ∧ a ≤ 15) (hb : 0 ≤ b ∧ b ≤ 15) : bits .and .i64 a b = both a b := by
  have h := andBoth_all ⟨(a + 1).toNat, by omega⟩ ⟨b.toNat, by omega⟩
  simp only [Int.toNat_of_nonneg hb.1, Int.toNat_of_nonneg (show 0 ≤ a + 1 by omega), Int.add_sub_cancel] at h
  exact h
/-- What a way makes of the slots that are full. -/
def apFk (r : Int) : Fk → Int → Int
  | .same, B => B
  | .fill _, B => withBit B r
  | .one, _ => 1
def wayStep (r i : Int) (p : List Int × Bool) (x : Arw) : List Int × Bool := ((merge p.1 x.to (apFk r x.fn (getI p.1 i))).1, p.2 || (merge p.1 x.to (apFk r x.fn (getI p.1 i))).2)
theorem ways_fold {o : Opx} (ho : opOk o = true) (F : List Int) (k g : Nat) : (arrowsOf o F.length k g).foldl (wayStep o.r k) (F, false) = stepWays o F k := by
  have e : ∀ p : List Int × Bool, (goWay o).foldl (wayStep o.r k) p = (if o.k = 5 then ((merge p.1 o.to 1).1, p.2 || (merge p.1 o.to 1).2) else if goesTo o.k then ((merge p.1 o.to (getI p.1 k)).1, p.2 || (merge p.1 o.to (getI p.1 k)).2) else p) := by
    intro p
    unfold goWay
    rw [goes_form ho]
    split
    · rfl
    · split <;> rfl
  have hc : (o.k ≠ 9 ∧ o.k ≠ 14 ∧ (k : Int) + 1 < F.length) ↔ (o.k ≠ 9 ∧ o.k ≠ 14 ∧ k + 1 < F.length) := by omega
  unfold arrowsOf stepWays
  rw [List.foldl_append, e]
  unfold nextWay
  by_cases h : o.k ≠ 9 ∧ o.k ≠ 14 ∧ k + 1 < F.length
  · rw [if_pos h, if_pos (hc.2 h)]
    simp only [List.foldl_cons, List.foldl_nil]
    have e2 : wayStep o.r k (F, false) ⟨(k : Int) + 1, if fillsR o.k then .fill g else .same⟩ = merge F ((k : Int) + 1) (if fillsR o.k then withBit (getI F k) o.r else getI F k) := by
      cases hf : fillsR o.k <;> simp [wayStep, apFk]
    rw [e2]
    split
    · rfl
    · split
      · rfl
      · simp
  · rw [if_neg h, if_neg (fun q => h (hc.1 q))]
    simp only [List.foldl_nil]
    split
    · rfl
    · split
      · rfl
      · simp
end Go.Proofs.Ytmidnaafljgbiaa
/- What is full ahead of each step, by the program's text. -/
namespace Go.Proofs.Ytmidnaafljgbiaa
open Go.RowKit
set_option maxRecDepth 100000

def fillA (n k : Nat) : List Int := (List.range n).map (fun j => if j < k then -1 else 0)
theorem fillA_length (n k : Nat) : (fillA n k).length = n := by simp [fillA]
theorem fillA_zero (n : Nat) : fillA n 0 = fillUp n 1 := by
  unfold fillA fillUp
  congr 1
  funext j
  rw [if_neg (by omega), if_neg (by omega)]
theorem fillA_set {n k : Nat} : (fillA n k).set k (-1) = fillA n (k + 1) := by
  apply List.ext_getElem
  · simp [fillA]
  · intro i h2 h3
    simp only [fillA, List.getElem_set, List.getElem_map, List.getElem_range]
    by_cases h : k = i
    · subst h; rw [if_pos rfl, if_pos (by omega)]
    · rw [if_neg h]
      by_cases h4 : i < k
      · rw [if_pos h4, if_pos (by omega)]
      · rw [if_neg h4, if_neg (by omega)]
theorem fillA_end (n : Nat) : (fillA n n).set 0 1 = full0 n := by
  apply List.ext_getElem
  · simp [fillA, full0]
  · intro i h2 h3
    simp only [fillA, full0, List.getElem_set, List.getElem_map, List.getElem_range, List.getElem_replicate]
    by_cases h : 0 = i
    · rw [if_pos h, if_pos h]
    · rw [if_neg h, if_neg h, if_pos]
      have : i < n := by simpa [fillA] using h2
      omega
theorem row_madeA {w0 w : World} {f : List Nat} {L : List Asn} {g n : Nat} (hn : n ≤ 1000) (M : Mem w0 f w (blk g 3 (flat encI (List.replicate n 0)) :: L)) : Mem w0 f w (rowI (some ⟨g, 0, none⟩) n (fillA n 0) :: L) := by
  rw [fillA_zero]
  exact row_made hn M
theorem elemA {w0 w : World} {f : List Nat} {L L' : List Asn} {g k c : Nat} {xs : List Arw} (M : Mem w0 f w L) (hd : Del (row encA 2 125 (some ⟨g, 0, none⟩) c xs) L L') (hlt : k < xs.length) : w.cell? ⟨g, k * 2, none⟩ = some (.int .i64 xs[k].to) ∧ w.cell? ⟨g, k * 2 + 1, none⟩ = some (fnV xs[k].fn) := by
  obtain ⟨_, h1, h2⟩ := row_elem encA_length M hd hlt
  exact ⟨h1 0 (by decide), h1 1 (by decide)⟩
/-- What is known of each way. -/
def ArOk (n ga : Nat) (x : Arw) : Prop := 0 ≤ x.to ∧ x.to < n ∧ ∀ g, x.fn = .fill g → g = ga
theorem arrowsOf_ok {C : List Opx} {k : Nat} (hk : k < C.length) (ga : Nat) (hto : stepOk C.length C[k] = true) (ho : opOk C[k] = true) : ∀ x ∈ arrowsOf C[k] C.length k ga, ArOk C.length ga x := by
  intro x hx
  have h5 : ∀ q : formAt C[k].k 2 = true ∨ C[k].k = 5, 0 ≤ C[k].to ∧ C[k].to < C.length := by
    intro q
    have hg : goesTo C[k].k = true := by
      rcases q with q | q
      · rw [← goes_form ho]; exact q
      · rw [q]; rfl
    have h6 := hto
    unfold stepOk at h6
    rw [ho, hg] at h6
    simp only [Bool.true_and, Bool.not_eq_true', decide_eq_false_iff_not] at h6
    exact ⟨(opOk_parts ho).2.2.2.2.2.2.1, by omega⟩
  rcases List.mem_append.1 hx with h | h
  · unfold nextWay at h
    split at h
    · obtain rfl := List.mem_singleton.1 h
      refine ⟨by simp only; omega, by simp only; omega, fun g e => ?_⟩
      simp only at e
      split at e
      · injection e with e1; exact e1.symm
      · cases e
    · cases h
  · unfold goWay at h
    split at h
    · rename_i h6
      obtain rfl := List.mem_singleton.1 h
      exact ⟨(h5 (.inr h6)).1, (h5 (.inr h6)).2, fun g e => by cases e⟩
    · split at h
      · rename_i h6
        obtain rfl := List.mem_singleton.1 h
        exact ⟨(h5 (.inl h6)).1, (h5 (.inl h6)).2, fun g e => by cases e⟩
      · cases h
theorem arrowsOf_len (o : Opx) (n k g : Nat) : (arrowsOf o n k g).length ≤ 2 := by
  have h1 : (nextWay o n k g).length ≤ 1 := by unfold nextWay; split <;> simp
  have h2 : (goWay o).length ≤ 1 := by
    unfold goWay
    split
    · simp
    · split <;> simp
  unfold arrowsOf
  rw [List.length_append]
  omega
set_option maxHeartbeats 2000000 in
theorem iFull (C : List Opx) (cA : Option Addr) (cC : Nat) {w0 w : World} {f : List Nat} {L : List Asn} (M : Mem w0 f w (rowO cA cC C :: L)) (h1 : 1 ≤ C.length) (h16 : C.length ≤ 16) (ho : ∀ o ∈ C, opOk o = true) (hs : ∀ o ∈ C, stepOk C.length o = true) :
    Calls Try.prog 98 #[.slice cA C.length cC] w fun e w' => ∃ (A : Option Addr) (c : Nat), e = .returned (.slice A C.length c) ∧ Mem w0 f w' (rowI A c (fullOf C) :: rowO cA cC C :: L) := by
  have hmk := makeI C.length (by omega)
  have HP := Lib.hid ho
  have HS0 := Lib.hid hs
  clear ho hs
  have AL := add_lit0
  go_enter Try.func98, Try.ntmps98
  go_wp2_with (first | (with_reducible refine alAw M ?_; clear M; (try clear F); intro w1 M F))
  clear hmk
  have M1 := row_madeA (by omega) M
  clear M F
  generalize w.heap.size = g at M1 ⊢
  go_loopg [4, 15] C.length (fun gg _ i wr => ∃ k : Nat, k ≤ C.length ∧ C.length - k ≤ gg ∧ i = .int .i64 k ∧ Hid (Mem w0 f wr (rowI (some ⟨g, 0, none⟩) C.length (fillA C.length k) :: rowO cA cC C :: L)))
  case atStart => exact ⟨0, by omega, by omega, rfl, M1⟩
  case round =>
    clear M1
    obtain ⟨k, hk, hg, rfl, MW⟩ := hrel
    by_cases hlt : k < C.length
    · have hkl : k < (fillA C.length k).length := by rw [fillA_length]; exact hlt
      obtain ⟨E1, E2⟩ := elemI MW.out .here hkl
      have MS := Lib.hid (Mem.setI (z := -1) MW.out .here hkl)
      rw [fillA_set] at MS
      generalize (fillA C.length k)[k] = y at E1
      have i1 : (0 : Int) ≤ k := by omega
      have i2 : (k : Int) < C.length := by omega
      go_wp2
      go_roundg (C.length - (k + 1))
      case measure => omega
      case rel => exact ⟨k + 1, by omega, by omega, by go_num, MS.out⟩
    · have : k = C.length := by omega
      subst this
      have hkl : 0 < (fillA C.length C.length).length := by rw [fillA_length]; exact h1
      obtain ⟨E1, E2⟩ := elemI MW.out .here hkl
      have MS := Lib.hid (Mem.setI (z := 1) MW.out .here hkl)
      rw [fillA_end] at MS
      generalize (fillA C.length C.length)[0] = y at E1
      have i2 : (0 : Int) < C.length := by omega
      go_wp2
      go_loopg [5] (weight (full0 C.length) + 1) (fun gg v wr => ∃ (F : List Int) (mv : Bool), v = .bool mv ∧ (mv = true → weight F + 1 ≤ gg) ∧ Hid (Bits F) ∧ Hid (F.length = C.length) ∧ Hid (if mv then settle C F = fullOf C else F = fullOf C) ∧ Hid (Mem w0 f wr (rowI (some ⟨g, 0, none⟩) C.length F :: rowO cA cC C :: L)))
      case atStart => exact ⟨full0 C.length, true, rfl, fun _ => Nat.le_refl _, full0_bits _, full0_length _, rfl, MS.out⟩
      case round =>
        clear MS MW E1 E2
        obtain ⟨F, mv, rfl, hw, hB, hL, hS, MF⟩ := hrel
        cases mv
        · go_wp2
          go_ret
          have e : F = fullOf C := hS.out
          subst e
          exact ⟨_, _, rfl, MF.out⟩
        · replace hw := hw rfl
          have hS' : Hid (settle C F = fullOf C) := hS
          clear hS
          go_wp2
          go_loopg [5, 6, 27] C.length (fun gg2 v5 _ v6 wr => ∃ (k : Nat) (F1 : List Int) (m : Bool), k ≤ C.length ∧ C.length - k ≤ gg2 ∧ v5 = .bool m ∧ v6 = .int .i64 k ∧ Hid (Bits F1) ∧ Hid (F1.length = C.length) ∧ Hid (sweepS C F k (F1, m)) ∧ Hid (Mem w0 f wr (rowI (some ⟨g, 0, none⟩) C.length F1 :: rowO cA cC C :: L)))
          case atStart => exact ⟨0, F, false, by omega, by omega, rfl, rfl, hB, hL, rfl, MF.out⟩
          case round =>
            clear MF
            obtain ⟨k, F1, m, hk, hg2, rfl, rfl, hB1, hL1, hW, M⟩ := hrel
            replace M := M.out
            by_cases hlt : k < C.length
            · have hkF : k < F1.length := by rw [hL1.out]; exact hlt
              have ex : F1[k] = getI F1 k := by unfold getI; simp [List.getD_eq_getElem?_getD, List.getElem?_eq_getElem hkF]
              obtain ⟨E1, E2⟩ := elemI M .here hkF
              rw [ex] at E1
              clear ex
              have i1 : (0 : Int) ≤ k := by omega
              have i2' : (k : Int) < C.length := by omega
              by_cases hb : 0 ≤ getI F1 k
              · have HO := Lib.hid (sweepS_on hlt hW.out hb)
                have HFF := Lib.hid (stepFrom_facts (HP.out _ (List.getElem_mem hlt)) hB1.out (i := k) (by omega) (by omega) hb)
                have HW := Lib.hid (stepWays_eq (HP.out _ (List.getElem_mem hlt)) hB1.out (i := k) (by omega) (by omega) hb)
                have HA := Lib.hid (fun W (M : Mem w0 f W (rowI (some ⟨g, 0, none⟩) C.length F1 :: rowO cA cC C :: L)) => iArrows C cA cC k hlt h16 M (.there .here))
                have WF := Lib.hid (fun ga => ways_fold (HP.out _ (List.getElem_mem hlt)) F1 k ga)
                rw [hL1.out, HW.out] at WF
                have WO := Lib.hid (fun ga => arrowsOf_ok hlt ga (HS0.out _ (List.getElem_mem hlt)) (HP.out _ (List.getElem_mem hlt)))
                generalize stepFrom C[k] F1 k = p at HO HFF WF
                obtain ⟨F2, m2⟩ := p
                have hb0 := Lib.hid hb
                generalize getI F1 k = x at E1 hb
                clear hW HW
                go_wp2_with (go_at_call 120; refine (HA.out _ M).mono ?_; clear M HA; rintro e w2 ⟨ga, A, c, rfl, M⟩)
                have WFg := Lib.hid (WF.out ga)
                have WOg := Lib.hid (WO.out ga)
                replace M := M.pull (A := rowI (some ⟨g, 0, none⟩) C.length F1) (.there (.there .here))
                clear WF WO
                have hxl := arrowsOf_len C[k] C.length k ga
                generalize arrowsOf C[k] C.length k ga = xs at M WFg WOg hxl ⊢
                have OR := Lib.hid (opOk_parts (HP.out _ (List.getElem_mem hlt))).2.2.2.2.1
                generalize C[k] = o at M WFg OR
                go_loopg [5, 9, 39] xs.length (fun gg3 v5 _ i wr => ∃ (j : Nat) (F3 : List Int) (m3 mm : Bool), j ≤ xs.length ∧ xs.length - j ≤ gg3 ∧ v5 = .bool mm ∧ i = .int .i64 j ∧ Hid (mm = (m || m3)) ∧ Hid (Bits F3) ∧ Hid (F3.length = C.length) ∧ Hid ((xs.drop j).foldl (wayStep o.r k) (F3, m3) = (F2, m2)) ∧ Hid (0 ≤ getI F3 k) ∧ Hid (Mem w0 f wr (rowI (some ⟨g, 0, none⟩) C.length F3 :: row encA 2 125 A c xs :: blk ga tO (encO o) :: rowO cA cC C :: L)))
                case atStart => exact ⟨0, F1, false, m, by omega, by omega, rfl, rfl, by simp [Lib.hid], hB1, hL1, WFg, hb0, M⟩
                case round =>
                  clear M WFg
                  obtain ⟨j, F3, m3, mm, hj, hg3, rfl, rfl, hmm, hB3, hL3, hF3, hb3, M⟩ := hrel
                  replace M := M.out
                  by_cases hlj : j < xs.length
                  · obtain ⟨gx, rfl⟩ := row_form M (.there .here) (by omega)
                    obtain ⟨EA, EB⟩ := elemA M (.there .here) hlj
                    obtain ⟨o1, o2, o3⟩ := WOg.out xs[j] (List.getElem_mem hlj)
                    have hst := hF3.out
                    rw [List.drop_eq_getElem_cons hlj, List.foldl_cons] at hst
                    replace hst := Lib.hid hst
                    clear hF3
                    generalize xs[j] = xa at EA EB o1 o2 o3 hst
                    obtain ⟨to, fn⟩ := xa
                    simp only at EA EB o1 o2 o3
                    obtain ⟨t, rfl⟩ := Int.eq_ofNat_of_zero_le o1
                    have ht : t < F3.length := by rw [hL3.out]; omega
                    have hkF3 : k < F3.length := by rw [hL3.out]; exact hlt
                    have ext : F3[t] = getI F3 t := by unfold getI; simp [List.getD_eq_getElem?_getD, List.getElem?_eq_getElem ht]
                    have exk : F3[k] = getI F3 k := by unfold getI; simp [List.getD_eq_getElem?_getD, List.getElem?_eq_getElem hkF3]
                    have Et := (elemI M .here ht).1
                    have Ek := (elemI M .here hkF3).1
                    rw [ext] at Et
                    rw [exk] at Ek
                    have bt := hB3.out _ (getI_mem (f := F3) (i := t) (by omega) (by omega))
                    have bk := hB3.out _ (getI_mem (f := F3) (i := k) (by omega) (by omega))
                    have bk0 := hb3.out
                    have RI := Lib.hid (fun W (L L' : List Asn) (M : Mem w0 f W L) (hd : Del (rowI (some ⟨g, 0, none⟩) C.length F3) L L') => (⟨ext ▸ (elemI M hd ht).1, exk ▸ (elemI M hd hkF3).1, (elemI M hd ht).2⟩ : W.cell? ⟨g, t, none⟩ = some (.int .i64 (getI F3 t)) ∧ W.cell? ⟨g, k, none⟩ = some (.int .i64 (getI F3 k)) ∧ W.frozen? ⟨g, t, none⟩ = false))
                    clear ext exk E1 E2 HO HFF WOg hS' HP HS0
                    have j1 : (0 : Int) ≤ j := by omega
                    have j2 : (j : Int) < xs.length := by omega
                    have t1 : (0 : Int) ≤ t := by omega
                    have t2 : (t : Int) < C.length := by omega
                    cases fn with
                    | same =>
                      have hst1 := hst.out
                      have mf := merge_facts hB3.out t1 (show 0 ≤ getI F3 k ∧ getI F3 k ≤ 15 from ⟨bk0, bk.2⟩)
                      have ab := andBoth bt ⟨bk0, bk.2⟩
                      by_cases hq : both (getI F3 t) (getI F3 k) = getI F3 t
                      case neg =>
                        have em : merge F3 t (getI F3 k) = (F3.set t (both (getI F3 t) (getI F3 k)), true) := by
                          unfold merge
                          rw [if_neg (by omega), if_neg hq]
                          rfl
                        have hn : Hid ((xs.drop (j + 1)).foldl (wayStep o.r k) (F3.set t (both (getI F3 t) (getI F3 k)), true) = (F2, m2)) := by
                          simp only [wayStep, apFk, em, Bool.or_true] at hst1
                          exact hst1
                        rw [em] at mf
                        have hLv : Hid ((F3.set t (both (getI F3 t) (getI F3 k))).length = C.length) := mf.1.trans hL3.out
                        have hBv : Hid (Bits (F3.set t (both (getI F3 t) (getI F3 k)))) := mf.2.1
                        have hbv : Hid (0 ≤ getI (F3.set t (both (getI F3 t) (getI F3 k))) k) := mf.2.2.2.2.1 k (by omega) (by omega) bk0
                        have hm2 : Hid (true = (m || true)) := by simp [Lib.hid]
                        generalize both (getI F3 t) (getI F3 k) = v at ab hn hLv hBv hbv hq
                        have MSS := Lib.hid (fun W (L' : List Asn) (M : Mem w0 f W (rowI (some ⟨g, 0, none⟩) C.length F3 :: L')) => Mem.setI (z := v) M .here ht)
                        clear hst hst1 mf em bt bk bk0
                        simp only [fnV] at EB
                        go_wp2_with (first | (with_reducible refine alAw M ?_; clear M; (try clear F); intro w1 M F) | ((with_reducible apply ev_store (M := M)); rfl; rfl; ((conv => lhs; whnf) <;> rfl); rfl; (first | exact siI | exact siR | exact siV | exact siB | exact siSI | exact siSV | exact siW | exact siSR | exact siSO | exact siO); (exact one_all rfl); (exact dl); (exact Nat.le_of_ble_eq_true rfl); clear M; intro w1 M; simp only [SX] at M; (try clear F); have F := fxw M))
                        have R1 := RI.out _ _ _ M (.there .here)
                        go_region_held3 (fun W => (∀ j, W.cell? ⟨wr.heap.size, j, none⟩ = ([.int .i64 t, .func (.func 133) #[] #[]] : List Value)[j]?) ∧ W.cell? ⟨g, t, none⟩ = some (.int .i64 (getI F3 t)) ∧ W.cell? ⟨g, k, none⟩ = some (.int .i64 (getI F3 k))) ((refine ⟨?_, ?_, ?_⟩; (exact kc); (exact (RI.out _ _ _ (by exact mb) (.there .here)).1); (exact (RI.out _ _ _ (by exact mb) (.there .here)).2.1))) (first
                          | (go_at_call 133; refine (iFn1 _ _).mono ?_; rintro e w2 ⟨rfl, rfl⟩))
                        go_wp2
                        go_roundg (xs.length - (j + 1))
                        case measure => omega
                        case rel => exact ⟨j + 1, F3.set t v, true, true, by omega, by omega, rfl, by go_num, hm2, hBv, hLv, hn, hbv, Mem.drew (MSS.out _ _ (Mem.drop (by exact mb)))⟩
                      have em : merge F3 t (getI F3 k) = (F3, false) := by
                        unfold merge
                        rw [if_neg (by omega), if_pos hq]
                      have hn : Hid ((xs.drop (j + 1)).foldl (wayStep o.r k) (F3, m3) = (F2, m2)) := by
                        simp only [wayStep, apFk, em, Bool.or_false] at hst1
                        exact hst1
                      rw [hq] at ab
                      clear hst hst1 mf em hq bt bk bk0
                      simp only [fnV] at EB
                      go_wp2_with (first | (with_reducible refine alAw M ?_; clear M; (try clear F); intro w1 M F) | ((with_reducible apply ev_store (M := M)); rfl; rfl; ((conv => lhs; whnf) <;> rfl); rfl; (first | exact siI | exact siR | exact siV | exact siB | exact siSI | exact siSV | exact siW | exact siSR | exact siSO | exact siO); (exact one_all rfl); (exact dl); (exact Nat.le_of_ble_eq_true rfl); clear M; intro w1 M; simp only [SX] at M; (try clear F); have F := fxw M))
                      have R1 := RI.out _ _ _ M (.there .here)
                      go_region_held3 (fun W => (∀ j, W.cell? ⟨wr.heap.size, j, none⟩ = ([.int .i64 t, .func (.func 133) #[] #[]] : List Value)[j]?) ∧ W.cell? ⟨g, t, none⟩ = some (.int .i64 (getI F3 t)) ∧ W.cell? ⟨g, k, none⟩ = some (.int .i64 (getI F3 k))) ((refine ⟨?_, ?_, ?_⟩; (exact kc); (exact (RI.out _ _ _ (by exact mb) (.there .here)).1); (exact (RI.out _ _ _ (by exact mb) (.there .here)).2.1))) (first
                        | (go_at_call 133; refine (iFn1 _ _).mono ?_; rintro e w2 ⟨rfl, rfl⟩))
                      go_wp2
                      go_roundg (xs.length - (j + 1))
                      case measure => omega
                      case rel => exact ⟨j + 1, F3, m3, mm, hlj, Nat.le_refl _, rfl, by go_num, hmm, hB3, hL3, hn, hb3, Mem.drop (by exact mb)⟩
                    | fill g2 =>
                      rw [o3 _ rfl] at EB
                      have hb15 := withBit_le ⟨bk0, bk.2⟩ (inB_iff.2 OR.out)
                      have HC2 := Lib.hid (fun W (h : W.cell? ⟨ga, 1, none⟩ = some (.int .i64 o.r)) => iFn2 (getI F3 k) o.r ga ⟨bk0, bk.2⟩ OR.out W h)
                      have RO := Lib.hid (fun W (L L' : List Asn) (M : Mem w0 f W L) (hd : Del (blk ga tO (encO o)) L L') => (Mem.cells M hd 1 : W.cell? ⟨ga, 1, none⟩ = some (.int .i64 o.r)))
                      have hst1 := hst.out
                      have mf := merge_facts hB3.out t1 (show 0 ≤ (withBit (getI F3 k) o.r) ∧ (withBit (getI F3 k) o.r) ≤ 15 from hb15)
                      have ab := andBoth bt (b := (withBit (getI F3 k) o.r)) hb15
                      by_cases hq : both (getI F3 t) (withBit (getI F3 k) o.r) = getI F3 t
                      case neg =>
                        have em : merge F3 t (withBit (getI F3 k) o.r) = (F3.set t (both (getI F3 t) (withBit (getI F3 k) o.r)), true) := by
                          unfold merge
                          rw [if_neg (by omega), if_neg hq]
                          rfl
                        have hn : Hid ((xs.drop (j + 1)).foldl (wayStep o.r k) (F3.set t (both (getI F3 t) (withBit (getI F3 k) o.r)), true) = (F2, m2)) := by
                          simp only [wayStep, apFk, em, Bool.or_true] at hst1
                          exact hst1
                        rw [em] at mf
                        have hLv : Hid ((F3.set t (both (getI F3 t) (withBit (getI F3 k) o.r))).length = C.length) := mf.1.trans hL3.out
                        have hBv : Hid (Bits (F3.set t (both (getI F3 t) (withBit (getI F3 k) o.r)))) := mf.2.1
                        have hbv : Hid (0 ≤ getI (F3.set t (both (getI F3 t) (withBit (getI F3 k) o.r))) k) := mf.2.2.2.2.1 k (by omega) (by omega) bk0
                        have hm2 : Hid (true = (m || true)) := by simp [Lib.hid]
                        generalize both (getI F3 t) (withBit (getI F3 k) o.r) = v at ab hn hLv hBv hbv hq
                        have MSS := Lib.hid (fun W (L' : List Asn) (M : Mem w0 f W (rowI (some ⟨g, 0, none⟩) C.length F3 :: L')) => Mem.setI (z := v) M .here ht)
                        clear hst hst1 mf em bt bk bk0
                        simp only [fnV] at EB
                        go_wp2_with (first | (with_reducible refine alAw M ?_; clear M; (try clear F); intro w1 M F) | ((with_reducible apply ev_store (M := M)); rfl; rfl; ((conv => lhs; whnf) <;> rfl); rfl; (first | exact siI | exact siR | exact siV | exact siB | exact siSI | exact siSV | exact siW | exact siSR | exact siSO | exact siO); (exact one_all rfl); (exact dl); (exact Nat.le_of_ble_eq_true rfl); clear M; intro w1 M; simp only [SX] at M; (try clear F); have F := fxw M))
                        have R1 := RI.out _ _ _ M (.there .here)
                        go_region_held3 (fun W => (∀ j, W.cell? ⟨wr.heap.size, j, none⟩ = ([.int .i64 t, .func (.func 134) #[] #[.pointer (some ⟨ga, 0, none⟩)]] : List Value)[j]?) ∧ W.cell? ⟨g, t, none⟩ = some (.int .i64 (getI F3 t)) ∧ W.cell? ⟨g, k, none⟩ = some (.int .i64 (getI F3 k)) ∧ W.cell? ⟨ga, 1, none⟩ = some (.int .i64 o.r)) ((refine ⟨?_, ?_, ?_, ?_⟩; (exact kc); (exact (RI.out _ _ _ (by exact mb) (.there .here)).1); (exact (RI.out _ _ _ (by exact mb) (.there .here)).2.1); (exact RO.out _ _ _ (by exact mb) (.there (.there (.there .here)))))) (first
                          | (go_at_call 134; refine (HC2.out _ (RO.out _ _ _ (by exact mb) (.there (.there (.there .here))))).mono ?_; rintro e w2 ⟨rfl, rfl⟩))
                        go_wp2
                        go_roundg (xs.length - (j + 1))
                        case measure => omega
                        case rel => exact ⟨j + 1, F3.set t v, true, true, by omega, by omega, rfl, by go_num, hm2, hBv, hLv, hn, hbv, Mem.drew (MSS.out _ _ (Mem.drop (by exact mb)))⟩
                      have em : merge F3 t (withBit (getI F3 k) o.r) = (F3, false) := by
                        unfold merge
                        rw [if_neg (by omega), if_pos hq]
                      have hn : Hid ((xs.drop (j + 1)).foldl (wayStep o.r k) (F3, m3) = (F2, m2)) := by
                        simp only [wayStep, apFk, em, Bool.or_false] at hst1
                        exact hst1
                      rw [hq] at ab
                      clear hst hst1 mf em hq bt bk bk0
                      simp only [fnV] at EB
                      go_wp2_with (first | (with_reducible refine alAw M ?_; clear M; (try clear F); intro w1 M F) | ((with_reducible apply ev_store (M := M)); rfl; rfl; ((conv => lhs; whnf) <;> rfl); rfl; (first | exact siI | exact siR | exact siV | exact siB | exact siSI | exact siSV | exact siW | exact siSR | exact siSO | exact siO); (exact one_all rfl); (exact dl); (exact Nat.le_of_ble_eq_true rfl); clear M; intro w1 M; simp only [SX] at M; (try clear F); have F := fxw M))
                      have R1 := RI.out _ _ _ M (.there .here)
                      go_region_held3 (fun W => (∀ j, W.cell? ⟨wr.heap.size, j, none⟩ = ([.int .i64 t, .func (.func 134) #[] #[.pointer (some ⟨ga, 0, none⟩)]] : List Value)[j]?) ∧ W.cell? ⟨g, t, none⟩ = some (.int .i64 (getI F3 t)) ∧ W.cell? ⟨g, k, none⟩ = some (.int .i64 (getI F3 k)) ∧ W.cell? ⟨ga, 1, none⟩ = some (.int .i64 o.r)) ((refine ⟨?_, ?_, ?_, ?_⟩; (exact kc); (exact (RI.out _ _ _ (by exact mb) (.there .here)).1); (exact (RI.out _ _ _ (by exact mb) (.there .here)).2.1); (exact RO.out _ _ _ (by exact mb) (.there (.there (.there .here)))))) (first
                        | (go_at_call 134; refine (HC2.out _ (RO.out _ _ _ (by exact mb) (.there (.there (.there .here))))).mono ?_; rintro e w2 ⟨rfl, rfl⟩))
                      go_wp2
                      go_roundg (xs.length - (j + 1))
                      case measure => omega
                      case rel => exact ⟨j + 1, F3, m3, mm, hlj, Nat.le_refl _, rfl, by go_num, hmm, hB3, hL3, hn, hb3, Mem.drop (by exact mb)⟩
                    | one =>
                      have hst1 := hst.out
                      have mf := merge_facts hB3.out t1 (bits := 1) ⟨by omega, by omega⟩
                      have ab := andBoth bt (b := 1) ⟨by omega, by omega⟩
                      by_cases hq : both (getI F3 t) 1 = getI F3 t
                      case neg =>
                        have em : merge F3 t 1 = (F3.set t (both (getI F3 t) 1), true) := by
                          unfold merge
                          rw [if_neg (by omega), if_neg hq]
                          rfl
                        have hn : Hid ((xs.drop (j + 1)).foldl (wayStep o.r k) (F3.set t (both (getI F3 t) 1), true) = (F2, m2)) := by
                          simp only [wayStep, apFk, em, Bool.or_true] at hst1
                          exact hst1
                        rw [em] at mf
                        have hLv : Hid ((F3.set t (both (getI F3 t) 1)).length = C.length) := mf.1.trans hL3.out
                        have hBv : Hid (Bits (F3.set t (both (getI F3 t) 1))) := mf.2.1
                        have hbv : Hid (0 ≤ getI (F3.set t (both (getI F3 t) 1)) k) := mf.2.2.2.2.1 k (by omega) (by omega) bk0
                        have hm2 : Hid (true = (m || true)) := by simp [Lib.hid]
                        generalize both (getI F3 t) 1 = v at ab hn hLv hBv hbv hq
                        have MSS := Lib.hid (fun W (L' : List Asn) (M : Mem w0 f W (rowI (some ⟨g, 0, none⟩) C.length F3 :: L')) => Mem.setI (z := v) M .here ht)
                        clear hst hst1 mf em bt bk bk0
                        simp only [fnV] at EB
                        go_wp2_with (first | (with_reducible refine alAw M ?_; clear M; (try clear F); intro w1 M F) | ((with_reducible apply ev_store (M := M)); rfl; rfl; ((conv => lhs; whnf) <;> rfl); rfl; (first | exact siI | exact siR | exact siV | exact siB | exact siSI | exact siSV | exact siW | exact siSR | exact siSO | exact siO); (exact one_all rfl); (exact dl); (exact Nat.le_of_ble_eq_true rfl); clear M; intro w1 M; simp only [SX] at M; (try clear F); have F := fxw M))
                        have R1 := RI.out _ _ _ M (.there .here)
                        go_region_held3 (fun W => (∀ j, W.cell? ⟨wr.heap.size, j, none⟩ = ([.int .i64 t, .func (.func 135) #[] #[]] : List Value)[j]?) ∧ W.cell? ⟨g, t, none⟩ = some (.int .i64 (getI F3 t)) ∧ W.cell? ⟨g, k, none⟩ = some (.int .i64 (getI F3 k))) ((refine ⟨?_, ?_, ?_⟩; (exact kc); (exact (RI.out _ _ _ (by exact mb) (.there .here)).1); (exact (RI.out _ _ _ (by exact mb) (.there .here)).2.1))) (first
                          | (go_at_call 135; refine (iFn3 _ _).mono ?_; rintro e w2 ⟨rfl, rfl⟩))
                        go_wp2
                        go_roundg (xs.length - (j + 1))
                        case measure => omega
                        case rel => exact ⟨j + 1, F3.set t v, true, true, by omega, by omega, rfl, by go_num, hm2, hBv, hLv, hn, hbv, Mem.drew (MSS.out _ _ (Mem.drop (by exact mb)))⟩
                      have em : merge F3 t 1 = (F3, false) := by
                        unfold merge
                        rw [if_neg (by omega), if_pos hq]
                      have hn : Hid ((xs.drop (j + 1)).foldl (wayStep o.r k) (F3, m3) = (F2, m2)) := by
                        simp only [wayStep, apFk, em, Bool.or_false] at hst1
                        exact hst1
                      rw [hq] at ab
                      clear hst hst1 mf em hq bt bk bk0
                      simp only [fnV] at EB
                      go_wp2_with (first | (with_reducible refine alAw M ?_; clear M; (try clear F); intro w1 M F) | ((with_reducible apply ev_store (M := M)); rfl; rfl; ((conv => lhs; whnf) <;> rfl); rfl; (first | exact siI | exact siR | exact siV | exact siB | exact siSI | exact siSV | exact siW | exact siSR | exact siSO | exact siO); (exact one_all rfl); (exact dl); (exact Nat.le_of_ble_eq_true rfl); clear M; intro w1 M; simp only [SX] at M; (try clear F); have F := fxw M))
                      have R1 := RI.out _ _ _ M (.there .here)
                      go_region_held3 (fun W => (∀ j, W.cell? ⟨wr.heap.size, j, none⟩ = ([.int .i64 t, .func (.func 135) #[] #[]] : List Value)[j]?) ∧ W.cell? ⟨g, t, none⟩ = some (.int .i64 (getI F3 t)) ∧ W.cell? ⟨g, k, none⟩ = some (.int .i64 (getI F3 k))) ((refine ⟨?_, ?_, ?_⟩; (exact kc); (exact (RI.out _ _ _ (by exact mb) (.there .here)).1); (exact (RI.out _ _ _ (by exact mb) (.there .here)).2.1))) (first
                        | (go_at_call 135; refine (iFn3 _ _).mono ?_; rintro e w2 ⟨rfl, rfl⟩))
                      go_wp2
                      go_roundg (xs.length - (j + 1))
                      case measure => omega
                      case rel => exact ⟨j + 1, F3, m3, mm, hlj, Nat.le_refl _, rfl, by go_num, hmm, hB3, hL3, hn, hb3, Mem.drop (by exact mb)⟩
                  · have : j = xs.length := by omega
                    subst this
                    have e3 := hF3.out
                    rw [List.drop_length, List.foldl_nil] at e3
                    obtain ⟨e4, e5⟩ := Prod.mk.inj e3
                    subst e4 e5
                    have e6 := hmm.out
                    subst e6
                    clear e3 hF3
                    have M := (M.perm (L' := row encA 2 125 A c xs :: rowI (some ⟨g, 0, none⟩) C.length F3 :: blk ga tO (encO o) :: rowO cA cC C :: L) (.swap _ _ _)).drop.drop2
                    go_wp2
                    go_roundg (C.length - (k + 1))
                    case measure => omega
                    case rel => exact ⟨k + 1, F3, _, by omega, by omega, rfl, by go_num, hB3, hL3, HO.out, M⟩
              · have HO := Lib.hid (sweepS_skip hlt hW.out hb)
                generalize getI F1 k = x at E1 hb
                clear hW
                go_wp2
                go_roundg (C.length - (k + 1))
                case measure => omega
                case rel => exact ⟨k + 1, F1, m, by omega, by omega, rfl, by go_num, hB1, hL1, HO, M⟩
            · have : k = C.length := by omega
              subst this
              have e := sweepS_end hW.out
              have sf := sweep_facts HP.out hB.out hL.out.symm
              have s1 : m = true → weight F1 < weight F := by have := sf.2.2.1; rw [e] at this; exact this
              have s2 : m = true → settle C F1 = fullOf C := by
                intro h
                have := settle_on HP.out hB.out hL.out.symm (by rw [e]; exact h)
                rw [e] at this
                exact this.symm.trans hS'.out
              have s3 : m = false → F1 = fullOf C := by
                intro h
                have := settle_end (c := C) (f := F) (by rw [e]; exact h)
                rw [e] at this
                exact this.symm.trans hS'.out
              have HS1 := Lib.hid s1
              have HS2 := Lib.hid s2
              have HS3 := Lib.hid s3
              clear e sf s1 s2 s3 hW
              go_wp2
              cases m
              · go_roundg 0
                case measure => omega
                case rel => exact ⟨F1, false, rfl, fun h => (by cases h), hB1, hL1, HS3.out rfl, M⟩
              · go_roundg (weight F1 + 1)
                case measure => have := HS1.out rfl; omega
                case rel => exact ⟨F1, true, rfl, fun _ => Nat.le_refl _, hB1, hL1, HS2.out rfl, M⟩
end Go.Proofs.Ytmidnaafljgbiaa
/- Whether code is safe, by the program's text. -/
namespace Go.Proofs.Ytmidnaafljgbiaa
open Go.RowKit
set_option maxRecDepth 100000

theorem safe_end (k n : Nat) (kk : Int) (a s : Bool) (h : s = (a && (!(k + 1 == n) || kk == 9 || kk == 14))) :
    (((k : Int) == (n : Int) - 1) = false ∧ s = a) ∨ (((k : Int) == (n : Int) - 1) = true ∧ (kk != 9) = false ∧ s = a) ∨ (((k : Int) == (n : Int) - 1) = true ∧ (kk != 9) = true ∧ (kk != 14) = false ∧ s = a) ∨ (((k : Int) == (n : Int) - 1) = true ∧ (kk != 9) = true ∧ (kk != 14) = true ∧ s = false) := by
  have e : ((k : Int) == (n : Int) - 1) = (k + 1 == n) := by
    rw [Bool.eq_iff_iff, beq_iff_eq, beq_iff_eq]
    omega
  rw [e, h]
  cases (k + 1 == n)
  · simp
  · cases h9 : (kk == 9)
    · cases h14 : (kk == 14)
      · simp [bne, h9, h14]
      · simp [bne, h9, h14]
    · simp [bne, h9]
theorem uses_in {o : Opx} (ho : opOk o = true) : ∀ s ∈ opUses o, inB s 0 3 = true := by
  intro s hs
  obtain ⟨_, _, _, _, hr, hs', _⟩ := opOk_parts ho
  unfold opUses at hs
  (repeat' split at hs) <;> simp at hs <;> (try rcases hs with rfl | rfl) <;> (try subst hs) <;> exact inB_iff.2 (by assumption)
theorem uses_len (o : Opx) : (opUses o).length ≤ 2 := by unfold opUses; (repeat' split) <;> simp
theorem codeOk_steps {C : List Opx} (h : codeOk C = true) : ∀ o ∈ C, stepOk C.length o = true := by
  simp only [codeOk, Bool.and_eq_true, decide_eq_true_eq, List.all_eq_true] at h
  intro o ho
  have := h.1.1 o ho
  unfold stepOk
  rw [this.1, this.2]
  rfl
set_option maxHeartbeats 4000000 in
theorem iCodeSafe (C : List Opx) (cA : Option Addr) (cC : Nat) {w0 w : World} {f : List Nat} {L : List Asn} (M : Mem w0 f w (rowO cA cC C :: L)) :
    Calls Try.prog 64 #[.slice cA C.length cC] w fun e w' => e = .returned (.bool (codeSafe C)) ∧ Mem w0 f w' (rowO cA cC C :: L) := by
  have HC := Lib.hid (fun W (M : Mem w0 f W (rowO cA cC C :: L)) => iCodeOk C cA cC M .here)
  cases hc : codeOk C with
  | false =>
    rw [hc] at HC
    rw [codeSafe_bad hc]
    clear hc
    go_enter Try.func64, Try.ntmps64
    go_wp2_with (go_at_call 97; refine (HC.out _ M).mono ?_; rintro e w2 ⟨rfl, hb⟩; replace M := M.below hb; clear hb; (try clear F); have F := fx M)
    go_ret
    exact ⟨rfl, M⟩
  | true =>
    rw [hc] at HC
    obtain ⟨h1, h16, ho⟩ := codeOk_parts hc
    have hst := codeOk_steps hc
    obtain ⟨go, rfl⟩ := row_form M .here (by omega)
    have HF := Lib.hid (fun W (M : Mem w0 f W (rowO (some ⟨go, 0, none⟩) cC C :: L)) => iFull C (some ⟨go, 0, none⟩) cC M h1 h16 ho hst)
    have HK := Lib.hid hc
    clear hc hst
    have HO := Lib.hid ho
    clear ho
    have eg := enters_of Try.func101 (by kernel_rfl) rfl
    have HEG := Lib.hid eg
    clear eg
    go_enter Try.func64, Try.ntmps64
    go_wp2_with (first
      | (go_at_call 97; refine (HC.out _ M).mono ?_; rintro e w2 ⟨rfl, hb⟩; replace M := M.below hb; clear hb; (try clear F); have F := fx M)
      | (go_at_call 98; refine (HF.out _ M).mono ?_; clear M; rintro e w2 ⟨A, c, rfl, M⟩))
    have hl : (fullOf C).length = C.length := (settle_facts HO.out _ _ (Nat.le_refl _) (full0_bits _) (full0_length _).symm).1.1
    have HB := Lib.hid (settle_facts HO.out _ _ (Nat.le_refl _) (full0_bits C.length) (full0_length _).symm).1.2.1
    obtain ⟨g, rfl⟩ := row_form M .here (by omega)
    have HL := Lib.hid hl
    clear hl
    go_loopg [3, 12] C.length (fun gg _ i wr => ∃ k : Nat, k ≤ C.length ∧ C.length - k ≤ gg ∧ i = .int .i64 k ∧ Hid (∀ j (hj : j < C.length), j < k → safeAt C.length (fullOf C) j C[j] = true) ∧ Hid (Mem w0 f wr (rowI (some ⟨g, 0, none⟩) c (fullOf C) :: rowO (some ⟨go, 0, none⟩) cC C :: L)))
    case atStart => exact ⟨0, by omega, by omega, rfl, fun j _ h => absurd h (by omega), M⟩
    case round =>
      clear M
      obtain ⟨k, hk, hg, rfl, HA, M⟩ := hrel
      replace M := M.out
      by_cases hlt : k < C.length
      · have hkF : k < (fullOf C).length := by rw [HL.out]; exact hlt
        have ex : (fullOf C)[k] = getI (fullOf C) k := by unfold getI; simp [List.getD_eq_getElem?_getD, List.getElem?_eq_getElem hkF]
        obtain ⟨E1, E2⟩ := elemI M .here hkF
        rw [ex] at E1
        have hx := HB.out _ (getI_mem (f := fullOf C) (i := k) (by omega) (by omega))
        have YES : Hid (safeAt C.length (fullOf C) k C[k] = true → ∀ j (hj : j < C.length), j < k + 1 → safeAt C.length (fullOf C) j C[j] = true) := by
          intro h j hj hjk
          by_cases he : j = k
          · subst he; exact h
          · exact HA.out j hj (by omega)
        have NO : Hid (safeAt C.length (fullOf C) k C[k] = false → codeSafe C = false) := fun h => codeSafe_no hlt h
        have i1 : (0 : Int) ≤ k := by omega
        have i2 : (k : Int) < C.length := by omega
        by_cases hn : getI (fullOf C) k < 0
        · have hs := Lib.hid (YES.out (by unfold safeAt; rw [decide_eq_true hn]; rfl))
          clear ex
          generalize getI (fullOf C) k = x at E1 hn
          have b1 : decide (x < 0) = true := decide_eq_true hn
          clear hx NO YES
          go_wp2_with (first | (with_reducible refine alA M ?_; clear M; (try clear F); intro w1 M F) | ((with_reducible apply ev_store (M := M)); rfl; rfl; ((conv => lhs; whnf) <;> rfl); rfl; (first | exact siI | exact siR | exact siV | exact siB | exact siSI | exact siSV | exact siW | exact siSR | exact siSO | exact siO); (exact one_all rfl); (exact dl); (exact Nat.le_of_ble_eq_true rfl); clear M; intro w1 M; simp only [SX] at M; (try clear F); have F := fx M))
          go_roundg (C.length - (k + 1))
          case measure => omega
          case rel => exact ⟨k + 1, by omega, by omega, by go_num, hs, M.drop⟩
        · have hop := HO.out _ (List.getElem_mem hlt)
          obtain ⟨s, hs⟩ : ∃ s, s = safeAt C.length (fullOf C) k C[k] := ⟨_, rfl⟩
          have SA : s = ((opUses C[k]).all (fun s => hasBit (getI (fullOf C) k) s) && (!(k + 1 == C.length) || C[k].k == 9 || C[k].k == 14)) := by
            rw [hs]
            unfold safeAt
            rw [decide_eq_false hn, Bool.false_or]
          rw [← hs] at YES NO
          clear hs
          have RO := Lib.hid (fun W (L L' : List Asn) (M : Mem w0 f W L) (hd : Del (rowO (some ⟨go, 0, none⟩) cC C) L L') => elemO0 M hd hlt)
          clear ex
          generalize getI (fullOf C) k = x at E1 hn hx SA
          have b1 : decide (x < 0) = false := decide_eq_false hn
          have hU := Lib.hid (fun W (L : List Asn) (M : Mem w0 f W L) => iUses C[k] M hop)
          unfold UsesPost at hU
          have HUS := Lib.hid (uses_in hop)
          have hul := uses_len C[k]
          have HFN : Hid (∀ (W : World) (L L' L2 : List Asn) (g4 : Nat) (A2 : Option Addr) (c2 : Nat) (us : List Int), (us = opUses C[k]) → Mem w0 f W L → Del (rowI A2 c2 us) L L' → Del (blk g4 tI [.int .i64 x]) L L2 → Calls Try.prog 99 #[.slice A2 us.length c2, .func (.func 101) #[] #[.pointer (some ⟨g4, 0, none⟩)]] W fun e w' => e = .returned (.bool (us.any (fun s => !hasBit x s))) ∧ Below W.heap.size W w') := by
            intro W L L' L2 g4 A2 c2 us hus M hd hd2
            have hB := (M.is hd2 |> (blk g4 tI [.int .i64 x]).imp W)
            refine iContainsI (fun s => !hasBit x s) _ #[.pointer (some ⟨g4, 0, none⟩)] HEG.out us A2 c2 W (row_reads M hd).1.2.1 (fun j hj => ?_) (fun V y hy hV => ?_)
            · obtain ⟨ga, rfl⟩ := row_form M hd (by omega)
              exact ⟨ga, rfl, (row_elem encI_length M hd hj).1, (elemI M hd hj).1⟩
            · refine (iLacks y x g4 ⟨by omega, hx.2⟩ (inB_iff.1 (HUS.out y (hus ▸ hy))) V ((hV.cell (p := ⟨g4, 0, none⟩) hB.1).trans (hB.2.1 0))).mono ?_
              rintro e w' ⟨h1, rfl⟩
              exact ⟨h1, hV⟩
          clear hop HA HUS hx
          have hend := safe_end k C.length C[k].k _ s SA
          clear SA
          generalize hus : opUses C[k] = us at hend hU HFN hul
          clear hus
          have e0 : us.any (fun s => !hasBit x s) = !(us.all (fun s => hasBit x s)) := by rw [List.not_all_eq_any_not]
          have HFN2 : Hid (∀ (W : World) (L L' L2 : List Asn) (g4 : Nat) (A2 : Option Addr) (c2 : Nat), Mem w0 f W L → Del (rowI A2 c2 us) L L' → Del (blk g4 tI [.int .i64 x]) L L2 → Calls Try.prog 99 #[.slice A2 us.length c2, .func (.func 101) #[] #[.pointer (some ⟨g4, 0, none⟩)]] W fun e w' => e = .returned (.bool (!(us.all (fun s => hasBit x s)))) ∧ Below W.heap.size W w') := by
            intro W L L' L2 g4 A2 c2 M hd hd2
            rw [← e0]
            exact HFN.out W L L' L2 g4 A2 c2 us rfl M hd hd2
          clear HFN e0
          generalize us.all (fun s => hasBit x s) = a at hend HFN2
          generalize C[k] = o at RO hU hend
          obtain ⟨kk, r, sl, to, ⟨vk, vn⟩⟩ := o
          simp only [opArr] at *
          have i5 : IntKind.i64.wrap ((C.length : Int) - 1) = (C.length : Int) - 1 := by rw [IntKind.wrap_i64]; omega
          clear hn
          rcases hend with ⟨b2, rfl⟩ | ⟨b2, b9, rfl⟩ | ⟨b2, b9, b14, rfl⟩ | ⟨b2, b9, b14, rfl⟩
          case inr.inr.inr =>
            have hno := Lib.hid (NO.out rfl)
            clear NO YES hU HFN2
            go_wp2_with (first | ((with_reducible refine alA M ?_; clear M; (try clear F); intro w1 M F); have E3 := RO.out _ _ _ M dl) | (((with_reducible apply ev_store (M := M)); rfl; rfl; ((conv => lhs; whnf) <;> rfl); rfl; (first | exact siI | exact siR | exact siV | exact siB | exact siSI | exact siSV | exact siW | exact siSR | exact siSO | exact siO); (exact one_all rfl); (exact dl); (exact Nat.le_of_ble_eq_true rfl); clear M; intro w1 M; simp only [SX] at M; (try clear F); have F := fx M); have E3 := RO.out _ _ _ M dl))
            go_ret
            exact ⟨ret_bool hno.out.symm, M.drop.drop.drop⟩
          all_goals
            cases s
            · have hno := Lib.hid (NO.out rfl)
              clear NO YES
              go_wp2_with (first
                | ((with_reducible refine alA M ?_; clear M; (try clear F); intro w1 M F); have E3 := RO.out _ _ _ M dl) | (((with_reducible apply ev_store (M := M)); rfl; rfl; ((conv => lhs; whnf) <;> rfl); rfl; (first | exact siI | exact siR | exact siV | exact siB | exact siSI | exact siSV | exact siW | exact siSR | exact siSO | exact siO); (exact one_all rfl); (exact dl); (exact Nat.le_of_ble_eq_true rfl); clear M; intro w1 M; simp only [SX] at M; (try clear F); have F := fx M); have E3 := RO.out _ _ _ M dl)
                | (go_at_call 100; (refine nmK ?_; clear M; (try clear F); intro w1 M F); refine (hU.out _ _ M).mono ?_; clear M; rintro e w2 ⟨A2, c2, rfl, M⟩; (try clear F); have F := fx M)
                | (go_at_call 99; (refine nmK ?_; clear M; (try clear F); intro w1 M F); refine (HFN2.out _ _ _ _ _ _ _ M dl dl).mono ?_; rintro e w2 ⟨rfl, hb⟩; replace M := M.below hb; clear hb; (try clear F); have F := fx M))
              go_ret
              exact ⟨ret_bool hno.out.symm, M.drop.drop.drop.drop⟩
            · have hy := Lib.hid (YES.out rfl)
              clear NO YES
              go_wp2_with (first
                | ((with_reducible refine alA M ?_; clear M; (try clear F); intro w1 M F); have E3 := RO.out _ _ _ M dl) | (((with_reducible apply ev_store (M := M)); rfl; rfl; ((conv => lhs; whnf) <;> rfl); rfl; (first | exact siI | exact siR | exact siV | exact siB | exact siSI | exact siSV | exact siW | exact siSR | exact siSO | exact siO); (exact one_all rfl); (exact dl); (exact Nat.le_of_ble_eq_true rfl); clear M; intro w1 M; simp only [SX] at M; (try clear F); have F := fx M); have E3 := RO.out _ _ _ M dl)
                | (go_at_call 100; (refine nmK ?_; clear M; (try clear F); intro w1 M F); refine (hU.out _ _ M).mono ?_; clear M; rintro e w2 ⟨A2, c2, rfl, M⟩; (try clear F); have F := fx M)
                | (go_at_call 99; (refine nmK ?_; clear M; (try clear F); intro w1 M F); refine (HFN2.out _ _ _ _ _ _ _ M dl dl).mono ?_; rintro e w2 ⟨rfl, hb⟩; replace M := M.below hb; clear hb; (try clear F); have F := fx M))
              go_roundg (C.length - (k + 1))
              case measure => omega
              case rel => exact ⟨k + 1, by omega, by omega, by go_num, hy, M.drop.drop.drop⟩
      · have : k = C.length := by omega
        subst this
        have e := Lib.hid (codeSafe_yes HK.out (fun j hj => HA.out j hj hj))
        go_wp2
        go_ret
        exact ⟨ret_bool e.out.symm, M.drop⟩
end Go.Proofs.Ytmidnaafljgbiaa
