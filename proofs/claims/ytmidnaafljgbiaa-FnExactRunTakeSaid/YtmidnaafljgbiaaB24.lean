/- Parts of the proof, in one text. -/
import Derived.Test.YtmidnaafljgbiaaB23
import Derived.Test.YtmidnaafljgbiaaB11
import Derived.Test.YtmidnaafljgbiaaB20
/- Small words are read. -/
namespace Go.Proofs.Ytmidnaafljgbiaa
open Go.RowKit
set_option maxRecDepth 100000

theorem rDec (r : Nat) (h : r ≤ 10) (V : World) : Calls Try.prog 161 #[.string (decB r)] V fun e w' => e = .returned (.tuple #[.int .i64 (r : Int), .bool true]) ∧ V = w' := by
  have : r = 0 ∨ r = 1 ∨ r = 2 ∨ r = 3 ∨ r = 4 ∨ r = 5 ∨ r = 6 ∨ r = 7 ∨ r = 8 ∨ r = 9 ∨ r = 10 := by omega
  rcases this with rfl | rfl | rfl | rfl | rfl | rfl | rfl | rfl | rfl | rfl | rfl
  · exact sDecW ⟨#[48]⟩ 0 true (by simp [decTab]) V
  · exact sDecW ⟨#[49]⟩ 1 true (by simp [decTab]) V
  · exact sDecW ⟨#[50]⟩ 2 true (by simp [decTab]) V
  · exact sDecW ⟨#[51]⟩ 3 true (by simp [decTab]) V
  · exact sDecW ⟨#[52]⟩ 4 true (by simp [decTab]) V
  · exact sDecW ⟨#[53]⟩ 5 true (by simp [decTab]) V
  · exact sDecW ⟨#[54]⟩ 6 true (by simp [decTab]) V
  · exact sDecW ⟨#[55]⟩ 7 true (by simp [decTab]) V
  · exact sDecW ⟨#[56]⟩ 8 true (by simp [decTab]) V
  · exact sDecW ⟨#[57]⟩ 9 true (by simp [decTab]) V
  · exact sDecW ⟨#[49, 48]⟩ 10 true (by simp [decTab]) V
theorem rVal0 (r : Nat) (h : r ≤ 10) (V : World) : Calls Try.prog 162 #[.string (decB r)] V fun e w' => e = .returned (.tuple #[.agg #[.int .i64 0, .int .i64 0], .bool false]) ∧ Below V.heap.size V w' := by
  have : r = 0 ∨ r = 1 ∨ r = 2 ∨ r = 3 ∨ r = 4 ∨ r = 5 ∨ r = 6 ∨ r = 7 ∨ r = 8 ∨ r = 9 ∨ r = 10 := by omega
  rcases this with rfl | rfl | rfl | rfl | rfl | rfl | rfl | rfl | rfl | rfl | rfl
  · exact sValRead ⟨#[48]⟩ ⟨0, 0⟩ false (by simp [valTab]) V
  · exact sValRead ⟨#[49]⟩ ⟨0, 0⟩ false (by simp [valTab]) V
  · exact sValRead ⟨#[50]⟩ ⟨0, 0⟩ false (by simp [valTab]) V
  · exact sValRead ⟨#[51]⟩ ⟨0, 0⟩ false (by simp [valTab]) V
  · exact sValRead ⟨#[52]⟩ ⟨0, 0⟩ false (by simp [valTab]) V
  · exact sValRead ⟨#[53]⟩ ⟨0, 0⟩ false (by simp [valTab]) V
  · exact sValRead ⟨#[54]⟩ ⟨0, 0⟩ false (by simp [valTab]) V
  · exact sValRead ⟨#[55]⟩ ⟨0, 0⟩ false (by simp [valTab]) V
  · exact sValRead ⟨#[56]⟩ ⟨0, 0⟩ false (by simp [valTab]) V
  · exact sValRead ⟨#[57]⟩ ⟨0, 0⟩ false (by simp [valTab]) V
  · exact sValRead ⟨#[49, 48]⟩ ⟨0, 0⟩ false (by simp [valTab]) V
theorem rDecV (k : Int) (m : Nat) (hk : k = 1 ∨ k = 2) (hm : m ≤ 4) (V : World) : Calls Try.prog 161 #[.string (valB k m)] V fun e w' => e = .returned (.tuple #[.int .i64 0, .bool false]) ∧ V = w' := by
  have : m = 0 ∨ m = 1 ∨ m = 2 ∨ m = 3 ∨ m = 4 := by omega
  rcases hk with rfl | rfl <;> rcases this with rfl | rfl | rfl | rfl | rfl
  · exact sDecW ⟨#[110, 48]⟩ 0 false (by simp [decTab]) V
  · exact sDecW ⟨#[110, 49]⟩ 0 false (by simp [decTab]) V
  · exact sDecW ⟨#[110, 50]⟩ 0 false (by simp [decTab]) V
  · exact sDecW ⟨#[110, 51]⟩ 0 false (by simp [decTab]) V
  · exact sDecW ⟨#[110, 52]⟩ 0 false (by simp [decTab]) V
  · exact sDecW ⟨#[97, 48]⟩ 0 false (by simp [decTab]) V
  · exact sDecW ⟨#[97, 49]⟩ 0 false (by simp [decTab]) V
  · exact sDecW ⟨#[97, 50]⟩ 0 false (by simp [decTab]) V
  · exact sDecW ⟨#[97, 51]⟩ 0 false (by simp [decTab]) V
  · exact sDecW ⟨#[97, 52]⟩ 0 false (by simp [decTab]) V
theorem rValV (k : Int) (m : Nat) (hk : k = 1 ∨ k = 2) (hm : m ≤ 4) (V : World) : Calls Try.prog 162 #[.string (valB k m)] V fun e w' => e = .returned (.tuple #[.agg #[.int .i64 k, .int .i64 (m : Int)], .bool true]) ∧ Below V.heap.size V w' := by
  have : m = 0 ∨ m = 1 ∨ m = 2 ∨ m = 3 ∨ m = 4 := by omega
  rcases hk with rfl | rfl <;> rcases this with rfl | rfl | rfl | rfl | rfl
  · exact sValRead ⟨#[110, 48]⟩ ⟨1, 0⟩ true (by simp [valTab]) V
  · exact sValRead ⟨#[110, 49]⟩ ⟨1, 1⟩ true (by simp [valTab]) V
  · exact sValRead ⟨#[110, 50]⟩ ⟨1, 2⟩ true (by simp [valTab]) V
  · exact sValRead ⟨#[110, 51]⟩ ⟨1, 3⟩ true (by simp [valTab]) V
  · exact sValRead ⟨#[110, 52]⟩ ⟨1, 4⟩ true (by simp [valTab]) V
  · exact sValRead ⟨#[97, 48]⟩ ⟨2, 0⟩ true (by simp [valTab]) V
  · exact sValRead ⟨#[97, 49]⟩ ⟨2, 1⟩ true (by simp [valTab]) V
  · exact sValRead ⟨#[97, 50]⟩ ⟨2, 2⟩ true (by simp [valTab]) V
  · exact sValRead ⟨#[97, 51]⟩ ⟨2, 3⟩ true (by simp [valTab]) V
  · exact sValRead ⟨#[97, 52]⟩ ⟨2, 4⟩ true (by simp [valTab]) V
end Go.Proofs.Ytmidnaafljgbiaa
/- A step is read. -/
namespace Go.Proofs.Ytmidnaafljgbiaa
open Go.RowKit
set_option maxRecDepth 100000

def b2n (b : Bool) : Nat := if b then 1 else 0
def qAt (f0 f1 f2 : Bool) : Nat → Nat
  | 0 => 1
  | 1 => 1 + b2n f0
  | 2 => 1 + b2n f0 + b2n f1
  | _ => 1 + b2n f0 + b2n f1 + b2n f2
theorem name_ne {j n : Nat} (hj : j < 15) (hn : n < 15) (h : j ≠ n) : (nameB j == nameB n) = false := by
  have key : ∀ a : Fin 15, ∀ b : Fin 15, a ≠ b → (nameB a == nameB b) = false := by decide +kernel
  exact key ⟨j, hj⟩ ⟨n, hn⟩ (by intro e; exact h (by simpa using e))
theorem str_beq (a b : ByteArray) : (a == b) = (a.data == b.data) := rfl
theorem nonempty_ne {T : ByteArray} (h : 1 ≤ T.size) : (T == (⟨#[]⟩ : ByteArray)) = false := by
  rw [str_beq, beq_eq_false_iff_ne]
  intro e
  have : T.data.size = 0 := by rw [e]; rfl
  exact absurd (show T.data.size = 0 from this) (by have : T.data.size = T.size := rfl; omega)
theorem str_self (T : ByteArray) : (T == T) = true := by rw [str_beq]; simp
theorem strL {a b : ByteArray} {c : Bool} (h : (a == b) = c) : (a.toList == b.toList) = c := by rw [← beq_toListBytes]; exact h
theorem strNe {T : ByteArray} (h : (T == (⟨#[]⟩ : ByteArray)) = false) : ¬ T.toList = [] := by
  intro e
  have h0 : (⟨#[]⟩ : ByteArray).toList = [] := by decide +kernel
  rw [beq_toListBytes, e, h0] at h
  cases h
theorem strCell {w0 w : World} {f : List Nat} {L L' : List Asn} {g c q : Nat} {WS : List ByteArray} {x : ByteArray} (M : Mem w0 f w L) (hd : Del (row encS 1 tS (some ⟨g, 0, none⟩) c WS) L L') (h : WS[q]? = some x) : w.cell? ⟨g, q, none⟩ = some (.string x) := by
  obtain ⟨hq, hx⟩ := List.getElem?_eq_some_iff.1 h
  have h1 := (row_elem encS_length M hd (k := q) hq).2.1 0 (by decide)
  rw [Nat.mul_one, hx] at h1
  exact h1
set_option maxHeartbeats 8000000 in
theorem sOpRead (T : ByteArray) (WS : List ByteArray) (n rn sn tn m : Nat) (vk : Int) (f0 f1 f2 f3 : Bool) (hf : opForm (n : Int) = [f0, f1, f2, f3]) (hn : n < 15) (hn1 : 1 ≤ n) (hr : rn ≤ 10) (hs : sn ≤ 10) (ht : tn ≤ 10) (hv : f3 = true → (vk = 1 ∨ vk = 2) ∧ m ≤ 4) (ho : opOk ⟨n, rn, sn, tn, ⟨vk, m⟩⟩ = true)
    (z0 : f0 = false → rn = 0) (z1 : f1 = false → sn = 0) (z2 : f2 = false → tn = 0) (z3 : f3 = false → vk = 0 ∧ m = 0) (hT : T = addW f3 (addW f2 (addW f1 (addW f0 (nameB n) (decB rn)) (decB sn)) (decB tn)) (valB vk m)) (hT24 : T.size ≤ 24) (hT0 : 1 ≤ T.size) (hW : cutM 32 T = WS)
    (w0s : WS[0]? = some (nameB n)) (w1s : f0 = true → WS[qAt f0 f1 f2 0]? = some (decB rn)) (w2s : f1 = true → WS[qAt f0 f1 f2 1]? = some (decB sn)) (w3s : f2 = true → WS[qAt f0 f1 f2 2]? = some (decB tn)) (w4s : f3 = true → WS[qAt f0 f1 f2 3]? = some (valB vk m))
    {w0 w : World} {f : List Nat} {L : List Asn} (M : Mem w0 f w L) :
    Calls Try.prog 152 #[.string T] w fun e w' => e = .returned (.tuple #[.agg #[.int .i64 (n : Int), .int .i64 (rn : Int), .int .i64 (sn : Int), .int .i64 (tn : Int), .int .i64 vk, .int .i64 (m : Int)], .bool true]) ∧ Mem w0 f w' L := by
  have AL := add_lit0
  have HCut : Hid (∀ {U : World} {L1 : List Asn}, Mem w0 f U L1 → Calls Try.prog 151 #[.string T, .int .u8 32] U fun e w' => ∃ (g c : Nat), e = .returned (.slice (some ⟨g, 0, none⟩) WS.length c) ∧ Mem w0 f w' (row encS 1 tS (some ⟨g, 0, none⟩) c WS :: L1)) := fun {U L1} M => by
    have h := sCut T 32 (by omega) M
    rw [hW] at h
    exact h
  have HFo : Hid (∀ {U : World} {L1 : List Asn}, Mem w0 f U L1 → Calls Try.prog 126 #[.int .i64 (n : Int)] U (fun e w' => ∃ g c, e = .returned (.slice (some ⟨g, 0, none⟩) 4 c) ∧ Mem w0 f w' (rowB (some ⟨g, 0, none⟩) c [f0, f1, f2, f3] :: L1))) := fun {U L1} M => sFormAt hf M
  have HN : Hid (∀ {U : World} {L1 : List Asn}, Mem w0 f U L1 → Calls Try.prog 160 #[] U fun e w' => ∃ (g : Nat), e = .returned (.slice (some ⟨g, 0, none⟩) 15 15) ∧ Mem w0 f w' (blk g tS namesV :: L1)) := fun {U L1} M => sNames M
  have HOT : Hid (∀ {U : World} {L1 : List Asn}, Mem w0 f U L1 → Calls Try.prog 163 #[.agg #[.int .i64 (n : Int), .int .i64 (rn : Int), .int .i64 (sn : Int), .int .i64 (tn : Int), .int .i64 vk, .int .i64 (m : Int)]] U fun e w' => e = .returned (.string T) ∧ Mem w0 f w' L1) := fun {U L1} M => by rw [hT]; exact sOpText n rn sn tn m vk f0 f1 f2 f3 hf hn hr hs ht hv ho M
  have D1 : Hid (∀ V, Calls Try.prog 161 #[.string (decB rn)] V fun e w' => e = .returned (.tuple #[.int .i64 (rn : Int), .bool true]) ∧ V = w') := fun V => rDec rn hr V
  have D2 : Hid (∀ V, Calls Try.prog 161 #[.string (decB sn)] V fun e w' => e = .returned (.tuple #[.int .i64 (sn : Int), .bool true]) ∧ V = w') := fun V => rDec sn hs V
  have D3 : Hid (∀ V, Calls Try.prog 161 #[.string (decB tn)] V fun e w' => e = .returned (.tuple #[.int .i64 (tn : Int), .bool true]) ∧ V = w') := fun V => rDec tn ht V
  have E1 : Hid (∀ V, Calls Try.prog 162 #[.string (decB rn)] V fun e w' => e = .returned (.tuple #[.agg #[.int .i64 0, .int .i64 0], .bool false]) ∧ Below V.heap.size V w') := fun V => rVal0 rn hr V
  have E2 : Hid (∀ V, Calls Try.prog 162 #[.string (decB sn)] V fun e w' => e = .returned (.tuple #[.agg #[.int .i64 0, .int .i64 0], .bool false]) ∧ Below V.heap.size V w') := fun V => rVal0 sn hs V
  have E3 : Hid (∀ V, Calls Try.prog 162 #[.string (decB tn)] V fun e w' => e = .returned (.tuple #[.agg #[.int .i64 0, .int .i64 0], .bool false]) ∧ Below V.heap.size V w') := fun V => rVal0 tn ht V
  have D4 : Hid (f3 = true → ∀ V, Calls Try.prog 161 #[.string (valB vk m)] V fun e w' => e = .returned (.tuple #[.int .i64 0, .bool false]) ∧ V = w') := fun h V => rDecV vk m (hv h).1 (hv h).2 V
  have E4 : Hid (f3 = true → ∀ V, Calls Try.prog 162 #[.string (valB vk m)] V fun e w' => e = .returned (.tuple #[.agg #[.int .i64 vk, .int .i64 (m : Int)], .bool true]) ∧ Below V.heap.size V w') := fun h V => rValV vk m (hv h).1 (hv h).2 V
  have HC : Hid (∀ {U : World} {L1 L2 : List Asn} {g j : Nat}, Mem w0 f U L1 → Del (blk g tS namesV) L1 L2 → j < 15 → U.cell? ⟨g, j, none⟩ = some (.string (nameB j))) := fun M hd hj => name_cell M hd hj
  have HW : Hid (∀ {U : World} {L1 L2 : List Asn} {g c q : Nat} {x : ByteArray}, Mem w0 f U L1 → Del (row encS 1 tS (some ⟨g, 0, none⟩) c WS) L1 L2 → WS[q]? = some x → U.cell? ⟨g, q, none⟩ = some (.string x)) := fun M hd h => strCell M hd h
  have HNE : Hid (∀ j, j < 15 → j ≠ n → (nameB j == nameB n) = false) := fun j hj h => name_ne hj hn h
  have bT : (T.size : Int) ≤ 24 := by omega
  have bE := Lib.hid (nonempty_ne hT0)
  have bQ := Lib.hid (str_self T)
  have hlw : 0 < WS.length := (List.getElem?_eq_some_iff.1 w0s).1
  replace z0 := Lib.hid z0
  replace z1 := Lib.hid z1
  replace z2 := Lib.hid z2
  replace z3 := Lib.hid z3
  replace w0s := Lib.hid w0s
  replace w1s := Lib.hid w1s
  replace w2s := Lib.hid w2s
  replace w3s := Lib.hid w3s
  replace w4s := Lib.hid w4s
  have hn := Lib.hid hn
  clear hf hr hs ht hv ho hT hW hT24 hT0
  (try clear F); have F := fx M
  go_enter Try.func152, Try.ntmps152
  go_upto_region 6 with (first | (with_reducible refine alA M ?_; clear M; (try clear F); intro w1 M F) | ((with_reducible apply ev_store (M := M)); rfl; rfl; ((conv => lhs; whnf) <;> rfl); rfl; (first | exact siI | exact siR | exact siV | exact siB | exact siSI | exact siSV | exact siW | exact siSR | exact siSO | exact siO); (exact one_all rfl); (exact dl); (exact Nat.le_of_ble_eq_true rfl); clear M; intro w1 M; simp only [SX] at M; (try clear F); have F := fx M) | (go_at_call 151; (refine nmK ?_; clear M; (try clear F); intro w1 M F); refine (HCut.out M).mono ?_; clear M; rintro e w2 ⟨gw, cw, rfl, M⟩; (try clear F); have F := fx M) | (go_at_call 160; (refine nmK ?_; clear M; (try clear F); intro w1 M F); refine (HN.out M).mono ?_; clear M; rintro e w2 ⟨gn, rfl, M⟩; (try clear F); have F := fx M))
  clear HCut HN
  have HK : Hid (∀ (U : World) (g : Nat), Mem w0 f U (blk g tO [.int .i64 0, .int .i64 0, .int .i64 0, .int .i64 0, .int .i64 0, .int .i64 0] :: blk gn tS namesV :: row encS 1 tS (some ⟨gw, 0, none⟩) cw WS :: blk w.heap.size tO [.int .i64 0, .int .i64 0, .int .i64 0, .int .i64 0, .int .i64 0, .int .i64 0] :: L) → Mem w0 f U (blk g tO [.int .i64 (if n < 1 then (n : Int) else 0), .int .i64 0, .int .i64 0, .int .i64 0, .int .i64 0, .int .i64 0] :: blk gn tS namesV :: row encS 1 tS (some ⟨gw, 0, none⟩) cw WS :: blk w.heap.size tO [.int .i64 0, .int .i64 0, .int .i64 0, .int .i64 0, .int .i64 0, .int .i64 0] :: L)) := fun U g M => by rw [if_neg (by omega)]; exact M
  replace M := HK.out _ _ M
  clear HK F
  generalize w.heap.size = g2 at M ⊢
  generalize w2.heap.size = g6 at M ⊢
  have MB : Hid (Mem w0 f w1 (blk g6 tO [.int .i64 (if n < 1 then (n : Int) else 0), .int .i64 0, .int .i64 0, .int .i64 0, .int .i64 0, .int .i64 0] :: blk gn tS namesV :: row encS 1 tS (some ⟨gw, 0, none⟩) cw WS :: blk g2 tO [.int .i64 0, .int .i64 0, .int .i64 0, .int .i64 0, .int .i64 0, .int .i64 0] :: L)) := M
  clear M
  go_wp2
  go_loopg [7] 15 (fun gg i wr => ∃ j : Nat, 1 ≤ j ∧ j ≤ 15 ∧ 15 - j ≤ gg ∧ i = .int .i64 j ∧ Hid (Mem w0 f wr (blk g6 tO [.int .i64 (if n < j then (n : Int) else 0), .int .i64 0, .int .i64 0, .int .i64 0, .int .i64 0, .int .i64 0] :: blk gn tS namesV :: row encS 1 tS (some ⟨gw, 0, none⟩) cw WS :: blk g2 tO [.int .i64 0, .int .i64 0, .int .i64 0, .int .i64 0, .int .i64 0, .int .i64 0] :: L)))
  case atStart => exact ⟨1, by omega, by omega, by omega, rfl, MB⟩
  case round =>
    clear MB
    obtain ⟨j, hj1, hj, hg, rfl, M⟩ := hrel
    replace M := M.out
    by_cases hlt : j < 15
    · have i1 : (0 : Int) ≤ j := by omega
      have i2 : (j : Int) < 15 := by omega
      have i3 : (0 : Int) < (WS.length : Int) := by omega
      by_cases e : j = n
      · have b1 : ((nameB j).toList == (nameB n).toList) = true := by rw [e]; exact strL (str_self _)
        replace e := Lib.hid e
        (try clear F); have F := fx M
        go_upto_region 9 with fail
        (refine held_begin (S := fun W' => W'.cell? ⟨gn, j, none⟩ = some (.string (nameB j)) ∧ W'.cell? ⟨gw, 0, none⟩ = some (.string (nameB n))) (by kernel_rfl) (fun _ _ _ _ _ h => h) (by (exact ⟨HC.out mb dl hlt, HW.out mb dl w0s.out⟩)) (fun HQ hHeld => ?_)); refine tkY HQ hHeld 0 ?_; refine tkY HQ hHeld 1 ?_; refine tkY HQ hHeld 2 ?_; refine tkY HQ hHeld 3 ?_; refine tkY HQ hHeld 4 ?_; refine tkY HQ hHeld 5 ?_; refine tkY HQ hHeld 6 ?_; refine tkY HQ hHeld 7 ?_; refine wpAnyH_done (by kernel_rfl) ?_ _; clear HQ; (repeat clear hHeld); replace M := Mem.drew M; (try clear F); have F := fx M
        go_wp2_with (first | ((with_reducible apply ev_store (M := M)); rfl; rfl; ((conv => lhs; whnf) <;> rfl); rfl; (first | exact siI | exact siR | exact siV | exact siB | exact siSI | exact siSV | exact siW | exact siSR | exact siSO | exact siO); (exact one_all rfl); (exact dl); (exact Nat.le_of_ble_eq_true rfl); clear M; intro w1 M; simp only [SX] at M; (try clear F); have F := fx M))
        go_roundg (15 - (j + 1))
        case measure => omega
        case rel => exact ⟨j + 1, by omega, by omega, Nat.le_refl _, by go_num, Lib.hid (by rw [if_pos (by have := e.out; omega), ← e.out]; exact M)⟩
      · have b1 : ((nameB j).toList == (nameB n).toList) = false := strL (HNE.out j hlt e)
        replace e := Lib.hid e
        (try clear F); have F := fx M
        go_upto_region 9 with fail
        (refine held_begin (S := fun W' => W'.cell? ⟨gn, j, none⟩ = some (.string (nameB j)) ∧ W'.cell? ⟨gw, 0, none⟩ = some (.string (nameB n))) (by kernel_rfl) (fun _ _ _ _ _ h => h) (by (exact ⟨HC.out mb dl hlt, HW.out mb dl w0s.out⟩)) (fun HQ hHeld => ?_)); refine tkY HQ hHeld 0 ?_; refine tkY HQ hHeld 1 ?_; refine tkY HQ hHeld 2 ?_; refine tkY HQ hHeld 3 ?_; refine tkY HQ hHeld 4 ?_; refine tkY HQ hHeld 5 ?_; refine tkY HQ hHeld 6 ?_; refine tkY HQ hHeld 7 ?_; refine wpAnyH_done (by kernel_rfl) ?_ _; clear HQ; (repeat clear hHeld); replace M := Mem.drew M; (try clear F); have F := fx M
        go_wp2_with (first | ((with_reducible apply ev_store (M := M)); rfl; rfl; ((conv => lhs; whnf) <;> rfl); rfl; (first | exact siI | exact siR | exact siV | exact siB | exact siSI | exact siSV | exact siW | exact siSR | exact siSO | exact siO); (exact one_all rfl); (exact dl); (exact Nat.le_of_ble_eq_true rfl); clear M; intro w1 M; simp only [SX] at M; (try clear F); have F := fx M))
        go_roundg (15 - (j + 1))
        case measure => omega
        case rel => exact ⟨j + 1, by omega, by omega, Nat.le_refl _, by go_num, Lib.hid (by
          have : (if n < j + 1 then (n : Int) else 0) = if n < j then (n : Int) else 0 := by
            by_cases h : n < j
            · rw [if_pos h, if_pos (by omega)]
            · rw [if_neg h, if_neg (by have := e.out; omega)]
          rw [this]
          exact M)⟩
    · have hj15 : j = 15 := by omega
      subst hj15
      rw [if_pos hn.out] at M
      replace M := M.sel (.cons .here (.drop .refl))
      clear HC HNE hlt
      (try clear F); have F := fx M
      go_upto_region 12 with (first | (go_at_call 126; (refine nmK ?_; clear M; (try clear F); intro w1 M F); refine (HFo.out M).mono ?_; clear M; rintro e w2 ⟨gf, cf, rfl, M⟩; (try clear F); have F := fx M))
      have MB : Hid (Mem w0 f w2 (blk g6 tO [.int .i64 (n : Int), .int .i64 (if 0 < 0 then (rn : Int) else 0), .int .i64 (if 1 < 0 then (sn : Int) else 0), .int .i64 (if 2 < 0 then (tn : Int) else 0), .int .i64 (if 3 < 0 then vk else 0), .int .i64 (if 3 < 0 then (m : Int) else 0)] :: rowB (some ⟨gf, 0, none⟩) cf [f0, f1, f2, f3] :: row encS 1 tS (some ⟨gw, 0, none⟩) cw WS :: blk g2 tO [.int .i64 0, .int .i64 0, .int .i64 0, .int .i64 0, .int .i64 0, .int .i64 0] :: L)) := M.sel (.cons (.there .here) .refl)
      clear M F HFo
      go_wp2
      go_loopg [9, 10] 4 (fun gg s9 s10 wr => ∃ k q : Nat, k ≤ 4 ∧ 4 - k ≤ gg ∧ s9 = .int .i64 q ∧ s10 = .int .i64 k ∧ (k < 4 → q = qAt f0 f1 f2 k) ∧ q ≤ 1 + k ∧ Hid (Mem w0 f wr (blk g6 tO [.int .i64 (n : Int), .int .i64 (if 0 < k then (rn : Int) else 0), .int .i64 (if 1 < k then (sn : Int) else 0), .int .i64 (if 2 < k then (tn : Int) else 0), .int .i64 (if 3 < k then vk else 0), .int .i64 (if 3 < k then (m : Int) else 0)] :: rowB (some ⟨gf, 0, none⟩) cf [f0, f1, f2, f3] :: row encS 1 tS (some ⟨gw, 0, none⟩) cw WS :: blk g2 tO [.int .i64 0, .int .i64 0, .int .i64 0, .int .i64 0, .int .i64 0, .int .i64 0] :: L)))
      case atStart => exact ⟨0, 1, by omega, by omega, rfl, rfl, fun _ => rfl, by omega, MB⟩
      case round =>
        clear MB
        obtain ⟨k, q, hk4, hg, rfl, rfl, hq, hq5, M⟩ := hrel
        replace M := M.out
        replace hq := Lib.hid hq
        have hkc : k = 0 ∨ k = 1 ∨ k = 2 ∨ k = 3 ∨ k = 4 := by omega
        rcases hkc with rfl | rfl | rfl | rfl | rfl
        · have M : Mem w0 f wr (blk g6 tO [.int .i64 (n : Int), .int .i64 0, .int .i64 0, .int .i64 0, .int .i64 0, .int .i64 0] :: rowB (some ⟨gf, 0, none⟩) cf [f0, f1, f2, f3] :: row encS 1 tS (some ⟨gw, 0, none⟩) cw WS :: blk g2 tO [.int .i64 0, .int .i64 0, .int .i64 0, .int .i64 0, .int .i64 0, .int .i64 0] :: L) := M
          by_cases hb : f0 = true
          · have B := (elemB M dl).1
            rw [hb] at B
            have hx := w1s.out hb
            rw [← hq.out (by omega)] at hx
            have hc := HW.out M dl hx
            have hql : q < WS.length := (List.getElem?_eq_some_iff.1 hx).1
            have j1 : (0 : Int) ≤ q := by omega
            have j2 : (q : Int) < WS.length := by omega
            have wq : IntKind.i64.wrap ((q : Int) + 1) = (q : Int) + 1 := by rw [IntKind.wrap_i64]; omega
            have hqn0 : q + 1 = qAt f0 f1 f2 (0 + 1) ∨ 3 ≤ 0 := by rw [hq.out (by omega)]; simp [qAt, hb, b2n]
            have hqn := Lib.hid hqn0
            clear hqn0
            replace hx := Lib.hid hx
            replace hb := Lib.hid hb
            (try clear F); have F := fx M
            go_wp2_with (first
              | (with_reducible refine alA M ?_; clear M; (try clear F); intro w1 M F)
              | ((with_reducible apply ev_store (M := M)); rfl; rfl; ((conv => lhs; whnf) <;> rfl); rfl; (first | exact siI | exact siR | exact siV | exact siB | exact siSI | exact siSV | exact siW | exact siSR | exact siSO | exact siO); (exact one_all rfl); (exact dl); (exact Nat.le_of_ble_eq_true rfl); clear M; intro w1 M; simp only [SX] at M; (try clear F); have F := fx M)
              | (go_at_call 161; refine (D1.out _).mono ?_; rintro e w2 ⟨rfl, rfl⟩)
              | (go_at_call 162; (refine nmK ?_; clear M; (try clear F); intro w1 M F); refine (E1.out _).mono ?_; rintro e w2 ⟨rfl, hb⟩; replace M := M.below hb; clear hb; (try clear F); have F := fx M))
            go_roundg (3 - 0)
            case measure => omega
            case rel => exact ⟨0 + 1, q + 1, by omega, by omega, by go_num, by go_num, fun h => hqn.out.resolve_right (by omega), by omega, M.sel (.cons .here (.drop .refl))⟩
          · have hb : f0 = false := by simpa using hb
            have B := (elemB M dl).1
            rw [hb] at B
            have hz := z0.out hb
            have hqn0 : q = qAt f0 f1 f2 (0 + 1) ∨ 3 ≤ 0 := by rw [hq.out (by omega)]; simp [qAt, hb, b2n]
            have hqn := Lib.hid hqn0
            clear hqn0
            replace hb := Lib.hid hb
            replace hz := Lib.hid hz
            (try clear F); have F := fx M
            go_wp2
            go_roundg (3 - 0)
            case measure => omega
            case rel => exact ⟨0 + 1, q, by omega, by omega, rfl, by go_num, fun h => hqn.out.resolve_right (by omega), by omega, Lib.hid (by (first | rw [hz.out] | rw [hz.out.1, hz.out.2] | skip); exact M)⟩
        · have M : Mem w0 f wr (blk g6 tO [.int .i64 (n : Int), .int .i64 (rn : Int), .int .i64 0, .int .i64 0, .int .i64 0, .int .i64 0] :: rowB (some ⟨gf, 0, none⟩) cf [f0, f1, f2, f3] :: row encS 1 tS (some ⟨gw, 0, none⟩) cw WS :: blk g2 tO [.int .i64 0, .int .i64 0, .int .i64 0, .int .i64 0, .int .i64 0, .int .i64 0] :: L) := M
          by_cases hb : f1 = true
          · have B := (elemB M dl).2.1
            rw [hb] at B
            have hx := w2s.out hb
            rw [← hq.out (by omega)] at hx
            have hc := HW.out M dl hx
            have hql : q < WS.length := (List.getElem?_eq_some_iff.1 hx).1
            have j1 : (0 : Int) ≤ q := by omega
            have j2 : (q : Int) < WS.length := by omega
            have wq : IntKind.i64.wrap ((q : Int) + 1) = (q : Int) + 1 := by rw [IntKind.wrap_i64]; omega
            have hqn0 : q + 1 = qAt f0 f1 f2 (1 + 1) ∨ 3 ≤ 1 := by rw [hq.out (by omega)]; simp [qAt, hb, b2n]
            have hqn := Lib.hid hqn0
            clear hqn0
            replace hx := Lib.hid hx
            replace hb := Lib.hid hb
            (try clear F); have F := fx M
            go_wp2_with (first
              | (with_reducible refine alA M ?_; clear M; (try clear F); intro w1 M F)
              | ((with_reducible apply ev_store (M := M)); rfl; rfl; ((conv => lhs; whnf) <;> rfl); rfl; (first | exact siI | exact siR | exact siV | exact siB | exact siSI | exact siSV | exact siW | exact siSR | exact siSO | exact siO); (exact one_all rfl); (exact dl); (exact Nat.le_of_ble_eq_true rfl); clear M; intro w1 M; simp only [SX] at M; (try clear F); have F := fx M)
              | (go_at_call 161; refine (D2.out _).mono ?_; rintro e w2 ⟨rfl, rfl⟩)
              | (go_at_call 162; (refine nmK ?_; clear M; (try clear F); intro w1 M F); refine (E2.out _).mono ?_; rintro e w2 ⟨rfl, hb⟩; replace M := M.below hb; clear hb; (try clear F); have F := fx M))
            go_roundg (3 - 1)
            case measure => omega
            case rel => exact ⟨1 + 1, q + 1, by omega, by omega, by go_num, by go_num, fun h => hqn.out.resolve_right (by omega), by omega, M.sel (.cons .here (.drop .refl))⟩
          · have hb : f1 = false := by simpa using hb
            have B := (elemB M dl).2.1
            rw [hb] at B
            have hz := z1.out hb
            have hqn0 : q = qAt f0 f1 f2 (1 + 1) ∨ 3 ≤ 1 := by rw [hq.out (by omega)]; simp [qAt, hb, b2n]
            have hqn := Lib.hid hqn0
            clear hqn0
            replace hb := Lib.hid hb
            replace hz := Lib.hid hz
            (try clear F); have F := fx M
            go_wp2
            go_roundg (3 - 1)
            case measure => omega
            case rel => exact ⟨1 + 1, q, by omega, by omega, rfl, by go_num, fun h => hqn.out.resolve_right (by omega), by omega, Lib.hid (by (first | rw [hz.out] | rw [hz.out.1, hz.out.2] | skip); exact M)⟩
        · have M : Mem w0 f wr (blk g6 tO [.int .i64 (n : Int), .int .i64 (rn : Int), .int .i64 (sn : Int), .int .i64 0, .int .i64 0, .int .i64 0] :: rowB (some ⟨gf, 0, none⟩) cf [f0, f1, f2, f3] :: row encS 1 tS (some ⟨gw, 0, none⟩) cw WS :: blk g2 tO [.int .i64 0, .int .i64 0, .int .i64 0, .int .i64 0, .int .i64 0, .int .i64 0] :: L) := M
          by_cases hb : f2 = true
          · have B := (elemB M dl).2.2.1
            rw [hb] at B
            have hx := w3s.out hb
            rw [← hq.out (by omega)] at hx
            have hc := HW.out M dl hx
            have hql : q < WS.length := (List.getElem?_eq_some_iff.1 hx).1
            have j1 : (0 : Int) ≤ q := by omega
            have j2 : (q : Int) < WS.length := by omega
            have wq : IntKind.i64.wrap ((q : Int) + 1) = (q : Int) + 1 := by rw [IntKind.wrap_i64]; omega
            have hqn0 : q + 1 = qAt f0 f1 f2 (2 + 1) ∨ 3 ≤ 2 := by rw [hq.out (by omega)]; simp [qAt, hb, b2n]
            have hqn := Lib.hid hqn0
            clear hqn0
            replace hx := Lib.hid hx
            replace hb := Lib.hid hb
            (try clear F); have F := fx M
            go_wp2_with (first
              | (with_reducible refine alA M ?_; clear M; (try clear F); intro w1 M F)
              | ((with_reducible apply ev_store (M := M)); rfl; rfl; ((conv => lhs; whnf) <;> rfl); rfl; (first | exact siI | exact siR | exact siV | exact siB | exact siSI | exact siSV | exact siW | exact siSR | exact siSO | exact siO); (exact one_all rfl); (exact dl); (exact Nat.le_of_ble_eq_true rfl); clear M; intro w1 M; simp only [SX] at M; (try clear F); have F := fx M)
              | (go_at_call 161; refine (D3.out _).mono ?_; rintro e w2 ⟨rfl, rfl⟩)
              | (go_at_call 162; (refine nmK ?_; clear M; (try clear F); intro w1 M F); refine (E3.out _).mono ?_; rintro e w2 ⟨rfl, hb⟩; replace M := M.below hb; clear hb; (try clear F); have F := fx M))
            go_roundg (3 - 2)
            case measure => omega
            case rel => exact ⟨2 + 1, q + 1, by omega, by omega, by go_num, by go_num, fun h => hqn.out.resolve_right (by omega), by omega, M.sel (.cons .here (.drop .refl))⟩
          · have hb : f2 = false := by simpa using hb
            have B := (elemB M dl).2.2.1
            rw [hb] at B
            have hz := z2.out hb
            have hqn0 : q = qAt f0 f1 f2 (2 + 1) ∨ 3 ≤ 2 := by rw [hq.out (by omega)]; simp [qAt, hb, b2n]
            have hqn := Lib.hid hqn0
            clear hqn0
            replace hb := Lib.hid hb
            replace hz := Lib.hid hz
            (try clear F); have F := fx M
            go_wp2
            go_roundg (3 - 2)
            case measure => omega
            case rel => exact ⟨2 + 1, q, by omega, by omega, rfl, by go_num, fun h => hqn.out.resolve_right (by omega), by omega, Lib.hid (by (first | rw [hz.out] | rw [hz.out.1, hz.out.2] | skip); exact M)⟩
        · have M : Mem w0 f wr (blk g6 tO [.int .i64 (n : Int), .int .i64 (rn : Int), .int .i64 (sn : Int), .int .i64 (tn : Int), .int .i64 0, .int .i64 0] :: rowB (some ⟨gf, 0, none⟩) cf [f0, f1, f2, f3] :: row encS 1 tS (some ⟨gw, 0, none⟩) cw WS :: blk g2 tO [.int .i64 0, .int .i64 0, .int .i64 0, .int .i64 0, .int .i64 0, .int .i64 0] :: L) := M
          by_cases hb : f3 = true
          · have B := (elemB M dl).2.2.2
            rw [hb] at B
            have hx := w4s.out hb
            rw [← hq.out (by omega)] at hx
            have hc := HW.out M dl hx
            have hql : q < WS.length := (List.getElem?_eq_some_iff.1 hx).1
            have j1 : (0 : Int) ≤ q := by omega
            have j2 : (q : Int) < WS.length := by omega
            have wq : IntKind.i64.wrap ((q : Int) + 1) = (q : Int) + 1 := by rw [IntKind.wrap_i64]; omega
            have hqn0 : q + 1 = qAt f0 f1 f2 (3 + 1) ∨ 3 ≤ 3 := by rw [hq.out (by omega)]; simp [qAt, b2n]
            have hqn := Lib.hid hqn0
            clear hqn0
            replace hx := Lib.hid hx
            replace hb := Lib.hid hb
            (try clear F); have F := fx M
            go_wp2_with (first
              | (with_reducible refine alA M ?_; clear M; (try clear F); intro w1 M F)
              | ((with_reducible apply ev_store (M := M)); rfl; rfl; ((conv => lhs; whnf) <;> rfl); rfl; (first | exact siI | exact siR | exact siV | exact siB | exact siSI | exact siSV | exact siW | exact siSR | exact siSO | exact siO); (exact one_all rfl); (exact dl); (exact Nat.le_of_ble_eq_true rfl); clear M; intro w1 M; simp only [SX] at M; (try clear F); have F := fx M)
              | (go_at_call 161; refine (D4.out (hb.out) _).mono ?_; rintro e w2 ⟨rfl, rfl⟩)
              | (go_at_call 162; (refine nmK ?_; clear M; (try clear F); intro w1 M F); refine (E4.out (hb.out) _).mono ?_; rintro e w2 ⟨rfl, hb⟩; replace M := M.below hb; clear hb; (try clear F); have F := fx M))
            go_roundg (3 - 3)
            case measure => omega
            case rel => exact ⟨3 + 1, q + 1, by omega, by omega, by go_num, by go_num, fun h => hqn.out.resolve_right (by omega), by omega, M.sel (.cons .here (.drop .refl))⟩
          · have hb : f3 = false := by simpa using hb
            have B := (elemB M dl).2.2.2
            rw [hb] at B
            have hz := z3.out hb
            have hqn0 : q = qAt f0 f1 f2 (3 + 1) ∨ 3 ≤ 3 := by rw [hq.out (by omega)]; simp [qAt, b2n]
            have hqn := Lib.hid hqn0
            clear hqn0
            replace hb := Lib.hid hb
            replace hz := Lib.hid hz
            (try clear F); have F := fx M
            go_wp2
            go_roundg (3 - 3)
            case measure => omega
            case rel => exact ⟨3 + 1, q, by omega, by omega, rfl, by go_num, fun h => hqn.out.resolve_right (by omega), by omega, Lib.hid (by (first | rw [hz.out] | rw [hz.out.1, hz.out.2] | skip); exact M)⟩
        · have M : Mem w0 f wr (blk g6 tO [.int .i64 (n : Int), .int .i64 (rn : Int), .int .i64 (sn : Int), .int .i64 (tn : Int), .int .i64 vk, .int .i64 (m : Int)] :: rowB (some ⟨gf, 0, none⟩) cf [f0, f1, f2, f3] :: row encS 1 tS (some ⟨gw, 0, none⟩) cw WS :: blk g2 tO [.int .i64 0, .int .i64 0, .int .i64 0, .int .i64 0, .int .i64 0, .int .i64 0] :: L) := M
          have bE3 : (T.toList = []) = False := eq_false (strNe bE.out)
          have bE2 : T.toList.isEmpty = false := by rw [List.isEmpty_eq_false_iff]; exact strNe bE.out
          have bQ2 := strL bQ.out
          (try clear F); have F := fx M
          go_wp2_with (first
            | (with_reducible refine alA M ?_; clear M; (try clear F); intro w1 M F)
            | ((with_reducible apply ev_store (M := M)); rfl; rfl; ((conv => lhs; whnf) <;> rfl); rfl; (first | exact siI | exact siR | exact siV | exact siB | exact siSI | exact siSV | exact siW | exact siSR | exact siSO | exact siO); (exact one_all rfl); (exact dl); (exact Nat.le_of_ble_eq_true rfl); clear M; intro w1 M; simp only [SX] at M; (try clear F); have F := fx M)
            | (go_at_call 163; (refine nmK ?_; clear M; (try clear F); intro w1 M F); refine (HOT.out M).mono ?_; clear M; rintro e w2 ⟨rfl, M⟩; (try clear F); have F := fx M))
          apply ret_cell_tmp (M := M); rfl; rfl; rfl; (exact dl); (first | exact agR | exact agV | exact agW | exact agO); (first | exact siI | exact siR | exact siV | exact siB | exact siSI | exact siSV | exact siW | exact siSR | exact siSO | exact siO); rfl
          exact ⟨rfl, M.sel (.drop (.drop (.drop (.drop .refl))))⟩
end Go.Proofs.Ytmidnaafljgbiaa
/- Steps are read. -/
namespace Go.Proofs.Ytmidnaafljgbiaa
open Go.RowKit
set_option maxRecDepth 100000

def optEq (o : Option ByteArray) (x : ByteArray) : Bool := match o with | some y => y.data == x.data | none => false
theorem optEq_eq {o : Option ByteArray} {x : ByteArray} (h : optEq o x = true) : o = some x := by
  cases o with
  | none => cases h
  | some y =>
    have : y.data = x.data := by simpa [optEq] using h
    rw [ByteArray.ext this]
def lineOk (T : ByteArray) (o : Opx) : Bool :=
  (decide (1 ≤ o.k) && decide (o.k < 15) && decide (0 ≤ o.r) && decide (o.r ≤ 10) && decide (0 ≤ o.s) && decide (o.s ≤ 10) && decide (0 ≤ o.to) && decide (o.to ≤ 10) && decide (0 ≤ o.v.n) && opOk o)
  && ((!formAt o.k 3 || ((o.v.k == 1 || o.v.k == 2) && decide (o.v.n ≤ 4))) && (formAt o.k 0 || o.r == 0) && (formAt o.k 1 || o.s == 0) && (formAt o.k 2 || o.to == 0) && (formAt o.k 3 || (o.v.k == 0 && o.v.n == 0)))
  && (T.data == (addW (formAt o.k 3) (addW (formAt o.k 2) (addW (formAt o.k 1) (addW (formAt o.k 0) (nameB o.k.toNat) (decB o.r.toNat)) (decB o.s.toNat)) (decB o.to.toNat)) (valB o.v.k o.v.n.toNat)).data && decide (T.size ≤ 24) && decide (1 ≤ T.size))
  && (optEq (cutM 32 T)[0]? (nameB o.k.toNat) && (!formAt o.k 0 || optEq (cutM 32 T)[qAt (formAt o.k 0) (formAt o.k 1) (formAt o.k 2) 0]? (decB o.r.toNat)) && (!formAt o.k 1 || optEq (cutM 32 T)[qAt (formAt o.k 0) (formAt o.k 1) (formAt o.k 2) 1]? (decB o.s.toNat))
    && (!formAt o.k 2 || optEq (cutM 32 T)[qAt (formAt o.k 0) (formAt o.k 1) (formAt o.k 2) 2]? (decB o.to.toNat)) && (!formAt o.k 3 || optEq (cutM 32 T)[qAt (formAt o.k 0) (formAt o.k 1) (formAt o.k 2) 3]? (valB o.v.k o.v.n.toNat)))
theorem or_not {a b : Bool} (h : (!a || b) = true) : a = true → b = true := by
  intro e
  subst e
  simpa using h
theorem or_false {a b : Bool} (h : (a || b) = true) : a = false → b = true := by
  intro e
  subst e
  simpa using h
theorem sOpReadO (T : ByteArray) (o : Opx) (h : lineOk T o = true) {w0 w : World} {f : List Nat} {L : List Asn} (M : Mem w0 f w L) :
    Calls Try.prog 152 #[.string T] w fun e w' => e = .returned (.tuple #[.agg (opArr o), .bool true]) ∧ Mem w0 f w' L := by
  unfold lineOk at h
  obtain ⟨h, h4⟩ := Bool.and_eq_true_iff.1 h
  obtain ⟨h, h3⟩ := Bool.and_eq_true_iff.1 h
  obtain ⟨h1, h2⟩ := Bool.and_eq_true_iff.1 h
  simp only [Bool.and_eq_true, decide_eq_true_eq] at h1 h3
  obtain ⟨⟨⟨⟨⟨⟨⟨⟨⟨k1, k2⟩, r1⟩, r2⟩, s1⟩, s2⟩, t1⟩, t2⟩, v1⟩, ho⟩ := h1
  obtain ⟨⟨hT, hT24⟩, hT1⟩ := h3
  rw [Bool.and_eq_true, Bool.and_eq_true, Bool.and_eq_true, Bool.and_eq_true] at h2 h4
  obtain ⟨⟨⟨⟨a3, a0⟩, a1⟩, a2⟩, a4⟩ := h2
  obtain ⟨⟨⟨⟨b0, b1⟩, b2⟩, b3⟩, b4⟩ := h4
  obtain ⟨k, r, s, to, ⟨vk, vn⟩⟩ := o
  simp only at *
  obtain ⟨n, rfl⟩ : ∃ n : Nat, k = n := ⟨k.toNat, by omega⟩
  obtain ⟨rn, rfl⟩ : ∃ n : Nat, r = n := ⟨r.toNat, by omega⟩
  obtain ⟨sn, rfl⟩ : ∃ n : Nat, s = n := ⟨s.toNat, by omega⟩
  obtain ⟨tn, rfl⟩ : ∃ n : Nat, to = n := ⟨to.toNat, by omega⟩
  obtain ⟨m, rfl⟩ : ∃ n : Nat, vn = n := ⟨vn.toNat, by omega⟩
  simp only [Int.toNat_natCast] at *
  obtain ⟨f0, f1, f2, f3, hf⟩ := form_four (k := (n : Int)) ⟨k1, by omega⟩
  have e0 : formAt (n : Int) 0 = f0 := by unfold formAt; rw [hf]; rfl
  have e1 : formAt (n : Int) 1 = f1 := by unfold formAt; rw [hf]; rfl
  have e2 : formAt (n : Int) 2 = f2 := by unfold formAt; rw [hf]; rfl
  have e3 : formAt (n : Int) 3 = f3 := by unfold formAt; rw [hf]; rfl
  simp only [e0, e1, e2, e3] at a0 a1 a2 a3 a4 b1 b2 b3 b4 hT
  exact sOpRead T (cutM 32 T) n rn sn tn m vk f0 f1 f2 f3 hf (by omega) (by omega) (by omega) (by omega) (by omega)
    (fun h => by have := or_not a3 h; simp at this; exact ⟨this.1, by omega⟩) ho
    (fun h => by have := or_false a0 h; simp at this; omega) (fun h => by have := or_false a1 h; simp at this; omega) (fun h => by have := or_false a2 h; simp at this; omega) (fun h => by have := or_false a4 h; simp at this; omega)
    (ByteArray.ext (by simpa using hT)) hT24 hT1 rfl (optEq_eq b0) (fun h => optEq_eq (or_not b1 h)) (fun h => optEq_eq (or_not b2 h)) (fun h => optEq_eq (or_not b3 h)) (fun h => optEq_eq (or_not b4 h)) M
set_option maxHeartbeats 4000000 in
theorem sCodeRead (T : ByteArray) (C : List Opx) (lines : List ByteArray) (hT : T.size ≤ 400) (hc : cutM 10 T = lines ++ [(⟨#[]⟩ : ByteArray)]) (hl : lines.length = C.length) (h1 : 1 ≤ C.length) (h16 : C.length ≤ 16) (hok : ∀ i (h : i < C.length), lineOk (lines[i]'(by omega)) C[i] = true) (hco : codeOk C = true)
    {w0 w : World} {f : List Nat} {L : List Asn} (M : Mem w0 f w L) :
    Calls Try.prog 143 #[.string T] w fun e w' => ∃ (A : Option Addr) (c : Nat), e = .returned (.tuple #[.slice A C.length c, .bool true]) ∧ Mem w0 f w' (rowO A c C :: L) := by
  have AL := add_lit0
  obtain ⟨N, hN⟩ : ∃ N : Nat, N = C.length := ⟨_, rfl⟩
  have hlen : (lines ++ [(⟨#[]⟩ : ByteArray)]).length = N + 1 := by rw [List.length_append, hl, hN]; rfl
  have HCut : Hid (∀ {U : World} {L1 : List Asn}, Mem w0 f U L1 → Calls Try.prog 151 #[.string T, .int .u8 10] U fun e w' => ∃ (g c : Nat), e = .returned (.slice (some ⟨g, 0, none⟩) (N + 1) c) ∧ Mem w0 f w' (row encS 1 tS (some ⟨g, 0, none⟩) c (lines ++ [(⟨#[]⟩ : ByteArray)]) :: L1)) := fun {U L1} M => by
    have h := sCut T 10 hT M
    rw [hc, hlen] at h
    exact h
  have HO : Hid (∀ {U : World} {L1 : List Asn} (i : Nat) (s : ByteArray) (o : Opx), lines[i]? = some s → C[i]? = some o → Mem w0 f U L1 → Calls Try.prog 152 #[.string s] U fun e w' => e = .returned (.tuple #[.agg (opArr o), .bool true]) ∧ Mem w0 f w' L1) := fun {U L1} i s o h2 h3 M => by
    obtain ⟨_, e1⟩ := List.getElem?_eq_some_iff.1 h2
    obtain ⟨i2, e2⟩ := List.getElem?_eq_some_iff.1 h3
    subst e1 e2
    exact sOpReadO _ _ (hok i i2) M
  have HCO : Hid (∀ {U : World} {L1 L2 : List Asn} {A : Option Addr} {c : Nat}, Mem w0 f U L1 → Del (row encO 6 tO A c C) L1 L2 → Calls Try.prog 94 #[.slice A N c] U fun e w' => e = .returned (.bool true) ∧ Below U.heap.size U w') := fun {U L1 L2 A c} M hd => by
    have h := sCodeOk C A c M hd
    rw [hco, ← hN] at h
    exact h
  have hend : (lines ++ [(⟨#[]⟩ : ByteArray)])[N]? = some (⟨#[]⟩ : ByteArray) := by rw [hN, ← hl, List.getElem?_append_right (Nat.le_refl _), Nat.sub_self]; rfl
  have bT : (T.size : Int) ≤ 400 := by omega
  have wN : IntKind.i64.wrap ((N : Int) + 1 - 1) = (N : Int) := by rw [IntKind.wrap_i64]; omega
  have wN2 : IntKind.i64.wrap (N : Int) = (N : Int) := by rw [IntKind.wrap_i64]; omega
  have iN1 : (1 : Int) ≤ N := by omega
  have hN16 : N ≤ 16 := by omega
  have iN0 : (0 : Int) ≤ N := by omega
  have iN2 : (N : Int) < (N : Int) + 1 := by omega
  have HR : Hid (∀ (U : World) (A : Option Addr) (c : Nat), Mem w0 f U (rowO A c C :: L) → ∃ (A' : Option Addr) (c' : Nat), Ending.returned (.tuple #[.slice A N c, .bool true]) = .returned (.tuple #[.slice A' C.length c', .bool true]) ∧ Mem w0 f U (rowO A' c' C :: L)) := fun U A c M => ⟨A, c, by rw [hN], M⟩
  replace hlen := Lib.hid hlen
  replace hl := Lib.hid hl
  have hN' := Lib.hid hN
  replace hend := Lib.hid hend
  clear hc hok hco hT hN
  (try clear F); have F := fxw M
  go_enter Try.func143, Try.ntmps143
  go_upto_region 4 with (first | (with_reducible refine alAw M ?_; clear M; (try clear F); intro w1 M F) | (go_at_call 151; (refine nmKw ?_; clear M; (try clear F); intro w1 M F); refine (HCut.out M).mono ?_; clear M; rintro e w2 ⟨gw, cw, rfl, M⟩; (try clear F); have F := fxw M))
  have hce := strCell M dl hend.out
  go_upto_region 8 with (first | (with_reducible refine alAw M ?_; clear M; (try clear F); intro w1 M F))
  have M2 : Mem w0 f _ (rowO (some ⟨w2.heap.size, 0, none⟩) 0 ([] : List Opx) :: row encS 1 tS (some ⟨gw, 0, none⟩) cw (lines ++ [(⟨#[]⟩ : ByteArray)]) :: L) := Mem.row_of encO_length (xs := []) M rfl (by simp)
  clear M F hce
  generalize w2.heap.size = g0 at M2 ⊢
  go_wp2
  go_loopg [6, 7] N (fun gg v i wr => ∃ (j : Nat) (A : Option Addr) (c : Nat), j ≤ N ∧ N - j ≤ gg ∧ v = .slice A j c ∧ i = .int .i64 j ∧ Hid (Mem w0 f wr (row encO 6 tO A c (C.take j) :: row encS 1 tS (some ⟨gw, 0, none⟩) cw (lines ++ [(⟨#[]⟩ : ByteArray)]) :: L)))
  case atStart => exact ⟨0, _, _, by omega, by omega, rfl, rfl, M2⟩
  case round =>
    clear M2
    obtain ⟨j, A, c, hj, hg, rfl, rfl, M⟩ := hrel
    replace M := M.out
    have hjl : (C.take j).length = j := by rw [List.length_take, ← hN'.out]; omega
    replace hjl := Lib.hid hjl
    by_cases hlt : j < N
    · obtain ⟨s, hs⟩ : ∃ s, lines[j]? = some s := ⟨_, List.getElem?_eq_getElem (by rw [hl.out, ← hN'.out]; exact hlt)⟩
      obtain ⟨o, ho⟩ : ∃ o, C[j]? = some o := ⟨_, List.getElem?_eq_getElem (by rw [← hN'.out]; exact hlt)⟩
      have hcl := strCell M dl (q := j) (x := s) (by rw [List.getElem?_append_left (List.getElem?_eq_some_iff.1 hs).1]; exact hs)
      have HT : C.take (j + 1) = C.take j ++ [o] := by rw [List.take_add_one, ho]; rfl
      replace HT := Lib.hid HT
      have HO2 : Hid (∀ {U : World} {L1 : List Asn}, Mem w0 f U L1 → Calls Try.prog 152 #[.string s] U fun e w' => e = .returned (.tuple #[.agg (opArr o), .bool true]) ∧ Mem w0 f w' L1) := fun {U L1} M => HO.out j s o hs ho M
      replace hs := Lib.hid hs
      replace ho := Lib.hid ho
      have j0 : (0 : Int) ≤ j := by omega
      have j1 : (j : Int) < (N : Int) + 1 := by omega
      have j2 : (j : Int) < N := by omega
      obtain ⟨ok, or_, os, oto, ⟨ovk, ovn⟩⟩ := o
      simp only [opArr] at HO2
      (try clear F); have F := fxw M
      go_wp2_with (first
        | ((with_reducible refine alAw M ?_; clear M; (try clear F); intro w1 M F); ((with_reducible apply ev_app1 (enc := encO) (v := (⟨ok, or_, os, oto, ⟨ovk, ovn⟩⟩ : Opx)) (hk := encO_length) (hone := oneO) (h0 := by decide) (hinfo := infOx) (ht := Try.underlying42) (M := M)); rfl; rfl; (exact dl); (exact dl); rfl; exact hjl.out.symm; (rw [hjl.out]; omega); (exact Nat.le_of_ble_eq_true rfl); clear M; intro A1 c1 w1 M; replace M := Mem.perm M (.swap _ _ _) |> Mem.drop; (try clear F); have F := fxw M))
        | (with_reducible refine alAw M ?_; clear M; (try clear F); intro w1 M F)
        | ((with_reducible apply ev_store (M := M)); rfl; rfl; ((conv => lhs; whnf) <;> rfl); rfl; (first | exact siI | exact siR | exact siV | exact siB | exact siSI | exact siSV | exact siW | exact siSR | exact siSO | exact siO); (exact one_all rfl); (exact dl); (exact Nat.le_of_ble_eq_true rfl); clear M; intro w1 M; simp only [SX] at M; (try clear F); have F := fxw M)
        | (go_at_call 152; (refine nmKw ?_; clear M; (try clear F); intro w1 M F); refine (HO2.out M).mono ?_; clear M; rintro e w2 ⟨rfl, M⟩; (try clear F); have F := fxw M))
      go_roundg (N - (j + 1))
      case measure => omega
      case rel => exact ⟨j + 1, A1, c1, by omega, Nat.le_refl _, rfl, by go_num, Lib.hid (by rw [HT.out]; exact M.sel (.cons .here (.drop .refl)))⟩
    · have hjN : j = N := by omega
      have j9 : ¬ ((j : Int) < N) := by omega
      have eC : C.take j = C := List.take_of_length_le (by rw [hjN, ← hN'.out]; exact Nat.le_refl _)
      rw [eC] at M
      clear hlt hg hjl
      subst hjN
      go_wp2_with (first | (go_at_call 94; (refine nmKw ?_; clear M; (try clear F); intro w1 M F); refine (HCO.out M dl).mono ?_; rintro e w2 ⟨rfl, hb⟩; replace M := M.below hb; clear hb; (try clear F); have F := fxw M))
      go_ret2
      exact HR.out _ _ _ (M.sel (.cons .here (.drop .refl)))
end Go.Proofs.Ytmidnaafljgbiaa
/- The steps of which drawn ones are made, read of their texts. -/
namespace Go.Proofs.Ytmidnaafljgbiaa
open Go.RowKit
set_option maxRecDepth 100000

def text0 : ByteArray := ⟨#[98, 101, 103, 105, 110, 32, 49, 32, 54, 10, 108, 105, 110, 107, 32, 49, 10, 115, 101, 116, 32, 50, 32, 110, 51, 10, 115, 101, 110, 100, 32, 49, 32, 50, 10, 116, 97, 107, 101, 32, 51, 32, 49, 10, 101, 110, 100, 32, 51, 10, 116, 97, 107, 101, 32, 49, 32, 49, 10, 115, 101, 116, 32, 50, 32, 110, 49, 10, 97, 100, 100, 32, 49, 32, 50, 10, 115, 101, 110, 100, 32, 48, 32, 49, 10, 103, 111, 32, 54, 10]⟩
def lines0 : List ByteArray := [⟨#[98, 101, 103, 105, 110, 32, 49, 32, 54]⟩, ⟨#[108, 105, 110, 107, 32, 49]⟩, ⟨#[115, 101, 116, 32, 50, 32, 110, 51]⟩, ⟨#[115, 101, 110, 100, 32, 49, 32, 50]⟩, ⟨#[116, 97, 107, 101, 32, 51, 32, 49]⟩, ⟨#[101, 110, 100, 32, 51]⟩, ⟨#[116, 97, 107, 101, 32, 49, 32, 49]⟩, ⟨#[115, 101, 116, 32, 50, 32, 110, 49]⟩, ⟨#[97, 100, 100, 32, 49, 32, 50]⟩, ⟨#[115, 101, 110, 100, 32, 48, 32, 49]⟩, ⟨#[103, 111, 32, 54]⟩]
def steps0 : List Opx := [⟨5, 1, 0, 6, ⟨0, 0⟩⟩, ⟨11, 1, 0, 0, ⟨0, 0⟩⟩, ⟨1, 2, 0, 0, ⟨1, 3⟩⟩, ⟨6, 1, 2, 0, ⟨0, 0⟩⟩, ⟨7, 3, 1, 0, ⟨0, 0⟩⟩, ⟨14, 3, 0, 0, ⟨0, 0⟩⟩, ⟨7, 1, 1, 0, ⟨0, 0⟩⟩, ⟨1, 2, 0, 0, ⟨1, 1⟩⟩, ⟨3, 1, 2, 0, ⟨0, 0⟩⟩, ⟨6, 0, 1, 0, ⟨0, 0⟩⟩, ⟨9, 0, 0, 6, ⟨0, 0⟩⟩]
def text1 : ByteArray := ⟨#[116, 114, 97, 112, 32, 110, 49, 10, 98, 101, 103, 105, 110, 32, 49, 32, 55, 10, 98, 101, 103, 105, 110, 32, 50, 32, 55, 10, 108, 105, 110, 107, 32, 49, 10, 108, 105, 110, 107, 32, 50, 10, 116, 97, 107, 101, 32, 51, 32, 51, 10, 103, 111, 32, 53, 10, 115, 101, 108, 102, 32, 49, 10, 97, 102, 116, 101, 114, 32, 50, 32, 48, 32, 49, 48, 32, 110, 50, 10, 101, 110, 100, 32, 50, 10, 115, 101, 116, 32, 51, 32, 97, 52, 10, 101, 110, 100, 32, 51, 10]⟩
def lines1 : List ByteArray := [⟨#[116, 114, 97, 112, 32, 110, 49]⟩, ⟨#[98, 101, 103, 105, 110, 32, 49, 32, 55]⟩, ⟨#[98, 101, 103, 105, 110, 32, 50, 32, 55]⟩, ⟨#[108, 105, 110, 107, 32, 49]⟩, ⟨#[108, 105, 110, 107, 32, 50]⟩, ⟨#[116, 97, 107, 101, 32, 51, 32, 51]⟩, ⟨#[103, 111, 32, 53]⟩, ⟨#[115, 101, 108, 102, 32, 49]⟩, ⟨#[97, 102, 116, 101, 114, 32, 50, 32, 48, 32, 49, 48, 32, 110, 50]⟩, ⟨#[101, 110, 100, 32, 50]⟩, ⟨#[115, 101, 116, 32, 51, 32, 97, 52]⟩, ⟨#[101, 110, 100, 32, 51]⟩]
def steps1 : List Opx := [⟨13, 0, 0, 0, ⟨1, 1⟩⟩, ⟨5, 1, 0, 7, ⟨0, 0⟩⟩, ⟨5, 2, 0, 7, ⟨0, 0⟩⟩, ⟨11, 1, 0, 0, ⟨0, 0⟩⟩, ⟨11, 2, 0, 0, ⟨0, 0⟩⟩, ⟨7, 3, 3, 0, ⟨0, 0⟩⟩, ⟨9, 0, 0, 5, ⟨0, 0⟩⟩, ⟨4, 1, 0, 0, ⟨0, 0⟩⟩, ⟨8, 2, 0, 10, ⟨1, 2⟩⟩, ⟨14, 2, 0, 0, ⟨0, 0⟩⟩, ⟨1, 3, 0, 0, ⟨2, 4⟩⟩, ⟨14, 3, 0, 0, ⟨0, 0⟩⟩]
def text2 : ByteArray := ⟨#[98, 101, 103, 105, 110, 32, 49, 32, 53, 10, 119, 97, 116, 99, 104, 32, 49, 10, 116, 97, 107, 101, 32, 50, 32, 48, 10, 109, 111, 118, 101, 32, 51, 32, 50, 10, 103, 111, 32, 50, 10, 108, 105, 110, 107, 32, 48, 10, 116, 97, 107, 101, 32, 49, 32, 50, 10, 105, 102, 32, 49, 32, 57, 32, 97, 48, 10, 103, 111, 32, 54, 10, 101, 110, 100, 32, 49, 10]⟩
def lines2 : List ByteArray := [⟨#[98, 101, 103, 105, 110, 32, 49, 32, 53]⟩, ⟨#[119, 97, 116, 99, 104, 32, 49]⟩, ⟨#[116, 97, 107, 101, 32, 50, 32, 48]⟩, ⟨#[109, 111, 118, 101, 32, 51, 32, 50]⟩, ⟨#[103, 111, 32, 50]⟩, ⟨#[108, 105, 110, 107, 32, 48]⟩, ⟨#[116, 97, 107, 101, 32, 49, 32, 50]⟩, ⟨#[105, 102, 32, 49, 32, 57, 32, 97, 48]⟩, ⟨#[103, 111, 32, 54]⟩, ⟨#[101, 110, 100, 32, 49]⟩]
def steps2 : List Opx := [⟨5, 1, 0, 5, ⟨0, 0⟩⟩, ⟨12, 1, 0, 0, ⟨0, 0⟩⟩, ⟨7, 2, 0, 0, ⟨0, 0⟩⟩, ⟨2, 3, 2, 0, ⟨0, 0⟩⟩, ⟨9, 0, 0, 2, ⟨0, 0⟩⟩, ⟨11, 0, 0, 0, ⟨0, 0⟩⟩, ⟨7, 1, 2, 0, ⟨0, 0⟩⟩, ⟨10, 1, 0, 9, ⟨2, 0⟩⟩, ⟨9, 0, 0, 6, ⟨0, 0⟩⟩, ⟨14, 1, 0, 0, ⟨0, 0⟩⟩]
def text3 : ByteArray := ⟨#[115, 101, 116, 32, 49, 32, 110, 48, 10, 115, 101, 116, 32, 50, 32, 110, 49, 10, 98, 101, 103, 105, 110, 32, 51, 32, 54, 10, 97, 100, 100, 32, 49, 32, 50, 10, 115, 101, 110, 100, 32, 51, 32, 49, 10, 103, 111, 32, 51, 10, 116, 97, 107, 101, 32, 49, 32, 49, 10, 97, 102, 116, 101, 114, 32, 50, 32, 50, 32, 54, 32, 110, 49, 10, 101, 110, 100, 32, 50, 10]⟩
def lines3 : List ByteArray := [⟨#[115, 101, 116, 32, 49, 32, 110, 48]⟩, ⟨#[115, 101, 116, 32, 50, 32, 110, 49]⟩, ⟨#[98, 101, 103, 105, 110, 32, 51, 32, 54]⟩, ⟨#[97, 100, 100, 32, 49, 32, 50]⟩, ⟨#[115, 101, 110, 100, 32, 51, 32, 49]⟩, ⟨#[103, 111, 32, 51]⟩, ⟨#[116, 97, 107, 101, 32, 49, 32, 49]⟩, ⟨#[97, 102, 116, 101, 114, 32, 50, 32, 50, 32, 54, 32, 110, 49]⟩, ⟨#[101, 110, 100, 32, 50]⟩]
def steps3 : List Opx := [⟨1, 1, 0, 0, ⟨1, 0⟩⟩, ⟨1, 2, 0, 0, ⟨1, 1⟩⟩, ⟨5, 3, 0, 6, ⟨0, 0⟩⟩, ⟨3, 1, 2, 0, ⟨0, 0⟩⟩, ⟨6, 3, 1, 0, ⟨0, 0⟩⟩, ⟨9, 0, 0, 3, ⟨0, 0⟩⟩, ⟨7, 1, 1, 0, ⟨0, 0⟩⟩, ⟨8, 2, 2, 6, ⟨1, 1⟩⟩, ⟨14, 2, 0, 0, ⟨0, 0⟩⟩]
def text4 : ByteArray := ⟨#[98, 101, 103, 105, 110, 32, 49, 32, 51, 10, 108, 105, 110, 107, 32, 49, 10, 103, 111, 32, 48, 10, 98, 101, 103, 105, 110, 32, 50, 32, 54, 10, 108, 105, 110, 107, 32, 50, 10, 103, 111, 32, 55, 10, 108, 105, 110, 107, 32, 48, 10, 116, 97, 107, 101, 32, 51, 32, 48, 10, 101, 110, 100, 32, 51, 10]⟩
def lines4 : List ByteArray := [⟨#[98, 101, 103, 105, 110, 32, 49, 32, 51]⟩, ⟨#[108, 105, 110, 107, 32, 49]⟩, ⟨#[103, 111, 32, 48]⟩, ⟨#[98, 101, 103, 105, 110, 32, 50, 32, 54]⟩, ⟨#[108, 105, 110, 107, 32, 50]⟩, ⟨#[103, 111, 32, 55]⟩, ⟨#[108, 105, 110, 107, 32, 48]⟩, ⟨#[116, 97, 107, 101, 32, 51, 32, 48]⟩, ⟨#[101, 110, 100, 32, 51]⟩]
def steps4 : List Opx := [⟨5, 1, 0, 3, ⟨0, 0⟩⟩, ⟨11, 1, 0, 0, ⟨0, 0⟩⟩, ⟨9, 0, 0, 0, ⟨0, 0⟩⟩, ⟨5, 2, 0, 6, ⟨0, 0⟩⟩, ⟨11, 2, 0, 0, ⟨0, 0⟩⟩, ⟨9, 0, 0, 7, ⟨0, 0⟩⟩, ⟨11, 0, 0, 0, ⟨0, 0⟩⟩, ⟨7, 3, 0, 0, ⟨0, 0⟩⟩, ⟨14, 3, 0, 0, ⟨0, 0⟩⟩]
def bytesEq : List ByteArray → List ByteArray → Bool
  | [], [] => true
  | a :: s, b :: t => a.data == b.data && bytesEq s t
  | _, _ => false
theorem bytesEq_eq : ∀ {s t : List ByteArray}, bytesEq s t = true → s = t
  | [], [], _ => rfl
  | a :: s, b :: t, h => by
    simp only [bytesEq, Bool.and_eq_true, beq_iff_eq] at h
    rw [ByteArray.ext h.1, bytesEq_eq h.2]
  | [], _ :: _, h => by cases h
  | _ :: _, [], h => by cases h
def textOk (T : ByteArray) (ls : List ByteArray) (C : List Opx) : Bool :=
  decide (T.size ≤ 400) && bytesEq (cutM 10 T) (ls ++ [(⟨#[]⟩ : ByteArray)]) && decide (ls.length = C.length) && decide (1 ≤ C.length) && decide (C.length ≤ 16) && (ls.zip C).all (fun p => lineOk p.1 p.2) && codeOk C
theorem sText (T : ByteArray) (ls : List ByteArray) (C : List Opx) (h : textOk T ls C = true) {w0 w : World} {f : List Nat} {L : List Asn} (M : Mem w0 f w L) :
    Calls Try.prog 143 #[.string T] w fun e w' => ∃ (A : Option Addr) (c : Nat), e = .returned (.tuple #[.slice A C.length c, .bool true]) ∧ Mem w0 f w' (rowO A c C :: L) := by
  unfold textOk at h
  obtain ⟨h, h7⟩ := Bool.and_eq_true_iff.1 h
  obtain ⟨h, h6⟩ := Bool.and_eq_true_iff.1 h
  simp only [Bool.and_eq_true, decide_eq_true_eq] at h
  obtain ⟨⟨⟨⟨h1, h2⟩, h3⟩, h4⟩, h5⟩ := h
  refine sCodeRead T C ls h1 (bytesEq_eq h2) h3 h4 h5 (fun i hi => ?_) h7 M
  have := List.all_eq_true.1 h6 ((ls.zip C)[i]'(by rw [List.length_zip]; omega)) (List.getElem_mem _)
  simpa using this
theorem ok0 : textOk text0 lines0 steps0 = true := by decide +kernel
theorem safe0 : (codeSafe steps0 && decide (1 ≤ steps0.length) && decide (steps0.length ≤ 16)) = true := by decide +kernel
theorem ok1 : textOk text1 lines1 steps1 = true := by decide +kernel
theorem safe1 : (codeSafe steps1 && decide (1 ≤ steps1.length) && decide (steps1.length ≤ 16)) = true := by decide +kernel
theorem ok2 : textOk text2 lines2 steps2 = true := by decide +kernel
theorem safe2 : (codeSafe steps2 && decide (1 ≤ steps2.length) && decide (steps2.length ≤ 16)) = true := by decide +kernel
theorem ok3 : textOk text3 lines3 steps3 = true := by decide +kernel
theorem safe3 : (codeSafe steps3 && decide (1 ≤ steps3.length) && decide (steps3.length ≤ 16)) = true := by decide +kernel
theorem ok4 : textOk text4 lines4 steps4 = true := by decide +kernel
theorem safe4 : (codeSafe steps4 && decide (1 ≤ steps4.length) && decide (steps4.length ≤ 16)) = true := by decide +kernel
def TextIs (s : ByteArray) : Prop := s = text0 ∨ s = text1 ∨ s = text2 ∨ s = text3 ∨ s = text4
theorem sTextAny (s : ByteArray) (h : TextIs s) {w0 w : World} {f : List Nat} {L : List Asn} (M : Mem w0 f w L) :
    Calls Try.prog 143 #[.string s] w fun e w' => ∃ (C : List Opx) (A : Option Addr) (c : Nat), e = .returned (.tuple #[.slice A C.length c, .bool true]) ∧ codeSafe C = true ∧ 1 ≤ C.length ∧ C.length ≤ 16 ∧ Mem w0 f w' (rowO A c C :: L) := by
  have key : ∀ {T : ByteArray} {ls : List ByteArray} {C : List Opx}, textOk T ls C = true → (codeSafe C && decide (1 ≤ C.length) && decide (C.length ≤ 16)) = true → Calls Try.prog 143 #[.string T] w fun e w' => ∃ (C : List Opx) (A : Option Addr) (c : Nat), e = .returned (.tuple #[.slice A C.length c, .bool true]) ∧ codeSafe C = true ∧ 1 ≤ C.length ∧ C.length ≤ 16 ∧ Mem w0 f w' (rowO A c C :: L) := by
    intro T ls C h1 h2
    simp only [Bool.and_eq_true, decide_eq_true_eq] at h2
    exact (sText T ls C h1 M).mono fun e w' ⟨A, c, he, M⟩ => ⟨C, A, c, he, h2.1.1, h2.1.2, h2.2, M⟩
  rcases h with rfl | rfl | rfl | rfl | rfl
  · exact key ok0 safe0
  · exact key ok1 safe1
  · exact key ok2 safe2
  · exact key ok3 safe3
  · exact key ok4 safe4
theorem sTexts {w0 w : World} {f : List Nat} {L : List Asn} (M : Mem w0 f w L) :
    Calls Try.prog 145 #[] w fun e w' => ∃ (g : Nat), e = .returned (.slice (some ⟨g, 0, none⟩) 5 5) ∧ Mem w0 f w' (blk g tS [.string text0, .string text1, .string text2, .string text3, .string text4] :: L) := by
  (try clear F); have F := fx M
  go_enter Try.func145, Try.ntmps145
  go_wp2_with (first | (with_reducible refine alA M ?_; clear M; (try clear F); intro w1 M F))
  go_ret
  exact ⟨_, rfl, M.alloc _ _⟩
end Go.Proofs.Ytmidnaafljgbiaa
