/- Parts of the proof, in one text. -/
import Derived.Test.YtmidnaafljgbiaaB20
import Derived.Test.YtmidnaafljgbiaaB24
import Derived.Test.YtmidnaafljgbiaaB11
import Derived.Test.YtmidnaafljgbiaaB17
import Derived.Test.YtmidnaafljgbiaaB14
import Derived.Test.YtmidnaafljgbiaaB18
import Derived.Test.YtmidnaafljgbiaaB15
/- Steps that are safe are drawn. -/
namespace Go.Proofs.Ytmidnaafljgbiaa
open Go.RowKit
set_option maxRecDepth 100000

theorem text_at {i : Int} (h0 : 0 ≤ i) (h1 : i < 5) : ∃ s : ByteArray, ([.string text0, .string text1, .string text2, .string text3, .string text4] : List Value)[i.toNat]? = some (.string s) ∧ TextIs s := by
  have : i = 0 ∨ i = 1 ∨ i = 2 ∨ i = 3 ∨ i = 4 := by omega
  rcases this with rfl | rfl | rfl | rfl | rfl
  · exact ⟨text0, rfl, .inl rfl⟩
  · exact ⟨text1, rfl, .inr (.inl rfl)⟩
  · exact ⟨text2, rfl, .inr (.inr (.inl rfl))⟩
  · exact ⟨text3, rfl, .inr (.inr (.inr (.inl rfl)))⟩
  · exact ⟨text4, rfl, .inr (.inr (.inr (.inr rfl)))⟩
theorem sOf (R : Rd) (p : Nat) (hp : p ≤ 900000000) (g : Nat) {w0 w : World} {f : List Nat} {L L' : List Asn} (M : Mem w0 f w (blk g tS [.string text0, .string text1, .string text2, .string text3, .string text4] :: L)) (hd : Del (rdr R p) L L') :
    Calls Try.prog 144 #[.pointer (some ⟨R.g, 0, none⟩), .slice (some ⟨g, 0, none⟩) 5 5] w fun e w' => ∃ s, e = .returned (.string s) ∧ TextIs s ∧ Mem w0 f w' (rdr R (p + 1) :: L') := by
  replace M := M.pull (.there hd)
  clear hd
  have HP := Lib.hid (fun (m : Int) (hm : 1 ≤ m) (q : Nat) (hq : q ≤ 1000000000) W (L L' : List Asn) (M : Mem w0 f W L) (hd : Del (rdr R q) L L') => pick_of m hm R q hq M hd)
  (try clear F); have F := fxu M
  go_enter Try.func144, Try.ntmps144
  go_wp2_with (first
    | (go_at_call 74; (refine nmKu ?_; clear M; (try clear F); intro w1 M F); refine (HP.out _ (by omega) _ ?_ _ _ _ M dl).mono ?_; omega; clear M; rintro e w2 ⟨i, rfl, h0, h1, M⟩; obtain ⟨s, hz, hT⟩ := text_at h0 h1; have hc := ((M.cells (.there .here)) i.toNat).trans hz; clear hz; (try clear F); have F := fxu M))
  go_ret
  exact ⟨s, rfl, hT, M.sel (.cons .here (.drop .refl))⟩
def SafePost (R : Rd) (p : Nat) (w0 : World) (f : List Nat) (L : List Asn) (e : Ending) (w' : World) : Prop := ∃ (C : List Opx) (A : Option Addr) (c p' : Nat), e = .returned (.slice A C.length c) ∧ codeSafe C = true ∧ 1 ≤ C.length ∧ C.length ≤ 16 ∧ p ≤ p' ∧ p' ≤ p + 900 ∧ Mem w0 f w' (rowO A c C :: rdr R p' :: L)
set_option maxHeartbeats 8000000 in
theorem sSafeD (R : Rd) (p : Nat) (hp : p ≤ 600000000) {w0 w : World} {f : List Nat} {L L' : List Asn} (M : Mem w0 f w L) (hd : Del (rdr R p) L L') :
    Calls Try.prog 137 #[.pointer (some ⟨R.g, 0, none⟩)] w (SafePost R p w0 f L') := by
  replace M := M.pull hd
  clear hd
  have AL := add_lit0
  have HP := Lib.hid (fun (m : Int) (hm : 1 ≤ m) (q : Nat) (hq : q ≤ 1000000000) W (L L' : List Asn) (M : Mem w0 f W L) (hd : Del (rdr R q) L L') => pick_of m hm R q hq M hd)
  have HRd : Hid (∀ (q : Nat), q ≤ 700000000 → ∀ {U : World} {L1 L2 : List Asn}, Mem w0 f U L1 → Del (rdr R q) L1 L2 → Calls Try.prog 124 #[.pointer (some ⟨R.g, 0, none⟩)] U (CodePost R q w0 f L2)) := fun q hq U L1 L2 M hd => sRandomD R q hq M hd
  have HS : Hid (∀ {C : List Opx} {A : Option Addr} {c : Nat} {U : World} {L1 L2 : List Asn}, Mem w0 f U L1 → Del (rowO A c C) L1 L2 → Calls Try.prog 61 #[.slice A C.length c] U (fun e w' => e = .returned (.bool (codeSafe C)) ∧ Mem w0 f w' (rowO A c C :: L2))) := fun {C A c U L1 L2} M hd => sCodeSafe C A c (M.pull hd)
  have HO : Hid (∀ (q : Nat), q ≤ 800000000 → ∀ (pl : Int), (1 ≤ pl ∧ pl ≤ 1000) → ∀ {U : World} {L1 L2 : List Asn}, Mem w0 f U L1 → Del (rdr R q) L1 L2 → Calls Try.prog 140 #[.pointer (some ⟨R.g, 0, none⟩), .int .i64 pl] U (OpPost R q w0 f L2)) := fun q hq pl hpl U L1 L2 M hd => sOpD R q hq pl hpl M hd
  have HTx : Hid (∀ {U : World} {L1 : List Asn}, Mem w0 f U L1 → Calls Try.prog 145 #[] U fun e w' => ∃ (g : Nat), e = .returned (.slice (some ⟨g, 0, none⟩) 5 5) ∧ Mem w0 f w' (blk g tS [.string text0, .string text1, .string text2, .string text3, .string text4] :: L1)) := fun {U L1} M => sTexts M
  have HOf : Hid (∀ (q : Nat), q ≤ 900000000 → ∀ {g : Nat} {U : World} {L1 L2 : List Asn}, Mem w0 f U (blk g tS [.string text0, .string text1, .string text2, .string text3, .string text4] :: L1) → Del (rdr R q) L1 L2 → Calls Try.prog 144 #[.pointer (some ⟨R.g, 0, none⟩), .slice (some ⟨g, 0, none⟩) 5 5] U fun e w' => ∃ s, e = .returned (.string s) ∧ TextIs s ∧ Mem w0 f w' (rdr R (q + 1) :: L2)) := fun q hq g U L1 L2 M hd => sOf R q hq g M hd
  have HCR : Hid (∀ {s : ByteArray}, TextIs s → ∀ {U : World} {L1 : List Asn}, Mem w0 f U L1 → Calls Try.prog 143 #[.string s] U fun e w' => ∃ (C : List Opx) (A : Option Addr) (c : Nat), e = .returned (.tuple #[.slice A C.length c, .bool true]) ∧ codeSafe C = true ∧ 1 ≤ C.length ∧ C.length ≤ 16 ∧ Mem w0 f w' (rowO A c C :: L1)) := fun {s} h {U L1} M => sTextAny s h M
  have HR : Hid (∀ {U : World} {L1 L2 : List Asn} {cA : Option Addr} {cC : Nat} {C : List Opx}, Mem w0 f U L1 → Del (rowO cA cC C) L1 L2 → ReadsL encO 6 U U.heap.size cA C.length C ∧ (cA = none → cC = 0)) := fun M hd => ⟨(row_reads M hd).1, (row_reads M hd).2.2⟩
  have HF : Hid (∀ (U : World) (C : List Opx) (A : Option Addr) (c q : Nat), codeSafe C = true → 1 ≤ C.length → C.length ≤ 16 → p ≤ q → q ≤ p + 900 → Mem w0 f U (rowO A c C :: rdr R q :: L') → SafePost R p w0 f L' (.returned (.slice A C.length c)) U) := fun U C A c q h1 h2 h3 h4 h5 M => ⟨C, A, c, q, rfl, h1, h2, h3, h4, h5, M⟩
  have HNg : Hid (∀ {C : List Opx} {b : Bool}, codeSafe C = b → ∀ {A : Option Addr} {c : Nat} {U : World} {L1 L2 : List Asn}, Mem w0 f U L1 → Del (rowO A c C) L1 L2 → Calls Try.prog 61 #[.slice A C.length c] U (fun e w' => e = .returned (.bool b) ∧ Mem w0 f w' (rowO A c C :: L2))) := fun {C b} h {A c U L1 L2} M hd => by rw [← h]; exact HS.out M hd
  have HNn : Hid (∀ {C : List Opx} {b : Bool} {n : Nat}, codeSafe C = b → C.length = n → ∀ {A : Option Addr} {c : Nat} {U : World} {L1 L2 : List Asn}, Mem w0 f U L1 → Del (row encO 6 tO A c C) L1 L2 → Calls Try.prog 61 #[.slice A n c] U (fun e w' => e = .returned (.bool b) ∧ Mem w0 f w' (rowO A c C :: L2))) := fun {C b n} h hn {A c U L1 L2} M hd => by rw [← h, ← hn]; exact HS.out M hd
  (try clear F); have F := fxu M
  go_enter Try.func137, Try.ntmps137
  go_wp2
  have MB := Lib.hid M
  clear M F
  go_loopg [3] 3 (fun gg i wr => ∃ (j q : Nat), j ≤ 3 ∧ 3 - j ≤ gg ∧ i = .int .i64 j ∧ p ≤ q ∧ q ≤ p + 200 * j ∧ Hid (Mem w0 f wr (rdr R q :: L')))
  case atStart => exact ⟨0, p, by omega, by omega, rfl, by omega, by omega, MB⟩
  case round =>
    clear MB
    obtain ⟨j, q, hj, hg, rfl, hq1, hq2, M⟩ := hrel
    replace M := M.out
    have wj : IntKind.i64.wrap ((j : Int) + 1) = (j : Int) + 1 := by rw [IntKind.wrap_i64]; omega
    by_cases hlt : j < 3
    · have j1 : (j : Int) < 3 := by omega
      (try clear F); have F := fxu M
      go_upto_region 5 with (first | (go_at_call 124; (refine nmKu ?_; clear M; (try clear F); intro w1 M F); refine (HRd.out _ ?_ M dl).mono ?_; omega; clear M; rintro e w2 ⟨C, A, c, q', rfl, h1, h2, h3, h4, M⟩; (try clear F); have F := fxu M))
      cases hs : codeSafe C with
      | true =>
        replace hs := Lib.hid hs
        go_wp2_with (first | (go_at_call 61; (refine nmKu ?_; clear M; (try clear F); intro w1 M F); refine (HNg.out hs.out M dl).mono ?_; clear M; rintro e w2 ⟨rfl, M⟩; (try clear F); have F := fxu M))
        go_ret
        exact HF.out _ _ _ _ _ hs.out h1 h2 (by omega) (by omega) M
      | false =>
        replace hs := Lib.hid hs
        go_wp2_with (first | (go_at_call 61; (refine nmKu ?_; clear M; (try clear F); intro w1 M F); refine (HNg.out hs.out M dl).mono ?_; clear M; rintro e w2 ⟨rfl, M⟩; (try clear F); have F := fxu M))
        go_roundg (3 - (j + 1))
        case measure => omega
        case rel => exact ⟨j + 1, q', by omega, Nat.le_refl _, by go_num, by omega, by omega, M.drop⟩
    · have j9 : ¬ ((j : Int) < 3) := by omega
      (try clear F); have F := fxu M
      go_upto_region 8 with (first
        | (go_at_call 145; (refine nmKu ?_; clear M; (try clear F); intro w1 M F); refine (HTx.out M).mono ?_; clear M; rintro e w2 ⟨g, rfl, M⟩; (try clear F); have F := fxu M)
        | (go_at_call 144; (refine nmKu ?_; clear M; (try clear F); intro w1 M F); refine (HOf.out _ ?_ M dl).mono ?_; omega; clear M; rintro e w2 ⟨s, rfl, hT, M⟩; (try clear F); have F := fxu M)
        | (go_at_call 143; (refine nmKu ?_; clear M; (try clear F); intro w1 M F); refine (HCR.out hT M).mono ?_; clear M; rintro e w2 ⟨C, A, c, rfl, hs, h1, h2, M⟩; (try clear F); have F := fxu M))
      have hqq : q + 1 ≤ p + 601 := by omega
      have hqp : p ≤ q + 1 := by omega
      have MB := Lib.hid M
      have hs := Lib.hid hs
      clear M F hT j9 hlt hg hj hq1 hq2 wj
      go_wp2
      go_loopg [5, 7] 4 (fun gg v i wr => ∃ (j q : Nat) (C : List Opx) (A : Option Addr) (c : Nat), j ≤ 4 ∧ 4 - j ≤ gg ∧ v = .slice A C.length c ∧ i = .int .i64 j ∧ codeSafe C = true ∧ 1 ≤ C.length ∧ C.length ≤ 16 ∧ p ≤ q ∧ q ≤ p + 601 + 14 * j ∧ Hid (Mem w0 f wr (rowO A c C :: rdr R q :: L')))
      case atStart => exact ⟨0, _, C, A, c, by omega, by omega, rfl, rfl, hs.out, h1, h2, hqp, hqq, MB⟩
      case round =>
        clear MB hs h1 h2 hqq hqp
        obtain ⟨j, q, C, A, c, hj, hg, rfl, rfl, hs, h1, h2, hq1, hq2, M⟩ := hrel
        replace M := M.out
        replace hs := Lib.hid hs
        have wj : IntKind.i64.wrap ((j : Int) + 1) = (j : Int) + 1 := by rw [IntKind.wrap_i64]; omega
        by_cases hlt : j < 4
        · have j1 : (j : Int) < 4 := by omega
          (try clear F); have F := fxu M
          go_upto_region 13 with (first
            | ((with_reducible refine alAu M ?_; clear M; (try clear F); intro w1 M F); ((with_reducible apply ev_copy0 (enc := encO) (ys := C) (hk := encO_length) (hone := oneO) (h0 := by decide) (hinfo := infOx) (ht := Try.underlying42) (M := M)); rfl; rfl; (exact dl); exact (HR.out M dl).1; exact (HR.out M dl).2; omega; (exact Nat.le_of_ble_eq_true rfl); clear M; intro A1 c1 w1 M; obtain ⟨g1, rfl⟩ := row_form M .here (by omega); (try clear F); have F := fxu M))
            | (go_at_call 74; (refine nmKu ?_; clear M; (try clear F); intro w1 M F); refine (HP.out _ (by omega) _ ?_ _ _ _ M dl).mono ?_; omega; clear M; rintro e w2 ⟨i, rfl, i0, i1, M⟩; obtain ⟨n1, rfl⟩ : ∃ n1 : Nat, i = n1 := ⟨i.toNat, by omega⟩; (try clear F); have F := fxu M)
            | (go_at_call 140; (refine nmKu ?_; clear M; (try clear F); intro w1 M F); refine (HO.out _ ?_ _ ?_ M dl).mono ?_; omega; omega; clear M; rintro e w2 ⟨⟨ok, or_, os, oto, ⟨ovk, ovn⟩⟩, q', rfl, hq3, hq4, M⟩; (try simp only [opArr]); (try clear F); have F := fxu M)
            | ((with_reducible apply ev_put_row (enc := encO) (x' := (Opx.mk ok or_ os oto (Vl.mk ovk ovn))) (k := n1) (hk := encO_length) (hone := oneO) (M := M)); rfl; rfl; ((conv => lhs; whnf) <;> rfl); rfl; exact siO; (exact dl); rfl; omega; clear M; intro w1 M; (try clear F); have F := fxu M))
          have hXl : (C.set n1 (Opx.mk ok or_ os oto (Vl.mk ovk ovn))).length = C.length := List.length_set
          generalize C.set n1 (Opx.mk ok or_ os oto (Vl.mk ovk ovn)) = X at M hXl
          replace hXl := Lib.hid hXl
          (try clear F); have F := fxu M
          cases hx : codeSafe X with
          | false =>
            replace hx := Lib.hid hx
            go_wp2_with (first
              | (go_at_call 61; (refine nmKu ?_; clear M; (try clear F); intro w1 M F); refine (HNn.out hx.out hXl.out M dl).mono ?_; clear M; rintro e w2 ⟨rfl, M⟩; (try clear F); have F := fxu M))
            go_roundg (4 - (j + 1))
            case measure => omega
            case rel => exact ⟨j + 1, q', C, A, c, by omega, Nat.le_refl _, rfl, by go_num, hs.out, h1, h2, by omega, by omega, M.sel (.cons (.there (.there .here)) (.cons (.there .here) (.drop .refl)))⟩
          | true =>
            replace hx := Lib.hid hx
            go_upto_if 48 with (first
              | (go_at_call 61; (refine nmKu ?_; clear M; (try clear F); intro w1 M F); refine (HNn.out hx.out hXl.out M dl).mono ?_; clear M; rintro e w2 ⟨rfl, M⟩; (try clear F); have F := fxu M)
              | (go_at_call 74; (refine nmKu ?_; clear M; (try clear F); intro w1 M F); refine (HP.out _ (by omega) _ ?_ _ _ _ M dl).mono ?_; omega; clear M; rintro e w2 ⟨i, rfl, i2, i3, M⟩; (try clear F); have F := fxu M))
            cases hi : (i == 0) with
            | true =>
              go_wp2
              go_roundg (4 - (j + 1))
              case measure => omega
              case rel => exact ⟨j + 1, q' + 1, X, _, _, by omega, Nat.le_refl _, by rw [hXl.out], by go_num, hx.out, by rw [hXl.out]; exact h1, by rw [hXl.out]; exact h2, by omega, by omega, M.sel (.cons (.there .here) (.cons .here (.drop .refl)))⟩
            | false =>
              go_wp2
              go_roundg (4 - (j + 1))
              case measure => omega
              case rel => exact ⟨j + 1, q' + 1, C, A, c, by omega, Nat.le_refl _, rfl, by go_num, hs.out, h1, h2, by omega, by omega, M.sel (.cons (.there (.there .here)) (.cons .here (.drop .refl)))⟩
        · have j9 : ¬ ((j : Int) < 4) := by omega
          go_wp2
          go_ret
          exact HF.out _ _ _ _ _ hs.out h1 h2 hq1 (by omega) M
end Go.Proofs.Ytmidnaafljgbiaa
/- Numbers without one, by the reference. -/
namespace Go.Proofs.Ytmidnaafljgbiaa
open Go.RowKit
set_option maxRecDepth 100000

theorem less_succ {l : List Int} {k : Nat} (hk : k < l.length) (n : Int) : less (l.take (k + 1)) n = less (l.take k) n ++ (if l[k] == n then [] else [l[k]]) := by
  unfold less
  rw [takeS l hk, List.filter_append]
  congr 1
  by_cases h : l[k] = n
  · simp [h]
  · simp [h]
theorem less_le (l : List Int) (n : Int) : (less l n).length ≤ l.length := List.length_filter_le _ _
set_option maxHeartbeats 2000000 in
theorem sLess (l : List Int) (n : Int) (A : Option Addr) (c B : Nat) (w : World) (h : ReadsI w B A l.length l) (hB : B ≤ w.heap.size) (hs : l.length ≤ 1000000) :
    Calls Try.prog 154 #[.slice A l.length c, .int .i64 n] w fun e w' => ∃ (A' : Option Addr) (c' : Nat), e = .returned (.slice A' (less l n).length c') ∧ Mem w [] w' [rowI A' c' (less l n)] := by
  have HR := Lib.hid (fun V (hb : Below w.heap.size w V) => h.below' hb hB)
  have M := Mem.nil w
  have HF : Hid (∀ V A' c', Mem w [] V [rowI A' c' (less l n)] → (fun (e : Ending) w' => ∃ (A' : Option Addr) (c' : Nat), e = .returned (.slice A' (less l n).length c') ∧ Mem w [] w' [rowI A' c' (less l n)]) (.returned (.slice A' (less l n).length c')) V) := fun V A' c' M => ⟨A', c', rfl, M⟩
  clear h hB
  go_enter Try.func154, Try.ntmps154
  go_wp2_with (first | (with_reducible refine alAw M ?_; clear M; (try clear F); intro w1 M F))
  (refine nmw (G := fun W => Code.wp _ _ _ _ W) ?_; clear M; (try clear F); intro w1 M F)
  have M2 : Mem w [] w1 [rowI (some ⟨w.heap.size, 0, none⟩) 0 []] := Mem.row_of encI_length (xs := []) M rfl (by simp)
  clear M F
  go_loopg [5, 6] l.length (fun gg v i wr => ∃ (k : Nat) (A' : Option Addr) (c' : Nat), k ≤ l.length ∧ l.length - k ≤ gg ∧ v = .slice A' (less (l.take k) n).length c' ∧ i = .int .i64 k ∧ Hid (Mem w [] wr [row encI 1 tI A' c' (less (l.take k) n)]))
  case atStart => exact ⟨0, _, _, by omega, by omega, rfl, rfl, M2⟩
  case round =>
    clear M2
    obtain ⟨k, A', c', hk, hg, rfl, rfl, M⟩ := hrel
    replace M := M.out
    (try clear F); have F := fxw M
    by_cases hlt : k < l.length
    · obtain ⟨ad, rfl, _, hc⟩ := (HR.out _ M.toBelow).int hlt
      have e1 := less_succ hlt n
      have al : (less (l.take k) n).length ≤ k := by
        have h5 := less_le (l.take k) n
        rw [List.length_take] at h5
        omega
      generalize l[k] = x at hc e1
      generalize less (l.take k) n = q at M e1 al
      have i1 : (0 : Int) ≤ k := by omega
      have i2 : (k : Int) < l.length := by omega
      have wi : IntKind.i64.wrap ((k : Int) + 1) = (k : Int) + 1 := by rw [IntKind.wrap_i64]; omega
      by_cases hx : x = n
      · subst hx
        have e2 : less (l.take (k + 1)) x = q := by rw [e1]; simp
        have e2 := Lib.hid e2
        clear e1
        go_wp2
        go_roundg (l.length - (k + 1))
        case measure => omega
        case rel => exact ⟨k + 1, A', c', by omega, by omega, by rw [e2.out], by go_num, by rw [e2.out]; exact M⟩
      · have hx2 : (x != n) = true := by simpa using hx
        have e2 : less (l.take (k + 1)) n = q ++ [x] := by rw [e1, if_neg (by simpa using hx)]
        have e2 := Lib.hid e2
        clear e1 hx
        go_wp2_with (first | ((with_reducible refine alAw M ?_; clear M; (try clear F); intro w1 M F); ((with_reducible apply ev_app1 (enc := encI) (v := x) (hk := encI_length) (hone := oneIx) (h0 := by decide) (hinfo := infIx) (ht := Try.underlying23) (M := M)); rfl; rfl; (exact dl); (exact dl); rfl; rfl; (first | exact Nat.le_of_ble_eq_true rfl | omega); (exact Nat.le_of_ble_eq_true rfl); clear M; intro A1 c1 w1 M; replace M := Mem.perm M (.swap _ _ _) |> Mem.drop; (try clear F); have F := fxw M)))
        go_roundg (l.length - (k + 1))
        case measure => omega
        case rel => exact ⟨k + 1, A1, c1, by omega, by omega, by rw [e2.out, List.length_append]; rfl, by go_num, by rw [e2.out]; exact M⟩
    · have : k = l.length := by omega
      subst this
      rw [List.take_length] at M ⊢
      have M := Lib.hid M
      go_wp2
      go_ret
      exact HF.out _ _ _ M.out
end Go.Proofs.Ytmidnaafljgbiaa
/- How great a world is that was given to, and the row of an ok world: plain. -/
namespace Go.Proofs.Ytmidnaafljgbiaa

theorem wok_queue {w : Wd} (h : worldOk w = true) : w.queue.length ≤ 6 := by
  have h1 := worldOk_iff.1 h
  have h2 := h1.len
  refine len6 (own := 0) (idsOk_iff.2 ⟨fun x hx => ?_, h1.qnd⟩)
  have := h1.qin x hx
  omega
theorem sizesR_set {l : List Rn} {k : Nat} (hk : k < l.length) (r : Rn) : sizesR (l.set k r) = sizesR l - sizeR l[k] + sizeR r := by
  induction l generalizing k with
  | nil => simp at hk
  | cons x l ih =>
    cases k with
    | zero => simp only [List.set_cons_zero, sizesR, List.getElem_cons_zero]; omega
    | succ k => simp only [List.set_cons_succ, sizesR, List.getElem_cons_succ, ih (by simpa using hk)]; omega
theorem give_size (w : Wd) (id : Int) (v : Vl) : (give w id v).queue.length ≤ w.queue.length + 1 ∧ sizesR (give w id v).runs ≤ sizesR w.runs + 1 := by
  unfold give
  split
  · rename_i h
    simp only [Bool.and_eq_true, decide_eq_true_eq] at h
    have h2 := aliveIn_iff.1 h.1
    refine ⟨?_, ?_⟩
    · show (if (getR w.runs id).state == 2 && fits v (opAt w.code (getR w.runs id).at_).s then w.queue ++ [id] else w.queue).length ≤ _
      split
      · simp
      · omega
    · have hk : (id - 1).toNat < w.runs.length := by omega
      have e : getR w.runs id = w.runs[(id - 1).toNat] := mem_getR h2.1.1 h2.1.2
      simp only [updR, e]
      rw [sizesR_set hk]
      generalize w.runs[(id - 1).toNat] = r
      have e3 : ∀ s : Int, sizeR { r with mail := r.mail ++ [v], state := s } = sizeR r + 1 := fun s => by unfold sizeR; simp only [List.length_append, List.length_singleton]; omega
      rw [e3]
      omega
  · exact ⟨Nat.le_succ _, by show sizesR w.runs ≤ _; omega⟩
end Go.Proofs.Ytmidnaafljgbiaa
/- The end of one run, plain: what stays within its bounds while it goes on, and how the lists turn. -/
namespace Go.Proofs.Ytmidnaafljgbiaa

/-- A world in the midst of a run's end: places and lists stay within bounds. -/
structure MidW (n q : Nat) (w : Wd) : Prop where
  len : w.runs.length = n
  at_ : ∀ x : Int, 1 ≤ x → x ≤ n → 0 ≤ (getR w.runs x).at_ ∧ (getR w.runs x).at_ < w.code.length
  lst : ∀ x : Int, 1 ≤ x → x ≤ n → (getR w.runs x).links.length ≤ 1000 ∧ (getR w.runs x).watched.length ≤ 1000
  queue : w.queue.length ≤ q
theorem MidW.more {n q q' : Nat} {w : Wd} (h : MidW n q w) (hq : q ≤ q') : MidW n q' w := ⟨h.len, h.at_, h.lst, Nat.le_trans h.queue hq⟩
theorem MidW.of {w : Wd} (h : WOk w) : MidW w.runs.length 6 w := by
  refine ⟨rfl, fun x x1 x2 => ?_, fun x x1 x2 => ?_, wok_queue (worldOk_iff.2 h)⟩
  · have hr := h.run x1 x2
    exact ⟨(runOk_parts hr.ok).2.1.1, hr.at_⟩
  · have hr := runOk_parts (h.run x1 x2).ok
    have a := len6 hr.2.2.2.2.2.2.2.2.2.2.1
    have b := len6 hr.2.2.2.2.2.2.2.2.2.2.2.1
    omega
theorem MidW.give {n q : Nat} {w : Wd} (h : MidW n q w) (id : Int) (v : Vl) : MidW n (q + 1) (give w id v) := by
  refine ⟨by rw [give_length]; exact h.len, fun x x1 x2 => ?_, fun x x1 x2 => ?_, by have := (give_size w id v).1; have := h.queue; omega⟩
  · rw [give_code, (give_fields w id v x1).2.1]
    exact h.at_ x x1 x2
  · rw [(give_fields w id v x1).2.2.2.2.1, (give_fields w id v x1).2.2.2.2.2.1]
    exact h.lst x x1 x2
theorem MidW.unlink {n q : Nat} {w : Wd} (h : MidW n q w) {k : Int} (k1 : 1 ≤ k) (k2 : k ≤ n) (id : Int) : MidW n q (unlink w k id) := by
  have k3 : k ≤ w.runs.length := by rw [h.len]; exact k2
  refine ⟨by rw [unlink_length]; exact h.len, fun x x1 x2 => ?_, fun x x1 x2 => ?_, h.queue⟩
  · rw [unlink_run w k1 k3 x1]
    have := h.at_ x x1 x2
    split <;> exact this
  · rw [unlink_run w k1 k3 x1]
    have := h.lst x x1 x2
    split
    · exact ⟨Nat.le_trans (less_le _ id) this.1, this.2⟩
    · exact this
theorem MidW.first {n q : Nat} {w : Wd} (h : MidW n q w) {id : Int} (i1 : 1 ≤ id) (i2 : id ≤ n) (why : Vl) : MidW n q (endFirst w id why) := by
  have i3 : id ≤ w.runs.length := by rw [h.len]; exact i2
  refine ⟨by rw [endFirst_length]; exact h.len, fun x x1 x2 => ?_, fun x x1 x2 => ?_, ?_⟩
  · rw [endFirst_run i1 i3 why x1 (by rw [h.len]; exact x2)]
    have := h.at_ x x1 x2
    split
    · rename_i e
      subst e
      exact this
    · exact this
  · rw [endFirst_run i1 i3 why x1 (by rw [h.len]; exact x2)]
    have := h.lst x x1 x2
    split
    · exact ⟨Nat.zero_le _, Nat.zero_le _⟩
    · exact ⟨this.1, Nat.le_trans (less_le _ id) this.2⟩
  · have := less_le w.queue id
    have := h.queue
    show (less w.queue id).length ≤ q
    omega
theorem MidW.step {n q : Nat} {s : Wd × List Int} (h : MidW n q s.1) (id : Int) (nm : Bool) {k : Int} (k1 : 1 ≤ k) (k2 : k ≤ n) : MidW n (q + 1) (linkStep id nm s k).1 := by
  unfold linkStep
  have hu := h.unlink k1 k2 id
  split
  · exact hu.more (by omega)
  · split
    · exact hu.give k _
    · exact hu.more (by omega)
theorem step_next (id : Int) (nm : Bool) (s : Wd × List Int) (k : Int) : (linkStep id nm s k).2.length ≤ s.2.length + 1 := by
  unfold linkStep
  split
  · simp
  · split <;> simp

/-! The watched of the first i runs are cleared. -/
def wat (id : Int) (i : Nat) (l : List Rn) : List Rn := (l.take i).map (fun x => { x with watched := less x.watched id }) ++ l.drop i
theorem wat_zero (id : Int) (l : List Rn) : wat id 0 l = l := by simp [wat]
theorem wat_full (id : Int) (l : List Rn) : wat id l.length l = l.map (fun x => { x with watched := less x.watched id }) := by simp [wat]
theorem wat_length (id : Int) (i : Nat) (l : List Rn) : (wat id i l).length = l.length := by simp [wat]; omega
theorem wat_split {id : Int} {i : Nat} {l : List Rn} {pre post : List (Rn × RA)} {p : Rn × RA} (h : (pre ++ p :: post).map (·.1) = wat id i l) (hp : pre.length = i) (hi : i < l.length) :
    p.1 = l[i] ∧ ∀ a : RA, (pre ++ (({ p.1 with watched := less p.1.watched id } : Rn), a) :: post).map (·.1) = wat id (i + 1) l := by
  have hd : l.drop i = l[i] :: l.drop (i + 1) := (List.drop_eq_getElem_cons hi)
  unfold wat at *
  rw [hd, List.map_append, List.map_cons] at h
  obtain ⟨h1, h2⟩ := List.append_inj h (by simp; omega)
  injection h2 with h3 h4
  refine ⟨h3, fun a => ?_⟩
  rw [List.map_append, List.map_cons, h1, h4, takeS l hi, List.map_append, h3]
  simp
/-! A run in the midst of a list turns. -/
theorem mid_upd {pre post : List (Rn × RA)} {p : Rn × RA} {k : Nat} (hp : pre.length = k) (f : Rn → Rn) (a : RA) : (pre ++ (f p.1, a) :: post).map (·.1) = updR ((pre ++ p :: post).map (·.1)) ((k : Int) + 1) f := by
  unfold updR getR
  have e : ((k : Int) + 1 - 1).toNat = k := by omega
  rw [e, List.map_append, List.map_append, List.map_cons, List.map_cons]
  have hl : (pre.map (·.1)).length = k := by simpa using hp
  rw [List.getD_eq_getElem?_getD, List.getElem?_append_right (by omega), List.set_append_right _ _ (by omega), hl]
  simp
theorem mid_run {pre post : List (Rn × RA)} {p : Rn × RA} {k : Nat} (hp : pre.length = k) : getR ((pre ++ p :: post).map (·.1)) ((k : Int) + 1) = p.1 := by
  unfold getR
  have e : ((k : Int) + 1 - 1).toNat = k := by omega
  have hl : (pre.map (·.1)).length = k := by simpa using hp
  rw [e, List.map_append, List.map_cons, List.getD_eq_getElem?_getD, List.getElem?_append_right (by omega), hl]
  simp
/-! A run's end: its own entry, ahead of the others'. -/
def endSelf (w : Wd) (id : Int) (why : Vl) : Wd := { w with lost := wr (w.lost + (getR w.runs id).mail.length), runs := updR w.runs id (endOne why), queue := less w.queue id }
theorem MidW.self {n q : Nat} {w : Wd} (h : MidW n q w) {id : Int} (i1 : 1 ≤ id) (i2 : id ≤ n) (why : Vl) : MidW n q (endSelf w id why) := by
  have i3 : id ≤ w.runs.length := by rw [h.len]; exact i2
  refine ⟨by show (updR _ _ _).length = n; rw [updR_length]; exact h.len, fun x x1 x2 => ?_, fun x x1 x2 => ?_, ?_⟩
  · show 0 ≤ (getR (updR w.runs id (endOne why)) x).at_ ∧ (getR (updR w.runs id (endOne why)) x).at_ < _
    rw [getR_updR i1 i3 x1]
    have := h.at_ x x1 x2
    split
    · rename_i e
      subst e
      exact this
    · exact this
  · show (getR (updR w.runs id (endOne why)) x).links.length ≤ 1000 ∧ (getR (updR w.runs id (endOne why)) x).watched.length ≤ 1000
    rw [getR_updR i1 i3 x1]
    have := h.lst x x1 x2
    split
    · exact ⟨Nat.zero_le _, Nat.zero_le _⟩
    · exact this
  · exact Nat.le_trans (less_le w.queue id) h.queue
theorem endFirst_self (w : Wd) (id : Int) (why : Vl) : endFirst w id why = { endSelf w id why with runs := wat id (endSelf w id why).runs.length (endSelf w id why).runs } := by
  rw [wat_full]
  rfl
theorem MidW.wlen {n q : Nat} {w : Wd} (h : MidW n q w) {k : Nat} (hk : k < w.runs.length) : (w.runs[k]).watched.length ≤ 1000 := by
  have h1 := (h.lst ((k : Int) + 1) (by omega) (by rw [← h.len]; omega)).2
  have e : getR w.runs ((k : Int) + 1) = w.runs[k] := by
    rw [mem_getR (by omega) (by omega)]
    congr 1; omega
  rwa [e] at h1
end Go.Proofs.Ytmidnaafljgbiaa
