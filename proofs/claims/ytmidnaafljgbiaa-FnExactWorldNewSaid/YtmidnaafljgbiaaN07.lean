/- Parts of the proof, in one text. -/
import Derived.Deep.LoopGhost
import Derived.Test.YtmidnaafljgbiaaN06
import Derived.Test.YtmidnaafljgbiaaN05
/- On from a step. -/
namespace Go.Proofs.Ytmidnaafljgbiaa
open Go.RowKit
set_option maxRecDepth 100000

theorem sWithW (f s : Int) (hf : 0 ≤ f) (hf' : f ≤ 15) (hs : inB s 0 3 = true) (w : World) : Calls Try.prog 112 #[.int .i64 f, .int .i64 s] w fun e w' => e = .returned (.int .i64 (withBit f s)) ∧ Below w.heap.size w w' := by
  have hb := bitI_pairs hs
  have HB := Lib.hid (fun W => sBit s (bitI s) hb W)
  have HH := Lib.hid (fun W => sHas f s hf hf' hs W)
  have hsum : IntKind.i64.wrap (f + bitI s) = f + bitI s := by rw [IntKind.wrap_i64]; omega
  unfold withBit
  generalize bitI s = b at HB hsum ⊢
  clear hb hs
  cases hq : hasBit f s with
  | true =>
    rw [hq] at HH
    simp only [if_true]
    go_enter Try.func112, Try.ntmps112
    go_wp2_with (go_at_call 82; refine (HH.out _).mono ?_; rintro e w1 ⟨rfl, hb1⟩)
    go_ret
    exact ⟨rfl, hb1⟩
  | false =>
    rw [hq] at HH
    simp only [if_false, Bool.false_eq_true]
    go_enter Try.func112, Try.ntmps112
    go_wp2_with (first | (go_at_call 82; refine (HH.out _).mono ?_; rintro e w1 ⟨rfl, hb1⟩) | (go_at_call 107; refine (HB.out _).mono ?_; rintro e w2 ⟨rfl, hb2⟩; have B2 := below_step hb1 hb2))
    go_ret
    exact ⟨ret_int (by simp), B2⟩

theorem elemO {w0 w : World} {f : List Nat} {L L' : List Asn} {g k c : Nat} {xs : List Opx} (M : Mem w0 f w L) (hd : Del (rowO (some ⟨g, 0, none⟩) c xs) L L') (hlt : k < xs.length) : ∀ j, j < 6 → w.cell? ⟨g, k * 6 + j, none⟩ = (encO xs[k])[j]? := (row_elem encO_length M hd hlt).2.1
theorem elemO0 {w0 w : World} {f : List Nat} {L L' : List Asn} {g k c : Nat} {xs : List Opx} (M : Mem w0 f w L) (hd : Del (rowO (some ⟨g, 0, none⟩) c xs) L L') (hlt : k < xs.length) : w.cell? ⟨g, k * 6, none⟩ = some (.int .i64 xs[k].k) ∧ w.cell? ⟨g, k * 6 + 1, none⟩ = some (.int .i64 xs[k].r) ∧ w.cell? ⟨g, k * 6 + 2, none⟩ = some (.int .i64 xs[k].s) ∧ w.cell? ⟨g, k * 6 + 3, none⟩ = some (.int .i64 xs[k].to) ∧ w.cell? ⟨g, k * 6 + 4, none⟩ = some (.int .i64 xs[k].v.k) ∧ w.cell? ⟨g, k * 6 + 5, none⟩ = some (.int .i64 xs[k].v.n) := by
  have h := elemO M hd hlt
  have h0 := h 0 (by decide)
  have h1 := h 1 (by decide)
  have h2 := h 2 (by decide)
  have h3 := h 3 (by decide)
  have h4 := h 4 (by decide)
  have h5 := h 5 (by decide)
  simp only [encO, Nat.add_zero, List.getElem?_cons_zero, List.getElem?_cons_succ] at h0 h1 h2 h3 h4 h5
  exact ⟨h0, h1, h2, h3, h4, h5⟩
theorem sMergeI {F F1 : List Int} {m1 : Bool} {A : Option Addr} {c n : Nat} {i b : Int} (hm : merge F i b = (F1, m1)) (hn : F.length = n) (h0 : 0 ≤ i) (h1 : i ≤ 1000) (hl : n ≤ 1000) (hF : Bits F) (hb : 0 ≤ b ∧ b ≤ 15) {w0 w : World} {f : List Nat} {L L' : List Asn} (M : Mem w0 f w L) (hd : Del (rowI A c F) L L') :
    Calls Try.prog 128 #[.slice A n c, .int .i64 i, .int .i64 b] w fun e w' => e = .returned (.bool m1) ∧ Mem w0 f w' (rowI A c F1 :: L') := by
  obtain ⟨k, rfl⟩ := Int.eq_ofNat_of_zero_le h0
  subst hn
  have := sMerge F A c k b (M.pull hd) hF hb.1 hb.2 hl (by omega)
  rw [hm] at this
  exact this
theorem step_eq {o : Opx} {f F1 F2 : List Int} {i b on : Int} {m1 m2 : Bool} (hb : getI f i = b) (ho : (if fillsR o.k then withBit b o.r else b) = on) (h9 : o.k ≠ 9) (h14 : o.k ≠ 14) (h1 : (if o.k = 5 then merge f o.to 1 else if o.k = 8 ∨ o.k = 10 then merge f o.to b else (f, false)) = (F1, m1)) (h2 : merge F1 (i + 1) on = (F2, m2)) : stepFrom o f i = (F2, m2 || m1) := by
  unfold stepFrom
  simp only [hb, ho, if_neg h9, if_neg h14, h1, h2]
set_option maxHeartbeats 4000000 in
theorem sFrom (C : List Opx) (cA : Option Addr) (cC : Nat) (F : List Int) (A : Option Addr) (c k : Nat) {w0 w : World} {f : List Nat} {L : List Asn} (M : Mem w0 f w (rowI A c F :: rowO cA cC C :: L)) (hF : Bits F) (hl : F.length = C.length) (h16 : C.length ≤ 16) (hk : k < C.length) (ho : opOk C[k] = true) (hb : 0 ≤ getI F k) :
    Calls Try.prog 115 #[.slice cA C.length cC, .slice A F.length c, .int .i64 (k : Int)] w fun e w' => e = .returned (.bool (stepFrom C[k] F k).2) ∧ Mem w0 f w' (rowI A c (stepFrom C[k] F k).1 :: rowO cA cC C :: L) := by
  have kr := (opOk_parts ho).2.2.2.2.1
  have kt := (opOk_parts ho).2.2.2.2.2.2
  have hkF : k < F.length := by omega
  have hx := hF _ (getI_mem (f := F) (i := k) (by omega) (by omega))
  have ex : F[k] = getI F k := by unfold getI; simp [List.getD_eq_getElem?_getD, List.getElem?_eq_getElem hkF]
  obtain ⟨g, rfl⟩ := row_form M .here (by omega)
  obtain ⟨go, rfl⟩ := row_form M (.there .here) (by omega)
  have RO := Lib.hid (fun W (L L' : List Asn) (M : Mem w0 f W L) (hd : Del (rowO (some ⟨go, 0, none⟩) cC C) L L') => elemO0 M hd hk)
  have RI := Lib.hid (fun W (L L' : List Asn) (M : Mem w0 f W L) (hd : Del (rowI (some ⟨g, 0, none⟩) c F) L L') => elemI M hd hkF)
  rw [ex] at RI
  clear ex
  have AL := add_lit0
  have E1 := RO.out _ _ _ M (.there .here)
  clear RO
  generalize hB : getI F k = B at RI hx hb
  generalize C[k] = o at E1 kr kt ho ⊢
  obtain ⟨kk, r, s, to, ⟨vk, vn⟩⟩ := o
  simp only [] at E1 kr kt ho ⊢
  obtain ⟨E1a, E1b, E1c, E1d, E1e, E1f⟩ := E1
  have bB : 0 ≤ B ∧ B ≤ 15 := ⟨hb, hx.2⟩
  have i1 : (0 : Int) ≤ k := by omega
  have i2 : (k : Int) < F.length := by omega
  have i3 : (k : Int) < C.length := by omega
  have i4 : IntKind.i64.wrap ((k : Int) + 1) = (k : Int) + 1 := by rw [IntKind.wrap_i64]; omega
  have HF := Lib.hid (fun W => sFills kk W)
  have HW := Lib.hid (fun W => sWithW B r bB.1 bB.2 (inB_iff.2 kr) W)
  have hon : 0 ≤ withBit B r ∧ withBit B r ≤ 15 := withBit_le bB (inB_iff.2 kr)
  by_cases h9 : kk = 9
  · subst h9
    obtain ⟨⟨F1, m1⟩, e1⟩ : ∃ p, merge F to B = p := ⟨_, rfl⟩
    have eS : stepFrom ⟨9, r, s, to, ⟨vk, vn⟩⟩ F k = (F1, m1) := by simp only [stepFrom, hB, e1, if_true]
    have HM1 := Lib.hid (fun W (L L' : List Asn) (M : Mem w0 f W L) (hd : Del (rowI (some ⟨g, 0, none⟩) c F) L L') => sMergeI e1 rfl kt.1 (by omega) (by omega) hF bB M hd)
    rw [eS]
    clear eS e1 hF hl h16 hk ho hb hB kr kt hkF hx bB hon HW
    go_enter Try.func115, Try.ntmps115
    go_wp2_with (first
      | (with_reducible refine alAw M ?_; clear M; (try clear F); intro w1 M F) | (((with_reducible apply ev_store (M := M)); rfl; rfl; ((conv => lhs; whnf) <;> rfl); rfl; (first | exact siI | exact siR | exact siV | exact siB | exact siSI | exact siSV | exact siW | exact siSR | exact siSO | exact siO); (exact one_all rfl); (exact dl); (exact Nat.le_of_ble_eq_true rfl); clear M; intro w1 M; simp only [SX] at M; (try clear F); have F := fxw M); have E2 := RI.out _ _ _ M dl) | ((with_reducible refine isSet (G := fun W => wpList _ _ _ _ _ W) ?_); (with_reducible refine nmw (G := fun W => wpList _ _ _ _ _ W) ?_; clear M; (try clear F); intro w1 M F))
      | (go_at_call 127; (refine nmKw ?_; clear M; (try clear F); intro w1 M F); refine (HF.out _).mono ?_; rintro e w2 ⟨rfl, rfl⟩)
      | (go_at_call 112; (refine nmKw ?_; clear M; (try clear F); intro w1 M F); refine (HW.out _).mono ?_; rintro e w2 ⟨rfl, hb⟩; replace M := M.below hb; clear hb; (try clear F); have F := fxw M)
      | (go_at_call 128; (refine nmKw ?_; clear M; (try clear F); intro w1 M F); with_reducible refine (HM1.out _ _ _ M dl).mono ?_; clear M; rintro e w2 ⟨rfl, M⟩; (try clear F); have F := fxw M)
      | (go_at_call 128; (refine nmKw ?_; clear M; (try clear F); intro w1 M F); with_reducible refine (HM2.out _ _ _ M dl).mono ?_; clear M; rintro e w2 ⟨rfl, M⟩; (try clear F); have F := fxw M))
    go_ret
    exact ⟨rfl, M.sel sl⟩
  by_cases h14 : kk = 14
  · subst h14
    have eS : stepFrom ⟨14, r, s, to, ⟨vk, vn⟩⟩ F k = (F, false) := by unfold stepFrom; simp
    rw [eS]
    clear eS hF hl h16 hk ho hb hB kr kt hkF hx bB hon HW
    go_enter Try.func115, Try.ntmps115
    go_wp2_with (first
      | (with_reducible refine alAw M ?_; clear M; (try clear F); intro w1 M F) | (((with_reducible apply ev_store (M := M)); rfl; rfl; ((conv => lhs; whnf) <;> rfl); rfl; (first | exact siI | exact siR | exact siV | exact siB | exact siSI | exact siSV | exact siW | exact siSR | exact siSO | exact siO); (exact one_all rfl); (exact dl); (exact Nat.le_of_ble_eq_true rfl); clear M; intro w1 M; simp only [SX] at M; (try clear F); have F := fxw M); have E2 := RI.out _ _ _ M dl) | ((with_reducible refine isSet (G := fun W => wpList _ _ _ _ _ W) ?_); (with_reducible refine nmw (G := fun W => wpList _ _ _ _ _ W) ?_; clear M; (try clear F); intro w1 M F))
      | (go_at_call 127; (refine nmKw ?_; clear M; (try clear F); intro w1 M F); refine (HF.out _).mono ?_; rintro e w2 ⟨rfl, rfl⟩)
      | (go_at_call 112; (refine nmKw ?_; clear M; (try clear F); intro w1 M F); refine (HW.out _).mono ?_; rintro e w2 ⟨rfl, hb⟩; replace M := M.below hb; clear hb; (try clear F); have F := fxw M)
      | (go_at_call 128; (refine nmKw ?_; clear M; (try clear F); intro w1 M F); with_reducible refine (HM1.out _ _ _ M dl).mono ?_; clear M; rintro e w2 ⟨rfl, M⟩; (try clear F); have F := fxw M)
      | (go_at_call 128; (refine nmKw ?_; clear M; (try clear F); intro w1 M F); with_reducible refine (HM2.out _ _ _ M dl).mono ?_; clear M; rintro e w2 ⟨rfl, M⟩; (try clear F); have F := fxw M))
    go_ret
    exact ⟨rfl, M.sel sl⟩
  obtain ⟨on, eon⟩ : ∃ on, (if fillsR kk then withBit B r else B) = on := ⟨_, rfl⟩
  have bon : 0 ≤ on ∧ on ≤ 15 := by rw [← eon]; split <;> assumption
  obtain ⟨⟨F1, m1⟩, e1⟩ : ∃ p, (if kk = 5 then merge F to 1 else if kk = 8 ∨ kk = 10 then merge F to B else (F, false)) = p := ⟨_, rfl⟩
  obtain ⟨⟨F2, m2⟩, e2⟩ : ∃ p, merge F1 ((k : Int) + 1) on = p := ⟨_, rfl⟩
  have f1 : F1.length = F.length ∧ Bits F1 := by
    by_cases h5 : kk = 5
    · rw [if_pos h5] at e1
      obtain ⟨a1, a2, _⟩ := merge_facts hF kt.1 (bits := 1) (by omega)
      rw [e1] at a1 a2
      exact ⟨a1, a2⟩
    rw [if_neg h5] at e1
    by_cases h8 : kk = 8 ∨ kk = 10
    · rw [if_pos h8] at e1
      obtain ⟨a1, a2, _⟩ := merge_facts hF kt.1 bB
      rw [e1] at a1 a2
      exact ⟨a1, a2⟩
    rw [if_neg h8] at e1
    cases e1
    exact ⟨rfl, hF⟩
  rw [step_eq (o := ⟨kk, r, s, to, ⟨vk, vn⟩⟩) hB eon h9 h14 e1 e2]
  have HM2 := Lib.hid (fun W (L L' : List Asn) (M : Mem w0 f W L) (hd : Del (rowI (some ⟨g, 0, none⟩) c F1) L L') => sMergeI e2 f1.1 (by omega) (by omega) (by omega) f1.2 bon M hd)
  have c9 : (kk == 9) = false := by simpa using h9
  have c14 : (kk == 14) = false := by simpa using h14
  by_cases h5 : kk = 5
  · subst h5
    rw [if_pos rfl] at e1
    have HM1 := Lib.hid (fun W (L L' : List Asn) (M : Mem w0 f W L) (hd : Del (rowI (some ⟨g, 0, none⟩) c F) L L') => sMergeI e1 rfl kt.1 (by omega) (by omega) hF (by omega) M hd)
    have eon' : withBit B r = on := by rw [← eon]; rfl
    rw [eon'] at HW
    rw [show fillsR 5 = true from rfl] at HF
    clear c9 c14 h9 h14 e1 e2 f1 eon eon' hF hl h16 hk ho hb hB kr kt hkF hx bB hon bon
    cases m1
    · cases m2
      · go_enter Try.func115, Try.ntmps115
        go_wp2_with (first
          | (with_reducible refine alAw M ?_; clear M; (try clear F); intro w1 M F) | (((with_reducible apply ev_store (M := M)); rfl; rfl; ((conv => lhs; whnf) <;> rfl); rfl; (first | exact siI | exact siR | exact siV | exact siB | exact siSI | exact siSV | exact siW | exact siSR | exact siSO | exact siO); (exact one_all rfl); (exact dl); (exact Nat.le_of_ble_eq_true rfl); clear M; intro w1 M; simp only [SX] at M; (try clear F); have F := fxw M); have E2 := RI.out _ _ _ M dl) | ((with_reducible refine isSet (G := fun W => wpList _ _ _ _ _ W) ?_); (with_reducible refine nmw (G := fun W => wpList _ _ _ _ _ W) ?_; clear M; (try clear F); intro w1 M F))
          | (go_at_call 127; (refine nmKw ?_; clear M; (try clear F); intro w1 M F); refine (HF.out _).mono ?_; rintro e w2 ⟨rfl, rfl⟩)
          | (go_at_call 112; (refine nmKw ?_; clear M; (try clear F); intro w1 M F); refine (HW.out _).mono ?_; rintro e w2 ⟨rfl, hb⟩; replace M := M.below hb; clear hb; (try clear F); have F := fxw M)
          | (go_at_call 128; (refine nmKw ?_; clear M; (try clear F); intro w1 M F); with_reducible refine (HM1.out _ _ _ M dl).mono ?_; clear M; rintro e w2 ⟨rfl, M⟩; (try clear F); have F := fxw M)
          | (go_at_call 128; (refine nmKw ?_; clear M; (try clear F); intro w1 M F); with_reducible refine (HM2.out _ _ _ M dl).mono ?_; clear M; rintro e w2 ⟨rfl, M⟩; (try clear F); have F := fxw M))
        go_ret
        exact ⟨rfl, M.sel sl⟩
      · go_enter Try.func115, Try.ntmps115
        go_wp2_with (first
          | (with_reducible refine alAw M ?_; clear M; (try clear F); intro w1 M F) | (((with_reducible apply ev_store (M := M)); rfl; rfl; ((conv => lhs; whnf) <;> rfl); rfl; (first | exact siI | exact siR | exact siV | exact siB | exact siSI | exact siSV | exact siW | exact siSR | exact siSO | exact siO); (exact one_all rfl); (exact dl); (exact Nat.le_of_ble_eq_true rfl); clear M; intro w1 M; simp only [SX] at M; (try clear F); have F := fxw M); have E2 := RI.out _ _ _ M dl) | ((with_reducible refine isSet (G := fun W => wpList _ _ _ _ _ W) ?_); (with_reducible refine nmw (G := fun W => wpList _ _ _ _ _ W) ?_; clear M; (try clear F); intro w1 M F))
          | (go_at_call 127; (refine nmKw ?_; clear M; (try clear F); intro w1 M F); refine (HF.out _).mono ?_; rintro e w2 ⟨rfl, rfl⟩)
          | (go_at_call 112; (refine nmKw ?_; clear M; (try clear F); intro w1 M F); refine (HW.out _).mono ?_; rintro e w2 ⟨rfl, hb⟩; replace M := M.below hb; clear hb; (try clear F); have F := fxw M)
          | (go_at_call 128; (refine nmKw ?_; clear M; (try clear F); intro w1 M F); with_reducible refine (HM1.out _ _ _ M dl).mono ?_; clear M; rintro e w2 ⟨rfl, M⟩; (try clear F); have F := fxw M)
          | (go_at_call 128; (refine nmKw ?_; clear M; (try clear F); intro w1 M F); with_reducible refine (HM2.out _ _ _ M dl).mono ?_; clear M; rintro e w2 ⟨rfl, M⟩; (try clear F); have F := fxw M))
        go_ret
        exact ⟨rfl, M.sel sl⟩
    · cases m2
      · go_enter Try.func115, Try.ntmps115
        go_wp2_with (first
          | (with_reducible refine alAw M ?_; clear M; (try clear F); intro w1 M F) | (((with_reducible apply ev_store (M := M)); rfl; rfl; ((conv => lhs; whnf) <;> rfl); rfl; (first | exact siI | exact siR | exact siV | exact siB | exact siSI | exact siSV | exact siW | exact siSR | exact siSO | exact siO); (exact one_all rfl); (exact dl); (exact Nat.le_of_ble_eq_true rfl); clear M; intro w1 M; simp only [SX] at M; (try clear F); have F := fxw M); have E2 := RI.out _ _ _ M dl) | ((with_reducible refine isSet (G := fun W => wpList _ _ _ _ _ W) ?_); (with_reducible refine nmw (G := fun W => wpList _ _ _ _ _ W) ?_; clear M; (try clear F); intro w1 M F))
          | (go_at_call 127; (refine nmKw ?_; clear M; (try clear F); intro w1 M F); refine (HF.out _).mono ?_; rintro e w2 ⟨rfl, rfl⟩)
          | (go_at_call 112; (refine nmKw ?_; clear M; (try clear F); intro w1 M F); refine (HW.out _).mono ?_; rintro e w2 ⟨rfl, hb⟩; replace M := M.below hb; clear hb; (try clear F); have F := fxw M)
          | (go_at_call 128; (refine nmKw ?_; clear M; (try clear F); intro w1 M F); with_reducible refine (HM1.out _ _ _ M dl).mono ?_; clear M; rintro e w2 ⟨rfl, M⟩; (try clear F); have F := fxw M)
          | (go_at_call 128; (refine nmKw ?_; clear M; (try clear F); intro w1 M F); with_reducible refine (HM2.out _ _ _ M dl).mono ?_; clear M; rintro e w2 ⟨rfl, M⟩; (try clear F); have F := fxw M))
        go_ret
        exact ⟨rfl, M.sel sl⟩
      · go_enter Try.func115, Try.ntmps115
        go_wp2_with (first
          | (with_reducible refine alAw M ?_; clear M; (try clear F); intro w1 M F) | (((with_reducible apply ev_store (M := M)); rfl; rfl; ((conv => lhs; whnf) <;> rfl); rfl; (first | exact siI | exact siR | exact siV | exact siB | exact siSI | exact siSV | exact siW | exact siSR | exact siSO | exact siO); (exact one_all rfl); (exact dl); (exact Nat.le_of_ble_eq_true rfl); clear M; intro w1 M; simp only [SX] at M; (try clear F); have F := fxw M); have E2 := RI.out _ _ _ M dl) | ((with_reducible refine isSet (G := fun W => wpList _ _ _ _ _ W) ?_); (with_reducible refine nmw (G := fun W => wpList _ _ _ _ _ W) ?_; clear M; (try clear F); intro w1 M F))
          | (go_at_call 127; (refine nmKw ?_; clear M; (try clear F); intro w1 M F); refine (HF.out _).mono ?_; rintro e w2 ⟨rfl, rfl⟩)
          | (go_at_call 112; (refine nmKw ?_; clear M; (try clear F); intro w1 M F); refine (HW.out _).mono ?_; rintro e w2 ⟨rfl, hb⟩; replace M := M.below hb; clear hb; (try clear F); have F := fxw M)
          | (go_at_call 128; (refine nmKw ?_; clear M; (try clear F); intro w1 M F); with_reducible refine (HM1.out _ _ _ M dl).mono ?_; clear M; rintro e w2 ⟨rfl, M⟩; (try clear F); have F := fxw M)
          | (go_at_call 128; (refine nmKw ?_; clear M; (try clear F); intro w1 M F); with_reducible refine (HM2.out _ _ _ M dl).mono ?_; clear M; rintro e w2 ⟨rfl, M⟩; (try clear F); have F := fxw M))
        go_ret
        exact ⟨rfl, M.sel sl⟩
  rw [if_neg h5] at e1
  have c5 : (kk == 5) = false := by simpa using h5
  by_cases h8 : kk = 8
  · subst h8
    rw [if_pos (.inl rfl)] at e1
    have HM1 := Lib.hid (fun W (L L' : List Asn) (M : Mem w0 f W L) (hd : Del (rowI (some ⟨g, 0, none⟩) c F) L L') => sMergeI e1 rfl kt.1 (by omega) (by omega) hF bB M hd)
    have eon' : withBit B r = on := by rw [← eon]; rfl
    rw [eon'] at HW
    rw [show fillsR 8 = true from rfl] at HF
    clear c9 c14 c5 h5 h9 h14 e1 e2 f1 eon eon' hF hl h16 hk ho hb hB kr kt hkF hx bB hon bon
    cases m1
    · cases m2
      · go_enter Try.func115, Try.ntmps115
        go_wp2_with (first
          | (with_reducible refine alAw M ?_; clear M; (try clear F); intro w1 M F) | (((with_reducible apply ev_store (M := M)); rfl; rfl; ((conv => lhs; whnf) <;> rfl); rfl; (first | exact siI | exact siR | exact siV | exact siB | exact siSI | exact siSV | exact siW | exact siSR | exact siSO | exact siO); (exact one_all rfl); (exact dl); (exact Nat.le_of_ble_eq_true rfl); clear M; intro w1 M; simp only [SX] at M; (try clear F); have F := fxw M); have E2 := RI.out _ _ _ M dl) | ((with_reducible refine isSet (G := fun W => wpList _ _ _ _ _ W) ?_); (with_reducible refine nmw (G := fun W => wpList _ _ _ _ _ W) ?_; clear M; (try clear F); intro w1 M F))
          | (go_at_call 127; (refine nmKw ?_; clear M; (try clear F); intro w1 M F); refine (HF.out _).mono ?_; rintro e w2 ⟨rfl, rfl⟩)
          | (go_at_call 112; (refine nmKw ?_; clear M; (try clear F); intro w1 M F); refine (HW.out _).mono ?_; rintro e w2 ⟨rfl, hb⟩; replace M := M.below hb; clear hb; (try clear F); have F := fxw M)
          | (go_at_call 128; (refine nmKw ?_; clear M; (try clear F); intro w1 M F); with_reducible refine (HM1.out _ _ _ M dl).mono ?_; clear M; rintro e w2 ⟨rfl, M⟩; (try clear F); have F := fxw M)
          | (go_at_call 128; (refine nmKw ?_; clear M; (try clear F); intro w1 M F); with_reducible refine (HM2.out _ _ _ M dl).mono ?_; clear M; rintro e w2 ⟨rfl, M⟩; (try clear F); have F := fxw M))
        go_ret
        exact ⟨rfl, M.sel sl⟩
      · go_enter Try.func115, Try.ntmps115
        go_wp2_with (first
          | (with_reducible refine alAw M ?_; clear M; (try clear F); intro w1 M F) | (((with_reducible apply ev_store (M := M)); rfl; rfl; ((conv => lhs; whnf) <;> rfl); rfl; (first | exact siI | exact siR | exact siV | exact siB | exact siSI | exact siSV | exact siW | exact siSR | exact siSO | exact siO); (exact one_all rfl); (exact dl); (exact Nat.le_of_ble_eq_true rfl); clear M; intro w1 M; simp only [SX] at M; (try clear F); have F := fxw M); have E2 := RI.out _ _ _ M dl) | ((with_reducible refine isSet (G := fun W => wpList _ _ _ _ _ W) ?_); (with_reducible refine nmw (G := fun W => wpList _ _ _ _ _ W) ?_; clear M; (try clear F); intro w1 M F))
          | (go_at_call 127; (refine nmKw ?_; clear M; (try clear F); intro w1 M F); refine (HF.out _).mono ?_; rintro e w2 ⟨rfl, rfl⟩)
          | (go_at_call 112; (refine nmKw ?_; clear M; (try clear F); intro w1 M F); refine (HW.out _).mono ?_; rintro e w2 ⟨rfl, hb⟩; replace M := M.below hb; clear hb; (try clear F); have F := fxw M)
          | (go_at_call 128; (refine nmKw ?_; clear M; (try clear F); intro w1 M F); with_reducible refine (HM1.out _ _ _ M dl).mono ?_; clear M; rintro e w2 ⟨rfl, M⟩; (try clear F); have F := fxw M)
          | (go_at_call 128; (refine nmKw ?_; clear M; (try clear F); intro w1 M F); with_reducible refine (HM2.out _ _ _ M dl).mono ?_; clear M; rintro e w2 ⟨rfl, M⟩; (try clear F); have F := fxw M))
        go_ret
        exact ⟨rfl, M.sel sl⟩
    · cases m2
      · go_enter Try.func115, Try.ntmps115
        go_wp2_with (first
          | (with_reducible refine alAw M ?_; clear M; (try clear F); intro w1 M F) | (((with_reducible apply ev_store (M := M)); rfl; rfl; ((conv => lhs; whnf) <;> rfl); rfl; (first | exact siI | exact siR | exact siV | exact siB | exact siSI | exact siSV | exact siW | exact siSR | exact siSO | exact siO); (exact one_all rfl); (exact dl); (exact Nat.le_of_ble_eq_true rfl); clear M; intro w1 M; simp only [SX] at M; (try clear F); have F := fxw M); have E2 := RI.out _ _ _ M dl) | ((with_reducible refine isSet (G := fun W => wpList _ _ _ _ _ W) ?_); (with_reducible refine nmw (G := fun W => wpList _ _ _ _ _ W) ?_; clear M; (try clear F); intro w1 M F))
          | (go_at_call 127; (refine nmKw ?_; clear M; (try clear F); intro w1 M F); refine (HF.out _).mono ?_; rintro e w2 ⟨rfl, rfl⟩)
          | (go_at_call 112; (refine nmKw ?_; clear M; (try clear F); intro w1 M F); refine (HW.out _).mono ?_; rintro e w2 ⟨rfl, hb⟩; replace M := M.below hb; clear hb; (try clear F); have F := fxw M)
          | (go_at_call 128; (refine nmKw ?_; clear M; (try clear F); intro w1 M F); with_reducible refine (HM1.out _ _ _ M dl).mono ?_; clear M; rintro e w2 ⟨rfl, M⟩; (try clear F); have F := fxw M)
          | (go_at_call 128; (refine nmKw ?_; clear M; (try clear F); intro w1 M F); with_reducible refine (HM2.out _ _ _ M dl).mono ?_; clear M; rintro e w2 ⟨rfl, M⟩; (try clear F); have F := fxw M))
        go_ret
        exact ⟨rfl, M.sel sl⟩
      · go_enter Try.func115, Try.ntmps115
        go_wp2_with (first
          | (with_reducible refine alAw M ?_; clear M; (try clear F); intro w1 M F) | (((with_reducible apply ev_store (M := M)); rfl; rfl; ((conv => lhs; whnf) <;> rfl); rfl; (first | exact siI | exact siR | exact siV | exact siB | exact siSI | exact siSV | exact siW | exact siSR | exact siSO | exact siO); (exact one_all rfl); (exact dl); (exact Nat.le_of_ble_eq_true rfl); clear M; intro w1 M; simp only [SX] at M; (try clear F); have F := fxw M); have E2 := RI.out _ _ _ M dl) | ((with_reducible refine isSet (G := fun W => wpList _ _ _ _ _ W) ?_); (with_reducible refine nmw (G := fun W => wpList _ _ _ _ _ W) ?_; clear M; (try clear F); intro w1 M F))
          | (go_at_call 127; (refine nmKw ?_; clear M; (try clear F); intro w1 M F); refine (HF.out _).mono ?_; rintro e w2 ⟨rfl, rfl⟩)
          | (go_at_call 112; (refine nmKw ?_; clear M; (try clear F); intro w1 M F); refine (HW.out _).mono ?_; rintro e w2 ⟨rfl, hb⟩; replace M := M.below hb; clear hb; (try clear F); have F := fxw M)
          | (go_at_call 128; (refine nmKw ?_; clear M; (try clear F); intro w1 M F); with_reducible refine (HM1.out _ _ _ M dl).mono ?_; clear M; rintro e w2 ⟨rfl, M⟩; (try clear F); have F := fxw M)
          | (go_at_call 128; (refine nmKw ?_; clear M; (try clear F); intro w1 M F); with_reducible refine (HM2.out _ _ _ M dl).mono ?_; clear M; rintro e w2 ⟨rfl, M⟩; (try clear F); have F := fxw M))
        go_ret
        exact ⟨rfl, M.sel sl⟩
  have c8 : (kk == 8) = false := by simpa using h8
  by_cases h10 : kk = 10
  · subst h10
    rw [if_pos (.inr rfl)] at e1
    have HM1 := Lib.hid (fun W (L L' : List Asn) (M : Mem w0 f W L) (hd : Del (rowI (some ⟨g, 0, none⟩) c F) L L') => sMergeI e1 rfl kt.1 (by omega) (by omega) hF bB M hd)
    have eon' : B = on := by rw [← eon]; rfl
    subst eon'
    rw [show fillsR 10 = false from rfl] at HF
    clear c9 c14 c5 c8 h5 h8 h9 h14 e1 e2 f1 eon hF hl h16 hk ho hb hB kr kt hkF hx bB hon bon
    cases m1
    · cases m2
      · go_enter Try.func115, Try.ntmps115
        go_wp2_with (first
          | (with_reducible refine alAw M ?_; clear M; (try clear F); intro w1 M F) | (((with_reducible apply ev_store (M := M)); rfl; rfl; ((conv => lhs; whnf) <;> rfl); rfl; (first | exact siI | exact siR | exact siV | exact siB | exact siSI | exact siSV | exact siW | exact siSR | exact siSO | exact siO); (exact one_all rfl); (exact dl); (exact Nat.le_of_ble_eq_true rfl); clear M; intro w1 M; simp only [SX] at M; (try clear F); have F := fxw M); have E2 := RI.out _ _ _ M dl) | ((with_reducible refine isSet (G := fun W => wpList _ _ _ _ _ W) ?_); (with_reducible refine nmw (G := fun W => wpList _ _ _ _ _ W) ?_; clear M; (try clear F); intro w1 M F))
          | (go_at_call 127; (refine nmKw ?_; clear M; (try clear F); intro w1 M F); refine (HF.out _).mono ?_; rintro e w2 ⟨rfl, rfl⟩)
          | (go_at_call 112; (refine nmKw ?_; clear M; (try clear F); intro w1 M F); refine (HW.out _).mono ?_; rintro e w2 ⟨rfl, hb⟩; replace M := M.below hb; clear hb; (try clear F); have F := fxw M)
          | (go_at_call 128; (refine nmKw ?_; clear M; (try clear F); intro w1 M F); with_reducible refine (HM1.out _ _ _ M dl).mono ?_; clear M; rintro e w2 ⟨rfl, M⟩; (try clear F); have F := fxw M)
          | (go_at_call 128; (refine nmKw ?_; clear M; (try clear F); intro w1 M F); with_reducible refine (HM2.out _ _ _ M dl).mono ?_; clear M; rintro e w2 ⟨rfl, M⟩; (try clear F); have F := fxw M))
        go_ret
        exact ⟨rfl, M.sel sl⟩
      · go_enter Try.func115, Try.ntmps115
        go_wp2_with (first
          | (with_reducible refine alAw M ?_; clear M; (try clear F); intro w1 M F) | (((with_reducible apply ev_store (M := M)); rfl; rfl; ((conv => lhs; whnf) <;> rfl); rfl; (first | exact siI | exact siR | exact siV | exact siB | exact siSI | exact siSV | exact siW | exact siSR | exact siSO | exact siO); (exact one_all rfl); (exact dl); (exact Nat.le_of_ble_eq_true rfl); clear M; intro w1 M; simp only [SX] at M; (try clear F); have F := fxw M); have E2 := RI.out _ _ _ M dl) | ((with_reducible refine isSet (G := fun W => wpList _ _ _ _ _ W) ?_); (with_reducible refine nmw (G := fun W => wpList _ _ _ _ _ W) ?_; clear M; (try clear F); intro w1 M F))
          | (go_at_call 127; (refine nmKw ?_; clear M; (try clear F); intro w1 M F); refine (HF.out _).mono ?_; rintro e w2 ⟨rfl, rfl⟩)
          | (go_at_call 112; (refine nmKw ?_; clear M; (try clear F); intro w1 M F); refine (HW.out _).mono ?_; rintro e w2 ⟨rfl, hb⟩; replace M := M.below hb; clear hb; (try clear F); have F := fxw M)
          | (go_at_call 128; (refine nmKw ?_; clear M; (try clear F); intro w1 M F); with_reducible refine (HM1.out _ _ _ M dl).mono ?_; clear M; rintro e w2 ⟨rfl, M⟩; (try clear F); have F := fxw M)
          | (go_at_call 128; (refine nmKw ?_; clear M; (try clear F); intro w1 M F); with_reducible refine (HM2.out _ _ _ M dl).mono ?_; clear M; rintro e w2 ⟨rfl, M⟩; (try clear F); have F := fxw M))
        go_ret
        exact ⟨rfl, M.sel sl⟩
    · cases m2
      · go_enter Try.func115, Try.ntmps115
        go_wp2_with (first
          | (with_reducible refine alAw M ?_; clear M; (try clear F); intro w1 M F) | (((with_reducible apply ev_store (M := M)); rfl; rfl; ((conv => lhs; whnf) <;> rfl); rfl; (first | exact siI | exact siR | exact siV | exact siB | exact siSI | exact siSV | exact siW | exact siSR | exact siSO | exact siO); (exact one_all rfl); (exact dl); (exact Nat.le_of_ble_eq_true rfl); clear M; intro w1 M; simp only [SX] at M; (try clear F); have F := fxw M); have E2 := RI.out _ _ _ M dl) | ((with_reducible refine isSet (G := fun W => wpList _ _ _ _ _ W) ?_); (with_reducible refine nmw (G := fun W => wpList _ _ _ _ _ W) ?_; clear M; (try clear F); intro w1 M F))
          | (go_at_call 127; (refine nmKw ?_; clear M; (try clear F); intro w1 M F); refine (HF.out _).mono ?_; rintro e w2 ⟨rfl, rfl⟩)
          | (go_at_call 112; (refine nmKw ?_; clear M; (try clear F); intro w1 M F); refine (HW.out _).mono ?_; rintro e w2 ⟨rfl, hb⟩; replace M := M.below hb; clear hb; (try clear F); have F := fxw M)
          | (go_at_call 128; (refine nmKw ?_; clear M; (try clear F); intro w1 M F); with_reducible refine (HM1.out _ _ _ M dl).mono ?_; clear M; rintro e w2 ⟨rfl, M⟩; (try clear F); have F := fxw M)
          | (go_at_call 128; (refine nmKw ?_; clear M; (try clear F); intro w1 M F); with_reducible refine (HM2.out _ _ _ M dl).mono ?_; clear M; rintro e w2 ⟨rfl, M⟩; (try clear F); have F := fxw M))
        go_ret
        exact ⟨rfl, M.sel sl⟩
      · go_enter Try.func115, Try.ntmps115
        go_wp2_with (first
          | (with_reducible refine alAw M ?_; clear M; (try clear F); intro w1 M F) | (((with_reducible apply ev_store (M := M)); rfl; rfl; ((conv => lhs; whnf) <;> rfl); rfl; (first | exact siI | exact siR | exact siV | exact siB | exact siSI | exact siSV | exact siW | exact siSR | exact siSO | exact siO); (exact one_all rfl); (exact dl); (exact Nat.le_of_ble_eq_true rfl); clear M; intro w1 M; simp only [SX] at M; (try clear F); have F := fxw M); have E2 := RI.out _ _ _ M dl) | ((with_reducible refine isSet (G := fun W => wpList _ _ _ _ _ W) ?_); (with_reducible refine nmw (G := fun W => wpList _ _ _ _ _ W) ?_; clear M; (try clear F); intro w1 M F))
          | (go_at_call 127; (refine nmKw ?_; clear M; (try clear F); intro w1 M F); refine (HF.out _).mono ?_; rintro e w2 ⟨rfl, rfl⟩)
          | (go_at_call 112; (refine nmKw ?_; clear M; (try clear F); intro w1 M F); refine (HW.out _).mono ?_; rintro e w2 ⟨rfl, hb⟩; replace M := M.below hb; clear hb; (try clear F); have F := fxw M)
          | (go_at_call 128; (refine nmKw ?_; clear M; (try clear F); intro w1 M F); with_reducible refine (HM1.out _ _ _ M dl).mono ?_; clear M; rintro e w2 ⟨rfl, M⟩; (try clear F); have F := fxw M)
          | (go_at_call 128; (refine nmKw ?_; clear M; (try clear F); intro w1 M F); with_reducible refine (HM2.out _ _ _ M dl).mono ?_; clear M; rintro e w2 ⟨rfl, M⟩; (try clear F); have F := fxw M))
        go_ret
        exact ⟨rfl, M.sel sl⟩
  have c10 : (kk == 10) = false := by simpa using h10
  rw [if_neg (by rintro (h | h) <;> contradiction)] at e1
  cases e1
  generalize fillsR kk = fb at HF eon
  cases fb
  · have eon' : B = on := by rw [← eon]; rfl
    subst eon'
    clear h5 h8 h10 h9 h14 e2 f1 eon hF hl h16 hk ho hb hB kr kt hkF hx bB hon bon
    cases m2
    · go_enter Try.func115, Try.ntmps115
      go_wp2_with (first
        | (with_reducible refine alAw M ?_; clear M; (try clear F); intro w1 M F) | (((with_reducible apply ev_store (M := M)); rfl; rfl; ((conv => lhs; whnf) <;> rfl); rfl; (first | exact siI | exact siR | exact siV | exact siB | exact siSI | exact siSV | exact siW | exact siSR | exact siSO | exact siO); (exact one_all rfl); (exact dl); (exact Nat.le_of_ble_eq_true rfl); clear M; intro w1 M; simp only [SX] at M; (try clear F); have F := fxw M); have E2 := RI.out _ _ _ M dl) | ((with_reducible refine isSet (G := fun W => wpList _ _ _ _ _ W) ?_); (with_reducible refine nmw (G := fun W => wpList _ _ _ _ _ W) ?_; clear M; (try clear F); intro w1 M F))
        | (go_at_call 127; (refine nmKw ?_; clear M; (try clear F); intro w1 M F); refine (HF.out _).mono ?_; rintro e w2 ⟨rfl, rfl⟩)
        | (go_at_call 112; (refine nmKw ?_; clear M; (try clear F); intro w1 M F); refine (HW.out _).mono ?_; rintro e w2 ⟨rfl, hb⟩; replace M := M.below hb; clear hb; (try clear F); have F := fxw M)
        | (go_at_call 128; (refine nmKw ?_; clear M; (try clear F); intro w1 M F); with_reducible refine (HM1.out _ _ _ M dl).mono ?_; clear M; rintro e w2 ⟨rfl, M⟩; (try clear F); have F := fxw M)
        | (go_at_call 128; (refine nmKw ?_; clear M; (try clear F); intro w1 M F); with_reducible refine (HM2.out _ _ _ M dl).mono ?_; clear M; rintro e w2 ⟨rfl, M⟩; (try clear F); have F := fxw M))
      go_ret
      exact ⟨rfl, M.sel sl⟩
    · go_enter Try.func115, Try.ntmps115
      go_wp2_with (first
        | (with_reducible refine alAw M ?_; clear M; (try clear F); intro w1 M F) | (((with_reducible apply ev_store (M := M)); rfl; rfl; ((conv => lhs; whnf) <;> rfl); rfl; (first | exact siI | exact siR | exact siV | exact siB | exact siSI | exact siSV | exact siW | exact siSR | exact siSO | exact siO); (exact one_all rfl); (exact dl); (exact Nat.le_of_ble_eq_true rfl); clear M; intro w1 M; simp only [SX] at M; (try clear F); have F := fxw M); have E2 := RI.out _ _ _ M dl) | ((with_reducible refine isSet (G := fun W => wpList _ _ _ _ _ W) ?_); (with_reducible refine nmw (G := fun W => wpList _ _ _ _ _ W) ?_; clear M; (try clear F); intro w1 M F))
        | (go_at_call 127; (refine nmKw ?_; clear M; (try clear F); intro w1 M F); refine (HF.out _).mono ?_; rintro e w2 ⟨rfl, rfl⟩)
        | (go_at_call 112; (refine nmKw ?_; clear M; (try clear F); intro w1 M F); refine (HW.out _).mono ?_; rintro e w2 ⟨rfl, hb⟩; replace M := M.below hb; clear hb; (try clear F); have F := fxw M)
        | (go_at_call 128; (refine nmKw ?_; clear M; (try clear F); intro w1 M F); with_reducible refine (HM1.out _ _ _ M dl).mono ?_; clear M; rintro e w2 ⟨rfl, M⟩; (try clear F); have F := fxw M)
        | (go_at_call 128; (refine nmKw ?_; clear M; (try clear F); intro w1 M F); with_reducible refine (HM2.out _ _ _ M dl).mono ?_; clear M; rintro e w2 ⟨rfl, M⟩; (try clear F); have F := fxw M))
      go_ret
      exact ⟨rfl, M.sel sl⟩
  · have eon' : withBit B r = on := by rw [← eon]; rfl
    rw [eon'] at HW
    clear h5 h8 h10 h9 h14 e2 f1 eon eon' hF hl h16 hk ho hb hB kr kt hkF hx bB hon bon
    cases m2
    · go_enter Try.func115, Try.ntmps115
      go_wp2_with (first
        | (with_reducible refine alAw M ?_; clear M; (try clear F); intro w1 M F) | (((with_reducible apply ev_store (M := M)); rfl; rfl; ((conv => lhs; whnf) <;> rfl); rfl; (first | exact siI | exact siR | exact siV | exact siB | exact siSI | exact siSV | exact siW | exact siSR | exact siSO | exact siO); (exact one_all rfl); (exact dl); (exact Nat.le_of_ble_eq_true rfl); clear M; intro w1 M; simp only [SX] at M; (try clear F); have F := fxw M); have E2 := RI.out _ _ _ M dl) | ((with_reducible refine isSet (G := fun W => wpList _ _ _ _ _ W) ?_); (with_reducible refine nmw (G := fun W => wpList _ _ _ _ _ W) ?_; clear M; (try clear F); intro w1 M F))
        | (go_at_call 127; (refine nmKw ?_; clear M; (try clear F); intro w1 M F); refine (HF.out _).mono ?_; rintro e w2 ⟨rfl, rfl⟩)
        | (go_at_call 112; (refine nmKw ?_; clear M; (try clear F); intro w1 M F); refine (HW.out _).mono ?_; rintro e w2 ⟨rfl, hb⟩; replace M := M.below hb; clear hb; (try clear F); have F := fxw M)
        | (go_at_call 128; (refine nmKw ?_; clear M; (try clear F); intro w1 M F); with_reducible refine (HM1.out _ _ _ M dl).mono ?_; clear M; rintro e w2 ⟨rfl, M⟩; (try clear F); have F := fxw M)
        | (go_at_call 128; (refine nmKw ?_; clear M; (try clear F); intro w1 M F); with_reducible refine (HM2.out _ _ _ M dl).mono ?_; clear M; rintro e w2 ⟨rfl, M⟩; (try clear F); have F := fxw M))
      go_ret
      exact ⟨rfl, M.sel sl⟩
    · go_enter Try.func115, Try.ntmps115
      go_wp2_with (first
        | (with_reducible refine alAw M ?_; clear M; (try clear F); intro w1 M F) | (((with_reducible apply ev_store (M := M)); rfl; rfl; ((conv => lhs; whnf) <;> rfl); rfl; (first | exact siI | exact siR | exact siV | exact siB | exact siSI | exact siSV | exact siW | exact siSR | exact siSO | exact siO); (exact one_all rfl); (exact dl); (exact Nat.le_of_ble_eq_true rfl); clear M; intro w1 M; simp only [SX] at M; (try clear F); have F := fxw M); have E2 := RI.out _ _ _ M dl) | ((with_reducible refine isSet (G := fun W => wpList _ _ _ _ _ W) ?_); (with_reducible refine nmw (G := fun W => wpList _ _ _ _ _ W) ?_; clear M; (try clear F); intro w1 M F))
        | (go_at_call 127; (refine nmKw ?_; clear M; (try clear F); intro w1 M F); refine (HF.out _).mono ?_; rintro e w2 ⟨rfl, rfl⟩)
        | (go_at_call 112; (refine nmKw ?_; clear M; (try clear F); intro w1 M F); refine (HW.out _).mono ?_; rintro e w2 ⟨rfl, hb⟩; replace M := M.below hb; clear hb; (try clear F); have F := fxw M)
        | (go_at_call 128; (refine nmKw ?_; clear M; (try clear F); intro w1 M F); with_reducible refine (HM1.out _ _ _ M dl).mono ?_; clear M; rintro e w2 ⟨rfl, M⟩; (try clear F); have F := fxw M)
        | (go_at_call 128; (refine nmKw ?_; clear M; (try clear F); intro w1 M F); with_reducible refine (HM2.out _ _ _ M dl).mono ?_; clear M; rintro e w2 ⟨rfl, M⟩; (try clear F); have F := fxw M))
      go_ret
      exact ⟨rfl, M.sel sl⟩
end Go.Proofs.Ytmidnaafljgbiaa
/- What is full ahead of each step. -/
namespace Go.Proofs.Ytmidnaafljgbiaa
open Go.RowKit
set_option maxRecDepth 100000

def fillUp (n k : Nat) : List Int := (List.range n).map (fun j => if 1 ≤ j ∧ j < k then -1 else 0)
theorem fillUp_length (n k : Nat) : (fillUp n k).length = n := by simp [fillUp]
theorem fillUp_one (n : Nat) : fillUp n 1 = List.replicate n 0 := by
  apply List.ext_getElem
  · simp [fillUp]
  · intro i h1 h2
    simp only [fillUp, List.getElem_map, List.getElem_range, List.getElem_replicate]
    rw [if_neg (by omega)]
theorem fillUp_set {n k : Nat} (h1 : 1 ≤ k) : (fillUp n k).set k (-1) = fillUp n (k + 1) := by
  apply List.ext_getElem
  · simp [fillUp]
  · intro i h2 h3
    simp only [fillUp, List.getElem_set, List.getElem_map, List.getElem_range]
    by_cases h : k = i
    · subst h; rw [if_pos rfl, if_pos (by omega)]
    · rw [if_neg h]
      by_cases h4 : 1 ≤ i ∧ i < k
      · rw [if_pos h4, if_pos (by omega)]
      · rw [if_neg h4, if_neg (by omega)]
theorem fillUp_end (n : Nat) : (fillUp n n).set 0 1 = full0 n := by
  apply List.ext_getElem
  · simp [fillUp, full0]
  · intro i h2 h3
    simp only [fillUp, full0, List.getElem_set, List.getElem_map, List.getElem_range, List.getElem_replicate]
    by_cases h : 0 = i
    · rw [if_pos h, if_pos h]
    · rw [if_neg h, if_neg h, if_pos]
      have : i < n := by simpa [fillUp] using h2
      omega
theorem full0_bits (n : Nat) : Bits (full0 n) := by
  intro x hx
  rcases List.mem_or_eq_of_mem_set hx with h | h
  · rw [(List.mem_replicate.1 h).2]; decide
  · rw [h]; decide
theorem madeI (n : Nat) : madeCells #[.int .i64 0] (n * 1) = (flat encI (List.replicate n 0)).toArray := by
  have := madeCells_flat (enc := encI) (z := #[.int .i64 0]) (x := 0) rfl (by decide) n
  rw [← this]
  simp
theorem infoIw : (Try.prog.info? 3).map (fun i => (i.zero, i.size, i.bytes)) = some (some (.int .i64 0), 1, 8) := by kernel_rfl
theorem makeI (n : Nat) (hn : n ≤ 1000) (W : World) : (Instr.makeSlice 23 (.int .i64 (n : Int)) (.int .i64 (n : Int))).run Try.prog W = .ok (.slice (some ⟨W.heap.size, 0, none⟩) n n) (W.alloc (.cells (flat encI (List.replicate n 0)).toArray 3)) := by
  have h := run_make_m (P := Try.prog) 23 3 (.int .i64 0) 1 8 Try.underlying23 infoIw n (by omega) (by omega) W
  rw [show (Value.int .i64 0).cells = #[.int .i64 0] from rfl, madeI] at h
  exact h
theorem row_made {w0 w : World} {f : List Nat} {L : List Asn} {g n : Nat} (hn : n ≤ 1000) (M : Mem w0 f w (blk g 3 (flat encI (List.replicate n 0)) :: L)) : Mem w0 f w (rowI (some ⟨g, 0, none⟩) n (fillUp n 1) :: L) := by
  have M1 := Mem.row_of encI_length (xs := List.replicate n 0) M rfl (by rw [List.length_replicate]; omega)
  rw [List.length_replicate] at M1
  rw [fillUp_one]
  exact M1
def sweepS (C : List Opx) (F : List Int) (k : Nat) (s : List Int × Bool) : Prop := sweepFrom (C.drop k) k s = sweep C F
theorem sweepS_end {C : List Opx} {F : List Int} {s : List Int × Bool} (h : sweepS C F C.length s) : sweep C F = s := by
  unfold sweepS at h
  rw [List.drop_length] at h
  exact h.symm
theorem sweepS_on {C : List Opx} {F F1 : List Int} {m : Bool} {k : Nat} (hk : k < C.length) (h : sweepS C F k (F1, m)) (hb : 0 ≤ getI F1 k) : sweepS C F (k + 1) ((stepFrom C[k] F1 k).1, m || (stepFrom C[k] F1 k).2) := by
  unfold sweepS at h ⊢
  rw [← h, List.drop_eq_getElem_cons hk]
  simp only [sweepFrom, if_pos hb]
  rfl
theorem sweepS_skip {C : List Opx} {F F1 : List Int} {m : Bool} {k : Nat} (hk : k < C.length) (h : sweepS C F k (F1, m)) (hb : ¬ 0 ≤ getI F1 k) : sweepS C F (k + 1) (F1, m) := by
  unfold sweepS at h ⊢
  rw [← h, List.drop_eq_getElem_cons hk]
  simp only [sweepFrom, if_neg hb]
  rfl
set_option maxHeartbeats 2000000 in
theorem sFull (C : List Opx) (cA : Option Addr) (cC : Nat) {w0 w : World} {f : List Nat} {L : List Asn} (M : Mem w0 f w (rowO cA cC C :: L)) (h1 : 1 ≤ C.length) (h16 : C.length ≤ 16) (ho : ∀ o ∈ C, opOk o = true) :
    Calls Try.prog 95 #[.slice cA C.length cC] w fun e w' => ∃ (A : Option Addr) (c : Nat), e = .returned (.slice A C.length c) ∧ Mem w0 f w' (rowI A c (fullOf C) :: rowO cA cC C :: L) := by
  have hmk := makeI C.length (by omega)
  have HP := Lib.hid ho
  clear ho
  have AL := add_lit0
  go_enter Try.func95, Try.ntmps95
  go_wp2_with (first | (with_reducible refine alAw M ?_; clear M; (try clear F); intro w1 M F))
  clear hmk
  have M1 := row_made (by omega) (M.allocD (tb := 3) (cs := flat encI (List.replicate C.length 0)))
  clear M
  generalize w.heap.size = g at M1 ⊢
  go_loopg [4] C.length (fun gg i wr => ∃ k : Nat, 1 ≤ k ∧ k ≤ C.length ∧ C.length - k ≤ gg ∧ i = .int .i64 k ∧ Hid (Mem w0 f wr (rowI (some ⟨g, 0, none⟩) C.length (fillUp C.length k) :: rowO cA cC C :: L)))
  case atStart => exact ⟨1, by omega, h1, by omega, rfl, M1⟩
  case round =>
    clear M1
    obtain ⟨k, hk1, hk, hg, rfl, MW⟩ := hrel
    by_cases hlt : k < C.length
    · have hkl : k < (fillUp C.length k).length := by rw [fillUp_length]; exact hlt
      obtain ⟨E1, E2⟩ := elemI MW.out .here hkl
      have MS := Lib.hid (Mem.setI (z := -1) MW.out .here hkl)
      rw [fillUp_set hk1] at MS
      generalize (fillUp C.length k)[k] = y at E1
      have i1 : (0 : Int) ≤ k := by omega
      have i2 : (k : Int) < C.length := by omega
      go_wp2
      go_roundg (C.length - (k + 1))
      case measure => omega
      case rel => exact ⟨k + 1, by omega, by omega, by omega, by go_num, MS.out⟩
    · have : k = C.length := by omega
      subst this
      have hkl : 0 < (fillUp C.length C.length).length := by rw [fillUp_length]; exact h1
      obtain ⟨E1, E2⟩ := elemI MW.out .here hkl
      have MS := Lib.hid (Mem.setI (z := 1) MW.out .here hkl)
      rw [fillUp_end] at MS
      generalize (fillUp C.length C.length)[0] = y at E1
      have i2 : (0 : Int) < C.length := by omega
      go_wp2
      go_loopg [5] (weight (full0 C.length) + 1) (fun gg v wr => ∃ (F : List Int) (mv : Bool), v = .bool mv ∧ (mv = true → weight F + 1 ≤ gg) ∧ Hid (Bits F) ∧ Hid (F.length = C.length) ∧ Hid (if mv then settle C F = fullOf C else F = fullOf C) ∧ Hid (Mem w0 f wr (rowI (some ⟨g, 0, none⟩) C.length F :: rowO cA cC C :: L)))
      case atStart => exact ⟨full0 C.length, true, rfl, fun _ => Nat.le_refl _, full0_bits _, full0_length _, rfl, MS.out⟩
      case round =>
        clear MS MW E1 E2
        obtain ⟨F, mv, rfl, hw, hB, hL, hS, MF⟩ := hrel
        cases mv
        · go_wp2
          go_ret
          have e : F = fullOf C := hS.out
          subst e
          exact ⟨_, _, rfl, MF.out⟩
        · replace hw := hw rfl
          have hS' : Hid (settle C F = fullOf C) := hS
          clear hS
          go_wp2
          go_loopg [5, 6] C.length (fun gg2 v5 v6 wr => ∃ (k : Nat) (F1 : List Int) (m : Bool), k ≤ C.length ∧ C.length - k ≤ gg2 ∧ v5 = .bool m ∧ v6 = .int .i64 k ∧ Hid (Bits F1) ∧ Hid (F1.length = C.length) ∧ Hid (sweepS C F k (F1, m)) ∧ Hid (Mem w0 f wr (rowI (some ⟨g, 0, none⟩) C.length F1 :: rowO cA cC C :: L)))
          case atStart => exact ⟨0, F, false, by omega, by omega, rfl, rfl, hB, hL, rfl, MF.out⟩
          case round =>
            clear MF
            obtain ⟨k, F1, m, hk, hg2, rfl, rfl, hB1, hL1, hW, M⟩ := hrel
            replace M := M.out
            by_cases hlt : k < C.length
            · have hkF : k < F1.length := by rw [hL1.out]; exact hlt
              have ex : F1[k] = getI F1 k := by unfold getI; simp [List.getD_eq_getElem?_getD, List.getElem?_eq_getElem hkF]
              obtain ⟨E1, E2⟩ := elemI M .here hkF
              rw [ex] at E1
              clear ex
              have i1 : (0 : Int) ≤ k := by omega
              have i2' : (k : Int) < C.length := by omega
              by_cases hb : 0 ≤ getI F1 k
              · have HO := Lib.hid (sweepS_on hlt hW.out hb)
                have HFF := Lib.hid (stepFrom_facts (HP.out _ (List.getElem_mem hlt)) hB1.out (i := k) (by omega) (by omega) hb)
                have HC := Lib.hid (fun W (M : Mem w0 f W (rowI (some ⟨g, 0, none⟩) C.length F1 :: rowO cA cC C :: L)) => sFrom C cA cC F1 (some ⟨g, 0, none⟩) C.length k M hB1.out hL1.out h16 hlt (HP.out _ (List.getElem_mem hlt)) hb)
                rw [hL1.out] at HC
                generalize stepFrom C[k] F1 k = p at HO HFF HC
                obtain ⟨F2, m2⟩ := p
                generalize getI F1 k = x at E1 hb
                clear hW
                cases m <;> cases m2
                all_goals
                  go_wp2_with (go_at_call 115; refine (HC.out _ M).mono ?_; clear M; rintro e w2 ⟨rfl, M⟩)
                  go_roundg (C.length - (k + 1))
                  case measure => omega
                  case rel => exact ⟨k + 1, F2, _, by omega, by omega, rfl, by go_num, HFF.out.2.1, HFF.out.1.trans hL1.out, HO.out, M⟩
              · have HO := Lib.hid (sweepS_skip hlt hW.out hb)
                generalize getI F1 k = x at E1 hb
                clear hW
                go_wp2
                go_roundg (C.length - (k + 1))
                case measure => omega
                case rel => exact ⟨k + 1, F1, m, by omega, by omega, rfl, by go_num, hB1, hL1, HO, M⟩
            · have : k = C.length := by omega
              subst this
              have e := sweepS_end hW.out
              have sf := sweep_facts HP.out hB.out hL.out.symm
              have s1 : m = true → weight F1 < weight F := by have := sf.2.2.1; rw [e] at this; exact this
              have s2 : m = true → settle C F1 = fullOf C := by
                intro h
                have := settle_on HP.out hB.out hL.out.symm (by rw [e]; exact h)
                rw [e] at this
                exact this.symm.trans hS'.out
              have s3 : m = false → F1 = fullOf C := by
                intro h
                have := settle_end (c := C) (f := F) (by rw [e]; exact h)
                rw [e] at this
                exact this.symm.trans hS'.out
              have HS1 := Lib.hid s1
              have HS2 := Lib.hid s2
              have HS3 := Lib.hid s3
              clear e sf s1 s2 s3 hW
              go_wp2
              cases m
              · go_roundg 0
                case measure => omega
                case rel => exact ⟨F1, false, rfl, fun h => (by cases h), hB1, hL1, HS3.out rfl, M⟩
              · go_roundg (weight F1 + 1)
                case measure => have := HS1.out rfl; omega
                case rel => exact ⟨F1, true, rfl, fun _ => Nat.le_refl _, hB1, hL1, HS2.out rfl, M⟩
end Go.Proofs.Ytmidnaafljgbiaa
/- What a step is: its parts. -/
namespace Go.Proofs.Ytmidnaafljgbiaa
open Go.RowKit
set_option maxRecDepth 100000

theorem sSlot (n : Int) (w : World) : Calls Try.prog 89 #[.int .i64 n] w fun e w' => e = .returned (.bool (inB n 0 3)) ∧ w = w' := by
  have H := Lib.hid (fun W => sIn n 0 3 W)
  go_enter Try.func89, Try.ntmps89
  go_wp2_with (go_at_call 80; refine (H.out _).mono ?_; rintro e w2 ⟨rfl, rfl⟩)
  go_ret
  exact ⟨rfl, rfl⟩
theorem sToIn (n : Int) (w : World) : Calls Try.prog 81 #[.int .i64 n] w fun e w' => e = .returned (.bool (inB n 0 15)) ∧ w = w' := by
  have H := Lib.hid (fun W => sIn n 0 15 W)
  go_enter Try.func81, Try.ntmps81
  go_wp2_with (go_at_call 80; refine (H.out _).mono ?_; rintro e w2 ⟨rfl, rfl⟩)
  go_ret
  exact ⟨rfl, rfl⟩
theorem form_cases (k : Int) : (opForm k = [] ∧ inB k 1 14 = false) ∨ ∃ f0 f1 f2 f3, opForm k = [f0, f1, f2, f3] ∧ inB k 1 14 = true := by
  by_cases h : 1 ≤ k ∧ k ≤ 14
  · refine .inr ?_
    rw [inB_iff.2 h]
    have : k = 1 ∨ k = 2 ∨ k = 3 ∨ k = 4 ∨ k = 5 ∨ k = 6 ∨ k = 7 ∨ k = 8 ∨ k = 9 ∨ k = 10 ∨ k = 11 ∨ k = 12 ∨ k = 13 ∨ k = 14 := by omega
    rcases this with rfl | rfl | rfl | rfl | rfl | rfl | rfl | rfl | rfl | rfl | rfl | rfl | rfl | rfl <;> exact ⟨_, _, _, _, rfl, rfl⟩
  · refine .inl ⟨?_, by cases hq : inB k 1 14 with | false => rfl | true => exact absurd (inB_iff.1 hq) h⟩
    unfold opForm
    rw [if_neg (by omega), if_neg (by omega), if_neg (by omega), if_neg (by omega), if_neg (by omega), if_neg (by omega), if_neg (by omega), if_neg (by omega)]
theorem elemB {w0 w : World} {f : List Nat} {L L' : List Asn} {g c : Nat} {f0 f1 f2 f3 : Bool} (M : Mem w0 f w L) (hd : Del (rowB (some ⟨g, 0, none⟩) c [f0, f1, f2, f3]) L L') : w.cell? ⟨g, 0, none⟩ = some (.bool f0) ∧ w.cell? ⟨g, 1, none⟩ = some (.bool f1) ∧ w.cell? ⟨g, 2, none⟩ = some (.bool f2) ∧ w.cell? ⟨g, 3, none⟩ = some (.bool f3) :=
  ⟨(row_elem encB_length M hd (k := 0) (by simp)).2.1 0 (by decide), (row_elem encB_length M hd (k := 1) (by simp)).2.1 0 (by decide), (row_elem encB_length M hd (k := 2) (by simp)).2.1 0 (by decide), (row_elem encB_length M hd (k := 3) (by simp)).2.1 0 (by decide)⟩
theorem sFormAt {k : Int} {f0 f1 f2 f3 : Bool} (h : opForm k = [f0, f1, f2, f3]) {w0 w : World} {f : List Nat} {L : List Asn} (M : Mem w0 f w L) : Calls Try.prog 126 #[.int .i64 k] w fun e w' => ∃ g c, e = .returned (.slice (some ⟨g, 0, none⟩) 4 c) ∧ Mem w0 f w' (rowB (some ⟨g, 0, none⟩) c [f0, f1, f2, f3] :: L) := by
  refine (sForm k M).mono ?_
  rintro e w2 ⟨A, c, rfl, M2⟩
  rw [h] at M2 ⊢
  obtain ⟨g, rfl⟩ := row_form M2 .here (by simp)
  exact ⟨g, c, rfl, M2⟩
set_option maxHeartbeats 1000000 in
theorem sOpOkBad (o : Opx) (h : opForm o.k = [] ∨ valOk o.v = false) (w : World) : Calls Try.prog 113 #[.agg (opArr o)] w fun e w' => e = .returned (.bool false) ∧ Below w.heap.size w w' := by
  have HV := Lib.hid (fun W => sValOk o.v W)
  have HF := Lib.hid (fun (k : Int) (h : opForm k = []) W (L : List Asn) (M : Mem w [] W L) => sForm k M)
  have HG := Lib.hid (fun (k : Int) (f0 f1 f2 f3 : Bool) (h : opForm k = [f0, f1, f2, f3]) W (L : List Asn) (M : Mem w [] W L) => sFormAt h M)
  obtain ⟨k, r, s, to, ⟨vk, vn⟩⟩ := o
  simp only [opArr] at *
  have M := Mem.nil w
  rcases form_cases k with ⟨e, _⟩ | ⟨f0, f1, f2, f3, e, _⟩
  · replace HF := Lib.hid (HF.out k e)
    have e' := Lib.hid e
    clear h e HG
    go_enter Try.func113, Try.ntmps113
    go_wp2_with (first
      | (with_reducible refine alAw M ?_; clear M; (try clear F); intro w1 M F)
      | (go_at_call 126; (refine nmKw ?_; clear M; (try clear F); intro w1 M F); refine (HF.out _ _ M).mono ?_; clear M; rintro e w2 ⟨A, c, rfl, M⟩; rw [e'.out] at M ⊢; (try clear F); have F := fxw M))
    go_ret
    exact ⟨rfl, M.toBelow⟩
  · replace HG := Lib.hid (HG.out k f0 f1 f2 f3 e)
    have hv : valOk ⟨vk, vn⟩ = false := h.resolve_left (by rw [e]; exact fun h => by cases h)
    rw [hv] at HV
    clear h e HF hv
    go_enter Try.func113, Try.ntmps113
    go_wp2_with (first
      | (with_reducible refine alAw M ?_; clear M; (try clear F); intro w1 M F)
      | (go_at_call 126; (refine nmKw ?_; clear M; (try clear F); intro w1 M F); refine (HG.out _ _ M).mono ?_; clear M; rintro e w2 ⟨g, c, rfl, M⟩; (try clear F); have F := fxw M)
      | (go_at_call 42; (refine nmKw ?_; clear M; (try clear F); intro w1 M F); refine (HV.out _).mono ?_; rintro e w2 ⟨rfl, hb⟩; replace M := M.below hb; clear hb; (try clear F); have F := fxw M))
    go_ret
    exact ⟨rfl, M.toBelow⟩
end Go.Proofs.Ytmidnaafljgbiaa
