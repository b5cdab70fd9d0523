/- Parts of the proof, in one text. -/
import Derived.Deep.RegionHeld3
import Derived.Deep.Cut
import Derived.Test.YtmidnaafljgbiaaB10
import Derived.Test.YtmidnaafljgbiaaB07
/- Whether code is ok. -/
namespace Go.Proofs.Ytmidnaafljgbiaa
open Go.RowKit
set_option maxRecDepth 100000

def stepOk (n : Nat) (o : Opx) : Bool := opOk o && !(goesTo o.k && decide ((n : Int) ≤ o.to))
theorem codeOk_yes {C : List Opx} (h : ∀ j (hj : j < C.length), stepOk C.length C[j] = true) : codeOk C = inB C.length 1 16 := by
  have : C.all (stepOk C.length) = true := by
    rw [List.all_eq_true]
    intro x hx
    obtain ⟨j, hj, rfl⟩ := List.getElem_of_mem hx
    exact h j hj
  unfold codeOk
  unfold stepOk at this
  rw [this, Bool.true_and]
  unfold inB
  congr 1
  · exact decide_eq_decide.2 (by omega)
  · exact decide_eq_decide.2 (by omega)
theorem codeOk_no {C : List Opx} {j : Nat} (hj : j < C.length) (h : stepOk C.length C[j] = false) : codeOk C = false := by
  have : C.all (stepOk C.length) = false := by
    rw [List.all_eq_false]
    exact ⟨C[j], List.getElem_mem hj, by simp [h]⟩
  unfold codeOk
  unfold stepOk at this
  rw [this]
  rfl
set_option maxHeartbeats 2000000 in
theorem sCodeOk (C : List Opx) (cA : Option Addr) (cC : Nat) {w0 w : World} {f : List Nat} {L L' : List Asn} (M0 : Mem w0 f w L) (hd : Del (rowO cA cC C) L L') :
    Calls Try.prog 94 #[.slice cA C.length cC] w fun e w' => e = .returned (.bool (codeOk C)) ∧ Below w.heap.size w w' := by
  have hm : C.length ≤ 140737488355328 := (row_reads M0 hd).1.2.1
  have HO := Lib.hid (fun o W => sOpOk o W)
  have HGo := Lib.hid (fun k W => sGoes k W)
  have HI := Lib.hid (fun n lo hi W => sIn n lo hi W)
  have MH := Lib.hid (fun W (hb : Below w.heap.size w W) => M0.below hb)
  have hdH := Lib.hid hd
  clear M0 hd
  have AL := add_lit0
  go_enter Try.func94, Try.ntmps94
  go_wp2
  go_loopg [3] C.length (fun gg i wr => ∃ k : Nat, k ≤ C.length ∧ C.length - k ≤ gg ∧ i = .int .i64 k ∧ Hid (∀ j (hj : j < C.length), j < k → stepOk C.length C[j] = true) ∧ Hid (Below w.heap.size w wr))
  case atStart => exact ⟨0, by omega, by omega, rfl, fun j _ h => absurd h (by omega), Below.refl _ _⟩
  case round =>
    obtain ⟨k, hk, hg, rfl, HA, BW⟩ := hrel
    by_cases hlt : k < C.length
    · have MW := MH.out _ BW.out
      obtain ⟨g, rfl⟩ := row_form MW hdH.out (by omega)
      have RO := Lib.hid (fun W (hb : Below w.heap.size w W) => elemO0 (MH.out W hb) hdH.out hlt)
      have E1 := RO.out _ BW.out
      have i1 : (0 : Int) ≤ k := by omega
      have i2 : (k : Int) < C.length := by omega
      have NO : Hid (stepOk C.length C[k] = false → codeOk C = false) := fun h => codeOk_no hlt h
      have YES : Hid (stepOk C.length C[k] = true → ∀ j (hj : j < C.length), j < k + 1 → stepOk C.length C[j] = true) := by
        intro h j hj hjk
        by_cases he : j = k
        · subst he; exact h
        · exact HA.out j hj (by omega)
      have HOk := Lib.hid (fun W => HO.out C[k] W)
      unfold stepOk at NO YES
      generalize C[k] = o at E1 RO NO HOk YES
      clear MW HO
      obtain ⟨kk, r, s, to, ⟨vk, vn⟩⟩ := o
      have HG1 := Lib.hid (fun W => HGo.out kk W)
      clear HGo
      simp only [opArr] at *
      generalize opOk ⟨kk, r, s, to, ⟨vk, vn⟩⟩ = x at NO HOk YES
      generalize goesTo kk = y at NO HG1 YES
      by_cases hd : (C.length : Int) ≤ to
      · rw [decide_eq_true hd] at NO YES
        cases x <;> cases y
        · go_wp2_with (first
            | (go_at_call 113; refine (HOk.out _).mono ?_; rintro e w2 ⟨rfl, hb⟩; have B2 := Lib.hid (below_step BW.out hb); clear hb; have E2 := RO.out _ B2.out)
            | (go_at_call 114; refine (HG1.out _).mono ?_; rintro e w2 ⟨rfl, rfl⟩))
          go_ret
          exact ⟨ret_bool (NO.out rfl).symm, B2.out⟩
        · go_wp2_with (first
            | (go_at_call 113; refine (HOk.out _).mono ?_; rintro e w2 ⟨rfl, hb⟩; have B2 := Lib.hid (below_step BW.out hb); clear hb; have E2 := RO.out _ B2.out)
            | (go_at_call 114; refine (HG1.out _).mono ?_; rintro e w2 ⟨rfl, rfl⟩))
          go_ret
          exact ⟨ret_bool (NO.out rfl).symm, B2.out⟩
        · go_wp2_with (first
            | (go_at_call 113; refine (HOk.out _).mono ?_; rintro e w2 ⟨rfl, hb⟩; have B2 := Lib.hid (below_step BW.out hb); clear hb; have E2 := RO.out _ B2.out)
            | (go_at_call 114; refine (HG1.out _).mono ?_; rintro e w2 ⟨rfl, rfl⟩))
          go_roundg (C.length - (k + 1))
          case measure => omega
          case rel => exact ⟨k + 1, by omega, by omega, by go_num, YES.out rfl, B2⟩
        · go_wp2_with (first
            | (go_at_call 113; refine (HOk.out _).mono ?_; rintro e w2 ⟨rfl, hb⟩; have B2 := Lib.hid (below_step BW.out hb); clear hb; have E2 := RO.out _ B2.out)
            | (go_at_call 114; refine (HG1.out _).mono ?_; rintro e w2 ⟨rfl, rfl⟩))
          go_ret
          exact ⟨ret_bool (NO.out rfl).symm, B2.out⟩
      · rw [decide_eq_false hd] at NO YES
        cases x <;> cases y
        · go_wp2_with (first
            | (go_at_call 113; refine (HOk.out _).mono ?_; rintro e w2 ⟨rfl, hb⟩; have B2 := Lib.hid (below_step BW.out hb); clear hb; have E2 := RO.out _ B2.out)
            | (go_at_call 114; refine (HG1.out _).mono ?_; rintro e w2 ⟨rfl, rfl⟩))
          go_ret
          exact ⟨ret_bool (NO.out rfl).symm, B2.out⟩
        · go_wp2_with (first
            | (go_at_call 113; refine (HOk.out _).mono ?_; rintro e w2 ⟨rfl, hb⟩; have B2 := Lib.hid (below_step BW.out hb); clear hb; have E2 := RO.out _ B2.out)
            | (go_at_call 114; refine (HG1.out _).mono ?_; rintro e w2 ⟨rfl, rfl⟩))
          go_ret
          exact ⟨ret_bool (NO.out rfl).symm, B2.out⟩
        · go_wp2_with (first
            | (go_at_call 113; refine (HOk.out _).mono ?_; rintro e w2 ⟨rfl, hb⟩; have B2 := Lib.hid (below_step BW.out hb); clear hb; have E2 := RO.out _ B2.out)
            | (go_at_call 114; refine (HG1.out _).mono ?_; rintro e w2 ⟨rfl, rfl⟩))
          go_roundg (C.length - (k + 1))
          case measure => omega
          case rel => exact ⟨k + 1, by omega, by omega, by go_num, YES.out rfl, B2⟩
        · go_wp2_with (first
            | (go_at_call 113; refine (HOk.out _).mono ?_; rintro e w2 ⟨rfl, hb⟩; have B2 := Lib.hid (below_step BW.out hb); clear hb; have E2 := RO.out _ B2.out)
            | (go_at_call 114; refine (HG1.out _).mono ?_; rintro e w2 ⟨rfl, rfl⟩))
          go_roundg (C.length - (k + 1))
          case measure => omega
          case rel => exact ⟨k + 1, by omega, by omega, by go_num, YES.out rfl, B2⟩
    · have : k = C.length := by omega
      subst this
      have e := Lib.hid (codeOk_yes (fun j hj => HA.out j hj hj))
      have HB := Lib.hid BW.out
      go_wp2_with (go_at_call 80; refine (HI.out _ _ _ _).mono ?_; rintro e w2 ⟨rfl, rfl⟩)
      go_ret
      exact ⟨ret_bool e.out.symm, HB.out⟩
end Go.Proofs.Ytmidnaafljgbiaa
/- Whether code is safe: its plain part. -/
namespace Go.Proofs.Ytmidnaafljgbiaa
open Go.RowKit
set_option maxRecDepth 100000

theorem safeFrom_yes {n : Nat} {F : List Int} : ∀ (c : List Opx) (i : Nat), (∀ j (hj : j < c.length), safeAt n F (i + j) c[j] = true) → safeFrom n F i c = true
  | [], _, _ => rfl
  | o :: c, i, h => by
    have h0 := h 0 (by simp)
    have h1 := safeFrom_yes (n := n) (F := F) c (i + 1) (fun j hj => by
      have := h (j + 1) (by simpa using hj)
      rw [show i + (j + 1) = i + 1 + j by omega] at this
      exact this)
    simp only [Nat.add_zero, List.getElem_cons_zero] at h0
    simp only [safeFrom, h0, h1, Bool.and_self]
theorem safeFrom_no {n : Nat} {F : List Int} : ∀ (c : List Opx) (i j : Nat) (hj : j < c.length), safeAt n F (i + j) c[j] = false → safeFrom n F i c = false
  | o :: c, i, 0, _, h => by
    simp only [Nat.add_zero, List.getElem_cons_zero] at h
    simp only [safeFrom, h, Bool.false_and]
  | o :: c, i, j + 1, hj, h => by
    have := safeFrom_no (n := n) (F := F) c (i + 1) j (by simpa using hj) (by
      rw [show i + (j + 1) = i + 1 + j by omega] at h
      exact h)
    simp only [safeFrom, this, Bool.and_false]
theorem codeSafe_yes {C : List Opx} (ho : codeOk C = true) (h : ∀ j (hj : j < C.length), safeAt C.length (fullOf C) j C[j] = true) : codeSafe C = true := by
  unfold codeSafe
  rw [ho, safeFrom_yes C 0 (fun j hj => by rw [Nat.zero_add]; exact h j hj)]
  rfl
theorem codeSafe_no {C : List Opx} {j : Nat} (hj : j < C.length) (h : safeAt C.length (fullOf C) j C[j] = false) : codeSafe C = false := by
  unfold codeSafe
  rw [safeFrom_no C 0 j hj (by rw [Nat.zero_add]; exact h), Bool.and_false]
theorem codeSafe_bad {C : List Opx} (ho : codeOk C = false) : codeSafe C = false := by
  unfold codeSafe
  rw [ho, Bool.false_and]
end Go.Proofs.Ytmidnaafljgbiaa
/- Whether code is safe. -/
namespace Go.Proofs.Ytmidnaafljgbiaa
open Go.RowKit
set_option maxRecDepth 100000

theorem codeOk_parts {C : List Opx} (h : codeOk C = true) : 1 ≤ C.length ∧ C.length ≤ 16 ∧ ∀ o ∈ C, opOk o = true := by
  simp only [codeOk, Bool.and_eq_true, decide_eq_true_eq, List.all_eq_true] at h
  exact ⟨h.1.2, h.2, fun o ho => (h.1.1 o ho).1⟩
set_option maxHeartbeats 2000000 in
theorem sCodeSafe (C : List Opx) (cA : Option Addr) (cC : Nat) {w0 w : World} {f : List Nat} {L : List Asn} (M : Mem w0 f w (rowO cA cC C :: L)) :
    Calls Try.prog 61 #[.slice cA C.length cC] w fun e w' => e = .returned (.bool (codeSafe C)) ∧ Mem w0 f w' (rowO cA cC C :: L) := by
  have HC := Lib.hid (fun W (M : Mem w0 f W (rowO cA cC C :: L)) => sCodeOk C cA cC M .here)
  cases hc : codeOk C with
  | false =>
    rw [hc] at HC
    rw [codeSafe_bad hc]
    clear hc
    go_enter Try.func61, Try.ntmps61
    go_wp2_with (go_at_call 94; refine (HC.out _ M).mono ?_; rintro e w2 ⟨rfl, hb⟩; replace M := M.below hb; clear hb; (try clear F); have F := fxw M)
    go_ret
    exact ⟨rfl, M⟩
  | true =>
    rw [hc] at HC
    obtain ⟨h1, h16, ho⟩ := codeOk_parts hc
    obtain ⟨go, rfl⟩ := row_form M .here (by omega)
    have HF := Lib.hid (fun W (M : Mem w0 f W (rowO (some ⟨go, 0, none⟩) cC C :: L)) => sFull C (some ⟨go, 0, none⟩) cC M h1 h16 ho)
    have HK := Lib.hid hc
    clear hc
    have HO := Lib.hid ho
    clear ho
    go_enter Try.func61, Try.ntmps61
    go_wp2_with (first
      | (go_at_call 94; refine (HC.out _ M).mono ?_; rintro e w2 ⟨rfl, hb⟩; replace M := M.below hb; clear hb; (try clear F); have F := fxw M)
      | (go_at_call 95; refine (HF.out _ M).mono ?_; clear M; rintro e w2 ⟨A, c, rfl, M⟩))
    have hl : (fullOf C).length = C.length := (settle_facts HO.out _ _ (Nat.le_refl _) (full0_bits _) (full0_length _).symm).1.1
    have HB := Lib.hid (settle_facts HO.out _ _ (Nat.le_refl _) (full0_bits C.length) (full0_length _).symm).1.2.1
    obtain ⟨g, rfl⟩ := row_form M .here (by omega)
    have HL := Lib.hid hl
    clear hl
    go_loopg [4] C.length (fun gg i wr => ∃ k : Nat, k ≤ C.length ∧ C.length - k ≤ gg ∧ i = .int .i64 k ∧ Hid (∀ j (hj : j < C.length), j < k → safeAt C.length (fullOf C) j C[j] = true) ∧ Hid (Mem w0 f wr (rowI (some ⟨g, 0, none⟩) c (fullOf C) :: rowO (some ⟨go, 0, none⟩) cC C :: L)))
    case atStart => exact ⟨0, by omega, by omega, rfl, fun j _ h => absurd h (by omega), M⟩
    case round =>
      clear M
      obtain ⟨k, hk, hg, rfl, HA, M⟩ := hrel
      replace M := M.out
      by_cases hlt : k < C.length
      · have hkF : k < (fullOf C).length := by rw [HL.out]; exact hlt
        have ex : (fullOf C)[k] = getI (fullOf C) k := by unfold getI; simp [List.getD_eq_getElem?_getD, List.getElem?_eq_getElem hkF]
        have RI := Lib.hid (fun W (L L' : List Asn) (M : Mem w0 f W L) (hd : Del (rowI (some ⟨g, 0, none⟩) c (fullOf C)) L L') => elemI M hd hkF)
        rw [ex] at RI
        obtain ⟨E1, E2⟩ := RI.out _ _ _ M .here
        have hx := HB.out _ (getI_mem (f := fullOf C) (i := k) (by omega) (by omega))
        have YES : Hid (safeAt C.length (fullOf C) k C[k] = true → ∀ j (hj : j < C.length), j < k + 1 → safeAt C.length (fullOf C) j C[j] = true) := by
          intro h j hj hjk
          by_cases he : j = k
          · subst he; exact h
          · exact HA.out j hj (by omega)
        have NO : Hid (safeAt C.length (fullOf C) k C[k] = false → codeSafe C = false) := fun h => codeSafe_no hlt h
        have i1 : (0 : Int) ≤ k := by omega
        have i2 : (k : Int) < C.length := by omega
        by_cases hn : getI (fullOf C) k < 0
        · have hs := Lib.hid (YES.out (by unfold safeAt; rw [decide_eq_true hn]; rfl))
          clear ex
          generalize getI (fullOf C) k = x at E1 hn
          have b1 : decide (x < 0) = true := decide_eq_true hn
          clear RI hx NO YES
          go_wp2
          go_roundg (C.length - (k + 1))
          case measure => omega
          case rel => exact ⟨k + 1, by omega, by omega, by go_num, hs, M⟩
        · have hop := HO.out _ (List.getElem_mem hlt)
          have SA : Hid (safeAt C.length (fullOf C) k C[k] = ((opUses C[k]).all (fun s => hasBit (getI (fullOf C) k) s) && (!(k + 1 == C.length) || C[k].k == 9 || C[k].k == 14))) := by
            unfold safeAt
            rw [decide_eq_false hn, Bool.false_or]
            rfl
          have RO := Lib.hid (fun W (L L' : List Asn) (M : Mem w0 f W L) (hd : Del (rowO (some ⟨go, 0, none⟩) cC C) L L') => elemO0 M hd hlt)
          have E3 := RO.out _ _ _ M (.there .here)
          clear ex
          generalize getI (fullOf C) k = x at E1 hn hx RI SA
          have b1 : decide (x < 0) = false := decide_eq_false hn
          have hU := Lib.hid (fun W (L : List Asn) (M : Mem w0 f W L) => sUses C[k] M)
          have HY := YES
          rw [SA.out] at HY NO
          clear YES SA
          have hus : ∀ s ∈ opUses C[k], inB s 0 3 = true := by
            intro s hs
            obtain ⟨_, _, _, _, hr, hs', _⟩ := opOk_parts hop
            unfold opUses at hs
            (repeat' split at hs) <;> simp at hs <;> (try rcases hs with rfl | rfl) <;> (try subst hs) <;> exact inB_iff.2 (by assumption)
          have HUS := Lib.hid hus
          clear hus hop HA
          generalize C[k] = o at E3 RO hU HY NO HUS
          obtain ⟨kk, r, s, to, ⟨vk, vn⟩⟩ := o
          simp only [opArr] at *
          go_wp2_with (go_at_call 96; (refine nmKw ?_; clear M; (try clear F); intro w1 M F); refine (hU.out _ _ M).mono ?_; clear M; rintro e w2 ⟨A2, c2, rfl, M⟩)
          generalize hq : opUses ⟨kk, r, s, to, ⟨vk, vn⟩⟩ = us at M HY NO HUS
          have hul : us.length ≤ 2 := by rw [← hq]; unfold opUses; (repeat' split) <;> simp
          clear hq hU
          (try simp only [LX] at M)
          (try clear F); have F := fxw M
          go_wp2
          go_loopg [6] us.length (fun gg i wr => ∃ m : Nat, m ≤ us.length ∧ us.length - m ≤ gg ∧ i = .int .i64 m ∧ Hid (∀ j (hj : j < us.length), j < m → hasBit x us[j] = true) ∧ Hid (Mem w0 f wr (rowI A2 c2 us :: rowI (some ⟨g, 0, none⟩) c (fullOf C) :: rowO (some ⟨go, 0, none⟩) cC C :: L)))
          case atStart => exact ⟨0, by omega, by omega, rfl, fun j _ h => absurd h (by omega), M⟩
          case round =>
            clear M
            obtain ⟨m, hm, hg2, rfl, HB2, M⟩ := hrel
            replace M := M.out
            by_cases hmu : m < us.length
            · obtain ⟨g2, rfl⟩ := row_form M .here (by omega)
              have RU := Lib.hid (fun W (L L' : List Asn) (M : Mem w0 f W L) (hd : Del (rowI (some ⟨g2, 0, none⟩) c2 us) L L') => (elemI M hd hmu).1)
              have RX := Lib.hid (fun W (L L' : List Asn) (M : Mem w0 f W L) (hd : Del (rowI (some ⟨g, 0, none⟩) c (fullOf C)) L L') => (RI.out W L L' M hd).1)
              have E4 := RU.out _ _ _ M .here
              have E5 := RX.out _ _ _ M (.there .here)
              have HH := Lib.hid (fun W => sHas x us[m] (by omega) hx.2 (HUS.out _ (List.getElem_mem hmu)) W)
              have HN : Hid (hasBit x us[m] = false → codeSafe C = false) := by
                intro h
                refine NO.out ?_
                have : us.all (fun s => hasBit x s) = false := by rw [List.all_eq_false]; exact ⟨us[m], List.getElem_mem hmu, by simp [h]⟩
                rw [this, Bool.false_and]
              have HP : Hid (hasBit x us[m] = true → ∀ j (hj : j < us.length), j < m + 1 → hasBit x us[j] = true) := by
                intro h j hj hjm
                by_cases he : j = m
                · subst he; exact h
                · exact HB2.out j hj (by omega)
              have j1 : (0 : Int) ≤ m := by omega
              have j2 : (m : Int) < us.length := by omega
              generalize us[m] = y at RU E4 HH HN HP
              generalize hasBit x y = hb at HH HN HP
              clear HY NO RI hn hx HUS HB2 E1 E2 E3
              go_wp2
              have HK2 : Hid (∀ W (L2 : List Asn), Mem w0 f W (rowI (some ⟨g2, 0, none⟩) c2 us :: rowI (some ⟨g, 0, none⟩) c (fullOf C) :: L2) → W.cell? ⟨g, k, none⟩ = some (.int .i64 x) ∧ W.cell? ⟨g2, m, none⟩ = some (.int .i64 y)) := fun W L2 M => ⟨RX.out W _ _ M (.there .here), RU.out W _ _ M .here⟩
              cases hb
              · have hno := Lib.hid (HN.out rfl)
                clear HN HP E4 E5
                go_region_held3 (fun W => W.cell? ⟨g, k, none⟩ = some (.int .i64 x) ∧ W.cell? ⟨g2, m, none⟩ = some (.int .i64 y)) ((apply HK2.out; exact mb)) ((go_at_call 82; (refine nmKw ?_; clear M; (try clear F); intro w1 M F); refine (HH.out _).mono ?_; rintro e w2 ⟨rfl, hb⟩; replace M := M.below hb; clear hb; (try clear F); have F := fxw M))
                go_wp2
                go_ret
                exact ⟨ret_bool hno.out.symm, M.sel sl⟩
              · have hpp := Lib.hid (HP.out rfl)
                clear HN HP E4 E5
                go_region_held3 (fun W => W.cell? ⟨g, k, none⟩ = some (.int .i64 x) ∧ W.cell? ⟨g2, m, none⟩ = some (.int .i64 y)) ((apply HK2.out; exact mb)) ((go_at_call 82; (refine nmKw ?_; clear M; (try clear F); intro w1 M F); refine (HH.out _).mono ?_; rintro e w2 ⟨rfl, hb⟩; replace M := M.below hb; clear hb; (try clear F); have F := fxw M))
                go_wp2
                go_roundg (us.length - (m + 1))
                case measure => omega
                case rel => exact ⟨m + 1, by omega, by omega, by go_num, hpp, M.sel sl⟩
            · have hall : us.all (fun s => hasBit x s) = true := by
                rw [List.all_eq_true]
                intro y hy
                obtain ⟨j, hj, rfl⟩ := List.getElem_of_mem hy
                exact HB2.out j hj (by omega)
              have : m = us.length := by omega
              subst this
              rw [hall, Bool.true_and] at HY NO
              clear hall HB2 HUS
              have E3 := RO.out _ _ _ M (.there (.there .here))
              have i4 : IntKind.i64.wrap ((k : Int) + 1) = (k : Int) + 1 := by rw [IntKind.wrap_i64]; omega
              by_cases hend : k + 1 = C.length
              · have b2 : ((k : Int) + 1 == (C.length : Int)) = true := by simpa using (by omega : (k : Int) + 1 = C.length)
                rw [beq_iff_eq.2 hend, Bool.not_true, Bool.false_or] at HY NO
                cases k9 : (kk == 9) with
                | true =>
                  rw [k9] at HY
                  have hy := Lib.hid (HY.out rfl)
                  have n9 : (kk != 9) = false := by simpa using k9
                  clear HY NO hend k9
                  go_wp2
                  go_roundg (C.length - (k + 1))
                  case measure => omega
                  case rel => exact ⟨k + 1, by omega, by omega, by go_num, hy, M.sel sl⟩
                | false =>
                rw [k9] at HY NO
                have n9 : (kk != 9) = true := by simpa using k9
                cases k14 : (kk == 14) with
                | true =>
                  rw [k14] at HY
                  have hy := Lib.hid (HY.out rfl)
                  have n14 : (kk != 14) = false := by simpa using k14
                  clear HY NO hend k9 k14
                  go_wp2
                  go_roundg (C.length - (k + 1))
                  case measure => omega
                  case rel => exact ⟨k + 1, by omega, by omega, by go_num, hy, M.sel sl⟩
                | false =>
                  rw [k14] at NO
                  have hno := Lib.hid (NO.out rfl)
                  have n14 : (kk != 14) = true := by simpa using k14
                  clear HY NO hend k9 k14
                  go_wp2
                  go_ret
                  exact ⟨ret_bool hno.out.symm, M.sel sl⟩
              · have b2 : ((k : Int) + 1 == (C.length : Int)) = false := by simpa using (by omega : ¬ (k : Int) + 1 = C.length)
                rw [beq_eq_false_iff_ne.2 hend, Bool.not_false, Bool.true_or, Bool.true_or] at HY
                have hy := Lib.hid (HY.out rfl)
                clear HY NO hend
                go_wp2
                go_roundg (C.length - (k + 1))
                case measure => omega
                case rel => exact ⟨k + 1, by omega, by omega, by go_num, hy, M.sel sl⟩
      · have : k = C.length := by omega
        subst this
        have e := Lib.hid (codeSafe_yes HK.out (fun j hj => HA.out j hj hj))
        go_wp2
        go_ret
        exact ⟨ret_bool e.out.symm, M.sel sl⟩
end Go.Proofs.Ytmidnaafljgbiaa
/- When a run is ok, by the program's text. -/
namespace Go.Proofs.Ytmidnaafljgbiaa
open Go.RowKit
set_option maxRecDepth 100000

theorem bits_has {f : Int} {k : Nat} (h0 : 0 ≤ f) (h1 : f ≤ 15) (hk : k < 4) : (bits BinOp.and IntKind.i64 (f / 2 ^ k) 1 = 0 → hasBit f k = false) ∧ (¬ bits BinOp.and IntKind.i64 (f / 2 ^ k) 1 = 0 → hasBit f k = true) := by
  have key : ∀ f : Fin 16, ∀ k : Fin 4, (bits BinOp.and IntKind.i64 ((f.val : Int) / 2 ^ k.val) 1 = 0 → hasBit f.val k.val = false) ∧ (¬ bits BinOp.and IntKind.i64 ((f.val : Int) / 2 ^ k.val) 1 = 0 → hasBit f.val k.val = true) := by decide
  obtain ⟨f', rfl⟩ := Int.eq_ofNat_of_zero_le h0
  exact key ⟨f', by omega⟩ ⟨k, hk⟩

set_option maxHeartbeats 4000000 in
theorem iSlotsOk_loop (r : Rn) (a : RA) (B : Nat) (w : World) (h4 : r.slots.length = 4) (ha : allOk r.slots = true) (hf : inB r.full 0 15 = true) (hr : ReadsRun w B r a) (hB : B ≤ w.heap.size) :
    Calls Try.prog 76 #[.agg (runArr r a)] w fun e w' => e = .returned (.bool (slotsFrom r.full 0 r.slots)) ∧ Below w.heap.size w w' := by
  have hsl := @slotsFrom_cut r.full r.slots 0
  have hv := allOk_cut.1 ha
  obtain ⟨id, at_, slots, full, mail, state, due, links, watched, trap, ⟨wk, wn⟩, turns⟩ := r
  obtain ⟨sA, sC, mA, mC, lA, lC, wA, wC⟩ := a
  simp only at h4 ha hf hsl hv
  have HSL := Lib.hid hsl
  have HV := Lib.hid hv
  clear hsl hv
  obtain ⟨f0, f15⟩ := inB_iff.1 hf
  obtain ⟨b, hb⟩ : ∃ b, b = slotsFrom full 0 slots := ⟨_, rfl⟩
  simp only [runArr]
  rw [← hb]
  have HB := Lib.hid hb
  have hVs := Lib.hid (fun W (hbb : Below w.heap.size w W) => iValsOk slots sA sC B W (hr.slots.below' hbb hB) (Nat.le_trans hB hbb.size))
  rw [ha, h4] at hVs
  rw [h4]
  have P3 := Lib.hid h4
  clear h4 hb ha
  go_enter Try.func76, Try.ntmps76
  go_wp2_with (first
    | ((with_reducible refine gate_dst (N := 1) rfl ?_); refine box_ev ?hg (N := 1) ?hd (cs := #[.int .i64 id, .int .i64 at_, .slice sA 4 sC, .int .i64 full, .slice mA mail.length mC, .int .i64 state, .int .i64 due, .slice lA links.length lC, .slice wA watched.length wC, .bool trap, .int .i64 wk, .int .i64 wn, .int .i64 turns]) (t := 32) ?hr ?_; (case hd => rfl); (case hg => rfl); (case hr => first | (go_simp; done) | (go_simp; rfl)); intro g w1 hg hbox hW; obtain ⟨hgl, hcell⟩ := hbox)
    | (go_at_call 75; refine (iIn _ _ _ _).mono ?_; rintro e w' ⟨rfl, rfl⟩) | (go_at_call 77; refine (hVs.out _ hW).mono ?_; rintro e w' ⟨rfl, hb1⟩; have hcell1 := keepB hb1 hgl hcell))
  obtain ⟨w2, rfl⟩ : ∃ w2 : World, w2 = w' := ⟨_, rfl⟩
  have hW2 := Lib.hid (below_step hW hb1)
  have hgl2 : g < w2.heap.size := Nat.lt_of_lt_of_le hgl hb1.size
  have hr2 := Lib.hid (hr.below hW2.out hB)
  clear hr hb1 hW hgl hcell
  go_loopg [3, 4, 24] 4 (fun gg _ _ s wr => ∃ k : Nat, k ≤ 4 ∧ 4 - k ≤ gg ∧ s = .int .i64 k ∧ Hid (Below w2.heap.size w2 wr) ∧ Hid (∀ j (hj : j < slots.length), j < k → (hasBit full (0 + j) = true ∨ (slots[j] == Vl.zero) = true)))
  case atStart => exact ⟨0, Nat.zero_le _, by omega, rfl, Below.refl _ _, fun j _ h => absurd h (by omega)⟩
  case round =>
    obtain ⟨k, hk, hgg, rfl, BW, hn⟩ := hrel
    have hcell2 := keepB BW.out hgl2 hcell1
    have hgr : g < wr.heap.size := Nat.lt_of_lt_of_le hgl2 BW.out.size
    have hr3 := Lib.hid (hr2.out.below BW.out (Nat.le_trans hB hW2.out.size))
    by_cases hlt : k < 4
    · have hlt' : k < slots.length := by rw [P3.out]; exact hlt
      obtain ⟨ad, rfl, hab, hc1, hc2⟩ := hr3.out.slots.val hlt'
      have har : (ad.add (k * 2)).block < wr.heap.size := by rw [block_of_add]; have := hW2.out.size; have := BW.out.size; omega
      have hx : Hid (¬ (hasBit full (0 + (k : Int)) = true ∨ (slots[k] == Vl.zero) = true) → false = b) := by
        intro h1
        rw [HB.out]
        cases hq : slotsFrom full 0 slots with
        | false => rfl
        | true => exact absurd (HSL.out.1 hq k hlt').2 h1
      have hl2 : Hid ((hasBit full (0 + (k : Int)) = true ∨ (slots[k] == Vl.zero) = true) → ∀ j (hj : j < slots.length), j < k + 1 → (hasBit full (0 + (j : Int)) = true ∨ (slots[j] == Vl.zero) = true)) := fun h1 j hj hjk => by
        by_cases e : j = k
        · subst e; exact h1
        · exact hn j hj (by omega)
      rw [Int.zero_add] at hx hl2
      generalize slots[k] = x at hc1 hc2 hx hl2
      obtain ⟨xk, xn⟩ := x
      go_wp2
      · have e1 : xk = 0 := by assumption
        have e2 : xn = 0 := by assumption
        have hz := Lib.hid (hl2.out (.inr (by rw [e1, e2]; rfl)))
        clear e1 e2
        go_roundg (4 - (k + 1))
        case measure => omega
        case rel => exact ⟨k + 1, by omega, by omega, by go_num, by repeat (first | exact BW.out | apply below_new | refine below_set ?_ BW.out.size), hz.out⟩
      · have e0 : bits BinOp.and IntKind.i64 (full / 2 ^ k) 1 = 0 := by assumption
        have e2 : ¬ xn = 0 := by assumption
        have hz := Lib.hid (hx.out (fun h => not_n (p := True) ((bits_has f0 f15 hlt).1 e0) e2 ⟨trivial, h⟩))
        clear e0 e2
        go_ret
        exact ⟨ret_bool hz.out, below_step hW2.out (by repeat (first | exact BW.out | apply below_new | refine below_set ?_ BW.out.size))⟩
      · have e0 : bits BinOp.and IntKind.i64 (full / 2 ^ k) 1 = 0 := by assumption
        have e1 : ¬ xk = 0 := by assumption
        have hz := Lib.hid (hx.out (fun h => not_k (p := True) ((bits_has f0 f15 hlt).1 e0) e1 ⟨trivial, h⟩))
        clear e0 e1
        go_ret
        exact ⟨ret_bool hz.out, below_step hW2.out (by repeat (first | exact BW.out | apply below_new | refine below_set ?_ BW.out.size))⟩
      · have e0 : ¬ bits BinOp.and IntKind.i64 (full / 2 ^ k) 1 = 0 := by assumption
        have hz := Lib.hid (hl2.out (.inl ((bits_has f0 f15 hlt).2 e0)))
        clear e0
        go_roundg (4 - (k + 1))
        case measure => omega
        case rel => exact ⟨k + 1, by omega, by omega, by go_num, by repeat (first | exact BW.out | apply below_new | refine below_set ?_ BW.out.size), hz.out⟩
    · have hk4 : k = 4 := by omega
      subst hk4
      have hz : Hid (true = b) := by
        show true = b
        rw [HB.out]
        exact (HSL.out.2 (fun j hj => ⟨HV.out j hj, hn.out j hj (by have := P3.out; omega)⟩)).symm
      clear hn
      go_wp2
      go_ret
      exact ⟨ret_bool hz.out, below_step hW2.out BW.out⟩

/-- Slots, as the program looks at them. -/
def slotsB (r : Rn) : Bool := decide (r.slots.length = 4) && allOk r.slots && inB r.full 0 15 && slotsFrom r.full 0 r.slots
set_option maxHeartbeats 4000000 in
theorem iSlotsOk (r : Rn) (a : RA) (B : Nat) (w : World) (hr : ReadsRun w B r a) (hB : B ≤ w.heap.size) :
    Calls Try.prog 76 #[.agg (runArr r a)] w fun e w' => e = .returned (.bool (slotsB r)) ∧ Below w.heap.size w w' := by
  by_cases h4 : r.slots.length = 4
  · cases ha : allOk r.slots with
    | true =>
      cases hf : inB r.full 0 15 with
      | true =>
        have : slotsB r = slotsFrom r.full 0 r.slots := by simp [slotsB, h4, ha, hf]
        rw [this]
        exact iSlotsOk_loop r a B w h4 ha hf hr hB
      | false =>
        have : slotsB r = false := by simp [slotsB, hf]
        rw [this]
        obtain ⟨id, at_, slots, full, mail, state, due, links, watched, trap, ⟨wk, wn⟩, turns⟩ := r
        obtain ⟨sA, sC, mA, mC, lA, lC, wA, wC⟩ := a
        simp only at h4 ha hf
        have hVs := Lib.hid (fun W (hbb : Below w.heap.size w W) => iValsOk slots sA sC B W (hr.slots.below' hbb hB) (Nat.le_trans hB hbb.size))
        rw [ha, h4] at hVs
        simp only [runArr]
        rw [h4]
        clear h4 ha hr this
        go_enter Try.func76, Try.ntmps76
        go_wp2_with (first
          | ((with_reducible refine gate_dst (N := 1) rfl ?_); refine box_ev ?hg (N := 1) ?hd (cs := #[.int .i64 id, .int .i64 at_, .slice sA 4 sC, .int .i64 full, .slice mA mail.length mC, .int .i64 state, .int .i64 due, .slice lA links.length lC, .slice wA watched.length wC, .bool trap, .int .i64 wk, .int .i64 wn, .int .i64 turns]) (t := 32) ?hr ?_; (case hd => rfl); (case hg => rfl); (case hr => first | (go_simp; done) | (go_simp; rfl)); intro g w1 hg hbox hW; obtain ⟨hgl, hcell⟩ := hbox)
          | (go_at_call 75; refine (iIn _ _ _ _).mono ?_; rintro e w' ⟨rfl, rfl⟩) | (go_at_call 77; refine (hVs.out _ hW).mono ?_; rintro e w' ⟨rfl, hb1⟩; have hcell1 := keepB hb1 hgl hcell))
        go_ret
        exact ⟨rfl, below_step hW hb1⟩
    | false =>
      have : slotsB r = false := by simp [slotsB, ha]
      rw [this]
      obtain ⟨id, at_, slots, full, mail, state, due, links, watched, trap, ⟨wk, wn⟩, turns⟩ := r
      obtain ⟨sA, sC, mA, mC, lA, lC, wA, wC⟩ := a
      simp only at h4 ha
      have hVs := Lib.hid (fun W (hbb : Below w.heap.size w W) => iValsOk slots sA sC B W (hr.slots.below' hbb hB) (Nat.le_trans hB hbb.size))
      rw [ha, h4] at hVs
      simp only [runArr]
      rw [h4]
      clear h4 ha hr this
      go_enter Try.func76, Try.ntmps76
      go_wp2_with (first
        | ((with_reducible refine gate_dst (N := 1) rfl ?_); refine box_ev ?hg (N := 1) ?hd (cs := #[.int .i64 id, .int .i64 at_, .slice sA 4 sC, .int .i64 full, .slice mA mail.length mC, .int .i64 state, .int .i64 due, .slice lA links.length lC, .slice wA watched.length wC, .bool trap, .int .i64 wk, .int .i64 wn, .int .i64 turns]) (t := 32) ?hr ?_; (case hd => rfl); (case hg => rfl); (case hr => first | (go_simp; done) | (go_simp; rfl)); intro g w1 hg hbox hW; obtain ⟨hgl, hcell⟩ := hbox)
        | (go_at_call 75; refine (iIn _ _ _ _).mono ?_; rintro e w' ⟨rfl, rfl⟩) | (go_at_call 77; refine (hVs.out _ hW).mono ?_; rintro e w' ⟨rfl, hb1⟩; have hcell1 := keepB hb1 hgl hcell))
      go_ret
      exact ⟨rfl, below_step hW hb1⟩
  · have : slotsB r = false := by simp [slotsB, h4]
    rw [this]
    obtain ⟨id, at_, slots, full, mail, state, due, links, watched, trap, ⟨wk, wn⟩, turns⟩ := r
    obtain ⟨sA, sC, mA, mC, lA, lC, wA, wC⟩ := a
    simp only [runArr] at h4 ⊢
    generalize slots.length = ns at h4
    clear hr this
    go_enter Try.func76, Try.ntmps76
    go_wp2
    go_ret
    exact ⟨rfl, below_box _ _⟩
end Go.Proofs.Ytmidnaafljgbiaa
