/- Parts of the proof, in one text. -/
import Derived.Test.YtomolbhcggaakaaGreatG37
import Derived.Test.YtomolbhcggaakaaGreatG32
/- Whether code is safe, by the program's text. -/
namespace Go.Proofs.YtomolbhcggaakaaGreat
open Go.RowKit
set_option maxRecDepth 100000

theorem safe_end (k n : Nat) (kk : Int) (a s : Bool) (h : s = (a && (!(k + 1 == n) || kk == 9 || kk == 14))) :
    (((k : Int) == (n : Int) - 1) = false ∧ s = a) ∨ (((k : Int) == (n : Int) - 1) = true ∧ (kk != 9) = false ∧ s = a) ∨ (((k : Int) == (n : Int) - 1) = true ∧ (kk != 9) = true ∧ (kk != 14) = false ∧ s = a) ∨ (((k : Int) == (n : Int) - 1) = true ∧ (kk != 9) = true ∧ (kk != 14) = true ∧ s = false) := by
  have e : ((k : Int) == (n : Int) - 1) = (k + 1 == n) := by
    rw [Bool.eq_iff_iff, beq_iff_eq, beq_iff_eq]
    omega
  rw [e, h]
  cases (k + 1 == n)
  · simp
  · cases h9 : (kk == 9)
    · cases h14 : (kk == 14)
      · simp [bne, h9, h14]
      · simp [bne, h9, h14]
    · simp [bne, h9]
theorem uses_in {o : Opx} (ho : opOk o = true) : ∀ s ∈ opUses o, inB s 0 3 = true := by
  intro s hs
  obtain ⟨_, _, _, _, hr, hs', _⟩ := opOk_parts ho
  unfold opUses at hs
  (repeat' split at hs) <;> simp at hs <;> (try rcases hs with rfl | rfl) <;> (try subst hs) <;> exact inB_iff.2 (by assumption)
theorem uses_len (o : Opx) : (opUses o).length ≤ 2 := by unfold opUses; (repeat' split) <;> simp
theorem codeOk_steps {C : List Opx} (h : codeOk C = true) : ∀ o ∈ C, stepOk C.length o = true := by
  simp only [codeOk, Bool.and_eq_true, decide_eq_true_eq, List.all_eq_true] at h
  intro o ho
  have := h.1.1 o ho
  unfold stepOk
  rw [this.1, this.2]
  rfl
set_option maxHeartbeats 4000000 in
theorem iCodeSafe (C : List Opx) (cA : Option Addr) (cC : Nat) {w0 w : World} {f : List Nat} {L : List Asn} (M : Mem w0 f w (rowO cA cC C :: L)) :
    Calls Tryz.prog 53 #[.slice cA C.length cC] w fun e w' => e = .returned (.bool (codeSafe C)) ∧ Mem w0 f w' (rowO cA cC C :: L) := by
  have HC := Lib.hid (fun W (M : Mem w0 f W (rowO cA cC C :: L)) => iCodeOk C cA cC M .here)
  cases hc : codeOk C with
  | false =>
    rw [hc] at HC
    rw [codeSafe_bad hc]
    clear hc
    go_enter Tryz.func53, Tryz.ntmps53
    go_wp2_with (go_at_call 95; refine (HC.out _ M).mono ?_; rintro e w2 ⟨rfl, hb⟩; replace M := M.below hb; clear hb; (try clear F); have F := M.facts; simp only [FX] at F)
    go_ret
    exact ⟨rfl, M⟩
  | true =>
    rw [hc] at HC
    obtain ⟨h1, h16, ho⟩ := codeOk_parts hc
    have hst := codeOk_steps hc
    obtain ⟨go, rfl⟩ := row_form M .here (by omega)
    have HF := Lib.hid (fun W (M : Mem w0 f W (rowO (some ⟨go, 0, none⟩) cC C :: L)) => iFull C (some ⟨go, 0, none⟩) cC M h1 h16 ho hst)
    have HK := Lib.hid hc
    clear hc hst
    have HO := Lib.hid ho
    clear ho
    have eg := enters_of Tryz.func98 (by kernel_rfl) rfl
    have HEG := Lib.hid eg
    clear eg
    go_enter Tryz.func53, Tryz.ntmps53
    go_wp2_with (first
      | (go_at_call 95; refine (HC.out _ M).mono ?_; rintro e w2 ⟨rfl, hb⟩; replace M := M.below hb; clear hb; (try clear F); have F := M.facts; simp only [FX] at F)
      | (go_at_call 56; refine (HF.out _ M).mono ?_; clear M; rintro e w2 ⟨A, c, rfl, M⟩))
    have hl : (fullOf C).length = C.length := (settle_facts HO.out _ _ (Nat.le_refl _) (full0_bits _) (full0_length _).symm).1.1
    have HB := Lib.hid (settle_facts HO.out _ _ (Nat.le_refl _) (full0_bits C.length) (full0_length _).symm).1.2.1
    obtain ⟨g, rfl⟩ := row_form M .here (by omega)
    have HL := Lib.hid hl
    clear hl
    go_loopg [3, 12] C.length (fun gg _ i wr => ∃ k : Nat, k ≤ C.length ∧ C.length - k ≤ gg ∧ i = .int .i64 k ∧ Hid (∀ j (hj : j < C.length), j < k → safeAt C.length (fullOf C) j C[j] = true) ∧ Hid (Mem w0 f wr (rowI (some ⟨g, 0, none⟩) c (fullOf C) :: rowO (some ⟨go, 0, none⟩) cC C :: L)))
    case atStart => exact ⟨0, by omega, by omega, rfl, fun j _ h => absurd h (by omega), M⟩
    case round =>
      clear M
      obtain ⟨k, hk, hg, rfl, HA, M⟩ := hrel
      replace M := M.out
      by_cases hlt : k < C.length
      · have hkF : k < (fullOf C).length := by rw [HL.out]; exact hlt
        have ex : (fullOf C)[k] = getI (fullOf C) k := by unfold getI; simp [List.getD_eq_getElem?_getD, List.getElem?_eq_getElem hkF]
        obtain ⟨E1, E2⟩ := elemI M .here hkF
        rw [ex] at E1
        have hx := HB.out _ (getI_mem (f := fullOf C) (i := k) (by omega) (by omega))
        have YES : Hid (safeAt C.length (fullOf C) k C[k] = true → ∀ j (hj : j < C.length), j < k + 1 → safeAt C.length (fullOf C) j C[j] = true) := by
          intro h j hj hjk
          by_cases he : j = k
          · subst he; exact h
          · exact HA.out j hj (by omega)
        have NO : Hid (safeAt C.length (fullOf C) k C[k] = false → codeSafe C = false) := fun h => codeSafe_no hlt h
        have i1 : (0 : Int) ≤ k := by omega
        have i2 : (k : Int) < C.length := by omega
        by_cases hn : getI (fullOf C) k < 0
        · have hs := Lib.hid (YES.out (by unfold safeAt; rw [decide_eq_true hn]; rfl))
          clear ex
          generalize getI (fullOf C) k = x at E1 hn
          have b1 : decide (x < 0) = true := decide_eq_true hn
          clear hx NO YES
          go_wp2_with (first | ((with_reducible refine goal_alloc (G := fun W => wpList _ _ _ _ _ W) M ?_); clear M; intro w1 M; (try clear F); have F := M.facts; simp only [FX] at F) | ((with_reducible apply ev_store (M := M)); rfl; rfl; ((conv => lhs; whnf) <;> rfl); rfl; (first | exact siI | exact siR | exact siV | exact siB | exact siSI | exact siSV | exact siW | exact siSR | exact siSO | exact siO); (exact one_all rfl); (repeat (first | with_reducible exact Del.here | with_reducible apply Del.there)); (exact Nat.le_of_ble_eq_true rfl); clear M; intro w1 M; simp only [SX] at M; (try clear F); have F := M.facts; simp only [FX] at F))
          go_roundg (C.length - (k + 1))
          case measure => omega
          case rel => exact ⟨k + 1, by omega, by omega, by go_num, hs, M.drop⟩
        · have hop := HO.out _ (List.getElem_mem hlt)
          obtain ⟨s, hs⟩ : ∃ s, s = safeAt C.length (fullOf C) k C[k] := ⟨_, rfl⟩
          have SA : s = ((opUses C[k]).all (fun s => hasBit (getI (fullOf C) k) s) && (!(k + 1 == C.length) || C[k].k == 9 || C[k].k == 14)) := by
            rw [hs]
            unfold safeAt
            rw [decide_eq_false hn, Bool.false_or]
          rw [← hs] at YES NO
          clear hs
          have RO := Lib.hid (fun W (L L' : List Asn) (M : Mem w0 f W L) (hd : Del (rowO (some ⟨go, 0, none⟩) cC C) L L') => elemO0 M hd hlt)
          clear ex
          generalize getI (fullOf C) k = x at E1 hn hx SA
          have b1 : decide (x < 0) = false := decide_eq_false hn
          have hU := Lib.hid (fun W (L : List Asn) (M : Mem w0 f W L) => iUses C[k] M hop)
          unfold UsesPost at hU
          have HUS := Lib.hid (uses_in hop)
          have hul := uses_len C[k]
          have HFN : Hid (∀ (W : World) (L L' L2 : List Asn) (g4 : Nat) (A2 : Option Addr) (c2 : Nat) (us : List Int), (us = opUses C[k]) → Mem w0 f W L → Del (rowI A2 c2 us) L L' → Del (blk g4 tI [.int .i64 x]) L L2 → Calls Tryz.prog 96 #[.slice A2 us.length c2, .func (.func 98) #[] #[.pointer (some ⟨g4, 0, none⟩)]] W fun e w' => e = .returned (.bool (us.any (fun s => !hasBit x s))) ∧ Below W.heap.size W w') := by
            intro W L L' L2 g4 A2 c2 us hus M hd hd2
            have hB := (M.is hd2 |> (blk g4 tI [.int .i64 x]).imp W)
            refine iContainsI (fun s => !hasBit x s) _ #[.pointer (some ⟨g4, 0, none⟩)] HEG.out us A2 c2 W (row_reads M hd).1.2.1 (fun j hj => ?_) (fun V y hy hV => ?_)
            · obtain ⟨ga, rfl⟩ := row_form M hd (by omega)
              exact ⟨ga, rfl, (row_elem encI_length M hd hj).1, (elemI M hd hj).1⟩
            · refine (iLacks y x g4 ⟨by omega, hx.2⟩ (inB_iff.1 (HUS.out y (hus ▸ hy))) V ((hV.cell (p := ⟨g4, 0, none⟩) hB.1).trans (hB.2.1 0))).mono ?_
              rintro e w' ⟨h1, rfl⟩
              exact ⟨h1, hV⟩
          clear hop HA HUS hx
          have hend := safe_end k C.length C[k].k _ s SA
          clear SA
          generalize hus : opUses C[k] = us at hend hU HFN hul
          clear hus
          have e0 : us.any (fun s => !hasBit x s) = !(us.all (fun s => hasBit x s)) := by rw [List.not_all_eq_any_not]
          have HFN2 : Hid (∀ (W : World) (L L' L2 : List Asn) (g4 : Nat) (A2 : Option Addr) (c2 : Nat), Mem w0 f W L → Del (rowI A2 c2 us) L L' → Del (blk g4 tI [.int .i64 x]) L L2 → Calls Tryz.prog 96 #[.slice A2 us.length c2, .func (.func 98) #[] #[.pointer (some ⟨g4, 0, none⟩)]] W fun e w' => e = .returned (.bool (!(us.all (fun s => hasBit x s)))) ∧ Below W.heap.size W w') := by
            intro W L L' L2 g4 A2 c2 M hd hd2
            rw [← e0]
            exact HFN.out W L L' L2 g4 A2 c2 us rfl M hd hd2
          clear HFN e0
          generalize us.all (fun s => hasBit x s) = a at hend HFN2
          generalize C[k] = o at RO hU hend
          obtain ⟨kk, r, sl, to, ⟨vk, vn⟩⟩ := o
          simp only [opArr] at *
          have i5 : IntKind.i64.wrap ((C.length : Int) - 1) = (C.length : Int) - 1 := by rw [IntKind.wrap_i64]; omega
          clear hn
          rcases hend with ⟨b2, rfl⟩ | ⟨b2, b9, rfl⟩ | ⟨b2, b9, b14, rfl⟩ | ⟨b2, b9, b14, rfl⟩
          case inr.inr.inr =>
            have hno := Lib.hid (NO.out rfl)
            clear NO YES hU HFN2
            go_wp2_with (first | (((with_reducible refine goal_alloc (G := fun W => wpList _ _ _ _ _ W) M ?_); clear M; intro w1 M; (try clear F); have F := M.facts; simp only [FX] at F); have E3 := RO.out _ _ _ M (by repeat (first | with_reducible exact Del.here | with_reducible apply Del.there))) | (((with_reducible apply ev_store (M := M)); rfl; rfl; ((conv => lhs; whnf) <;> rfl); rfl; (first | exact siI | exact siR | exact siV | exact siB | exact siSI | exact siSV | exact siW | exact siSR | exact siSO | exact siO); (exact one_all rfl); (repeat (first | with_reducible exact Del.here | with_reducible apply Del.there)); (exact Nat.le_of_ble_eq_true rfl); clear M; intro w1 M; simp only [SX] at M; (try clear F); have F := M.facts; simp only [FX] at F); have E3 := RO.out _ _ _ M (by repeat (first | with_reducible exact Del.here | with_reducible apply Del.there))))
            go_ret
            exact ⟨ret_bool hno.out.symm, M.drop.drop.drop⟩
          all_goals
            cases s
            · have hno := Lib.hid (NO.out rfl)
              clear NO YES
              go_wp2_with (first
                | (((with_reducible refine goal_alloc (G := fun W => wpList _ _ _ _ _ W) M ?_); clear M; intro w1 M; (try clear F); have F := M.facts; simp only [FX] at F); have E3 := RO.out _ _ _ M (by repeat (first | with_reducible exact Del.here | with_reducible apply Del.there))) | (((with_reducible apply ev_store (M := M)); rfl; rfl; ((conv => lhs; whnf) <;> rfl); rfl; (first | exact siI | exact siR | exact siV | exact siB | exact siSI | exact siSV | exact siW | exact siSR | exact siSO | exact siO); (exact one_all rfl); (repeat (first | with_reducible exact Del.here | with_reducible apply Del.there)); (exact Nat.le_of_ble_eq_true rfl); clear M; intro w1 M; simp only [SX] at M; (try clear F); have F := M.facts; simp only [FX] at F); have E3 := RO.out _ _ _ M (by repeat (first | with_reducible exact Del.here | with_reducible apply Del.there)))
                | (go_at_call 97; (apply goal_name (G := fun W => Calls _ _ _ W _)); (repeat (first | with_reducible exact M | with_reducible apply Mem.drew | with_reducible apply Mem.drewN | with_reducible apply Mem.allocD | with_reducible apply Mem.setV | with_reducible apply Mem.setD | with_reducible exact Del.here | with_reducible apply Del.there | with_reducible assumption)); clear M; intro w1 M; (try simp only [LX] at M); (try clear F); have F := M.facts; simp only [FX] at F; refine (hU.out _ _ M).mono ?_; clear M; rintro e w2 ⟨A2, c2, rfl, M⟩; (try clear F); have F := M.facts; simp only [FX] at F)
                | (go_at_call 96; (apply goal_name (G := fun W => Calls _ _ _ W _)); (repeat (first | with_reducible exact M | with_reducible apply Mem.drew | with_reducible apply Mem.drewN | with_reducible apply Mem.allocD | with_reducible apply Mem.setV | with_reducible apply Mem.setD | with_reducible exact Del.here | with_reducible apply Del.there | with_reducible assumption)); clear M; intro w1 M; (try simp only [LX] at M); (try clear F); have F := M.facts; simp only [FX] at F; refine (HFN2.out _ _ _ _ _ _ _ M (by repeat (first | with_reducible exact Del.here | with_reducible apply Del.there)) (by repeat (first | with_reducible exact Del.here | with_reducible apply Del.there))).mono ?_; rintro e w2 ⟨rfl, hb⟩; replace M := M.below hb; clear hb; (try clear F); have F := M.facts; simp only [FX] at F))
              go_ret
              exact ⟨ret_bool hno.out.symm, M.drop.drop.drop.drop⟩
            · have hy := Lib.hid (YES.out rfl)
              clear NO YES
              go_wp2_with (first
                | (((with_reducible refine goal_alloc (G := fun W => wpList _ _ _ _ _ W) M ?_); clear M; intro w1 M; (try clear F); have F := M.facts; simp only [FX] at F); have E3 := RO.out _ _ _ M (by repeat (first | with_reducible exact Del.here | with_reducible apply Del.there))) | (((with_reducible apply ev_store (M := M)); rfl; rfl; ((conv => lhs; whnf) <;> rfl); rfl; (first | exact siI | exact siR | exact siV | exact siB | exact siSI | exact siSV | exact siW | exact siSR | exact siSO | exact siO); (exact one_all rfl); (repeat (first | with_reducible exact Del.here | with_reducible apply Del.there)); (exact Nat.le_of_ble_eq_true rfl); clear M; intro w1 M; simp only [SX] at M; (try clear F); have F := M.facts; simp only [FX] at F); have E3 := RO.out _ _ _ M (by repeat (first | with_reducible exact Del.here | with_reducible apply Del.there)))
                | (go_at_call 97; (apply goal_name (G := fun W => Calls _ _ _ W _)); (repeat (first | with_reducible exact M | with_reducible apply Mem.drew | with_reducible apply Mem.drewN | with_reducible apply Mem.allocD | with_reducible apply Mem.setV | with_reducible apply Mem.setD | with_reducible exact Del.here | with_reducible apply Del.there | with_reducible assumption)); clear M; intro w1 M; (try simp only [LX] at M); (try clear F); have F := M.facts; simp only [FX] at F; refine (hU.out _ _ M).mono ?_; clear M; rintro e w2 ⟨A2, c2, rfl, M⟩; (try clear F); have F := M.facts; simp only [FX] at F)
                | (go_at_call 96; (apply goal_name (G := fun W => Calls _ _ _ W _)); (repeat (first | with_reducible exact M | with_reducible apply Mem.drew | with_reducible apply Mem.drewN | with_reducible apply Mem.allocD | with_reducible apply Mem.setV | with_reducible apply Mem.setD | with_reducible exact Del.here | with_reducible apply Del.there | with_reducible assumption)); clear M; intro w1 M; (try simp only [LX] at M); (try clear F); have F := M.facts; simp only [FX] at F; refine (HFN2.out _ _ _ _ _ _ _ M (by repeat (first | with_reducible exact Del.here | with_reducible apply Del.there)) (by repeat (first | with_reducible exact Del.here | with_reducible apply Del.there))).mono ?_; rintro e w2 ⟨rfl, hb⟩; replace M := M.below hb; clear hb; (try clear F); have F := M.facts; simp only [FX] at F))
              go_roundg (C.length - (k + 1))
              case measure => omega
              case rel => exact ⟨k + 1, by omega, by omega, by go_num, hy, M.drop.drop.drop⟩
      · have : k = C.length := by omega
        subst this
        have e := Lib.hid (codeSafe_yes HK.out (fun j hj => HA.out j hj hj))
        go_wp2
        go_ret
        exact ⟨ret_bool e.out.symm, M.drop⟩
end Go.Proofs.YtomolbhcggaakaaGreat
/- Whether a run that waits waits for what is not there. -/
namespace Go.Proofs.YtomolbhcggaakaaGreat
open Go.RowKit
set_option maxRecDepth 100000

theorem idxP_none {α : Type} (p : α → Bool) (l : List α) : decide (idxP p l < 0) = (l.findIdx? p).isNone := by
  unfold idxP
  cases l.findIdx? p with
  | none => rfl
  | some i => simp
theorem waitsOk_eq {w : Wd} {r : Rn} {o : Opx} (ho : opAt w.code r.at_ = o) : waitsOk w r = (((o.k == 7 && r.due == 0) || (o.k == 8 && decide (w.now < r.due))) && decide (idxP (fits · o.s) r.mail < 0)) := by
  unfold waitsOk firstIx
  rw [ho, idxP_none]
theorem opAt_nat {c : List Opx} {k : Nat} (hk : k < c.length) : opAt c k = c[k] := by
  unfold opAt
  rw [Int.toNat_natCast, List.getD_eq_getElem?_getD, List.getElem?_eq_getElem hk]
  rfl
set_option maxHeartbeats 2000000 in
theorem sWaiting (W : Wm) (r : Rn) (ra : RA) (h0 : 0 ≤ r.at_) (h1 : r.at_ < W.code.length) (B : Nat) (w : World) (h : RW w B W) (hr : ReadsRun w B r ra) (hB : B ≤ w.heap.size) :
    Calls Tryz.prog 91 #[.agg (wArr W), .agg (runArr r ra)] w fun e w' => e = .returned (.bool (waitsOk W.wd r)) ∧ Below w.heap.size w w' := by
  obtain ⟨k, hk⟩ := Int.eq_ofNat_of_zero_le h0
  have hlt : k < W.code.length := by omega
  obtain ⟨g, hA, hg, co⟩ := h.code k hlt
  have ho : opAt W.wd.code r.at_ = W.code[k] := by rw [hk]; exact opAt_nat hlt
  rw [waitsOk_eq ho]
  clear ho
  have RC := Lib.hid (fun V (hv : Below w.heap.size w V) => co.below (hv.mono hB) hg)
  have HF := Lib.hid (fun V (hv : Below w.heap.size w V) => sFirst r ra W.code[k].s B V (hr.below hv hB) (Nat.le_trans hB hv.size))
  have i1 : (0 : Int) ≤ k := by omega
  have i2 : (k : Int) < W.code.length := by omega
  clear h co hr h0 h1
  obtain ⟨code, cA, cC, ps, rA, rC, queue, qA, qC, now, sent, taken, lost⟩ := W
  simp only [Wm.wd] at *
  subst hA
  generalize code[k] = o at RC HF ⊢
  clear hlt
  obtain ⟨kk, rr, s, to, ⟨vk, vn⟩⟩ := o
  obtain ⟨id, at_, slots, full, mail, state, due, links, watched, trap, ⟨wk, wn⟩, turns⟩ := r
  obtain ⟨sA, sC, mA, mC, lA, lC, wA, wC⟩ := ra
  simp only [runArr, OpAt] at *
  subst hk
  generalize idxP (fits · s) mail = ix at HF ⊢
  have M := Mem.nil w
  have AL := add_lit0
  clear hB hg
  cases c7 : (kk == 7) with
  | true =>
    simp only [Bool.true_and]
    have c8 : (kk == 8) = false := by rw [beq_iff_eq] at c7; rw [beq_eq_false_iff_ne]; omega
    cases cd : (due == 0) with
    | true =>
      simp only [Bool.true_or, Bool.true_and]
      go_enter Tryz.func91, Tryz.ntmps91
      go_wp2_with (first
        | (((with_reducible refine goal_alloc (G := fun W => wpList _ _ _ _ _ W) M ?_); clear M; intro w1 M; (try clear F); have F := M.facts; simp only [And.intro FX FXw] at F); have E1 := RC.out _ M.toBelow) | (((with_reducible apply ev_store (M := M)); rfl; rfl; ((conv => lhs; whnf) <;> rfl); rfl; (first | exact siI | exact siR | exact siV | exact siB | exact siSI | exact siSV | exact siW | exact siSR | exact siSO | exact siO); (exact one_all rfl); (repeat (first | with_reducible exact Del.here | with_reducible apply Del.there)); (exact Nat.le_of_ble_eq_true rfl); clear M; intro w1 M; simp only [SX] at M; (try clear F); have F := M.facts; simp only [And.intro FX FXw] at F); have E1 := RC.out _ M.toBelow)
        | (go_at_call 128; (apply goal_name (G := fun W => Calls _ _ _ W _)); (repeat (first | with_reducible exact M | with_reducible apply Mem.drew | with_reducible apply Mem.drewN | with_reducible apply Mem.allocD | with_reducible apply Mem.setV | with_reducible apply Mem.setD | with_reducible exact Del.here | with_reducible apply Del.there | with_reducible assumption)); clear M; intro w1 M; (try simp only [LX] at M); (try clear F); have F := M.facts; simp only [And.intro FX FXw] at F; refine (HF.out _ M.toBelow).mono ?_; rintro e w2 ⟨rfl, hb⟩; replace M := M.below hb; clear hb; (try clear F); have F := M.facts; simp only [And.intro FX FXw] at F))
      go_ret
      exact ⟨rfl, M.toBelow⟩
    | false =>
      simp only [c8, Bool.false_or, Bool.false_and]
      go_enter Tryz.func91, Tryz.ntmps91
      go_wp2_with (first
        | (((with_reducible refine goal_alloc (G := fun W => wpList _ _ _ _ _ W) M ?_); clear M; intro w1 M; (try clear F); have F := M.facts; simp only [And.intro FX FXw] at F); have E1 := RC.out _ M.toBelow) | (((with_reducible apply ev_store (M := M)); rfl; rfl; ((conv => lhs; whnf) <;> rfl); rfl; (first | exact siI | exact siR | exact siV | exact siB | exact siSI | exact siSV | exact siW | exact siSR | exact siSO | exact siO); (exact one_all rfl); (repeat (first | with_reducible exact Del.here | with_reducible apply Del.there)); (exact Nat.le_of_ble_eq_true rfl); clear M; intro w1 M; simp only [SX] at M; (try clear F); have F := M.facts; simp only [And.intro FX FXw] at F); have E1 := RC.out _ M.toBelow)
        | (go_at_call 128; (apply goal_name (G := fun W => Calls _ _ _ W _)); (repeat (first | with_reducible exact M | with_reducible apply Mem.drew | with_reducible apply Mem.drewN | with_reducible apply Mem.allocD | with_reducible apply Mem.setV | with_reducible apply Mem.setD | with_reducible exact Del.here | with_reducible apply Del.there | with_reducible assumption)); clear M; intro w1 M; (try simp only [LX] at M); (try clear F); have F := M.facts; simp only [And.intro FX FXw] at F; refine (HF.out _ M.toBelow).mono ?_; rintro e w2 ⟨rfl, hb⟩; replace M := M.below hb; clear hb; (try clear F); have F := M.facts; simp only [And.intro FX FXw] at F))
      go_ret
      exact ⟨rfl, M.toBelow⟩
  | false =>
    simp only [Bool.false_and, Bool.false_or]
    cases c8 : (kk == 8) with
    | false =>
      simp only [Bool.false_and]
      go_enter Tryz.func91, Tryz.ntmps91
      go_wp2_with (first
        | (((with_reducible refine goal_alloc (G := fun W => wpList _ _ _ _ _ W) M ?_); clear M; intro w1 M; (try clear F); have F := M.facts; simp only [And.intro FX FXw] at F); have E1 := RC.out _ M.toBelow) | (((with_reducible apply ev_store (M := M)); rfl; rfl; ((conv => lhs; whnf) <;> rfl); rfl; (first | exact siI | exact siR | exact siV | exact siB | exact siSI | exact siSV | exact siW | exact siSR | exact siSO | exact siO); (exact one_all rfl); (repeat (first | with_reducible exact Del.here | with_reducible apply Del.there)); (exact Nat.le_of_ble_eq_true rfl); clear M; intro w1 M; simp only [SX] at M; (try clear F); have F := M.facts; simp only [And.intro FX FXw] at F); have E1 := RC.out _ M.toBelow)
        | (go_at_call 128; (apply goal_name (G := fun W => Calls _ _ _ W _)); (repeat (first | with_reducible exact M | with_reducible apply Mem.drew | with_reducible apply Mem.drewN | with_reducible apply Mem.allocD | with_reducible apply Mem.setV | with_reducible apply Mem.setD | with_reducible exact Del.here | with_reducible apply Del.there | with_reducible assumption)); clear M; intro w1 M; (try simp only [LX] at M); (try clear F); have F := M.facts; simp only [And.intro FX FXw] at F; refine (HF.out _ M.toBelow).mono ?_; rintro e w2 ⟨rfl, hb⟩; replace M := M.below hb; clear hb; (try clear F); have F := M.facts; simp only [And.intro FX FXw] at F))
      go_ret
      exact ⟨rfl, M.toBelow⟩
    | true =>
      by_cases cp : now < due
      case neg =>
        have cn : decide (now < due) = false := decide_eq_false cp
        simp only [cp, decide_false, Bool.true_and, Bool.false_and]
        clear cp
        go_enter Tryz.func91, Tryz.ntmps91
        go_wp2_with (first
          | (((with_reducible refine goal_alloc (G := fun W => wpList _ _ _ _ _ W) M ?_); clear M; intro w1 M; (try clear F); have F := M.facts; simp only [And.intro FX FXw] at F); have E1 := RC.out _ M.toBelow) | (((with_reducible apply ev_store (M := M)); rfl; rfl; ((conv => lhs; whnf) <;> rfl); rfl; (first | exact siI | exact siR | exact siV | exact siB | exact siSI | exact siSV | exact siW | exact siSR | exact siSO | exact siO); (exact one_all rfl); (repeat (first | with_reducible exact Del.here | with_reducible apply Del.there)); (exact Nat.le_of_ble_eq_true rfl); clear M; intro w1 M; simp only [SX] at M; (try clear F); have F := M.facts; simp only [And.intro FX FXw] at F); have E1 := RC.out _ M.toBelow)
          | (go_at_call 128; (apply goal_name (G := fun W => Calls _ _ _ W _)); (repeat (first | with_reducible exact M | with_reducible apply Mem.drew | with_reducible apply Mem.drewN | with_reducible apply Mem.allocD | with_reducible apply Mem.setV | with_reducible apply Mem.setD | with_reducible exact Del.here | with_reducible apply Del.there | with_reducible assumption)); clear M; intro w1 M; (try simp only [LX] at M); (try clear F); have F := M.facts; simp only [And.intro FX FXw] at F; refine (HF.out _ M.toBelow).mono ?_; rintro e w2 ⟨rfl, hb⟩; replace M := M.below hb; clear hb; (try clear F); have F := M.facts; simp only [And.intro FX FXw] at F))
        go_ret
        exact ⟨rfl, M.toBelow⟩
      case pos =>
        have cn : decide (now < due) = true := decide_eq_true cp
        simp only [cp, decide_true, Bool.true_and]
        clear cp
        go_enter Tryz.func91, Tryz.ntmps91
        go_wp2_with (first
          | (((with_reducible refine goal_alloc (G := fun W => wpList _ _ _ _ _ W) M ?_); clear M; intro w1 M; (try clear F); have F := M.facts; simp only [And.intro FX FXw] at F); have E1 := RC.out _ M.toBelow) | (((with_reducible apply ev_store (M := M)); rfl; rfl; ((conv => lhs; whnf) <;> rfl); rfl; (first | exact siI | exact siR | exact siV | exact siB | exact siSI | exact siSV | exact siW | exact siSR | exact siSO | exact siO); (exact one_all rfl); (repeat (first | with_reducible exact Del.here | with_reducible apply Del.there)); (exact Nat.le_of_ble_eq_true rfl); clear M; intro w1 M; simp only [SX] at M; (try clear F); have F := M.facts; simp only [And.intro FX FXw] at F); have E1 := RC.out _ M.toBelow)
          | (go_at_call 128; (apply goal_name (G := fun W => Calls _ _ _ W _)); (repeat (first | with_reducible exact M | with_reducible apply Mem.drew | with_reducible apply Mem.drewN | with_reducible apply Mem.allocD | with_reducible apply Mem.setV | with_reducible apply Mem.setD | with_reducible exact Del.here | with_reducible apply Del.there | with_reducible assumption)); clear M; intro w1 M; (try simp only [LX] at M); (try clear F); have F := M.facts; simp only [And.intro FX FXw] at F; refine (HF.out _ M.toBelow).mono ?_; rintro e w2 ⟨rfl, hb⟩; replace M := M.below hb; clear hb; (try clear F); have F := M.facts; simp only [And.intro FX FXw] at F))
        go_ret
        exact ⟨rfl, M.toBelow⟩
end Go.Proofs.YtomolbhcggaakaaGreat
