/- Parts of the proof, in one text. -/
import Derived.Deep.RegionHeld3
import Derived.Deep.Cut
import Derived.Test.YtmidnaafljgbiaaShelf
import Derived.Deep.RegionWith
import Derived.Test.YtmidnaafljgbiaaN10
/- Whether code is safe. -/
namespace Go.Proofs.Ytmidnaafljgbiaa
open Go.RowKit
set_option maxRecDepth 100000

theorem codeOk_parts {C : List Opx} (h : codeOk C = true) : 1 ≤ C.length ∧ C.length ≤ 16 ∧ ∀ o ∈ C, opOk o = true := by
  simp only [codeOk, Bool.and_eq_true, decide_eq_true_eq, List.all_eq_true] at h
  exact ⟨h.1.2, h.2, fun o ho => (h.1.1 o ho).1⟩
set_option maxHeartbeats 2000000 in
theorem sCodeSafe (C : List Opx) (cA : Option Addr) (cC : Nat) {w0 w : World} {f : List Nat} {L : List Asn} (M : Mem w0 f w (rowO cA cC C :: L)) :
    Calls Try.prog 61 #[.slice cA C.length cC] w fun e w' => e = .returned (.bool (codeSafe C)) ∧ Mem w0 f w' (rowO cA cC C :: L) := by
  have HC := Lib.hid (fun W (M : Mem w0 f W (rowO cA cC C :: L)) => sCodeOk C cA cC M .here)
  cases hc : codeOk C with
  | false =>
    rw [hc] at HC
    rw [codeSafe_bad hc]
    clear hc
    go_enter Try.func61, Try.ntmps61
    go_wp2_with (go_at_call 94; refine (HC.out _ M).mono ?_; rintro e w2 ⟨rfl, hb⟩; replace M := M.below hb; clear hb; (try clear F); have F := fxw M)
    go_ret
    exact ⟨rfl, M⟩
  | true =>
    rw [hc] at HC
    obtain ⟨h1, h16, ho⟩ := codeOk_parts hc
    obtain ⟨go, rfl⟩ := row_form M .here (by omega)
    have HF := Lib.hid (fun W (M : Mem w0 f W (rowO (some ⟨go, 0, none⟩) cC C :: L)) => sFull C (some ⟨go, 0, none⟩) cC M h1 h16 ho)
    have HK := Lib.hid hc
    clear hc
    have HO := Lib.hid ho
    clear ho
    go_enter Try.func61, Try.ntmps61
    go_wp2_with (first
      | (go_at_call 94; refine (HC.out _ M).mono ?_; rintro e w2 ⟨rfl, hb⟩; replace M := M.below hb; clear hb; (try clear F); have F := fxw M)
      | (go_at_call 95; refine (HF.out _ M).mono ?_; clear M; rintro e w2 ⟨A, c, rfl, M⟩))
    have hl : (fullOf C).length = C.length := (settle_facts HO.out _ _ (Nat.le_refl _) (full0_bits _) (full0_length _).symm).1.1
    have HB := Lib.hid (settle_facts HO.out _ _ (Nat.le_refl _) (full0_bits C.length) (full0_length _).symm).1.2.1
    obtain ⟨g, rfl⟩ := row_form M .here (by omega)
    have HL := Lib.hid hl
    clear hl
    go_loopg [4] C.length (fun gg i wr => ∃ k : Nat, k ≤ C.length ∧ C.length - k ≤ gg ∧ i = .int .i64 k ∧ Hid (∀ j (hj : j < C.length), j < k → safeAt C.length (fullOf C) j C[j] = true) ∧ Hid (Mem w0 f wr (rowI (some ⟨g, 0, none⟩) c (fullOf C) :: rowO (some ⟨go, 0, none⟩) cC C :: L)))
    case atStart => exact ⟨0, by omega, by omega, rfl, fun j _ h => absurd h (by omega), M⟩
    case round =>
      clear M
      obtain ⟨k, hk, hg, rfl, HA, M⟩ := hrel
      replace M := M.out
      by_cases hlt : k < C.length
      · have hkF : k < (fullOf C).length := by rw [HL.out]; exact hlt
        have ex : (fullOf C)[k] = getI (fullOf C) k := by unfold getI; simp [List.getD_eq_getElem?_getD, List.getElem?_eq_getElem hkF]
        have RI := Lib.hid (fun W (L L' : List Asn) (M : Mem w0 f W L) (hd : Del (rowI (some ⟨g, 0, none⟩) c (fullOf C)) L L') => elemI M hd hkF)
        rw [ex] at RI
        obtain ⟨E1, E2⟩ := RI.out _ _ _ M .here
        have hx := HB.out _ (getI_mem (f := fullOf C) (i := k) (by omega) (by omega))
        have YES : Hid (safeAt C.length (fullOf C) k C[k] = true → ∀ j (hj : j < C.length), j < k + 1 → safeAt C.length (fullOf C) j C[j] = true) := by
          intro h j hj hjk
          by_cases he : j = k
          · subst he; exact h
          · exact HA.out j hj (by omega)
        have NO : Hid (safeAt C.length (fullOf C) k C[k] = false → codeSafe C = false) := fun h => codeSafe_no hlt h
        have i1 : (0 : Int) ≤ k := by omega
        have i2 : (k : Int) < C.length := by omega
        by_cases hn : getI (fullOf C) k < 0
        · have hs := Lib.hid (YES.out (by unfold safeAt; rw [decide_eq_true hn]; rfl))
          clear ex
          generalize getI (fullOf C) k = x at E1 hn
          have b1 : decide (x < 0) = true := decide_eq_true hn
          clear RI hx NO YES
          go_wp2
          go_roundg (C.length - (k + 1))
          case measure => omega
          case rel => exact ⟨k + 1, by omega, by omega, by go_num, hs, M⟩
        · have hop := HO.out _ (List.getElem_mem hlt)
          have SA : Hid (safeAt C.length (fullOf C) k C[k] = ((opUses C[k]).all (fun s => hasBit (getI (fullOf C) k) s) && (!(k + 1 == C.length) || C[k].k == 9 || C[k].k == 14))) := by
            unfold safeAt
            rw [decide_eq_false hn, Bool.false_or]
            rfl
          have RO := Lib.hid (fun W (L L' : List Asn) (M : Mem w0 f W L) (hd : Del (rowO (some ⟨go, 0, none⟩) cC C) L L') => elemO0 M hd hlt)
          have E3 := RO.out _ _ _ M (.there .here)
          clear ex
          generalize getI (fullOf C) k = x at E1 hn hx RI SA
          have b1 : decide (x < 0) = false := decide_eq_false hn
          have hU := Lib.hid (fun W (L : List Asn) (M : Mem w0 f W L) => sUses C[k] M)
          have HY := YES
          rw [SA.out] at HY NO
          clear YES SA
          have hus : ∀ s ∈ opUses C[k], inB s 0 3 = true := by
            intro s hs
            obtain ⟨_, _, _, _, hr, hs', _⟩ := opOk_parts hop
            unfold opUses at hs
            (repeat' split at hs) <;> simp at hs <;> (try rcases hs with rfl | rfl) <;> (try subst hs) <;> exact inB_iff.2 (by assumption)
          have HUS := Lib.hid hus
          clear hus hop HA
          generalize C[k] = o at E3 RO hU HY NO HUS
          obtain ⟨kk, r, s, to, ⟨vk, vn⟩⟩ := o
          simp only [opArr] at *
          go_wp2_with (go_at_call 96; (refine nmKw ?_; clear M; (try clear F); intro w1 M F); refine (hU.out _ _ M).mono ?_; clear M; rintro e w2 ⟨A2, c2, rfl, M⟩)
          generalize hq : opUses ⟨kk, r, s, to, ⟨vk, vn⟩⟩ = us at M HY NO HUS
          have hul : us.length ≤ 2 := by rw [← hq]; unfold opUses; (repeat' split) <;> simp
          clear hq hU
          (try simp only [LX] at M)
          (try clear F); have F := fxw M
          go_wp2
          go_loopg [6] us.length (fun gg i wr => ∃ m : Nat, m ≤ us.length ∧ us.length - m ≤ gg ∧ i = .int .i64 m ∧ Hid (∀ j (hj : j < us.length), j < m → hasBit x us[j] = true) ∧ Hid (Mem w0 f wr (rowI A2 c2 us :: rowI (some ⟨g, 0, none⟩) c (fullOf C) :: rowO (some ⟨go, 0, none⟩) cC C :: L)))
          case atStart => exact ⟨0, by omega, by omega, rfl, fun j _ h => absurd h (by omega), M⟩
          case round =>
            clear M
            obtain ⟨m, hm, hg2, rfl, HB2, M⟩ := hrel
            replace M := M.out
            by_cases hmu : m < us.length
            · obtain ⟨g2, rfl⟩ := row_form M .here (by omega)
              have RU := Lib.hid (fun W (L L' : List Asn) (M : Mem w0 f W L) (hd : Del (rowI (some ⟨g2, 0, none⟩) c2 us) L L') => (elemI M hd hmu).1)
              have RX := Lib.hid (fun W (L L' : List Asn) (M : Mem w0 f W L) (hd : Del (rowI (some ⟨g, 0, none⟩) c (fullOf C)) L L') => (RI.out W L L' M hd).1)
              have E4 := RU.out _ _ _ M .here
              have E5 := RX.out _ _ _ M (.there .here)
              have HH := Lib.hid (fun W => sHas x us[m] (by omega) hx.2 (HUS.out _ (List.getElem_mem hmu)) W)
              have HN : Hid (hasBit x us[m] = false → codeSafe C = false) := by
                intro h
                refine NO.out ?_
                have : us.all (fun s => hasBit x s) = false := by rw [List.all_eq_false]; exact ⟨us[m], List.getElem_mem hmu, by simp [h]⟩
                rw [this, Bool.false_and]
              have HP : Hid (hasBit x us[m] = true → ∀ j (hj : j < us.length), j < m + 1 → hasBit x us[j] = true) := by
                intro h j hj hjm
                by_cases he : j = m
                · subst he; exact h
                · exact HB2.out j hj (by omega)
              have j1 : (0 : Int) ≤ m := by omega
              have j2 : (m : Int) < us.length := by omega
              generalize us[m] = y at RU E4 HH HN HP
              generalize hasBit x y = hb at HH HN HP
              clear HY NO RI hn hx HUS HB2 E1 E2 E3
              go_wp2
              have HK2 : Hid (∀ W (L2 : List Asn), Mem w0 f W (rowI (some ⟨g2, 0, none⟩) c2 us :: rowI (some ⟨g, 0, none⟩) c (fullOf C) :: L2) → W.cell? ⟨g, k, none⟩ = some (.int .i64 x) ∧ W.cell? ⟨g2, m, none⟩ = some (.int .i64 y)) := fun W L2 M => ⟨RX.out W _ _ M (.there .here), RU.out W _ _ M .here⟩
              cases hb
              · have hno := Lib.hid (HN.out rfl)
                clear HN HP E4 E5
                go_region_held3 (fun W => W.cell? ⟨g, k, none⟩ = some (.int .i64 x) ∧ W.cell? ⟨g2, m, none⟩ = some (.int .i64 y)) ((apply HK2.out; exact mb)) ((go_at_call 82; (refine nmKw ?_; clear M; (try clear F); intro w1 M F); refine (HH.out _).mono ?_; rintro e w2 ⟨rfl, hb⟩; replace M := M.below hb; clear hb; (try clear F); have F := fxw M))
                go_wp2
                go_ret
                exact ⟨ret_bool hno.out.symm, M.sel sl⟩
              · have hpp := Lib.hid (HP.out rfl)
                clear HN HP E4 E5
                go_region_held3 (fun W => W.cell? ⟨g, k, none⟩ = some (.int .i64 x) ∧ W.cell? ⟨g2, m, none⟩ = some (.int .i64 y)) ((apply HK2.out; exact mb)) ((go_at_call 82; (refine nmKw ?_; clear M; (try clear F); intro w1 M F); refine (HH.out _).mono ?_; rintro e w2 ⟨rfl, hb⟩; replace M := M.below hb; clear hb; (try clear F); have F := fxw M))
                go_wp2
                go_roundg (us.length - (m + 1))
                case measure => omega
                case rel => exact ⟨m + 1, by omega, by omega, by go_num, hpp, M.sel sl⟩
            · have hall : us.all (fun s => hasBit x s) = true := by
                rw [List.all_eq_true]
                intro y hy
                obtain ⟨j, hj, rfl⟩ := List.getElem_of_mem hy
                exact HB2.out j hj (by omega)
              have : m = us.length := by omega
              subst this
              rw [hall, Bool.true_and] at HY NO
              clear hall HB2 HUS
              have E3 := RO.out _ _ _ M (.there (.there .here))
              have i4 : IntKind.i64.wrap ((k : Int) + 1) = (k : Int) + 1 := by rw [IntKind.wrap_i64]; omega
              by_cases hend : k + 1 = C.length
              · have b2 : ((k : Int) + 1 == (C.length : Int)) = true := by simpa using (by omega : (k : Int) + 1 = C.length)
                rw [beq_iff_eq.2 hend, Bool.not_true, Bool.false_or] at HY NO
                cases k9 : (kk == 9) with
                | true =>
                  rw [k9] at HY
                  have hy := Lib.hid (HY.out rfl)
                  have n9 : (kk != 9) = false := by simpa using k9
                  clear HY NO hend k9
                  go_wp2
                  go_roundg (C.length - (k + 1))
                  case measure => omega
                  case rel => exact ⟨k + 1, by omega, by omega, by go_num, hy, M.sel sl⟩
                | false =>
                rw [k9] at HY NO
                have n9 : (kk != 9) = true := by simpa using k9
                cases k14 : (kk == 14) with
                | true =>
                  rw [k14] at HY
                  have hy := Lib.hid (HY.out rfl)
                  have n14 : (kk != 14) = false := by simpa using k14
                  clear HY NO hend k9 k14
                  go_wp2
                  go_roundg (C.length - (k + 1))
                  case measure => omega
                  case rel => exact ⟨k + 1, by omega, by omega, by go_num, hy, M.sel sl⟩
                | false =>
                  rw [k14] at NO
                  have hno := Lib.hid (NO.out rfl)
                  have n14 : (kk != 14) = true := by simpa using k14
                  clear HY NO hend k9 k14
                  go_wp2
                  go_ret
                  exact ⟨ret_bool hno.out.symm, M.sel sl⟩
              · have b2 : ((k : Int) + 1 == (C.length : Int)) = false := by simpa using (by omega : ¬ (k : Int) + 1 = C.length)
                rw [beq_eq_false_iff_ne.2 hend, Bool.not_false, Bool.true_or, Bool.true_or] at HY
                have hy := Lib.hid (HY.out rfl)
                clear HY NO hend
                go_wp2
                go_roundg (C.length - (k + 1))
                case measure => omega
                case rel => exact ⟨k + 1, by omega, by omega, by go_num, hy, M.sel sl⟩
      · have : k = C.length := by omega
        subst this
        have e := Lib.hid (codeSafe_yes HK.out (fun j hj => HA.out j hj hj))
        go_wp2
        go_ret
        exact ⟨ret_bool e.out.symm, M.sel sl⟩
end Go.Proofs.Ytmidnaafljgbiaa
/- A region that draws its order, operation by operation: the panic's side condition is paid once; nothing of the program. -/
namespace Go.Proofs.Ytmidnaafljgbiaa
open Go

section
variable {P : Program} {ops : Array Oper} {Q : Exit → Act → World → Prop} {md : Region.Mode} {S : World → Prop}
def Calm (Q : Exit → Act → World → Prop) : Prop := ∀ (c : _) (a : Act) (d : Tmp) (v : Value) (w : World), Q (.panic c) (a.put (some d) v) w → Q (.panic c) a w
theorem held_begin {id : Nat} {a : Act} {w : World} (hm : P.follows .mixedOrders = true) (hQ : Calm Q) (hS : S w.drew)
    (h : Calm Q → S w.drew → wpAnyH P .any ops Q S ops.size (Array.replicate ops.size false) a w.drew) : (Code.region id ops true).wp P Q a w :=
  wp_region_held_drew hm hS (h hQ)
theorem take_yes {oi : Oper} {v : Value} {fuel : Nat} {listed : Array Bool} {a : Act} {w : World} (hQ : Calm Q) (hS : S w) (i : Nat) (hi : ops[i]? = some oi) {d : Tmp} (hd : oi.dst = some d)
    (hs : (Region.noSelect ops && Region.free md ops listed i && (Region.ready md ops listed).contains i) = true) (hw : Region.wanted oi (yielded ops a.tmps) = true)
    (hy : ∀ w, S w → (execOp a.eval oi).run P w = .ok (.value v) w)
    (h : wpAnyH P md ops Q S fuel (listed.setIfInBounds i true) (a.put (some d) v) w) : wpAnyH P md ops Q S (fuel + 1) listed a w := by
  rw [← hd] at h
  simp only [Bool.and_eq_true] at hs
  exact wpAnyH_take hi hs.1.1 hs.1.2 hs.2 (fun c a w => by rw [hd]; exact hQ c a _ _ w) (.inl ⟨hw, hy⟩) hS h
/-- The one that may come up comes up. -/
theorem step_one {oi : Oper} {fuel : Nat} {listed : Array Bool} {a : Act} {w : World} (i : Nat) (hi : ops[i]? = some oi) {op : Op} {d : Option Tmp} {ty : TypeId} {pos : String} {af : Array Edge} {gd : Option (Nat × Bool)} (he : oi = ⟨d, op, ty, pos, af, gd⟩) (hr : Region.ready md ops listed = [i]) (hw : Region.wanted oi (yielded ops a.tmps) = true)
    (h : ∀ K' : Act → World → Prop, Shut (∀ a w, S w → (S w → wpAnyH P md ops Q S fuel (listed.setIfInBounds i true) a w) → K' a w) → Oper.wp P ⟨d, op, ty, pos, af, gd⟩ a w K' Q) : wpAnyH P md ops Q S (fuel + 1) listed a w := by
  subst he
  exact wpAnyH_ready hr (by simp) (AllReadyH.cons hi (fun K hK => by rw [if_pos hw]; exact h K hK) AllReadyH.nil)
/-! The same, with all that the walk shows by itself. -/
theorem AX : (∀ (a : Act) (d : Tmp) (v : Value), a.put (some d) v = { a with tmps := a.tmps.setIfInBounds d v }) ∧ (∀ (l : List Value) (i : Nat) (v : Value), l.toArray.setIfInBounds i v = (l.set i v).toArray) ∧ (∀ (a b : Value) (l : List Value), (a :: l).set 0 b = b :: l) ∧ (∀ (a b : Value) (l : List Value) (n : Nat), (a :: l).set (n + 1) b = a :: l.set n b) :=
  ⟨fun _ _ _ => rfl, fun l i v => List.setIfInBounds_toArray l i v, fun _ _ _ => rfl, fun _ _ _ _ => rfl⟩
theorem tkY {oi : Oper} {v : Value} {fuel : Nat} {listed : Array Bool} {a a' : Act} {w : World} {d : Tmp} (hQ : Calm Q) (hS : S w) (i : Nat)
    (h : wpAnyH P md ops Q S fuel (listed.setIfInBounds i true) a' w) (hi : ops[i]? = some oi := by exact rfl) (hd : oi.dst = some d := by exact rfl)
    (hs : (Region.noSelect ops && Region.free md ops listed i && (Region.ready md ops listed).contains i) = true := by kernel_rfl) (hw : Region.wanted oi (yielded ops a.tmps) = true := by kernel_rfl)
    (hy : ∀ w, S w → (execOp a.eval oi).run P w = .ok (.value v) w := by (intro W hSw; (try dsimp only at hSw); go_simp; (try with_reducible rfl)))
    (e : a.put (some d) v = a' := by ((try (conv => lhs; simp only [AX])) <;> rfl)) : wpAnyH P md ops Q S (fuel + 1) listed a w := by
  subst e
  exact take_yes hQ hS i hi hd hs hw hy h
theorem stp {oi : Oper} {fuel : Nat} {listed : Array Bool} {a : Act} {w : World} {op : Op} {d : Option Tmp} {ty : TypeId} {pos : String} {af : Array Edge} {gd : Option (Nat × Bool)} (i : Nat)
    (h : ∀ K' : Act → World → Prop, Shut (∀ a w, S w → (S w → wpAnyH P md ops Q S fuel (listed.setIfInBounds i true) a w) → K' a w) → Oper.wp P ⟨d, op, ty, pos, af, gd⟩ a w K' Q)
    (hi : ops[i]? = some oi := by exact rfl) (he : oi = ⟨d, op, ty, pos, af, gd⟩ := by exact rfl) (hr : Region.ready md ops listed = [i] := by kernel_rfl) (hw : Region.wanted oi (yielded ops a.tmps) = true := by kernel_rfl) : wpAnyH P md ops Q S (fuel + 1) listed a w := step_one i hi he hr hw h
end
end Go.Proofs.Ytmidnaafljgbiaa
/- What is known of the kinds of steps, by the program's text. -/
namespace Go.Proofs.Ytmidnaafljgbiaa
open Go.RowKit
set_option maxRecDepth 100000

abbrev tM : Nat := 128
theorem siM : (Try.prog.info? tM).map (·.size) = some 4 := by kernel_rfl
theorem agM (W : World) : (isAgg tM).run Try.prog W = .ok true W := by kernel_rfl
def wordOf (k : Int) : ByteArray := if k = 1 then ⟨#[115, 101, 116]⟩ else if k = 2 then ⟨#[109, 111, 118, 101]⟩ else if k = 3 then ⟨#[97, 100, 100]⟩ else if k = 4 then ⟨#[115, 101, 108, 102]⟩ else if k = 5 then ⟨#[98, 101, 103, 105, 110]⟩ else if k = 6 then ⟨#[115, 101, 110, 100]⟩ else if k = 7 then ⟨#[116, 97, 107, 101]⟩ else if k = 8 then ⟨#[97, 102, 116, 101, 114]⟩ else if k = 9 then ⟨#[103, 111]⟩ else if k = 10 then ⟨#[105, 102]⟩ else if k = 11 then ⟨#[108, 105, 110, 107]⟩ else if k = 12 then ⟨#[119, 97, 116, 99, 104]⟩ else if k = 13 then ⟨#[116, 114, 97, 112]⟩ else if k = 14 then ⟨#[101, 110, 100]⟩ else ⟨#[]⟩
def hasOf (k : Int) : ByteArray := if k = 1 then ⟨#[82, 86]⟩ else if k = 2 then ⟨#[82, 83]⟩ else if k = 3 then ⟨#[82, 83]⟩ else if k = 4 then ⟨#[82]⟩ else if k = 5 then ⟨#[82, 84]⟩ else if k = 6 then ⟨#[82, 83]⟩ else if k = 7 then ⟨#[82, 83]⟩ else if k = 8 then ⟨#[82, 83, 84, 86]⟩ else if k = 9 then ⟨#[84]⟩ else if k = 10 then ⟨#[82, 84, 86]⟩ else if k = 11 then ⟨#[82]⟩ else if k = 12 then ⟨#[82]⟩ else if k = 13 then ⟨#[86]⟩ else if k = 14 then ⟨#[82]⟩ else ⟨#[]⟩
def readsOf (k : Int) : ByteArray := if k = 1 then ⟨#[]⟩ else if k = 2 then ⟨#[83]⟩ else if k = 3 then ⟨#[82, 83]⟩ else if k = 4 then ⟨#[]⟩ else if k = 5 then ⟨#[]⟩ else if k = 6 then ⟨#[82, 83]⟩ else if k = 7 then ⟨#[]⟩ else if k = 8 then ⟨#[]⟩ else if k = 9 then ⟨#[]⟩ else if k = 10 then ⟨#[82]⟩ else if k = 11 then ⟨#[82]⟩ else if k = 12 then ⟨#[82]⟩ else if k = 13 then ⟨#[]⟩ else if k = 14 then ⟨#[82]⟩ else ⟨#[]⟩
abbrev howArr (k : Int) : Array Value := #[.string (wordOf k), .string (hasOf k), .string (readsOf k), .bool (fillsR k)]
set_option maxHeartbeats 4000000 in
theorem iManners {w0 w : World} {f : List Nat} {L : List Asn} (M : Mem w0 f w L) : Calls Try.prog 136 #[] w fun e w' => ∃ g, e = .returned (.slice (some ⟨g, 0, none⟩) 15 15) ∧ Mem w0 f w' (blk g tM [.string ⟨#[]⟩, .string ⟨#[]⟩, .string ⟨#[]⟩, .bool false, .string ⟨#[115, 101, 116]⟩, .string ⟨#[82, 86]⟩, .string ⟨#[]⟩, .bool true, .string ⟨#[109, 111, 118, 101]⟩, .string ⟨#[82, 83]⟩, .string ⟨#[83]⟩, .bool true, .string ⟨#[97, 100, 100]⟩, .string ⟨#[82, 83]⟩, .string ⟨#[82, 83]⟩, .bool false, .string ⟨#[115, 101, 108, 102]⟩, .string ⟨#[82]⟩, .string ⟨#[]⟩, .bool true, .string ⟨#[98, 101, 103, 105, 110]⟩, .string ⟨#[82, 84]⟩, .string ⟨#[]⟩, .bool true, .string ⟨#[115, 101, 110, 100]⟩, .string ⟨#[82, 83]⟩, .string ⟨#[82, 83]⟩, .bool false, .string ⟨#[116, 97, 107, 101]⟩, .string ⟨#[82, 83]⟩, .string ⟨#[]⟩, .bool true, .string ⟨#[97, 102, 116, 101, 114]⟩, .string ⟨#[82, 83, 84, 86]⟩, .string ⟨#[]⟩, .bool true, .string ⟨#[103, 111]⟩, .string ⟨#[84]⟩, .string ⟨#[]⟩, .bool false, .string ⟨#[105, 102]⟩, .string ⟨#[82, 84, 86]⟩, .string ⟨#[82]⟩, .bool false, .string ⟨#[108, 105, 110, 107]⟩, .string ⟨#[82]⟩, .string ⟨#[82]⟩, .bool false, .string ⟨#[119, 97, 116, 99, 104]⟩, .string ⟨#[82]⟩, .string ⟨#[82]⟩, .bool false, .string ⟨#[116, 114, 97, 112]⟩, .string ⟨#[86]⟩, .string ⟨#[]⟩, .bool false, .string ⟨#[101, 110, 100]⟩, .string ⟨#[82]⟩, .string ⟨#[82]⟩, .bool false] :: L) := by
  go_enter Try.func136, Try.ntmps136
  go_wp2_with (first | (with_reducible refine alAw M ?_; clear M; (try clear F); intro w1 M F))
  go_ret
  exact ⟨_, rfl, M.alloc tM [.string ⟨#[]⟩, .string ⟨#[]⟩, .string ⟨#[]⟩, .bool false, .string ⟨#[115, 101, 116]⟩, .string ⟨#[82, 86]⟩, .string ⟨#[]⟩, .bool true, .string ⟨#[109, 111, 118, 101]⟩, .string ⟨#[82, 83]⟩, .string ⟨#[83]⟩, .bool true, .string ⟨#[97, 100, 100]⟩, .string ⟨#[82, 83]⟩, .string ⟨#[82, 83]⟩, .bool false, .string ⟨#[115, 101, 108, 102]⟩, .string ⟨#[82]⟩, .string ⟨#[]⟩, .bool true, .string ⟨#[98, 101, 103, 105, 110]⟩, .string ⟨#[82, 84]⟩, .string ⟨#[]⟩, .bool true, .string ⟨#[115, 101, 110, 100]⟩, .string ⟨#[82, 83]⟩, .string ⟨#[82, 83]⟩, .bool false, .string ⟨#[116, 97, 107, 101]⟩, .string ⟨#[82, 83]⟩, .string ⟨#[]⟩, .bool true, .string ⟨#[97, 102, 116, 101, 114]⟩, .string ⟨#[82, 83, 84, 86]⟩, .string ⟨#[]⟩, .bool true, .string ⟨#[103, 111]⟩, .string ⟨#[84]⟩, .string ⟨#[]⟩, .bool false, .string ⟨#[105, 102]⟩, .string ⟨#[82, 84, 86]⟩, .string ⟨#[82]⟩, .bool false, .string ⟨#[108, 105, 110, 107]⟩, .string ⟨#[82]⟩, .string ⟨#[82]⟩, .bool false, .string ⟨#[119, 97, 116, 99, 104]⟩, .string ⟨#[82]⟩, .string ⟨#[82]⟩, .bool false, .string ⟨#[116, 114, 97, 112]⟩, .string ⟨#[86]⟩, .string ⟨#[]⟩, .bool false, .string ⟨#[101, 110, 100]⟩, .string ⟨#[82]⟩, .string ⟨#[82]⟩, .bool false]⟩
end Go.Proofs.Ytmidnaafljgbiaa
