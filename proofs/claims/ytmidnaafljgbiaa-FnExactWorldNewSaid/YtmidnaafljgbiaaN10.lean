/- Parts of the proof, in one text. -/
import Derived.Test.YtmidnaafljgbiaaN08
import Derived.Test.YtmidnaafljgbiaaN09
/- What a step is: whether it is ok, all ways. -/
namespace Go.Proofs.Ytmidnaafljgbiaa
open Go.RowKit
set_option maxRecDepth 100000

theorem sOpOk (o : Opx) (w : World) : Calls Try.prog 113 #[.agg (opArr o)] w fun e w' => e = .returned (.bool (opOk o)) ∧ Below w.heap.size w w' := by
  rcases form_cases o.k with ⟨e, hk⟩ | ⟨f0, f1, f2, f3, e, hk⟩
  · have : opOk o = false := by simp [opOk, hk]
    rw [this]
    exact sOpOkBad o (.inl e) w
  cases hv : valOk o.v with
  | false =>
    have : opOk o = false := by simp [opOk, hv]
    rw [this]
    exact sOpOkBad o (.inr hv) w
  | true =>
    have hp : OpPre o f0 f1 f2 f3 := ⟨e, hv⟩
    have F0 : formAt o.k 0 = f0 := by unfold formAt; rw [e]; rfl
    have F1 : formAt o.k 1 = f1 := by unfold formAt; rw [e]; rfl
    have F2 : formAt o.k 2 = f2 := by unfold formAt; rw [e]; rfl
    have F3 : formAt o.k 3 = f3 := by unfold formAt; rw [e]; rfl
    have E : opOk o = ((!(o.k == 8) || (o.v.k == 1 && decide (1 ≤ o.v.n))) && (!(o.k == 13) || (o.v.k == 1 && inB o.v.n 0 1)) && (inB o.r 0 3 && f0 || o.r == 0) && (inB o.s 0 3 && f1 || o.s == 0) && (inB o.to 0 15 && f2 || o.to == 0) && (f3 || o.v == Vl.zero)) := by
      unfold opOk
      rw [F0, F1, F2, F3, hk, hv, Bool.and_comm f0, Bool.and_comm f1, Bool.and_comm f2]
      simp only [Bool.true_and]
    clear F0 F1 F2 F3
    have d1 : (o.r == 0) = true → inB o.r 0 3 = true := by intro h; rw [beq_iff_eq.1 h]; decide
    have d2 : (o.s == 0) = true → inB o.s 0 3 = true := by intro h; rw [beq_iff_eq.1 h]; decide
    have d3 : (o.to == 0) = true → inB o.to 0 15 = true := by intro h; rw [beq_iff_eq.1 h]; decide
    have n0 : ∀ (x e : Bool), (e = true → x = true) → x = false → e = false := by decide
    rw [E]
    clear E
    cases c8 : (o.k == 8) with
    | true =>
      have hk8 : o.k = 8 := beq_iff_eq.1 c8
      have : opForm 8 = [f0, f1, f2, f3] := by rw [← hk8]; exact e
      obtain ⟨rfl, rfl, rfl, rfl⟩ : true = f0 ∧ true = f1 ∧ true = f2 ∧ true = f3 := by simpa [opForm] using this
      have c13 : (o.k == 13) = false := by rw [hk8]; rfl
      rw [c13]
      cases v1 : (o.v.k != 1) with
      | true =>
        have q : (o.v.k == 1) = false := by simpa using v1
        rw [q]
        exact sOpOk8v o hp c8 (.inl v1) w
      | false =>
        have q : (o.v.k == 1) = true := by simpa using v1
        rw [q]
        by_cases hn : 1 ≤ o.v.n
        · have v2 : decide (o.v.n < 1) = false := decide_eq_false (by omega)
          rw [decide_eq_true hn]
          cases i1 : inB o.r 0 3 with
          | false =>
            rw [n0 _ _ d1 i1]
            exact sOpOk8a o hp c8 v1 v2 i1 (n0 _ _ d1 i1) w
          | true =>
          cases i2 : inB o.s 0 3 with
          | false =>
            rw [n0 _ _ d2 i2]
            exact sOpOk8b o hp c8 v1 v2 i1 i2 (n0 _ _ d2 i2) w
          | true =>
          cases i3 : inB o.to 0 15 with
          | false =>
            rw [n0 _ _ d3 i3]
            exact sOpOk8c o hp c8 v1 v2 i1 i2 i3 (n0 _ _ d3 i3) w
          | true => exact sOpOk8d o hp c8 v1 v2 i1 i2 i3 w
        · rw [decide_eq_false hn]
          exact sOpOk8v o hp c8 (.inr ⟨v1, decide_eq_true (by omega)⟩) w
    | false =>
    cases c13 : (o.k == 13) with
    | true =>
      have hk13 : o.k = 13 := beq_iff_eq.1 c13
      have : opForm 13 = [f0, f1, f2, f3] := by rw [← hk13]; exact e
      obtain ⟨rfl, rfl, rfl, rfl⟩ : false = f0 ∧ false = f1 ∧ false = f2 ∧ true = f3 := by simpa [opForm] using this
      cases v1 : (o.v.k != 1) with
      | true =>
        have q : (o.v.k == 1) = false := by simpa using v1
        rw [q]
        exact sOpOk13v o hp c8 c13 (.inl v1) w
      | false =>
      have q : (o.v.k == 1) = true := by simpa using v1
      rw [q]
      cases v2 : inB o.v.n 0 1 with
      | false => exact sOpOk13v o hp c8 c13 (.inr ⟨v1, v2⟩) w
      | true =>
      rw [Bool.and_false, Bool.and_false, Bool.and_false, Bool.false_or, Bool.false_or, Bool.false_or]
      cases e1 : (o.r == 0) with
      | false => exact sOpOk13a o hp c8 c13 v1 v2 (by cases inB o.r 0 3 <;> simp) e1 w
      | true =>
      cases e2 : (o.s == 0) with
      | false => exact sOpOk13b o hp c8 c13 v1 v2 (d1 e1) e1 (by cases inB o.s 0 3 <;> simp) e2 w
      | true =>
      cases e3 : (o.to == 0) with
      | false => exact sOpOk13c o hp c8 c13 v1 v2 (d1 e1) e1 (d2 e2) e2 (by cases inB o.to 0 15 <;> simp) e3 w
      | true => exact sOpOk13d o hp c8 c13 v1 v2 (d1 e1) e1 (d2 e2) e2 (d3 e3) e3 w
    | false =>
      rcases good_or_bad f0 d1 with g1 | g1
      · rw [good_is g1]
        rcases good_or_bad f1 d2 with g2 | g2
        · rw [good_is g2]
          rcases good_or_bad f2 d3 with g3 | g3
          · rw [good_is g3]
            cases f3 with
            | true => exact sOpOkGood o _ _ _ _ hp c8 c13 g1 g2 g3 (.inl rfl) w
            | false =>
              cases z1 : (o.v.k == 0) with
              | false =>
                have : (o.v == Vl.zero) = false := by
                  refine beq_eq_false_iff_ne.2 (fun h => ?_)
                  rw [h] at z1
                  exact absurd z1 (by decide)
                rw [this]
                exact sOpOkBad4 o _ _ _ _ hp c8 c13 g1 g2 g3 rfl (.inl z1) w
              | true =>
              cases z2 : (o.v.n == 0) with
              | false =>
                have : (o.v == Vl.zero) = false := by
                  refine beq_eq_false_iff_ne.2 (fun h => ?_)
                  rw [h] at z2
                  exact absurd z2 (by decide)
                rw [this]
                exact sOpOkBad4 o _ _ _ _ hp c8 c13 g1 g2 g3 rfl (.inr ⟨z1, z2⟩) w
              | true =>
                have y1 := beq_iff_eq.1 z1
                have y2 := beq_iff_eq.1 z2
                have : (o.v == Vl.zero) = true := by
                  have : o.v = Vl.zero := by
                    cases hq : o.v with
                    | mk a b => rw [hq] at y1 y2; simp only at y1 y2; rw [y1, y2]; rfl
                  rw [this]; decide
                rw [this]
                exact sOpOkGood o _ _ _ _ hp c8 c13 g1 g2 g3 (.inr ⟨rfl, y1, y2⟩) w
          · rw [bad_is g3]
            exact sOpOkBad3 o _ _ _ _ hp c8 c13 g1 g2 g3 w
        · rw [bad_is g2]
          exact sOpOkBad2 o _ _ _ _ hp c8 c13 g1 g2 w
      · rw [bad_is g1]
        exact sOpOkBad1 o _ _ _ _ hp c8 c13 g1 w
end Go.Proofs.Ytmidnaafljgbiaa
/- Whether code is ok. -/
namespace Go.Proofs.Ytmidnaafljgbiaa
open Go.RowKit
set_option maxRecDepth 100000

def stepOk (n : Nat) (o : Opx) : Bool := opOk o && !(goesTo o.k && decide ((n : Int) ≤ o.to))
theorem codeOk_yes {C : List Opx} (h : ∀ j (hj : j < C.length), stepOk C.length C[j] = true) : codeOk C = inB C.length 1 16 := by
  have : C.all (stepOk C.length) = true := by
    rw [List.all_eq_true]
    intro x hx
    obtain ⟨j, hj, rfl⟩ := List.getElem_of_mem hx
    exact h j hj
  unfold codeOk
  unfold stepOk at this
  rw [this, Bool.true_and]
  unfold inB
  congr 1
  · exact decide_eq_decide.2 (by omega)
  · exact decide_eq_decide.2 (by omega)
theorem codeOk_no {C : List Opx} {j : Nat} (hj : j < C.length) (h : stepOk C.length C[j] = false) : codeOk C = false := by
  have : C.all (stepOk C.length) = false := by
    rw [List.all_eq_false]
    exact ⟨C[j], List.getElem_mem hj, by simp [h]⟩
  unfold codeOk
  unfold stepOk at this
  rw [this]
  rfl
set_option maxHeartbeats 2000000 in
theorem sCodeOk (C : List Opx) (cA : Option Addr) (cC : Nat) {w0 w : World} {f : List Nat} {L L' : List Asn} (M0 : Mem w0 f w L) (hd : Del (rowO cA cC C) L L') :
    Calls Try.prog 94 #[.slice cA C.length cC] w fun e w' => e = .returned (.bool (codeOk C)) ∧ Below w.heap.size w w' := by
  have hm : C.length ≤ 140737488355328 := (row_reads M0 hd).1.2.1
  have HO := Lib.hid (fun o W => sOpOk o W)
  have HGo := Lib.hid (fun k W => sGoes k W)
  have HI := Lib.hid (fun n lo hi W => sIn n lo hi W)
  have MH := Lib.hid (fun W (hb : Below w.heap.size w W) => M0.below hb)
  have hdH := Lib.hid hd
  clear M0 hd
  have AL := add_lit0
  go_enter Try.func94, Try.ntmps94
  go_wp2
  go_loopg [3] C.length (fun gg i wr => ∃ k : Nat, k ≤ C.length ∧ C.length - k ≤ gg ∧ i = .int .i64 k ∧ Hid (∀ j (hj : j < C.length), j < k → stepOk C.length C[j] = true) ∧ Hid (Below w.heap.size w wr))
  case atStart => exact ⟨0, by omega, by omega, rfl, fun j _ h => absurd h (by omega), Below.refl _ _⟩
  case round =>
    obtain ⟨k, hk, hg, rfl, HA, BW⟩ := hrel
    by_cases hlt : k < C.length
    · have MW := MH.out _ BW.out
      obtain ⟨g, rfl⟩ := row_form MW hdH.out (by omega)
      have RO := Lib.hid (fun W (hb : Below w.heap.size w W) => elemO0 (MH.out W hb) hdH.out hlt)
      have E1 := RO.out _ BW.out
      have i1 : (0 : Int) ≤ k := by omega
      have i2 : (k : Int) < C.length := by omega
      have NO : Hid (stepOk C.length C[k] = false → codeOk C = false) := fun h => codeOk_no hlt h
      have YES : Hid (stepOk C.length C[k] = true → ∀ j (hj : j < C.length), j < k + 1 → stepOk C.length C[j] = true) := by
        intro h j hj hjk
        by_cases he : j = k
        · subst he; exact h
        · exact HA.out j hj (by omega)
      have HOk := Lib.hid (fun W => HO.out C[k] W)
      unfold stepOk at NO YES
      generalize C[k] = o at E1 RO NO HOk YES
      clear MW HO
      obtain ⟨kk, r, s, to, ⟨vk, vn⟩⟩ := o
      have HG1 := Lib.hid (fun W => HGo.out kk W)
      clear HGo
      simp only [opArr] at *
      generalize opOk ⟨kk, r, s, to, ⟨vk, vn⟩⟩ = x at NO HOk YES
      generalize goesTo kk = y at NO HG1 YES
      by_cases hd : (C.length : Int) ≤ to
      · rw [decide_eq_true hd] at NO YES
        cases x <;> cases y
        · go_wp2_with (first
            | (go_at_call 113; refine (HOk.out _).mono ?_; rintro e w2 ⟨rfl, hb⟩; have B2 := Lib.hid (below_step BW.out hb); clear hb; have E2 := RO.out _ B2.out)
            | (go_at_call 114; refine (HG1.out _).mono ?_; rintro e w2 ⟨rfl, rfl⟩))
          go_ret
          exact ⟨ret_bool (NO.out rfl).symm, B2.out⟩
        · go_wp2_with (first
            | (go_at_call 113; refine (HOk.out _).mono ?_; rintro e w2 ⟨rfl, hb⟩; have B2 := Lib.hid (below_step BW.out hb); clear hb; have E2 := RO.out _ B2.out)
            | (go_at_call 114; refine (HG1.out _).mono ?_; rintro e w2 ⟨rfl, rfl⟩))
          go_ret
          exact ⟨ret_bool (NO.out rfl).symm, B2.out⟩
        · go_wp2_with (first
            | (go_at_call 113; refine (HOk.out _).mono ?_; rintro e w2 ⟨rfl, hb⟩; have B2 := Lib.hid (below_step BW.out hb); clear hb; have E2 := RO.out _ B2.out)
            | (go_at_call 114; refine (HG1.out _).mono ?_; rintro e w2 ⟨rfl, rfl⟩))
          go_roundg (C.length - (k + 1))
          case measure => omega
          case rel => exact ⟨k + 1, by omega, by omega, by go_num, YES.out rfl, B2⟩
        · go_wp2_with (first
            | (go_at_call 113; refine (HOk.out _).mono ?_; rintro e w2 ⟨rfl, hb⟩; have B2 := Lib.hid (below_step BW.out hb); clear hb; have E2 := RO.out _ B2.out)
            | (go_at_call 114; refine (HG1.out _).mono ?_; rintro e w2 ⟨rfl, rfl⟩))
          go_ret
          exact ⟨ret_bool (NO.out rfl).symm, B2.out⟩
      · rw [decide_eq_false hd] at NO YES
        cases x <;> cases y
        · go_wp2_with (first
            | (go_at_call 113; refine (HOk.out _).mono ?_; rintro e w2 ⟨rfl, hb⟩; have B2 := Lib.hid (below_step BW.out hb); clear hb; have E2 := RO.out _ B2.out)
            | (go_at_call 114; refine (HG1.out _).mono ?_; rintro e w2 ⟨rfl, rfl⟩))
          go_ret
          exact ⟨ret_bool (NO.out rfl).symm, B2.out⟩
        · go_wp2_with (first
            | (go_at_call 113; refine (HOk.out _).mono ?_; rintro e w2 ⟨rfl, hb⟩; have B2 := Lib.hid (below_step BW.out hb); clear hb; have E2 := RO.out _ B2.out)
            | (go_at_call 114; refine (HG1.out _).mono ?_; rintro e w2 ⟨rfl, rfl⟩))
          go_ret
          exact ⟨ret_bool (NO.out rfl).symm, B2.out⟩
        · go_wp2_with (first
            | (go_at_call 113; refine (HOk.out _).mono ?_; rintro e w2 ⟨rfl, hb⟩; have B2 := Lib.hid (below_step BW.out hb); clear hb; have E2 := RO.out _ B2.out)
            | (go_at_call 114; refine (HG1.out _).mono ?_; rintro e w2 ⟨rfl, rfl⟩))
          go_roundg (C.length - (k + 1))
          case measure => omega
          case rel => exact ⟨k + 1, by omega, by omega, by go_num, YES.out rfl, B2⟩
        · go_wp2_with (first
            | (go_at_call 113; refine (HOk.out _).mono ?_; rintro e w2 ⟨rfl, hb⟩; have B2 := Lib.hid (below_step BW.out hb); clear hb; have E2 := RO.out _ B2.out)
            | (go_at_call 114; refine (HG1.out _).mono ?_; rintro e w2 ⟨rfl, rfl⟩))
          go_roundg (C.length - (k + 1))
          case measure => omega
          case rel => exact ⟨k + 1, by omega, by omega, by go_num, YES.out rfl, B2⟩
    · have : k = C.length := by omega
      subst this
      have e := Lib.hid (codeOk_yes (fun j hj => HA.out j hj hj))
      have HB := Lib.hid BW.out
      go_wp2_with (go_at_call 80; refine (HI.out _ _ _ _).mono ?_; rintro e w2 ⟨rfl, rfl⟩)
      go_ret
      exact ⟨ret_bool e.out.symm, HB.out⟩
end Go.Proofs.Ytmidnaafljgbiaa
/- Whether code is safe: its plain part. -/
namespace Go.Proofs.Ytmidnaafljgbiaa
open Go.RowKit
set_option maxRecDepth 100000

theorem safeFrom_yes {n : Nat} {F : List Int} : ∀ (c : List Opx) (i : Nat), (∀ j (hj : j < c.length), safeAt n F (i + j) c[j] = true) → safeFrom n F i c = true
  | [], _, _ => rfl
  | o :: c, i, h => by
    have h0 := h 0 (by simp)
    have h1 := safeFrom_yes (n := n) (F := F) c (i + 1) (fun j hj => by
      have := h (j + 1) (by simpa using hj)
      rw [show i + (j + 1) = i + 1 + j by omega] at this
      exact this)
    simp only [Nat.add_zero, List.getElem_cons_zero] at h0
    simp only [safeFrom, h0, h1, Bool.and_self]
theorem safeFrom_no {n : Nat} {F : List Int} : ∀ (c : List Opx) (i j : Nat) (hj : j < c.length), safeAt n F (i + j) c[j] = false → safeFrom n F i c = false
  | o :: c, i, 0, _, h => by
    simp only [Nat.add_zero, List.getElem_cons_zero] at h
    simp only [safeFrom, h, Bool.false_and]
  | o :: c, i, j + 1, hj, h => by
    have := safeFrom_no (n := n) (F := F) c (i + 1) j (by simpa using hj) (by
      rw [show i + (j + 1) = i + 1 + j by omega] at h
      exact h)
    simp only [safeFrom, this, Bool.and_false]
theorem codeSafe_yes {C : List Opx} (ho : codeOk C = true) (h : ∀ j (hj : j < C.length), safeAt C.length (fullOf C) j C[j] = true) : codeSafe C = true := by
  unfold codeSafe
  rw [ho, safeFrom_yes C 0 (fun j hj => by rw [Nat.zero_add]; exact h j hj)]
  rfl
theorem codeSafe_no {C : List Opx} {j : Nat} (hj : j < C.length) (h : safeAt C.length (fullOf C) j C[j] = false) : codeSafe C = false := by
  unfold codeSafe
  rw [safeFrom_no C 0 j hj (by rw [Nat.zero_add]; exact h), Bool.and_false]
theorem codeSafe_bad {C : List Opx} (ho : codeOk C = false) : codeSafe C = false := by
  unfold codeSafe
  rw [ho, Bool.false_and]
end Go.Proofs.Ytmidnaafljgbiaa
