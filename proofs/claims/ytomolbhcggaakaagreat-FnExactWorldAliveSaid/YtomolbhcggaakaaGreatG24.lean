/- Parts of the proof, in one text. -/
import Derived.Test.YtomolbhcggaakaaGreatG23
/- Whether code is ok. -/
namespace Go.Proofs.YtomolbhcggaakaaGreat
open Go.RowKit
set_option maxRecDepth 100000

def stepOk (n : Nat) (o : Opx) : Bool := opOk o && !(goesTo o.k && decide ((n : Int) ≤ o.to))
theorem codeOk_yes {C : List Opx} (h : ∀ j (hj : j < C.length), stepOk C.length C[j] = true) : codeOk C = inB C.length 1 16 := by
  have : C.all (stepOk C.length) = true := by
    rw [List.all_eq_true]
    intro x hx
    obtain ⟨j, hj, rfl⟩ := List.getElem_of_mem hx
    exact h j hj
  unfold codeOk
  unfold stepOk at this
  rw [this, Bool.true_and]
  unfold inB
  congr 1
  · exact decide_eq_decide.2 (by omega)
  · exact decide_eq_decide.2 (by omega)
theorem codeOk_no {C : List Opx} {j : Nat} (hj : j < C.length) (h : stepOk C.length C[j] = false) : codeOk C = false := by
  have : C.all (stepOk C.length) = false := by
    rw [List.all_eq_false]
    exact ⟨C[j], List.getElem_mem hj, by simp [h]⟩
  unfold codeOk
  unfold stepOk at this
  rw [this]
  rfl
set_option maxHeartbeats 2000000 in
theorem sCodeOk (C : List Opx) (cA : Option Addr) (cC : Nat) {w0 w : World} {f : List Nat} {L L' : List Asn} (M0 : Mem w0 f w L) (hd : Del (rowO cA cC C) L L') :
    Calls Tryz.prog 86 #[.slice cA C.length cC] w fun e w' => e = .returned (.bool (codeOk C)) ∧ Below w.heap.size w w' := by
  have hm : C.length ≤ 140737488355328 := (row_reads M0 hd).1.2.1
  have HO := Lib.hid (fun o W => sOpOk o W)
  have HGo := Lib.hid (fun k W => sGoes k W)
  have HI := Lib.hid (fun n lo hi W => sIn n lo hi W)
  have MH := Lib.hid (fun W (hb : Below w.heap.size w W) => M0.below hb)
  have hdH := Lib.hid hd
  clear M0 hd
  have AL := add_lit0
  go_enter Tryz.func86, Tryz.ntmps86
  go_wp2
  go_loopg [3] C.length (fun gg i wr => ∃ k : Nat, k ≤ C.length ∧ C.length - k ≤ gg ∧ i = .int .i64 k ∧ Hid (∀ j (hj : j < C.length), j < k → stepOk C.length C[j] = true) ∧ Hid (Below w.heap.size w wr))
  case atStart => exact ⟨0, by omega, by omega, rfl, fun j _ h => absurd h (by omega), Below.refl _ _⟩
  case round =>
    obtain ⟨k, hk, hg, rfl, HA, BW⟩ := hrel
    by_cases hlt : k < C.length
    · have MW := MH.out _ BW.out
      obtain ⟨g, rfl⟩ := row_form MW hdH.out (by omega)
      have RO := Lib.hid (fun W (hb : Below w.heap.size w W) => elemO0 (MH.out W hb) hdH.out hlt)
      have E1 := RO.out _ BW.out
      have i1 : (0 : Int) ≤ k := by omega
      have i2 : (k : Int) < C.length := by omega
      have NO : Hid (stepOk C.length C[k] = false → codeOk C = false) := fun h => codeOk_no hlt h
      have YES : Hid (stepOk C.length C[k] = true → ∀ j (hj : j < C.length), j < k + 1 → stepOk C.length C[j] = true) := by
        intro h j hj hjk
        by_cases he : j = k
        · subst he; exact h
        · exact HA.out j hj (by omega)
      have HOk := Lib.hid (fun W => HO.out C[k] W)
      unfold stepOk at NO YES
      generalize C[k] = o at E1 RO NO HOk YES
      clear MW HO
      obtain ⟨kk, r, s, to, ⟨vk, vn⟩⟩ := o
      have HG1 := Lib.hid (fun W => HGo.out kk W)
      clear HGo
      simp only [opArr] at *
      generalize opOk ⟨kk, r, s, to, ⟨vk, vn⟩⟩ = x at NO HOk YES
      generalize goesTo kk = y at NO HG1 YES
      by_cases hd : (C.length : Int) ≤ to
      · rw [decide_eq_true hd] at NO YES
        cases x <;> cases y
        · go_wp2_with (first
            | (go_at_call 121; refine (HOk.out _).mono ?_; rintro e w2 ⟨rfl, hb⟩; have B2 := Lib.hid (below_step BW.out hb); clear hb; have E2 := RO.out _ B2.out)
            | (go_at_call 122; refine (HG1.out _).mono ?_; rintro e w2 ⟨rfl, rfl⟩))
          go_ret
          exact ⟨ret_bool (NO.out rfl).symm, B2.out⟩
        · go_wp2_with (first
            | (go_at_call 121; refine (HOk.out _).mono ?_; rintro e w2 ⟨rfl, hb⟩; have B2 := Lib.hid (below_step BW.out hb); clear hb; have E2 := RO.out _ B2.out)
            | (go_at_call 122; refine (HG1.out _).mono ?_; rintro e w2 ⟨rfl, rfl⟩))
          go_ret
          exact ⟨ret_bool (NO.out rfl).symm, B2.out⟩
        · go_wp2_with (first
            | (go_at_call 121; refine (HOk.out _).mono ?_; rintro e w2 ⟨rfl, hb⟩; have B2 := Lib.hid (below_step BW.out hb); clear hb; have E2 := RO.out _ B2.out)
            | (go_at_call 122; refine (HG1.out _).mono ?_; rintro e w2 ⟨rfl, rfl⟩))
          go_roundg (C.length - (k + 1))
          case measure => omega
          case rel => exact ⟨k + 1, by omega, by omega, by go_num, YES.out rfl, B2⟩
        · go_wp2_with (first
            | (go_at_call 121; refine (HOk.out _).mono ?_; rintro e w2 ⟨rfl, hb⟩; have B2 := Lib.hid (below_step BW.out hb); clear hb; have E2 := RO.out _ B2.out)
            | (go_at_call 122; refine (HG1.out _).mono ?_; rintro e w2 ⟨rfl, rfl⟩))
          go_ret
          exact ⟨ret_bool (NO.out rfl).symm, B2.out⟩
      · rw [decide_eq_false hd] at NO YES
        cases x <;> cases y
        · go_wp2_with (first
            | (go_at_call 121; refine (HOk.out _).mono ?_; rintro e w2 ⟨rfl, hb⟩; have B2 := Lib.hid (below_step BW.out hb); clear hb; have E2 := RO.out _ B2.out)
            | (go_at_call 122; refine (HG1.out _).mono ?_; rintro e w2 ⟨rfl, rfl⟩))
          go_ret
          exact ⟨ret_bool (NO.out rfl).symm, B2.out⟩
        · go_wp2_with (first
            | (go_at_call 121; refine (HOk.out _).mono ?_; rintro e w2 ⟨rfl, hb⟩; have B2 := Lib.hid (below_step BW.out hb); clear hb; have E2 := RO.out _ B2.out)
            | (go_at_call 122; refine (HG1.out _).mono ?_; rintro e w2 ⟨rfl, rfl⟩))
          go_ret
          exact ⟨ret_bool (NO.out rfl).symm, B2.out⟩
        · go_wp2_with (first
            | (go_at_call 121; refine (HOk.out _).mono ?_; rintro e w2 ⟨rfl, hb⟩; have B2 := Lib.hid (below_step BW.out hb); clear hb; have E2 := RO.out _ B2.out)
            | (go_at_call 122; refine (HG1.out _).mono ?_; rintro e w2 ⟨rfl, rfl⟩))
          go_roundg (C.length - (k + 1))
          case measure => omega
          case rel => exact ⟨k + 1, by omega, by omega, by go_num, YES.out rfl, B2⟩
        · go_wp2_with (first
            | (go_at_call 121; refine (HOk.out _).mono ?_; rintro e w2 ⟨rfl, hb⟩; have B2 := Lib.hid (below_step BW.out hb); clear hb; have E2 := RO.out _ B2.out)
            | (go_at_call 122; refine (HG1.out _).mono ?_; rintro e w2 ⟨rfl, rfl⟩))
          go_roundg (C.length - (k + 1))
          case measure => omega
          case rel => exact ⟨k + 1, by omega, by omega, by go_num, YES.out rfl, B2⟩
    · have : k = C.length := by omega
      subst this
      have e := Lib.hid (codeOk_yes (fun j hj => HA.out j hj hj))
      have HB := Lib.hid BW.out
      go_wp2_with (go_at_call 45; refine (HI.out _ _ _ _).mono ?_; rintro e w2 ⟨rfl, rfl⟩)
      go_ret
      exact ⟨ret_bool e.out.symm, HB.out⟩
end Go.Proofs.YtomolbhcggaakaaGreat
/- Whether code is safe: its plain part. -/
namespace Go.Proofs.YtomolbhcggaakaaGreat
open Go.RowKit
set_option maxRecDepth 100000

theorem safeFrom_yes {n : Nat} {F : List Int} : ∀ (c : List Opx) (i : Nat), (∀ j (hj : j < c.length), safeAt n F (i + j) c[j] = true) → safeFrom n F i c = true
  | [], _, _ => rfl
  | o :: c, i, h => by
    have h0 := h 0 (by simp)
    have h1 := safeFrom_yes (n := n) (F := F) c (i + 1) (fun j hj => by
      have := h (j + 1) (by simpa using hj)
      rw [show i + (j + 1) = i + 1 + j by omega] at this
      exact this)
    simp only [Nat.add_zero, List.getElem_cons_zero] at h0
    simp only [safeFrom, h0, h1, Bool.and_self]
theorem safeFrom_no {n : Nat} {F : List Int} : ∀ (c : List Opx) (i j : Nat) (hj : j < c.length), safeAt n F (i + j) c[j] = false → safeFrom n F i c = false
  | o :: c, i, 0, _, h => by
    simp only [Nat.add_zero, List.getElem_cons_zero] at h
    simp only [safeFrom, h, Bool.false_and]
  | o :: c, i, j + 1, hj, h => by
    have := safeFrom_no (n := n) (F := F) c (i + 1) j (by simpa using hj) (by
      rw [show i + (j + 1) = i + 1 + j by omega] at h
      exact h)
    simp only [safeFrom, this, Bool.and_false]
theorem codeSafe_yes {C : List Opx} (ho : codeOk C = true) (h : ∀ j (hj : j < C.length), safeAt C.length (fullOf C) j C[j] = true) : codeSafe C = true := by
  unfold codeSafe
  rw [ho, safeFrom_yes C 0 (fun j hj => by rw [Nat.zero_add]; exact h j hj)]
  rfl
theorem codeSafe_no {C : List Opx} {j : Nat} (hj : j < C.length) (h : safeAt C.length (fullOf C) j C[j] = false) : codeSafe C = false := by
  unfold codeSafe
  rw [safeFrom_no C 0 j hj (by rw [Nat.zero_add]; exact h), Bool.and_false]
theorem codeSafe_bad {C : List Opx} (ho : codeOk C = false) : codeSafe C = false := by
  unfold codeSafe
  rw [ho, Bool.false_and]
end Go.Proofs.YtomolbhcggaakaaGreat
