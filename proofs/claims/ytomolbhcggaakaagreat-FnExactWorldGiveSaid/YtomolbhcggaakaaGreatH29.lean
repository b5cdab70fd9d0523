/- Parts of the proof, in one text. -/
import Derived.Test.YtomolbhcggaakaaGreatH28
/- When a step is ok, by the program's text. -/
namespace Go.Proofs.YtomolbhcggaakaaGreat
open Go.RowKit
set_option maxRecDepth 100000

def fieldOk (b : Bool) (n most : Int) : Bool := if b then inB n 0 most else n == 0
theorem slot_part (b : Bool) (n m : Int) (hm : 0 ≤ m) : (b && inB n 0 m || n == 0) = fieldOk b n m := by
  unfold fieldOk
  cases b with
  | false => simp
  | true =>
    simp only [Bool.true_and, if_true]
    cases h : inB n 0 m with
    | true => rfl
    | false =>
      rw [Bool.false_or, beq_eq_false_iff_ne]
      intro e
      rw [e, inB_iff.2 ⟨by omega, hm⟩] at h
      cases h
theorem kinds14 {k : Int} (h : inB k 1 14 = true) : k = 1 ∨ k = 2 ∨ k = 3 ∨ k = 4 ∨ k = 5 ∨ k = 6 ∨ k = 7 ∨ k = 8 ∨ k = 9 ∨ k = 10 ∨ k = 11 ∨ k = 12 ∨ k = 13 ∨ k = 14 := by
  have := inB_iff.1 h
  omega
theorem op_bools : ∀ A B C z q1 qi qn x b8 b13 F : Bool, ((q1 && qi) = true → x = true) → (z = true → x = true) → (b8 = true → F = true) → (b13 = true → F = true) → (b8 = true → b13 = true → False) →
    (x && (!b8 || q1 && qn) && (!b13 || q1 && qi) && A && B && C && (F || z)) = (A && B && C && (if F = true then (if b8 = true then x && q1 && qn else if b13 = true then q1 && qi else x) else z)) := by decide
theorem opOk_I (o : Opx) (h : inB o.k 1 14 = true) : opOk o = (fieldOk (hasB o.k 82) o.r 3 && fieldOk (hasB o.k 83) o.s 3 && fieldOk (hasB o.k 84) o.to 15 && (if hasB o.k 86 then valOkI o else o.v == Vl.zero)) := by
  obtain ⟨e1, e2, e3, e4⟩ := hasB_form o.k
  rw [e1, e2, e3, e4]
  unfold opOk valOkI
  rw [h, Bool.true_and, slot_part _ _ _ (by decide), slot_part _ _ _ (by decide), slot_part _ _ _ (by decide)]
  clear e1 e2 e3 e4
  generalize fieldOk (formAt o.k 0) o.r 3 = A
  generalize fieldOk (formAt o.k 1) o.s 3 = B
  generalize fieldOk (formAt o.k 2) o.to 15 = C
  have hk := kinds14 h
  clear h
  obtain ⟨k, r, s, to, v⟩ := o
  simp only at hk ⊢
  have hz : valOk Vl.zero = true := by decide
  have H13 : (v.k == 1 && inB v.n 0 1) = true → valOk v = true := by
    intro hv
    simp only [Bool.and_eq_true, beq_iff_eq, inB_iff] at hv
    unfold valOk
    rw [if_neg (by omega), if_pos hv.1, inB_iff]
    omega
  have HVZ : (v == Vl.zero) = true → valOk v = true := by
    intro hv
    rw [beq_iff_eq] at hv
    rw [hv, hz]
  have f8 : (k == 8) = true → formAt k 3 = true := fun e => by rw [beq_iff_eq] at e; subst e; rfl
  have f13 : (k == 13) = true → formAt k 3 = true := fun e => by rw [beq_iff_eq] at e; subst e; rfl
  have f83 : (k == 8) = true → (k == 13) = true → False := fun e e' => by rw [beq_iff_eq] at e e'; omega
  have i8 : (k = 8) = ((k == 8) = true) := by rw [beq_iff_eq]
  have i13 : (k = 13) = ((k == 13) = true) := by rw [beq_iff_eq]
  clear hk
  have e : (if k = 8 then valOk v && v.k == 1 && decide (1 ≤ v.n) else if k = 13 then v.k == 1 && inB v.n 0 1 else valOk v) = (if (k == 8) = true then valOk v && v.k == 1 && decide (1 ≤ v.n) else if (k == 13) = true then v.k == 1 && inB v.n 0 1 else valOk v) := by
    simp only [beq_iff_eq]
  rw [e]
  clear e i8 i13
  generalize (v == Vl.zero) = z at HVZ ⊢
  generalize (v.k == 1) = q1 at H13 ⊢
  generalize inB v.n 0 1 = qi at H13 ⊢
  generalize decide (1 ≤ v.n) = qn
  generalize valOk v = x at H13 HVZ ⊢
  generalize (k == 8) = b8 at f8 f83 ⊢
  generalize (k == 13) = b13 at f13 f83 ⊢
  generalize formAt k 3 = F at f8 f13 ⊢
  exact op_bools A B C z q1 qi qn x b8 b13 F H13 HVZ f8 f13 f83
set_option maxHeartbeats 1000000 in
theorem iField (o : Opx) (g : Nat) (c : UInt8) (n most : Int) {w0 w : World} {f : List Nat} {L L' : List Asn} (M : Mem w0 f w L) (hd : Del (blk g tO (encO o)) L L') :
    Calls Tryz.prog 163 #[.string ⟨#[c]⟩, .int .i64 n, .int .i64 most, .pointer (some ⟨g, 0, none⟩)] w fun e w' => e = .returned (.bool (fieldOk (hasB o.k c) n most)) ∧ Below w.heap.size w w' := by
  have hc := M.cells hd
  have hg := ((blk g tO (encO o)).imp w (M.is hd)).1
  clear M hd
  have HA := Lib.hid (fun V => iHas o c V)
  have HI := Lib.hid (fun V => iIn n 0 most V)
  unfold fieldOk
  generalize hasB o.k c = b at HA ⊢
  generalize inB n 0 most = x at HI ⊢
  obtain ⟨k, r, s, to, ⟨vk, vn⟩⟩ := o
  simp only [opArr, encO] at *
  cases b with
  | false =>
    go_enter Tryz.func163, Tryz.ntmps163
    go_wp2_with (first
      | (go_at_call 132; refine (HA.out _).mono ?_; rintro e w2 ⟨rfl, hb⟩)
      | (go_at_call 54; refine (HI.out _).mono ?_; rintro e w2 ⟨rfl, rfl⟩))
    go_ret
    exact ⟨rfl, hb⟩
  | true =>
    go_enter Tryz.func163, Tryz.ntmps163
    go_wp2_with (first
      | (go_at_call 132; refine (HA.out _).mono ?_; rintro e w2 ⟨rfl, hb⟩)
      | (go_at_call 54; refine (HI.out _).mono ?_; rintro e w2 ⟨rfl, rfl⟩))
    go_ret
    exact ⟨rfl, hb⟩
end Go.Proofs.YtomolbhcggaakaaGreat
/- When a step is ok, by the program's text: the whole. -/
namespace Go.Proofs.YtomolbhcggaakaaGreat
open Go.RowKit
set_option maxRecDepth 100000

theorem eqZero (k n : Int) : ((⟨k, n⟩ : Vl) == Vl.zero) = (k == 0 && n == 0) := by
  rw [Bool.eq_iff_iff]
  simp only [beq_iff_eq, Bool.and_eq_true]
  exact ⟨fun h => ⟨congrArg Vl.k h, congrArg Vl.n h⟩, fun h => by rw [h.1, h.2]; rfl⟩
theorem word_ne {k : Int} (h : inB k 1 14 = true) : (wordOf k).toList.isEmpty = false := by
  rcases kinds14 h with rfl | rfl | rfl | rfl | rfl | rfl | rfl | rfl | rfl | rfl | rfl | rfl | rfl | rfl <;> decide +kernel
theorem abc (A B C : Bool) : A = false ∨ (A = true ∧ B = false) ∨ (A = true ∧ B = true ∧ C = false) ∨ (A = true ∧ B = true ∧ C = true) := by revert A B C; decide
end Go.Proofs.YtomolbhcggaakaaGreat
