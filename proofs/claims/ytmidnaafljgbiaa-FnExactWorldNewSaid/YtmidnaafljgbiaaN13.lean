/- Parts of the proof, in one text. -/
import Derived.Test.YtmidnaafljgbiaaN12
/- When a step is ok, by the program's text. -/
namespace Go.Proofs.Ytmidnaafljgbiaa
open Go.RowKit
set_option maxRecDepth 100000

def fieldOk (b : Bool) (n most : Int) : Bool := if b then inB n 0 most else n == 0
theorem slot_part (b : Bool) (n m : Int) (hm : 0 ≤ m) : (b && inB n 0 m || n == 0) = fieldOk b n m := by
  unfold fieldOk
  cases b with
  | false => simp
  | true =>
    simp only [Bool.true_and, if_true]
    cases h : inB n 0 m with
    | true => rfl
    | false =>
      rw [Bool.false_or, beq_eq_false_iff_ne]
      intro e
      rw [e, inB_iff.2 ⟨by omega, hm⟩] at h
      cases h
theorem kinds14 {k : Int} (h : inB k 1 14 = true) : k = 1 ∨ k = 2 ∨ k = 3 ∨ k = 4 ∨ k = 5 ∨ k = 6 ∨ k = 7 ∨ k = 8 ∨ k = 9 ∨ k = 10 ∨ k = 11 ∨ k = 12 ∨ k = 13 ∨ k = 14 := by
  have := inB_iff.1 h
  omega
theorem op_bools : ∀ A B C z q1 qi qn x b8 b13 F : Bool, ((q1 && qi) = true → x = true) → (z = true → x = true) → (b8 = true → F = true) → (b13 = true → F = true) → (b8 = true → b13 = true → False) →
    (x && (!b8 || q1 && qn) && (!b13 || q1 && qi) && A && B && C && (F || z)) = (A && B && C && (if F = true then (if b8 = true then x && q1 && qn else if b13 = true then q1 && qi else x) else z)) := by decide
theorem opOk_I (o : Opx) (h : inB o.k 1 14 = true) : opOk o = (fieldOk (hasB o.k 82) o.r 3 && fieldOk (hasB o.k 83) o.s 3 && fieldOk (hasB o.k 84) o.to 15 && (if hasB o.k 86 then valOkI o else o.v == Vl.zero)) := by
  obtain ⟨e1, e2, e3, e4⟩ := hasB_form o.k
  rw [e1, e2, e3, e4]
  unfold opOk valOkI
  rw [h, Bool.true_and, slot_part _ _ _ (by decide), slot_part _ _ _ (by decide), slot_part _ _ _ (by decide)]
  clear e1 e2 e3 e4
  generalize fieldOk (formAt o.k 0) o.r 3 = A
  generalize fieldOk (formAt o.k 1) o.s 3 = B
  generalize fieldOk (formAt o.k 2) o.to 15 = C
  have hk := kinds14 h
  clear h
  obtain ⟨k, r, s, to, v⟩ := o
  simp only at hk ⊢
  have hz : valOk Vl.zero = true := by decide
  have H13 : (v.k == 1 && inB v.n 0 1) = true → valOk v = true := by
    intro hv
    simp only [Bool.and_eq_true, beq_iff_eq, inB_iff] at hv
    unfold valOk
    rw [if_neg (by omega), if_pos hv.1, inB_iff]
    omega
  have HVZ : (v == Vl.zero) = true → valOk v = true := by
    intro hv
    rw [beq_iff_eq] at hv
    rw [hv, hz]
  have f8 : (k == 8) = true → formAt k 3 = true := fun e => by rw [beq_iff_eq] at e; subst e; rfl
  have f13 : (k == 13) = true → formAt k 3 = true := fun e => by rw [beq_iff_eq] at e; subst e; rfl
  have f83 : (k == 8) = true → (k == 13) = true → False := fun e e' => by rw [beq_iff_eq] at e e'; omega
  have i8 : (k = 8) = ((k == 8) = true) := by rw [beq_iff_eq]
  have i13 : (k = 13) = ((k == 13) = true) := by rw [beq_iff_eq]
  clear hk
  have e : (if k = 8 then valOk v && v.k == 1 && decide (1 ≤ v.n) else if k = 13 then v.k == 1 && inB v.n 0 1 else valOk v) = (if (k == 8) = true then valOk v && v.k == 1 && decide (1 ≤ v.n) else if (k == 13) = true then v.k == 1 && inB v.n 0 1 else valOk v) := by
    simp only [beq_iff_eq]
  rw [e]
  clear e i8 i13
  generalize (v == Vl.zero) = z at HVZ ⊢
  generalize (v.k == 1) = q1 at H13 ⊢
  generalize inB v.n 0 1 = qi at H13 ⊢
  generalize decide (1 ≤ v.n) = qn
  generalize valOk v = x at H13 HVZ ⊢
  generalize (k == 8) = b8 at f8 f83 ⊢
  generalize (k == 13) = b13 at f13 f83 ⊢
  generalize formAt k 3 = F at f8 f13 ⊢
  exact op_bools A B C z q1 qi qn x b8 b13 F H13 HVZ f8 f13 f83
set_option maxHeartbeats 1000000 in
theorem iField (o : Opx) (g : Nat) (c : UInt8) (n most : Int) {w0 w : World} {f : List Nat} {L L' : List Asn} (M : Mem w0 f w L) (hd : Del (blk g tO (encO o)) L L') :
    Calls Try.prog 129 #[.string ⟨#[c]⟩, .int .i64 n, .int .i64 most, .pointer (some ⟨g, 0, none⟩)] w fun e w' => e = .returned (.bool (fieldOk (hasB o.k c) n most)) ∧ Below w.heap.size w w' := by
  have hc := M.cells hd
  have hg := ((blk g tO (encO o)).imp w (M.is hd)).1
  clear M hd
  have HA := Lib.hid (fun V => iHas o c V)
  have HI := Lib.hid (fun V => iIn n 0 most V)
  unfold fieldOk
  generalize hasB o.k c = b at HA ⊢
  generalize inB n 0 most = x at HI ⊢
  obtain ⟨k, r, s, to, ⟨vk, vn⟩⟩ := o
  simp only [opArr, encO] at *
  cases b with
  | false =>
    go_enter Try.func129, Try.ntmps129
    go_wp2_with (first
      | (go_at_call 118; refine (HA.out _).mono ?_; rintro e w2 ⟨rfl, hb⟩)
      | (go_at_call 75; refine (HI.out _).mono ?_; rintro e w2 ⟨rfl, rfl⟩))
    go_ret
    exact ⟨rfl, hb⟩
  | true =>
    go_enter Try.func129, Try.ntmps129
    go_wp2_with (first
      | (go_at_call 118; refine (HA.out _).mono ?_; rintro e w2 ⟨rfl, hb⟩)
      | (go_at_call 75; refine (HI.out _).mono ?_; rintro e w2 ⟨rfl, rfl⟩))
    go_ret
    exact ⟨rfl, hb⟩
end Go.Proofs.Ytmidnaafljgbiaa
/- When a step is ok, by the program's text: the whole. -/
namespace Go.Proofs.Ytmidnaafljgbiaa
open Go.RowKit
set_option maxRecDepth 100000

theorem eqZero (k n : Int) : ((⟨k, n⟩ : Vl) == Vl.zero) = (k == 0 && n == 0) := by
  rw [Bool.eq_iff_iff]
  simp only [beq_iff_eq, Bool.and_eq_true]
  exact ⟨fun h => ⟨congrArg Vl.k h, congrArg Vl.n h⟩, fun h => by rw [h.1, h.2]; rfl⟩
theorem word_ne {k : Int} (h : inB k 1 14 = true) : (wordOf k).toList.isEmpty = false := by
  rcases kinds14 h with rfl | rfl | rfl | rfl | rfl | rfl | rfl | rfl | rfl | rfl | rfl | rfl | rfl | rfl <;> decide +kernel
theorem abc (A B C : Bool) : A = false ∨ (A = true ∧ B = false) ∨ (A = true ∧ B = true ∧ C = false) ∨ (A = true ∧ B = true ∧ C = true) := by revert A B C; decide
end Go.Proofs.Ytmidnaafljgbiaa
/- When a step is ok, by the program's text: it has a value. -/
namespace Go.Proofs.Ytmidnaafljgbiaa
open Go.RowKit
set_option maxRecDepth 100000

set_option maxHeartbeats 4000000 in
theorem iOpOk_t (o : Opx) (h : inB o.k 1 14 = true) (hb : hasB o.k 86 = true) (w : World) : Calls Try.prog 117 #[.agg (opArr o)] w fun e w' => e = .returned (.bool (opOk o)) ∧ Below w.heap.size w w' := by
  rw [opOk_I o h]
  have eg := enters_of Try.func129 (by kernel_rfl) rfl
  have M := Mem.nil w
  have HA := Lib.hid (fun V => iHas o 86 V)
  have HV := Lib.hid (fun V => iValOk2 o V)
  have HH := Lib.hid (fun V (L : List Asn) (M : Mem w [] V L) => iHow o M)
  have HR := Lib.hid (fun V (L L' : List Asn) (M : Mem w [] V L) hd => iField o w.heap.size 82 o.r 3 (L' := L') M hd)
  have HS := Lib.hid (fun V (L L' : List Asn) (M : Mem w [] V L) hd => iField o w.heap.size 83 o.s 3 (L' := L') M hd)
  have HT := Lib.hid (fun V (L L' : List Asn) (M : Mem w [] V L) hd => iField o w.heap.size 84 o.to 15 (L' := L') M hd)
  have hw := word_ne h
  clear h
  have f0 := fieldM0 (wordOf o.k) (hasOf o.k) (readsOf o.k) (fillsR o.k)
  generalize fieldOk (hasB o.k 82) o.r 3 = A at HR ⊢
  generalize fieldOk (hasB o.k 83) o.s 3 = B at HS ⊢
  generalize fieldOk (hasB o.k 84) o.to 15 = C at HT ⊢
  rw [hb] at HA ⊢
  clear hb
  generalize valOkI o = x at HV ⊢
  obtain ⟨k, r, s, to, ⟨vk, vn⟩⟩ := o
  rw [eqZero]
  simp only [opArr, howArr, encO] at *
  generalize wordOf k = z1 at HH f0 hw
  have hw2 : ¬ z1.toList = [] := by intro e; rw [e] at hw; cases hw
  generalize hasOf k = z2 at HH f0
  generalize readsOf k = z3 at HH f0
  generalize fillsR k = z4 at HH f0
  have hz : (vk = 0 ∧ vn = 0) ∨ (vk = 0 ∧ (vn == 0) = false) ∨ (vk == 0) = false := by
    by_cases h1 : vk = 0
    · by_cases h2 : vn = 0
      · exact .inl ⟨h1, h2⟩
      · exact .inr (.inl ⟨h1, by simpa using h2⟩)
    · exact .inr (.inr (by simpa using h1))
  rcases abc A B C with rfl | ⟨rfl, rfl⟩ | ⟨rfl, rfl, rfl⟩ | ⟨rfl, rfl, rfl⟩ <;> rcases hz with ⟨rfl, rfl⟩ | ⟨rfl, hz⟩ | hz
  all_goals
    go_enter Try.func117, Try.ntmps117
    go_wp2_with (first
      | (with_reducible refine alA M ?_; clear M; (try clear F); intro w1 M F)
      | (go_at_call 118; (refine nmK ?_; clear M; (try clear F); intro w1 M F); with_reducible refine (HA.out _).mono ?_; rintro e w2 ⟨rfl, hb⟩; replace M := M.below hb; clear hb; (try clear F); have F := fx M)
      | (go_at_call 130; (refine nmK ?_; clear M; (try clear F); intro w1 M F); with_reducible refine (HV.out _).mono ?_; rintro e w2 ⟨rfl, hb⟩; replace M := M.below hb; clear hb; (try clear F); have F := fx M)
      | (go_at_call 122; (refine nmK ?_; clear M; (try clear F); intro w1 M F); with_reducible refine (HH.out _ _ M).mono ?_; clear M; rintro e w2 ⟨rfl, M⟩; (try clear F); have F := fx M)
      | (go_at_call 129; (refine nmK ?_; clear M; (try clear F); intro w1 M F); with_reducible refine (HR.out _ _ _ M dl).mono ?_; rintro e w2 ⟨rfl, hb⟩; replace M := M.below hb; clear hb; (try clear F); have F := fx M)
      | (go_at_call 129; (refine nmK ?_; clear M; (try clear F); intro w1 M F); with_reducible refine (HS.out _ _ _ M dl).mono ?_; rintro e w2 ⟨rfl, hb⟩; replace M := M.below hb; clear hb; (try clear F); have F := fx M)
      | (go_at_call 129; (refine nmK ?_; clear M; (try clear F); intro w1 M F); with_reducible refine (HT.out _ _ _ M dl).mono ?_; rintro e w2 ⟨rfl, hb⟩; replace M := M.below hb; clear hb; (try clear F); have F := fx M))
    go_ret
    exact ⟨ret_bool (by simp [*]), M.toBelow⟩
end Go.Proofs.Ytmidnaafljgbiaa
