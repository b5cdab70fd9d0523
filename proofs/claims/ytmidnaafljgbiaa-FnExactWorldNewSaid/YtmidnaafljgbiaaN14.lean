/- Parts of the proof, in one text. -/
import Derived.Test.YtmidnaafljgbiaaN13
import Derived.Test.YtmidnaafljgbiaaN06
/- When a step is ok, by the program's text: it has no value. -/
namespace Go.Proofs.Ytmidnaafljgbiaa
open Go.RowKit
set_option maxRecDepth 100000

set_option maxHeartbeats 4000000 in
theorem iOpOk_f (o : Opx) (h : inB o.k 1 14 = true) (hb : hasB o.k 86 = false) (w : World) : Calls Try.prog 117 #[.agg (opArr o)] w fun e w' => e = .returned (.bool (opOk o)) ∧ Below w.heap.size w w' := by
  rw [opOk_I o h]
  have eg := enters_of Try.func129 (by kernel_rfl) rfl
  have M := Mem.nil w
  have HA := Lib.hid (fun V => iHas o 86 V)
  have HV := Lib.hid (fun V => iValOk2 o V)
  have HH := Lib.hid (fun V (L : List Asn) (M : Mem w [] V L) => iHow o M)
  have HR := Lib.hid (fun V (L L' : List Asn) (M : Mem w [] V L) hd => iField o w.heap.size 82 o.r 3 (L' := L') M hd)
  have HS := Lib.hid (fun V (L L' : List Asn) (M : Mem w [] V L) hd => iField o w.heap.size 83 o.s 3 (L' := L') M hd)
  have HT := Lib.hid (fun V (L L' : List Asn) (M : Mem w [] V L) hd => iField o w.heap.size 84 o.to 15 (L' := L') M hd)
  have hw := word_ne h
  clear h
  have f0 := fieldM0 (wordOf o.k) (hasOf o.k) (readsOf o.k) (fillsR o.k)
  generalize fieldOk (hasB o.k 82) o.r 3 = A at HR ⊢
  generalize fieldOk (hasB o.k 83) o.s 3 = B at HS ⊢
  generalize fieldOk (hasB o.k 84) o.to 15 = C at HT ⊢
  rw [hb] at HA ⊢
  clear hb
  generalize valOkI o = x at HV ⊢
  obtain ⟨k, r, s, to, ⟨vk, vn⟩⟩ := o
  rw [eqZero]
  simp only [opArr, howArr, encO] at *
  generalize wordOf k = z1 at HH f0 hw
  have hw2 : ¬ z1.toList = [] := by intro e; rw [e] at hw; cases hw
  generalize hasOf k = z2 at HH f0
  generalize readsOf k = z3 at HH f0
  generalize fillsR k = z4 at HH f0
  have hz : (vk = 0 ∧ vn = 0) ∨ (vk = 0 ∧ (vn == 0) = false) ∨ (vk == 0) = false := by
    by_cases h1 : vk = 0
    · by_cases h2 : vn = 0
      · exact .inl ⟨h1, h2⟩
      · exact .inr (.inl ⟨h1, by simpa using h2⟩)
    · exact .inr (.inr (by simpa using h1))
  rcases abc A B C with rfl | ⟨rfl, rfl⟩ | ⟨rfl, rfl, rfl⟩ | ⟨rfl, rfl, rfl⟩ <;> rcases hz with ⟨rfl, rfl⟩ | ⟨rfl, hz⟩ | hz
  all_goals
    go_enter Try.func117, Try.ntmps117
    go_wp2_with (first
      | (with_reducible refine alA M ?_; clear M; (try clear F); intro w1 M F)
      | (go_at_call 118; (refine nmK ?_; clear M; (try clear F); intro w1 M F); with_reducible refine (HA.out _).mono ?_; rintro e w2 ⟨rfl, hb⟩; replace M := M.below hb; clear hb; (try clear F); have F := fx M)
      | (go_at_call 130; (refine nmK ?_; clear M; (try clear F); intro w1 M F); with_reducible refine (HV.out _).mono ?_; rintro e w2 ⟨rfl, hb⟩; replace M := M.below hb; clear hb; (try clear F); have F := fx M)
      | (go_at_call 122; (refine nmK ?_; clear M; (try clear F); intro w1 M F); with_reducible refine (HH.out _ _ M).mono ?_; clear M; rintro e w2 ⟨rfl, M⟩; (try clear F); have F := fx M)
      | (go_at_call 129; (refine nmK ?_; clear M; (try clear F); intro w1 M F); with_reducible refine (HR.out _ _ _ M dl).mono ?_; rintro e w2 ⟨rfl, hb⟩; replace M := M.below hb; clear hb; (try clear F); have F := fx M)
      | (go_at_call 129; (refine nmK ?_; clear M; (try clear F); intro w1 M F); with_reducible refine (HS.out _ _ _ M dl).mono ?_; rintro e w2 ⟨rfl, hb⟩; replace M := M.below hb; clear hb; (try clear F); have F := fx M)
      | (go_at_call 129; (refine nmK ?_; clear M; (try clear F); intro w1 M F); with_reducible refine (HT.out _ _ _ M dl).mono ?_; rintro e w2 ⟨rfl, hb⟩; replace M := M.below hb; clear hb; (try clear F); have F := fx M))
    go_ret
    exact ⟨ret_bool (by simp [*]), M.toBelow⟩
end Go.Proofs.Ytmidnaafljgbiaa
/- When a step is ok, by the program's text. Whether one is not ok, or goes nowhere. -/
namespace Go.Proofs.Ytmidnaafljgbiaa
open Go.RowKit
set_option maxRecDepth 100000

set_option maxHeartbeats 2000000 in
theorem iOpOk_no (o : Opx) (h : inB o.k 1 14 = false) (w : World) : Calls Try.prog 117 #[.agg (opArr o)] w fun e w' => e = .returned (.bool (opOk o)) ∧ Below w.heap.size w w' := by
  have hno : opOk o = false := by unfold opOk; rw [h]; simp
  rw [hno]
  clear hno
  have hn : howArr o.k = #[.string ⟨#[]⟩, .string ⟨#[]⟩, .string ⟨#[]⟩, .bool false] := how_none h
  have hf : hasB o.k 86 = false := by
    have e1 : hasOf o.k = ⟨#[]⟩ := by
      have := congrArg (fun a : Array Value => a[1]?) hn
      simpa using this
    unfold hasB
    rw [e1]
    decide
  have M := Mem.nil w
  have HA := Lib.hid (fun V => iHas o 86 V)
  rw [hf] at HA
  have HH := Lib.hid (fun V (L : List Asn) (M : Mem w [] V L) => iHow o M)
  rw [hn] at HH
  have f0 := fieldM0 ⟨#[]⟩ ⟨#[]⟩ ⟨#[]⟩ false
  clear hn hf h
  obtain ⟨k, r, s, to, ⟨vk, vn⟩⟩ := o
  simp only [opArr] at *
  have hz : (vk = 0 ∧ vn = 0) ∨ (vk = 0 ∧ (vn == 0) = false) ∨ (vk == 0) = false := by
    by_cases h1 : vk = 0
    · by_cases h2 : vn = 0
      · exact .inl ⟨h1, h2⟩
      · exact .inr (.inl ⟨h1, by simpa using h2⟩)
    · exact .inr (.inr (by simpa using h1))
  rcases hz with ⟨rfl, rfl⟩ | ⟨rfl, hz⟩ | hz
  all_goals
    go_enter Try.func117, Try.ntmps117
    go_wp2_with (first
      | (with_reducible refine alA M ?_; clear M; (try clear F); intro w1 M F)
      | (go_at_call 118; (refine nmK ?_; clear M; (try clear F); intro w1 M F); with_reducible refine (HA.out _).mono ?_; rintro e w2 ⟨rfl, hb⟩; replace M := M.below hb; clear hb; (try clear F); have F := fx M)
      | (go_at_call 122; (refine nmK ?_; clear M; (try clear F); intro w1 M F); with_reducible refine (HH.out _ _ M).mono ?_; clear M; rintro e w2 ⟨rfl, M⟩; (try clear F); have F := fx M))
    go_ret
    exact ⟨rfl, M.toBelow⟩
theorem iOpOk (o : Opx) (w : World) : Calls Try.prog 117 #[.agg (opArr o)] w fun e w' => e = .returned (.bool (opOk o)) ∧ Below w.heap.size w w' := by
  cases h : inB o.k 1 14 with
  | false => exact iOpOk_no o h w
  | true =>
    cases hb : hasB o.k 86 with
    | true => exact iOpOk_t o h hb w
    | false => exact iOpOk_f o h hb w
end Go.Proofs.Ytmidnaafljgbiaa
/- When a run is ok, by the program's text. -/
namespace Go.Proofs.Ytmidnaafljgbiaa
open Go.RowKit
set_option maxRecDepth 100000

end Go.Proofs.Ytmidnaafljgbiaa
