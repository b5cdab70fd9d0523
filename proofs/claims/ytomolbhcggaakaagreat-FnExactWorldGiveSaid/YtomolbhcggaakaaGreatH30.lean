/- Parts of the proof, in one text. -/
import Derived.Test.YtomolbhcggaakaaGreatH29
/- When a step is ok, by the program's text: it has a value. -/
namespace Go.Proofs.YtomolbhcggaakaaGreat
open Go.RowKit
set_option maxRecDepth 100000

set_option maxHeartbeats 4000000 in
theorem iOpOk_t (o : Opx) (h : inB o.k 1 14 = true) (hb : hasB o.k 86 = true) (w : World) : Calls Tryz.prog 131 #[.agg (opArr o)] w fun e w' => e = .returned (.bool (opOk o)) ∧ Below w.heap.size w w' := by
  rw [opOk_I o h]
  have eg := enters_of Tryz.func163 (by kernel_rfl) rfl
  have M := Mem.nil w
  have HA := Lib.hid (fun V => iHas o 86 V)
  have HV := Lib.hid (fun V => iValOk2 o V)
  have HH := Lib.hid (fun V (L : List Asn) (M : Mem w [] V L) => iHow o M)
  have HR := Lib.hid (fun V (L L' : List Asn) (M : Mem w [] V L) hd => iField o w.heap.size 82 o.r 3 (L' := L') M hd)
  have HS := Lib.hid (fun V (L L' : List Asn) (M : Mem w [] V L) hd => iField o w.heap.size 83 o.s 3 (L' := L') M hd)
  have HT := Lib.hid (fun V (L L' : List Asn) (M : Mem w [] V L) hd => iField o w.heap.size 84 o.to 15 (L' := L') M hd)
  have hw := word_ne h
  clear h
  have f0 := fieldM0 (wordOf o.k) (hasOf o.k) (readsOf o.k) (fillsR o.k)
  generalize fieldOk (hasB o.k 82) o.r 3 = A at HR ⊢
  generalize fieldOk (hasB o.k 83) o.s 3 = B at HS ⊢
  generalize fieldOk (hasB o.k 84) o.to 15 = C at HT ⊢
  rw [hb] at HA ⊢
  clear hb
  generalize valOkI o = x at HV ⊢
  obtain ⟨k, r, s, to, ⟨vk, vn⟩⟩ := o
  rw [eqZero]
  simp only [opArr, howArr, encO] at *
  generalize wordOf k = z1 at HH f0 hw
  have hw2 : ¬ z1.toList = [] := by intro e; rw [e] at hw; cases hw
  generalize hasOf k = z2 at HH f0
  generalize readsOf k = z3 at HH f0
  generalize fillsR k = z4 at HH f0
  have hz : (vk = 0 ∧ vn = 0) ∨ (vk = 0 ∧ (vn == 0) = false) ∨ (vk == 0) = false := by
    by_cases h1 : vk = 0
    · by_cases h2 : vn = 0
      · exact .inl ⟨h1, h2⟩
      · exact .inr (.inl ⟨h1, by simpa using h2⟩)
    · exact .inr (.inr (by simpa using h1))
  rcases abc A B C with rfl | ⟨rfl, rfl⟩ | ⟨rfl, rfl, rfl⟩ | ⟨rfl, rfl, rfl⟩ <;> rcases hz with ⟨rfl, rfl⟩ | ⟨rfl, hz⟩ | hz
  all_goals
    go_enter Tryz.func131, Tryz.ntmps131
    go_wp2_with (first
      | (with_reducible refine alA M ?_; clear M; (try clear F); intro w1 M F)
      | (go_at_call 132; (refine nmK ?_; clear M; (try clear F); intro w1 M F); with_reducible refine (HA.out _).mono ?_; rintro e w2 ⟨rfl, hb⟩; replace M := M.below hb; clear hb; (try clear F); have F := fx M)
      | (go_at_call 164; (refine nmK ?_; clear M; (try clear F); intro w1 M F); with_reducible refine (HV.out _).mono ?_; rintro e w2 ⟨rfl, hb⟩; replace M := M.below hb; clear hb; (try clear F); have F := fx M)
      | (go_at_call 135; (refine nmK ?_; clear M; (try clear F); intro w1 M F); with_reducible refine (HH.out _ _ M).mono ?_; clear M; rintro e w2 ⟨rfl, M⟩; (try clear F); have F := fx M)
      | (go_at_call 163; (refine nmK ?_; clear M; (try clear F); intro w1 M F); with_reducible refine (HR.out _ _ _ M dl).mono ?_; rintro e w2 ⟨rfl, hb⟩; replace M := M.below hb; clear hb; (try clear F); have F := fx M)
      | (go_at_call 163; (refine nmK ?_; clear M; (try clear F); intro w1 M F); with_reducible refine (HS.out _ _ _ M dl).mono ?_; rintro e w2 ⟨rfl, hb⟩; replace M := M.below hb; clear hb; (try clear F); have F := fx M)
      | (go_at_call 163; (refine nmK ?_; clear M; (try clear F); intro w1 M F); with_reducible refine (HT.out _ _ _ M dl).mono ?_; rintro e w2 ⟨rfl, hb⟩; replace M := M.below hb; clear hb; (try clear F); have F := fx M))
    go_ret
    exact ⟨ret_bool (by simp [*]), M.toBelow⟩
end Go.Proofs.YtomolbhcggaakaaGreat
/- When a step is ok, by the program's text: it has no value. -/
namespace Go.Proofs.YtomolbhcggaakaaGreat
open Go.RowKit
set_option maxRecDepth 100000

set_option maxHeartbeats 4000000 in
theorem iOpOk_f (o : Opx) (h : inB o.k 1 14 = true) (hb : hasB o.k 86 = false) (w : World) : Calls Tryz.prog 131 #[.agg (opArr o)] w fun e w' => e = .returned (.bool (opOk o)) ∧ Below w.heap.size w w' := by
  rw [opOk_I o h]
  have eg := enters_of Tryz.func163 (by kernel_rfl) rfl
  have M := Mem.nil w
  have HA := Lib.hid (fun V => iHas o 86 V)
  have HV := Lib.hid (fun V => iValOk2 o V)
  have HH := Lib.hid (fun V (L : List Asn) (M : Mem w [] V L) => iHow o M)
  have HR := Lib.hid (fun V (L L' : List Asn) (M : Mem w [] V L) hd => iField o w.heap.size 82 o.r 3 (L' := L') M hd)
  have HS := Lib.hid (fun V (L L' : List Asn) (M : Mem w [] V L) hd => iField o w.heap.size 83 o.s 3 (L' := L') M hd)
  have HT := Lib.hid (fun V (L L' : List Asn) (M : Mem w [] V L) hd => iField o w.heap.size 84 o.to 15 (L' := L') M hd)
  have hw := word_ne h
  clear h
  have f0 := fieldM0 (wordOf o.k) (hasOf o.k) (readsOf o.k) (fillsR o.k)
  generalize fieldOk (hasB o.k 82) o.r 3 = A at HR ⊢
  generalize fieldOk (hasB o.k 83) o.s 3 = B at HS ⊢
  generalize fieldOk (hasB o.k 84) o.to 15 = C at HT ⊢
  rw [hb] at HA ⊢
  clear hb
  generalize valOkI o = x at HV ⊢
  obtain ⟨k, r, s, to, ⟨vk, vn⟩⟩ := o
  rw [eqZero]
  simp only [opArr, howArr, encO] at *
  generalize wordOf k = z1 at HH f0 hw
  have hw2 : ¬ z1.toList = [] := by intro e; rw [e] at hw; cases hw
  generalize hasOf k = z2 at HH f0
  generalize readsOf k = z3 at HH f0
  generalize fillsR k = z4 at HH f0
  have hz : (vk = 0 ∧ vn = 0) ∨ (vk = 0 ∧ (vn == 0) = false) ∨ (vk == 0) = false := by
    by_cases h1 : vk = 0
    · by_cases h2 : vn = 0
      · exact .inl ⟨h1, h2⟩
      · exact .inr (.inl ⟨h1, by simpa using h2⟩)
    · exact .inr (.inr (by simpa using h1))
  rcases abc A B C with rfl | ⟨rfl, rfl⟩ | ⟨rfl, rfl, rfl⟩ | ⟨rfl, rfl, rfl⟩ <;> rcases hz with ⟨rfl, rfl⟩ | ⟨rfl, hz⟩ | hz
  all_goals
    go_enter Tryz.func131, Tryz.ntmps131
    go_wp2_with (first
      | (with_reducible refine alA M ?_; clear M; (try clear F); intro w1 M F)
      | (go_at_call 132; (refine nmK ?_; clear M; (try clear F); intro w1 M F); with_reducible refine (HA.out _).mono ?_; rintro e w2 ⟨rfl, hb⟩; replace M := M.below hb; clear hb; (try clear F); have F := fx M)
      | (go_at_call 164; (refine nmK ?_; clear M; (try clear F); intro w1 M F); with_reducible refine (HV.out _).mono ?_; rintro e w2 ⟨rfl, hb⟩; replace M := M.below hb; clear hb; (try clear F); have F := fx M)
      | (go_at_call 135; (refine nmK ?_; clear M; (try clear F); intro w1 M F); with_reducible refine (HH.out _ _ M).mono ?_; clear M; rintro e w2 ⟨rfl, M⟩; (try clear F); have F := fx M)
      | (go_at_call 163; (refine nmK ?_; clear M; (try clear F); intro w1 M F); with_reducible refine (HR.out _ _ _ M dl).mono ?_; rintro e w2 ⟨rfl, hb⟩; replace M := M.below hb; clear hb; (try clear F); have F := fx M)
      | (go_at_call 163; (refine nmK ?_; clear M; (try clear F); intro w1 M F); with_reducible refine (HS.out _ _ _ M dl).mono ?_; rintro e w2 ⟨rfl, hb⟩; replace M := M.below hb; clear hb; (try clear F); have F := fx M)
      | (go_at_call 163; (refine nmK ?_; clear M; (try clear F); intro w1 M F); with_reducible refine (HT.out _ _ _ M dl).mono ?_; rintro e w2 ⟨rfl, hb⟩; replace M := M.below hb; clear hb; (try clear F); have F := fx M))
    go_ret
    exact ⟨ret_bool (by simp [*]), M.toBelow⟩
end Go.Proofs.YtomolbhcggaakaaGreat
