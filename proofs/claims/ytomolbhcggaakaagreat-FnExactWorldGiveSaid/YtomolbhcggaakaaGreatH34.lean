/- Parts of the proof, in one text. -/
import Derived.Test.YtomolbhcggaakaaGreatH33
/- The slots that a step uses, by the program's text. -/
namespace Go.Proofs.YtomolbhcggaakaaGreat
open Go.RowKit
set_option maxRecDepth 100000

theorem oneI' (x : Int) : ∀ u ∈ encI x, u.oneCell' = true := by
  intro u hu
  obtain rfl : u = .int .i64 x := by simpa [encI] using hu
  rfl
theorem infI : (Tryz.prog.info? 3).map (fun i => (i.zero.map (·.cells.size), i.size, i.bytes)) = some (some 1, 1, 8) := by kernel_rfl
theorem nextE0 {W : World} {g : Nat} (h : W.heap[g]? = some (.stringIter ⟨#[]⟩ 0)) (ty : TypeId) : (Instr.next (.pointer (some ⟨g, 0, none⟩)) true ty).run Tryz.prog W = .ok (.tuple #[.bool false]) W := Lib.run_next_end_at W g _ 0 ty h (by decide)
theorem nextE1 {c : UInt8} {W : World} {g : Nat} (h : W.heap[g]? = some (.stringIter ⟨#[c]⟩ 1)) (ty : TypeId) : (Instr.next (.pointer (some ⟨g, 0, none⟩)) true ty).run Tryz.prog W = .ok (.tuple #[.bool false]) W := Lib.run_next_end_at W g _ 1 ty h (by simp [ByteArray.size])
theorem nextE2 {c d : UInt8} {W : World} {g : Nat} (h : W.heap[g]? = some (.stringIter ⟨#[c, d]⟩ 2)) (ty : TypeId) : (Instr.next (.pointer (some ⟨g, 0, none⟩)) true ty).run Tryz.prog W = .ok (.tuple #[.bool false]) W := Lib.run_next_end_at W g _ 2 ty h (by simp [ByteArray.size])
set_option maxHeartbeats 2000000 in
theorem iUsesRS (o : Opx) {w0 w : World} {f : List Nat} {L : List Asn} (M : Mem w0 f w L) (hr : readsOf o.k = ⟨#[82, 83]⟩) (ho : opOk o = true) : Calls Tryz.prog 97 #[.agg (opArr o)] w fun e w' => ∃ (A : Option Addr) (c : Nat), e = .returned (.slice A 2 c) ∧ Mem w0 f w' (rowI A c [o.r, o.s] :: L) := by
  have HH := Lib.hid (fun V (L : List Asn) (M : Mem w0 f V L) => iHow o M)
  have HO := Lib.hid (fun V => iOpOk o V)
  rw [ho] at HO
  simp only [howArr, hr] at HH
  have hu := Tryz.underlying9
  replace M := M.nilRow (enc := encI) (m := 1) (t := 3)
  clear hr ho
  obtain ⟨kk, r, s, to, ⟨vk, vn⟩⟩ := o
  simp only [opArr] at HH HO ⊢
  generalize wordOf kk = z1 at HH
  generalize hasOf kk = z2 at HH
  generalize fillsR kk = z4 at HH
  have f2 := fieldM2 z1 z2 ⟨#[82, 83]⟩ z4
  go_enter Tryz.func97, Tryz.ntmps97
  go_wp2_with (first
    | (with_reducible refine alA M ?_; clear M; (try clear F); intro w1 M F) | ((with_reducible apply ev_store (M := M)); rfl; rfl; ((conv => lhs; whnf) <;> rfl); rfl; (first | exact siI | exact siR | exact siV | exact siB | exact siSI | exact siSV | exact siW | exact siSR | exact siSO | exact siO); (exact one_all rfl); (exact dl); (exact Nat.le_of_ble_eq_true rfl); clear M; intro w1 M; simp only [SX] at M; (try clear F); have F := fx M)
    | (go_at_call 131; (refine nmK ?_; clear M; (try clear F); intro w1 M F); refine (HO.out _).mono ?_; rintro e w2 ⟨rfl, hb⟩; replace M := M.below hb; clear hb; (try clear F); have F := fx M)
    | (go_at_call 135; (refine nmK ?_; clear M; (try clear F); intro w1 M F); refine (HH.out _ _ M).mono ?_; clear M; rintro e w2 ⟨rfl, M⟩; (try clear F); have F := fx M))
  refine wp_loop_rounds 3 ?_
  (refine goal_iter (G := fun W => Code.rounds _ _ _ _ _ W) M ?_; clear M; intro w3 M; (try clear F); have F := fx M; simp only [itr_F] at F)
  rw [rounds_succ]
  go_wp2_with (first | ((with_reducible refine alA M ?_; clear M; (try clear F); intro w1 M F); ((with_reducible apply ev_app1 (enc := encI) (v := r) (hk := encI_length) (hone := oneI') (h0 := by decide) (hinfo := infI) (ht := Tryz.underlying24) (M := M)); rfl; rfl; (exact dl); (exact dl); rfl; rfl; (exact Nat.le_of_ble_eq_true rfl); (exact Nat.le_of_ble_eq_true rfl); clear M; intro A1 c1 w1 M; replace M := Mem.drop2 M; (simp only [List.nil_append] at M); (try clear F); have F := fx M)) | ((with_reducible refine alA M ?_; clear M; (try clear F); intro w1 M F); ((with_reducible apply ev_app1 (enc := encI) (v := s) (hk := encI_length) (hone := oneI') (h0 := by decide) (hinfo := infI) (ht := Tryz.underlying24) (M := M)); rfl; rfl; (exact dl); (exact dl); rfl; rfl; (exact Nat.le_of_ble_eq_true rfl); (exact Nat.le_of_ble_eq_true rfl); clear M; intro A1 c1 w1 M; replace M := Mem.drop2 M; (simp only [List.nil_append, List.cons_append] at M); (try clear F); have F := fx M)) | (with_reducible refine alA M ?_; clear M; (try clear F); intro w1 M F) | ((with_reducible apply ev_next (b := 82) (M := M)); rfl; rfl; (exact dl); rfl; (exact Nat.le_of_ble_eq_true rfl); clear M; intro w1 M; (try clear F); have F := fx M; (simp only [itr_F] at F)) | ((with_reducible apply ev_next (b := 83) (M := M)); rfl; rfl; (exact dl); rfl; (exact Nat.le_of_ble_eq_true rfl); clear M; intro w1 M; (try clear F); have F := fx M; (simp only [itr_F] at F)))
  rw [rounds_succ]
  go_wp2_with (first | ((with_reducible refine alA M ?_; clear M; (try clear F); intro w1 M F); ((with_reducible apply ev_app1 (enc := encI) (v := r) (hk := encI_length) (hone := oneI') (h0 := by decide) (hinfo := infI) (ht := Tryz.underlying24) (M := M)); rfl; rfl; (exact dl); (exact dl); rfl; rfl; (exact Nat.le_of_ble_eq_true rfl); (exact Nat.le_of_ble_eq_true rfl); clear M; intro A1 c1 w1 M; replace M := Mem.drop2 M; (simp only [List.nil_append, List.cons_append] at M); (try clear F); have F := fx M)) | ((with_reducible refine alA M ?_; clear M; (try clear F); intro w1 M F); ((with_reducible apply ev_app1 (enc := encI) (v := s) (hk := encI_length) (hone := oneI') (h0 := by decide) (hinfo := infI) (ht := Tryz.underlying24) (M := M)); rfl; rfl; (exact dl); (exact dl); rfl; rfl; (exact Nat.le_of_ble_eq_true rfl); (exact Nat.le_of_ble_eq_true rfl); clear M; intro A1 c1 w1 M; replace M := Mem.drop2 M; (simp only [List.nil_append, List.cons_append] at M); (try clear F); have F := fx M)) | (with_reducible refine alA M ?_; clear M; (try clear F); intro w1 M F) | ((with_reducible apply ev_next (b := 82) (M := M)); rfl; rfl; (exact dl); rfl; (exact Nat.le_of_ble_eq_true rfl); clear M; intro w1 M; (try clear F); have F := fx M; (simp only [itr_F] at F)) | ((with_reducible apply ev_next (b := 83) (M := M)); rfl; rfl; (exact dl); rfl; (exact Nat.le_of_ble_eq_true rfl); clear M; intro w1 M; (try clear F); have F := fx M; (simp only [itr_F] at F)))
  have N2 := nextE2 (W := w1) (g := w2.heap.size) F.2.1.2
  rw [rounds_succ]
  go_wp2
  go_ret
  exact ⟨_, _, rfl, M.drop2.drop2⟩
set_option maxHeartbeats 2000000 in
theorem iUsesR (o : Opx) {w0 w : World} {f : List Nat} {L : List Asn} (M : Mem w0 f w L) (hr : readsOf o.k = ⟨#[82]⟩) (ho : opOk o = true) : Calls Tryz.prog 97 #[.agg (opArr o)] w fun e w' => ∃ (A : Option Addr) (c : Nat), e = .returned (.slice A 1 c) ∧ Mem w0 f w' (rowI A c [o.r] :: L) := by
  have HH := Lib.hid (fun V (L : List Asn) (M : Mem w0 f V L) => iHow o M)
  have HO := Lib.hid (fun V => iOpOk o V)
  rw [ho] at HO
  simp only [howArr, hr] at HH
  have hu := Tryz.underlying9
  replace M := M.nilRow (enc := encI) (m := 1) (t := 3)
  clear hr ho
  obtain ⟨kk, r, s, to, ⟨vk, vn⟩⟩ := o
  simp only [opArr] at HH HO ⊢
  generalize wordOf kk = z1 at HH
  generalize hasOf kk = z2 at HH
  generalize fillsR kk = z4 at HH
  have f2 := fieldM2 z1 z2 ⟨#[82]⟩ z4
  go_enter Tryz.func97, Tryz.ntmps97
  go_wp2_with (first
    | (with_reducible refine alA M ?_; clear M; (try clear F); intro w1 M F) | ((with_reducible apply ev_store (M := M)); rfl; rfl; ((conv => lhs; whnf) <;> rfl); rfl; (first | exact siI | exact siR | exact siV | exact siB | exact siSI | exact siSV | exact siW | exact siSR | exact siSO | exact siO); (exact one_all rfl); (exact dl); (exact Nat.le_of_ble_eq_true rfl); clear M; intro w1 M; simp only [SX] at M; (try clear F); have F := fx M)
    | (go_at_call 131; (refine nmK ?_; clear M; (try clear F); intro w1 M F); refine (HO.out _).mono ?_; rintro e w2 ⟨rfl, hb⟩; replace M := M.below hb; clear hb; (try clear F); have F := fx M)
    | (go_at_call 135; (refine nmK ?_; clear M; (try clear F); intro w1 M F); refine (HH.out _ _ M).mono ?_; clear M; rintro e w2 ⟨rfl, M⟩; (try clear F); have F := fx M))
  refine wp_loop_rounds 2 ?_
  (refine goal_iter (G := fun W => Code.rounds _ _ _ _ _ W) M ?_; clear M; intro w3 M; (try clear F); have F := fx M; simp only [itr_F] at F)
  rw [rounds_succ]
  go_wp2_with (first | ((with_reducible refine alA M ?_; clear M; (try clear F); intro w1 M F); ((with_reducible apply ev_app1 (enc := encI) (v := r) (hk := encI_length) (hone := oneI') (h0 := by decide) (hinfo := infI) (ht := Tryz.underlying24) (M := M)); rfl; rfl; (exact dl); (exact dl); rfl; rfl; (exact Nat.le_of_ble_eq_true rfl); (exact Nat.le_of_ble_eq_true rfl); clear M; intro A1 c1 w1 M; replace M := Mem.drop2 M; (simp only [List.nil_append] at M); (try clear F); have F := fx M)) | ((with_reducible refine alA M ?_; clear M; (try clear F); intro w1 M F); ((with_reducible apply ev_app1 (enc := encI) (v := s) (hk := encI_length) (hone := oneI') (h0 := by decide) (hinfo := infI) (ht := Tryz.underlying24) (M := M)); rfl; rfl; (exact dl); (exact dl); rfl; rfl; (exact Nat.le_of_ble_eq_true rfl); (exact Nat.le_of_ble_eq_true rfl); clear M; intro A1 c1 w1 M; replace M := Mem.drop2 M; (simp only [List.nil_append, List.cons_append] at M); (try clear F); have F := fx M)) | (with_reducible refine alA M ?_; clear M; (try clear F); intro w1 M F) | ((with_reducible apply ev_next (b := 82) (M := M)); rfl; rfl; (exact dl); rfl; (exact Nat.le_of_ble_eq_true rfl); clear M; intro w1 M; (try clear F); have F := fx M; (simp only [itr_F] at F)) | ((with_reducible apply ev_next (b := 83) (M := M)); rfl; rfl; (exact dl); rfl; (exact Nat.le_of_ble_eq_true rfl); clear M; intro w1 M; (try clear F); have F := fx M; (simp only [itr_F] at F)))
  have N2 := nextE1 (W := w1) (g := w2.heap.size) F.2.1.2
  rw [rounds_succ]
  go_wp2
  go_ret
  exact ⟨_, _, rfl, M.drop2.drop2⟩
set_option maxHeartbeats 2000000 in
theorem iUsesS (o : Opx) {w0 w : World} {f : List Nat} {L : List Asn} (M : Mem w0 f w L) (hr : readsOf o.k = ⟨#[83]⟩) (ho : opOk o = true) : Calls Tryz.prog 97 #[.agg (opArr o)] w fun e w' => ∃ (A : Option Addr) (c : Nat), e = .returned (.slice A 1 c) ∧ Mem w0 f w' (rowI A c [o.s] :: L) := by
  have HH := Lib.hid (fun V (L : List Asn) (M : Mem w0 f V L) => iHow o M)
  have HO := Lib.hid (fun V => iOpOk o V)
  rw [ho] at HO
  simp only [howArr, hr] at HH
  have hu := Tryz.underlying9
  replace M := M.nilRow (enc := encI) (m := 1) (t := 3)
  clear hr ho
  obtain ⟨kk, r, s, to, ⟨vk, vn⟩⟩ := o
  simp only [opArr] at HH HO ⊢
  generalize wordOf kk = z1 at HH
  generalize hasOf kk = z2 at HH
  generalize fillsR kk = z4 at HH
  have f2 := fieldM2 z1 z2 ⟨#[83]⟩ z4
  go_enter Tryz.func97, Tryz.ntmps97
  go_wp2_with (first
    | (with_reducible refine alA M ?_; clear M; (try clear F); intro w1 M F) | ((with_reducible apply ev_store (M := M)); rfl; rfl; ((conv => lhs; whnf) <;> rfl); rfl; (first | exact siI | exact siR | exact siV | exact siB | exact siSI | exact siSV | exact siW | exact siSR | exact siSO | exact siO); (exact one_all rfl); (exact dl); (exact Nat.le_of_ble_eq_true rfl); clear M; intro w1 M; simp only [SX] at M; (try clear F); have F := fx M)
    | (go_at_call 131; (refine nmK ?_; clear M; (try clear F); intro w1 M F); refine (HO.out _).mono ?_; rintro e w2 ⟨rfl, hb⟩; replace M := M.below hb; clear hb; (try clear F); have F := fx M)
    | (go_at_call 135; (refine nmK ?_; clear M; (try clear F); intro w1 M F); refine (HH.out _ _ M).mono ?_; clear M; rintro e w2 ⟨rfl, M⟩; (try clear F); have F := fx M))
  refine wp_loop_rounds 2 ?_
  (refine goal_iter (G := fun W => Code.rounds _ _ _ _ _ W) M ?_; clear M; intro w3 M; (try clear F); have F := fx M; simp only [itr_F] at F)
  rw [rounds_succ]
  go_wp2_with (first | ((with_reducible refine alA M ?_; clear M; (try clear F); intro w1 M F); ((with_reducible apply ev_app1 (enc := encI) (v := r) (hk := encI_length) (hone := oneI') (h0 := by decide) (hinfo := infI) (ht := Tryz.underlying24) (M := M)); rfl; rfl; (exact dl); (exact dl); rfl; rfl; (exact Nat.le_of_ble_eq_true rfl); (exact Nat.le_of_ble_eq_true rfl); clear M; intro A1 c1 w1 M; replace M := Mem.drop2 M; (simp only [List.nil_append, List.cons_append] at M); (try clear F); have F := fx M)) | ((with_reducible refine alA M ?_; clear M; (try clear F); intro w1 M F); ((with_reducible apply ev_app1 (enc := encI) (v := s) (hk := encI_length) (hone := oneI') (h0 := by decide) (hinfo := infI) (ht := Tryz.underlying24) (M := M)); rfl; rfl; (exact dl); (exact dl); rfl; rfl; (exact Nat.le_of_ble_eq_true rfl); (exact Nat.le_of_ble_eq_true rfl); clear M; intro A1 c1 w1 M; replace M := Mem.drop2 M; (simp only [List.nil_append] at M); (try clear F); have F := fx M)) | (with_reducible refine alA M ?_; clear M; (try clear F); intro w1 M F) | ((with_reducible apply ev_next (b := 82) (M := M)); rfl; rfl; (exact dl); rfl; (exact Nat.le_of_ble_eq_true rfl); clear M; intro w1 M; (try clear F); have F := fx M; (simp only [itr_F] at F)) | ((with_reducible apply ev_next (b := 83) (M := M)); rfl; rfl; (exact dl); rfl; (exact Nat.le_of_ble_eq_true rfl); clear M; intro w1 M; (try clear F); have F := fx M; (simp only [itr_F] at F)))
  have N2 := nextE1 (W := w1) (g := w2.heap.size) F.2.1.2
  rw [rounds_succ]
  go_wp2
  go_ret
  exact ⟨_, _, rfl, M.drop2.drop2⟩
set_option maxHeartbeats 2000000 in
theorem iUsesN (o : Opx) {w0 w : World} {f : List Nat} {L : List Asn} (M : Mem w0 f w L) (hr : readsOf o.k = ⟨#[]⟩) (ho : opOk o = true) : Calls Tryz.prog 97 #[.agg (opArr o)] w fun e w' => ∃ (A : Option Addr) (c : Nat), e = .returned (.slice A 0 c) ∧ Mem w0 f w' (rowI A c [] :: L) := by
  have HH := Lib.hid (fun V (L : List Asn) (M : Mem w0 f V L) => iHow o M)
  have HO := Lib.hid (fun V => iOpOk o V)
  rw [ho] at HO
  simp only [howArr, hr] at HH
  have hu := Tryz.underlying9
  replace M := M.nilRow (enc := encI) (m := 1) (t := 3)
  clear hr ho
  obtain ⟨kk, r, s, to, ⟨vk, vn⟩⟩ := o
  simp only [opArr] at HH HO ⊢
  generalize wordOf kk = z1 at HH
  generalize hasOf kk = z2 at HH
  generalize fillsR kk = z4 at HH
  have f2 := fieldM2 z1 z2 ⟨#[]⟩ z4
  go_enter Tryz.func97, Tryz.ntmps97
  go_wp2_with (first
    | (with_reducible refine alA M ?_; clear M; (try clear F); intro w1 M F) | ((with_reducible apply ev_store (M := M)); rfl; rfl; ((conv => lhs; whnf) <;> rfl); rfl; (first | exact siI | exact siR | exact siV | exact siB | exact siSI | exact siSV | exact siW | exact siSR | exact siSO | exact siO); (exact one_all rfl); (exact dl); (exact Nat.le_of_ble_eq_true rfl); clear M; intro w1 M; simp only [SX] at M; (try clear F); have F := fx M)
    | (go_at_call 131; (refine nmK ?_; clear M; (try clear F); intro w1 M F); refine (HO.out _).mono ?_; rintro e w2 ⟨rfl, hb⟩; replace M := M.below hb; clear hb; (try clear F); have F := fx M)
    | (go_at_call 135; (refine nmK ?_; clear M; (try clear F); intro w1 M F); refine (HH.out _ _ M).mono ?_; clear M; rintro e w2 ⟨rfl, M⟩; (try clear F); have F := fx M))
  refine wp_loop_rounds 1 ?_
  (refine goal_iter (G := fun W => Code.rounds _ _ _ _ _ W) M ?_; clear M; intro w3 M; (try clear F); have F := fx M; simp only [itr_F] at F)
  have N2 := nextE0 (W := w3) (g := w2.heap.size) F.1.2
  rw [rounds_succ]
  go_wp2
  go_ret
  exact ⟨_, _, rfl, M.drop.drop⟩
theorem reads_of (o : Opx) : (readsOf o.k = ⟨#[83]⟩ ∧ opUses o = [o.s]) ∨ (readsOf o.k = ⟨#[82, 83]⟩ ∧ opUses o = [o.r, o.s]) ∨ (readsOf o.k = ⟨#[82]⟩ ∧ opUses o = [o.r]) ∨ (readsOf o.k = ⟨#[]⟩ ∧ opUses o = []) := by
  obtain ⟨k, r, s, to, v⟩ := o
  simp only
  by_cases h2 : k = 2
  · subst h2; exact .inl ⟨rfl, rfl⟩
  by_cases h3 : k = 3
  · subst h3; exact .inr (.inl ⟨rfl, rfl⟩)
  by_cases h6 : k = 6
  · subst h6; exact .inr (.inl ⟨rfl, rfl⟩)
  by_cases h10 : k = 10
  · subst h10; exact .inr (.inr (.inl ⟨rfl, rfl⟩))
  by_cases h11 : k = 11
  · subst h11; exact .inr (.inr (.inl ⟨rfl, rfl⟩))
  by_cases h12 : k = 12
  · subst h12; exact .inr (.inr (.inl ⟨rfl, rfl⟩))
  by_cases h14 : k = 14
  · subst h14; exact .inr (.inr (.inl ⟨rfl, rfl⟩))
  refine .inr (.inr (.inr ⟨?_, ?_⟩))
  · unfold readsOf
    simp [h2, h3, h6, h10, h11, h12, h14]
  · simp [opUses, h2, h3, h6, h10, h11, h12, h14]
theorem iUses (o : Opx) {w0 w : World} {f : List Nat} {L : List Asn} (M : Mem w0 f w L) (ho : opOk o = true) : Calls Tryz.prog 97 #[.agg (opArr o)] w (UsesPost o w0 f L) := by
  unfold UsesPost
  rcases reads_of o with ⟨h, e⟩ | ⟨h, e⟩ | ⟨h, e⟩ | ⟨h, e⟩ <;> rw [e]
  · exact iUsesS o M h ho
  · exact iUsesRS o M h ho
  · exact iUsesR o M h ho
  · exact iUsesN o M h ho
end Go.Proofs.YtomolbhcggaakaaGreat
/- Whether a predicate holds at one of some ints, by the program's text. -/
namespace Go.Proofs.YtomolbhcggaakaaGreat
open Go.RowKit
set_option maxRecDepth 100000

/-- A predicate on ints, as a function value. -/
def PredI (g : Nat) (lb : Array Value) (p : Int → Bool) (l : List Int) (w : World) : Prop :=
  ∀ (W : World) (x : Int), x ∈ l → Below w.heap.size w W → Calls Tryz.prog g (#[.int .i64 x] ++ lb) W fun e w' => e = .returned (.bool (p x)) ∧ Below w.heap.size w w'
set_option maxHeartbeats 1000000 in
theorem iIndexFuncI (p : Int → Bool) (g : Nat) (lb : Array Value) (eg : ∀ args w, (callFunc g args).run Tryz.prog w = .ok (.enter g args) w) (l : List Int) (A : Option Addr) (c : Nat) (w : World) (hl : l.length ≤ 140737488355328)
    (h : ∀ k (hk : k < l.length), ∃ ga, A = some ⟨ga, 0, none⟩ ∧ ga < w.heap.size ∧ w.cell? ⟨ga, k, none⟩ = some (.int .i64 l[k])) (hp : PredI g lb p l w) :
    Calls Tryz.prog 134 #[.slice A l.length c, .func (.func g) #[] lb] w fun e w' => e = .returned (.int .i64 (idxP p l)) ∧ Below w.heap.size w w' := by
  have AL := add_lit0
  have RE : Hid (∀ V, Below w.heap.size w V → ∀ k (hk : k < l.length), ∃ ga, A = some ⟨ga, 0, none⟩ ∧ V.cell? ⟨ga, k, none⟩ = some (.int .i64 l[k])) := fun V hv k hk => by
    obtain ⟨ga, e1, e2, e3⟩ := h k hk
    exact ⟨ga, e1, (hv.cell (p := ⟨ga, k, none⟩) e2).trans e3⟩
  clear h
  go_enter Tryz.func134, Tryz.ntmps134
  go_wp2
  go_loopg [5, 8] l.length (fun gg _ s8 wr => ∃ k : Nat, k ≤ l.length ∧ l.length - k ≤ gg ∧ s8 = .int .i64 k ∧ Hid (Below w.heap.size w wr) ∧ Hid (∀ j (hj : j < l.length), j < k → p l[j] = false))
  case atStart => exact ⟨0, Nat.zero_le _, by omega, rfl, Below.refl _ w, fun j _ h => absurd h (by omega)⟩
  case round =>
    obtain ⟨k, hk, hg, rfl, BW, hn⟩ := hrel
    by_cases hlt : k < l.length
    · have hlk : Hid (p l[k] = true → idxP p l = k) := fun h1 => idxP_hit hlt h1 (fun j hj => hn j (by omega) hj)
      have hl2 : Hid (p l[k] = false → ∀ j (hj : j < l.length), j < k + 1 → p l[j] = false) := fun h1 j hj hjk => by
        by_cases e : j = k
        · subst e; exact h1
        · exact hn j hj (by omega)
      obtain ⟨ga, rfl, E⟩ := RE.out _ BW.out k hlt
      have hcall := hp wr l[k] (List.getElem_mem hlt) BW.out
      have k1 : (0 : Int) ≤ k := by omega
      have k2 : (k : Int) < l.length := by omega
      clear hp hn
      generalize l[k] = x at hlk hl2 E hcall
      cases hq : p x with
      | true =>
        rw [hq] at hcall
        go_wp2_with (go_at_fn g; refine hcall.mono ?_; rintro e w' ⟨rfl, hb'⟩)
        go_ret
        exact ⟨ret_int (hlk.out hq).symm, hb'⟩
      | false =>
        rw [hq] at hcall
        go_wp2_with (go_at_fn g; refine hcall.mono ?_; rintro e w' ⟨rfl, hb'⟩)
        go_roundg (l.length - (k + 1))
        case measure => omega
        case rel => exact ⟨k + 1, by omega, by omega, by go_num, hb', hl2.out hq⟩
    · have : k = l.length := by omega
      subst this
      go_wp2
      go_ret
      exact ⟨ret_int (idxP_miss (fun j hj => hn.out j hj hj)).symm, BW.out⟩
theorem iContainsI (p : Int → Bool) (g : Nat) (lb : Array Value) (eg : ∀ args w, (callFunc g args).run Tryz.prog w = .ok (.enter g args) w) (l : List Int) (A : Option Addr) (c : Nat) (w : World) (hl : l.length ≤ 140737488355328)
    (h : ∀ k (hk : k < l.length), ∃ ga, A = some ⟨ga, 0, none⟩ ∧ ga < w.heap.size ∧ w.cell? ⟨ga, k, none⟩ = some (.int .i64 l[k])) (hp : PredI g lb p l w) :
    Calls Tryz.prog 96 #[.slice A l.length c, .func (.func g) #[] lb] w fun e w' => e = .returned (.bool (l.any p)) ∧ Below w.heap.size w w' := by
  rw [← idxP_any]
  have HI := Lib.hid (iIndexFuncI p g lb eg l A c w hl h hp)
  clear h hp eg
  generalize idxP p l = ix at HI ⊢
  go_enter Tryz.func96, Tryz.ntmps96
  go_wp2_with (go_at_call 134; refine HI.out.mono ?_; rintro e w' ⟨rfl, hb⟩)
  go_ret
  exact ⟨rfl, hb⟩
end Go.Proofs.YtomolbhcggaakaaGreat
