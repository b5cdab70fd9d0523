/- Parts of the proof, in one text. -/
import Derived.Test.YtmidnaafljgbiaaN17
import Derived.Test.YtmidnaafljgbiaaN04
/- The slots that a step uses, by the program's text. -/
namespace Go.Proofs.Ytmidnaafljgbiaa
open Go.RowKit
set_option maxRecDepth 100000

theorem oneI' (x : Int) : ∀ u ∈ encI x, u.oneCell' = true := by
  intro u hu
  obtain rfl : u = .int .i64 x := by simpa [encI] using hu
  rfl
theorem infI : (Try.prog.info? 3).map (fun i => (i.zero.map (·.cells.size), i.size, i.bytes)) = some (some 1, 1, 8) := by kernel_rfl
theorem nextE0 {W : World} {g : Nat} (h : W.heap[g]? = some (.stringIter ⟨#[]⟩ 0)) (ty : TypeId) : (Instr.next (.pointer (some ⟨g, 0, none⟩)) true ty).run Try.prog W = .ok (.tuple #[.bool false]) W := Lib.run_next_end_at W g _ 0 ty h (by decide)
theorem nextE1 {c : UInt8} {W : World} {g : Nat} (h : W.heap[g]? = some (.stringIter ⟨#[c]⟩ 1)) (ty : TypeId) : (Instr.next (.pointer (some ⟨g, 0, none⟩)) true ty).run Try.prog W = .ok (.tuple #[.bool false]) W := Lib.run_next_end_at W g _ 1 ty h (by simp [ByteArray.size])
theorem nextE2 {c d : UInt8} {W : World} {g : Nat} (h : W.heap[g]? = some (.stringIter ⟨#[c, d]⟩ 2)) (ty : TypeId) : (Instr.next (.pointer (some ⟨g, 0, none⟩)) true ty).run Try.prog W = .ok (.tuple #[.bool false]) W := Lib.run_next_end_at W g _ 2 ty h (by simp [ByteArray.size])
set_option maxHeartbeats 2000000 in
theorem iUsesRS (o : Opx) {w0 w : World} {f : List Nat} {L : List Asn} (M : Mem w0 f w L) (hr : readsOf o.k = ⟨#[82, 83]⟩) (ho : opOk o = true) : Calls Try.prog 100 #[.agg (opArr o)] w fun e w' => ∃ (A : Option Addr) (c : Nat), e = .returned (.slice A 2 c) ∧ Mem w0 f w' (rowI A c [o.r, o.s] :: L) := by
  have HH := Lib.hid (fun V (L : List Asn) (M : Mem w0 f V L) => iHow o M)
  have HO := Lib.hid (fun V => iOpOk o V)
  rw [ho] at HO
  simp only [howArr, hr] at HH
  have hu := Try.underlying9
  replace M := M.nilRow (enc := encI) (m := 1) (t := 3)
  clear hr ho
  obtain ⟨kk, r, s, to, ⟨vk, vn⟩⟩ := o
  simp only [opArr] at HH HO ⊢
  generalize wordOf kk = z1 at HH
  generalize hasOf kk = z2 at HH
  generalize fillsR kk = z4 at HH
  have f2 := fieldM2 z1 z2 ⟨#[82, 83]⟩ z4
  go_enter Try.func100, Try.ntmps100
  go_wp2_with (first
    | (with_reducible refine alA M ?_; clear M; (try clear F); intro w1 M F) | ((with_reducible apply ev_store (M := M)); rfl; rfl; ((conv => lhs; whnf) <;> rfl); rfl; (first | exact siI | exact siR | exact siV | exact siB | exact siSI | exact siSV | exact siW | exact siSR | exact siSO | exact siO); (exact one_all rfl); (exact dl); (exact Nat.le_of_ble_eq_true rfl); clear M; intro w1 M; simp only [SX] at M; (try clear F); have F := fx M)
    | (go_at_call 117; (refine nmK ?_; clear M; (try clear F); intro w1 M F); refine (HO.out _).mono ?_; rintro e w2 ⟨rfl, hb⟩; replace M := M.below hb; clear hb; (try clear F); have F := fx M)
    | (go_at_call 122; (refine nmK ?_; clear M; (try clear F); intro w1 M F); refine (HH.out _ _ M).mono ?_; clear M; rintro e w2 ⟨rfl, M⟩; (try clear F); have F := fx M))
  refine wp_loop_rounds 3 ?_
  (refine goal_iter (G := fun W => Code.rounds _ _ _ _ _ W) M ?_; clear M; intro w3 M; (try clear F); have F := fx M; simp only [itr_F] at F)
  rw [rounds_succ]
  go_wp2_with (first | ((with_reducible refine alA M ?_; clear M; (try clear F); intro w1 M F); ((with_reducible apply ev_app1 (enc := encI) (v := r) (hk := encI_length) (hone := oneI') (h0 := by decide) (hinfo := infI) (ht := Try.underlying23) (M := M)); rfl; rfl; (exact dl); (exact dl); rfl; rfl; (exact Nat.le_of_ble_eq_true rfl); (exact Nat.le_of_ble_eq_true rfl); clear M; intro A1 c1 w1 M; replace M := Mem.drop2 M; (simp only [List.nil_append] at M); (try clear F); have F := fx M)) | ((with_reducible refine alA M ?_; clear M; (try clear F); intro w1 M F); ((with_reducible apply ev_app1 (enc := encI) (v := s) (hk := encI_length) (hone := oneI') (h0 := by decide) (hinfo := infI) (ht := Try.underlying23) (M := M)); rfl; rfl; (exact dl); (exact dl); rfl; rfl; (exact Nat.le_of_ble_eq_true rfl); (exact Nat.le_of_ble_eq_true rfl); clear M; intro A1 c1 w1 M; replace M := Mem.drop2 M; (simp only [List.nil_append, List.cons_append] at M); (try clear F); have F := fx M)) | (with_reducible refine alA M ?_; clear M; (try clear F); intro w1 M F) | ((with_reducible apply ev_next (b := 82) (M := M)); rfl; rfl; (exact dl); rfl; (exact Nat.le_of_ble_eq_true rfl); clear M; intro w1 M; (try clear F); have F := fx M; (simp only [itr_F] at F)) | ((with_reducible apply ev_next (b := 83) (M := M)); rfl; rfl; (exact dl); rfl; (exact Nat.le_of_ble_eq_true rfl); clear M; intro w1 M; (try clear F); have F := fx M; (simp only [itr_F] at F)))
  rw [rounds_succ]
  go_wp2_with (first | ((with_reducible refine alA M ?_; clear M; (try clear F); intro w1 M F); ((with_reducible apply ev_app1 (enc := encI) (v := r) (hk := encI_length) (hone := oneI') (h0 := by decide) (hinfo := infI) (ht := Try.underlying23) (M := M)); rfl; rfl; (exact dl); (exact dl); rfl; rfl; (exact Nat.le_of_ble_eq_true rfl); (exact Nat.le_of_ble_eq_true rfl); clear M; intro A1 c1 w1 M; replace M := Mem.drop2 M; (simp only [List.nil_append, List.cons_append] at M); (try clear F); have F := fx M)) | ((with_reducible refine alA M ?_; clear M; (try clear F); intro w1 M F); ((with_reducible apply ev_app1 (enc := encI) (v := s) (hk := encI_length) (hone := oneI') (h0 := by decide) (hinfo := infI) (ht := Try.underlying23) (M := M)); rfl; rfl; (exact dl); (exact dl); rfl; rfl; (exact Nat.le_of_ble_eq_true rfl); (exact Nat.le_of_ble_eq_true rfl); clear M; intro A1 c1 w1 M; replace M := Mem.drop2 M; (simp only [List.nil_append, List.cons_append] at M); (try clear F); have F := fx M)) | (with_reducible refine alA M ?_; clear M; (try clear F); intro w1 M F) | ((with_reducible apply ev_next (b := 82) (M := M)); rfl; rfl; (exact dl); rfl; (exact Nat.le_of_ble_eq_true rfl); clear M; intro w1 M; (try clear F); have F := fx M; (simp only [itr_F] at F)) | ((with_reducible apply ev_next (b := 83) (M := M)); rfl; rfl; (exact dl); rfl; (exact Nat.le_of_ble_eq_true rfl); clear M; intro w1 M; (try clear F); have F := fx M; (simp only [itr_F] at F)))
  have N2 := nextE2 (W := w1) (g := w2.heap.size) F.2.1.2
  rw [rounds_succ]
  go_wp2
  go_ret
  exact ⟨_, _, rfl, M.drop2.drop2⟩
set_option maxHeartbeats 2000000 in
theorem iUsesR (o : Opx) {w0 w : World} {f : List Nat} {L : List Asn} (M : Mem w0 f w L) (hr : readsOf o.k = ⟨#[82]⟩) (ho : opOk o = true) : Calls Try.prog 100 #[.agg (opArr o)] w fun e w' => ∃ (A : Option Addr) (c : Nat), e = .returned (.slice A 1 c) ∧ Mem w0 f w' (rowI A c [o.r] :: L) := by
  have HH := Lib.hid (fun V (L : List Asn) (M : Mem w0 f V L) => iHow o M)
  have HO := Lib.hid (fun V => iOpOk o V)
  rw [ho] at HO
  simp only [howArr, hr] at HH
  have hu := Try.underlying9
  replace M := M.nilRow (enc := encI) (m := 1) (t := 3)
  clear hr ho
  obtain ⟨kk, r, s, to, ⟨vk, vn⟩⟩ := o
  simp only [opArr] at HH HO ⊢
  generalize wordOf kk = z1 at HH
  generalize hasOf kk = z2 at HH
  generalize fillsR kk = z4 at HH
  have f2 := fieldM2 z1 z2 ⟨#[82]⟩ z4
  go_enter Try.func100, Try.ntmps100
  go_wp2_with (first
    | (with_reducible refine alA M ?_; clear M; (try clear F); intro w1 M F) | ((with_reducible apply ev_store (M := M)); rfl; rfl; ((conv => lhs; whnf) <;> rfl); rfl; (first | exact siI | exact siR | exact siV | exact siB | exact siSI | exact siSV | exact siW | exact siSR | exact siSO | exact siO); (exact one_all rfl); (exact dl); (exact Nat.le_of_ble_eq_true rfl); clear M; intro w1 M; simp only [SX] at M; (try clear F); have F := fx M)
    | (go_at_call 117; (refine nmK ?_; clear M; (try clear F); intro w1 M F); refine (HO.out _).mono ?_; rintro e w2 ⟨rfl, hb⟩; replace M := M.below hb; clear hb; (try clear F); have F := fx M)
    | (go_at_call 122; (refine nmK ?_; clear M; (try clear F); intro w1 M F); refine (HH.out _ _ M).mono ?_; clear M; rintro e w2 ⟨rfl, M⟩; (try clear F); have F := fx M))
  refine wp_loop_rounds 2 ?_
  (refine goal_iter (G := fun W => Code.rounds _ _ _ _ _ W) M ?_; clear M; intro w3 M; (try clear F); have F := fx M; simp only [itr_F] at F)
  rw [rounds_succ]
  go_wp2_with (first | ((with_reducible refine alA M ?_; clear M; (try clear F); intro w1 M F); ((with_reducible apply ev_app1 (enc := encI) (v := r) (hk := encI_length) (hone := oneI') (h0 := by decide) (hinfo := infI) (ht := Try.underlying23) (M := M)); rfl; rfl; (exact dl); (exact dl); rfl; rfl; (exact Nat.le_of_ble_eq_true rfl); (exact Nat.le_of_ble_eq_true rfl); clear M; intro A1 c1 w1 M; replace M := Mem.drop2 M; (simp only [List.nil_append] at M); (try clear F); have F := fx M)) | ((with_reducible refine alA M ?_; clear M; (try clear F); intro w1 M F); ((with_reducible apply ev_app1 (enc := encI) (v := s) (hk := encI_length) (hone := oneI') (h0 := by decide) (hinfo := infI) (ht := Try.underlying23) (M := M)); rfl; rfl; (exact dl); (exact dl); rfl; rfl; (exact Nat.le_of_ble_eq_true rfl); (exact Nat.le_of_ble_eq_true rfl); clear M; intro A1 c1 w1 M; replace M := Mem.drop2 M; (simp only [List.nil_append, List.cons_append] at M); (try clear F); have F := fx M)) | (with_reducible refine alA M ?_; clear M; (try clear F); intro w1 M F) | ((with_reducible apply ev_next (b := 82) (M := M)); rfl; rfl; (exact dl); rfl; (exact Nat.le_of_ble_eq_true rfl); clear M; intro w1 M; (try clear F); have F := fx M; (simp only [itr_F] at F)) | ((with_reducible apply ev_next (b := 83) (M := M)); rfl; rfl; (exact dl); rfl; (exact Nat.le_of_ble_eq_true rfl); clear M; intro w1 M; (try clear F); have F := fx M; (simp only [itr_F] at F)))
  have N2 := nextE1 (W := w1) (g := w2.heap.size) F.2.1.2
  rw [rounds_succ]
  go_wp2
  go_ret
  exact ⟨_, _, rfl, M.drop2.drop2⟩
set_option maxHeartbeats 2000000 in
theorem iUsesS (o : Opx) {w0 w : World} {f : List Nat} {L : List Asn} (M : Mem w0 f w L) (hr : readsOf o.k = ⟨#[83]⟩) (ho : opOk o = true) : Calls Try.prog 100 #[.agg (opArr o)] w fun e w' => ∃ (A : Option Addr) (c : Nat), e = .returned (.slice A 1 c) ∧ Mem w0 f w' (rowI A c [o.s] :: L) := by
  have HH := Lib.hid (fun V (L : List Asn) (M : Mem w0 f V L) => iHow o M)
  have HO := Lib.hid (fun V => iOpOk o V)
  rw [ho] at HO
  simp only [howArr, hr] at HH
  have hu := Try.underlying9
  replace M := M.nilRow (enc := encI) (m := 1) (t := 3)
  clear hr ho
  obtain ⟨kk, r, s, to, ⟨vk, vn⟩⟩ := o
  simp only [opArr] at HH HO ⊢
  generalize wordOf kk = z1 at HH
  generalize hasOf kk = z2 at HH
  generalize fillsR kk = z4 at HH
  have f2 := fieldM2 z1 z2 ⟨#[83]⟩ z4
  go_enter Try.func100, Try.ntmps100
  go_wp2_with (first
    | (with_reducible refine alA M ?_; clear M; (try clear F); intro w1 M F) | ((with_reducible apply ev_store (M := M)); rfl; rfl; ((conv => lhs; whnf) <;> rfl); rfl; (first | exact siI | exact siR | exact siV | exact siB | exact siSI | exact siSV | exact siW | exact siSR | exact siSO | exact siO); (exact one_all rfl); (exact dl); (exact Nat.le_of_ble_eq_true rfl); clear M; intro w1 M; simp only [SX] at M; (try clear F); have F := fx M)
    | (go_at_call 117; (refine nmK ?_; clear M; (try clear F); intro w1 M F); refine (HO.out _).mono ?_; rintro e w2 ⟨rfl, hb⟩; replace M := M.below hb; clear hb; (try clear F); have F := fx M)
    | (go_at_call 122; (refine nmK ?_; clear M; (try clear F); intro w1 M F); refine (HH.out _ _ M).mono ?_; clear M; rintro e w2 ⟨rfl, M⟩; (try clear F); have F := fx M))
  refine wp_loop_rounds 2 ?_
  (refine goal_iter (G := fun W => Code.rounds _ _ _ _ _ W) M ?_; clear M; intro w3 M; (try clear F); have F := fx M; simp only [itr_F] at F)
  rw [rounds_succ]
  go_wp2_with (first | ((with_reducible refine alA M ?_; clear M; (try clear F); intro w1 M F); ((with_reducible apply ev_app1 (enc := encI) (v := r) (hk := encI_length) (hone := oneI') (h0 := by decide) (hinfo := infI) (ht := Try.underlying23) (M := M)); rfl; rfl; (exact dl); (exact dl); rfl; rfl; (exact Nat.le_of_ble_eq_true rfl); (exact Nat.le_of_ble_eq_true rfl); clear M; intro A1 c1 w1 M; replace M := Mem.drop2 M; (simp only [List.nil_append, List.cons_append] at M); (try clear F); have F := fx M)) | ((with_reducible refine alA M ?_; clear M; (try clear F); intro w1 M F); ((with_reducible apply ev_app1 (enc := encI) (v := s) (hk := encI_length) (hone := oneI') (h0 := by decide) (hinfo := infI) (ht := Try.underlying23) (M := M)); rfl; rfl; (exact dl); (exact dl); rfl; rfl; (exact Nat.le_of_ble_eq_true rfl); (exact Nat.le_of_ble_eq_true rfl); clear M; intro A1 c1 w1 M; replace M := Mem.drop2 M; (simp only [List.nil_append] at M); (try clear F); have F := fx M)) | (with_reducible refine alA M ?_; clear M; (try clear F); intro w1 M F) | ((with_reducible apply ev_next (b := 82) (M := M)); rfl; rfl; (exact dl); rfl; (exact Nat.le_of_ble_eq_true rfl); clear M; intro w1 M; (try clear F); have F := fx M; (simp only [itr_F] at F)) | ((with_reducible apply ev_next (b := 83) (M := M)); rfl; rfl; (exact dl); rfl; (exact Nat.le_of_ble_eq_true rfl); clear M; intro w1 M; (try clear F); have F := fx M; (simp only [itr_F] at F)))
  have N2 := nextE1 (W := w1) (g := w2.heap.size) F.2.1.2
  rw [rounds_succ]
  go_wp2
  go_ret
  exact ⟨_, _, rfl, M.drop2.drop2⟩
set_option maxHeartbeats 2000000 in
theorem iUsesN (o : Opx) {w0 w : World} {f : List Nat} {L : List Asn} (M : Mem w0 f w L) (hr : readsOf o.k = ⟨#[]⟩) (ho : opOk o = true) : Calls Try.prog 100 #[.agg (opArr o)] w fun e w' => ∃ (A : Option Addr) (c : Nat), e = .returned (.slice A 0 c) ∧ Mem w0 f w' (rowI A c [] :: L) := by
  have HH := Lib.hid (fun V (L : List Asn) (M : Mem w0 f V L) => iHow o M)
  have HO := Lib.hid (fun V => iOpOk o V)
  rw [ho] at HO
  simp only [howArr, hr] at HH
  have hu := Try.underlying9
  replace M := M.nilRow (enc := encI) (m := 1) (t := 3)
  clear hr ho
  obtain ⟨kk, r, s, to, ⟨vk, vn⟩⟩ := o
  simp only [opArr] at HH HO ⊢
  generalize wordOf kk = z1 at HH
  generalize hasOf kk = z2 at HH
  generalize fillsR kk = z4 at HH
  have f2 := fieldM2 z1 z2 ⟨#[]⟩ z4
  go_enter Try.func100, Try.ntmps100
  go_wp2_with (first
    | (with_reducible refine alA M ?_; clear M; (try clear F); intro w1 M F) | ((with_reducible apply ev_store (M := M)); rfl; rfl; ((conv => lhs; whnf) <;> rfl); rfl; (first | exact siI | exact siR | exact siV | exact siB | exact siSI | exact siSV | exact siW | exact siSR | exact siSO | exact siO); (exact one_all rfl); (exact dl); (exact Nat.le_of_ble_eq_true rfl); clear M; intro w1 M; simp only [SX] at M; (try clear F); have F := fx M)
    | (go_at_call 117; (refine nmK ?_; clear M; (try clear F); intro w1 M F); refine (HO.out _).mono ?_; rintro e w2 ⟨rfl, hb⟩; replace M := M.below hb; clear hb; (try clear F); have F := fx M)
    | (go_at_call 122; (refine nmK ?_; clear M; (try clear F); intro w1 M F); refine (HH.out _ _ M).mono ?_; clear M; rintro e w2 ⟨rfl, M⟩; (try clear F); have F := fx M))
  refine wp_loop_rounds 1 ?_
  (refine goal_iter (G := fun W => Code.rounds _ _ _ _ _ W) M ?_; clear M; intro w3 M; (try clear F); have F := fx M; simp only [itr_F] at F)
  have N2 := nextE0 (W := w3) (g := w2.heap.size) F.1.2
  rw [rounds_succ]
  go_wp2
  go_ret
  exact ⟨_, _, rfl, M.drop.drop⟩
theorem reads_of (o : Opx) : (readsOf o.k = ⟨#[83]⟩ ∧ opUses o = [o.s]) ∨ (readsOf o.k = ⟨#[82, 83]⟩ ∧ opUses o = [o.r, o.s]) ∨ (readsOf o.k = ⟨#[82]⟩ ∧ opUses o = [o.r]) ∨ (readsOf o.k = ⟨#[]⟩ ∧ opUses o = []) := by
  obtain ⟨k, r, s, to, v⟩ := o
  simp only
  by_cases h2 : k = 2
  · subst h2; exact .inl ⟨rfl, rfl⟩
  by_cases h3 : k = 3
  · subst h3; exact .inr (.inl ⟨rfl, rfl⟩)
  by_cases h6 : k = 6
  · subst h6; exact .inr (.inl ⟨rfl, rfl⟩)
  by_cases h10 : k = 10
  · subst h10; exact .inr (.inr (.inl ⟨rfl, rfl⟩))
  by_cases h11 : k = 11
  · subst h11; exact .inr (.inr (.inl ⟨rfl, rfl⟩))
  by_cases h12 : k = 12
  · subst h12; exact .inr (.inr (.inl ⟨rfl, rfl⟩))
  by_cases h14 : k = 14
  · subst h14; exact .inr (.inr (.inl ⟨rfl, rfl⟩))
  refine .inr (.inr (.inr ⟨?_, ?_⟩))
  · unfold readsOf
    simp [h2, h3, h6, h10, h11, h12, h14]
  · simp [opUses, h2, h3, h6, h10, h11, h12, h14]
theorem iUses (o : Opx) {w0 w : World} {f : List Nat} {L : List Asn} (M : Mem w0 f w L) (ho : opOk o = true) : Calls Try.prog 100 #[.agg (opArr o)] w (UsesPost o w0 f L) := by
  unfold UsesPost
  rcases reads_of o with ⟨h, e⟩ | ⟨h, e⟩ | ⟨h, e⟩ | ⟨h, e⟩ <;> rw [e]
  · exact iUsesS o M h ho
  · exact iUsesRS o M h ho
  · exact iUsesR o M h ho
  · exact iUsesN o M h ho
end Go.Proofs.Ytmidnaafljgbiaa
/- Whether a predicate holds at one of some ints, by the program's text. -/
namespace Go.Proofs.Ytmidnaafljgbiaa
open Go.RowKit
set_option maxRecDepth 100000

/-- A predicate on ints, as a function value. -/
def PredI (g : Nat) (lb : Array Value) (p : Int → Bool) (l : List Int) (w : World) : Prop :=
  ∀ (W : World) (x : Int), x ∈ l → Below w.heap.size w W → Calls Try.prog g (#[.int .i64 x] ++ lb) W fun e w' => e = .returned (.bool (p x)) ∧ Below w.heap.size w w'
set_option maxHeartbeats 1000000 in
theorem iIndexFuncI (p : Int → Bool) (g : Nat) (lb : Array Value) (eg : ∀ args w, (callFunc g args).run Try.prog w = .ok (.enter g args) w) (l : List Int) (A : Option Addr) (c : Nat) (w : World) (hl : l.length ≤ 140737488355328)
    (h : ∀ k (hk : k < l.length), ∃ ga, A = some ⟨ga, 0, none⟩ ∧ ga < w.heap.size ∧ w.cell? ⟨ga, k, none⟩ = some (.int .i64 l[k])) (hp : PredI g lb p l w) :
    Calls Try.prog 121 #[.slice A l.length c, .func (.func g) #[] lb] w fun e w' => e = .returned (.int .i64 (idxP p l)) ∧ Below w.heap.size w w' := by
  have AL := add_lit0
  have RE : Hid (∀ V, Below w.heap.size w V → ∀ k (hk : k < l.length), ∃ ga, A = some ⟨ga, 0, none⟩ ∧ V.cell? ⟨ga, k, none⟩ = some (.int .i64 l[k])) := fun V hv k hk => by
    obtain ⟨ga, e1, e2, e3⟩ := h k hk
    exact ⟨ga, e1, (hv.cell (p := ⟨ga, k, none⟩) e2).trans e3⟩
  clear h
  go_enter Try.func121, Try.ntmps121
  go_wp2
  go_loopg [5, 8] l.length (fun gg _ s8 wr => ∃ k : Nat, k ≤ l.length ∧ l.length - k ≤ gg ∧ s8 = .int .i64 k ∧ Hid (Below w.heap.size w wr) ∧ Hid (∀ j (hj : j < l.length), j < k → p l[j] = false))
  case atStart => exact ⟨0, Nat.zero_le _, by omega, rfl, Below.refl _ w, fun j _ h => absurd h (by omega)⟩
  case round =>
    obtain ⟨k, hk, hg, rfl, BW, hn⟩ := hrel
    by_cases hlt : k < l.length
    · have hlk : Hid (p l[k] = true → idxP p l = k) := fun h1 => idxP_hit hlt h1 (fun j hj => hn j (by omega) hj)
      have hl2 : Hid (p l[k] = false → ∀ j (hj : j < l.length), j < k + 1 → p l[j] = false) := fun h1 j hj hjk => by
        by_cases e : j = k
        · subst e; exact h1
        · exact hn j hj (by omega)
      obtain ⟨ga, rfl, E⟩ := RE.out _ BW.out k hlt
      have hcall := hp wr l[k] (List.getElem_mem hlt) BW.out
      have k1 : (0 : Int) ≤ k := by omega
      have k2 : (k : Int) < l.length := by omega
      clear hp hn
      generalize l[k] = x at hlk hl2 E hcall
      cases hq : p x with
      | true =>
        rw [hq] at hcall
        go_wp2_with (go_at_fn g; refine hcall.mono ?_; rintro e w' ⟨rfl, hb'⟩)
        go_ret
        exact ⟨ret_int (hlk.out hq).symm, hb'⟩
      | false =>
        rw [hq] at hcall
        go_wp2_with (go_at_fn g; refine hcall.mono ?_; rintro e w' ⟨rfl, hb'⟩)
        go_roundg (l.length - (k + 1))
        case measure => omega
        case rel => exact ⟨k + 1, by omega, by omega, by go_num, hb', hl2.out hq⟩
    · have : k = l.length := by omega
      subst this
      go_wp2
      go_ret
      exact ⟨ret_int (idxP_miss (fun j hj => hn.out j hj hj)).symm, BW.out⟩
theorem iContainsI (p : Int → Bool) (g : Nat) (lb : Array Value) (eg : ∀ args w, (callFunc g args).run Try.prog w = .ok (.enter g args) w) (l : List Int) (A : Option Addr) (c : Nat) (w : World) (hl : l.length ≤ 140737488355328)
    (h : ∀ k (hk : k < l.length), ∃ ga, A = some ⟨ga, 0, none⟩ ∧ ga < w.heap.size ∧ w.cell? ⟨ga, k, none⟩ = some (.int .i64 l[k])) (hp : PredI g lb p l w) :
    Calls Try.prog 99 #[.slice A l.length c, .func (.func g) #[] lb] w fun e w' => e = .returned (.bool (l.any p)) ∧ Below w.heap.size w w' := by
  rw [← idxP_any]
  have HI := Lib.hid (iIndexFuncI p g lb eg l A c w hl h hp)
  clear h hp eg
  generalize idxP p l = ix at HI ⊢
  go_enter Try.func99, Try.ntmps99
  go_wp2_with (go_at_call 121; refine HI.out.mono ?_; rintro e w' ⟨rfl, hb⟩)
  go_ret
  exact ⟨rfl, hb⟩
end Go.Proofs.Ytmidnaafljgbiaa
/- The same rounds with each step's ways in another order: what is full is one. No Go and no memory here. -/
namespace Go.Proofs.Ytmidnaafljgbiaa

theorem both_comm2 {a b c : Int} (ha : -1 ≤ a ∧ a ≤ 15) (hb : 0 ≤ b ∧ b ≤ 15) (hc : 0 ≤ c ∧ c ≤ 15) : both (both a b) c = both (both a c) b ∧ (both (both a b) c = a → both a b = a) := by
  have key : ∀ a b c : Fin 16, both (both a.val b.val) c.val = both (both a.val c.val) b.val ∧ (both (both a.val b.val) c.val = a.val → both a.val b.val = a.val) := by decide
  have key2 : ∀ b c : Fin 16, both b.val c.val = both c.val b.val := by decide
  obtain ⟨b', rfl⟩ := Int.eq_ofNat_of_zero_le hb.1
  obtain ⟨c', rfl⟩ := Int.eq_ofNat_of_zero_le hc.1
  by_cases hn : a < 0
  · have e1 : both a b' = b' := by unfold both; rw [if_pos hn]
    have e2 : both a c' = c' := by unfold both; rw [if_pos hn]
    rw [e1, e2]
    exact ⟨key2 ⟨b', by omega⟩ ⟨c', by omega⟩, fun h => by have := (both_facts (a := b') (b := c') (by omega) (by omega)).1; omega⟩
  · obtain ⟨a', rfl⟩ := Int.eq_ofNat_of_zero_le (by omega : 0 ≤ a)
    exact key ⟨a', by omega⟩ ⟨b', by omega⟩ ⟨c', by omega⟩

theorem merge_out {f : List Int} {x b : Int} (h : (f.length : Int) ≤ x) : merge f x b = (f, false) := by unfold merge; rw [if_pos h]
theorem merge_in {f : List Int} {x b : Int} (h0 : 0 ≤ x) (h : x < f.length) : merge f x b = (f.set x.toNat (both (getI f x) b), decide (both (getI f x) b ≠ getI f x)) := by
  unfold merge
  rw [if_neg (by omega)]
  by_cases e : both (getI f x) b = getI f x
  · rw [if_pos e, e]
    have : f.set x.toNat (getI f x) = f := by
      apply List.ext_getElem? 
      intro k
      rw [List.getElem?_set]
      split
      · rename_i hk
        subst hk
        rw [if_pos (by omega), getI, List.getD_eq_getElem?_getD, List.getElem?_eq_getElem (by omega)]
        rfl
      · rfl
    rw [this]
    simp
  · rw [if_neg e]
    simp [e]

theorem merge_comm {f : List Int} (hf : Bits f) {x y b c : Int} (hx : 0 ≤ x) (hy : 0 ≤ y) (hb : 0 ≤ b ∧ b ≤ 15) (hc : 0 ≤ c ∧ c ≤ 15) :
    (merge (merge f x b).1 y c).1 = (merge (merge f y c).1 x b).1 ∧ ((merge f x b).2 || (merge (merge f x b).1 y c).2) = ((merge f y c).2 || (merge (merge f y c).1 x b).2) := by
  have l1 := (merge_facts hf hx hb).1
  have l2 := (merge_facts hf hy hc).1
  by_cases h1 : (f.length : Int) ≤ x
  · rw [merge_out h1, merge_out (f := (merge f y c).1) (by omega)]
    simp
  by_cases h2 : (f.length : Int) ≤ y
  · rw [merge_out h2, merge_out (f := (merge f x b).1) (by omega)]
    simp
  rw [merge_in (f := f) hx (by omega), merge_in (f := f) hy (by omega)]
  dsimp only
  rw [merge_in (f := f.set x.toNat _) hy (by rw [List.length_set]; omega), merge_in (f := f.set y.toNat _) hx (by rw [List.length_set]; omega)]
  have gx := hf _ (getI_mem hx (by omega : x < f.length))
  by_cases e : x = y
  · subst e
    rw [getI_set hx hx (by omega), if_pos rfl, getI_set hx hx (by omega), if_pos rfl]
    obtain ⟨k1, k2⟩ := both_comm2 gx hb hc
    obtain ⟨k3, k4⟩ := both_comm2 gx hc hb
    simp only [List.set_set]
    refine ⟨by rw [k1], ?_⟩
    rw [← k1]
    by_cases q : both (both (getI f x) b) c = getI f x
    · have q1 := k2 q
      have q2 := k4 (by rw [← k1]; exact q)
      simp [q1, q2]
    · by_cases q1 : both (getI f x) b = getI f x
      · rw [q1] at q ⊢
        simp [q]
      · by_cases q2 : both (getI f x) c = getI f x
        · have : both (both (getI f x) b) c = both (getI f x) b := by rw [k1, q2]
          simp [q1, q2, this]
        · simp [q1, q2]
  · rw [getI_set hx hy (by omega), if_neg (fun h => e h.symm), getI_set hy hx (by omega), if_neg e]
    refine ⟨List.set_comm _ _ (by omega), ?_⟩
    exact Bool.or_comm _ _

/-- A step's ways, the next place first. -/
def stepWays (o : Opx) (f : List Int) (i : Int) : List Int × Bool :=
  let a := if o.k ≠ 9 ∧ o.k ≠ 14 ∧ i + 1 < f.length then merge f (i + 1) (if fillsR o.k then withBit (getI f i) o.r else getI f i) else (f, false)
  let b := if o.k = 5 then merge a.1 o.to 1 else if goesTo o.k then merge a.1 o.to (getI a.1 i) else (a.1, false)
  (b.1, a.2 || b.2)

theorem stepWays_eq {o : Opx} (ho : opOk o = true) {f : List Int} (hf : Bits f) {i : Int} (h0 : 0 ≤ i) (hi : i < f.length) (hb : 0 ≤ getI f i) : stepWays o f i = stepFrom o f i := by
  obtain ⟨k1, _, _, _, kr, _, kt⟩ := opOk_parts ho
  have hm := hf _ (getI_mem h0 hi)
  have hbits : 0 ≤ getI f i ∧ getI f i ≤ 15 := ⟨hb, hm.2⟩
  obtain ⟨on, hon⟩ : ∃ on, on = (if fillsR o.k then withBit (getI f i) o.r else getI f i) := ⟨_, rfl⟩
  have bon : 0 ≤ on ∧ on ≤ 15 := by
    rw [hon]
    split
    · exact withBit_le hbits (inB_iff.2 kr)
    · exact hbits
  have next : (if o.k ≠ 9 ∧ o.k ≠ 14 ∧ i + 1 < f.length then merge f (i + 1) on else (f, false)) = (if o.k ≠ 9 ∧ o.k ≠ 14 then merge f (i + 1) on else (f, false)) := by
    by_cases h1 : i + 1 < f.length
    · simp [h1]
    · rw [if_neg (by omega), merge_out (by omega)]
      split <;> rfl
  unfold stepWays stepFrom
  simp only [← hon, next]
  by_cases h9 : o.k = 9
  · simp [h9, goesTo]
  by_cases h14 : o.k = 14
  · simp [h14, goesTo]
  simp only [h9, h14, ne_eq, not_false_eq_true, and_self, if_true, if_false]
  have same : getI (merge f (i + 1) on).1 i = getI f i := (merge_facts hf (by omega) bon).2.2.2.2.2 i h0 (by omega)
  by_cases h5 : o.k = 5
  · simp only [h5, if_true]
    obtain ⟨e1, e2⟩ := merge_comm hf (x := i + 1) (y := o.to) (b := on) (c := 1) (by omega) kt.1 bon (by omega)
    rw [e1, e2, Bool.or_comm]
  · simp only [h5, if_false]
    by_cases h8 : o.k = 8 ∨ o.k = 10
    · have hg : goesTo o.k = true := by rcases h8 with h | h <;> simp [goesTo, h]
      simp only [hg, h8, if_true, same]
      obtain ⟨e1, e2⟩ := merge_comm hf (x := i + 1) (y := o.to) (b := on) (c := getI f i) (by omega) kt.1 bon hbits
      rw [e1, e2, Bool.or_comm]
    · have hg : goesTo o.k = false := by simp [goesTo, h5, h9]; omega
      simp [hg, h8]

end Go.Proofs.Ytmidnaafljgbiaa
