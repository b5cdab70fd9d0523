/- Parts of the proof, in one text. -/
import Derived.Lib.OthersKept
import Derived.LoopN
import Derived.Test.YtomolbhcggaakaaGreatG12
import Derived.Test.YtomolbhcggaakaaGreatG34
/- A string's iterator that is held; nothing of the program. -/
namespace Go.Proofs.YtomolbhcggaakaaGreat
open Go.RowKit

def itr (k : Nat) (s : ByteArray) (p : Nat) : Asn where
  fp := [k]
  P w := w.heap[k]? = some (.stringIter s p)
  F w := k < w.heap.size ∧ w.heap[k]? = some (.stringIter s p)
  loc w w' _ h hp := (h k (by simp)).trans hp
  lt w hp j hj := by
    obtain rfl : j = k := by simpa using hj
    exact (Array.getElem?_eq_some_iff.1 hp).1
  imp w hp := ⟨(Array.getElem?_eq_some_iff.1 hp).1, hp⟩
theorem itr_F {k : Nat} {s : ByteArray} {p : Nat} {w : World} : (itr k s p).F w = (k < w.heap.size ∧ w.heap[k]? = some (.stringIter s p)) := rfl
section
variable {w0 w : World} {f : List Nat} {L : List Asn} {k p p' : Nat} {s : ByteArray}
theorem Mem.iter (M : Mem w0 f w L) : Mem w0 f (w.iter s p) (itr w.heap.size s p :: L) := by
  have M1 := M.below (below_new (Below.refl _ _) (.stringIter s p))
  refine ⟨⟨M1.ext.os, M1.ext.tape, M1.ext.output, M1.ext.size, M1.ext.keep, ?_, ?_⟩, ?_⟩
  · intro k hk
    rcases List.mem_append.1 hk with hk | hk
    · obtain rfl : k = w.heap.size := by simpa [itr] using hk
      exact .inr M.ext.size
    · exact M.ext.own k hk
  · refine List.nodup_append.2 ⟨by simp [itr], M.ext.nodup, ?_⟩
    rintro a ha b hb rfl
    obtain rfl : a = w.heap.size := by simpa [itr] using ha
    have := M.lt _ hb
    omega
  · intro X hX
    rcases List.mem_cons.1 hX with rfl | hX
    · exact World.iter_heap w s p
    · exact M1.holds X hX
theorem Mem.iterAt (M : Mem w0 f w (itr k s p :: L)) : Mem w0 f (w.iterAt k s p') (itr k s p' :: L) := by
  have hk : w.heap[k]? = some (.stringIter s p) := M.holds (itr k s p) (by simp)
  refine M.step (A := itr k s p) (B := itr k s p') ⟨rfl, rfl, rfl, by simp [World.iterAt], fun j _ hne => ?_, fun j hj => .inl hj, by simp [itr]⟩ (Lib.iterAt_heap w k s p p' hk)
  have : j ≠ k := by simpa [itr] using hne
  simp [World.iterAt, Ne.symm this]
theorem goal_iter {G : World → Prop} (M : Mem w0 f w L) (h : ∀ w1, Mem w0 f w1 (itr w.heap.size s p :: L) → G w1) : G (w.iter s p) := h _ M.iter
theorem goal_iterAt {G : World → Prop} {L' : List Asn} (M : Mem w0 f w L) (hd : Del (itr k s p) L L') (h : ∀ w1, Mem w0 f w1 (itr k s p' :: L') → G w1) : G (w.iterAt k s p') := h _ (M.pull hd).iterAt
variable {P : Program} {ops : Array Oper} {rest : List Oper} {Q : Exit → Act → World → Prop} {a : Act} {x : Operand} {ty : TypeId} {pos : String} {after : Array Edge} {gd : Option (Tmp × Bool)} {L' : List Asn}
theorem ev_next {dst : Option Tmp} {b : Nat} (hw : Region.wanted ⟨dst, .next x true, ty, pos, after, gd⟩ (yielded ops a.tmps) = true) (hx : a.eval x = .pointer (some ⟨k, 0, none⟩)) (M : Mem w0 f w L) (hd : Del (itr k s p) L L')
    (hq : (s.data[p]?).map (·.toNat) = some b) (ha : b < 128) (h : ∀ w1, Mem w0 f w1 (itr k s (p + 1) :: L') → wpList P ops Q rest (a.put dst (.tuple #[.bool true, .int .i64 p, .int .i32 b])) w1) :
    wpList P ops Q (⟨dst, .next x true, ty, pos, after, gd⟩ :: rest) a w := by
  obtain ⟨c, hc, hb⟩ := Option.map_eq_some_iff.1 hq
  obtain ⟨hp, hc2⟩ := Array.getElem?_eq_some_iff.1 hc
  have hb : (s[p]'hp).toNat = b := by
    rw [← hb, ← hc2]
    rfl
  refine wpList_step fun K hK => ?_
  rw [if_pos hw]
  have hr := Lib.run_next_ascii_at (P := P) w k s p ty (M.is hd) hp (by omega)
  rw [hb] at hr
  have hrun : (execOp a.eval ⟨dst, .next x true, ty, pos, after, gd⟩).run P w = .ok (.value (.tuple #[.bool true, .int .i64 p, .int .i32 b])) (w.iterAt k s (p + 1)) := by
    unfold execOp
    simp only [hx, Sem.run_bind, Sem.run_pure, Result.andThen_ok, hr]
  unfold Oper.wp
  rw [hrun]
  exact hK _ _ (h _ (M.pull hd).iterAt)
end
end Go.Proofs.YtomolbhcggaakaaGreat
/- The slots that a step uses, by the program's text. -/
namespace Go.Proofs.YtomolbhcggaakaaGreat
open Go.RowKit
set_option maxRecDepth 100000

theorem oneI' (x : Int) : ∀ u ∈ encI x, u.oneCell' = true := by
  intro u hu
  obtain rfl : u = .int .i64 x := by simpa [encI] using hu
  rfl
theorem infI : (Tryz.prog.info? 3).map (fun i => (i.zero.map (·.cells.size), i.size, i.bytes)) = some (some 1, 1, 8) := by kernel_rfl
theorem nextE0 {W : World} {g : Nat} (h : W.heap[g]? = some (.stringIter ⟨#[]⟩ 0)) (ty : TypeId) : (Instr.next (.pointer (some ⟨g, 0, none⟩)) true ty).run Tryz.prog W = .ok (.tuple #[.bool false]) W := Lib.run_next_end_at W g _ 0 ty h (by decide)
theorem nextE1 {c : UInt8} {W : World} {g : Nat} (h : W.heap[g]? = some (.stringIter ⟨#[c]⟩ 1)) (ty : TypeId) : (Instr.next (.pointer (some ⟨g, 0, none⟩)) true ty).run Tryz.prog W = .ok (.tuple #[.bool false]) W := Lib.run_next_end_at W g _ 1 ty h (by simp [ByteArray.size])
theorem nextE2 {c d : UInt8} {W : World} {g : Nat} (h : W.heap[g]? = some (.stringIter ⟨#[c, d]⟩ 2)) (ty : TypeId) : (Instr.next (.pointer (some ⟨g, 0, none⟩)) true ty).run Tryz.prog W = .ok (.tuple #[.bool false]) W := Lib.run_next_end_at W g _ 2 ty h (by simp [ByteArray.size])
set_option maxHeartbeats 2000000 in
theorem iUsesRS (o : Opx) {w0 w : World} {f : List Nat} {L : List Asn} (M : Mem w0 f w L) (hr : readsOf o.k = ⟨#[82, 83]⟩) (ho : opOk o = true) : Calls Tryz.prog 97 #[.agg (opArr o)] w fun e w' => ∃ (A : Option Addr) (c : Nat), e = .returned (.slice A 2 c) ∧ Mem w0 f w' (rowI A c [o.r, o.s] :: L) := by
  have HH := Lib.hid (fun V (L : List Asn) (M : Mem w0 f V L) => iHow o M)
  have HO := Lib.hid (fun V => iOpOk o V)
  rw [ho] at HO
  simp only [howArr, hr] at HH
  have hu := Tryz.underlying9
  replace M := M.nilRow (enc := encI) (m := 1) (t := 3)
  clear hr ho
  obtain ⟨kk, r, s, to, ⟨vk, vn⟩⟩ := o
  simp only [opArr] at HH HO ⊢
  generalize wordOf kk = z1 at HH
  generalize hasOf kk = z2 at HH
  generalize fillsR kk = z4 at HH
  have f2 := fieldM2 z1 z2 ⟨#[82, 83]⟩ z4
  go_enter Tryz.func97, Tryz.ntmps97
  go_wp2_with (first
    | ((with_reducible refine goal_alloc (G := fun W => wpList _ _ _ _ _ W) M ?_); clear M; intro w1 M; (try clear F); have F := M.facts; simp only [FX] at F) | ((with_reducible apply ev_store (M := M)); rfl; rfl; ((conv => lhs; whnf) <;> rfl); rfl; (first | exact siI | exact siR | exact siV | exact siB | exact siSI | exact siSV | exact siW | exact siSR | exact siSO | exact siO); (exact one_all rfl); (repeat (first | with_reducible exact Del.here | with_reducible apply Del.there)); (exact Nat.le_of_ble_eq_true rfl); clear M; intro w1 M; simp only [SX] at M; (try clear F); have F := M.facts; simp only [FX] at F)
    | (go_at_call 131; (apply goal_name (G := fun W => Calls _ _ _ W _)); (repeat (first | with_reducible exact M | with_reducible apply Mem.drew | with_reducible apply Mem.drewN | with_reducible apply Mem.allocD | with_reducible apply Mem.setV | with_reducible apply Mem.setD | with_reducible exact Del.here | with_reducible apply Del.there | with_reducible assumption)); clear M; intro w1 M; (try simp only [LX] at M); (try clear F); have F := M.facts; simp only [FX] at F; refine (HO.out _).mono ?_; rintro e w2 ⟨rfl, hb⟩; replace M := M.below hb; clear hb; (try clear F); have F := M.facts; simp only [FX] at F)
    | (go_at_call 135; (apply goal_name (G := fun W => Calls _ _ _ W _)); (repeat (first | with_reducible exact M | with_reducible apply Mem.drew | with_reducible apply Mem.drewN | with_reducible apply Mem.allocD | with_reducible apply Mem.setV | with_reducible apply Mem.setD | with_reducible exact Del.here | with_reducible apply Del.there | with_reducible assumption)); clear M; intro w1 M; (try simp only [LX] at M); (try clear F); have F := M.facts; simp only [FX] at F; refine (HH.out _ _ M).mono ?_; clear M; rintro e w2 ⟨rfl, M⟩; (try clear F); have F := M.facts; simp only [FX] at F))
  refine wp_loop_rounds 3 ?_
  (refine goal_iter (G := fun W => Code.rounds _ _ _ _ _ W) M ?_; clear M; intro w3 M; (try clear F); have F := M.facts; simp only [FX] at F; simp only [itr_F] at F)
  rw [rounds_succ]
  go_wp2_with (first | (((with_reducible refine goal_alloc (G := fun W => wpList _ _ _ _ _ W) M ?_); clear M; intro w1 M; (try clear F); have F := M.facts; simp only [FX] at F); ((with_reducible apply ev_app1 (enc := encI) (v := r) (hk := encI_length) (hone := oneI') (h0 := by decide) (hinfo := infI) (ht := Tryz.underlying24) (M := M)); rfl; rfl; (repeat (first | with_reducible exact Del.here | with_reducible apply Del.there)); (repeat (first | with_reducible exact Del.here | with_reducible apply Del.there)); rfl; rfl; (exact Nat.le_of_ble_eq_true rfl); (exact Nat.le_of_ble_eq_true rfl); clear M; intro A1 c1 w1 M; replace M := Mem.drop2 M; (simp only [List.nil_append] at M); (try clear F); have F := M.facts; simp only [FX] at F)) | (((with_reducible refine goal_alloc (G := fun W => wpList _ _ _ _ _ W) M ?_); clear M; intro w1 M; (try clear F); have F := M.facts; simp only [FX] at F); ((with_reducible apply ev_app1 (enc := encI) (v := s) (hk := encI_length) (hone := oneI') (h0 := by decide) (hinfo := infI) (ht := Tryz.underlying24) (M := M)); rfl; rfl; (repeat (first | with_reducible exact Del.here | with_reducible apply Del.there)); (repeat (first | with_reducible exact Del.here | with_reducible apply Del.there)); rfl; rfl; (exact Nat.le_of_ble_eq_true rfl); (exact Nat.le_of_ble_eq_true rfl); clear M; intro A1 c1 w1 M; replace M := Mem.drop2 M; (simp only [List.nil_append, List.cons_append] at M); (try clear F); have F := M.facts; simp only [FX] at F)) | ((with_reducible refine goal_alloc (G := fun W => wpList _ _ _ _ _ W) M ?_); clear M; intro w1 M; (try clear F); have F := M.facts; simp only [FX] at F) | ((with_reducible apply ev_next (b := 82) (M := M)); rfl; rfl; (repeat (first | with_reducible exact Del.here | with_reducible apply Del.there)); rfl; (exact Nat.le_of_ble_eq_true rfl); clear M; intro w1 M; (try clear F); have F := M.facts; simp only [FX] at F; (simp only [itr_F] at F)) | ((with_reducible apply ev_next (b := 83) (M := M)); rfl; rfl; (repeat (first | with_reducible exact Del.here | with_reducible apply Del.there)); rfl; (exact Nat.le_of_ble_eq_true rfl); clear M; intro w1 M; (try clear F); have F := M.facts; simp only [FX] at F; (simp only [itr_F] at F)))
  rw [rounds_succ]
  go_wp2_with (first | (((with_reducible refine goal_alloc (G := fun W => wpList _ _ _ _ _ W) M ?_); clear M; intro w1 M; (try clear F); have F := M.facts; simp only [FX] at F); ((with_reducible apply ev_app1 (enc := encI) (v := r) (hk := encI_length) (hone := oneI') (h0 := by decide) (hinfo := infI) (ht := Tryz.underlying24) (M := M)); rfl; rfl; (repeat (first | with_reducible exact Del.here | with_reducible apply Del.there)); (repeat (first | with_reducible exact Del.here | with_reducible apply Del.there)); rfl; rfl; (exact Nat.le_of_ble_eq_true rfl); (exact Nat.le_of_ble_eq_true rfl); clear M; intro A1 c1 w1 M; replace M := Mem.drop2 M; (simp only [List.nil_append, List.cons_append] at M); (try clear F); have F := M.facts; simp only [FX] at F)) | (((with_reducible refine goal_alloc (G := fun W => wpList _ _ _ _ _ W) M ?_); clear M; intro w1 M; (try clear F); have F := M.facts; simp only [FX] at F); ((with_reducible apply ev_app1 (enc := encI) (v := s) (hk := encI_length) (hone := oneI') (h0 := by decide) (hinfo := infI) (ht := Tryz.underlying24) (M := M)); rfl; rfl; (repeat (first | with_reducible exact Del.here | with_reducible apply Del.there)); (repeat (first | with_reducible exact Del.here | with_reducible apply Del.there)); rfl; rfl; (exact Nat.le_of_ble_eq_true rfl); (exact Nat.le_of_ble_eq_true rfl); clear M; intro A1 c1 w1 M; replace M := Mem.drop2 M; (simp only [List.nil_append, List.cons_append] at M); (try clear F); have F := M.facts; simp only [FX] at F)) | ((with_reducible refine goal_alloc (G := fun W => wpList _ _ _ _ _ W) M ?_); clear M; intro w1 M; (try clear F); have F := M.facts; simp only [FX] at F) | ((with_reducible apply ev_next (b := 82) (M := M)); rfl; rfl; (repeat (first | with_reducible exact Del.here | with_reducible apply Del.there)); rfl; (exact Nat.le_of_ble_eq_true rfl); clear M; intro w1 M; (try clear F); have F := M.facts; simp only [FX] at F; (simp only [itr_F] at F)) | ((with_reducible apply ev_next (b := 83) (M := M)); rfl; rfl; (repeat (first | with_reducible exact Del.here | with_reducible apply Del.there)); rfl; (exact Nat.le_of_ble_eq_true rfl); clear M; intro w1 M; (try clear F); have F := M.facts; simp only [FX] at F; (simp only [itr_F] at F)))
  have N2 := nextE2 (W := w1) (g := w2.heap.size) F.2.1.2
  rw [rounds_succ]
  go_wp2
  go_ret
  exact ⟨_, _, rfl, M.drop2.drop2⟩
set_option maxHeartbeats 2000000 in
theorem iUsesR (o : Opx) {w0 w : World} {f : List Nat} {L : List Asn} (M : Mem w0 f w L) (hr : readsOf o.k = ⟨#[82]⟩) (ho : opOk o = true) : Calls Tryz.prog 97 #[.agg (opArr o)] w fun e w' => ∃ (A : Option Addr) (c : Nat), e = .returned (.slice A 1 c) ∧ Mem w0 f w' (rowI A c [o.r] :: L) := by
  have HH := Lib.hid (fun V (L : List Asn) (M : Mem w0 f V L) => iHow o M)
  have HO := Lib.hid (fun V => iOpOk o V)
  rw [ho] at HO
  simp only [howArr, hr] at HH
  have hu := Tryz.underlying9
  replace M := M.nilRow (enc := encI) (m := 1) (t := 3)
  clear hr ho
  obtain ⟨kk, r, s, to, ⟨vk, vn⟩⟩ := o
  simp only [opArr] at HH HO ⊢
  generalize wordOf kk = z1 at HH
  generalize hasOf kk = z2 at HH
  generalize fillsR kk = z4 at HH
  have f2 := fieldM2 z1 z2 ⟨#[82]⟩ z4
  go_enter Tryz.func97, Tryz.ntmps97
  go_wp2_with (first
    | ((with_reducible refine goal_alloc (G := fun W => wpList _ _ _ _ _ W) M ?_); clear M; intro w1 M; (try clear F); have F := M.facts; simp only [FX] at F) | ((with_reducible apply ev_store (M := M)); rfl; rfl; ((conv => lhs; whnf) <;> rfl); rfl; (first | exact siI | exact siR | exact siV | exact siB | exact siSI | exact siSV | exact siW | exact siSR | exact siSO | exact siO); (exact one_all rfl); (repeat (first | with_reducible exact Del.here | with_reducible apply Del.there)); (exact Nat.le_of_ble_eq_true rfl); clear M; intro w1 M; simp only [SX] at M; (try clear F); have F := M.facts; simp only [FX] at F)
    | (go_at_call 131; (apply goal_name (G := fun W => Calls _ _ _ W _)); (repeat (first | with_reducible exact M | with_reducible apply Mem.drew | with_reducible apply Mem.drewN | with_reducible apply Mem.allocD | with_reducible apply Mem.setV | with_reducible apply Mem.setD | with_reducible exact Del.here | with_reducible apply Del.there | with_reducible assumption)); clear M; intro w1 M; (try simp only [LX] at M); (try clear F); have F := M.facts; simp only [FX] at F; refine (HO.out _).mono ?_; rintro e w2 ⟨rfl, hb⟩; replace M := M.below hb; clear hb; (try clear F); have F := M.facts; simp only [FX] at F)
    | (go_at_call 135; (apply goal_name (G := fun W => Calls _ _ _ W _)); (repeat (first | with_reducible exact M | with_reducible apply Mem.drew | with_reducible apply Mem.drewN | with_reducible apply Mem.allocD | with_reducible apply Mem.setV | with_reducible apply Mem.setD | with_reducible exact Del.here | with_reducible apply Del.there | with_reducible assumption)); clear M; intro w1 M; (try simp only [LX] at M); (try clear F); have F := M.facts; simp only [FX] at F; refine (HH.out _ _ M).mono ?_; clear M; rintro e w2 ⟨rfl, M⟩; (try clear F); have F := M.facts; simp only [FX] at F))
  refine wp_loop_rounds 2 ?_
  (refine goal_iter (G := fun W => Code.rounds _ _ _ _ _ W) M ?_; clear M; intro w3 M; (try clear F); have F := M.facts; simp only [FX] at F; simp only [itr_F] at F)
  rw [rounds_succ]
  go_wp2_with (first | (((with_reducible refine goal_alloc (G := fun W => wpList _ _ _ _ _ W) M ?_); clear M; intro w1 M; (try clear F); have F := M.facts; simp only [FX] at F); ((with_reducible apply ev_app1 (enc := encI) (v := r) (hk := encI_length) (hone := oneI') (h0 := by decide) (hinfo := infI) (ht := Tryz.underlying24) (M := M)); rfl; rfl; (repeat (first | with_reducible exact Del.here | with_reducible apply Del.there)); (repeat (first | with_reducible exact Del.here | with_reducible apply Del.there)); rfl; rfl; (exact Nat.le_of_ble_eq_true rfl); (exact Nat.le_of_ble_eq_true rfl); clear M; intro A1 c1 w1 M; replace M := Mem.drop2 M; (simp only [List.nil_append] at M); (try clear F); have F := M.facts; simp only [FX] at F)) | (((with_reducible refine goal_alloc (G := fun W => wpList _ _ _ _ _ W) M ?_); clear M; intro w1 M; (try clear F); have F := M.facts; simp only [FX] at F); ((with_reducible apply ev_app1 (enc := encI) (v := s) (hk := encI_length) (hone := oneI') (h0 := by decide) (hinfo := infI) (ht := Tryz.underlying24) (M := M)); rfl; rfl; (repeat (first | with_reducible exact Del.here | with_reducible apply Del.there)); (repeat (first | with_reducible exact Del.here | with_reducible apply Del.there)); rfl; rfl; (exact Nat.le_of_ble_eq_true rfl); (exact Nat.le_of_ble_eq_true rfl); clear M; intro A1 c1 w1 M; replace M := Mem.drop2 M; (simp only [List.nil_append, List.cons_append] at M); (try clear F); have F := M.facts; simp only [FX] at F)) | ((with_reducible refine goal_alloc (G := fun W => wpList _ _ _ _ _ W) M ?_); clear M; intro w1 M; (try clear F); have F := M.facts; simp only [FX] at F) | ((with_reducible apply ev_next (b := 82) (M := M)); rfl; rfl; (repeat (first | with_reducible exact Del.here | with_reducible apply Del.there)); rfl; (exact Nat.le_of_ble_eq_true rfl); clear M; intro w1 M; (try clear F); have F := M.facts; simp only [FX] at F; (simp only [itr_F] at F)) | ((with_reducible apply ev_next (b := 83) (M := M)); rfl; rfl; (repeat (first | with_reducible exact Del.here | with_reducible apply Del.there)); rfl; (exact Nat.le_of_ble_eq_true rfl); clear M; intro w1 M; (try clear F); have F := M.facts; simp only [FX] at F; (simp only [itr_F] at F)))
  have N2 := nextE1 (W := w1) (g := w2.heap.size) F.2.1.2
  rw [rounds_succ]
  go_wp2
  go_ret
  exact ⟨_, _, rfl, M.drop2.drop2⟩
set_option maxHeartbeats 2000000 in
theorem iUsesS (o : Opx) {w0 w : World} {f : List Nat} {L : List Asn} (M : Mem w0 f w L) (hr : readsOf o.k = ⟨#[83]⟩) (ho : opOk o = true) : Calls Tryz.prog 97 #[.agg (opArr o)] w fun e w' => ∃ (A : Option Addr) (c : Nat), e = .returned (.slice A 1 c) ∧ Mem w0 f w' (rowI A c [o.s] :: L) := by
  have HH := Lib.hid (fun V (L : List Asn) (M : Mem w0 f V L) => iHow o M)
  have HO := Lib.hid (fun V => iOpOk o V)
  rw [ho] at HO
  simp only [howArr, hr] at HH
  have hu := Tryz.underlying9
  replace M := M.nilRow (enc := encI) (m := 1) (t := 3)
  clear hr ho
  obtain ⟨kk, r, s, to, ⟨vk, vn⟩⟩ := o
  simp only [opArr] at HH HO ⊢
  generalize wordOf kk = z1 at HH
  generalize hasOf kk = z2 at HH
  generalize fillsR kk = z4 at HH
  have f2 := fieldM2 z1 z2 ⟨#[83]⟩ z4
  go_enter Tryz.func97, Tryz.ntmps97
  go_wp2_with (first
    | ((with_reducible refine goal_alloc (G := fun W => wpList _ _ _ _ _ W) M ?_); clear M; intro w1 M; (try clear F); have F := M.facts; simp only [FX] at F) | ((with_reducible apply ev_store (M := M)); rfl; rfl; ((conv => lhs; whnf) <;> rfl); rfl; (first | exact siI | exact siR | exact siV | exact siB | exact siSI | exact siSV | exact siW | exact siSR | exact siSO | exact siO); (exact one_all rfl); (repeat (first | with_reducible exact Del.here | with_reducible apply Del.there)); (exact Nat.le_of_ble_eq_true rfl); clear M; intro w1 M; simp only [SX] at M; (try clear F); have F := M.facts; simp only [FX] at F)
    | (go_at_call 131; (apply goal_name (G := fun W => Calls _ _ _ W _)); (repeat (first | with_reducible exact M | with_reducible apply Mem.drew | with_reducible apply Mem.drewN | with_reducible apply Mem.allocD | with_reducible apply Mem.setV | with_reducible apply Mem.setD | with_reducible exact Del.here | with_reducible apply Del.there | with_reducible assumption)); clear M; intro w1 M; (try simp only [LX] at M); (try clear F); have F := M.facts; simp only [FX] at F; refine (HO.out _).mono ?_; rintro e w2 ⟨rfl, hb⟩; replace M := M.below hb; clear hb; (try clear F); have F := M.facts; simp only [FX] at F)
    | (go_at_call 135; (apply goal_name (G := fun W => Calls _ _ _ W _)); (repeat (first | with_reducible exact M | with_reducible apply Mem.drew | with_reducible apply Mem.drewN | with_reducible apply Mem.allocD | with_reducible apply Mem.setV | with_reducible apply Mem.setD | with_reducible exact Del.here | with_reducible apply Del.there | with_reducible assumption)); clear M; intro w1 M; (try simp only [LX] at M); (try clear F); have F := M.facts; simp only [FX] at F; refine (HH.out _ _ M).mono ?_; clear M; rintro e w2 ⟨rfl, M⟩; (try clear F); have F := M.facts; simp only [FX] at F))
  refine wp_loop_rounds 2 ?_
  (refine goal_iter (G := fun W => Code.rounds _ _ _ _ _ W) M ?_; clear M; intro w3 M; (try clear F); have F := M.facts; simp only [FX] at F; simp only [itr_F] at F)
  rw [rounds_succ]
  go_wp2_with (first | (((with_reducible refine goal_alloc (G := fun W => wpList _ _ _ _ _ W) M ?_); clear M; intro w1 M; (try clear F); have F := M.facts; simp only [FX] at F); ((with_reducible apply ev_app1 (enc := encI) (v := r) (hk := encI_length) (hone := oneI') (h0 := by decide) (hinfo := infI) (ht := Tryz.underlying24) (M := M)); rfl; rfl; (repeat (first | with_reducible exact Del.here | with_reducible apply Del.there)); (repeat (first | with_reducible exact Del.here | with_reducible apply Del.there)); rfl; rfl; (exact Nat.le_of_ble_eq_true rfl); (exact Nat.le_of_ble_eq_true rfl); clear M; intro A1 c1 w1 M; replace M := Mem.drop2 M; (simp only [List.nil_append, List.cons_append] at M); (try clear F); have F := M.facts; simp only [FX] at F)) | (((with_reducible refine goal_alloc (G := fun W => wpList _ _ _ _ _ W) M ?_); clear M; intro w1 M; (try clear F); have F := M.facts; simp only [FX] at F); ((with_reducible apply ev_app1 (enc := encI) (v := s) (hk := encI_length) (hone := oneI') (h0 := by decide) (hinfo := infI) (ht := Tryz.underlying24) (M := M)); rfl; rfl; (repeat (first | with_reducible exact Del.here | with_reducible apply Del.there)); (repeat (first | with_reducible exact Del.here | with_reducible apply Del.there)); rfl; rfl; (exact Nat.le_of_ble_eq_true rfl); (exact Nat.le_of_ble_eq_true rfl); clear M; intro A1 c1 w1 M; replace M := Mem.drop2 M; (simp only [List.nil_append] at M); (try clear F); have F := M.facts; simp only [FX] at F)) | ((with_reducible refine goal_alloc (G := fun W => wpList _ _ _ _ _ W) M ?_); clear M; intro w1 M; (try clear F); have F := M.facts; simp only [FX] at F) | ((with_reducible apply ev_next (b := 82) (M := M)); rfl; rfl; (repeat (first | with_reducible exact Del.here | with_reducible apply Del.there)); rfl; (exact Nat.le_of_ble_eq_true rfl); clear M; intro w1 M; (try clear F); have F := M.facts; simp only [FX] at F; (simp only [itr_F] at F)) | ((with_reducible apply ev_next (b := 83) (M := M)); rfl; rfl; (repeat (first | with_reducible exact Del.here | with_reducible apply Del.there)); rfl; (exact Nat.le_of_ble_eq_true rfl); clear M; intro w1 M; (try clear F); have F := M.facts; simp only [FX] at F; (simp only [itr_F] at F)))
  have N2 := nextE1 (W := w1) (g := w2.heap.size) F.2.1.2
  rw [rounds_succ]
  go_wp2
  go_ret
  exact ⟨_, _, rfl, M.drop2.drop2⟩
set_option maxHeartbeats 2000000 in
theorem iUsesN (o : Opx) {w0 w : World} {f : List Nat} {L : List Asn} (M : Mem w0 f w L) (hr : readsOf o.k = ⟨#[]⟩) (ho : opOk o = true) : Calls Tryz.prog 97 #[.agg (opArr o)] w fun e w' => ∃ (A : Option Addr) (c : Nat), e = .returned (.slice A 0 c) ∧ Mem w0 f w' (rowI A c [] :: L) := by
  have HH := Lib.hid (fun V (L : List Asn) (M : Mem w0 f V L) => iHow o M)
  have HO := Lib.hid (fun V => iOpOk o V)
  rw [ho] at HO
  simp only [howArr, hr] at HH
  have hu := Tryz.underlying9
  replace M := M.nilRow (enc := encI) (m := 1) (t := 3)
  clear hr ho
  obtain ⟨kk, r, s, to, ⟨vk, vn⟩⟩ := o
  simp only [opArr] at HH HO ⊢
  generalize wordOf kk = z1 at HH
  generalize hasOf kk = z2 at HH
  generalize fillsR kk = z4 at HH
  have f2 := fieldM2 z1 z2 ⟨#[]⟩ z4
  go_enter Tryz.func97, Tryz.ntmps97
  go_wp2_with (first
    | ((with_reducible refine goal_alloc (G := fun W => wpList _ _ _ _ _ W) M ?_); clear M; intro w1 M; (try clear F); have F := M.facts; simp only [FX] at F) | ((with_reducible apply ev_store (M := M)); rfl; rfl; ((conv => lhs; whnf) <;> rfl); rfl; (first | exact siI | exact siR | exact siV | exact siB | exact siSI | exact siSV | exact siW | exact siSR | exact siSO | exact siO); (exact one_all rfl); (repeat (first | with_reducible exact Del.here | with_reducible apply Del.there)); (exact Nat.le_of_ble_eq_true rfl); clear M; intro w1 M; simp only [SX] at M; (try clear F); have F := M.facts; simp only [FX] at F)
    | (go_at_call 131; (apply goal_name (G := fun W => Calls _ _ _ W _)); (repeat (first | with_reducible exact M | with_reducible apply Mem.drew | with_reducible apply Mem.drewN | with_reducible apply Mem.allocD | with_reducible apply Mem.setV | with_reducible apply Mem.setD | with_reducible exact Del.here | with_reducible apply Del.there | with_reducible assumption)); clear M; intro w1 M; (try simp only [LX] at M); (try clear F); have F := M.facts; simp only [FX] at F; refine (HO.out _).mono ?_; rintro e w2 ⟨rfl, hb⟩; replace M := M.below hb; clear hb; (try clear F); have F := M.facts; simp only [FX] at F)
    | (go_at_call 135; (apply goal_name (G := fun W => Calls _ _ _ W _)); (repeat (first | with_reducible exact M | with_reducible apply Mem.drew | with_reducible apply Mem.drewN | with_reducible apply Mem.allocD | with_reducible apply Mem.setV | with_reducible apply Mem.setD | with_reducible exact Del.here | with_reducible apply Del.there | with_reducible assumption)); clear M; intro w1 M; (try simp only [LX] at M); (try clear F); have F := M.facts; simp only [FX] at F; refine (HH.out _ _ M).mono ?_; clear M; rintro e w2 ⟨rfl, M⟩; (try clear F); have F := M.facts; simp only [FX] at F))
  refine wp_loop_rounds 1 ?_
  (refine goal_iter (G := fun W => Code.rounds _ _ _ _ _ W) M ?_; clear M; intro w3 M; (try clear F); have F := M.facts; simp only [FX] at F; simp only [itr_F] at F)
  have N2 := nextE0 (W := w3) (g := w2.heap.size) F.1.2
  rw [rounds_succ]
  go_wp2
  go_ret
  exact ⟨_, _, rfl, M.drop.drop⟩
theorem reads_of (o : Opx) : (readsOf o.k = ⟨#[83]⟩ ∧ opUses o = [o.s]) ∨ (readsOf o.k = ⟨#[82, 83]⟩ ∧ opUses o = [o.r, o.s]) ∨ (readsOf o.k = ⟨#[82]⟩ ∧ opUses o = [o.r]) ∨ (readsOf o.k = ⟨#[]⟩ ∧ opUses o = []) := by
  obtain ⟨k, r, s, to, v⟩ := o
  simp only
  by_cases h2 : k = 2
  · subst h2; exact .inl ⟨rfl, rfl⟩
  by_cases h3 : k = 3
  · subst h3; exact .inr (.inl ⟨rfl, rfl⟩)
  by_cases h6 : k = 6
  · subst h6; exact .inr (.inl ⟨rfl, rfl⟩)
  by_cases h10 : k = 10
  · subst h10; exact .inr (.inr (.inl ⟨rfl, rfl⟩))
  by_cases h11 : k = 11
  · subst h11; exact .inr (.inr (.inl ⟨rfl, rfl⟩))
  by_cases h12 : k = 12
  · subst h12; exact .inr (.inr (.inl ⟨rfl, rfl⟩))
  by_cases h14 : k = 14
  · subst h14; exact .inr (.inr (.inl ⟨rfl, rfl⟩))
  refine .inr (.inr (.inr ⟨?_, ?_⟩))
  · unfold readsOf
    simp [h2, h3, h6, h10, h11, h12, h14]
  · simp [opUses, h2, h3, h6, h10, h11, h12, h14]
theorem iUses (o : Opx) {w0 w : World} {f : List Nat} {L : List Asn} (M : Mem w0 f w L) (ho : opOk o = true) : Calls Tryz.prog 97 #[.agg (opArr o)] w (UsesPost o w0 f L) := by
  unfold UsesPost
  rcases reads_of o with ⟨h, e⟩ | ⟨h, e⟩ | ⟨h, e⟩ | ⟨h, e⟩ <;> rw [e]
  · exact iUsesS o M h ho
  · exact iUsesRS o M h ho
  · exact iUsesR o M h ho
  · exact iUsesN o M h ho
end Go.Proofs.YtomolbhcggaakaaGreat
