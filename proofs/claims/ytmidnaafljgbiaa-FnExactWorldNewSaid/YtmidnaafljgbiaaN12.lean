/- Parts of the proof, in one text. -/
import Derived.Test.YtmidnaafljgbiaaN11
import Derived.Test.YtmidnaafljgbiaaN05
import Derived.Test.YtmidnaafljgbiaaN04
/- What a step has, by the program's text. -/
namespace Go.Proofs.Ytmidnaafljgbiaa
open Go.RowKit
set_option maxRecDepth 100000

set_option maxHeartbeats 1000000 in
theorem iHowNo (o : Opx) (h : inB o.k 1 14 = false) {w0 w : World} {f : List Nat} {L : List Asn} (M : Mem w0 f w L) : Calls Try.prog 122 #[.agg (opArr o)] w fun e w' => e = .returned (.agg #[.string ⟨#[]⟩, .string ⟨#[]⟩, .string ⟨#[]⟩, .bool false]) ∧ Mem w0 f w' L := by
  have HI := Lib.hid (fun W => iIn o.k 1 14 W)
  rw [h] at HI
  clear h
  obtain ⟨k, r, s, to, ⟨vk, vn⟩⟩ := o
  simp only [opArr] at *
  go_enter Try.func122, Try.ntmps122
  go_wp2_with (first
    | (with_reducible refine alA M ?_; clear M; (try clear F); intro w1 M F) | ((with_reducible apply ev_store (M := M)); rfl; rfl; ((conv => lhs; whnf) <;> rfl); rfl; (exact siM); (exact one_all rfl); (exact dl); (exact Nat.le_of_ble_eq_true rfl); clear M; intro w1 M; simp only [SX] at M; (try clear F); have F := fx M)
    | (go_at_call 75; (refine nmK ?_; clear M; (try clear F); intro w1 M F); refine (HI.out _).mono ?_; rintro e w2 ⟨rfl, rfl⟩))
  apply ret_cell (M := M); rfl; rfl; (exact dl); exact agM; exact siM; rfl
  exact ⟨rfl, M.drop.drop⟩
theorem step_store {P : Program} {Q : Exit → Act → World → Prop} {K : Act → World → Prop} {a : Act} {w0 w : World} {f : List Nat} {L L' : List Asn} {t tb ty : TypeId} {x y : Operand} {pos : String} {after : Array Edge} {gd : Option (Nat × Bool)} {v : Value} {vs cs : List Value} {g off : Nat}
    (hx : a.eval x = .pointer (some ⟨g, off, none⟩)) (hy : a.eval y = v) (hv : v.cells = vs.toArray) (hs : (P.info? t).map (·.size) = some vs.length) (h1 : ∀ u, u ∈ vs → u.oneCell' = true) (M : Mem w0 f w L) (hd : Del (blk g tb cs) L L') (hl : off + vs.length ≤ cs.length)
    (h : ∀ w1, Mem w0 f w1 (blk g tb (splice cs off vs) :: L') → K a w1) : Oper.wp P ⟨none, .store t x y, ty, pos, after, gd⟩ a w K Q := by
  obtain ⟨w1, hr, M1⟩ := run_storeCells (P := P) vs h1 0 w cs (M.pull hd) hl
  obtain ⟨i, hi, hi2⟩ := Option.map_eq_some_iff.1 hs
  have hrun : (execOp a.eval ⟨none, .store t x y, ty, pos, after, gd⟩).run P w = .ok .skip w1 := by
    unfold execOp
    simp only [hx, hy, Instr.storeAt, Instr.sureAddr, storeVar, sizeOf, typeInfo, Sem.run_bind, Sem.run_pure, Result.andThen_ok, run_program, hi, hi2, hv, List.size_toArray, ne_eq, not_true_eq_false, if_false, hr]
  unfold Oper.wp
  rw [hrun]
  exact h w1 M1
end Go.Proofs.Ytmidnaafljgbiaa
/- What a step has, by the program's text: each kind. -/
namespace Go.Proofs.Ytmidnaafljgbiaa
open Go.RowKit
set_option maxRecDepth 100000

set_option maxHeartbeats 1000000 in
theorem iHow1 (r s to vk vn : Int) {w0 w : World} {f : List Nat} {L : List Asn} (M : Mem w0 f w L) : Calls Try.prog 122 #[.agg #[.int .i64 1, .int .i64 r, .int .i64 s, .int .i64 to, .int .i64 vk, .int .i64 vn]] w fun e w' => e = .returned (.agg (howArr 1)) ∧ Mem w0 f w' L := by
  have HI := Lib.hid (fun W => iIn 1 1 14 W)
  rw [show inB 1 1 14 = true by decide] at HI
  have HM := Lib.hid (fun V (L : List Asn) (M : Mem w0 f V L) => iManners M)
  go_enter Try.func122, Try.ntmps122
  go_wp2_with (first
    | (with_reducible refine alA M ?_; clear M; (try clear F); intro w1 M F)
    | (go_at_call 75; (refine nmK ?_; clear M; (try clear F); intro w1 M F); refine (HI.out _).mono ?_; rintro e w2 ⟨rfl, rfl⟩))
  refine held_begin (S := (fun W => ∀ j, W.cell? ⟨w.heap.size, j, none⟩ = ([.int .i64 1, .int .i64 r, .int .i64 s, .int .i64 to, .int .i64 vk, .int .i64 vn] : List Value)[j]?)) (by kernel_rfl) (fun _ _ _ _ _ h => h) (by (exact kc)) (fun HQ hHeld => ?_)
  refine tkY HQ hHeld 1 ?_; refine tkY HQ hHeld 2 ?_
  refine stp 0 (fun K hK => ?_); go_simp
  (go_at_call 136; (refine nmK ?_; clear M; (try clear F); intro w1 M F); refine (HM.out _ _ M).mono ?_; clear M; rintro e w2 ⟨g, rfl, M⟩; (try clear F); have F := fx M)
  (try go_wp2_with fail); refine hK.out _ _ (by (exact kc)) (fun hHeld => ?_); clear hK K; (try simp only [AX])
  refine tkY HQ hHeld 3 ?_
  refine stp 4 (fun K hK => ?_); go_simp
  (try go_wp2_with fail); refine hK.out _ _ (by (exact kc)) (fun hHeld => ?_); clear hK K; (try simp only [AX])
  refine stp 5 (fun K hK => ?_)
  apply step_store (M := M); rfl; rfl; ((conv => lhs; whnf) <;> rfl); exact siM; exact one_all rfl; (exact .there .here); (exact Nat.le_of_ble_eq_true rfl); clear M; intro w3 M; simp only [SX] at M; (try clear F); have F := fx M
  (try go_wp2_with fail); refine hK.out _ _ (by (exact kc)) (fun hHeld => ?_); clear hK K; (try simp only [AX])
  refine wpAnyH_done (by kernel_rfl) ?_ _; clear HQ; (repeat clear hHeld)
  go_wp2
  apply ret_cell (M := M); rfl; rfl; (exact dl); exact agM; exact siM; rfl
  exact ⟨rfl, M.drop.drop.drop⟩
set_option maxHeartbeats 1000000 in
theorem iHow2 (r s to vk vn : Int) {w0 w : World} {f : List Nat} {L : List Asn} (M : Mem w0 f w L) : Calls Try.prog 122 #[.agg #[.int .i64 2, .int .i64 r, .int .i64 s, .int .i64 to, .int .i64 vk, .int .i64 vn]] w fun e w' => e = .returned (.agg (howArr 2)) ∧ Mem w0 f w' L := by
  have HI := Lib.hid (fun W => iIn 2 1 14 W)
  rw [show inB 2 1 14 = true by decide] at HI
  have HM := Lib.hid (fun V (L : List Asn) (M : Mem w0 f V L) => iManners M)
  go_enter Try.func122, Try.ntmps122
  go_wp2_with (first
    | (with_reducible refine alA M ?_; clear M; (try clear F); intro w1 M F)
    | (go_at_call 75; (refine nmK ?_; clear M; (try clear F); intro w1 M F); refine (HI.out _).mono ?_; rintro e w2 ⟨rfl, rfl⟩))
  refine held_begin (S := (fun W => ∀ j, W.cell? ⟨w.heap.size, j, none⟩ = ([.int .i64 2, .int .i64 r, .int .i64 s, .int .i64 to, .int .i64 vk, .int .i64 vn] : List Value)[j]?)) (by kernel_rfl) (fun _ _ _ _ _ h => h) (by (exact kc)) (fun HQ hHeld => ?_)
  refine tkY HQ hHeld 1 ?_; refine tkY HQ hHeld 2 ?_
  refine stp 0 (fun K hK => ?_); go_simp
  (go_at_call 136; (refine nmK ?_; clear M; (try clear F); intro w1 M F); refine (HM.out _ _ M).mono ?_; clear M; rintro e w2 ⟨g, rfl, M⟩; (try clear F); have F := fx M)
  (try go_wp2_with fail); refine hK.out _ _ (by (exact kc)) (fun hHeld => ?_); clear hK K; (try simp only [AX])
  refine tkY HQ hHeld 3 ?_
  refine stp 4 (fun K hK => ?_); go_simp
  (try go_wp2_with fail); refine hK.out _ _ (by (exact kc)) (fun hHeld => ?_); clear hK K; (try simp only [AX])
  refine stp 5 (fun K hK => ?_)
  apply step_store (M := M); rfl; rfl; ((conv => lhs; whnf) <;> rfl); exact siM; exact one_all rfl; (exact .there .here); (exact Nat.le_of_ble_eq_true rfl); clear M; intro w3 M; simp only [SX] at M; (try clear F); have F := fx M
  (try go_wp2_with fail); refine hK.out _ _ (by (exact kc)) (fun hHeld => ?_); clear hK K; (try simp only [AX])
  refine wpAnyH_done (by kernel_rfl) ?_ _; clear HQ; (repeat clear hHeld)
  go_wp2
  apply ret_cell (M := M); rfl; rfl; (exact dl); exact agM; exact siM; rfl
  exact ⟨rfl, M.drop.drop.drop⟩
set_option maxHeartbeats 1000000 in
theorem iHow3 (r s to vk vn : Int) {w0 w : World} {f : List Nat} {L : List Asn} (M : Mem w0 f w L) : Calls Try.prog 122 #[.agg #[.int .i64 3, .int .i64 r, .int .i64 s, .int .i64 to, .int .i64 vk, .int .i64 vn]] w fun e w' => e = .returned (.agg (howArr 3)) ∧ Mem w0 f w' L := by
  have HI := Lib.hid (fun W => iIn 3 1 14 W)
  rw [show inB 3 1 14 = true by decide] at HI
  have HM := Lib.hid (fun V (L : List Asn) (M : Mem w0 f V L) => iManners M)
  go_enter Try.func122, Try.ntmps122
  go_wp2_with (first
    | (with_reducible refine alA M ?_; clear M; (try clear F); intro w1 M F)
    | (go_at_call 75; (refine nmK ?_; clear M; (try clear F); intro w1 M F); refine (HI.out _).mono ?_; rintro e w2 ⟨rfl, rfl⟩))
  refine held_begin (S := (fun W => ∀ j, W.cell? ⟨w.heap.size, j, none⟩ = ([.int .i64 3, .int .i64 r, .int .i64 s, .int .i64 to, .int .i64 vk, .int .i64 vn] : List Value)[j]?)) (by kernel_rfl) (fun _ _ _ _ _ h => h) (by (exact kc)) (fun HQ hHeld => ?_)
  refine tkY HQ hHeld 1 ?_; refine tkY HQ hHeld 2 ?_
  refine stp 0 (fun K hK => ?_); go_simp
  (go_at_call 136; (refine nmK ?_; clear M; (try clear F); intro w1 M F); refine (HM.out _ _ M).mono ?_; clear M; rintro e w2 ⟨g, rfl, M⟩; (try clear F); have F := fx M)
  (try go_wp2_with fail); refine hK.out _ _ (by (exact kc)) (fun hHeld => ?_); clear hK K; (try simp only [AX])
  refine tkY HQ hHeld 3 ?_
  refine stp 4 (fun K hK => ?_); go_simp
  (try go_wp2_with fail); refine hK.out _ _ (by (exact kc)) (fun hHeld => ?_); clear hK K; (try simp only [AX])
  refine stp 5 (fun K hK => ?_)
  apply step_store (M := M); rfl; rfl; ((conv => lhs; whnf) <;> rfl); exact siM; exact one_all rfl; (exact .there .here); (exact Nat.le_of_ble_eq_true rfl); clear M; intro w3 M; simp only [SX] at M; (try clear F); have F := fx M
  (try go_wp2_with fail); refine hK.out _ _ (by (exact kc)) (fun hHeld => ?_); clear hK K; (try simp only [AX])
  refine wpAnyH_done (by kernel_rfl) ?_ _; clear HQ; (repeat clear hHeld)
  go_wp2
  apply ret_cell (M := M); rfl; rfl; (exact dl); exact agM; exact siM; rfl
  exact ⟨rfl, M.drop.drop.drop⟩
set_option maxHeartbeats 1000000 in
theorem iHow4 (r s to vk vn : Int) {w0 w : World} {f : List Nat} {L : List Asn} (M : Mem w0 f w L) : Calls Try.prog 122 #[.agg #[.int .i64 4, .int .i64 r, .int .i64 s, .int .i64 to, .int .i64 vk, .int .i64 vn]] w fun e w' => e = .returned (.agg (howArr 4)) ∧ Mem w0 f w' L := by
  have HI := Lib.hid (fun W => iIn 4 1 14 W)
  rw [show inB 4 1 14 = true by decide] at HI
  have HM := Lib.hid (fun V (L : List Asn) (M : Mem w0 f V L) => iManners M)
  go_enter Try.func122, Try.ntmps122
  go_wp2_with (first
    | (with_reducible refine alA M ?_; clear M; (try clear F); intro w1 M F)
    | (go_at_call 75; (refine nmK ?_; clear M; (try clear F); intro w1 M F); refine (HI.out _).mono ?_; rintro e w2 ⟨rfl, rfl⟩))
  refine held_begin (S := (fun W => ∀ j, W.cell? ⟨w.heap.size, j, none⟩ = ([.int .i64 4, .int .i64 r, .int .i64 s, .int .i64 to, .int .i64 vk, .int .i64 vn] : List Value)[j]?)) (by kernel_rfl) (fun _ _ _ _ _ h => h) (by (exact kc)) (fun HQ hHeld => ?_)
  refine tkY HQ hHeld 1 ?_; refine tkY HQ hHeld 2 ?_
  refine stp 0 (fun K hK => ?_); go_simp
  (go_at_call 136; (refine nmK ?_; clear M; (try clear F); intro w1 M F); refine (HM.out _ _ M).mono ?_; clear M; rintro e w2 ⟨g, rfl, M⟩; (try clear F); have F := fx M)
  (try go_wp2_with fail); refine hK.out _ _ (by (exact kc)) (fun hHeld => ?_); clear hK K; (try simp only [AX])
  refine tkY HQ hHeld 3 ?_
  refine stp 4 (fun K hK => ?_); go_simp
  (try go_wp2_with fail); refine hK.out _ _ (by (exact kc)) (fun hHeld => ?_); clear hK K; (try simp only [AX])
  refine stp 5 (fun K hK => ?_)
  apply step_store (M := M); rfl; rfl; ((conv => lhs; whnf) <;> rfl); exact siM; exact one_all rfl; (exact .there .here); (exact Nat.le_of_ble_eq_true rfl); clear M; intro w3 M; simp only [SX] at M; (try clear F); have F := fx M
  (try go_wp2_with fail); refine hK.out _ _ (by (exact kc)) (fun hHeld => ?_); clear hK K; (try simp only [AX])
  refine wpAnyH_done (by kernel_rfl) ?_ _; clear HQ; (repeat clear hHeld)
  go_wp2
  apply ret_cell (M := M); rfl; rfl; (exact dl); exact agM; exact siM; rfl
  exact ⟨rfl, M.drop.drop.drop⟩
set_option maxHeartbeats 1000000 in
theorem iHow5 (r s to vk vn : Int) {w0 w : World} {f : List Nat} {L : List Asn} (M : Mem w0 f w L) : Calls Try.prog 122 #[.agg #[.int .i64 5, .int .i64 r, .int .i64 s, .int .i64 to, .int .i64 vk, .int .i64 vn]] w fun e w' => e = .returned (.agg (howArr 5)) ∧ Mem w0 f w' L := by
  have HI := Lib.hid (fun W => iIn 5 1 14 W)
  rw [show inB 5 1 14 = true by decide] at HI
  have HM := Lib.hid (fun V (L : List Asn) (M : Mem w0 f V L) => iManners M)
  go_enter Try.func122, Try.ntmps122
  go_wp2_with (first
    | (with_reducible refine alA M ?_; clear M; (try clear F); intro w1 M F)
    | (go_at_call 75; (refine nmK ?_; clear M; (try clear F); intro w1 M F); refine (HI.out _).mono ?_; rintro e w2 ⟨rfl, rfl⟩))
  refine held_begin (S := (fun W => ∀ j, W.cell? ⟨w.heap.size, j, none⟩ = ([.int .i64 5, .int .i64 r, .int .i64 s, .int .i64 to, .int .i64 vk, .int .i64 vn] : List Value)[j]?)) (by kernel_rfl) (fun _ _ _ _ _ h => h) (by (exact kc)) (fun HQ hHeld => ?_)
  refine tkY HQ hHeld 1 ?_; refine tkY HQ hHeld 2 ?_
  refine stp 0 (fun K hK => ?_); go_simp
  (go_at_call 136; (refine nmK ?_; clear M; (try clear F); intro w1 M F); refine (HM.out _ _ M).mono ?_; clear M; rintro e w2 ⟨g, rfl, M⟩; (try clear F); have F := fx M)
  (try go_wp2_with fail); refine hK.out _ _ (by (exact kc)) (fun hHeld => ?_); clear hK K; (try simp only [AX])
  refine tkY HQ hHeld 3 ?_
  refine stp 4 (fun K hK => ?_); go_simp
  (try go_wp2_with fail); refine hK.out _ _ (by (exact kc)) (fun hHeld => ?_); clear hK K; (try simp only [AX])
  refine stp 5 (fun K hK => ?_)
  apply step_store (M := M); rfl; rfl; ((conv => lhs; whnf) <;> rfl); exact siM; exact one_all rfl; (exact .there .here); (exact Nat.le_of_ble_eq_true rfl); clear M; intro w3 M; simp only [SX] at M; (try clear F); have F := fx M
  (try go_wp2_with fail); refine hK.out _ _ (by (exact kc)) (fun hHeld => ?_); clear hK K; (try simp only [AX])
  refine wpAnyH_done (by kernel_rfl) ?_ _; clear HQ; (repeat clear hHeld)
  go_wp2
  apply ret_cell (M := M); rfl; rfl; (exact dl); exact agM; exact siM; rfl
  exact ⟨rfl, M.drop.drop.drop⟩
set_option maxHeartbeats 1000000 in
theorem iHow6 (r s to vk vn : Int) {w0 w : World} {f : List Nat} {L : List Asn} (M : Mem w0 f w L) : Calls Try.prog 122 #[.agg #[.int .i64 6, .int .i64 r, .int .i64 s, .int .i64 to, .int .i64 vk, .int .i64 vn]] w fun e w' => e = .returned (.agg (howArr 6)) ∧ Mem w0 f w' L := by
  have HI := Lib.hid (fun W => iIn 6 1 14 W)
  rw [show inB 6 1 14 = true by decide] at HI
  have HM := Lib.hid (fun V (L : List Asn) (M : Mem w0 f V L) => iManners M)
  go_enter Try.func122, Try.ntmps122
  go_wp2_with (first
    | (with_reducible refine alA M ?_; clear M; (try clear F); intro w1 M F)
    | (go_at_call 75; (refine nmK ?_; clear M; (try clear F); intro w1 M F); refine (HI.out _).mono ?_; rintro e w2 ⟨rfl, rfl⟩))
  refine held_begin (S := (fun W => ∀ j, W.cell? ⟨w.heap.size, j, none⟩ = ([.int .i64 6, .int .i64 r, .int .i64 s, .int .i64 to, .int .i64 vk, .int .i64 vn] : List Value)[j]?)) (by kernel_rfl) (fun _ _ _ _ _ h => h) (by (exact kc)) (fun HQ hHeld => ?_)
  refine tkY HQ hHeld 1 ?_; refine tkY HQ hHeld 2 ?_
  refine stp 0 (fun K hK => ?_); go_simp
  (go_at_call 136; (refine nmK ?_; clear M; (try clear F); intro w1 M F); refine (HM.out _ _ M).mono ?_; clear M; rintro e w2 ⟨g, rfl, M⟩; (try clear F); have F := fx M)
  (try go_wp2_with fail); refine hK.out _ _ (by (exact kc)) (fun hHeld => ?_); clear hK K; (try simp only [AX])
  refine tkY HQ hHeld 3 ?_
  refine stp 4 (fun K hK => ?_); go_simp
  (try go_wp2_with fail); refine hK.out _ _ (by (exact kc)) (fun hHeld => ?_); clear hK K; (try simp only [AX])
  refine stp 5 (fun K hK => ?_)
  apply step_store (M := M); rfl; rfl; ((conv => lhs; whnf) <;> rfl); exact siM; exact one_all rfl; (exact .there .here); (exact Nat.le_of_ble_eq_true rfl); clear M; intro w3 M; simp only [SX] at M; (try clear F); have F := fx M
  (try go_wp2_with fail); refine hK.out _ _ (by (exact kc)) (fun hHeld => ?_); clear hK K; (try simp only [AX])
  refine wpAnyH_done (by kernel_rfl) ?_ _; clear HQ; (repeat clear hHeld)
  go_wp2
  apply ret_cell (M := M); rfl; rfl; (exact dl); exact agM; exact siM; rfl
  exact ⟨rfl, M.drop.drop.drop⟩
set_option maxHeartbeats 1000000 in
theorem iHow7 (r s to vk vn : Int) {w0 w : World} {f : List Nat} {L : List Asn} (M : Mem w0 f w L) : Calls Try.prog 122 #[.agg #[.int .i64 7, .int .i64 r, .int .i64 s, .int .i64 to, .int .i64 vk, .int .i64 vn]] w fun e w' => e = .returned (.agg (howArr 7)) ∧ Mem w0 f w' L := by
  have HI := Lib.hid (fun W => iIn 7 1 14 W)
  rw [show inB 7 1 14 = true by decide] at HI
  have HM := Lib.hid (fun V (L : List Asn) (M : Mem w0 f V L) => iManners M)
  go_enter Try.func122, Try.ntmps122
  go_wp2_with (first
    | (with_reducible refine alA M ?_; clear M; (try clear F); intro w1 M F)
    | (go_at_call 75; (refine nmK ?_; clear M; (try clear F); intro w1 M F); refine (HI.out _).mono ?_; rintro e w2 ⟨rfl, rfl⟩))
  refine held_begin (S := (fun W => ∀ j, W.cell? ⟨w.heap.size, j, none⟩ = ([.int .i64 7, .int .i64 r, .int .i64 s, .int .i64 to, .int .i64 vk, .int .i64 vn] : List Value)[j]?)) (by kernel_rfl) (fun _ _ _ _ _ h => h) (by (exact kc)) (fun HQ hHeld => ?_)
  refine tkY HQ hHeld 1 ?_; refine tkY HQ hHeld 2 ?_
  refine stp 0 (fun K hK => ?_); go_simp
  (go_at_call 136; (refine nmK ?_; clear M; (try clear F); intro w1 M F); refine (HM.out _ _ M).mono ?_; clear M; rintro e w2 ⟨g, rfl, M⟩; (try clear F); have F := fx M)
  (try go_wp2_with fail); refine hK.out _ _ (by (exact kc)) (fun hHeld => ?_); clear hK K; (try simp only [AX])
  refine tkY HQ hHeld 3 ?_
  refine stp 4 (fun K hK => ?_); go_simp
  (try go_wp2_with fail); refine hK.out _ _ (by (exact kc)) (fun hHeld => ?_); clear hK K; (try simp only [AX])
  refine stp 5 (fun K hK => ?_)
  apply step_store (M := M); rfl; rfl; ((conv => lhs; whnf) <;> rfl); exact siM; exact one_all rfl; (exact .there .here); (exact Nat.le_of_ble_eq_true rfl); clear M; intro w3 M; simp only [SX] at M; (try clear F); have F := fx M
  (try go_wp2_with fail); refine hK.out _ _ (by (exact kc)) (fun hHeld => ?_); clear hK K; (try simp only [AX])
  refine wpAnyH_done (by kernel_rfl) ?_ _; clear HQ; (repeat clear hHeld)
  go_wp2
  apply ret_cell (M := M); rfl; rfl; (exact dl); exact agM; exact siM; rfl
  exact ⟨rfl, M.drop.drop.drop⟩
set_option maxHeartbeats 1000000 in
theorem iHow8 (r s to vk vn : Int) {w0 w : World} {f : List Nat} {L : List Asn} (M : Mem w0 f w L) : Calls Try.prog 122 #[.agg #[.int .i64 8, .int .i64 r, .int .i64 s, .int .i64 to, .int .i64 vk, .int .i64 vn]] w fun e w' => e = .returned (.agg (howArr 8)) ∧ Mem w0 f w' L := by
  have HI := Lib.hid (fun W => iIn 8 1 14 W)
  rw [show inB 8 1 14 = true by decide] at HI
  have HM := Lib.hid (fun V (L : List Asn) (M : Mem w0 f V L) => iManners M)
  go_enter Try.func122, Try.ntmps122
  go_wp2_with (first
    | (with_reducible refine alA M ?_; clear M; (try clear F); intro w1 M F)
    | (go_at_call 75; (refine nmK ?_; clear M; (try clear F); intro w1 M F); refine (HI.out _).mono ?_; rintro e w2 ⟨rfl, rfl⟩))
  refine held_begin (S := (fun W => ∀ j, W.cell? ⟨w.heap.size, j, none⟩ = ([.int .i64 8, .int .i64 r, .int .i64 s, .int .i64 to, .int .i64 vk, .int .i64 vn] : List Value)[j]?)) (by kernel_rfl) (fun _ _ _ _ _ h => h) (by (exact kc)) (fun HQ hHeld => ?_)
  refine tkY HQ hHeld 1 ?_; refine tkY HQ hHeld 2 ?_
  refine stp 0 (fun K hK => ?_); go_simp
  (go_at_call 136; (refine nmK ?_; clear M; (try clear F); intro w1 M F); refine (HM.out _ _ M).mono ?_; clear M; rintro e w2 ⟨g, rfl, M⟩; (try clear F); have F := fx M)
  (try go_wp2_with fail); refine hK.out _ _ (by (exact kc)) (fun hHeld => ?_); clear hK K; (try simp only [AX])
  refine tkY HQ hHeld 3 ?_
  refine stp 4 (fun K hK => ?_); go_simp
  (try go_wp2_with fail); refine hK.out _ _ (by (exact kc)) (fun hHeld => ?_); clear hK K; (try simp only [AX])
  refine stp 5 (fun K hK => ?_)
  apply step_store (M := M); rfl; rfl; ((conv => lhs; whnf) <;> rfl); exact siM; exact one_all rfl; (exact .there .here); (exact Nat.le_of_ble_eq_true rfl); clear M; intro w3 M; simp only [SX] at M; (try clear F); have F := fx M
  (try go_wp2_with fail); refine hK.out _ _ (by (exact kc)) (fun hHeld => ?_); clear hK K; (try simp only [AX])
  refine wpAnyH_done (by kernel_rfl) ?_ _; clear HQ; (repeat clear hHeld)
  go_wp2
  apply ret_cell (M := M); rfl; rfl; (exact dl); exact agM; exact siM; rfl
  exact ⟨rfl, M.drop.drop.drop⟩
set_option maxHeartbeats 1000000 in
theorem iHow9 (r s to vk vn : Int) {w0 w : World} {f : List Nat} {L : List Asn} (M : Mem w0 f w L) : Calls Try.prog 122 #[.agg #[.int .i64 9, .int .i64 r, .int .i64 s, .int .i64 to, .int .i64 vk, .int .i64 vn]] w fun e w' => e = .returned (.agg (howArr 9)) ∧ Mem w0 f w' L := by
  have HI := Lib.hid (fun W => iIn 9 1 14 W)
  rw [show inB 9 1 14 = true by decide] at HI
  have HM := Lib.hid (fun V (L : List Asn) (M : Mem w0 f V L) => iManners M)
  go_enter Try.func122, Try.ntmps122
  go_wp2_with (first
    | (with_reducible refine alA M ?_; clear M; (try clear F); intro w1 M F)
    | (go_at_call 75; (refine nmK ?_; clear M; (try clear F); intro w1 M F); refine (HI.out _).mono ?_; rintro e w2 ⟨rfl, rfl⟩))
  refine held_begin (S := (fun W => ∀ j, W.cell? ⟨w.heap.size, j, none⟩ = ([.int .i64 9, .int .i64 r, .int .i64 s, .int .i64 to, .int .i64 vk, .int .i64 vn] : List Value)[j]?)) (by kernel_rfl) (fun _ _ _ _ _ h => h) (by (exact kc)) (fun HQ hHeld => ?_)
  refine tkY HQ hHeld 1 ?_; refine tkY HQ hHeld 2 ?_
  refine stp 0 (fun K hK => ?_); go_simp
  (go_at_call 136; (refine nmK ?_; clear M; (try clear F); intro w1 M F); refine (HM.out _ _ M).mono ?_; clear M; rintro e w2 ⟨g, rfl, M⟩; (try clear F); have F := fx M)
  (try go_wp2_with fail); refine hK.out _ _ (by (exact kc)) (fun hHeld => ?_); clear hK K; (try simp only [AX])
  refine tkY HQ hHeld 3 ?_
  refine stp 4 (fun K hK => ?_); go_simp
  (try go_wp2_with fail); refine hK.out _ _ (by (exact kc)) (fun hHeld => ?_); clear hK K; (try simp only [AX])
  refine stp 5 (fun K hK => ?_)
  apply step_store (M := M); rfl; rfl; ((conv => lhs; whnf) <;> rfl); exact siM; exact one_all rfl; (exact .there .here); (exact Nat.le_of_ble_eq_true rfl); clear M; intro w3 M; simp only [SX] at M; (try clear F); have F := fx M
  (try go_wp2_with fail); refine hK.out _ _ (by (exact kc)) (fun hHeld => ?_); clear hK K; (try simp only [AX])
  refine wpAnyH_done (by kernel_rfl) ?_ _; clear HQ; (repeat clear hHeld)
  go_wp2
  apply ret_cell (M := M); rfl; rfl; (exact dl); exact agM; exact siM; rfl
  exact ⟨rfl, M.drop.drop.drop⟩
set_option maxHeartbeats 1000000 in
theorem iHow10 (r s to vk vn : Int) {w0 w : World} {f : List Nat} {L : List Asn} (M : Mem w0 f w L) : Calls Try.prog 122 #[.agg #[.int .i64 10, .int .i64 r, .int .i64 s, .int .i64 to, .int .i64 vk, .int .i64 vn]] w fun e w' => e = .returned (.agg (howArr 10)) ∧ Mem w0 f w' L := by
  have HI := Lib.hid (fun W => iIn 10 1 14 W)
  rw [show inB 10 1 14 = true by decide] at HI
  have HM := Lib.hid (fun V (L : List Asn) (M : Mem w0 f V L) => iManners M)
  go_enter Try.func122, Try.ntmps122
  go_wp2_with (first
    | (with_reducible refine alA M ?_; clear M; (try clear F); intro w1 M F)
    | (go_at_call 75; (refine nmK ?_; clear M; (try clear F); intro w1 M F); refine (HI.out _).mono ?_; rintro e w2 ⟨rfl, rfl⟩))
  refine held_begin (S := (fun W => ∀ j, W.cell? ⟨w.heap.size, j, none⟩ = ([.int .i64 10, .int .i64 r, .int .i64 s, .int .i64 to, .int .i64 vk, .int .i64 vn] : List Value)[j]?)) (by kernel_rfl) (fun _ _ _ _ _ h => h) (by (exact kc)) (fun HQ hHeld => ?_)
  refine tkY HQ hHeld 1 ?_; refine tkY HQ hHeld 2 ?_
  refine stp 0 (fun K hK => ?_); go_simp
  (go_at_call 136; (refine nmK ?_; clear M; (try clear F); intro w1 M F); refine (HM.out _ _ M).mono ?_; clear M; rintro e w2 ⟨g, rfl, M⟩; (try clear F); have F := fx M)
  (try go_wp2_with fail); refine hK.out _ _ (by (exact kc)) (fun hHeld => ?_); clear hK K; (try simp only [AX])
  refine tkY HQ hHeld 3 ?_
  refine stp 4 (fun K hK => ?_); go_simp
  (try go_wp2_with fail); refine hK.out _ _ (by (exact kc)) (fun hHeld => ?_); clear hK K; (try simp only [AX])
  refine stp 5 (fun K hK => ?_)
  apply step_store (M := M); rfl; rfl; ((conv => lhs; whnf) <;> rfl); exact siM; exact one_all rfl; (exact .there .here); (exact Nat.le_of_ble_eq_true rfl); clear M; intro w3 M; simp only [SX] at M; (try clear F); have F := fx M
  (try go_wp2_with fail); refine hK.out _ _ (by (exact kc)) (fun hHeld => ?_); clear hK K; (try simp only [AX])
  refine wpAnyH_done (by kernel_rfl) ?_ _; clear HQ; (repeat clear hHeld)
  go_wp2
  apply ret_cell (M := M); rfl; rfl; (exact dl); exact agM; exact siM; rfl
  exact ⟨rfl, M.drop.drop.drop⟩
set_option maxHeartbeats 1000000 in
theorem iHow11 (r s to vk vn : Int) {w0 w : World} {f : List Nat} {L : List Asn} (M : Mem w0 f w L) : Calls Try.prog 122 #[.agg #[.int .i64 11, .int .i64 r, .int .i64 s, .int .i64 to, .int .i64 vk, .int .i64 vn]] w fun e w' => e = .returned (.agg (howArr 11)) ∧ Mem w0 f w' L := by
  have HI := Lib.hid (fun W => iIn 11 1 14 W)
  rw [show inB 11 1 14 = true by decide] at HI
  have HM := Lib.hid (fun V (L : List Asn) (M : Mem w0 f V L) => iManners M)
  go_enter Try.func122, Try.ntmps122
  go_wp2_with (first
    | (with_reducible refine alA M ?_; clear M; (try clear F); intro w1 M F)
    | (go_at_call 75; (refine nmK ?_; clear M; (try clear F); intro w1 M F); refine (HI.out _).mono ?_; rintro e w2 ⟨rfl, rfl⟩))
  refine held_begin (S := (fun W => ∀ j, W.cell? ⟨w.heap.size, j, none⟩ = ([.int .i64 11, .int .i64 r, .int .i64 s, .int .i64 to, .int .i64 vk, .int .i64 vn] : List Value)[j]?)) (by kernel_rfl) (fun _ _ _ _ _ h => h) (by (exact kc)) (fun HQ hHeld => ?_)
  refine tkY HQ hHeld 1 ?_; refine tkY HQ hHeld 2 ?_
  refine stp 0 (fun K hK => ?_); go_simp
  (go_at_call 136; (refine nmK ?_; clear M; (try clear F); intro w1 M F); refine (HM.out _ _ M).mono ?_; clear M; rintro e w2 ⟨g, rfl, M⟩; (try clear F); have F := fx M)
  (try go_wp2_with fail); refine hK.out _ _ (by (exact kc)) (fun hHeld => ?_); clear hK K; (try simp only [AX])
  refine tkY HQ hHeld 3 ?_
  refine stp 4 (fun K hK => ?_); go_simp
  (try go_wp2_with fail); refine hK.out _ _ (by (exact kc)) (fun hHeld => ?_); clear hK K; (try simp only [AX])
  refine stp 5 (fun K hK => ?_)
  apply step_store (M := M); rfl; rfl; ((conv => lhs; whnf) <;> rfl); exact siM; exact one_all rfl; (exact .there .here); (exact Nat.le_of_ble_eq_true rfl); clear M; intro w3 M; simp only [SX] at M; (try clear F); have F := fx M
  (try go_wp2_with fail); refine hK.out _ _ (by (exact kc)) (fun hHeld => ?_); clear hK K; (try simp only [AX])
  refine wpAnyH_done (by kernel_rfl) ?_ _; clear HQ; (repeat clear hHeld)
  go_wp2
  apply ret_cell (M := M); rfl; rfl; (exact dl); exact agM; exact siM; rfl
  exact ⟨rfl, M.drop.drop.drop⟩
set_option maxHeartbeats 1000000 in
theorem iHow12 (r s to vk vn : Int) {w0 w : World} {f : List Nat} {L : List Asn} (M : Mem w0 f w L) : Calls Try.prog 122 #[.agg #[.int .i64 12, .int .i64 r, .int .i64 s, .int .i64 to, .int .i64 vk, .int .i64 vn]] w fun e w' => e = .returned (.agg (howArr 12)) ∧ Mem w0 f w' L := by
  have HI := Lib.hid (fun W => iIn 12 1 14 W)
  rw [show inB 12 1 14 = true by decide] at HI
  have HM := Lib.hid (fun V (L : List Asn) (M : Mem w0 f V L) => iManners M)
  go_enter Try.func122, Try.ntmps122
  go_wp2_with (first
    | (with_reducible refine alA M ?_; clear M; (try clear F); intro w1 M F)
    | (go_at_call 75; (refine nmK ?_; clear M; (try clear F); intro w1 M F); refine (HI.out _).mono ?_; rintro e w2 ⟨rfl, rfl⟩))
  refine held_begin (S := (fun W => ∀ j, W.cell? ⟨w.heap.size, j, none⟩ = ([.int .i64 12, .int .i64 r, .int .i64 s, .int .i64 to, .int .i64 vk, .int .i64 vn] : List Value)[j]?)) (by kernel_rfl) (fun _ _ _ _ _ h => h) (by (exact kc)) (fun HQ hHeld => ?_)
  refine tkY HQ hHeld 1 ?_; refine tkY HQ hHeld 2 ?_
  refine stp 0 (fun K hK => ?_); go_simp
  (go_at_call 136; (refine nmK ?_; clear M; (try clear F); intro w1 M F); refine (HM.out _ _ M).mono ?_; clear M; rintro e w2 ⟨g, rfl, M⟩; (try clear F); have F := fx M)
  (try go_wp2_with fail); refine hK.out _ _ (by (exact kc)) (fun hHeld => ?_); clear hK K; (try simp only [AX])
  refine tkY HQ hHeld 3 ?_
  refine stp 4 (fun K hK => ?_); go_simp
  (try go_wp2_with fail); refine hK.out _ _ (by (exact kc)) (fun hHeld => ?_); clear hK K; (try simp only [AX])
  refine stp 5 (fun K hK => ?_)
  apply step_store (M := M); rfl; rfl; ((conv => lhs; whnf) <;> rfl); exact siM; exact one_all rfl; (exact .there .here); (exact Nat.le_of_ble_eq_true rfl); clear M; intro w3 M; simp only [SX] at M; (try clear F); have F := fx M
  (try go_wp2_with fail); refine hK.out _ _ (by (exact kc)) (fun hHeld => ?_); clear hK K; (try simp only [AX])
  refine wpAnyH_done (by kernel_rfl) ?_ _; clear HQ; (repeat clear hHeld)
  go_wp2
  apply ret_cell (M := M); rfl; rfl; (exact dl); exact agM; exact siM; rfl
  exact ⟨rfl, M.drop.drop.drop⟩
set_option maxHeartbeats 1000000 in
theorem iHow13 (r s to vk vn : Int) {w0 w : World} {f : List Nat} {L : List Asn} (M : Mem w0 f w L) : Calls Try.prog 122 #[.agg #[.int .i64 13, .int .i64 r, .int .i64 s, .int .i64 to, .int .i64 vk, .int .i64 vn]] w fun e w' => e = .returned (.agg (howArr 13)) ∧ Mem w0 f w' L := by
  have HI := Lib.hid (fun W => iIn 13 1 14 W)
  rw [show inB 13 1 14 = true by decide] at HI
  have HM := Lib.hid (fun V (L : List Asn) (M : Mem w0 f V L) => iManners M)
  go_enter Try.func122, Try.ntmps122
  go_wp2_with (first
    | (with_reducible refine alA M ?_; clear M; (try clear F); intro w1 M F)
    | (go_at_call 75; (refine nmK ?_; clear M; (try clear F); intro w1 M F); refine (HI.out _).mono ?_; rintro e w2 ⟨rfl, rfl⟩))
  refine held_begin (S := (fun W => ∀ j, W.cell? ⟨w.heap.size, j, none⟩ = ([.int .i64 13, .int .i64 r, .int .i64 s, .int .i64 to, .int .i64 vk, .int .i64 vn] : List Value)[j]?)) (by kernel_rfl) (fun _ _ _ _ _ h => h) (by (exact kc)) (fun HQ hHeld => ?_)
  refine tkY HQ hHeld 1 ?_; refine tkY HQ hHeld 2 ?_
  refine stp 0 (fun K hK => ?_); go_simp
  (go_at_call 136; (refine nmK ?_; clear M; (try clear F); intro w1 M F); refine (HM.out _ _ M).mono ?_; clear M; rintro e w2 ⟨g, rfl, M⟩; (try clear F); have F := fx M)
  (try go_wp2_with fail); refine hK.out _ _ (by (exact kc)) (fun hHeld => ?_); clear hK K; (try simp only [AX])
  refine tkY HQ hHeld 3 ?_
  refine stp 4 (fun K hK => ?_); go_simp
  (try go_wp2_with fail); refine hK.out _ _ (by (exact kc)) (fun hHeld => ?_); clear hK K; (try simp only [AX])
  refine stp 5 (fun K hK => ?_)
  apply step_store (M := M); rfl; rfl; ((conv => lhs; whnf) <;> rfl); exact siM; exact one_all rfl; (exact .there .here); (exact Nat.le_of_ble_eq_true rfl); clear M; intro w3 M; simp only [SX] at M; (try clear F); have F := fx M
  (try go_wp2_with fail); refine hK.out _ _ (by (exact kc)) (fun hHeld => ?_); clear hK K; (try simp only [AX])
  refine wpAnyH_done (by kernel_rfl) ?_ _; clear HQ; (repeat clear hHeld)
  go_wp2
  apply ret_cell (M := M); rfl; rfl; (exact dl); exact agM; exact siM; rfl
  exact ⟨rfl, M.drop.drop.drop⟩
set_option maxHeartbeats 1000000 in
theorem iHow14 (r s to vk vn : Int) {w0 w : World} {f : List Nat} {L : List Asn} (M : Mem w0 f w L) : Calls Try.prog 122 #[.agg #[.int .i64 14, .int .i64 r, .int .i64 s, .int .i64 to, .int .i64 vk, .int .i64 vn]] w fun e w' => e = .returned (.agg (howArr 14)) ∧ Mem w0 f w' L := by
  have HI := Lib.hid (fun W => iIn 14 1 14 W)
  rw [show inB 14 1 14 = true by decide] at HI
  have HM := Lib.hid (fun V (L : List Asn) (M : Mem w0 f V L) => iManners M)
  go_enter Try.func122, Try.ntmps122
  go_wp2_with (first
    | (with_reducible refine alA M ?_; clear M; (try clear F); intro w1 M F)
    | (go_at_call 75; (refine nmK ?_; clear M; (try clear F); intro w1 M F); refine (HI.out _).mono ?_; rintro e w2 ⟨rfl, rfl⟩))
  refine held_begin (S := (fun W => ∀ j, W.cell? ⟨w.heap.size, j, none⟩ = ([.int .i64 14, .int .i64 r, .int .i64 s, .int .i64 to, .int .i64 vk, .int .i64 vn] : List Value)[j]?)) (by kernel_rfl) (fun _ _ _ _ _ h => h) (by (exact kc)) (fun HQ hHeld => ?_)
  refine tkY HQ hHeld 1 ?_; refine tkY HQ hHeld 2 ?_
  refine stp 0 (fun K hK => ?_); go_simp
  (go_at_call 136; (refine nmK ?_; clear M; (try clear F); intro w1 M F); refine (HM.out _ _ M).mono ?_; clear M; rintro e w2 ⟨g, rfl, M⟩; (try clear F); have F := fx M)
  (try go_wp2_with fail); refine hK.out _ _ (by (exact kc)) (fun hHeld => ?_); clear hK K; (try simp only [AX])
  refine tkY HQ hHeld 3 ?_
  refine stp 4 (fun K hK => ?_); go_simp
  (try go_wp2_with fail); refine hK.out _ _ (by (exact kc)) (fun hHeld => ?_); clear hK K; (try simp only [AX])
  refine stp 5 (fun K hK => ?_)
  apply step_store (M := M); rfl; rfl; ((conv => lhs; whnf) <;> rfl); exact siM; exact one_all rfl; (exact .there .here); (exact Nat.le_of_ble_eq_true rfl); clear M; intro w3 M; simp only [SX] at M; (try clear F); have F := fx M
  (try go_wp2_with fail); refine hK.out _ _ (by (exact kc)) (fun hHeld => ?_); clear hK K; (try simp only [AX])
  refine wpAnyH_done (by kernel_rfl) ?_ _; clear HQ; (repeat clear hHeld)
  go_wp2
  apply ret_cell (M := M); rfl; rfl; (exact dl); exact agM; exact siM; rfl
  exact ⟨rfl, M.drop.drop.drop⟩
theorem how_none {k : Int} (h : inB k 1 14 = false) : howArr k = #[.string ⟨#[]⟩, .string ⟨#[]⟩, .string ⟨#[]⟩, .bool false] := by
  have hn : ¬ (1 ≤ k ∧ k ≤ 14) := fun hh => by rw [inB_iff.2 hh] at h; cases h
  have e : ∀ c : Int, 1 ≤ c → c ≤ 14 → ¬ k = c := fun c h1 h2 e => hn (by omega)
  unfold howArr wordOf hasOf readsOf fillsR
  simp only [e 1 (by decide) (by decide), e 2 (by decide) (by decide), e 3 (by decide) (by decide), e 4 (by decide) (by decide), e 5 (by decide) (by decide), e 6 (by decide) (by decide), e 7 (by decide) (by decide), e 8 (by decide) (by decide), e 9 (by decide) (by decide), e 10 (by decide) (by decide), e 11 (by decide) (by decide), e 12 (by decide) (by decide), e 13 (by decide) (by decide), e 14 (by decide) (by decide), if_false]
  have b : ∀ c : Int, 1 ≤ c → c ≤ 14 → (k == c) = false := fun c h1 h2 => beq_eq_false_iff_ne.2 (e c h1 h2)
  rw [b 1 (by decide) (by decide), b 2 (by decide) (by decide), b 4 (by decide) (by decide), b 5 (by decide) (by decide), b 7 (by decide) (by decide), b 8 (by decide) (by decide)]
  rfl
theorem iHow (o : Opx) {w0 w : World} {f : List Nat} {L : List Asn} (M : Mem w0 f w L) : Calls Try.prog 122 #[.agg (opArr o)] w fun e w' => e = .returned (.agg (howArr o.k)) ∧ Mem w0 f w' L := by
  cases h : inB o.k 1 14 with
  | false =>
    rw [how_none h]
    exact iHowNo o h M
  | true =>
    have hk := inB_iff.1 h
    obtain ⟨k, r, s, to, ⟨vk, vn⟩⟩ := o
    simp only at hk
    have hc : k = 1 ∨ k = 2 ∨ k = 3 ∨ k = 4 ∨ k = 5 ∨ k = 6 ∨ k = 7 ∨ k = 8 ∨ k = 9 ∨ k = 10 ∨ k = 11 ∨ k = 12 ∨ k = 13 ∨ k = 14 := by omega
    rcases hc with rfl | rfl | rfl | rfl | rfl | rfl | rfl | rfl | rfl | rfl | rfl | rfl | rfl | rfl
    · exact iHow1 r s to vk vn M
    · exact iHow2 r s to vk vn M
    · exact iHow3 r s to vk vn M
    · exact iHow4 r s to vk vn M
    · exact iHow5 r s to vk vn M
    · exact iHow6 r s to vk vn M
    · exact iHow7 r s to vk vn M
    · exact iHow8 r s to vk vn M
    · exact iHow9 r s to vk vn M
    · exact iHow10 r s to vk vn M
    · exact iHow11 r s to vk vn M
    · exact iHow12 r s to vk vn M
    · exact iHow13 r s to vk vn M
    · exact iHow14 r s to vk vn M
end Go.Proofs.Ytmidnaafljgbiaa
/- Whether a step has something, and whether its value may be, by the program's text. -/
namespace Go.Proofs.Ytmidnaafljgbiaa
open Go.RowKit
set_option maxRecDepth 100000

def hasB (k : Int) (c : UInt8) : Bool := decide (0 ≤ Lib.indexByte (hasOf k).data.toList c)
theorem hasB_form (k : Int) : hasB k 82 = formAt k 0 ∧ hasB k 83 = formAt k 1 ∧ hasB k 84 = formAt k 2 ∧ hasB k 86 = formAt k 3 := by
  by_cases hk : 1 ≤ k ∧ k ≤ 14
  · have hc : k = 1 ∨ k = 2 ∨ k = 3 ∨ k = 4 ∨ k = 5 ∨ k = 6 ∨ k = 7 ∨ k = 8 ∨ k = 9 ∨ k = 10 ∨ k = 11 ∨ k = 12 ∨ k = 13 ∨ k = 14 := by omega
    rcases hc with rfl | rfl | rfl | rfl | rfl | rfl | rfl | rfl | rfl | rfl | rfl | rfl | rfl | rfl <;> decide
  · have e : ∀ c : Int, 1 ≤ c → c ≤ 14 → ¬ k = c := fun c h1 h2 e => hk (by omega)
    have h1 : hasOf k = ⟨#[]⟩ := by
      unfold hasOf
      simp only [e 1 (by decide) (by decide), e 2 (by decide) (by decide), e 3 (by decide) (by decide), e 4 (by decide) (by decide), e 5 (by decide) (by decide), e 6 (by decide) (by decide), e 7 (by decide) (by decide), e 8 (by decide) (by decide), e 9 (by decide) (by decide), e 10 (by decide) (by decide), e 11 (by decide) (by decide), e 12 (by decide) (by decide), e 13 (by decide) (by decide), e 14 (by decide) (by decide), if_false]
    have h2 : opForm k = [] := by
      unfold opForm
      simp only [e 1 (by decide) (by decide), e 2 (by decide) (by decide), e 3 (by decide) (by decide), e 4 (by decide) (by decide), e 5 (by decide) (by decide), e 6 (by decide) (by decide), e 7 (by decide) (by decide), e 8 (by decide) (by decide), e 9 (by decide) (by decide), e 10 (by decide) (by decide), e 11 (by decide) (by decide), e 12 (by decide) (by decide), e 13 (by decide) (by decide), e 14 (by decide) (by decide), if_false, or_self]
    unfold hasB formAt
    rw [h1, h2]
    decide
theorem fieldM0 (z1 z2 z3 : ByteArray) (z4 : Bool) (W : World) : (Instr.field 128 (.agg #[.string z1, .string z2, .string z3, .bool z4]) 0).run Try.prog W = .ok (.string z1) W := by kernel_rfl
theorem fieldM1 (z1 z2 z3 : ByteArray) (z4 : Bool) (W : World) : (Instr.field 128 (.agg #[.string z1, .string z2, .string z3, .bool z4]) 1).run Try.prog W = .ok (.string z2) W := by kernel_rfl
theorem fieldM2 (z1 z2 z3 : ByteArray) (z4 : Bool) (W : World) : (Instr.field 128 (.agg #[.string z1, .string z2, .string z3, .bool z4]) 2).run Try.prog W = .ok (.string z3) W := by kernel_rfl
theorem fieldM3 (z1 z2 z3 : ByteArray) (z4 : Bool) (W : World) : (Instr.field 128 (.agg #[.string z1, .string z2, .string z3, .bool z4]) 3).run Try.prog W = .ok (.bool z4) W := by kernel_rfl
set_option maxHeartbeats 1000000 in
theorem iHas (o : Opx) (c : UInt8) (w : World) : Calls Try.prog 118 #[.agg (opArr o), .string ⟨#[c]⟩] w fun e w' => e = .returned (.bool (hasB o.k c)) ∧ Below w.heap.size w w' := by
  have M := Mem.nil w
  have HH := Lib.hid (fun V (L : List Asn) (M : Mem w [] V L) => iHow o M)
  have HC := Lib.hid (fun V => lib_strings_Contains_one (hasOf o.k) c V)
  have HB : Hid (hasB o.k c = decide (0 ≤ Lib.indexByte (hasOf o.k).data.toList c)) := rfl
  rw [← HB.out] at HC
  clear HB
  generalize hasB o.k c = b at HC ⊢
  obtain ⟨k, r, s, to, ⟨vk, vn⟩⟩ := o
  simp only [opArr, howArr] at *
  generalize wordOf k = z1 at HH
  generalize hasOf k = z2 at HH HC
  generalize readsOf k = z3 at HH
  generalize fillsR k = z4 at HH
  have f1 := fieldM1 z1 z2 z3 z4
  go_enter Try.func118, Try.ntmps118
  go_wp2_with (first
    | (with_reducible refine alA M ?_; clear M; (try clear F); intro w1 M F)
    | (go_at_call 122; (refine nmK ?_; clear M; (try clear F); intro w1 M F); refine (HH.out _ _ M).mono ?_; clear M; rintro e w2 ⟨rfl, M⟩; (try clear F); have F := fx M)
    | (go_at_call 131; refine (HC.out _).mono ?_; rintro e w2 ⟨rfl, rfl⟩))
  go_ret
  exact ⟨rfl, M.toBelow⟩
def valOkI (o : Opx) : Bool := if o.k = 8 then valOk o.v && o.v.k == 1 && decide (1 ≤ o.v.n) else if o.k = 13 then o.v.k == 1 && inB o.v.n 0 1 else valOk o.v
set_option maxHeartbeats 1000000 in
theorem iValOk2 (o : Opx) (w : World) : Calls Try.prog 130 #[.agg (opArr o)] w fun e w' => e = .returned (.bool (valOkI o)) ∧ Below w.heap.size w w' := by
  have M := Mem.nil w
  have HV := Lib.hid (fun V => iValOk o.v V)
  have HI := Lib.hid (fun V => iIn o.v.n 0 1 V)
  have e : valOkI o = if o.k = 8 then valOk o.v && o.v.k == 1 && decide (1 ≤ o.v.n) else if o.k = 13 then o.v.k == 1 && inB o.v.n 0 1 else valOk o.v := rfl
  rw [e]
  clear e
  generalize valOk o.v = x at HV ⊢
  generalize inB o.v.n 0 1 = y at HI ⊢
  obtain ⟨k, r, s, to, ⟨vk, vn⟩⟩ := o
  simp only [opArr] at *
  by_cases h8 : k = 8
  · subst h8
    rw [if_pos rfl]
    cases x <;> cases hk : (vk == 1)
    all_goals
      go_enter Try.func130, Try.ntmps130
      go_wp2_with (first
        | (with_reducible refine alA M ?_; clear M; (try clear F); intro w1 M F)
        | (go_at_call 79; (refine nmK ?_; clear M; (try clear F); intro w1 M F); refine (HV.out _).mono ?_; rintro e w2 ⟨rfl, hb⟩; replace M := M.below hb; clear hb; (try clear F); have F := fx M)
        | (go_at_call 75; (refine nmK ?_; clear M; (try clear F); intro w1 M F); refine (HI.out _).mono ?_; rintro e w2 ⟨rfl, rfl⟩))
      go_ret
      exact ⟨by simp, M.toBelow⟩
  · rw [if_neg h8]
    have b8 : (k == 8) = false := by simpa using h8
    by_cases h13 : k = 13
    · subst h13
      rw [if_pos rfl]
      cases hk : (vk == 1)
      all_goals
        go_enter Try.func130, Try.ntmps130
        go_wp2_with (first
          | (with_reducible refine alA M ?_; clear M; (try clear F); intro w1 M F)
          | (go_at_call 79; (refine nmK ?_; clear M; (try clear F); intro w1 M F); refine (HV.out _).mono ?_; rintro e w2 ⟨rfl, hb⟩; replace M := M.below hb; clear hb; (try clear F); have F := fx M)
          | (go_at_call 75; (refine nmK ?_; clear M; (try clear F); intro w1 M F); refine (HI.out _).mono ?_; rintro e w2 ⟨rfl, rfl⟩))
        (refine nm (G := fun W => bodyPost _ _ _ _ _ W) ?_; clear M; (try clear F); intro w1 M F)
        go_ret
        exact ⟨by simp, M.toBelow⟩
    · rw [if_neg h13]
      have b13 : (k == 13) = false := by simpa using h13
      clear h8 h13
      go_enter Try.func130, Try.ntmps130
      go_wp2_with (first
        | (with_reducible refine alA M ?_; clear M; (try clear F); intro w1 M F)
        | (go_at_call 79; (refine nmK ?_; clear M; (try clear F); intro w1 M F); refine (HV.out _).mono ?_; rintro e w2 ⟨rfl, hb⟩; replace M := M.below hb; clear hb; (try clear F); have F := fx M)
        | (go_at_call 75; (refine nmK ?_; clear M; (try clear F); intro w1 M F); refine (HI.out _).mono ?_; rintro e w2 ⟨rfl, rfl⟩))
      go_ret
      exact ⟨rfl, M.toBelow⟩
end Go.Proofs.Ytmidnaafljgbiaa
