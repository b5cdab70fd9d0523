/- Parts of the proof, in one text. -/
import Derived.Test.YtmidnaafljgbiaaB09
/- What a step is: whether it is ok (value). -/
namespace Go.Proofs.Ytmidnaafljgbiaa
open Go.RowKit
set_option maxRecDepth 100000

set_option maxHeartbeats 4000000 in
theorem sOpOkBad4 (o : Opx) (f0 f1 f2 f3 : Bool) (hp : OpPre o f0 f1 f2 f3) (c8 : (o.k == 8) = false) (c13 : (o.k == 13) = false) (h1 : Good (inB o.r 0 3) f0 (o.r == 0)) (h2 : Good (inB o.s 0 3) f1 (o.s == 0)) (h3 : Good (inB o.to 0 15) f2 (o.to == 0)) (h3' : f3 = false) (hz : (o.v.k == 0) = false ∨ ((o.v.k == 0) = true ∧ (o.v.n == 0) = false)) (w : World) : Calls Try.prog 113 #[.agg (opArr o)] w fun e w' => e = .returned (.bool false) ∧ Below w.heap.size w w' := by
  obtain ⟨k, r, s, to, ⟨vk, vn⟩⟩ := o
  simp only [opArr] at *
  have HV := Lib.hid (fun W => sValOk ⟨vk, vn⟩ W)
  rw [hp.2] at HV
  have HS := Lib.hid (fun n W => sSlot n W)
  have HT := Lib.hid (fun n W => sToIn n W)
  have HI := Lib.hid (fun n lo hi W => sIn n lo hi W)
  have HG := Lib.hid (fun W (L : List Asn) (M : Mem w [] W L) => sFormAt hp.1 M)
  clear hp
  have M := Mem.nil w
  have AL := add_lit0
  subst h3'
  rcases h1 with ⟨i1, rfl⟩ | ⟨i1, rfl, e1⟩ <;> rcases h2 with ⟨i2, rfl⟩ | ⟨i2, rfl, e2⟩ <;> rcases h3 with ⟨i3, rfl⟩ | ⟨i3, rfl, e3⟩ <;> rcases hz with z1 | ⟨z1, z2⟩
  all_goals
    · go_enter Try.func113, Try.ntmps113
      go_wp2_with (first
        | (with_reducible refine alAw M ?_; clear M; (try clear F); intro w1 M F)
        | (go_at_call 126; (refine nmKw ?_; clear M; (try clear F); intro w1 M F); refine (HG.out _ _ M).mono ?_; clear M; rintro e w2 ⟨g, c, rfl, M⟩; (try clear F); have F := fxw M; have EB := elemB M .here)
        | (go_at_call 42; (refine nmKw ?_; clear M; (try clear F); intro w1 M F); refine (HV.out _).mono ?_; rintro e w2 ⟨rfl, hb⟩; replace M := M.below hb; clear hb; (try clear F); have F := fxw M; clear EB; have EB := elemB M dl)
        | (go_at_call 89; (refine nmKw ?_; clear M; (try clear F); intro w1 M F); clear EB; have EB := elemB M dl; refine (HS.out _ _).mono ?_; rintro e w2 ⟨rfl, rfl⟩)
        | (go_at_call 81; (refine nmKw ?_; clear M; (try clear F); intro w1 M F); clear EB; have EB := elemB M dl; refine (HT.out _ _).mono ?_; rintro e w2 ⟨rfl, rfl⟩)
        | (go_at_call 80; (refine nmKw ?_; clear M; (try clear F); intro w1 M F); clear EB; have EB := elemB M dl; refine (HI.out _ _ _ _).mono ?_; rintro e w2 ⟨rfl, rfl⟩))
      go_ret
      exact ⟨rfl, M.toBelow⟩
end Go.Proofs.Ytmidnaafljgbiaa
/- What a step is: whether it is ok (that waits). -/
namespace Go.Proofs.Ytmidnaafljgbiaa
open Go.RowKit
set_option maxRecDepth 100000

set_option maxHeartbeats 4000000 in
theorem sOpOk8v (o : Opx) (hp : OpPre o true true true true) (c8 : (o.k == 8) = true) (hv : (o.v.k != 1) = true ∨ ((o.v.k != 1) = false ∧ decide (o.v.n < 1) = true)) (w : World) : Calls Try.prog 113 #[.agg (opArr o)] w fun e w' => e = .returned (.bool false) ∧ Below w.heap.size w w' := by
  obtain ⟨k, r, s, to, ⟨vk, vn⟩⟩ := o
  simp only [opArr] at *
  have HV := Lib.hid (fun W => sValOk ⟨vk, vn⟩ W)
  rw [hp.2] at HV
  have HS := Lib.hid (fun n W => sSlot n W)
  have HT := Lib.hid (fun n W => sToIn n W)
  have HI := Lib.hid (fun n lo hi W => sIn n lo hi W)
  have HG := Lib.hid (fun W (L : List Asn) (M : Mem w [] W L) => sFormAt hp.1 M)
  clear hp
  have M := Mem.nil w
  have AL := add_lit0
  rcases hv with v1 | ⟨v1, v2⟩
  all_goals
    · go_enter Try.func113, Try.ntmps113
      go_wp2_with (first
        | (with_reducible refine alAw M ?_; clear M; (try clear F); intro w1 M F)
        | (go_at_call 126; (refine nmKw ?_; clear M; (try clear F); intro w1 M F); refine (HG.out _ _ M).mono ?_; clear M; rintro e w2 ⟨g, c, rfl, M⟩; (try clear F); have F := fxw M; have EB := elemB M .here)
        | (go_at_call 42; (refine nmKw ?_; clear M; (try clear F); intro w1 M F); refine (HV.out _).mono ?_; rintro e w2 ⟨rfl, hb⟩; replace M := M.below hb; clear hb; (try clear F); have F := fxw M; clear EB; have EB := elemB M dl)
        | (go_at_call 89; (refine nmKw ?_; clear M; (try clear F); intro w1 M F); clear EB; have EB := elemB M dl; refine (HS.out _ _).mono ?_; rintro e w2 ⟨rfl, rfl⟩)
        | (go_at_call 81; (refine nmKw ?_; clear M; (try clear F); intro w1 M F); clear EB; have EB := elemB M dl; refine (HT.out _ _).mono ?_; rintro e w2 ⟨rfl, rfl⟩)
        | (go_at_call 80; (refine nmKw ?_; clear M; (try clear F); intro w1 M F); clear EB; have EB := elemB M dl; refine (HI.out _ _ _ _).mono ?_; rintro e w2 ⟨rfl, rfl⟩))
      go_ret
      exact ⟨rfl, M.toBelow⟩
set_option maxHeartbeats 4000000 in
theorem sOpOk8a (o : Opx) (hp : OpPre o true true true true) (c8 : (o.k == 8) = true) (v1 : (o.v.k != 1) = false) (v2 : decide (o.v.n < 1) = false) (h1 : inB o.r 0 3 = false) (e1 : (o.r == 0) = false) (w : World) : Calls Try.prog 113 #[.agg (opArr o)] w fun e w' => e = .returned (.bool false) ∧ Below w.heap.size w w' := by
  obtain ⟨k, r, s, to, ⟨vk, vn⟩⟩ := o
  simp only [opArr] at *
  have HV := Lib.hid (fun W => sValOk ⟨vk, vn⟩ W)
  rw [hp.2] at HV
  have HS := Lib.hid (fun n W => sSlot n W)
  have HT := Lib.hid (fun n W => sToIn n W)
  have HI := Lib.hid (fun n lo hi W => sIn n lo hi W)
  have HG := Lib.hid (fun W (L : List Asn) (M : Mem w [] W L) => sFormAt hp.1 M)
  clear hp
  have M := Mem.nil w
  have AL := add_lit0
  skip
  all_goals
    · go_enter Try.func113, Try.ntmps113
      go_wp2_with (first
        | (with_reducible refine alAw M ?_; clear M; (try clear F); intro w1 M F)
        | (go_at_call 126; (refine nmKw ?_; clear M; (try clear F); intro w1 M F); refine (HG.out _ _ M).mono ?_; clear M; rintro e w2 ⟨g, c, rfl, M⟩; (try clear F); have F := fxw M; have EB := elemB M .here)
        | (go_at_call 42; (refine nmKw ?_; clear M; (try clear F); intro w1 M F); refine (HV.out _).mono ?_; rintro e w2 ⟨rfl, hb⟩; replace M := M.below hb; clear hb; (try clear F); have F := fxw M; clear EB; have EB := elemB M dl)
        | (go_at_call 89; (refine nmKw ?_; clear M; (try clear F); intro w1 M F); clear EB; have EB := elemB M dl; refine (HS.out _ _).mono ?_; rintro e w2 ⟨rfl, rfl⟩)
        | (go_at_call 81; (refine nmKw ?_; clear M; (try clear F); intro w1 M F); clear EB; have EB := elemB M dl; refine (HT.out _ _).mono ?_; rintro e w2 ⟨rfl, rfl⟩)
        | (go_at_call 80; (refine nmKw ?_; clear M; (try clear F); intro w1 M F); clear EB; have EB := elemB M dl; refine (HI.out _ _ _ _).mono ?_; rintro e w2 ⟨rfl, rfl⟩))
      go_ret
      exact ⟨rfl, M.toBelow⟩
set_option maxHeartbeats 4000000 in
theorem sOpOk8b (o : Opx) (hp : OpPre o true true true true) (c8 : (o.k == 8) = true) (v1 : (o.v.k != 1) = false) (v2 : decide (o.v.n < 1) = false) (h1 : inB o.r 0 3 = true) (h2 : inB o.s 0 3 = false) (e2 : (o.s == 0) = false) (w : World) : Calls Try.prog 113 #[.agg (opArr o)] w fun e w' => e = .returned (.bool false) ∧ Below w.heap.size w w' := by
  obtain ⟨k, r, s, to, ⟨vk, vn⟩⟩ := o
  simp only [opArr] at *
  have HV := Lib.hid (fun W => sValOk ⟨vk, vn⟩ W)
  rw [hp.2] at HV
  have HS := Lib.hid (fun n W => sSlot n W)
  have HT := Lib.hid (fun n W => sToIn n W)
  have HI := Lib.hid (fun n lo hi W => sIn n lo hi W)
  have HG := Lib.hid (fun W (L : List Asn) (M : Mem w [] W L) => sFormAt hp.1 M)
  clear hp
  have M := Mem.nil w
  have AL := add_lit0
  skip
  all_goals
    · go_enter Try.func113, Try.ntmps113
      go_wp2_with (first
        | (with_reducible refine alAw M ?_; clear M; (try clear F); intro w1 M F)
        | (go_at_call 126; (refine nmKw ?_; clear M; (try clear F); intro w1 M F); refine (HG.out _ _ M).mono ?_; clear M; rintro e w2 ⟨g, c, rfl, M⟩; (try clear F); have F := fxw M; have EB := elemB M .here)
        | (go_at_call 42; (refine nmKw ?_; clear M; (try clear F); intro w1 M F); refine (HV.out _).mono ?_; rintro e w2 ⟨rfl, hb⟩; replace M := M.below hb; clear hb; (try clear F); have F := fxw M; clear EB; have EB := elemB M dl)
        | (go_at_call 89; (refine nmKw ?_; clear M; (try clear F); intro w1 M F); clear EB; have EB := elemB M dl; refine (HS.out _ _).mono ?_; rintro e w2 ⟨rfl, rfl⟩)
        | (go_at_call 81; (refine nmKw ?_; clear M; (try clear F); intro w1 M F); clear EB; have EB := elemB M dl; refine (HT.out _ _).mono ?_; rintro e w2 ⟨rfl, rfl⟩)
        | (go_at_call 80; (refine nmKw ?_; clear M; (try clear F); intro w1 M F); clear EB; have EB := elemB M dl; refine (HI.out _ _ _ _).mono ?_; rintro e w2 ⟨rfl, rfl⟩))
      go_ret
      exact ⟨rfl, M.toBelow⟩
set_option maxHeartbeats 4000000 in
theorem sOpOk8c (o : Opx) (hp : OpPre o true true true true) (c8 : (o.k == 8) = true) (v1 : (o.v.k != 1) = false) (v2 : decide (o.v.n < 1) = false) (h1 : inB o.r 0 3 = true) (h2 : inB o.s 0 3 = true) (h3 : inB o.to 0 15 = false) (e3 : (o.to == 0) = false) (w : World) : Calls Try.prog 113 #[.agg (opArr o)] w fun e w' => e = .returned (.bool false) ∧ Below w.heap.size w w' := by
  obtain ⟨k, r, s, to, ⟨vk, vn⟩⟩ := o
  simp only [opArr] at *
  have HV := Lib.hid (fun W => sValOk ⟨vk, vn⟩ W)
  rw [hp.2] at HV
  have HS := Lib.hid (fun n W => sSlot n W)
  have HT := Lib.hid (fun n W => sToIn n W)
  have HI := Lib.hid (fun n lo hi W => sIn n lo hi W)
  have HG := Lib.hid (fun W (L : List Asn) (M : Mem w [] W L) => sFormAt hp.1 M)
  clear hp
  have M := Mem.nil w
  have AL := add_lit0
  skip
  all_goals
    · go_enter Try.func113, Try.ntmps113
      go_wp2_with (first
        | (with_reducible refine alAw M ?_; clear M; (try clear F); intro w1 M F)
        | (go_at_call 126; (refine nmKw ?_; clear M; (try clear F); intro w1 M F); refine (HG.out _ _ M).mono ?_; clear M; rintro e w2 ⟨g, c, rfl, M⟩; (try clear F); have F := fxw M; have EB := elemB M .here)
        | (go_at_call 42; (refine nmKw ?_; clear M; (try clear F); intro w1 M F); refine (HV.out _).mono ?_; rintro e w2 ⟨rfl, hb⟩; replace M := M.below hb; clear hb; (try clear F); have F := fxw M; clear EB; have EB := elemB M dl)
        | (go_at_call 89; (refine nmKw ?_; clear M; (try clear F); intro w1 M F); clear EB; have EB := elemB M dl; refine (HS.out _ _).mono ?_; rintro e w2 ⟨rfl, rfl⟩)
        | (go_at_call 81; (refine nmKw ?_; clear M; (try clear F); intro w1 M F); clear EB; have EB := elemB M dl; refine (HT.out _ _).mono ?_; rintro e w2 ⟨rfl, rfl⟩)
        | (go_at_call 80; (refine nmKw ?_; clear M; (try clear F); intro w1 M F); clear EB; have EB := elemB M dl; refine (HI.out _ _ _ _).mono ?_; rintro e w2 ⟨rfl, rfl⟩))
      go_ret
      exact ⟨rfl, M.toBelow⟩
set_option maxHeartbeats 4000000 in
theorem sOpOk8d (o : Opx) (hp : OpPre o true true true true) (c8 : (o.k == 8) = true) (v1 : (o.v.k != 1) = false) (v2 : decide (o.v.n < 1) = false) (h1 : inB o.r 0 3 = true) (h2 : inB o.s 0 3 = true) (h3 : inB o.to 0 15 = true) (w : World) : Calls Try.prog 113 #[.agg (opArr o)] w fun e w' => e = .returned (.bool true) ∧ Below w.heap.size w w' := by
  obtain ⟨k, r, s, to, ⟨vk, vn⟩⟩ := o
  simp only [opArr] at *
  have HV := Lib.hid (fun W => sValOk ⟨vk, vn⟩ W)
  rw [hp.2] at HV
  have HS := Lib.hid (fun n W => sSlot n W)
  have HT := Lib.hid (fun n W => sToIn n W)
  have HI := Lib.hid (fun n lo hi W => sIn n lo hi W)
  have HG := Lib.hid (fun W (L : List Asn) (M : Mem w [] W L) => sFormAt hp.1 M)
  clear hp
  have M := Mem.nil w
  have AL := add_lit0
  skip
  all_goals
    · go_enter Try.func113, Try.ntmps113
      go_wp2_with (first
        | (with_reducible refine alAw M ?_; clear M; (try clear F); intro w1 M F)
        | (go_at_call 126; (refine nmKw ?_; clear M; (try clear F); intro w1 M F); refine (HG.out _ _ M).mono ?_; clear M; rintro e w2 ⟨g, c, rfl, M⟩; (try clear F); have F := fxw M; have EB := elemB M .here)
        | (go_at_call 42; (refine nmKw ?_; clear M; (try clear F); intro w1 M F); refine (HV.out _).mono ?_; rintro e w2 ⟨rfl, hb⟩; replace M := M.below hb; clear hb; (try clear F); have F := fxw M; clear EB; have EB := elemB M dl)
        | (go_at_call 89; (refine nmKw ?_; clear M; (try clear F); intro w1 M F); clear EB; have EB := elemB M dl; refine (HS.out _ _).mono ?_; rintro e w2 ⟨rfl, rfl⟩)
        | (go_at_call 81; (refine nmKw ?_; clear M; (try clear F); intro w1 M F); clear EB; have EB := elemB M dl; refine (HT.out _ _).mono ?_; rintro e w2 ⟨rfl, rfl⟩)
        | (go_at_call 80; (refine nmKw ?_; clear M; (try clear F); intro w1 M F); clear EB; have EB := elemB M dl; refine (HI.out _ _ _ _).mono ?_; rintro e w2 ⟨rfl, rfl⟩))
      go_ret
      exact ⟨rfl, M.toBelow⟩
end Go.Proofs.Ytmidnaafljgbiaa
/- What a step is: whether it is ok (that traps). -/
namespace Go.Proofs.Ytmidnaafljgbiaa
open Go.RowKit
set_option maxRecDepth 100000

set_option maxHeartbeats 4000000 in
theorem sOpOk13v (o : Opx) (hp : OpPre o false false false true) (c8 : (o.k == 8) = false) (c13 : (o.k == 13) = true) (hv : (o.v.k != 1) = true ∨ ((o.v.k != 1) = false ∧ inB o.v.n 0 1 = false)) (w : World) : Calls Try.prog 113 #[.agg (opArr o)] w fun e w' => e = .returned (.bool false) ∧ Below w.heap.size w w' := by
  obtain ⟨k, r, s, to, ⟨vk, vn⟩⟩ := o
  simp only [opArr] at *
  have HV := Lib.hid (fun W => sValOk ⟨vk, vn⟩ W)
  rw [hp.2] at HV
  have HS := Lib.hid (fun n W => sSlot n W)
  have HT := Lib.hid (fun n W => sToIn n W)
  have HI := Lib.hid (fun n lo hi W => sIn n lo hi W)
  have HG := Lib.hid (fun W (L : List Asn) (M : Mem w [] W L) => sFormAt hp.1 M)
  clear hp
  have M := Mem.nil w
  have AL := add_lit0
  rcases hv with v1 | ⟨v1, v2⟩
  all_goals
    · go_enter Try.func113, Try.ntmps113
      go_wp2_with (first
        | (with_reducible refine alAw M ?_; clear M; (try clear F); intro w1 M F)
        | (go_at_call 126; (refine nmKw ?_; clear M; (try clear F); intro w1 M F); refine (HG.out _ _ M).mono ?_; clear M; rintro e w2 ⟨g, c, rfl, M⟩; (try clear F); have F := fxw M; have EB := elemB M .here)
        | (go_at_call 42; (refine nmKw ?_; clear M; (try clear F); intro w1 M F); refine (HV.out _).mono ?_; rintro e w2 ⟨rfl, hb⟩; replace M := M.below hb; clear hb; (try clear F); have F := fxw M; clear EB; have EB := elemB M dl)
        | (go_at_call 89; (refine nmKw ?_; clear M; (try clear F); intro w1 M F); clear EB; have EB := elemB M dl; refine (HS.out _ _).mono ?_; rintro e w2 ⟨rfl, rfl⟩)
        | (go_at_call 81; (refine nmKw ?_; clear M; (try clear F); intro w1 M F); clear EB; have EB := elemB M dl; refine (HT.out _ _).mono ?_; rintro e w2 ⟨rfl, rfl⟩)
        | (go_at_call 80; (refine nmKw ?_; clear M; (try clear F); intro w1 M F); clear EB; have EB := elemB M dl; refine (HI.out _ _ _ _).mono ?_; rintro e w2 ⟨rfl, rfl⟩))
      go_ret
      exact ⟨rfl, M.toBelow⟩
set_option maxHeartbeats 4000000 in
theorem sOpOk13a (o : Opx) (hp : OpPre o false false false true) (c8 : (o.k == 8) = false) (c13 : (o.k == 13) = true) (v1 : (o.v.k != 1) = false) (v2 : inB o.v.n 0 1 = true) (h1 : inB o.r 0 3 = false ∨ inB o.r 0 3 = true) (e1 : (o.r == 0) = false) (w : World) : Calls Try.prog 113 #[.agg (opArr o)] w fun e w' => e = .returned (.bool false) ∧ Below w.heap.size w w' := by
  obtain ⟨k, r, s, to, ⟨vk, vn⟩⟩ := o
  simp only [opArr] at *
  have HV := Lib.hid (fun W => sValOk ⟨vk, vn⟩ W)
  rw [hp.2] at HV
  have HS := Lib.hid (fun n W => sSlot n W)
  have HT := Lib.hid (fun n W => sToIn n W)
  have HI := Lib.hid (fun n lo hi W => sIn n lo hi W)
  have HG := Lib.hid (fun W (L : List Asn) (M : Mem w [] W L) => sFormAt hp.1 M)
  clear hp
  have M := Mem.nil w
  have AL := add_lit0
  rcases h1 with h1 | h1
  all_goals
    · go_enter Try.func113, Try.ntmps113
      go_wp2_with (first
        | (with_reducible refine alAw M ?_; clear M; (try clear F); intro w1 M F)
        | (go_at_call 126; (refine nmKw ?_; clear M; (try clear F); intro w1 M F); refine (HG.out _ _ M).mono ?_; clear M; rintro e w2 ⟨g, c, rfl, M⟩; (try clear F); have F := fxw M; have EB := elemB M .here)
        | (go_at_call 42; (refine nmKw ?_; clear M; (try clear F); intro w1 M F); refine (HV.out _).mono ?_; rintro e w2 ⟨rfl, hb⟩; replace M := M.below hb; clear hb; (try clear F); have F := fxw M; clear EB; have EB := elemB M dl)
        | (go_at_call 89; (refine nmKw ?_; clear M; (try clear F); intro w1 M F); clear EB; have EB := elemB M dl; refine (HS.out _ _).mono ?_; rintro e w2 ⟨rfl, rfl⟩)
        | (go_at_call 81; (refine nmKw ?_; clear M; (try clear F); intro w1 M F); clear EB; have EB := elemB M dl; refine (HT.out _ _).mono ?_; rintro e w2 ⟨rfl, rfl⟩)
        | (go_at_call 80; (refine nmKw ?_; clear M; (try clear F); intro w1 M F); clear EB; have EB := elemB M dl; refine (HI.out _ _ _ _).mono ?_; rintro e w2 ⟨rfl, rfl⟩))
      go_ret
      exact ⟨rfl, M.toBelow⟩
set_option maxHeartbeats 4000000 in
theorem sOpOk13b (o : Opx) (hp : OpPre o false false false true) (c8 : (o.k == 8) = false) (c13 : (o.k == 13) = true) (v1 : (o.v.k != 1) = false) (v2 : inB o.v.n 0 1 = true) (h1 : inB o.r 0 3 = true) (e1 : (o.r == 0) = true) (h2 : inB o.s 0 3 = false ∨ inB o.s 0 3 = true) (e2 : (o.s == 0) = false) (w : World) : Calls Try.prog 113 #[.agg (opArr o)] w fun e w' => e = .returned (.bool false) ∧ Below w.heap.size w w' := by
  obtain ⟨k, r, s, to, ⟨vk, vn⟩⟩ := o
  simp only [opArr] at *
  have HV := Lib.hid (fun W => sValOk ⟨vk, vn⟩ W)
  rw [hp.2] at HV
  have HS := Lib.hid (fun n W => sSlot n W)
  have HT := Lib.hid (fun n W => sToIn n W)
  have HI := Lib.hid (fun n lo hi W => sIn n lo hi W)
  have HG := Lib.hid (fun W (L : List Asn) (M : Mem w [] W L) => sFormAt hp.1 M)
  clear hp
  have M := Mem.nil w
  have AL := add_lit0
  rcases h2 with h2 | h2
  all_goals
    · go_enter Try.func113, Try.ntmps113
      go_wp2_with (first
        | (with_reducible refine alAw M ?_; clear M; (try clear F); intro w1 M F)
        | (go_at_call 126; (refine nmKw ?_; clear M; (try clear F); intro w1 M F); refine (HG.out _ _ M).mono ?_; clear M; rintro e w2 ⟨g, c, rfl, M⟩; (try clear F); have F := fxw M; have EB := elemB M .here)
        | (go_at_call 42; (refine nmKw ?_; clear M; (try clear F); intro w1 M F); refine (HV.out _).mono ?_; rintro e w2 ⟨rfl, hb⟩; replace M := M.below hb; clear hb; (try clear F); have F := fxw M; clear EB; have EB := elemB M dl)
        | (go_at_call 89; (refine nmKw ?_; clear M; (try clear F); intro w1 M F); clear EB; have EB := elemB M dl; refine (HS.out _ _).mono ?_; rintro e w2 ⟨rfl, rfl⟩)
        | (go_at_call 81; (refine nmKw ?_; clear M; (try clear F); intro w1 M F); clear EB; have EB := elemB M dl; refine (HT.out _ _).mono ?_; rintro e w2 ⟨rfl, rfl⟩)
        | (go_at_call 80; (refine nmKw ?_; clear M; (try clear F); intro w1 M F); clear EB; have EB := elemB M dl; refine (HI.out _ _ _ _).mono ?_; rintro e w2 ⟨rfl, rfl⟩))
      go_ret
      exact ⟨rfl, M.toBelow⟩
set_option maxHeartbeats 4000000 in
theorem sOpOk13c (o : Opx) (hp : OpPre o false false false true) (c8 : (o.k == 8) = false) (c13 : (o.k == 13) = true) (v1 : (o.v.k != 1) = false) (v2 : inB o.v.n 0 1 = true) (h1 : inB o.r 0 3 = true) (e1 : (o.r == 0) = true) (h2 : inB o.s 0 3 = true) (e2 : (o.s == 0) = true) (h3 : inB o.to 0 15 = false ∨ inB o.to 0 15 = true) (e3 : (o.to == 0) = false) (w : World) : Calls Try.prog 113 #[.agg (opArr o)] w fun e w' => e = .returned (.bool false) ∧ Below w.heap.size w w' := by
  obtain ⟨k, r, s, to, ⟨vk, vn⟩⟩ := o
  simp only [opArr] at *
  have HV := Lib.hid (fun W => sValOk ⟨vk, vn⟩ W)
  rw [hp.2] at HV
  have HS := Lib.hid (fun n W => sSlot n W)
  have HT := Lib.hid (fun n W => sToIn n W)
  have HI := Lib.hid (fun n lo hi W => sIn n lo hi W)
  have HG := Lib.hid (fun W (L : List Asn) (M : Mem w [] W L) => sFormAt hp.1 M)
  clear hp
  have M := Mem.nil w
  have AL := add_lit0
  rcases h3 with h3 | h3
  all_goals
    · go_enter Try.func113, Try.ntmps113
      go_wp2_with (first
        | (with_reducible refine alAw M ?_; clear M; (try clear F); intro w1 M F)
        | (go_at_call 126; (refine nmKw ?_; clear M; (try clear F); intro w1 M F); refine (HG.out _ _ M).mono ?_; clear M; rintro e w2 ⟨g, c, rfl, M⟩; (try clear F); have F := fxw M; have EB := elemB M .here)
        | (go_at_call 42; (refine nmKw ?_; clear M; (try clear F); intro w1 M F); refine (HV.out _).mono ?_; rintro e w2 ⟨rfl, hb⟩; replace M := M.below hb; clear hb; (try clear F); have F := fxw M; clear EB; have EB := elemB M dl)
        | (go_at_call 89; (refine nmKw ?_; clear M; (try clear F); intro w1 M F); clear EB; have EB := elemB M dl; refine (HS.out _ _).mono ?_; rintro e w2 ⟨rfl, rfl⟩)
        | (go_at_call 81; (refine nmKw ?_; clear M; (try clear F); intro w1 M F); clear EB; have EB := elemB M dl; refine (HT.out _ _).mono ?_; rintro e w2 ⟨rfl, rfl⟩)
        | (go_at_call 80; (refine nmKw ?_; clear M; (try clear F); intro w1 M F); clear EB; have EB := elemB M dl; refine (HI.out _ _ _ _).mono ?_; rintro e w2 ⟨rfl, rfl⟩))
      go_ret
      exact ⟨rfl, M.toBelow⟩
set_option maxHeartbeats 4000000 in
theorem sOpOk13d (o : Opx) (hp : OpPre o false false false true) (c8 : (o.k == 8) = false) (c13 : (o.k == 13) = true) (v1 : (o.v.k != 1) = false) (v2 : inB o.v.n 0 1 = true) (h1 : inB o.r 0 3 = true) (e1 : (o.r == 0) = true) (h2 : inB o.s 0 3 = true) (e2 : (o.s == 0) = true) (h3 : inB o.to 0 15 = true) (e3 : (o.to == 0) = true) (w : World) : Calls Try.prog 113 #[.agg (opArr o)] w fun e w' => e = .returned (.bool true) ∧ Below w.heap.size w w' := by
  obtain ⟨k, r, s, to, ⟨vk, vn⟩⟩ := o
  simp only [opArr] at *
  have HV := Lib.hid (fun W => sValOk ⟨vk, vn⟩ W)
  rw [hp.2] at HV
  have HS := Lib.hid (fun n W => sSlot n W)
  have HT := Lib.hid (fun n W => sToIn n W)
  have HI := Lib.hid (fun n lo hi W => sIn n lo hi W)
  have HG := Lib.hid (fun W (L : List Asn) (M : Mem w [] W L) => sFormAt hp.1 M)
  clear hp
  have M := Mem.nil w
  have AL := add_lit0
  skip
  all_goals
    · go_enter Try.func113, Try.ntmps113
      go_wp2_with (first
        | (with_reducible refine alAw M ?_; clear M; (try clear F); intro w1 M F)
        | (go_at_call 126; (refine nmKw ?_; clear M; (try clear F); intro w1 M F); refine (HG.out _ _ M).mono ?_; clear M; rintro e w2 ⟨g, c, rfl, M⟩; (try clear F); have F := fxw M; have EB := elemB M .here)
        | (go_at_call 42; (refine nmKw ?_; clear M; (try clear F); intro w1 M F); refine (HV.out _).mono ?_; rintro e w2 ⟨rfl, hb⟩; replace M := M.below hb; clear hb; (try clear F); have F := fxw M; clear EB; have EB := elemB M dl)
        | (go_at_call 89; (refine nmKw ?_; clear M; (try clear F); intro w1 M F); clear EB; have EB := elemB M dl; refine (HS.out _ _).mono ?_; rintro e w2 ⟨rfl, rfl⟩)
        | (go_at_call 81; (refine nmKw ?_; clear M; (try clear F); intro w1 M F); clear EB; have EB := elemB M dl; refine (HT.out _ _).mono ?_; rintro e w2 ⟨rfl, rfl⟩)
        | (go_at_call 80; (refine nmKw ?_; clear M; (try clear F); intro w1 M F); clear EB; have EB := elemB M dl; refine (HI.out _ _ _ _).mono ?_; rintro e w2 ⟨rfl, rfl⟩))
      go_ret
      exact ⟨rfl, M.toBelow⟩
end Go.Proofs.Ytmidnaafljgbiaa
/- What a step is: whether it is ok, all ways. -/
namespace Go.Proofs.Ytmidnaafljgbiaa
open Go.RowKit
set_option maxRecDepth 100000

theorem sOpOk (o : Opx) (w : World) : Calls Try.prog 113 #[.agg (opArr o)] w fun e w' => e = .returned (.bool (opOk o)) ∧ Below w.heap.size w w' := by
  rcases form_cases o.k with ⟨e, hk⟩ | ⟨f0, f1, f2, f3, e, hk⟩
  · have : opOk o = false := by simp [opOk, hk]
    rw [this]
    exact sOpOkBad o (.inl e) w
  cases hv : valOk o.v with
  | false =>
    have : opOk o = false := by simp [opOk, hv]
    rw [this]
    exact sOpOkBad o (.inr hv) w
  | true =>
    have hp : OpPre o f0 f1 f2 f3 := ⟨e, hv⟩
    have F0 : formAt o.k 0 = f0 := by unfold formAt; rw [e]; rfl
    have F1 : formAt o.k 1 = f1 := by unfold formAt; rw [e]; rfl
    have F2 : formAt o.k 2 = f2 := by unfold formAt; rw [e]; rfl
    have F3 : formAt o.k 3 = f3 := by unfold formAt; rw [e]; rfl
    have E : opOk o = ((!(o.k == 8) || (o.v.k == 1 && decide (1 ≤ o.v.n))) && (!(o.k == 13) || (o.v.k == 1 && inB o.v.n 0 1)) && (inB o.r 0 3 && f0 || o.r == 0) && (inB o.s 0 3 && f1 || o.s == 0) && (inB o.to 0 15 && f2 || o.to == 0) && (f3 || o.v == Vl.zero)) := by
      unfold opOk
      rw [F0, F1, F2, F3, hk, hv, Bool.and_comm f0, Bool.and_comm f1, Bool.and_comm f2]
      simp only [Bool.true_and]
    clear F0 F1 F2 F3
    have d1 : (o.r == 0) = true → inB o.r 0 3 = true := by intro h; rw [beq_iff_eq.1 h]; decide
    have d2 : (o.s == 0) = true → inB o.s 0 3 = true := by intro h; rw [beq_iff_eq.1 h]; decide
    have d3 : (o.to == 0) = true → inB o.to 0 15 = true := by intro h; rw [beq_iff_eq.1 h]; decide
    have n0 : ∀ (x e : Bool), (e = true → x = true) → x = false → e = false := by decide
    rw [E]
    clear E
    cases c8 : (o.k == 8) with
    | true =>
      have hk8 : o.k = 8 := beq_iff_eq.1 c8
      have : opForm 8 = [f0, f1, f2, f3] := by rw [← hk8]; exact e
      obtain ⟨rfl, rfl, rfl, rfl⟩ : true = f0 ∧ true = f1 ∧ true = f2 ∧ true = f3 := by simpa [opForm] using this
      have c13 : (o.k == 13) = false := by rw [hk8]; rfl
      rw [c13]
      cases v1 : (o.v.k != 1) with
      | true =>
        have q : (o.v.k == 1) = false := by simpa using v1
        rw [q]
        exact sOpOk8v o hp c8 (.inl v1) w
      | false =>
        have q : (o.v.k == 1) = true := by simpa using v1
        rw [q]
        by_cases hn : 1 ≤ o.v.n
        · have v2 : decide (o.v.n < 1) = false := decide_eq_false (by omega)
          rw [decide_eq_true hn]
          cases i1 : inB o.r 0 3 with
          | false =>
            rw [n0 _ _ d1 i1]
            exact sOpOk8a o hp c8 v1 v2 i1 (n0 _ _ d1 i1) w
          | true =>
          cases i2 : inB o.s 0 3 with
          | false =>
            rw [n0 _ _ d2 i2]
            exact sOpOk8b o hp c8 v1 v2 i1 i2 (n0 _ _ d2 i2) w
          | true =>
          cases i3 : inB o.to 0 15 with
          | false =>
            rw [n0 _ _ d3 i3]
            exact sOpOk8c o hp c8 v1 v2 i1 i2 i3 (n0 _ _ d3 i3) w
          | true => exact sOpOk8d o hp c8 v1 v2 i1 i2 i3 w
        · rw [decide_eq_false hn]
          exact sOpOk8v o hp c8 (.inr ⟨v1, decide_eq_true (by omega)⟩) w
    | false =>
    cases c13 : (o.k == 13) with
    | true =>
      have hk13 : o.k = 13 := beq_iff_eq.1 c13
      have : opForm 13 = [f0, f1, f2, f3] := by rw [← hk13]; exact e
      obtain ⟨rfl, rfl, rfl, rfl⟩ : false = f0 ∧ false = f1 ∧ false = f2 ∧ true = f3 := by simpa [opForm] using this
      cases v1 : (o.v.k != 1) with
      | true =>
        have q : (o.v.k == 1) = false := by simpa using v1
        rw [q]
        exact sOpOk13v o hp c8 c13 (.inl v1) w
      | false =>
      have q : (o.v.k == 1) = true := by simpa using v1
      rw [q]
      cases v2 : inB o.v.n 0 1 with
      | false => exact sOpOk13v o hp c8 c13 (.inr ⟨v1, v2⟩) w
      | true =>
      rw [Bool.and_false, Bool.and_false, Bool.and_false, Bool.false_or, Bool.false_or, Bool.false_or]
      cases e1 : (o.r == 0) with
      | false => exact sOpOk13a o hp c8 c13 v1 v2 (by cases inB o.r 0 3 <;> simp) e1 w
      | true =>
      cases e2 : (o.s == 0) with
      | false => exact sOpOk13b o hp c8 c13 v1 v2 (d1 e1) e1 (by cases inB o.s 0 3 <;> simp) e2 w
      | true =>
      cases e3 : (o.to == 0) with
      | false => exact sOpOk13c o hp c8 c13 v1 v2 (d1 e1) e1 (d2 e2) e2 (by cases inB o.to 0 15 <;> simp) e3 w
      | true => exact sOpOk13d o hp c8 c13 v1 v2 (d1 e1) e1 (d2 e2) e2 (d3 e3) e3 w
    | false =>
      rcases good_or_bad f0 d1 with g1 | g1
      · rw [good_is g1]
        rcases good_or_bad f1 d2 with g2 | g2
        · rw [good_is g2]
          rcases good_or_bad f2 d3 with g3 | g3
          · rw [good_is g3]
            cases f3 with
            | true => exact sOpOkGood o _ _ _ _ hp c8 c13 g1 g2 g3 (.inl rfl) w
            | false =>
              cases z1 : (o.v.k == 0) with
              | false =>
                have : (o.v == Vl.zero) = false := by
                  refine beq_eq_false_iff_ne.2 (fun h => ?_)
                  rw [h] at z1
                  exact absurd z1 (by decide)
                rw [this]
                exact sOpOkBad4 o _ _ _ _ hp c8 c13 g1 g2 g3 rfl (.inl z1) w
              | true =>
              cases z2 : (o.v.n == 0) with
              | false =>
                have : (o.v == Vl.zero) = false := by
                  refine beq_eq_false_iff_ne.2 (fun h => ?_)
                  rw [h] at z2
                  exact absurd z2 (by decide)
                rw [this]
                exact sOpOkBad4 o _ _ _ _ hp c8 c13 g1 g2 g3 rfl (.inr ⟨z1, z2⟩) w
              | true =>
                have y1 := beq_iff_eq.1 z1
                have y2 := beq_iff_eq.1 z2
                have : (o.v == Vl.zero) = true := by
                  have : o.v = Vl.zero := by
                    cases hq : o.v with
                    | mk a b => rw [hq] at y1 y2; simp only at y1 y2; rw [y1, y2]; rfl
                  rw [this]; decide
                rw [this]
                exact sOpOkGood o _ _ _ _ hp c8 c13 g1 g2 g3 (.inr ⟨rfl, y1, y2⟩) w
          · rw [bad_is g3]
            exact sOpOkBad3 o _ _ _ _ hp c8 c13 g1 g2 g3 w
        · rw [bad_is g2]
          exact sOpOkBad2 o _ _ _ _ hp c8 c13 g1 g2 w
      · rw [bad_is g1]
        exact sOpOkBad1 o _ _ _ _ hp c8 c13 g1 w
end Go.Proofs.Ytmidnaafljgbiaa
