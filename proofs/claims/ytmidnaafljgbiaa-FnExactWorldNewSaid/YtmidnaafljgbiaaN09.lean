/- Parts of the proof, in one text. -/
import Derived.Test.YtmidnaafljgbiaaN08
/- What a step is: whether it is ok (value). -/
namespace Go.Proofs.Ytmidnaafljgbiaa
open Go.RowKit
set_option maxRecDepth 100000

set_option maxHeartbeats 4000000 in
theorem sOpOkBad4 (o : Opx) (f0 f1 f2 f3 : Bool) (hp : OpPre o f0 f1 f2 f3) (c8 : (o.k == 8) = false) (c13 : (o.k == 13) = false) (h1 : Good (inB o.r 0 3) f0 (o.r == 0)) (h2 : Good (inB o.s 0 3) f1 (o.s == 0)) (h3 : Good (inB o.to 0 15) f2 (o.to == 0)) (h3' : f3 = false) (hz : (o.v.k == 0) = false ∨ ((o.v.k == 0) = true ∧ (o.v.n == 0) = false)) (w : World) : Calls Try.prog 113 #[.agg (opArr o)] w fun e w' => e = .returned (.bool false) ∧ Below w.heap.size w w' := by
  obtain ⟨k, r, s, to, ⟨vk, vn⟩⟩ := o
  simp only [opArr] at *
  have HV := Lib.hid (fun W => sValOk ⟨vk, vn⟩ W)
  rw [hp.2] at HV
  have HS := Lib.hid (fun n W => sSlot n W)
  have HT := Lib.hid (fun n W => sToIn n W)
  have HI := Lib.hid (fun n lo hi W => sIn n lo hi W)
  have HG := Lib.hid (fun W (L : List Asn) (M : Mem w [] W L) => sFormAt hp.1 M)
  clear hp
  have M := Mem.nil w
  have AL := add_lit0
  subst h3'
  rcases h1 with ⟨i1, rfl⟩ | ⟨i1, rfl, e1⟩ <;> rcases h2 with ⟨i2, rfl⟩ | ⟨i2, rfl, e2⟩ <;> rcases h3 with ⟨i3, rfl⟩ | ⟨i3, rfl, e3⟩ <;> rcases hz with z1 | ⟨z1, z2⟩
  all_goals
    · go_enter Try.func113, Try.ntmps113
      go_wp2_with (first
        | (with_reducible refine alAw M ?_; clear M; (try clear F); intro w1 M F)
        | (go_at_call 126; (refine nmKw ?_; clear M; (try clear F); intro w1 M F); refine (HG.out _ _ M).mono ?_; clear M; rintro e w2 ⟨g, c, rfl, M⟩; (try clear F); have F := fxw M; have EB := elemB M .here)
        | (go_at_call 42; (refine nmKw ?_; clear M; (try clear F); intro w1 M F); refine (HV.out _).mono ?_; rintro e w2 ⟨rfl, hb⟩; replace M := M.below hb; clear hb; (try clear F); have F := fxw M; clear EB; have EB := elemB M dl)
        | (go_at_call 89; (refine nmKw ?_; clear M; (try clear F); intro w1 M F); clear EB; have EB := elemB M dl; refine (HS.out _ _).mono ?_; rintro e w2 ⟨rfl, rfl⟩)
        | (go_at_call 81; (refine nmKw ?_; clear M; (try clear F); intro w1 M F); clear EB; have EB := elemB M dl; refine (HT.out _ _).mono ?_; rintro e w2 ⟨rfl, rfl⟩)
        | (go_at_call 80; (refine nmKw ?_; clear M; (try clear F); intro w1 M F); clear EB; have EB := elemB M dl; refine (HI.out _ _ _ _).mono ?_; rintro e w2 ⟨rfl, rfl⟩))
      go_ret
      exact ⟨rfl, M.toBelow⟩
end Go.Proofs.Ytmidnaafljgbiaa
/- What a step is: whether it is ok (that waits). -/
namespace Go.Proofs.Ytmidnaafljgbiaa
open Go.RowKit
set_option maxRecDepth 100000

set_option maxHeartbeats 4000000 in
theorem sOpOk8v (o : Opx) (hp : OpPre o true true true true) (c8 : (o.k == 8) = true) (hv : (o.v.k != 1) = true ∨ ((o.v.k != 1) = false ∧ decide (o.v.n < 1) = true)) (w : World) : Calls Try.prog 113 #[.agg (opArr o)] w fun e w' => e = .returned (.bool false) ∧ Below w.heap.size w w' := by
  obtain ⟨k, r, s, to, ⟨vk, vn⟩⟩ := o
  simp only [opArr] at *
  have HV := Lib.hid (fun W => sValOk ⟨vk, vn⟩ W)
  rw [hp.2] at HV
  have HS := Lib.hid (fun n W => sSlot n W)
  have HT := Lib.hid (fun n W => sToIn n W)
  have HI := Lib.hid (fun n lo hi W => sIn n lo hi W)
  have HG := Lib.hid (fun W (L : List Asn) (M : Mem w [] W L) => sFormAt hp.1 M)
  clear hp
  have M := Mem.nil w
  have AL := add_lit0
  rcases hv with v1 | ⟨v1, v2⟩
  all_goals
    · go_enter Try.func113, Try.ntmps113
      go_wp2_with (first
        | (with_reducible refine alAw M ?_; clear M; (try clear F); intro w1 M F)
        | (go_at_call 126; (refine nmKw ?_; clear M; (try clear F); intro w1 M F); refine (HG.out _ _ M).mono ?_; clear M; rintro e w2 ⟨g, c, rfl, M⟩; (try clear F); have F := fxw M; have EB := elemB M .here)
        | (go_at_call 42; (refine nmKw ?_; clear M; (try clear F); intro w1 M F); refine (HV.out _).mono ?_; rintro e w2 ⟨rfl, hb⟩; replace M := M.below hb; clear hb; (try clear F); have F := fxw M; clear EB; have EB := elemB M dl)
        | (go_at_call 89; (refine nmKw ?_; clear M; (try clear F); intro w1 M F); clear EB; have EB := elemB M dl; refine (HS.out _ _).mono ?_; rintro e w2 ⟨rfl, rfl⟩)
        | (go_at_call 81; (refine nmKw ?_; clear M; (try clear F); intro w1 M F); clear EB; have EB := elemB M dl; refine (HT.out _ _).mono ?_; rintro e w2 ⟨rfl, rfl⟩)
        | (go_at_call 80; (refine nmKw ?_; clear M; (try clear F); intro w1 M F); clear EB; have EB := elemB M dl; refine (HI.out _ _ _ _).mono ?_; rintro e w2 ⟨rfl, rfl⟩))
      go_ret
      exact ⟨rfl, M.toBelow⟩
set_option maxHeartbeats 4000000 in
theorem sOpOk8a (o : Opx) (hp : OpPre o true true true true) (c8 : (o.k == 8) = true) (v1 : (o.v.k != 1) = false) (v2 : decide (o.v.n < 1) = false) (h1 : inB o.r 0 3 = false) (e1 : (o.r == 0) = false) (w : World) : Calls Try.prog 113 #[.agg (opArr o)] w fun e w' => e = .returned (.bool false) ∧ Below w.heap.size w w' := by
  obtain ⟨k, r, s, to, ⟨vk, vn⟩⟩ := o
  simp only [opArr] at *
  have HV := Lib.hid (fun W => sValOk ⟨vk, vn⟩ W)
  rw [hp.2] at HV
  have HS := Lib.hid (fun n W => sSlot n W)
  have HT := Lib.hid (fun n W => sToIn n W)
  have HI := Lib.hid (fun n lo hi W => sIn n lo hi W)
  have HG := Lib.hid (fun W (L : List Asn) (M : Mem w [] W L) => sFormAt hp.1 M)
  clear hp
  have M := Mem.nil w
  have AL := add_lit0
  skip
  all_goals
    · go_enter Try.func113, Try.ntmps113
      go_wp2_with (first
        | (with_reducible refine alAw M ?_; clear M; (try clear F); intro w1 M F)
        | (go_at_call 126; (refine nmKw ?_; clear M; (try clear F); intro w1 M F); refine (HG.out _ _ M).mono ?_; clear M; rintro e w2 ⟨g, c, rfl, M⟩; (try clear F); have F := fxw M; have EB := elemB M .here)
        | (go_at_call 42; (refine nmKw ?_; clear M; (try clear F); intro w1 M F); refine (HV.out _).mono ?_; rintro e w2 ⟨rfl, hb⟩; replace M := M.below hb; clear hb; (try clear F); have F := fxw M; clear EB; have EB := elemB M dl)
        | (go_at_call 89; (refine nmKw ?_; clear M; (try clear F); intro w1 M F); clear EB; have EB := elemB M dl; refine (HS.out _ _).mono ?_; rintro e w2 ⟨rfl, rfl⟩)
        | (go_at_call 81; (refine nmKw ?_; clear M; (try clear F); intro w1 M F); clear EB; have EB := elemB M dl; refine (HT.out _ _).mono ?_; rintro e w2 ⟨rfl, rfl⟩)
        | (go_at_call 80; (refine nmKw ?_; clear M; (try clear F); intro w1 M F); clear EB; have EB := elemB M dl; refine (HI.out _ _ _ _).mono ?_; rintro e w2 ⟨rfl, rfl⟩))
      go_ret
      exact ⟨rfl, M.toBelow⟩
set_option maxHeartbeats 4000000 in
theorem sOpOk8b (o : Opx) (hp : OpPre o true true true true) (c8 : (o.k == 8) = true) (v1 : (o.v.k != 1) = false) (v2 : decide (o.v.n < 1) = false) (h1 : inB o.r 0 3 = true) (h2 : inB o.s 0 3 = false) (e2 : (o.s == 0) = false) (w : World) : Calls Try.prog 113 #[.agg (opArr o)] w fun e w' => e = .returned (.bool false) ∧ Below w.heap.size w w' := by
  obtain ⟨k, r, s, to, ⟨vk, vn⟩⟩ := o
  simp only [opArr] at *
  have HV := Lib.hid (fun W => sValOk ⟨vk, vn⟩ W)
  rw [hp.2] at HV
  have HS := Lib.hid (fun n W => sSlot n W)
  have HT := Lib.hid (fun n W => sToIn n W)
  have HI := Lib.hid (fun n lo hi W => sIn n lo hi W)
  have HG := Lib.hid (fun W (L : List Asn) (M : Mem w [] W L) => sFormAt hp.1 M)
  clear hp
  have M := Mem.nil w
  have AL := add_lit0
  skip
  all_goals
    · go_enter Try.func113, Try.ntmps113
      go_wp2_with (first
        | (with_reducible refine alAw M ?_; clear M; (try clear F); intro w1 M F)
        | (go_at_call 126; (refine nmKw ?_; clear M; (try clear F); intro w1 M F); refine (HG.out _ _ M).mono ?_; clear M; rintro e w2 ⟨g, c, rfl, M⟩; (try clear F); have F := fxw M; have EB := elemB M .here)
        | (go_at_call 42; (refine nmKw ?_; clear M; (try clear F); intro w1 M F); refine (HV.out _).mono ?_; rintro e w2 ⟨rfl, hb⟩; replace M := M.below hb; clear hb; (try clear F); have F := fxw M; clear EB; have EB := elemB M dl)
        | (go_at_call 89; (refine nmKw ?_; clear M; (try clear F); intro w1 M F); clear EB; have EB := elemB M dl; refine (HS.out _ _).mono ?_; rintro e w2 ⟨rfl, rfl⟩)
        | (go_at_call 81; (refine nmKw ?_; clear M; (try clear F); intro w1 M F); clear EB; have EB := elemB M dl; refine (HT.out _ _).mono ?_; rintro e w2 ⟨rfl, rfl⟩)
        | (go_at_call 80; (refine nmKw ?_; clear M; (try clear F); intro w1 M F); clear EB; have EB := elemB M dl; refine (HI.out _ _ _ _).mono ?_; rintro e w2 ⟨rfl, rfl⟩))
      go_ret
      exact ⟨rfl, M.toBelow⟩
set_option maxHeartbeats 4000000 in
theorem sOpOk8c (o : Opx) (hp : OpPre o true true true true) (c8 : (o.k == 8) = true) (v1 : (o.v.k != 1) = false) (v2 : decide (o.v.n < 1) = false) (h1 : inB o.r 0 3 = true) (h2 : inB o.s 0 3 = true) (h3 : inB o.to 0 15 = false) (e3 : (o.to == 0) = false) (w : World) : Calls Try.prog 113 #[.agg (opArr o)] w fun e w' => e = .returned (.bool false) ∧ Below w.heap.size w w' := by
  obtain ⟨k, r, s, to, ⟨vk, vn⟩⟩ := o
  simp only [opArr] at *
  have HV := Lib.hid (fun W => sValOk ⟨vk, vn⟩ W)
  rw [hp.2] at HV
  have HS := Lib.hid (fun n W => sSlot n W)
  have HT := Lib.hid (fun n W => sToIn n W)
  have HI := Lib.hid (fun n lo hi W => sIn n lo hi W)
  have HG := Lib.hid (fun W (L : List Asn) (M : Mem w [] W L) => sFormAt hp.1 M)
  clear hp
  have M := Mem.nil w
  have AL := add_lit0
  skip
  all_goals
    · go_enter Try.func113, Try.ntmps113
      go_wp2_with (first
        | (with_reducible refine alAw M ?_; clear M; (try clear F); intro w1 M F)
        | (go_at_call 126; (refine nmKw ?_; clear M; (try clear F); intro w1 M F); refine (HG.out _ _ M).mono ?_; clear M; rintro e w2 ⟨g, c, rfl, M⟩; (try clear F); have F := fxw M; have EB := elemB M .here)
        | (go_at_call 42; (refine nmKw ?_; clear M; (try clear F); intro w1 M F); refine (HV.out _).mono ?_; rintro e w2 ⟨rfl, hb⟩; replace M := M.below hb; clear hb; (try clear F); have F := fxw M; clear EB; have EB := elemB M dl)
        | (go_at_call 89; (refine nmKw ?_; clear M; (try clear F); intro w1 M F); clear EB; have EB := elemB M dl; refine (HS.out _ _).mono ?_; rintro e w2 ⟨rfl, rfl⟩)
        | (go_at_call 81; (refine nmKw ?_; clear M; (try clear F); intro w1 M F); clear EB; have EB := elemB M dl; refine (HT.out _ _).mono ?_; rintro e w2 ⟨rfl, rfl⟩)
        | (go_at_call 80; (refine nmKw ?_; clear M; (try clear F); intro w1 M F); clear EB; have EB := elemB M dl; refine (HI.out _ _ _ _).mono ?_; rintro e w2 ⟨rfl, rfl⟩))
      go_ret
      exact ⟨rfl, M.toBelow⟩
set_option maxHeartbeats 4000000 in
theorem sOpOk8d (o : Opx) (hp : OpPre o true true true true) (c8 : (o.k == 8) = true) (v1 : (o.v.k != 1) = false) (v2 : decide (o.v.n < 1) = false) (h1 : inB o.r 0 3 = true) (h2 : inB o.s 0 3 = true) (h3 : inB o.to 0 15 = true) (w : World) : Calls Try.prog 113 #[.agg (opArr o)] w fun e w' => e = .returned (.bool true) ∧ Below w.heap.size w w' := by
  obtain ⟨k, r, s, to, ⟨vk, vn⟩⟩ := o
  simp only [opArr] at *
  have HV := Lib.hid (fun W => sValOk ⟨vk, vn⟩ W)
  rw [hp.2] at HV
  have HS := Lib.hid (fun n W => sSlot n W)
  have HT := Lib.hid (fun n W => sToIn n W)
  have HI := Lib.hid (fun n lo hi W => sIn n lo hi W)
  have HG := Lib.hid (fun W (L : List Asn) (M : Mem w [] W L) => sFormAt hp.1 M)
  clear hp
  have M := Mem.nil w
  have AL := add_lit0
  skip
  all_goals
    · go_enter Try.func113, Try.ntmps113
      go_wp2_with (first
        | (with_reducible refine alAw M ?_; clear M; (try clear F); intro w1 M F)
        | (go_at_call 126; (refine nmKw ?_; clear M; (try clear F); intro w1 M F); refine (HG.out _ _ M).mono ?_; clear M; rintro e w2 ⟨g, c, rfl, M⟩; (try clear F); have F := fxw M; have EB := elemB M .here)
        | (go_at_call 42; (refine nmKw ?_; clear M; (try clear F); intro w1 M F); refine (HV.out _).mono ?_; rintro e w2 ⟨rfl, hb⟩; replace M := M.below hb; clear hb; (try clear F); have F := fxw M; clear EB; have EB := elemB M dl)
        | (go_at_call 89; (refine nmKw ?_; clear M; (try clear F); intro w1 M F); clear EB; have EB := elemB M dl; refine (HS.out _ _).mono ?_; rintro e w2 ⟨rfl, rfl⟩)
        | (go_at_call 81; (refine nmKw ?_; clear M; (try clear F); intro w1 M F); clear EB; have EB := elemB M dl; refine (HT.out _ _).mono ?_; rintro e w2 ⟨rfl, rfl⟩)
        | (go_at_call 80; (refine nmKw ?_; clear M; (try clear F); intro w1 M F); clear EB; have EB := elemB M dl; refine (HI.out _ _ _ _).mono ?_; rintro e w2 ⟨rfl, rfl⟩))
      go_ret
      exact ⟨rfl, M.toBelow⟩
end Go.Proofs.Ytmidnaafljgbiaa
/- What a step is: whether it is ok (that traps). -/
namespace Go.Proofs.Ytmidnaafljgbiaa
open Go.RowKit
set_option maxRecDepth 100000

set_option maxHeartbeats 4000000 in
theorem sOpOk13v (o : Opx) (hp : OpPre o false false false true) (c8 : (o.k == 8) = false) (c13 : (o.k == 13) = true) (hv : (o.v.k != 1) = true ∨ ((o.v.k != 1) = false ∧ inB o.v.n 0 1 = false)) (w : World) : Calls Try.prog 113 #[.agg (opArr o)] w fun e w' => e = .returned (.bool false) ∧ Below w.heap.size w w' := by
  obtain ⟨k, r, s, to, ⟨vk, vn⟩⟩ := o
  simp only [opArr] at *
  have HV := Lib.hid (fun W => sValOk ⟨vk, vn⟩ W)
  rw [hp.2] at HV
  have HS := Lib.hid (fun n W => sSlot n W)
  have HT := Lib.hid (fun n W => sToIn n W)
  have HI := Lib.hid (fun n lo hi W => sIn n lo hi W)
  have HG := Lib.hid (fun W (L : List Asn) (M : Mem w [] W L) => sFormAt hp.1 M)
  clear hp
  have M := Mem.nil w
  have AL := add_lit0
  rcases hv with v1 | ⟨v1, v2⟩
  all_goals
    · go_enter Try.func113, Try.ntmps113
      go_wp2_with (first
        | (with_reducible refine alAw M ?_; clear M; (try clear F); intro w1 M F)
        | (go_at_call 126; (refine nmKw ?_; clear M; (try clear F); intro w1 M F); refine (HG.out _ _ M).mono ?_; clear M; rintro e w2 ⟨g, c, rfl, M⟩; (try clear F); have F := fxw M; have EB := elemB M .here)
        | (go_at_call 42; (refine nmKw ?_; clear M; (try clear F); intro w1 M F); refine (HV.out _).mono ?_; rintro e w2 ⟨rfl, hb⟩; replace M := M.below hb; clear hb; (try clear F); have F := fxw M; clear EB; have EB := elemB M dl)
        | (go_at_call 89; (refine nmKw ?_; clear M; (try clear F); intro w1 M F); clear EB; have EB := elemB M dl; refine (HS.out _ _).mono ?_; rintro e w2 ⟨rfl, rfl⟩)
        | (go_at_call 81; (refine nmKw ?_; clear M; (try clear F); intro w1 M F); clear EB; have EB := elemB M dl; refine (HT.out _ _).mono ?_; rintro e w2 ⟨rfl, rfl⟩)
        | (go_at_call 80; (refine nmKw ?_; clear M; (try clear F); intro w1 M F); clear EB; have EB := elemB M dl; refine (HI.out _ _ _ _).mono ?_; rintro e w2 ⟨rfl, rfl⟩))
      go_ret
      exact ⟨rfl, M.toBelow⟩
set_option maxHeartbeats 4000000 in
theorem sOpOk13a (o : Opx) (hp : OpPre o false false false true) (c8 : (o.k == 8) = false) (c13 : (o.k == 13) = true) (v1 : (o.v.k != 1) = false) (v2 : inB o.v.n 0 1 = true) (h1 : inB o.r 0 3 = false ∨ inB o.r 0 3 = true) (e1 : (o.r == 0) = false) (w : World) : Calls Try.prog 113 #[.agg (opArr o)] w fun e w' => e = .returned (.bool false) ∧ Below w.heap.size w w' := by
  obtain ⟨k, r, s, to, ⟨vk, vn⟩⟩ := o
  simp only [opArr] at *
  have HV := Lib.hid (fun W => sValOk ⟨vk, vn⟩ W)
  rw [hp.2] at HV
  have HS := Lib.hid (fun n W => sSlot n W)
  have HT := Lib.hid (fun n W => sToIn n W)
  have HI := Lib.hid (fun n lo hi W => sIn n lo hi W)
  have HG := Lib.hid (fun W (L : List Asn) (M : Mem w [] W L) => sFormAt hp.1 M)
  clear hp
  have M := Mem.nil w
  have AL := add_lit0
  rcases h1 with h1 | h1
  all_goals
    · go_enter Try.func113, Try.ntmps113
      go_wp2_with (first
        | (with_reducible refine alAw M ?_; clear M; (try clear F); intro w1 M F)
        | (go_at_call 126; (refine nmKw ?_; clear M; (try clear F); intro w1 M F); refine (HG.out _ _ M).mono ?_; clear M; rintro e w2 ⟨g, c, rfl, M⟩; (try clear F); have F := fxw M; have EB := elemB M .here)
        | (go_at_call 42; (refine nmKw ?_; clear M; (try clear F); intro w1 M F); refine (HV.out _).mono ?_; rintro e w2 ⟨rfl, hb⟩; replace M := M.below hb; clear hb; (try clear F); have F := fxw M; clear EB; have EB := elemB M dl)
        | (go_at_call 89; (refine nmKw ?_; clear M; (try clear F); intro w1 M F); clear EB; have EB := elemB M dl; refine (HS.out _ _).mono ?_; rintro e w2 ⟨rfl, rfl⟩)
        | (go_at_call 81; (refine nmKw ?_; clear M; (try clear F); intro w1 M F); clear EB; have EB := elemB M dl; refine (HT.out _ _).mono ?_; rintro e w2 ⟨rfl, rfl⟩)
        | (go_at_call 80; (refine nmKw ?_; clear M; (try clear F); intro w1 M F); clear EB; have EB := elemB M dl; refine (HI.out _ _ _ _).mono ?_; rintro e w2 ⟨rfl, rfl⟩))
      go_ret
      exact ⟨rfl, M.toBelow⟩
set_option maxHeartbeats 4000000 in
theorem sOpOk13b (o : Opx) (hp : OpPre o false false false true) (c8 : (o.k == 8) = false) (c13 : (o.k == 13) = true) (v1 : (o.v.k != 1) = false) (v2 : inB o.v.n 0 1 = true) (h1 : inB o.r 0 3 = true) (e1 : (o.r == 0) = true) (h2 : inB o.s 0 3 = false ∨ inB o.s 0 3 = true) (e2 : (o.s == 0) = false) (w : World) : Calls Try.prog 113 #[.agg (opArr o)] w fun e w' => e = .returned (.bool false) ∧ Below w.heap.size w w' := by
  obtain ⟨k, r, s, to, ⟨vk, vn⟩⟩ := o
  simp only [opArr] at *
  have HV := Lib.hid (fun W => sValOk ⟨vk, vn⟩ W)
  rw [hp.2] at HV
  have HS := Lib.hid (fun n W => sSlot n W)
  have HT := Lib.hid (fun n W => sToIn n W)
  have HI := Lib.hid (fun n lo hi W => sIn n lo hi W)
  have HG := Lib.hid (fun W (L : List Asn) (M : Mem w [] W L) => sFormAt hp.1 M)
  clear hp
  have M := Mem.nil w
  have AL := add_lit0
  rcases h2 with h2 | h2
  all_goals
    · go_enter Try.func113, Try.ntmps113
      go_wp2_with (first
        | (with_reducible refine alAw M ?_; clear M; (try clear F); intro w1 M F)
        | (go_at_call 126; (refine nmKw ?_; clear M; (try clear F); intro w1 M F); refine (HG.out _ _ M).mono ?_; clear M; rintro e w2 ⟨g, c, rfl, M⟩; (try clear F); have F := fxw M; have EB := elemB M .here)
        | (go_at_call 42; (refine nmKw ?_; clear M; (try clear F); intro w1 M F); refine (HV.out _).mono ?_; rintro e w2 ⟨rfl, hb⟩; replace M := M.below hb; clear hb; (try clear F); have F := fxw M; clear EB; have EB := elemB M dl)
        | (go_at_call 89; (refine nmKw ?_; clear M; (try clear F); intro w1 M F); clear EB; have EB := elemB M dl; refine (HS.out _ _).mono ?_; rintro e w2 ⟨rfl, rfl⟩)
        | (go_at_call 81; (refine nmKw ?_; clear M; (try clear F); intro w1 M F); clear EB; have EB := elemB M dl; refine (HT.out _ _).mono ?_; rintro e w2 ⟨rfl, rfl⟩)
        | (go_at_call 80; (refine nmKw ?_; clear M; (try clear F); intro w1 M F); clear EB; have EB := elemB M dl; refine (HI.out _ _ _ _).mono ?_; rintro e w2 ⟨rfl, rfl⟩))
      go_ret
      exact ⟨rfl, M.toBelow⟩
set_option maxHeartbeats 4000000 in
theorem sOpOk13c (o : Opx) (hp : OpPre o false false false true) (c8 : (o.k == 8) = false) (c13 : (o.k == 13) = true) (v1 : (o.v.k != 1) = false) (v2 : inB o.v.n 0 1 = true) (h1 : inB o.r 0 3 = true) (e1 : (o.r == 0) = true) (h2 : inB o.s 0 3 = true) (e2 : (o.s == 0) = true) (h3 : inB o.to 0 15 = false ∨ inB o.to 0 15 = true) (e3 : (o.to == 0) = false) (w : World) : Calls Try.prog 113 #[.agg (opArr o)] w fun e w' => e = .returned (.bool false) ∧ Below w.heap.size w w' := by
  obtain ⟨k, r, s, to, ⟨vk, vn⟩⟩ := o
  simp only [opArr] at *
  have HV := Lib.hid (fun W => sValOk ⟨vk, vn⟩ W)
  rw [hp.2] at HV
  have HS := Lib.hid (fun n W => sSlot n W)
  have HT := Lib.hid (fun n W => sToIn n W)
  have HI := Lib.hid (fun n lo hi W => sIn n lo hi W)
  have HG := Lib.hid (fun W (L : List Asn) (M : Mem w [] W L) => sFormAt hp.1 M)
  clear hp
  have M := Mem.nil w
  have AL := add_lit0
  rcases h3 with h3 | h3
  all_goals
    · go_enter Try.func113, Try.ntmps113
      go_wp2_with (first
        | (with_reducible refine alAw M ?_; clear M; (try clear F); intro w1 M F)
        | (go_at_call 126; (refine nmKw ?_; clear M; (try clear F); intro w1 M F); refine (HG.out _ _ M).mono ?_; clear M; rintro e w2 ⟨g, c, rfl, M⟩; (try clear F); have F := fxw M; have EB := elemB M .here)
        | (go_at_call 42; (refine nmKw ?_; clear M; (try clear F); intro w1 M F); refine (HV.out _).mono ?_; rintro e w2 ⟨rfl, hb⟩; replace M := M.below hb; clear hb; (try clear F); have F := fxw M; clear EB; have EB := elemB M dl)
        | (go_at_call 89; (refine nmKw ?_; clear M; (try clear F); intro w1 M F); clear EB; have EB := elemB M dl; refine (HS.out _ _).mono ?_; rintro e w2 ⟨rfl, rfl⟩)
        | (go_at_call 81; (refine nmKw ?_; clear M; (try clear F); intro w1 M F); clear EB; have EB := elemB M dl; refine (HT.out _ _).mono ?_; rintro e w2 ⟨rfl, rfl⟩)
        | (go_at_call 80; (refine nmKw ?_; clear M; (try clear F); intro w1 M F); clear EB; have EB := elemB M dl; refine (HI.out _ _ _ _).mono ?_; rintro e w2 ⟨rfl, rfl⟩))
      go_ret
      exact ⟨rfl, M.toBelow⟩
set_option maxHeartbeats 4000000 in
theorem sOpOk13d (o : Opx) (hp : OpPre o false false false true) (c8 : (o.k == 8) = false) (c13 : (o.k == 13) = true) (v1 : (o.v.k != 1) = false) (v2 : inB o.v.n 0 1 = true) (h1 : inB o.r 0 3 = true) (e1 : (o.r == 0) = true) (h2 : inB o.s 0 3 = true) (e2 : (o.s == 0) = true) (h3 : inB o.to 0 15 = true) (e3 : (o.to == 0) = true) (w : World) : Calls Try.prog 113 #[.agg (opArr o)] w fun e w' => e = .returned (.bool true) ∧ Below w.heap.size w w' := by
  obtain ⟨k, r, s, to, ⟨vk, vn⟩⟩ := o
  simp only [opArr] at *
  have HV := Lib.hid (fun W => sValOk ⟨vk, vn⟩ W)
  rw [hp.2] at HV
  have HS := Lib.hid (fun n W => sSlot n W)
  have HT := Lib.hid (fun n W => sToIn n W)
  have HI := Lib.hid (fun n lo hi W => sIn n lo hi W)
  have HG := Lib.hid (fun W (L : List Asn) (M : Mem w [] W L) => sFormAt hp.1 M)
  clear hp
  have M := Mem.nil w
  have AL := add_lit0
  skip
  all_goals
    · go_enter Try.func113, Try.ntmps113
      go_wp2_with (first
        | (with_reducible refine alAw M ?_; clear M; (try clear F); intro w1 M F)
        | (go_at_call 126; (refine nmKw ?_; clear M; (try clear F); intro w1 M F); refine (HG.out _ _ M).mono ?_; clear M; rintro e w2 ⟨g, c, rfl, M⟩; (try clear F); have F := fxw M; have EB := elemB M .here)
        | (go_at_call 42; (refine nmKw ?_; clear M; (try clear F); intro w1 M F); refine (HV.out _).mono ?_; rintro e w2 ⟨rfl, hb⟩; replace M := M.below hb; clear hb; (try clear F); have F := fxw M; clear EB; have EB := elemB M dl)
        | (go_at_call 89; (refine nmKw ?_; clear M; (try clear F); intro w1 M F); clear EB; have EB := elemB M dl; refine (HS.out _ _).mono ?_; rintro e w2 ⟨rfl, rfl⟩)
        | (go_at_call 81; (refine nmKw ?_; clear M; (try clear F); intro w1 M F); clear EB; have EB := elemB M dl; refine (HT.out _ _).mono ?_; rintro e w2 ⟨rfl, rfl⟩)
        | (go_at_call 80; (refine nmKw ?_; clear M; (try clear F); intro w1 M F); clear EB; have EB := elemB M dl; refine (HI.out _ _ _ _).mono ?_; rintro e w2 ⟨rfl, rfl⟩))
      go_ret
      exact ⟨rfl, M.toBelow⟩
end Go.Proofs.Ytmidnaafljgbiaa
