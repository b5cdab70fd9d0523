/- Parts of the proof, in one text. -/
import Derived.Test.YtmidnaafljgbiaaN07
/- What a step is: whether it is ok. -/
namespace Go.Proofs.Ytmidnaafljgbiaa
open Go.RowKit
set_option maxRecDepth 100000

def Good (x f e : Bool) : Prop := (x = true ∧ f = true) ∨ (x = true ∧ f = false ∧ e = true)
def Bad (x f e : Bool) : Prop := (x = false ∧ e = false) ∨ (x = true ∧ f = false ∧ e = false)
theorem good_or_bad {x e : Bool} (f : Bool) (h : e = true → x = true) : Good x f e ∨ Bad x f e := by
  cases x <;> cases f <;> cases e <;> simp_all [Good, Bad]
theorem good_is {x f e : Bool} (h : Good x f e) : (x && f || e) = true := by rcases h with ⟨rfl, rfl⟩ | ⟨rfl, rfl, rfl⟩ <;> rfl
theorem bad_is {x f e : Bool} (h : Bad x f e) : (x && f || e) = false := by rcases h with ⟨rfl, rfl⟩ | ⟨rfl, rfl, rfl⟩ <;> rfl
def OpPre (o : Opx) (f0 f1 f2 f3 : Bool) : Prop := opForm o.k = [f0, f1, f2, f3] ∧ valOk o.v = true
set_option maxHeartbeats 4000000 in
theorem sOpOkBad1 (o : Opx) (f0 f1 f2 f3 : Bool) (hp : OpPre o f0 f1 f2 f3) (c8 : (o.k == 8) = false) (c13 : (o.k == 13) = false) (h1 : Bad (inB o.r 0 3) f0 (o.r == 0)) (w : World) : Calls Try.prog 113 #[.agg (opArr o)] w fun e w' => e = .returned (.bool false) ∧ Below w.heap.size w w' := by
  obtain ⟨k, r, s, to, ⟨vk, vn⟩⟩ := o
  simp only [opArr] at *
  have HV := Lib.hid (fun W => sValOk ⟨vk, vn⟩ W)
  rw [hp.2] at HV
  have HS := Lib.hid (fun n W => sSlot n W)
  have HT := Lib.hid (fun n W => sToIn n W)
  have HI := Lib.hid (fun n lo hi W => sIn n lo hi W)
  have HG := Lib.hid (fun W (L : List Asn) (M : Mem w [] W L) => sFormAt hp.1 M)
  clear hp
  have M := Mem.nil w
  have AL := add_lit0
  rcases h1 with ⟨i1, e1⟩ | ⟨i1, rfl, e1⟩
  all_goals
    · go_enter Try.func113, Try.ntmps113
      go_wp2_with (first
        | (with_reducible refine alAw M ?_; clear M; (try clear F); intro w1 M F)
        | (go_at_call 126; (refine nmKw ?_; clear M; (try clear F); intro w1 M F); refine (HG.out _ _ M).mono ?_; clear M; rintro e w2 ⟨g, c, rfl, M⟩; (try clear F); have F := fxw M; have EB := elemB M .here)
        | (go_at_call 42; (refine nmKw ?_; clear M; (try clear F); intro w1 M F); refine (HV.out _).mono ?_; rintro e w2 ⟨rfl, hb⟩; replace M := M.below hb; clear hb; (try clear F); have F := fxw M; clear EB; have EB := elemB M dl)
        | (go_at_call 89; (refine nmKw ?_; clear M; (try clear F); intro w1 M F); clear EB; have EB := elemB M dl; refine (HS.out _ _).mono ?_; rintro e w2 ⟨rfl, rfl⟩)
        | (go_at_call 81; (refine nmKw ?_; clear M; (try clear F); intro w1 M F); clear EB; have EB := elemB M dl; refine (HT.out _ _).mono ?_; rintro e w2 ⟨rfl, rfl⟩)
        | (go_at_call 80; (refine nmKw ?_; clear M; (try clear F); intro w1 M F); clear EB; have EB := elemB M dl; refine (HI.out _ _ _ _).mono ?_; rintro e w2 ⟨rfl, rfl⟩))
      go_ret
      exact ⟨rfl, M.toBelow⟩
set_option maxHeartbeats 4000000 in
theorem sOpOkBad2 (o : Opx) (f0 f1 f2 f3 : Bool) (hp : OpPre o f0 f1 f2 f3) (c8 : (o.k == 8) = false) (c13 : (o.k == 13) = false) (h1 : Good (inB o.r 0 3) f0 (o.r == 0)) (h2 : Bad (inB o.s 0 3) f1 (o.s == 0)) (w : World) : Calls Try.prog 113 #[.agg (opArr o)] w fun e w' => e = .returned (.bool false) ∧ Below w.heap.size w w' := by
  obtain ⟨k, r, s, to, ⟨vk, vn⟩⟩ := o
  simp only [opArr] at *
  have HV := Lib.hid (fun W => sValOk ⟨vk, vn⟩ W)
  rw [hp.2] at HV
  have HS := Lib.hid (fun n W => sSlot n W)
  have HT := Lib.hid (fun n W => sToIn n W)
  have HI := Lib.hid (fun n lo hi W => sIn n lo hi W)
  have HG := Lib.hid (fun W (L : List Asn) (M : Mem w [] W L) => sFormAt hp.1 M)
  clear hp
  have M := Mem.nil w
  have AL := add_lit0
  rcases h1 with ⟨i1, rfl⟩ | ⟨i1, rfl, e1⟩ <;> rcases h2 with ⟨i2, e2⟩ | ⟨i2, rfl, e2⟩
  all_goals
    · go_enter Try.func113, Try.ntmps113
      go_wp2_with (first
        | (with_reducible refine alAw M ?_; clear M; (try clear F); intro w1 M F)
        | (go_at_call 126; (refine nmKw ?_; clear M; (try clear F); intro w1 M F); refine (HG.out _ _ M).mono ?_; clear M; rintro e w2 ⟨g, c, rfl, M⟩; (try clear F); have F := fxw M; have EB := elemB M .here)
        | (go_at_call 42; (refine nmKw ?_; clear M; (try clear F); intro w1 M F); refine (HV.out _).mono ?_; rintro e w2 ⟨rfl, hb⟩; replace M := M.below hb; clear hb; (try clear F); have F := fxw M; clear EB; have EB := elemB M dl)
        | (go_at_call 89; (refine nmKw ?_; clear M; (try clear F); intro w1 M F); clear EB; have EB := elemB M dl; refine (HS.out _ _).mono ?_; rintro e w2 ⟨rfl, rfl⟩)
        | (go_at_call 81; (refine nmKw ?_; clear M; (try clear F); intro w1 M F); clear EB; have EB := elemB M dl; refine (HT.out _ _).mono ?_; rintro e w2 ⟨rfl, rfl⟩)
        | (go_at_call 80; (refine nmKw ?_; clear M; (try clear F); intro w1 M F); clear EB; have EB := elemB M dl; refine (HI.out _ _ _ _).mono ?_; rintro e w2 ⟨rfl, rfl⟩))
      go_ret
      exact ⟨rfl, M.toBelow⟩
end Go.Proofs.Ytmidnaafljgbiaa
/- What a step is: whether it is ok (on). -/
namespace Go.Proofs.Ytmidnaafljgbiaa
open Go.RowKit
set_option maxRecDepth 100000

set_option maxHeartbeats 4000000 in
theorem sOpOkBad3 (o : Opx) (f0 f1 f2 f3 : Bool) (hp : OpPre o f0 f1 f2 f3) (c8 : (o.k == 8) = false) (c13 : (o.k == 13) = false) (h1 : Good (inB o.r 0 3) f0 (o.r == 0)) (h2 : Good (inB o.s 0 3) f1 (o.s == 0)) (h3 : Bad (inB o.to 0 15) f2 (o.to == 0)) (w : World) : Calls Try.prog 113 #[.agg (opArr o)] w fun e w' => e = .returned (.bool false) ∧ Below w.heap.size w w' := by
  obtain ⟨k, r, s, to, ⟨vk, vn⟩⟩ := o
  simp only [opArr] at *
  have HV := Lib.hid (fun W => sValOk ⟨vk, vn⟩ W)
  rw [hp.2] at HV
  have HS := Lib.hid (fun n W => sSlot n W)
  have HT := Lib.hid (fun n W => sToIn n W)
  have HI := Lib.hid (fun n lo hi W => sIn n lo hi W)
  have HG := Lib.hid (fun W (L : List Asn) (M : Mem w [] W L) => sFormAt hp.1 M)
  clear hp
  have M := Mem.nil w
  have AL := add_lit0
  rcases h1 with ⟨i1, rfl⟩ | ⟨i1, rfl, e1⟩ <;> rcases h2 with ⟨i2, rfl⟩ | ⟨i2, rfl, e2⟩ <;> rcases h3 with ⟨i3, e3⟩ | ⟨i3, rfl, e3⟩
  all_goals
    · go_enter Try.func113, Try.ntmps113
      go_wp2_with (first
        | (with_reducible refine alAw M ?_; clear M; (try clear F); intro w1 M F)
        | (go_at_call 126; (refine nmKw ?_; clear M; (try clear F); intro w1 M F); refine (HG.out _ _ M).mono ?_; clear M; rintro e w2 ⟨g, c, rfl, M⟩; (try clear F); have F := fxw M; have EB := elemB M .here)
        | (go_at_call 42; (refine nmKw ?_; clear M; (try clear F); intro w1 M F); refine (HV.out _).mono ?_; rintro e w2 ⟨rfl, hb⟩; replace M := M.below hb; clear hb; (try clear F); have F := fxw M; clear EB; have EB := elemB M dl)
        | (go_at_call 89; (refine nmKw ?_; clear M; (try clear F); intro w1 M F); clear EB; have EB := elemB M dl; refine (HS.out _ _).mono ?_; rintro e w2 ⟨rfl, rfl⟩)
        | (go_at_call 81; (refine nmKw ?_; clear M; (try clear F); intro w1 M F); clear EB; have EB := elemB M dl; refine (HT.out _ _).mono ?_; rintro e w2 ⟨rfl, rfl⟩)
        | (go_at_call 80; (refine nmKw ?_; clear M; (try clear F); intro w1 M F); clear EB; have EB := elemB M dl; refine (HI.out _ _ _ _).mono ?_; rintro e w2 ⟨rfl, rfl⟩))
      go_ret
      exact ⟨rfl, M.toBelow⟩
end Go.Proofs.Ytmidnaafljgbiaa
/- What a step is: whether it is ok (last). -/
namespace Go.Proofs.Ytmidnaafljgbiaa
open Go.RowKit
set_option maxRecDepth 100000

set_option maxHeartbeats 4000000 in
theorem sOpOkGood (o : Opx) (f0 f1 f2 f3 : Bool) (hp : OpPre o f0 f1 f2 f3) (c8 : (o.k == 8) = false) (c13 : (o.k == 13) = false) (h1 : Good (inB o.r 0 3) f0 (o.r == 0)) (h2 : Good (inB o.s 0 3) f1 (o.s == 0)) (h3 : Good (inB o.to 0 15) f2 (o.to == 0)) (hz : f3 = true ∨ (f3 = false ∧ o.v.k = 0 ∧ o.v.n = 0)) (w : World) : Calls Try.prog 113 #[.agg (opArr o)] w fun e w' => e = .returned (.bool true) ∧ Below w.heap.size w w' := by
  obtain ⟨k, r, s, to, ⟨vk, vn⟩⟩ := o
  simp only [opArr] at *
  have HV := Lib.hid (fun W => sValOk ⟨vk, vn⟩ W)
  rw [hp.2] at HV
  have HS := Lib.hid (fun n W => sSlot n W)
  have HT := Lib.hid (fun n W => sToIn n W)
  have HI := Lib.hid (fun n lo hi W => sIn n lo hi W)
  have HG := Lib.hid (fun W (L : List Asn) (M : Mem w [] W L) => sFormAt hp.1 M)
  clear hp
  have M := Mem.nil w
  have AL := add_lit0
  rcases h1 with ⟨i1, rfl⟩ | ⟨i1, rfl, e1⟩ <;> rcases h2 with ⟨i2, rfl⟩ | ⟨i2, rfl, e2⟩ <;> rcases h3 with ⟨i3, rfl⟩ | ⟨i3, rfl, e3⟩ <;> rcases hz with rfl | ⟨rfl, rfl, rfl⟩
  all_goals
    · go_enter Try.func113, Try.ntmps113
      go_wp2_with (first
        | (with_reducible refine alAw M ?_; clear M; (try clear F); intro w1 M F)
        | (go_at_call 126; (refine nmKw ?_; clear M; (try clear F); intro w1 M F); refine (HG.out _ _ M).mono ?_; clear M; rintro e w2 ⟨g, c, rfl, M⟩; (try clear F); have F := fxw M; have EB := elemB M .here)
        | (go_at_call 42; (refine nmKw ?_; clear M; (try clear F); intro w1 M F); refine (HV.out _).mono ?_; rintro e w2 ⟨rfl, hb⟩; replace M := M.below hb; clear hb; (try clear F); have F := fxw M; clear EB; have EB := elemB M dl)
        | (go_at_call 89; (refine nmKw ?_; clear M; (try clear F); intro w1 M F); clear EB; have EB := elemB M dl; refine (HS.out _ _).mono ?_; rintro e w2 ⟨rfl, rfl⟩)
        | (go_at_call 81; (refine nmKw ?_; clear M; (try clear F); intro w1 M F); clear EB; have EB := elemB M dl; refine (HT.out _ _).mono ?_; rintro e w2 ⟨rfl, rfl⟩)
        | (go_at_call 80; (refine nmKw ?_; clear M; (try clear F); intro w1 M F); clear EB; have EB := elemB M dl; refine (HI.out _ _ _ _).mono ?_; rintro e w2 ⟨rfl, rfl⟩))
      go_ret
      exact ⟨rfl, M.toBelow⟩
end Go.Proofs.Ytmidnaafljgbiaa
