/- Parts of the proof, in one text. -/
import Derived.Test.YtomolbhcggaakaaGreatG20
/- What a step is: whether it is ok (on). -/
namespace Go.Proofs.YtomolbhcggaakaaGreat
open Go.RowKit
set_option maxRecDepth 100000

set_option maxHeartbeats 4000000 in
theorem sOpOkBad3 (o : Opx) (f0 f1 f2 f3 : Bool) (hp : OpPre o f0 f1 f2 f3) (c8 : (o.k == 8) = false) (c13 : (o.k == 13) = false) (h1 : Good (inB o.r 0 3) f0 (o.r == 0)) (h2 : Good (inB o.s 0 3) f1 (o.s == 0)) (h3 : Bad (inB o.to 0 15) f2 (o.to == 0)) (w : World) : Calls Tryz.prog 121 #[.agg (opArr o)] w fun e w' => e = .returned (.bool false) ∧ Below w.heap.size w w' := by
  obtain ⟨k, r, s, to, ⟨vk, vn⟩⟩ := o
  simp only [opArr] at *
  have HV := Lib.hid (fun W => sValOk ⟨vk, vn⟩ W)
  rw [hp.2] at HV
  have HS := Lib.hid (fun n W => sSlot n W)
  have HT := Lib.hid (fun n W => sToIn n W)
  have HI := Lib.hid (fun n lo hi W => sIn n lo hi W)
  have HG := Lib.hid (fun W (L : List Asn) (M : Mem w [] W L) => sFormAt hp.1 M)
  clear hp
  have M := Mem.nil w
  have AL := add_lit0
  rcases h1 with ⟨i1, rfl⟩ | ⟨i1, rfl, e1⟩ <;> rcases h2 with ⟨i2, rfl⟩ | ⟨i2, rfl, e2⟩ <;> rcases h3 with ⟨i3, e3⟩ | ⟨i3, rfl, e3⟩
  all_goals
    · go_enter Tryz.func121, Tryz.ntmps121
      go_wp2_with (first
        | ((with_reducible refine goal_alloc (G := fun W => wpList _ _ _ _ _ W) M ?_); clear M; intro w1 M; (try clear F); have F := M.facts; simp only [And.intro FX FXw] at F)
        | (go_at_call 161; (apply goal_name (G := fun W => Calls _ _ _ W _)); (repeat (first | with_reducible exact M | with_reducible apply Mem.drew | with_reducible apply Mem.drewN | with_reducible apply Mem.allocD | with_reducible apply Mem.setV | with_reducible apply Mem.setD | with_reducible exact Del.here | with_reducible apply Del.there | with_reducible assumption)); clear M; intro w1 M; (try simp only [LX] at M); (try clear F); have F := M.facts; simp only [And.intro FX FXw] at F; refine (HG.out _ _ M).mono ?_; clear M; rintro e w2 ⟨g, c, rfl, M⟩; (try clear F); have F := M.facts; simp only [And.intro FX FXw] at F; have EB := elemB M .here)
        | (go_at_call 39; (apply goal_name (G := fun W => Calls _ _ _ W _)); (repeat (first | with_reducible exact M | with_reducible apply Mem.drew | with_reducible apply Mem.drewN | with_reducible apply Mem.allocD | with_reducible apply Mem.setV | with_reducible apply Mem.setD | with_reducible exact Del.here | with_reducible apply Del.there | with_reducible assumption)); clear M; intro w1 M; (try simp only [LX] at M); (try clear F); have F := M.facts; simp only [And.intro FX FXw] at F; refine (HV.out _).mono ?_; rintro e w2 ⟨rfl, hb⟩; replace M := M.below hb; clear hb; (try clear F); have F := M.facts; simp only [And.intro FX FXw] at F; clear EB; have EB := elemB M (by repeat (first | with_reducible exact Del.here | with_reducible apply Del.there)))
        | (go_at_call 162; (apply goal_name (G := fun W => Calls _ _ _ W _)); (repeat (first | with_reducible exact M | with_reducible apply Mem.drew | with_reducible apply Mem.drewN | with_reducible apply Mem.allocD | with_reducible apply Mem.setV | with_reducible apply Mem.setD | with_reducible exact Del.here | with_reducible apply Del.there | with_reducible assumption)); clear M; intro w1 M; (try simp only [LX] at M); (try clear F); have F := M.facts; simp only [And.intro FX FXw] at F; clear EB; have EB := elemB M (by repeat (first | with_reducible exact Del.here | with_reducible apply Del.there)); refine (HS.out _ _).mono ?_; rintro e w2 ⟨rfl, rfl⟩)
        | (go_at_call 127; (apply goal_name (G := fun W => Calls _ _ _ W _)); (repeat (first | with_reducible exact M | with_reducible apply Mem.drew | with_reducible apply Mem.drewN | with_reducible apply Mem.allocD | with_reducible apply Mem.setV | with_reducible apply Mem.setD | with_reducible exact Del.here | with_reducible apply Del.there | with_reducible assumption)); clear M; intro w1 M; (try simp only [LX] at M); (try clear F); have F := M.facts; simp only [And.intro FX FXw] at F; clear EB; have EB := elemB M (by repeat (first | with_reducible exact Del.here | with_reducible apply Del.there)); refine (HT.out _ _).mono ?_; rintro e w2 ⟨rfl, rfl⟩)
        | (go_at_call 45; (apply goal_name (G := fun W => Calls _ _ _ W _)); (repeat (first | with_reducible exact M | with_reducible apply Mem.drew | with_reducible apply Mem.drewN | with_reducible apply Mem.allocD | with_reducible apply Mem.setV | with_reducible apply Mem.setD | with_reducible exact Del.here | with_reducible apply Del.there | with_reducible assumption)); clear M; intro w1 M; (try simp only [LX] at M); (try clear F); have F := M.facts; simp only [And.intro FX FXw] at F; clear EB; have EB := elemB M (by repeat (first | with_reducible exact Del.here | with_reducible apply Del.there)); refine (HI.out _ _ _ _).mono ?_; rintro e w2 ⟨rfl, rfl⟩))
      go_ret
      exact ⟨rfl, M.toBelow⟩
end Go.Proofs.YtomolbhcggaakaaGreat
/- What a step is: whether it is ok (last). -/
namespace Go.Proofs.YtomolbhcggaakaaGreat
open Go.RowKit
set_option maxRecDepth 100000

set_option maxHeartbeats 4000000 in
theorem sOpOkGood (o : Opx) (f0 f1 f2 f3 : Bool) (hp : OpPre o f0 f1 f2 f3) (c8 : (o.k == 8) = false) (c13 : (o.k == 13) = false) (h1 : Good (inB o.r 0 3) f0 (o.r == 0)) (h2 : Good (inB o.s 0 3) f1 (o.s == 0)) (h3 : Good (inB o.to 0 15) f2 (o.to == 0)) (hz : f3 = true ∨ (f3 = false ∧ o.v.k = 0 ∧ o.v.n = 0)) (w : World) : Calls Tryz.prog 121 #[.agg (opArr o)] w fun e w' => e = .returned (.bool true) ∧ Below w.heap.size w w' := by
  obtain ⟨k, r, s, to, ⟨vk, vn⟩⟩ := o
  simp only [opArr] at *
  have HV := Lib.hid (fun W => sValOk ⟨vk, vn⟩ W)
  rw [hp.2] at HV
  have HS := Lib.hid (fun n W => sSlot n W)
  have HT := Lib.hid (fun n W => sToIn n W)
  have HI := Lib.hid (fun n lo hi W => sIn n lo hi W)
  have HG := Lib.hid (fun W (L : List Asn) (M : Mem w [] W L) => sFormAt hp.1 M)
  clear hp
  have M := Mem.nil w
  have AL := add_lit0
  rcases h1 with ⟨i1, rfl⟩ | ⟨i1, rfl, e1⟩ <;> rcases h2 with ⟨i2, rfl⟩ | ⟨i2, rfl, e2⟩ <;> rcases h3 with ⟨i3, rfl⟩ | ⟨i3, rfl, e3⟩ <;> rcases hz with rfl | ⟨rfl, rfl, rfl⟩
  all_goals
    · go_enter Tryz.func121, Tryz.ntmps121
      go_wp2_with (first
        | ((with_reducible refine goal_alloc (G := fun W => wpList _ _ _ _ _ W) M ?_); clear M; intro w1 M; (try clear F); have F := M.facts; simp only [And.intro FX FXw] at F)
        | (go_at_call 161; (apply goal_name (G := fun W => Calls _ _ _ W _)); (repeat (first | with_reducible exact M | with_reducible apply Mem.drew | with_reducible apply Mem.drewN | with_reducible apply Mem.allocD | with_reducible apply Mem.setV | with_reducible apply Mem.setD | with_reducible exact Del.here | with_reducible apply Del.there | with_reducible assumption)); clear M; intro w1 M; (try simp only [LX] at M); (try clear F); have F := M.facts; simp only [And.intro FX FXw] at F; refine (HG.out _ _ M).mono ?_; clear M; rintro e w2 ⟨g, c, rfl, M⟩; (try clear F); have F := M.facts; simp only [And.intro FX FXw] at F; have EB := elemB M .here)
        | (go_at_call 39; (apply goal_name (G := fun W => Calls _ _ _ W _)); (repeat (first | with_reducible exact M | with_reducible apply Mem.drew | with_reducible apply Mem.drewN | with_reducible apply Mem.allocD | with_reducible apply Mem.setV | with_reducible apply Mem.setD | with_reducible exact Del.here | with_reducible apply Del.there | with_reducible assumption)); clear M; intro w1 M; (try simp only [LX] at M); (try clear F); have F := M.facts; simp only [And.intro FX FXw] at F; refine (HV.out _).mono ?_; rintro e w2 ⟨rfl, hb⟩; replace M := M.below hb; clear hb; (try clear F); have F := M.facts; simp only [And.intro FX FXw] at F; clear EB; have EB := elemB M (by repeat (first | with_reducible exact Del.here | with_reducible apply Del.there)))
        | (go_at_call 162; (apply goal_name (G := fun W => Calls _ _ _ W _)); (repeat (first | with_reducible exact M | with_reducible apply Mem.drew | with_reducible apply Mem.drewN | with_reducible apply Mem.allocD | with_reducible apply Mem.setV | with_reducible apply Mem.setD | with_reducible exact Del.here | with_reducible apply Del.there | with_reducible assumption)); clear M; intro w1 M; (try simp only [LX] at M); (try clear F); have F := M.facts; simp only [And.intro FX FXw] at F; clear EB; have EB := elemB M (by repeat (first | with_reducible exact Del.here | with_reducible apply Del.there)); refine (HS.out _ _).mono ?_; rintro e w2 ⟨rfl, rfl⟩)
        | (go_at_call 127; (apply goal_name (G := fun W => Calls _ _ _ W _)); (repeat (first | with_reducible exact M | with_reducible apply Mem.drew | with_reducible apply Mem.drewN | with_reducible apply Mem.allocD | with_reducible apply Mem.setV | with_reducible apply Mem.setD | with_reducible exact Del.here | with_reducible apply Del.there | with_reducible assumption)); clear M; intro w1 M; (try simp only [LX] at M); (try clear F); have F := M.facts; simp only [And.intro FX FXw] at F; clear EB; have EB := elemB M (by repeat (first | with_reducible exact Del.here | with_reducible apply Del.there)); refine (HT.out _ _).mono ?_; rintro e w2 ⟨rfl, rfl⟩)
        | (go_at_call 45; (apply goal_name (G := fun W => Calls _ _ _ W _)); (repeat (first | with_reducible exact M | with_reducible apply Mem.drew | with_reducible apply Mem.drewN | with_reducible apply Mem.allocD | with_reducible apply Mem.setV | with_reducible apply Mem.setD | with_reducible exact Del.here | with_reducible apply Del.there | with_reducible assumption)); clear M; intro w1 M; (try simp only [LX] at M); (try clear F); have F := M.facts; simp only [And.intro FX FXw] at F; clear EB; have EB := elemB M (by repeat (first | with_reducible exact Del.here | with_reducible apply Del.there)); refine (HI.out _ _ _ _).mono ?_; rintro e w2 ⟨rfl, rfl⟩))
      go_ret
      exact ⟨rfl, M.toBelow⟩
end Go.Proofs.YtomolbhcggaakaaGreat
