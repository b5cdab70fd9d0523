/- Parts of the proof, in one text. -/
import Derived.Test.YtomolbhcggaakaaGreatG19
import Derived.Test.YtomolbhcggaakaaGreatG02
/- What a step is: its parts. -/
namespace Go.Proofs.YtomolbhcggaakaaGreat
open Go.RowKit
set_option maxRecDepth 100000

theorem sSlot (n : Int) (w : World) : Calls Tryz.prog 162 #[.int .i64 n] w fun e w' => e = .returned (.bool (inB n 0 3)) ∧ w = w' := by
  have H := Lib.hid (fun W => sIn n 0 3 W)
  go_enter Tryz.func162, Tryz.ntmps162
  go_wp2_with (go_at_call 45; refine (H.out _).mono ?_; rintro e w2 ⟨rfl, rfl⟩)
  go_ret
  exact ⟨rfl, rfl⟩
theorem sToIn (n : Int) (w : World) : Calls Tryz.prog 127 #[.int .i64 n] w fun e w' => e = .returned (.bool (inB n 0 15)) ∧ w = w' := by
  have H := Lib.hid (fun W => sIn n 0 15 W)
  go_enter Tryz.func127, Tryz.ntmps127
  go_wp2_with (go_at_call 45; refine (H.out _).mono ?_; rintro e w2 ⟨rfl, rfl⟩)
  go_ret
  exact ⟨rfl, rfl⟩
theorem form_cases (k : Int) : (opForm k = [] ∧ inB k 1 14 = false) ∨ ∃ f0 f1 f2 f3, opForm k = [f0, f1, f2, f3] ∧ inB k 1 14 = true := by
  by_cases h : 1 ≤ k ∧ k ≤ 14
  · refine .inr ?_
    rw [inB_iff.2 h]
    have : k = 1 ∨ k = 2 ∨ k = 3 ∨ k = 4 ∨ k = 5 ∨ k = 6 ∨ k = 7 ∨ k = 8 ∨ k = 9 ∨ k = 10 ∨ k = 11 ∨ k = 12 ∨ k = 13 ∨ k = 14 := by omega
    rcases this with rfl | rfl | rfl | rfl | rfl | rfl | rfl | rfl | rfl | rfl | rfl | rfl | rfl | rfl <;> exact ⟨_, _, _, _, rfl, rfl⟩
  · refine .inl ⟨?_, by cases hq : inB k 1 14 with | false => rfl | true => exact absurd (inB_iff.1 hq) h⟩
    unfold opForm
    rw [if_neg (by omega), if_neg (by omega), if_neg (by omega), if_neg (by omega), if_neg (by omega), if_neg (by omega), if_neg (by omega), if_neg (by omega)]
theorem elemB {w0 w : World} {f : List Nat} {L L' : List Asn} {g c : Nat} {f0 f1 f2 f3 : Bool} (M : Mem w0 f w L) (hd : Del (rowB (some ⟨g, 0, none⟩) c [f0, f1, f2, f3]) L L') : w.cell? ⟨g, 0, none⟩ = some (.bool f0) ∧ w.cell? ⟨g, 1, none⟩ = some (.bool f1) ∧ w.cell? ⟨g, 2, none⟩ = some (.bool f2) ∧ w.cell? ⟨g, 3, none⟩ = some (.bool f3) :=
  ⟨(row_elem encB_length M hd (k := 0) (by simp)).2.1 0 (by decide), (row_elem encB_length M hd (k := 1) (by simp)).2.1 0 (by decide), (row_elem encB_length M hd (k := 2) (by simp)).2.1 0 (by decide), (row_elem encB_length M hd (k := 3) (by simp)).2.1 0 (by decide)⟩
theorem sFormAt {k : Int} {f0 f1 f2 f3 : Bool} (h : opForm k = [f0, f1, f2, f3]) {w0 w : World} {f : List Nat} {L : List Asn} (M : Mem w0 f w L) : Calls Tryz.prog 161 #[.int .i64 k] w fun e w' => ∃ g c, e = .returned (.slice (some ⟨g, 0, none⟩) 4 c) ∧ Mem w0 f w' (rowB (some ⟨g, 0, none⟩) c [f0, f1, f2, f3] :: L) := by
  refine (sForm k M).mono ?_
  rintro e w2 ⟨A, c, rfl, M2⟩
  rw [h] at M2 ⊢
  obtain ⟨g, rfl⟩ := row_form M2 .here (by simp)
  exact ⟨g, c, rfl, M2⟩
set_option maxHeartbeats 1000000 in
theorem sOpOkBad (o : Opx) (h : opForm o.k = [] ∨ valOk o.v = false) (w : World) : Calls Tryz.prog 121 #[.agg (opArr o)] w fun e w' => e = .returned (.bool false) ∧ Below w.heap.size w w' := by
  have HV := Lib.hid (fun W => sValOk o.v W)
  have HF := Lib.hid (fun (k : Int) (h : opForm k = []) W (L : List Asn) (M : Mem w [] W L) => sForm k M)
  have HG := Lib.hid (fun (k : Int) (f0 f1 f2 f3 : Bool) (h : opForm k = [f0, f1, f2, f3]) W (L : List Asn) (M : Mem w [] W L) => sFormAt h M)
  obtain ⟨k, r, s, to, ⟨vk, vn⟩⟩ := o
  simp only [opArr] at *
  have M := Mem.nil w
  rcases form_cases k with ⟨e, _⟩ | ⟨f0, f1, f2, f3, e, _⟩
  · replace HF := Lib.hid (HF.out k e)
    have e' := Lib.hid e
    clear h e HG
    go_enter Tryz.func121, Tryz.ntmps121
    go_wp2_with (first
      | ((with_reducible refine goal_alloc (G := fun W => wpList _ _ _ _ _ W) M ?_); clear M; intro w1 M; (try clear F); have F := M.facts; simp only [And.intro FX FXw] at F)
      | (go_at_call 161; (apply goal_name (G := fun W => Calls _ _ _ W _)); (repeat (first | with_reducible exact M | with_reducible apply Mem.drew | with_reducible apply Mem.drewN | with_reducible apply Mem.allocD | with_reducible apply Mem.setV | with_reducible apply Mem.setD | with_reducible exact Del.here | with_reducible apply Del.there | with_reducible assumption)); clear M; intro w1 M; (try simp only [LX] at M); (try clear F); have F := M.facts; simp only [And.intro FX FXw] at F; refine (HF.out _ _ M).mono ?_; clear M; rintro e w2 ⟨A, c, rfl, M⟩; rw [e'.out] at M ⊢; (try clear F); have F := M.facts; simp only [And.intro FX FXw] at F))
    go_ret
    exact ⟨rfl, M.toBelow⟩
  · replace HG := Lib.hid (HG.out k f0 f1 f2 f3 e)
    have hv : valOk ⟨vk, vn⟩ = false := h.resolve_left (by rw [e]; exact fun h => by cases h)
    rw [hv] at HV
    clear h e HF hv
    go_enter Tryz.func121, Tryz.ntmps121
    go_wp2_with (first
      | ((with_reducible refine goal_alloc (G := fun W => wpList _ _ _ _ _ W) M ?_); clear M; intro w1 M; (try clear F); have F := M.facts; simp only [And.intro FX FXw] at F)
      | (go_at_call 161; (apply goal_name (G := fun W => Calls _ _ _ W _)); (repeat (first | with_reducible exact M | with_reducible apply Mem.drew | with_reducible apply Mem.drewN | with_reducible apply Mem.allocD | with_reducible apply Mem.setV | with_reducible apply Mem.setD | with_reducible exact Del.here | with_reducible apply Del.there | with_reducible assumption)); clear M; intro w1 M; (try simp only [LX] at M); (try clear F); have F := M.facts; simp only [And.intro FX FXw] at F; refine (HG.out _ _ M).mono ?_; clear M; rintro e w2 ⟨g, c, rfl, M⟩; (try clear F); have F := M.facts; simp only [And.intro FX FXw] at F)
      | (go_at_call 39; (apply goal_name (G := fun W => Calls _ _ _ W _)); (repeat (first | with_reducible exact M | with_reducible apply Mem.drew | with_reducible apply Mem.drewN | with_reducible apply Mem.allocD | with_reducible apply Mem.setV | with_reducible apply Mem.setD | with_reducible exact Del.here | with_reducible apply Del.there | with_reducible assumption)); clear M; intro w1 M; (try simp only [LX] at M); (try clear F); have F := M.facts; simp only [And.intro FX FXw] at F; refine (HV.out _).mono ?_; rintro e w2 ⟨rfl, hb⟩; replace M := M.below hb; clear hb; (try clear F); have F := M.facts; simp only [And.intro FX FXw] at F))
    go_ret
    exact ⟨rfl, M.toBelow⟩
end Go.Proofs.YtomolbhcggaakaaGreat
/- What a step is: whether it is ok. -/
namespace Go.Proofs.YtomolbhcggaakaaGreat
open Go.RowKit
set_option maxRecDepth 100000

def Good (x f e : Bool) : Prop := (x = true ∧ f = true) ∨ (x = true ∧ f = false ∧ e = true)
def Bad (x f e : Bool) : Prop := (x = false ∧ e = false) ∨ (x = true ∧ f = false ∧ e = false)
theorem good_or_bad {x e : Bool} (f : Bool) (h : e = true → x = true) : Good x f e ∨ Bad x f e := by
  cases x <;> cases f <;> cases e <;> simp_all [Good, Bad]
theorem good_is {x f e : Bool} (h : Good x f e) : (x && f || e) = true := by rcases h with ⟨rfl, rfl⟩ | ⟨rfl, rfl, rfl⟩ <;> rfl
theorem bad_is {x f e : Bool} (h : Bad x f e) : (x && f || e) = false := by rcases h with ⟨rfl, rfl⟩ | ⟨rfl, rfl, rfl⟩ <;> rfl
def OpPre (o : Opx) (f0 f1 f2 f3 : Bool) : Prop := opForm o.k = [f0, f1, f2, f3] ∧ valOk o.v = true
set_option maxHeartbeats 4000000 in
theorem sOpOkBad1 (o : Opx) (f0 f1 f2 f3 : Bool) (hp : OpPre o f0 f1 f2 f3) (c8 : (o.k == 8) = false) (c13 : (o.k == 13) = false) (h1 : Bad (inB o.r 0 3) f0 (o.r == 0)) (w : World) : Calls Tryz.prog 121 #[.agg (opArr o)] w fun e w' => e = .returned (.bool false) ∧ Below w.heap.size w w' := by
  obtain ⟨k, r, s, to, ⟨vk, vn⟩⟩ := o
  simp only [opArr] at *
  have HV := Lib.hid (fun W => sValOk ⟨vk, vn⟩ W)
  rw [hp.2] at HV
  have HS := Lib.hid (fun n W => sSlot n W)
  have HT := Lib.hid (fun n W => sToIn n W)
  have HI := Lib.hid (fun n lo hi W => sIn n lo hi W)
  have HG := Lib.hid (fun W (L : List Asn) (M : Mem w [] W L) => sFormAt hp.1 M)
  clear hp
  have M := Mem.nil w
  have AL := add_lit0
  rcases h1 with ⟨i1, e1⟩ | ⟨i1, rfl, e1⟩
  all_goals
    · go_enter Tryz.func121, Tryz.ntmps121
      go_wp2_with (first
        | ((with_reducible refine goal_alloc (G := fun W => wpList _ _ _ _ _ W) M ?_); clear M; intro w1 M; (try clear F); have F := M.facts; simp only [And.intro FX FXw] at F)
        | (go_at_call 161; (apply goal_name (G := fun W => Calls _ _ _ W _)); (repeat (first | with_reducible exact M | with_reducible apply Mem.drew | with_reducible apply Mem.drewN | with_reducible apply Mem.allocD | with_reducible apply Mem.setV | with_reducible apply Mem.setD | with_reducible exact Del.here | with_reducible apply Del.there | with_reducible assumption)); clear M; intro w1 M; (try simp only [LX] at M); (try clear F); have F := M.facts; simp only [And.intro FX FXw] at F; refine (HG.out _ _ M).mono ?_; clear M; rintro e w2 ⟨g, c, rfl, M⟩; (try clear F); have F := M.facts; simp only [And.intro FX FXw] at F; have EB := elemB M .here)
        | (go_at_call 39; (apply goal_name (G := fun W => Calls _ _ _ W _)); (repeat (first | with_reducible exact M | with_reducible apply Mem.drew | with_reducible apply Mem.drewN | with_reducible apply Mem.allocD | with_reducible apply Mem.setV | with_reducible apply Mem.setD | with_reducible exact Del.here | with_reducible apply Del.there | with_reducible assumption)); clear M; intro w1 M; (try simp only [LX] at M); (try clear F); have F := M.facts; simp only [And.intro FX FXw] at F; refine (HV.out _).mono ?_; rintro e w2 ⟨rfl, hb⟩; replace M := M.below hb; clear hb; (try clear F); have F := M.facts; simp only [And.intro FX FXw] at F; clear EB; have EB := elemB M (by repeat (first | with_reducible exact Del.here | with_reducible apply Del.there)))
        | (go_at_call 162; (apply goal_name (G := fun W => Calls _ _ _ W _)); (repeat (first | with_reducible exact M | with_reducible apply Mem.drew | with_reducible apply Mem.drewN | with_reducible apply Mem.allocD | with_reducible apply Mem.setV | with_reducible apply Mem.setD | with_reducible exact Del.here | with_reducible apply Del.there | with_reducible assumption)); clear M; intro w1 M; (try simp only [LX] at M); (try clear F); have F := M.facts; simp only [And.intro FX FXw] at F; clear EB; have EB := elemB M (by repeat (first | with_reducible exact Del.here | with_reducible apply Del.there)); refine (HS.out _ _).mono ?_; rintro e w2 ⟨rfl, rfl⟩)
        | (go_at_call 127; (apply goal_name (G := fun W => Calls _ _ _ W _)); (repeat (first | with_reducible exact M | with_reducible apply Mem.drew | with_reducible apply Mem.drewN | with_reducible apply Mem.allocD | with_reducible apply Mem.setV | with_reducible apply Mem.setD | with_reducible exact Del.here | with_reducible apply Del.there | with_reducible assumption)); clear M; intro w1 M; (try simp only [LX] at M); (try clear F); have F := M.facts; simp only [And.intro FX FXw] at F; clear EB; have EB := elemB M (by repeat (first | with_reducible exact Del.here | with_reducible apply Del.there)); refine (HT.out _ _).mono ?_; rintro e w2 ⟨rfl, rfl⟩)
        | (go_at_call 45; (apply goal_name (G := fun W => Calls _ _ _ W _)); (repeat (first | with_reducible exact M | with_reducible apply Mem.drew | with_reducible apply Mem.drewN | with_reducible apply Mem.allocD | with_reducible apply Mem.setV | with_reducible apply Mem.setD | with_reducible exact Del.here | with_reducible apply Del.there | with_reducible assumption)); clear M; intro w1 M; (try simp only [LX] at M); (try clear F); have F := M.facts; simp only [And.intro FX FXw] at F; clear EB; have EB := elemB M (by repeat (first | with_reducible exact Del.here | with_reducible apply Del.there)); refine (HI.out _ _ _ _).mono ?_; rintro e w2 ⟨rfl, rfl⟩))
      go_ret
      exact ⟨rfl, M.toBelow⟩
set_option maxHeartbeats 4000000 in
theorem sOpOkBad2 (o : Opx) (f0 f1 f2 f3 : Bool) (hp : OpPre o f0 f1 f2 f3) (c8 : (o.k == 8) = false) (c13 : (o.k == 13) = false) (h1 : Good (inB o.r 0 3) f0 (o.r == 0)) (h2 : Bad (inB o.s 0 3) f1 (o.s == 0)) (w : World) : Calls Tryz.prog 121 #[.agg (opArr o)] w fun e w' => e = .returned (.bool false) ∧ Below w.heap.size w w' := by
  obtain ⟨k, r, s, to, ⟨vk, vn⟩⟩ := o
  simp only [opArr] at *
  have HV := Lib.hid (fun W => sValOk ⟨vk, vn⟩ W)
  rw [hp.2] at HV
  have HS := Lib.hid (fun n W => sSlot n W)
  have HT := Lib.hid (fun n W => sToIn n W)
  have HI := Lib.hid (fun n lo hi W => sIn n lo hi W)
  have HG := Lib.hid (fun W (L : List Asn) (M : Mem w [] W L) => sFormAt hp.1 M)
  clear hp
  have M := Mem.nil w
  have AL := add_lit0
  rcases h1 with ⟨i1, rfl⟩ | ⟨i1, rfl, e1⟩ <;> rcases h2 with ⟨i2, e2⟩ | ⟨i2, rfl, e2⟩
  all_goals
    · go_enter Tryz.func121, Tryz.ntmps121
      go_wp2_with (first
        | ((with_reducible refine goal_alloc (G := fun W => wpList _ _ _ _ _ W) M ?_); clear M; intro w1 M; (try clear F); have F := M.facts; simp only [And.intro FX FXw] at F)
        | (go_at_call 161; (apply goal_name (G := fun W => Calls _ _ _ W _)); (repeat (first | with_reducible exact M | with_reducible apply Mem.drew | with_reducible apply Mem.drewN | with_reducible apply Mem.allocD | with_reducible apply Mem.setV | with_reducible apply Mem.setD | with_reducible exact Del.here | with_reducible apply Del.there | with_reducible assumption)); clear M; intro w1 M; (try simp only [LX] at M); (try clear F); have F := M.facts; simp only [And.intro FX FXw] at F; refine (HG.out _ _ M).mono ?_; clear M; rintro e w2 ⟨g, c, rfl, M⟩; (try clear F); have F := M.facts; simp only [And.intro FX FXw] at F; have EB := elemB M .here)
        | (go_at_call 39; (apply goal_name (G := fun W => Calls _ _ _ W _)); (repeat (first | with_reducible exact M | with_reducible apply Mem.drew | with_reducible apply Mem.drewN | with_reducible apply Mem.allocD | with_reducible apply Mem.setV | with_reducible apply Mem.setD | with_reducible exact Del.here | with_reducible apply Del.there | with_reducible assumption)); clear M; intro w1 M; (try simp only [LX] at M); (try clear F); have F := M.facts; simp only [And.intro FX FXw] at F; refine (HV.out _).mono ?_; rintro e w2 ⟨rfl, hb⟩; replace M := M.below hb; clear hb; (try clear F); have F := M.facts; simp only [And.intro FX FXw] at F; clear EB; have EB := elemB M (by repeat (first | with_reducible exact Del.here | with_reducible apply Del.there)))
        | (go_at_call 162; (apply goal_name (G := fun W => Calls _ _ _ W _)); (repeat (first | with_reducible exact M | with_reducible apply Mem.drew | with_reducible apply Mem.drewN | with_reducible apply Mem.allocD | with_reducible apply Mem.setV | with_reducible apply Mem.setD | with_reducible exact Del.here | with_reducible apply Del.there | with_reducible assumption)); clear M; intro w1 M; (try simp only [LX] at M); (try clear F); have F := M.facts; simp only [And.intro FX FXw] at F; clear EB; have EB := elemB M (by repeat (first | with_reducible exact Del.here | with_reducible apply Del.there)); refine (HS.out _ _).mono ?_; rintro e w2 ⟨rfl, rfl⟩)
        | (go_at_call 127; (apply goal_name (G := fun W => Calls _ _ _ W _)); (repeat (first | with_reducible exact M | with_reducible apply Mem.drew | with_reducible apply Mem.drewN | with_reducible apply Mem.allocD | with_reducible apply Mem.setV | with_reducible apply Mem.setD | with_reducible exact Del.here | with_reducible apply Del.there | with_reducible assumption)); clear M; intro w1 M; (try simp only [LX] at M); (try clear F); have F := M.facts; simp only [And.intro FX FXw] at F; clear EB; have EB := elemB M (by repeat (first | with_reducible exact Del.here | with_reducible apply Del.there)); refine (HT.out _ _).mono ?_; rintro e w2 ⟨rfl, rfl⟩)
        | (go_at_call 45; (apply goal_name (G := fun W => Calls _ _ _ W _)); (repeat (first | with_reducible exact M | with_reducible apply Mem.drew | with_reducible apply Mem.drewN | with_reducible apply Mem.allocD | with_reducible apply Mem.setV | with_reducible apply Mem.setD | with_reducible exact Del.here | with_reducible apply Del.there | with_reducible assumption)); clear M; intro w1 M; (try simp only [LX] at M); (try clear F); have F := M.facts; simp only [And.intro FX FXw] at F; clear EB; have EB := elemB M (by repeat (first | with_reducible exact Del.here | with_reducible apply Del.there)); refine (HI.out _ _ _ _).mono ?_; rintro e w2 ⟨rfl, rfl⟩))
      go_ret
      exact ⟨rfl, M.toBelow⟩
end Go.Proofs.YtomolbhcggaakaaGreat
