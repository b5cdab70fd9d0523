/- Parts of the proof, in one text. -/
import Derived.Test.YtmidnaafljgbiaaB05
import Derived.Test.YtmidnaafljgbiaaB08
/- One element is appended to a row that is held; an empty row; nothing of the program. -/
namespace Go.Proofs.Ytmidnaafljgbiaa
open Go.RowKit

theorem info_zero {P : Program} {t : TypeId} {m bytes : Nat} (h : (P.info? t).map (fun i => (i.zero.map (·.cells.size), i.size, i.bytes)) = some (some m, m, bytes)) : ∃ z : Value, (P.info? t).map (fun i => (i.zero, i.size, i.bytes)) = some (some z, m, bytes) ∧ z.cells.size = m := by
  obtain ⟨i, hi, h2⟩ := Option.map_eq_some_iff.1 h
  simp only [Prod.mk.injEq] at h2
  obtain ⟨h3, h4, h5⟩ := h2
  obtain ⟨z, hz, hz2⟩ := Option.map_eq_some_iff.1 h3
  exact ⟨z, by rw [hi]; simp [hz, h4, h5], hz2⟩
section
variable {α : Type} {enc : α → List Value} {m : Nat} {t : TypeId} {A : Option Addr} {c : Nat} {xs : List α} {w0 w : World} {f : List Nat} {L L' L2 : List Asn}
variable {P : Program} {ops : Array Oper} {rest : List Oper} {Q : Exit → Act → World → Prop} {a : Act} {x y : Operand} {ty tt : TypeId} {pos : String} {after : Array Edge}
theorem ev_app1 (v : α) (hk : ∀ x, (enc x).length = m) (hone : ∀ x, ∀ u ∈ enc x, u.oneCell' = true) (h0 : 0 < m) {bytes : Nat} (hinfo : (P.info? t).map (fun i => (i.zero.map (·.cells.size), i.size, i.bytes)) = some (some m, m, bytes)) (ht : P.underlying tt = some (.slice t))
    {dst : Option Tmp} {n g : Nat} {cs : List Value} (hs : a.eval x = .slice A n c) (hx : a.eval y = .slice (some ⟨g, 0, none⟩) 1 1) (M : Mem w0 f w L) (hd : Del (row enc m t A c xs) L L') (hd2 : Del (blk g t cs) L L2) (hc : cs = enc v) (hn : n = xs.length) (hlen : (xs.length + 1) * bytes ≤ 1000000000) (hb : 1 ≤ bytes)
    (h : ∀ A' c' w1, Mem w0 f w1 (row enc m t A' c' (xs ++ [v]) :: L') → wpList P ops Q rest (a.put dst (.slice A' (n + 1) c')) w1) :
    wpList P ops Q (⟨dst, .call { callee := .builtin .append, args := #[x, y], argTypes := #[tt, tt] }, ty, pos, after, none⟩ :: rest) a w := by
  obtain ⟨z, hz, hzs⟩ := info_zero hinfo
  have hle : xs.length + 1 ≤ (xs.length + 1) * bytes := Nat.le_mul_of_pos_right _ hb
  exact ev_append (ys := [v]) hk hone ht hz hzs h0 hs M hd hn hx (blk_reads hk M hd2 (by rw [hc]; simp [flat]) (by simp)) (by intro e; cases e) (by simp; omega) (by simp; omega) h
theorem Mem.nilRow (M : Mem w0 f w L) : Mem w0 f w (row enc m t none 0 ([] : List α) :: L) := by
  refine M.call0 ⟨⟨rfl, rfl, rfl, Nat.le_refl _, fun _ _ _ => rfl, fun k hk => ?_, ?_⟩, fun X hX => ?_⟩
  · rw [fps_one] at hk
    simp [row, ob] at hk
  · rw [fps_one]
    simp [row, ob]
  · obtain rfl : X = row enc m t none 0 ([] : List α) := by simpa using hX
    exact OwnL.nil _ _
end
end Go.Proofs.Ytmidnaafljgbiaa
/- What a step is: whether it is ok. -/
namespace Go.Proofs.Ytmidnaafljgbiaa
open Go.RowKit
set_option maxRecDepth 100000

def Good (x f e : Bool) : Prop := (x = true ∧ f = true) ∨ (x = true ∧ f = false ∧ e = true)
def Bad (x f e : Bool) : Prop := (x = false ∧ e = false) ∨ (x = true ∧ f = false ∧ e = false)
theorem good_or_bad {x e : Bool} (f : Bool) (h : e = true → x = true) : Good x f e ∨ Bad x f e := by
  cases x <;> cases f <;> cases e <;> simp_all [Good, Bad]
theorem good_is {x f e : Bool} (h : Good x f e) : (x && f || e) = true := by rcases h with ⟨rfl, rfl⟩ | ⟨rfl, rfl, rfl⟩ <;> rfl
theorem bad_is {x f e : Bool} (h : Bad x f e) : (x && f || e) = false := by rcases h with ⟨rfl, rfl⟩ | ⟨rfl, rfl, rfl⟩ <;> rfl
def OpPre (o : Opx) (f0 f1 f2 f3 : Bool) : Prop := opForm o.k = [f0, f1, f2, f3] ∧ valOk o.v = true
set_option maxHeartbeats 4000000 in
theorem sOpOkBad1 (o : Opx) (f0 f1 f2 f3 : Bool) (hp : OpPre o f0 f1 f2 f3) (c8 : (o.k == 8) = false) (c13 : (o.k == 13) = false) (h1 : Bad (inB o.r 0 3) f0 (o.r == 0)) (w : World) : Calls Try.prog 113 #[.agg (opArr o)] w fun e w' => e = .returned (.bool false) ∧ Below w.heap.size w w' := by
  obtain ⟨k, r, s, to, ⟨vk, vn⟩⟩ := o
  simp only [opArr] at *
  have HV := Lib.hid (fun W => sValOk ⟨vk, vn⟩ W)
  rw [hp.2] at HV
  have HS := Lib.hid (fun n W => sSlot n W)
  have HT := Lib.hid (fun n W => sToIn n W)
  have HI := Lib.hid (fun n lo hi W => sIn n lo hi W)
  have HG := Lib.hid (fun W (L : List Asn) (M : Mem w [] W L) => sFormAt hp.1 M)
  clear hp
  have M := Mem.nil w
  have AL := add_lit0
  rcases h1 with ⟨i1, e1⟩ | ⟨i1, rfl, e1⟩
  all_goals
    · go_enter Try.func113, Try.ntmps113
      go_wp2_with (first
        | (with_reducible refine alAw M ?_; clear M; (try clear F); intro w1 M F)
        | (go_at_call 126; (refine nmKw ?_; clear M; (try clear F); intro w1 M F); refine (HG.out _ _ M).mono ?_; clear M; rintro e w2 ⟨g, c, rfl, M⟩; (try clear F); have F := fxw M; have EB := elemB M .here)
        | (go_at_call 42; (refine nmKw ?_; clear M; (try clear F); intro w1 M F); refine (HV.out _).mono ?_; rintro e w2 ⟨rfl, hb⟩; replace M := M.below hb; clear hb; (try clear F); have F := fxw M; clear EB; have EB := elemB M dl)
        | (go_at_call 89; (refine nmKw ?_; clear M; (try clear F); intro w1 M F); clear EB; have EB := elemB M dl; refine (HS.out _ _).mono ?_; rintro e w2 ⟨rfl, rfl⟩)
        | (go_at_call 81; (refine nmKw ?_; clear M; (try clear F); intro w1 M F); clear EB; have EB := elemB M dl; refine (HT.out _ _).mono ?_; rintro e w2 ⟨rfl, rfl⟩)
        | (go_at_call 80; (refine nmKw ?_; clear M; (try clear F); intro w1 M F); clear EB; have EB := elemB M dl; refine (HI.out _ _ _ _).mono ?_; rintro e w2 ⟨rfl, rfl⟩))
      go_ret
      exact ⟨rfl, M.toBelow⟩
set_option maxHeartbeats 4000000 in
theorem sOpOkBad2 (o : Opx) (f0 f1 f2 f3 : Bool) (hp : OpPre o f0 f1 f2 f3) (c8 : (o.k == 8) = false) (c13 : (o.k == 13) = false) (h1 : Good (inB o.r 0 3) f0 (o.r == 0)) (h2 : Bad (inB o.s 0 3) f1 (o.s == 0)) (w : World) : Calls Try.prog 113 #[.agg (opArr o)] w fun e w' => e = .returned (.bool false) ∧ Below w.heap.size w w' := by
  obtain ⟨k, r, s, to, ⟨vk, vn⟩⟩ := o
  simp only [opArr] at *
  have HV := Lib.hid (fun W => sValOk ⟨vk, vn⟩ W)
  rw [hp.2] at HV
  have HS := Lib.hid (fun n W => sSlot n W)
  have HT := Lib.hid (fun n W => sToIn n W)
  have HI := Lib.hid (fun n lo hi W => sIn n lo hi W)
  have HG := Lib.hid (fun W (L : List Asn) (M : Mem w [] W L) => sFormAt hp.1 M)
  clear hp
  have M := Mem.nil w
  have AL := add_lit0
  rcases h1 with ⟨i1, rfl⟩ | ⟨i1, rfl, e1⟩ <;> rcases h2 with ⟨i2, e2⟩ | ⟨i2, rfl, e2⟩
  all_goals
    · go_enter Try.func113, Try.ntmps113
      go_wp2_with (first
        | (with_reducible refine alAw M ?_; clear M; (try clear F); intro w1 M F)
        | (go_at_call 126; (refine nmKw ?_; clear M; (try clear F); intro w1 M F); refine (HG.out _ _ M).mono ?_; clear M; rintro e w2 ⟨g, c, rfl, M⟩; (try clear F); have F := fxw M; have EB := elemB M .here)
        | (go_at_call 42; (refine nmKw ?_; clear M; (try clear F); intro w1 M F); refine (HV.out _).mono ?_; rintro e w2 ⟨rfl, hb⟩; replace M := M.below hb; clear hb; (try clear F); have F := fxw M; clear EB; have EB := elemB M dl)
        | (go_at_call 89; (refine nmKw ?_; clear M; (try clear F); intro w1 M F); clear EB; have EB := elemB M dl; refine (HS.out _ _).mono ?_; rintro e w2 ⟨rfl, rfl⟩)
        | (go_at_call 81; (refine nmKw ?_; clear M; (try clear F); intro w1 M F); clear EB; have EB := elemB M dl; refine (HT.out _ _).mono ?_; rintro e w2 ⟨rfl, rfl⟩)
        | (go_at_call 80; (refine nmKw ?_; clear M; (try clear F); intro w1 M F); clear EB; have EB := elemB M dl; refine (HI.out _ _ _ _).mono ?_; rintro e w2 ⟨rfl, rfl⟩))
      go_ret
      exact ⟨rfl, M.toBelow⟩
end Go.Proofs.Ytmidnaafljgbiaa
/- What a step is: whether it is ok (on). -/
namespace Go.Proofs.Ytmidnaafljgbiaa
open Go.RowKit
set_option maxRecDepth 100000

set_option maxHeartbeats 4000000 in
theorem sOpOkBad3 (o : Opx) (f0 f1 f2 f3 : Bool) (hp : OpPre o f0 f1 f2 f3) (c8 : (o.k == 8) = false) (c13 : (o.k == 13) = false) (h1 : Good (inB o.r 0 3) f0 (o.r == 0)) (h2 : Good (inB o.s 0 3) f1 (o.s == 0)) (h3 : Bad (inB o.to 0 15) f2 (o.to == 0)) (w : World) : Calls Try.prog 113 #[.agg (opArr o)] w fun e w' => e = .returned (.bool false) ∧ Below w.heap.size w w' := by
  obtain ⟨k, r, s, to, ⟨vk, vn⟩⟩ := o
  simp only [opArr] at *
  have HV := Lib.hid (fun W => sValOk ⟨vk, vn⟩ W)
  rw [hp.2] at HV
  have HS := Lib.hid (fun n W => sSlot n W)
  have HT := Lib.hid (fun n W => sToIn n W)
  have HI := Lib.hid (fun n lo hi W => sIn n lo hi W)
  have HG := Lib.hid (fun W (L : List Asn) (M : Mem w [] W L) => sFormAt hp.1 M)
  clear hp
  have M := Mem.nil w
  have AL := add_lit0
  rcases h1 with ⟨i1, rfl⟩ | ⟨i1, rfl, e1⟩ <;> rcases h2 with ⟨i2, rfl⟩ | ⟨i2, rfl, e2⟩ <;> rcases h3 with ⟨i3, e3⟩ | ⟨i3, rfl, e3⟩
  all_goals
    · go_enter Try.func113, Try.ntmps113
      go_wp2_with (first
        | (with_reducible refine alAw M ?_; clear M; (try clear F); intro w1 M F)
        | (go_at_call 126; (refine nmKw ?_; clear M; (try clear F); intro w1 M F); refine (HG.out _ _ M).mono ?_; clear M; rintro e w2 ⟨g, c, rfl, M⟩; (try clear F); have F := fxw M; have EB := elemB M .here)
        | (go_at_call 42; (refine nmKw ?_; clear M; (try clear F); intro w1 M F); refine (HV.out _).mono ?_; rintro e w2 ⟨rfl, hb⟩; replace M := M.below hb; clear hb; (try clear F); have F := fxw M; clear EB; have EB := elemB M dl)
        | (go_at_call 89; (refine nmKw ?_; clear M; (try clear F); intro w1 M F); clear EB; have EB := elemB M dl; refine (HS.out _ _).mono ?_; rintro e w2 ⟨rfl, rfl⟩)
        | (go_at_call 81; (refine nmKw ?_; clear M; (try clear F); intro w1 M F); clear EB; have EB := elemB M dl; refine (HT.out _ _).mono ?_; rintro e w2 ⟨rfl, rfl⟩)
        | (go_at_call 80; (refine nmKw ?_; clear M; (try clear F); intro w1 M F); clear EB; have EB := elemB M dl; refine (HI.out _ _ _ _).mono ?_; rintro e w2 ⟨rfl, rfl⟩))
      go_ret
      exact ⟨rfl, M.toBelow⟩
end Go.Proofs.Ytmidnaafljgbiaa
/- What a step is: whether it is ok (last). -/
namespace Go.Proofs.Ytmidnaafljgbiaa
open Go.RowKit
set_option maxRecDepth 100000

set_option maxHeartbeats 4000000 in
theorem sOpOkGood (o : Opx) (f0 f1 f2 f3 : Bool) (hp : OpPre o f0 f1 f2 f3) (c8 : (o.k == 8) = false) (c13 : (o.k == 13) = false) (h1 : Good (inB o.r 0 3) f0 (o.r == 0)) (h2 : Good (inB o.s 0 3) f1 (o.s == 0)) (h3 : Good (inB o.to 0 15) f2 (o.to == 0)) (hz : f3 = true ∨ (f3 = false ∧ o.v.k = 0 ∧ o.v.n = 0)) (w : World) : Calls Try.prog 113 #[.agg (opArr o)] w fun e w' => e = .returned (.bool true) ∧ Below w.heap.size w w' := by
  obtain ⟨k, r, s, to, ⟨vk, vn⟩⟩ := o
  simp only [opArr] at *
  have HV := Lib.hid (fun W => sValOk ⟨vk, vn⟩ W)
  rw [hp.2] at HV
  have HS := Lib.hid (fun n W => sSlot n W)
  have HT := Lib.hid (fun n W => sToIn n W)
  have HI := Lib.hid (fun n lo hi W => sIn n lo hi W)
  have HG := Lib.hid (fun W (L : List Asn) (M : Mem w [] W L) => sFormAt hp.1 M)
  clear hp
  have M := Mem.nil w
  have AL := add_lit0
  rcases h1 with ⟨i1, rfl⟩ | ⟨i1, rfl, e1⟩ <;> rcases h2 with ⟨i2, rfl⟩ | ⟨i2, rfl, e2⟩ <;> rcases h3 with ⟨i3, rfl⟩ | ⟨i3, rfl, e3⟩ <;> rcases hz with rfl | ⟨rfl, rfl, rfl⟩
  all_goals
    · go_enter Try.func113, Try.ntmps113
      go_wp2_with (first
        | (with_reducible refine alAw M ?_; clear M; (try clear F); intro w1 M F)
        | (go_at_call 126; (refine nmKw ?_; clear M; (try clear F); intro w1 M F); refine (HG.out _ _ M).mono ?_; clear M; rintro e w2 ⟨g, c, rfl, M⟩; (try clear F); have F := fxw M; have EB := elemB M .here)
        | (go_at_call 42; (refine nmKw ?_; clear M; (try clear F); intro w1 M F); refine (HV.out _).mono ?_; rintro e w2 ⟨rfl, hb⟩; replace M := M.below hb; clear hb; (try clear F); have F := fxw M; clear EB; have EB := elemB M dl)
        | (go_at_call 89; (refine nmKw ?_; clear M; (try clear F); intro w1 M F); clear EB; have EB := elemB M dl; refine (HS.out _ _).mono ?_; rintro e w2 ⟨rfl, rfl⟩)
        | (go_at_call 81; (refine nmKw ?_; clear M; (try clear F); intro w1 M F); clear EB; have EB := elemB M dl; refine (HT.out _ _).mono ?_; rintro e w2 ⟨rfl, rfl⟩)
        | (go_at_call 80; (refine nmKw ?_; clear M; (try clear F); intro w1 M F); clear EB; have EB := elemB M dl; refine (HI.out _ _ _ _).mono ?_; rintro e w2 ⟨rfl, rfl⟩))
      go_ret
      exact ⟨rfl, M.toBelow⟩
end Go.Proofs.Ytmidnaafljgbiaa
