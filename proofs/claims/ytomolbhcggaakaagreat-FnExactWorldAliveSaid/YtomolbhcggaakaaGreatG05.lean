/- Parts of the proof, in one text. -/
import Derived.Test.YtomolbhcggaakaaGreatG03
import Derived.Test.YtomolbhcggaakaaGreatG04
/- More on rows of the call's own: made rows, stores by the slice's own length. -/
namespace Go.Proofs.YtomolbhcggaakaaGreat
open Go.RowKit

/-- A row that is written element by element: its slice value is spelled out. -/
def RowL {α : Type} (enc : α → List Value) (m t : Nat) (w : World) (base g n cap : Nat) (xs : List α) : Prop := xs.length = n ∧ OwnL enc m t w base (.slice (some ⟨g, 0, none⟩) n cap) xs
section
variable {α : Type} {enc : α → List Value} {m t : Nat} {w w' : World} {base g n cap : Nat} {xs : List α}
theorem RowL.store (hk : ∀ x, (enc x).length = m) (h : RowL enc m t w base g n cap xs) {j i : Nat} (hj : j < xs.length) (hi : i < m) {x' : α} {u : Value} (e : enc x' = (enc xs[j]).set i u) :
    RowL enc m t (w.setCell ⟨g, j * m + i, none⟩ u) base g n cap (xs.set j x') := by
  obtain ⟨rfl, h⟩ := h
  refine ⟨List.length_set, ?_⟩
  have := (h.stored hk hj hi e).1
  rwa [List.length_set] at this
theorem RowL.ge (h : RowL enc m t w base g n cap xs) (hn : 0 < n) : base ≤ g ∧ g < w.heap.size := by
  obtain ⟨rfl, h⟩ := h
  obtain ⟨g', c, e, h1, h2⟩ := h.form hn
  simp only [Value.slice.injEq, Option.some.injEq, Addr.mk.injEq, and_true, true_and] at e
  obtain ⟨rfl, _⟩ := e
  exact ⟨h1, h2⟩
theorem RowL.cell (hk : ∀ x, (enc x).length = m) (h : RowL enc m t w base g n cap xs) {j i : Nat} (hj : j < xs.length) (hi : i < m) : w.cell? ⟨g, j * m + i, none⟩ = (enc xs[j])[i]? ∧ w.frozen? ⟨g, j * m + i, none⟩ = false := by
  obtain ⟨rfl, h⟩ := h
  exact h.cell hk hj hi
theorem RowL.made {z : Array Value} {x : α} (hz : enc x = z.toList) (h0 : 0 < z.size) (hm : m = z.size) {n : Nat} (hn : n ≤ 140737488355328) (hb : base ≤ w.heap.size) :
    RowL enc m t (w.alloc (.cells (madeCells z (n * m)) t)) base w.heap.size n n (List.replicate n x) := by
  have := OwnL.made (t := t) hz h0 hm hn hb
  rw [List.length_replicate] at this
  exact ⟨List.length_replicate, this⟩
end
theorem run_make_m {P : Program} (t e : TypeId) (z : Value) (size bytes : Nat) (ht : P.underlying t = some (.slice e)) (hinfo : (P.info? e).map (fun i => (i.zero, i.size, i.bytes)) = some (some z, size, bytes)) (n : Nat) (hbytes : bytes * n ≤ 281474976710656) (h63 : n ≤ 9223372036854775807) (w : World) :
    (Instr.makeSlice t (.int .i64 (n : Int)) (.int .i64 (n : Int))).run P w = .ok (.slice (some ⟨w.heap.size, 0, none⟩) n n) (w.alloc (.cells (madeCells z.cells (n * size)) e)) := by
  obtain ⟨i, hi, hzz⟩ := Option.map_eq_some_iff.1 hinfo
  simp only [Prod.mk.injEq] at hzz
  obtain ⟨hz, hs, hb⟩ := hzz
  have hb' : (i.bytes : Int) * (n : Int) ≤ 281474976710656 := by
    have h : ((i.bytes * n : Nat) : Int) ≤ 281474976710656 := by rw [hb]; omega
    rwa [Int.natCast_mul] at h
  have hr := run_make (P := P) w t e i z ht hi hz .i64 .i64 n n (by omega) (Int.le_refl _) hb' (by omega)
  simp only [Int.toNat_natCast, hs] at hr
  exact hr
/-- A list that is written place by place. -/
theorem upto_end {α : Type} {l c : List α} {n : Nat} (hl : l.length = n) (hc : c.length = n) (h : ∀ j, j < n → c[j]? = l[j]?) : c = l := by
  apply List.ext_getElem?
  intro j
  by_cases hj : j < n
  · exact h j hj
  · rw [List.getElem?_eq_none (by omega), List.getElem?_eq_none (by omega)]
theorem upto_step {α : Type} {l c : List α} {k : Nat} (hk : k < c.length) (h : ∀ j, j < k → c[j]? = l[j]?) {x : α} (hx : l[k]? = some x) : ∀ j, j < k + 1 → (c.set k x)[j]? = l[j]? := by
  intro j hj
  rw [List.getElem?_set]
  by_cases e : k = j
  · subst e
    rw [if_pos rfl, if_pos hk, hx]
  · rw [if_neg e]
    exact h j (by omega)
end Go.Proofs.YtomolbhcggaakaaGreat
/- The laws' own copies of lists. -/
namespace Go.Proofs.YtomolbhcggaakaaGreat
open Go.RowKit
set_option maxRecDepth 100000

theorem infoI : (Tryz.prog.info? 3).map (fun i => (i.zero, i.size, i.bytes)) = some (some (.int .i64 0), 1, 8) := by kernel_rfl
theorem infoV : (Tryz.prog.info? 44).map (fun i => (i.zero, i.size, i.bytes)) = some (some (.agg #[.int .i64 0, .int .i64 0]), 2, 16) := by kernel_rfl

theorem RowL.below {α : Type} {enc : α → List Value} {m t : Nat} {w w' : World} {base g n cap : Nat} {xs : List α} (h : RowL enc m t w base g n cap xs) (hb : Below w.heap.size w w') : RowL enc m t w' base g n cap xs := ⟨h.1, h.2.below hb⟩
/-- A value is laid into a row of values: what the walk asks, and what is left. -/
theorem row_set2 {w : World} {t base g n cap : Nat} {xs : List Vl} (h : RowL encV 2 t w base g n cap xs) {k : Nat} (hk : k < xs.length) (x : Vl) :
    (∃ u, w.cell? ⟨g, k * 2, none⟩ = some u) ∧ (∃ u, w.cell? ⟨g, k * 2 + 1, none⟩ = some u) ∧ w.frozen? ⟨g, k * 2, none⟩ = false ∧ w.frozen? ⟨g, k * 2 + 1, none⟩ = false ∧
      RowL encV 2 t ((w.setCell ⟨g, k * 2, none⟩ (.int .i64 x.k)).setCell ⟨g, k * 2 + 1, none⟩ (.int .i64 x.n)) base g n cap (xs.set k x) := by
  obtain ⟨c1, f1⟩ := h.cell encV_length hk (i := 0) (by decide)
  obtain ⟨c2, f2⟩ := h.cell encV_length hk (i := 1) (by decide)
  refine ⟨⟨_, c1⟩, ⟨_, c2⟩, f1, f2, ?_⟩
  have h1 := h.store encV_length hk (i := 0) (by decide) (x' := ⟨x.k, (xs[k]).n⟩) (u := .int .i64 x.k) rfl
  have hk1 : k < (xs.set k (⟨x.k, (xs[k]).n⟩ : Vl)).length := by rw [List.length_set]; exact hk
  have h2 := h1.store encV_length hk1 (i := 1) (by decide) (x' := x) (u := .int .i64 x.n) (by rw [List.getElem_set_self]; rfl)
  rw [List.set_set] at h2
  exact h2

set_option maxHeartbeats 1000000 in
theorem lToIntS (l : List Int) (A : Option Addr) (c B : Nat) (w : World) (h : ReadsI w B A l.length l) (hB : B ≤ w.heap.size) (hs : l.length ≤ 17592186044416) :
    Calls Tryz.prog 52 #[.slice A l.length c] w fun e w' => ∃ v, e = .returned v ∧ OwnL encI 1 3 w' w.heap.size v l ∧ Below w.heap.size w w' := by
  have hm := h.2.1
  have hmk := fun W => run_make_m (P := Tryz.prog) 24 3 (.int .i64 0) 1 8 Tryz.underlying24 infoI l.length (by omega) (by omega) W
  have hz : (Value.int .i64 0).cells = #[.int .i64 0] := rfl
  rw [hz] at hmk
  clear hz
  have hrow := Lib.hid (RowL.made (α := Int) (enc := encI) (m := 1) (t := 3) (w := w) (base := w.heap.size) (z := #[.int .i64 0]) (x := 0) rfl (by decide) rfl (n := l.length) hm (Nat.le_refl _))
  rw [Nat.mul_one] at hrow
  go_enter Tryz.func52, Tryz.ntmps52
  go_wp2
  clear hmk
  go_loopg [4] l.length (fun gg i wr => ∃ (k : Nat) (cur : List Int), k ≤ l.length ∧ l.length - k ≤ gg ∧ i = .int .i64 k ∧ Hid (RowL encI 1 3 wr w.heap.size w.heap.size l.length l.length cur) ∧ Hid (∀ j, j < k → cur[j]? = l[j]?) ∧ Hid (Below w.heap.size w wr))
  case atStart => exact ⟨0, List.replicate l.length 0, Nat.zero_le _, by omega, rfl, hrow, fun j hj => absurd hj (by omega), below_box _ _⟩
  case round =>
    obtain ⟨k, cur, hk, hg, rfl, RW, CU, BW⟩ := hrel
    by_cases hlt : k < l.length
    · obtain ⟨ad, rfl, _, hc⟩ := (h.below' BW.out hB).int hlt
      have hcl : k < cur.length := by rw [RW.out.1]; exact hlt
      obtain ⟨hd1, hd2⟩ := RW.out.cell encI_length hcl (i := 0) (by decide)
      have hst := Lib.hid (RW.out.store encI_length hcl (i := 0) (by decide) (x' := l[k]) (u := .int .i64 l[k]) rfl)
      have hup := Lib.hid (upto_step hcl CU.out (List.getElem?_eq_getElem hlt))
      have hge := (RW.out.ge (by omega)).2
      simp only [Nat.mul_one, Nat.add_zero] at hd1 hd2 hst
      have hd1' : wr.cell? ⟨w.heap.size, k, none⟩ = some (.int .i64 cur[k]) := hd1
      clear hd1
      generalize cur[k] = y at hd1'
      generalize l[k] = x at hc hst hup
      have i1 : (0 : Int) ≤ k := by omega
      have i2 : (k : Int) < l.length := by omega
      go_wp2
      go_roundg (l.length - (k + 1))
      case measure => omega
      case rel => exact ⟨k + 1, cur.set k x, by omega, by omega, by go_num, hst.out, hup.out, below_set BW.out (Nat.le_refl _)⟩
    · have : k = l.length := by omega
      subst this
      have e := upto_end rfl RW.out.1 CU.out
      subst e
      have RR := Lib.hid RW.out.2
      clear RW CU
      go_wp2
      go_ret
      exact ⟨_, rfl, RR.out, BW.out⟩
set_option maxHeartbeats 1000000 in
theorem lToValS (l : List Vl) (A : Option Addr) (c B : Nat) (w : World) (h : ReadsV w B A l.length l) (hB : B ≤ w.heap.size) (hs : l.length ≤ 8796093022208) :
    Calls Tryz.prog 129 #[.slice A l.length c] w fun e w' => ∃ v, e = .returned v ∧ OwnL encV 2 44 w' w.heap.size v l ∧ Below w.heap.size w w' := by
  have hm := h.2.1
  have hmk := fun W => run_make_m (P := Tryz.prog) 54 44 (.agg #[.int .i64 0, .int .i64 0]) 2 16 Tryz.underlying54 infoV l.length (by omega) (by omega) W
  have hz : (Value.agg #[.int .i64 0, .int .i64 0]).cells = #[.int .i64 0, .int .i64 0] := rfl
  rw [hz] at hmk
  clear hz
  have hrow := Lib.hid (RowL.made (α := Vl) (enc := encV) (m := 2) (t := 44) (w := w) (base := w.heap.size) (z := #[.int .i64 0, .int .i64 0]) (x := Vl.zero) rfl (by decide) rfl (n := l.length) hm (Nat.le_refl _))
  go_enter Tryz.func129, Tryz.ntmps129
  go_wp2
  clear hmk
  go_loopg [4] l.length (fun gg i wr => ∃ (k : Nat) (cur : List Vl), k ≤ l.length ∧ l.length - k ≤ gg ∧ i = .int .i64 k ∧ Hid (RowL encV 2 44 wr w.heap.size w.heap.size l.length l.length cur) ∧ Hid (∀ j, j < k → cur[j]? = l[j]?) ∧ Hid (Below w.heap.size w wr))
  case atStart => exact ⟨0, List.replicate l.length Vl.zero, Nat.zero_le _, by omega, rfl, hrow, fun j hj => absurd hj (by omega), below_box _ _⟩
  case round =>
    obtain ⟨k, cur, hk, hg, rfl, RW, CU, BW⟩ := hrel
    by_cases hlt : k < l.length
    · obtain ⟨ad, rfl, _, hc1, hc2⟩ := (h.below' BW.out hB).val hlt
      have hcl : k < cur.length := by rw [RW.out.1]; exact hlt
      have hup := Lib.hid (upto_step hcl CU.out (List.getElem?_eq_getElem hlt))
      have hge := (RW.out.ge (by omega)).2
      have hstore := Lib.hid (fun (W : World) (hb : Below wr.heap.size wr W) => row_set2 (RW.out.below hb) hcl l[k])
      generalize l[k] = x at hc1 hc2 hup hstore
      obtain ⟨xk, xn⟩ := x
      have i1 : (0 : Int) ≤ k := by omega
      have i2 : (k : Int) < l.length := by omega
      go_wp2_with (go_at_call 28; refine (lToVal ⟨xk, xn⟩ _).mono ?_; rintro e w' ⟨rfl, hb⟩; obtain ⟨⟨y1, hd1⟩, ⟨y2, hd2⟩, hd3, hd4, hd5⟩ := hstore.out _ hb; have hd6 := Lib.hid hd5; clear hd5)
      go_roundg (l.length - (k + 1))
      case measure => omega
      case rel => exact ⟨k + 1, cur.set k ⟨xk, xn⟩, by omega, by omega, by go_num, hd6.out, hup.out, below_set (below_set (below_step BW.out hb) (Nat.le_refl _)) (Nat.le_refl _)⟩
    · have : k = l.length := by omega
      subst this
      have e := upto_end rfl RW.out.1 CU.out
      subst e
      have RR := Lib.hid RW.out.2
      clear RW CU
      go_wp2
      go_ret
      exact ⟨_, rfl, RR.out, BW.out⟩
end Go.Proofs.YtomolbhcggaakaaGreat
