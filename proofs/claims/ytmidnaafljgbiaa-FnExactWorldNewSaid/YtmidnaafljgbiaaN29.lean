/- Parts of the proof, in one text. -/
import Derived.Deep.RegionWith
import Derived.Deep.LoopGhost
import Derived.Test.YtmidnaafljgbiaaN20
import Derived.Test.YtmidnaafljgbiaaN02
import Derived.Test.YtmidnaafljgbiaaN06
import Derived.Test.YtmidnaafljgbiaaN04
/- The laws' own copy of a run. -/
namespace Go.Proofs.Ytmidnaafljgbiaa
open Go.RowKit
set_option maxRecDepth 100000

end Go.Proofs.Ytmidnaafljgbiaa
/- The laws' own size and comparison of runs. -/
namespace Go.Proofs.Ytmidnaafljgbiaa
open Go.RowKit
set_option maxRecDepth 100000

/-- How many elements a run's lists have. -/
def sizeR (r : Rn) : Int := r.slots.length + r.mail.length + r.links.length + r.watched.length
set_option maxHeartbeats 2000000 in
theorem lEqRun (r : Rn) (a b : RA) (B : Nat) (w : World) (hr : ReadsRun w B r a) (hr' : ReadsRun w B r b) (hB : B ≤ w.heap.size) :
    Calls Try.prog 18 #[.agg (runArr r a), .agg (runArr r b)] w fun e w' => e = .returned (.bool true) ∧ Below w.heap.size w w' := by
  obtain ⟨id, at_, slots, full, mail, state, due, links, watched, trap, ⟨wk, wn⟩, turns⟩ := r
  obtain ⟨sA, sC, mA, mC, lA, lC, wA, wC⟩ := a
  obtain ⟨sA', sC', mA', mC', lA', lC', wA', wC'⟩ := b
  have H1 := Lib.hid (fun W (hbb : Below w.heap.size w W) => lEqValS slots sA sA' sC sC' B W (hr.slots.below' hbb hB) (hr'.slots.below' hbb hB) (Nat.le_trans hB hbb.size))
  have H2 := Lib.hid (fun W (hbb : Below w.heap.size w W) => lEqValS mail mA mA' mC mC' B W (hr.mail.below' hbb hB) (hr'.mail.below' hbb hB) (Nat.le_trans hB hbb.size))
  have H3 := Lib.hid (fun W (hbb : Below w.heap.size w W) => lEqIntS links lA lA' lC lC' B W (hr.links.below' hbb hB) (hr'.links.below' hbb hB) (Nat.le_trans hB hbb.size))
  have H4 := Lib.hid (fun W (hbb : Below w.heap.size w W) => lEqIntS watched wA wA' wC wC' B W (hr.watched.below' hbb hB) (hr'.watched.below' hbb hB) (Nat.le_trans hB hbb.size))
  clear hr hr'
  simp only [runArr]
  go_enter Try.func18, Try.ntmps18
  go_wp2_with (first
    | (go_at_call_of 55 (Value.slice sA slots.length sC); refine (H1.out _ ?p1).mono ?_; (case p1 => repeat (first | (with_reducible apply below_new) | (with_reducible exact Below.refl _ _))); rintro e w1 ⟨rfl, hb1⟩; have B1 : Below w.heap.size w w1 := (below_step (by repeat (first | (with_reducible apply below_new) | (with_reducible exact Below.refl _ _))) hb1); obtain ⟨hc1, hf1⟩ := bcell hb1)
    | (go_at_call_of 55 (Value.slice mA mail.length mC); refine (H2.out _ B1).mono ?_; rintro e w2 ⟨rfl, hb2⟩; have B2 := below_step B1 hb2; have hx1 : w.heap.size < w1.heap.size := (by have := hb1.size; simp at this; omega); have hy1 : w.heap.size + 1 < w1.heap.size := (by have := hb1.size; simp at this; omega); obtain ⟨hc2, hf2⟩ := bcell hb2)
    | (go_at_call_of 56 (Value.slice lA links.length lC); refine (H3.out _ B2).mono ?_; rintro e w3 ⟨rfl, hb3⟩; have B3 := below_step B2 hb3; have hx2 : w.heap.size < w2.heap.size := (by have := hb2.size; omega); have hy2 : w.heap.size + 1 < w2.heap.size := (by have := hb2.size; omega); obtain ⟨hc3, hf3⟩ := bcell hb3)
    | (go_at_call_of 56 (Value.slice wA watched.length wC); refine (H4.out _ B3).mono ?_; rintro e w4 ⟨rfl, hb4⟩; have B4 := below_step B3 hb4; have hx3 : w.heap.size < w3.heap.size := (by have := hb3.size; omega); have hy3 : w.heap.size + 1 < w3.heap.size := (by have := hb3.size; omega); obtain ⟨hc4, hf4⟩ := bcell hb4)
    | (go_at_call 19; refine (lEqVal ⟨wk, wn⟩ _).mono ?_; rintro e w5 ⟨rfl, hb5⟩; have B5 := below_step B4 hb5; have hx4 : w.heap.size < w4.heap.size := (by have := hb4.size; omega); have hy4 : w.heap.size + 1 < w4.heap.size := (by have := hb4.size; omega); obtain ⟨hc5, hf5⟩ := bcell hb5))
  go_ways
  go_ret
  exact ⟨rfl, B5⟩
end Go.Proofs.Ytmidnaafljgbiaa
/- The laws' own sizes of worlds; rows that a law is given; rows that are filled one by one. -/
namespace Go.Proofs.Ytmidnaafljgbiaa
open Go.RowKit
set_option maxRecDepth 100000

section
variable {w0 w w' : World} {B n : Nat} {A : Option Addr}
theorem ReadsL.op {xs : List Opx} (h : ReadsL encO 6 w B A n xs) {j : Nat} (hj : j < xs.length) :
    ∃ ad, A = some ad ∧ ad.block < B ∧ w.cell? (ad.add (j * 6)) = some (.int .i64 xs[j].k) ∧ w.cell? ⟨(ad.add (j * 6)).block, (ad.add (j * 6)).off + 1, none⟩ = some (.int .i64 xs[j].r) ∧ w.cell? ⟨(ad.add (j * 6)).block, (ad.add (j * 6)).off + 2, none⟩ = some (.int .i64 xs[j].s) ∧
      w.cell? ⟨(ad.add (j * 6)).block, (ad.add (j * 6)).off + 3, none⟩ = some (.int .i64 xs[j].to) ∧ w.cell? ⟨(ad.add (j * 6)).block, (ad.add (j * 6)).off + 4, none⟩ = some (.int .i64 xs[j].v.k) ∧ w.cell? ⟨(ad.add (j * 6)).block, (ad.add (j * 6)).off + 5, none⟩ = some (.int .i64 xs[j].v.n) := by
  obtain ⟨ad, e, hb, hc⟩ := h.row encO_length hj
  refine ⟨ad, e, hb, by have := hc 0 _ rfl; rwa [add_of_add] at this, ?_, ?_, ?_, ?_, ?_⟩
  · rw [add_succ, ← add_of_add]; exact hc 1 _ rfl
  · rw [add_succ, ← add_of_add]; exact hc 2 _ rfl
  · rw [add_succ, ← add_of_add]; exact hc 3 _ rfl
  · rw [add_succ, ← add_of_add]; exact hc 4 _ rfl
  · rw [add_succ, ← add_of_add]; exact hc 5 _ rfl
/-- The cells of a run that a law is given, behind the first. -/
def RunCells (w : World) (a : Addr) (r : Rn) (ra : RA) : Prop :=
  w.cell? a = some (.int .i64 r.id) ∧ w.cell? ⟨a.block, a.off + 1, none⟩ = some (.int .i64 r.at_) ∧ w.cell? ⟨a.block, a.off + 2, none⟩ = some (.slice ra.sA r.slots.length ra.sC) ∧ w.cell? ⟨a.block, a.off + 3, none⟩ = some (.int .i64 r.full) ∧
  w.cell? ⟨a.block, a.off + 4, none⟩ = some (.slice ra.mA r.mail.length ra.mC) ∧ w.cell? ⟨a.block, a.off + 5, none⟩ = some (.int .i64 r.state) ∧ w.cell? ⟨a.block, a.off + 6, none⟩ = some (.int .i64 r.due) ∧ w.cell? ⟨a.block, a.off + 7, none⟩ = some (.slice ra.lA r.links.length ra.lC) ∧
  w.cell? ⟨a.block, a.off + 8, none⟩ = some (.slice ra.wA r.watched.length ra.wC) ∧ w.cell? ⟨a.block, a.off + 9, none⟩ = some (.bool r.trap) ∧ w.cell? ⟨a.block, a.off + 10, none⟩ = some (.int .i64 r.why.k) ∧ w.cell? ⟨a.block, a.off + 11, none⟩ = some (.int .i64 r.why.n) ∧ w.cell? ⟨a.block, a.off + 12, none⟩ = some (.int .i64 r.turns)
theorem ReadsL.run {xs : List (Rn × RA)} (h : ReadsL encR 13 w B A n xs) {j : Nat} (hj : j < xs.length) :
    ∃ ad, A = some ad ∧ ad.block < B ∧ RunCells w (ad.add (j * 13)) xs[j].1 xs[j].2 := by
  obtain ⟨ad, e, hb, hc⟩ := h.row encR_length hj
  have key : ∀ i u, (encR xs[j])[i + 1]? = some u → w.cell? ⟨(ad.add (j * 13)).block, (ad.add (j * 13)).off + (i + 1), none⟩ = some u := fun i u hu => by
    rw [add_succ, ← add_of_add]; exact hc _ _ hu
  exact ⟨ad, e, hb, by have := hc 0 _ rfl; rwa [add_of_add] at this, key 0 _ rfl, key 1 _ rfl, key 2 _ rfl, key 3 _ rfl, key 4 _ rfl, key 5 _ rfl, key 6 _ rfl, key 7 _ rfl, key 8 _ rfl, key 9 _ rfl, key 10 _ rfl, key 11 _ rfl⟩
end
/-! A row that is filled one by one. -/
section
variable {α : Type}
theorem takeS (l : List α) {k : Nat} (hk : k < l.length) : l.take (k + 1) = l.take k ++ [l[k]] := by rw [List.take_add_one, List.getElem?_eq_getElem hk]; rfl
def fillL (l : List α) (z : α) (k : Nat) : List α := l.take k ++ List.replicate (l.length - k) z
theorem fillL_length (l : List α) (z : α) {k : Nat} (hk : k ≤ l.length) : (fillL l z k).length = l.length := by
  unfold fillL
  rw [List.length_append, List.length_take, List.length_replicate]
  omega
theorem fillL_zero (l : List α) (z : α) : fillL l z 0 = List.replicate l.length z := by simp [fillL]
theorem fillL_end (l : List α) (z : α) : fillL l z l.length = l := by simp [fillL]
theorem fillL_set (l : List α) (z : α) {k : Nat} (hk : k < l.length) : (fillL l z k).set k l[k] = fillL l z (k + 1) := by
  unfold fillL
  have e1 : l.length - k = (l.length - (k + 1)) + 1 := by omega
  rw [e1, List.replicate_succ, List.set_append_right _ _ (by rw [List.length_take]; omega), List.length_take, Nat.min_eq_left (by omega), Nat.sub_self, List.set_cons_zero, takeS l hk, List.append_assoc]
  rfl
end
section
variable {P : Program} {ops : Array Oper} {rest : List Oper} {Q : Exit → Act → World → Prop} {a : Act} {x y : Operand} {ty tt : TypeId} {pos : String} {after : Array Edge} {gd : Option (Nat × Bool)}
variable {α : Type} {enc : α → List Value} {m : Nat} {t : TypeId} {c : Nat} {xs : List α} {w0 w : World} {f : List Nat} {L L' : List Asn}
/-- A whole element is stored into a row. -/
theorem ev_put_row (x' : α) (hk : ∀ x, (enc x).length = m) (hone : ∀ x, ∀ u ∈ enc x, u.oneCell' = true) (M : Mem w0 f w L) {v : Value} {g off k : Nat} (hw : Region.wanted ⟨none, .store tt x y, ty, pos, after, gd⟩ (yielded ops a.tmps) = true) (hx : a.eval x = .pointer (some ⟨g, off, none⟩)) (hy : a.eval y = v) (hv : v.cells = (enc x').toArray)
    (hs : (P.info? tt).map (·.size) = some m) (hd : Del (row enc m t (some ⟨g, 0, none⟩) c xs) L L') (ho : off = k * m) (hlt : k < xs.length)
    (h : ∀ w1, Mem w0 f w1 (row enc m t (some ⟨g, 0, none⟩) c (xs.set k x') :: L') → wpList P ops Q rest a w1) : wpList P ops Q (⟨none, .store tt x y, ty, pos, after, gd⟩ :: rest) a w := by
  refine ev_store_row (j := 0) (k := k) (x' := x') hk hw hx hy hv (by rw [hs, hk]) (hone x') M hd (by rw [ho, Nat.add_zero]) hlt (by rw [Nat.zero_add, hk]; exact Nat.le_refl _) ?_ h
  unfold splice
  simp only [List.take_zero, List.nil_append, Nat.zero_add]
  rw [List.drop_eq_nil_of_le (by rw [hk, hk]; exact Nat.le_refl _), List.append_nil]
end

/-! Sizes. -/
theorem lSzOpS (l : List Opx) (left : Int) (A : Option Addr) (c : Nat) (w : World) (hl : l.length ≤ 140737488355328) (h0 : 0 ≤ left) (h1 : left ≤ 1048576) :
    Calls Try.prog 22 #[.slice A l.length c, .int .i64 left] w fun e w' => e = .returned (.int .i64 (if left - l.length < 0 then -1 else left - l.length)) ∧ w = w' := by
  by_cases h : left - l.length < 0
  · rw [if_pos h]
    go_enter Try.func22, Try.ntmps22
    go_wp2
    go_ret
    exact ⟨rfl, rfl⟩
  · rw [if_neg h]
    go_enter Try.func22, Try.ntmps22
    go_wp2
    go_ret
    exact ⟨rfl, rfl⟩
def sizesR : List Rn → Int
  | [] => 0
  | r :: l => sizeR r + sizesR l
theorem sizeR_nonneg (r : Rn) : 0 ≤ sizeR r := by unfold sizeR; omega
theorem sizesR_nonneg (l : List Rn) : 0 ≤ sizesR l := by
  induction l with
  | nil => exact Int.le_refl _
  | cons r l ih => have := sizeR_nonneg r; simp only [sizesR]; omega
theorem sizesR_le (l : List Rn) (k : Nat) : sizesR (l.take k) ≤ sizesR l := by
  induction l generalizing k with
  | nil => simp
  | cons r l ih =>
    cases k with
    | zero => simpa [sizesR] using sizesR_nonneg (r :: l)
    | succ k =>
      have := ih k
      simp only [List.take_succ_cons, sizesR]
      omega
end Go.Proofs.Ytmidnaafljgbiaa
