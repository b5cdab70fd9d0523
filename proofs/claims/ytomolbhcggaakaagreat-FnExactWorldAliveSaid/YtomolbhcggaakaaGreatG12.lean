/- Parts of the proof, in one text. -/
import Derived.Deep.LoopGhost
import Derived.Test.YtomolbhcggaakaaGreatG11
import Derived.Test.YtomolbhcggaakaaGreatG08
/- Sizes of the program's types: steps and worlds. -/
namespace Go.Proofs.YtomolbhcggaakaaGreat
open Go.RowKit
theorem siO : (Tryz.prog.info? tO).map (·.size) = some 6 := by kernel_rfl
theorem siW : (Tryz.prog.info? tW).map (·.size) = some 7 := by kernel_rfl
theorem siSR : (Tryz.prog.info? 30).map (·.size) = some 1 := by kernel_rfl
theorem siSO : (Tryz.prog.info? 29).map (·.size) = some 1 := by kernel_rfl
theorem agO (W : World) : (isAgg tO).run Tryz.prog W = .ok true W := by kernel_rfl
theorem agW (W : World) : (isAgg tW).run Tryz.prog W = .ok true W := by kernel_rfl
theorem nfO : (Tryz.prog.info? tO).map (fun i => (i.zero, i.size, i.bytes)) = some (some (.agg #[.int .i64 0, .int .i64 0, .int .i64 0, .int .i64 0, .int .i64 0, .int .i64 0]), 6, 48) := by kernel_rfl
theorem nfR : (Tryz.prog.info? tR).map (fun i => (i.zero, i.size, i.bytes)) = some (some (.agg #[.int .i64 0, .int .i64 0, .slice none 0 0, .int .i64 0, .slice none 0 0, .int .i64 0, .int .i64 0, .slice none 0 0, .slice none 0 0, .bool false, .int .i64 0, .int .i64 0, .int .i64 0]), 13, 168) := by kernel_rfl
end Go.Proofs.YtomolbhcggaakaaGreat
/- The laws' own sizes of worlds; rows that a law is given; rows that are filled one by one. -/
namespace Go.Proofs.YtomolbhcggaakaaGreat
open Go.RowKit
set_option maxRecDepth 100000

section
variable {w0 w w' : World} {B n : Nat} {A : Option Addr}
theorem ReadsL.op {xs : List Opx} (h : ReadsL encO 6 w B A n xs) {j : Nat} (hj : j < xs.length) :
    ∃ ad, A = some ad ∧ ad.block < B ∧ w.cell? (ad.add (j * 6)) = some (.int .i64 xs[j].k) ∧ w.cell? ⟨(ad.add (j * 6)).block, (ad.add (j * 6)).off + 1, none⟩ = some (.int .i64 xs[j].r) ∧ w.cell? ⟨(ad.add (j * 6)).block, (ad.add (j * 6)).off + 2, none⟩ = some (.int .i64 xs[j].s) ∧
      w.cell? ⟨(ad.add (j * 6)).block, (ad.add (j * 6)).off + 3, none⟩ = some (.int .i64 xs[j].to) ∧ w.cell? ⟨(ad.add (j * 6)).block, (ad.add (j * 6)).off + 4, none⟩ = some (.int .i64 xs[j].v.k) ∧ w.cell? ⟨(ad.add (j * 6)).block, (ad.add (j * 6)).off + 5, none⟩ = some (.int .i64 xs[j].v.n) := by
  obtain ⟨ad, e, hb, hc⟩ := h.row encO_length hj
  refine ⟨ad, e, hb, by have := hc 0 _ rfl; rwa [add_of_add] at this, ?_, ?_, ?_, ?_, ?_⟩
  · rw [add_succ, ← add_of_add]; exact hc 1 _ rfl
  · rw [add_succ, ← add_of_add]; exact hc 2 _ rfl
  · rw [add_succ, ← add_of_add]; exact hc 3 _ rfl
  · rw [add_succ, ← add_of_add]; exact hc 4 _ rfl
  · rw [add_succ, ← add_of_add]; exact hc 5 _ rfl
/-- The cells of a run that a law is given, behind the first. -/
def RunCells (w : World) (a : Addr) (r : Rn) (ra : RA) : Prop :=
  w.cell? a = some (.int .i64 r.id) ∧ w.cell? ⟨a.block, a.off + 1, none⟩ = some (.int .i64 r.at_) ∧ w.cell? ⟨a.block, a.off + 2, none⟩ = some (.slice ra.sA r.slots.length ra.sC) ∧ w.cell? ⟨a.block, a.off + 3, none⟩ = some (.int .i64 r.full) ∧
  w.cell? ⟨a.block, a.off + 4, none⟩ = some (.slice ra.mA r.mail.length ra.mC) ∧ w.cell? ⟨a.block, a.off + 5, none⟩ = some (.int .i64 r.state) ∧ w.cell? ⟨a.block, a.off + 6, none⟩ = some (.int .i64 r.due) ∧ w.cell? ⟨a.block, a.off + 7, none⟩ = some (.slice ra.lA r.links.length ra.lC) ∧
  w.cell? ⟨a.block, a.off + 8, none⟩ = some (.slice ra.wA r.watched.length ra.wC) ∧ w.cell? ⟨a.block, a.off + 9, none⟩ = some (.bool r.trap) ∧ w.cell? ⟨a.block, a.off + 10, none⟩ = some (.int .i64 r.why.k) ∧ w.cell? ⟨a.block, a.off + 11, none⟩ = some (.int .i64 r.why.n) ∧ w.cell? ⟨a.block, a.off + 12, none⟩ = some (.int .i64 r.turns)
theorem ReadsL.run {xs : List (Rn × RA)} (h : ReadsL encR 13 w B A n xs) {j : Nat} (hj : j < xs.length) :
    ∃ ad, A = some ad ∧ ad.block < B ∧ RunCells w (ad.add (j * 13)) xs[j].1 xs[j].2 := by
  obtain ⟨ad, e, hb, hc⟩ := h.row encR_length hj
  have key : ∀ i u, (encR xs[j])[i + 1]? = some u → w.cell? ⟨(ad.add (j * 13)).block, (ad.add (j * 13)).off + (i + 1), none⟩ = some u := fun i u hu => by
    rw [add_succ, ← add_of_add]; exact hc _ _ hu
  exact ⟨ad, e, hb, by have := hc 0 _ rfl; rwa [add_of_add] at this, key 0 _ rfl, key 1 _ rfl, key 2 _ rfl, key 3 _ rfl, key 4 _ rfl, key 5 _ rfl, key 6 _ rfl, key 7 _ rfl, key 8 _ rfl, key 9 _ rfl, key 10 _ rfl, key 11 _ rfl⟩
end
/-! A row that is filled one by one. -/
section
variable {α : Type}
theorem takeS (l : List α) {k : Nat} (hk : k < l.length) : l.take (k + 1) = l.take k ++ [l[k]] := by rw [List.take_add_one, List.getElem?_eq_getElem hk]; rfl
def fillL (l : List α) (z : α) (k : Nat) : List α := l.take k ++ List.replicate (l.length - k) z
theorem fillL_length (l : List α) (z : α) {k : Nat} (hk : k ≤ l.length) : (fillL l z k).length = l.length := by
  unfold fillL
  rw [List.length_append, List.length_take, List.length_replicate]
  omega
theorem fillL_zero (l : List α) (z : α) : fillL l z 0 = List.replicate l.length z := by simp [fillL]
theorem fillL_end (l : List α) (z : α) : fillL l z l.length = l := by simp [fillL]
theorem fillL_set (l : List α) (z : α) {k : Nat} (hk : k < l.length) : (fillL l z k).set k l[k] = fillL l z (k + 1) := by
  unfold fillL
  have e1 : l.length - k = (l.length - (k + 1)) + 1 := by omega
  rw [e1, List.replicate_succ, List.set_append_right _ _ (by rw [List.length_take]; omega), List.length_take, Nat.min_eq_left (by omega), Nat.sub_self, List.set_cons_zero, takeS l hk, List.append_assoc]
  rfl
end
section
variable {P : Program} {ops : Array Oper} {rest : List Oper} {Q : Exit → Act → World → Prop} {a : Act} {x y : Operand} {ty tt : TypeId} {pos : String} {after : Array Edge} {gd : Option (Nat × Bool)}
variable {α : Type} {enc : α → List Value} {m : Nat} {t : TypeId} {c : Nat} {xs : List α} {w0 w : World} {f : List Nat} {L L' : List Asn}
/-- A whole element is stored into a row. -/
theorem ev_put_row (x' : α) (hk : ∀ x, (enc x).length = m) (hone : ∀ x, ∀ u ∈ enc x, u.oneCell' = true) (M : Mem w0 f w L) {v : Value} {g off k : Nat} (hw : Region.wanted ⟨none, .store tt x y, ty, pos, after, gd⟩ (yielded ops a.tmps) = true) (hx : a.eval x = .pointer (some ⟨g, off, none⟩)) (hy : a.eval y = v) (hv : v.cells = (enc x').toArray)
    (hs : (P.info? tt).map (·.size) = some m) (hd : Del (row enc m t (some ⟨g, 0, none⟩) c xs) L L') (ho : off = k * m) (hlt : k < xs.length)
    (h : ∀ w1, Mem w0 f w1 (row enc m t (some ⟨g, 0, none⟩) c (xs.set k x') :: L') → wpList P ops Q rest a w1) : wpList P ops Q (⟨none, .store tt x y, ty, pos, after, gd⟩ :: rest) a w := by
  refine ev_store_row (j := 0) (k := k) (x' := x') hk hw hx hy hv (by rw [hs, hk]) (hone x') M hd (by rw [ho, Nat.add_zero]) hlt (by rw [Nat.zero_add, hk]; exact Nat.le_refl _) ?_ h
  unfold splice
  simp only [List.take_zero, List.nil_append, Nat.zero_add]
  rw [List.drop_eq_nil_of_le (by rw [hk, hk]; exact Nat.le_refl _), List.append_nil]
end

/-! Sizes. -/
theorem lSzOpS (l : List Opx) (left : Int) (A : Option Addr) (c : Nat) (w : World) (hl : l.length ≤ 140737488355328) (h0 : 0 ≤ left) (h1 : left ≤ 1048576) :
    Calls Tryz.prog 41 #[.slice A l.length c, .int .i64 left] w fun e w' => e = .returned (.int .i64 (if left - l.length < 0 then -1 else left - l.length)) ∧ w = w' := by
  by_cases h : left - l.length < 0
  · rw [if_pos h]
    go_enter Tryz.func41, Tryz.ntmps41
    go_wp2
    go_ret
    exact ⟨rfl, rfl⟩
  · rw [if_neg h]
    go_enter Tryz.func41, Tryz.ntmps41
    go_wp2
    go_ret
    exact ⟨rfl, rfl⟩
def sizesR : List Rn → Int
  | [] => 0
  | r :: l => sizeR r + sizesR l
theorem sizeR_nonneg (r : Rn) : 0 ≤ sizeR r := by unfold sizeR; omega
theorem sizesR_nonneg (l : List Rn) : 0 ≤ sizesR l := by
  induction l with
  | nil => exact Int.le_refl _
  | cons r l ih => have := sizeR_nonneg r; simp only [sizesR]; omega
theorem sizesR_take {l : List Rn} {k : Nat} (hk : k < l.length) : sizesR (l.take (k + 1)) = sizesR (l.take k) + sizeR l[k] := by
  induction l generalizing k with
  | nil => simp at hk
  | cons r l ih =>
    cases k with
    | zero => simp [sizesR]
    | succ k =>
      have := ih (k := k) (by simpa using hk)
      simp only [List.take_succ_cons, sizesR, List.getElem_cons_succ, this]
      omega
theorem sizesR_le (l : List Rn) (k : Nat) : sizesR (l.take k) ≤ sizesR l := by
  induction l generalizing k with
  | nil => simp
  | cons r l ih =>
    cases k with
    | zero => simpa [sizesR] using sizesR_nonneg (r :: l)
    | succ k =>
      have := ih k
      simp only [List.take_succ_cons, sizesR]
      omega
theorem szR_neg {left : Int} {r : Rn} (h : szR left r < 0) : szR left r = -1 ∧ left < sizeR r := by
  unfold szR at h ⊢
  unfold sizeR
  repeat (split at h; · rename_i h1; first | rw [if_pos h1] | skip; exact ⟨rfl, by omega⟩)
  omega
theorem szR_val {left : Int} {r : Rn} (h : ¬ szR left r < 0) : szR left r = left - sizeR r := by
  unfold szR at h ⊢
  unfold sizeR
  repeat (split at h; · exact absurd (by decide) h)
  rename_i h1 h2 h3 h4
  rw [if_neg h1, if_neg h2, if_neg h3, if_neg h4]
  omega
/-- What a world's lists come to. -/
def sizeW (w : Wd) : Int := w.code.length + (w.runs.length + sizesR w.runs) + w.queue.length
end Go.Proofs.YtomolbhcggaakaaGreat
