/- Parts of the proof, in one text. -/
import Derived.Deep.LoopGhost
import Derived.Test.YtomolbhcggaakaaGreatH23
import Derived.Test.YtomolbhcggaakaaGreatH06
import Derived.Test.YtomolbhcggaakaaGreatH03
/- The laws' own sizes of worlds; rows that a law is given; rows that are filled one by one. -/
namespace Go.Proofs.YtomolbhcggaakaaGreat
open Go.RowKit
set_option maxRecDepth 100000

section
variable {w0 w w' : World} {B n : Nat} {A : Option Addr}
theorem ReadsL.op {xs : List Opx} (h : ReadsL encO 6 w B A n xs) {j : Nat} (hj : j < xs.length) :
    ∃ ad, A = some ad ∧ ad.block < B ∧ w.cell? (ad.add (j * 6)) = some (.int .i64 xs[j].k) ∧ w.cell? ⟨(ad.add (j * 6)).block, (ad.add (j * 6)).off + 1, none⟩ = some (.int .i64 xs[j].r) ∧ w.cell? ⟨(ad.add (j * 6)).block, (ad.add (j * 6)).off + 2, none⟩ = some (.int .i64 xs[j].s) ∧
      w.cell? ⟨(ad.add (j * 6)).block, (ad.add (j * 6)).off + 3, none⟩ = some (.int .i64 xs[j].to) ∧ w.cell? ⟨(ad.add (j * 6)).block, (ad.add (j * 6)).off + 4, none⟩ = some (.int .i64 xs[j].v.k) ∧ w.cell? ⟨(ad.add (j * 6)).block, (ad.add (j * 6)).off + 5, none⟩ = some (.int .i64 xs[j].v.n) := by
  obtain ⟨ad, e, hb, hc⟩ := h.row encO_length hj
  refine ⟨ad, e, hb, by have := hc 0 _ rfl; rwa [add_of_add] at this, ?_, ?_, ?_, ?_, ?_⟩
  · rw [add_succ, ← add_of_add]; exact hc 1 _ rfl
  · rw [add_succ, ← add_of_add]; exact hc 2 _ rfl
  · rw [add_succ, ← add_of_add]; exact hc 3 _ rfl
  · rw [add_succ, ← add_of_add]; exact hc 4 _ rfl
  · rw [add_succ, ← add_of_add]; exact hc 5 _ rfl
/-- The cells of a run that a law is given, behind the first. -/
def RunCells (w : World) (a : Addr) (r : Rn) (ra : RA) : Prop :=
  w.cell? a = some (.int .i64 r.id) ∧ w.cell? ⟨a.block, a.off + 1, none⟩ = some (.int .i64 r.at_) ∧ w.cell? ⟨a.block, a.off + 2, none⟩ = some (.slice ra.sA r.slots.length ra.sC) ∧ w.cell? ⟨a.block, a.off + 3, none⟩ = some (.int .i64 r.full) ∧
  w.cell? ⟨a.block, a.off + 4, none⟩ = some (.slice ra.mA r.mail.length ra.mC) ∧ w.cell? ⟨a.block, a.off + 5, none⟩ = some (.int .i64 r.state) ∧ w.cell? ⟨a.block, a.off + 6, none⟩ = some (.int .i64 r.due) ∧ w.cell? ⟨a.block, a.off + 7, none⟩ = some (.slice ra.lA r.links.length ra.lC) ∧
  w.cell? ⟨a.block, a.off + 8, none⟩ = some (.slice ra.wA r.watched.length ra.wC) ∧ w.cell? ⟨a.block, a.off + 9, none⟩ = some (.bool r.trap) ∧ w.cell? ⟨a.block, a.off + 10, none⟩ = some (.int .i64 r.why.k) ∧ w.cell? ⟨a.block, a.off + 11, none⟩ = some (.int .i64 r.why.n) ∧ w.cell? ⟨a.block, a.off + 12, none⟩ = some (.int .i64 r.turns)
theorem ReadsL.run {xs : List (Rn × RA)} (h : ReadsL encR 13 w B A n xs) {j : Nat} (hj : j < xs.length) :
    ∃ ad, A = some ad ∧ ad.block < B ∧ RunCells w (ad.add (j * 13)) xs[j].1 xs[j].2 := by
  obtain ⟨ad, e, hb, hc⟩ := h.row encR_length hj
  have key : ∀ i u, (encR xs[j])[i + 1]? = some u → w.cell? ⟨(ad.add (j * 13)).block, (ad.add (j * 13)).off + (i + 1), none⟩ = some u := fun i u hu => by
    rw [add_succ, ← add_of_add]; exact hc _ _ hu
  exact ⟨ad, e, hb, by have := hc 0 _ rfl; rwa [add_of_add] at this, key 0 _ rfl, key 1 _ rfl, key 2 _ rfl, key 3 _ rfl, key 4 _ rfl, key 5 _ rfl, key 6 _ rfl, key 7 _ rfl, key 8 _ rfl, key 9 _ rfl, key 10 _ rfl, key 11 _ rfl⟩
end
/-! A row that is filled one by one. -/
section
variable {α : Type}
theorem takeS (l : List α) {k : Nat} (hk : k < l.length) : l.take (k + 1) = l.take k ++ [l[k]] := by rw [List.take_add_one, List.getElem?_eq_getElem hk]; rfl
def fillL (l : List α) (z : α) (k : Nat) : List α := l.take k ++ List.replicate (l.length - k) z
theorem fillL_length (l : List α) (z : α) {k : Nat} (hk : k ≤ l.length) : (fillL l z k).length = l.length := by
  unfold fillL
  rw [List.length_append, List.length_take, List.length_replicate]
  omega
theorem fillL_zero (l : List α) (z : α) : fillL l z 0 = List.replicate l.length z := by simp [fillL]
theorem fillL_end (l : List α) (z : α) : fillL l z l.length = l := by simp [fillL]
theorem fillL_set (l : List α) (z : α) {k : Nat} (hk : k < l.length) : (fillL l z k).set k l[k] = fillL l z (k + 1) := by
  unfold fillL
  have e1 : l.length - k = (l.length - (k + 1)) + 1 := by omega
  rw [e1, List.replicate_succ, List.set_append_right _ _ (by rw [List.length_take]; omega), List.length_take, Nat.min_eq_left (by omega), Nat.sub_self, List.set_cons_zero, takeS l hk, List.append_assoc]
  rfl
end
section
variable {P : Program} {ops : Array Oper} {rest : List Oper} {Q : Exit → Act → World → Prop} {a : Act} {x y : Operand} {ty tt : TypeId} {pos : String} {after : Array Edge} {gd : Option (Nat × Bool)}
variable {α : Type} {enc : α → List Value} {m : Nat} {t : TypeId} {c : Nat} {xs : List α} {w0 w : World} {f : List Nat} {L L' : List Asn}
/-- A whole element is stored into a row. -/
theorem ev_put_row (x' : α) (hk : ∀ x, (enc x).length = m) (hone : ∀ x, ∀ u ∈ enc x, u.oneCell' = true) (M : Mem w0 f w L) {v : Value} {g off k : Nat} (hw : Region.wanted ⟨none, .store tt x y, ty, pos, after, gd⟩ (yielded ops a.tmps) = true) (hx : a.eval x = .pointer (some ⟨g, off, none⟩)) (hy : a.eval y = v) (hv : v.cells = (enc x').toArray)
    (hs : (P.info? tt).map (·.size) = some m) (hd : Del (row enc m t (some ⟨g, 0, none⟩) c xs) L L') (ho : off = k * m) (hlt : k < xs.length)
    (h : ∀ w1, Mem w0 f w1 (row enc m t (some ⟨g, 0, none⟩) c (xs.set k x') :: L') → wpList P ops Q rest a w1) : wpList P ops Q (⟨none, .store tt x y, ty, pos, after, gd⟩ :: rest) a w := by
  refine ev_store_row (j := 0) (k := k) (x' := x') hk hw hx hy hv (by rw [hs, hk]) (hone x') M hd (by rw [ho, Nat.add_zero]) hlt (by rw [Nat.zero_add, hk]; exact Nat.le_refl _) ?_ h
  unfold splice
  simp only [List.take_zero, List.nil_append, Nat.zero_add]
  rw [List.drop_eq_nil_of_le (by rw [hk, hk]; exact Nat.le_refl _), List.append_nil]
end

/-! Sizes. -/
theorem lSzOpS (l : List Opx) (left : Int) (A : Option Addr) (c : Nat) (w : World) (hl : l.length ≤ 140737488355328) (h0 : 0 ≤ left) (h1 : left ≤ 1048576) :
    Calls Tryz.prog 41 #[.slice A l.length c, .int .i64 left] w fun e w' => e = .returned (.int .i64 (if left - l.length < 0 then -1 else left - l.length)) ∧ w = w' := by
  by_cases h : left - l.length < 0
  · rw [if_pos h]
    go_enter Tryz.func41, Tryz.ntmps41
    go_wp2
    go_ret
    exact ⟨rfl, rfl⟩
  · rw [if_neg h]
    go_enter Tryz.func41, Tryz.ntmps41
    go_wp2
    go_ret
    exact ⟨rfl, rfl⟩
def sizesR : List Rn → Int
  | [] => 0
  | r :: l => sizeR r + sizesR l
theorem sizeR_nonneg (r : Rn) : 0 ≤ sizeR r := by unfold sizeR; omega
theorem sizesR_nonneg (l : List Rn) : 0 ≤ sizesR l := by
  induction l with
  | nil => exact Int.le_refl _
  | cons r l ih => have := sizeR_nonneg r; simp only [sizesR]; omega
theorem sizesR_take {l : List Rn} {k : Nat} (hk : k < l.length) : sizesR (l.take (k + 1)) = sizesR (l.take k) + sizeR l[k] := by
  induction l generalizing k with
  | nil => simp at hk
  | cons r l ih =>
    cases k with
    | zero => simp [sizesR]
    | succ k =>
      have := ih (k := k) (by simpa using hk)
      simp only [List.take_succ_cons, sizesR, List.getElem_cons_succ, this]
      omega
theorem sizesR_le (l : List Rn) (k : Nat) : sizesR (l.take k) ≤ sizesR l := by
  induction l generalizing k with
  | nil => simp
  | cons r l ih =>
    cases k with
    | zero => simpa [sizesR] using sizesR_nonneg (r :: l)
    | succ k =>
      have := ih k
      simp only [List.take_succ_cons, sizesR]
      omega
theorem szR_neg {left : Int} {r : Rn} (h : szR left r < 0) : szR left r = -1 ∧ left < sizeR r := by
  unfold szR at h ⊢
  unfold sizeR
  repeat (split at h; · rename_i h1; first | rw [if_pos h1] | skip; exact ⟨rfl, by omega⟩)
  omega
theorem szR_val {left : Int} {r : Rn} (h : ¬ szR left r < 0) : szR left r = left - sizeR r := by
  unfold szR at h ⊢
  unfold sizeR
  repeat (split at h; · exact absurd (by decide) h)
  rename_i h1 h2 h3 h4
  rw [if_neg h1, if_neg h2, if_neg h3, if_neg h4]
  omega
/-- What a world's lists come to. -/
def sizeW (w : Wd) : Int := w.code.length + (w.runs.length + sizesR w.runs) + w.queue.length
end Go.Proofs.YtomolbhcggaakaaGreat
/- The laws' marks: each cell of a run's lists is given a number of its own. -/
namespace Go.Proofs.YtomolbhcggaakaaGreat
open Go.RowKit
set_option maxRecDepth 100000

def marksI (k : Int) (n : Nat) : List Int := (List.range n).map fun (i : Nat) => k + (i : Int)
def marksV (k : Int) (n : Nat) : List Vl := (List.range n).map fun (i : Nat) => ⟨k + 2 * (i : Int), k + 2 * (i : Int) + 1⟩
theorem marksI_length (k : Int) (n : Nat) : (marksI k n).length = n := by simp [marksI]
theorem marksV_length (k : Int) (n : Nat) : (marksV k n).length = n := by simp [marksV]
theorem marksI_get {k : Int} {n j : Nat} (h : j < n) : (marksI k n)[j]? = some (k + j) := by simp [marksI, h]
theorem marksV_get {k : Int} {n j : Nat} (h : j < n) : (marksV k n)[j]? = some ⟨k + 2 * j, k + 2 * j + 1⟩ := by simp [marksV, h]
theorem grown_refl (w : World) (row : Option Nat) : w.grownBy w row := ⟨rfl, rfl, rfl, Nat.le_refl _, fun _ _ _ => rfl⟩
theorem grown_trans {w a b : World} {row : Option Nat} (h : w.grownBy a row) (k : a.grownBy b row) : w.grownBy b row :=
  ⟨k.os.trans h.os, k.tape.trans h.tape, k.output.trans h.output, Nat.le_trans h.size k.size, fun i hi hne => (k.block i (Nat.lt_of_lt_of_le hi h.size) hne).trans (h.block i hi hne)⟩
theorem grown_set {w W : World} {g : Nat} (h : w.grownBy W (some g)) (j : Nat) (u : Value) : w.grownBy (W.setCell ⟨g, j, none⟩ u) (some g) :=
  grown_trans h ⟨rfl, rfl, rfl, by simp [World.setCell], fun k _ hne => Below.heap_setCell W ⟨g, j, none⟩ u k (fun e => hne (by rw [e]))⟩

set_option maxHeartbeats 1000000 in
theorem lMarkI1 (xs : List Int) (g n c base : Nat) (k0 : Int) (w : World) (h : RowL encI 1 3 w base g n c xs) (hn : n ≤ 140737488355328) (h0 : 0 ≤ k0) (h1 : k0 ≤ 1152921504606846976) :
    Calls Tryz.prog 25 #[.slice (some ⟨g, 0, none⟩) n c, .int .i64 k0] w fun e w' => e = .returned (.int .i64 (k0 + n)) ∧ RowL encI 1 3 w' base g n c (marksI k0 n) ∧ w.grownBy w' (some g) := by
  go_enter Tryz.func25, Tryz.ntmps25
  go_wp2
  go_loopg [1, 5] n (fun gg s1 s5 wr => ∃ (k : Nat) (cur : List Int), k ≤ n ∧ n - k ≤ gg ∧ s1 = .int .i64 (k0 + k) ∧ s5 = .int .i64 k ∧ Hid (RowL encI 1 3 wr base g n c cur) ∧ Hid (∀ j, j < k → cur[j]? = (marksI k0 n)[j]?) ∧ Hid (w.grownBy wr (some g)))
  case atStart => exact ⟨0, xs, Nat.zero_le _, by omega, by simp, rfl, h, fun j hj => absurd hj (by omega), grown_refl _ _⟩
  case round =>
    obtain ⟨k, cur, hk, hg, rfl, rfl, RW, CU, GW⟩ := hrel
    by_cases hlt : k < n
    · have hcl : k < cur.length := by rw [RW.out.1]; exact hlt
      obtain ⟨hd1, hd2⟩ := RW.out.cell encI_length hcl (i := 0) (by decide)
      have hst := Lib.hid (RW.out.store encI_length hcl (i := 0) (by decide) (x' := k0 + k) (u := .int .i64 (k0 + k)) rfl)
      have hup := Lib.hid (upto_step hcl CU.out (marksI_get hlt))
      have hge := (RW.out.ge (by omega)).2
      simp only [Nat.mul_one, Nat.add_zero] at hd1 hd2 hst
      have hd1' : wr.cell? ⟨g, k, none⟩ = some (.int .i64 cur[k]) := hd1
      clear hd1
      generalize cur[k] = y at hd1'
      have i1 : (0 : Int) ≤ k := by omega
      have i2 : (k : Int) < n := by omega
      go_wp2
      go_roundg (n - (k + 1))
      case measure => omega
      case rel => exact ⟨k + 1, cur.set k (k0 + k), by omega, by omega, by go_num, by go_num, hst.out, hup.out, grown_set GW.out _ _⟩
    · have : k = n := by omega
      subst this
      have e := upto_end (marksI_length _ _) RW.out.1 CU.out
      subst e
      have RR := Lib.hid RW.out
      clear RW CU
      go_wp2
      go_ret
      exact ⟨rfl, RR.out, GW.out⟩
set_option maxHeartbeats 1000000 in
theorem lMarkV1 (xs : List Vl) (g n c base : Nat) (k0 : Int) (w : World) (h : RowL encV 2 44 w base g n c xs) (hn : n ≤ 140737488355328) (h0 : 0 ≤ k0) (h1 : k0 ≤ 1152921504606846976) :
    Calls Tryz.prog 107 #[.slice (some ⟨g, 0, none⟩) n c, .int .i64 k0] w fun e w' => e = .returned (.int .i64 (k0 + 2 * n)) ∧ RowL encV 2 44 w' base g n c (marksV k0 n) ∧ w.grownBy w' (some g) := by
  go_enter Tryz.func107, Tryz.ntmps107
  go_wp2
  go_loopg [1, 5] n (fun gg s1 s5 wr => ∃ (k : Nat) (cur : List Vl), k ≤ n ∧ n - k ≤ gg ∧ s1 = .int .i64 (k0 + 2 * k) ∧ s5 = .int .i64 k ∧ Hid (RowL encV 2 44 wr base g n c cur) ∧ Hid (∀ j, j < k → cur[j]? = (marksV k0 n)[j]?) ∧ Hid (w.grownBy wr (some g)))
  case atStart => exact ⟨0, xs, Nat.zero_le _, by omega, by simp, rfl, h, fun j hj => absurd hj (by omega), grown_refl _ _⟩
  case round =>
    obtain ⟨k, cur, hk, hg, rfl, rfl, RW, CU, GW⟩ := hrel
    by_cases hlt : k < n
    · have hcl : k < cur.length := by rw [RW.out.1]; exact hlt
      obtain ⟨⟨y1, hd1⟩, ⟨y2, hd2⟩, hd3, hd4, hst⟩ := row_set2 RW.out hcl ⟨k0 + 2 * k, k0 + 2 * k + 1⟩
      have HST := Lib.hid hst
      clear hst
      have hup := Lib.hid (upto_step hcl CU.out (marksV_get hlt))
      have hge := (RW.out.ge (by omega)).2
      have i1 : (0 : Int) ≤ k := by omega
      have i2 : (k : Int) < n := by omega
      have e1 : IntKind.i64.wrap (k0 + 2 * (k : Int) + 1) = k0 + 2 * (k : Int) + 1 := by rw [IntKind.wrap_i64]; omega
      go_wp2
      go_roundg (n - (k + 1))
      case measure => omega
      case rel => exact ⟨k + 1, cur.set k ⟨k0 + 2 * k, k0 + 2 * k + 1⟩, by omega, by omega, by go_num, by go_num, HST.out, hup.out, grown_set (grown_set GW.out _ _) _ _⟩
    · have : k = n := by omega
      subst this
      have e := upto_end (marksV_length _ _) RW.out.1 CU.out
      subst e
      have RR := Lib.hid RW.out
      clear RW CU
      go_wp2
      go_ret
      exact ⟨rfl, RR.out, GW.out⟩
end Go.Proofs.YtomolbhcggaakaaGreat
/- The laws' marks on a run of the call's own, and their reading. -/
namespace Go.Proofs.YtomolbhcggaakaaGreat
open Go.RowKit
set_option maxRecDepth 100000

theorem grown_cell {W W' : World} {row : Option Nat} {b : Nat} (h : W.grownBy W' row) (hne : row ≠ some b) (hb : b < W.heap.size) : ∀ o, W'.cell? ⟨b, o, none⟩ = W.cell? ⟨b, o, none⟩ := fun o => by
  have := h.block b hb (fun e => hne e.symm)
  unfold World.cell?
  simp only
  rw [this]
theorem OwnL.ne_size {α : Type} {enc : α → List Value} {m t base : Nat} {w : World} {v : Value} {xs : List α} (h : OwnL enc m t w base v xs) {b : Nat} (hb : w.heap.size ≤ b) : v.ownBlock ≠ some b := fun e => by
  have := (h.lt _ e).2
  omega
theorem NeB.kept {v u : Value} (h : NeB v u) : u.ownBlock = none ∨ u.ownBlock ≠ v.ownBlock := by
  cases e : u.ownBlock with
  | none => exact .inl rfl
  | some k => exact .inr fun e' => h k e'.symm e
theorem NeB.kept' {v u : Value} (h : NeB v u) : v.ownBlock = none ∨ v.ownBlock ≠ u.ownBlock := by
  cases e : v.ownBlock with
  | none => exact .inl rfl
  | some k => exact .inr fun e' => h k e e'.symm
theorem below_grown {base : Nat} {w W W' : World} {α : Type} {enc : α → List Value} {m t : Nat} {V : World} {v : Value} {xs : List α} (h : Below base w W) (hb : base ≤ W.heap.size) (g : W.grownBy W' v.ownBlock) (ho : OwnL enc m t V base v xs) : Below base w W' :=
  h.trans ⟨g.os, g.tape, g.output, g.size, fun k hk => g.block k (Nat.lt_of_lt_of_le hk hb) (fun e => by have := (ho.lt _ e.symm).1; omega)⟩

theorem lMarkI (xs : List Int) (A : Option Addr) (c base : Nat) (k0 : Int) (w : World) (h : OwnL encI 1 3 w base (.slice A xs.length c) xs) (hn : xs.length ≤ 140737488355328) (h0 : 0 ≤ k0) (h1 : k0 ≤ 1152921504606846976) :
    Calls Tryz.prog 25 #[.slice A xs.length c, .int .i64 k0] w fun e w' => e = .returned (.int .i64 (k0 + xs.length)) ∧ OwnL encI 1 3 w' base (.slice A xs.length c) (marksI k0 xs.length) ∧ w.grownBy w' (Value.slice A xs.length c).ownBlock := by
  by_cases hp : 0 < xs.length
  · obtain ⟨g, c', e, _, _⟩ := h.form hp
    simp only [Value.slice.injEq, true_and] at e
    obtain ⟨rfl, rfl⟩ := e
    exact (lMarkI1 xs g xs.length c base k0 w ⟨rfl, h⟩ hn h0 h1).mono fun e w' ⟨h1, h2, h3⟩ => ⟨h1, h2.2, h3⟩
  · have hz : xs.length = 0 := by omega
    have hx : xs = [] := List.length_eq_zero_iff.1 hz
    subst hx
    have H := Lib.hid h
    clear h hp hz
    simp only [List.length_nil] at H ⊢
    go_enter Tryz.func25, Tryz.ntmps25
    go_wp2
    go_loopg [1, 5] 0 (fun gg s1 s5 wr => s1 = .int .i64 k0 ∧ s5 = .int .i64 0 ∧ w = wr)
    case atStart => exact ⟨rfl, rfl, rfl⟩
    case round =>
      obtain ⟨rfl, rfl, rfl⟩ := hrel
      go_wp2
      go_ret
      exact ⟨ret_int (by simp), H.out, grown_refl _ _⟩
theorem lMarkV (xs : List Vl) (A : Option Addr) (c base : Nat) (k0 : Int) (w : World) (h : OwnL encV 2 44 w base (.slice A xs.length c) xs) (hn : xs.length ≤ 140737488355328) (h0 : 0 ≤ k0) (h1 : k0 ≤ 1152921504606846976) :
    Calls Tryz.prog 107 #[.slice A xs.length c, .int .i64 k0] w fun e w' => e = .returned (.int .i64 (k0 + 2 * xs.length)) ∧ OwnL encV 2 44 w' base (.slice A xs.length c) (marksV k0 xs.length) ∧ w.grownBy w' (Value.slice A xs.length c).ownBlock := by
  by_cases hp : 0 < xs.length
  · obtain ⟨g, c', e, _, _⟩ := h.form hp
    simp only [Value.slice.injEq, true_and] at e
    obtain ⟨rfl, rfl⟩ := e
    exact (lMarkV1 xs g xs.length c base k0 w ⟨rfl, h⟩ hn h0 h1).mono fun e w' ⟨h1, h2, h3⟩ => ⟨h1, h2.2, h3⟩
  · have hz : xs.length = 0 := by omega
    have hx : xs = [] := List.length_eq_zero_iff.1 hz
    subst hx
    have H := Lib.hid h
    clear h hp hz
    simp only [List.length_nil] at H ⊢
    go_enter Tryz.func107, Tryz.ntmps107
    go_wp2
    go_loopg [1, 5] 0 (fun gg s1 s5 wr => s1 = .int .i64 k0 ∧ s5 = .int .i64 0 ∧ w = wr)
    case atStart => exact ⟨rfl, rfl, rfl⟩
    case round =>
      obtain ⟨rfl, rfl, rfl⟩ := hrel
      go_wp2
      go_ret
      exact ⟨ret_int (by simp), H.out, grown_refl _ _⟩

set_option maxHeartbeats 1000000 in
theorem lHeldI (n : Nat) (k0 : Int) (A : Option Addr) (c B : Nat) (w : World) (h : ReadsI w B A n (marksI k0 n)) (h0 : 0 ≤ k0) (h1 : k0 ≤ 1152921504606846976) :
    Calls Tryz.prog 26 #[.slice A n c, .int .i64 k0] w fun e w' => e = .returned (.int .i64 (k0 + n)) ∧ w = w' := by
  have hn := h.2.1
  have H := Lib.hid h
  clear h
  go_enter Tryz.func26, Tryz.ntmps26
  go_wp2
  go_loopg [1, 5] n (fun gg s1 s5 wr => ∃ k : Nat, k ≤ n ∧ n - k ≤ gg ∧ s1 = .int .i64 (k0 + k) ∧ s5 = .int .i64 k ∧ w = wr)
  case atStart => exact ⟨0, Nat.zero_le _, by omega, by simp, rfl, rfl⟩
  case round =>
    obtain ⟨k, hk, hg, rfl, rfl, rfl⟩ := hrel
    by_cases hlt : k < n
    · obtain ⟨ad, rfl, _, hc⟩ := H.out.int (j := k) (by rw [marksI_length]; exact hlt)
      have e : (marksI k0 n)[k]'(by rw [marksI_length]; exact hlt) = k0 + k := Option.some.inj ((List.getElem?_eq_getElem _).symm.trans (marksI_get hlt))
      rw [e] at hc
      clear e
      have i1 : (0 : Int) ≤ k := by omega
      have i2 : (k : Int) < n := by omega
      go_wp2
      go_roundg (n - (k + 1))
      case measure => omega
      case rel => exact ⟨k + 1, by omega, by omega, by go_num, by go_num, rfl⟩
    · have : k = n := by omega
      subst this
      go_wp2
      go_ret
      exact ⟨rfl, rfl⟩
set_option maxHeartbeats 1000000 in
theorem lHeldV (n : Nat) (k0 : Int) (A : Option Addr) (c B : Nat) (w : World) (h : ReadsV w B A n (marksV k0 n)) (h0 : 0 ≤ k0) (h1 : k0 ≤ 1152921504606846976) :
    Calls Tryz.prog 114 #[.slice A n c, .int .i64 k0] w fun e w' => e = .returned (.int .i64 (k0 + 2 * n)) ∧ w = w' := by
  have hn := h.2.1
  have H := Lib.hid h
  clear h
  go_enter Tryz.func114, Tryz.ntmps114
  go_wp2
  go_loopg [1, 5] n (fun gg s1 s5 wr => ∃ k : Nat, k ≤ n ∧ n - k ≤ gg ∧ s1 = .int .i64 (k0 + 2 * k) ∧ s5 = .int .i64 k ∧ w = wr)
  case atStart => exact ⟨0, Nat.zero_le _, by omega, by simp, rfl, rfl⟩
  case round =>
    obtain ⟨k, hk, hg, rfl, rfl, rfl⟩ := hrel
    by_cases hlt : k < n
    · obtain ⟨ad, rfl, _, hc1, hc2⟩ := H.out.val (j := k) (by rw [marksV_length]; exact hlt)
      have e : (marksV k0 n)[k]'(by rw [marksV_length]; exact hlt) = ⟨k0 + 2 * k, k0 + 2 * k + 1⟩ := Option.some.inj ((List.getElem?_eq_getElem _).symm.trans (marksV_get hlt))
      rw [e] at hc1 hc2
      clear e
      have i1 : (0 : Int) ≤ k := by omega
      have i2 : (k : Int) < n := by omega
      have e1 : IntKind.i64.wrap (k0 + 2 * (k : Int) + 1) = k0 + 2 * (k : Int) + 1 := by rw [IntKind.wrap_i64]; omega
      go_wp2
      go_roundg (n - (k + 1))
      case measure => omega
      case rel => exact ⟨k + 1, by omega, by omega, by go_num, by go_num, rfl⟩
    · have : k = n := by omega
      subst this
      go_wp2
      go_ret
      exact ⟨rfl, rfl⟩
end Go.Proofs.YtomolbhcggaakaaGreat
