/- Parts of the proof, in one text. -/
import Derived.Test.YtmidnaafljgbiaaB17
import Derived.Test.YtmidnaafljgbiaaB04
import Derived.Test.YtmidnaafljgbiaaB03
/- The laws' own comparison of runs. -/
namespace Go.Proofs.Ytmidnaafljgbiaa
open Go.RowKit
set_option maxRecDepth 100000

set_option maxHeartbeats 1000000 in
theorem lvIntsOk (l : List Int) (A A' : Option Addr) (c c' B : Nat) (w : World) (h : ReadsI w B A l.length l) (h' : ReadsI w B A' l.length l) (hB : B ≤ w.heap.size) :
    Calls Try.prog 88 #[.slice A l.length c, .slice A' l.length c'] w fun e w' => e = .returned (.bool true) ∧ Below w.heap.size w w' := by
  have hm := h.2.1
  go_enter Try.func88, Try.ntmps88
  go_wp2
  go_loopg [5] l.length (fun gg i wr => ∃ k : Nat, k ≤ l.length ∧ l.length - k ≤ gg ∧ i = .int .i64 k ∧ Hid (Below w.heap.size w wr))
  case atStart => exact ⟨0, Nat.zero_le _, by omega, rfl, Below.refl _ _⟩
  case round =>
    obtain ⟨k, hk, hg, rfl, BW⟩ := hrel
    by_cases hlt : k < l.length
    · obtain ⟨ad, rfl, _, hc⟩ := (h.below' BW.out hB).int hlt
      obtain ⟨ad', rfl, _, hc'⟩ := (h'.below' BW.out hB).int hlt
      generalize l[k] = x at hc hc'
      have i1 : (0 : Int) ≤ k := by omega
      have i2 : (k : Int) < l.length := by omega
      go_wp2
      go_quiet (fail)
      go_wp2
      go_roundg (l.length - (k + 1))
      case measure => omega
      case rel => exact ⟨k + 1, by omega, by omega, by go_num, below_drewN BW.out _⟩
    · have : k = l.length := by omega
      subst this
      go_wp2
      go_ret
      exact ⟨rfl, BW.out⟩
set_option maxHeartbeats 1000000 in
theorem lvValsOk (l : List Vl) (A A' : Option Addr) (c c' B : Nat) (w : World) (h : ReadsV w B A l.length l) (h' : ReadsV w B A' l.length l) (hB : B ≤ w.heap.size) :
    Calls Try.prog 44 #[.slice A l.length c, .slice A' l.length c'] w fun e w' => e = .returned (.bool true) ∧ Below w.heap.size w w' := by
  have hm := h.2.1
  go_enter Try.func44, Try.ntmps44
  go_wp2
  go_loopg [5] l.length (fun gg i wr => ∃ k : Nat, k ≤ l.length ∧ l.length - k ≤ gg ∧ i = .int .i64 k ∧ Hid (Below w.heap.size w wr))
  case atStart => exact ⟨0, Nat.zero_le _, by omega, rfl, Below.refl _ _⟩
  case round =>
    obtain ⟨k, hk, hg, rfl, BW⟩ := hrel
    by_cases hlt : k < l.length
    · obtain ⟨ad, rfl, _, hc1, hc2⟩ := (h.below' BW.out hB).val hlt
      obtain ⟨ad', rfl, _, hd1, hd2⟩ := (h'.below' BW.out hB).val hlt
      generalize l[k] = x at hc1 hc2 hd1 hd2
      obtain ⟨xk, xn⟩ := x
      simp only at hc1 hc2 hd1 hd2
      have i1 : (0 : Int) ≤ k := by omega
      have i2 : (k : Int) < l.length := by omega
      go_wp2
      go_quiet (fail)
      go_wp2
      go_roundg (l.length - (k + 1))
      case measure => omega
      case rel => exact ⟨k + 1, by omega, by omega, by go_num, below_drewN BW.out _⟩
    · have : k = l.length := by omega
      subst this
      go_wp2
      go_ret
      exact ⟨rfl, BW.out⟩
set_option maxHeartbeats 2000000 in
theorem lvRunOk (r : Rn) (a b : RA) (B : Nat) (w : World) (hr : ReadsRun w B r a) (hr' : ReadsRun w B r b) (hB : B ≤ w.heap.size) :
    Calls Try.prog 40 #[.agg (runArr r a), .agg (runArr r b)] w fun e w' => e = .returned (.bool true) ∧ Below w.heap.size w w' := by
  have H1 := Lib.hid (fun W (hb : Below w.heap.size w W) => lvValsOk r.slots a.sA b.sA a.sC b.sC B W (hr.slots.below' hb hB) (hr'.slots.below' hb hB) (Nat.le_trans hB hb.size))
  have H2 := Lib.hid (fun W (hb : Below w.heap.size w W) => lvValsOk r.mail a.mA b.mA a.mC b.mC B W (hr.mail.below' hb hB) (hr'.mail.below' hb hB) (Nat.le_trans hB hb.size))
  have H3 := Lib.hid (fun W (hb : Below w.heap.size w W) => lvIntsOk r.links a.lA b.lA a.lC b.lC B W (hr.links.below' hb hB) (hr'.links.below' hb hB) (Nat.le_trans hB hb.size))
  have H4 := Lib.hid (fun W (hb : Below w.heap.size w W) => lvIntsOk r.watched a.wA b.wA a.wC b.wC B W (hr.watched.below' hb hB) (hr'.watched.below' hb hB) (Nat.le_trans hB hb.size))
  clear hr hr'
  have M := Mem.nil w
  obtain ⟨id, at_, slots, full, mail, state, due, links, watched, trap, ⟨wk, wn⟩, turns⟩ := r
  obtain ⟨sA, sC, mA, mC, lA, lC, wA, wC⟩ := a
  obtain ⟨sA', sC', mA', mC', lA', lC', wA', wC'⟩ := b
  simp only [runArr] at H1 H2 H3 H4 ⊢
  go_enter Try.func40, Try.ntmps40
  go_wp2_with (first
    | (with_reducible refine alAd M ?_; clear M; (try clear F); intro w1 M F) | ((with_reducible apply ev_store (M := M)); rfl; rfl; ((conv => lhs; whnf) <;> rfl); rfl; (first | exact siI | exact siR | exact siV | exact siB | exact siSI | exact siSV | exact siW | exact siSR | exact siSO | exact siO); (exact one_all rfl); (exact dl); (exact Nat.le_of_ble_eq_true rfl); clear M; intro w1 M; simp only [SX] at M; (try clear F); have F := fxd M) | ((with_reducible refine goal_drewN (G := fun W => wpList _ _ _ _ _ W) M ?_); clear M; intro w1 M; (try clear F); have F := fxd M) | ((with_reducible refine goal_drew (G := fun W => wpList _ _ _ _ _ W) M ?_); clear M; intro w1 M; (try clear F); have F := fxd M) | ((with_reducible refine isSet (G := fun W => wpList _ _ _ _ _ W) ?_); (with_reducible refine nmd (G := fun W => wpList _ _ _ _ _ W) ?_; clear M; (try clear F); intro w1 M F))
    | (go_at_call_of 44 (Value.slice sA slots.length sC); (refine nmKd ?_; clear M; (try clear F); intro w1 M F); refine (H1.out _ M.toBelow).mono ?_; rintro e w2 ⟨rfl, hb⟩; replace M := M.below hb; clear hb; (try clear F); have F := fxd M)
    | (go_at_call_of 44 (Value.slice mA mail.length mC); (refine nmKd ?_; clear M; (try clear F); intro w1 M F); refine (H2.out _ M.toBelow).mono ?_; rintro e w2 ⟨rfl, hb⟩; replace M := M.below hb; clear hb; (try clear F); have F := fxd M)
    | (go_at_call_of 88 (Value.slice lA links.length lC); (refine nmKd ?_; clear M; (try clear F); intro w1 M F); refine (H3.out _ M.toBelow).mono ?_; rintro e w2 ⟨rfl, hb⟩; replace M := M.below hb; clear hb; (try clear F); have F := fxd M)
    | (go_at_call_of 88 (Value.slice wA watched.length wC); (refine nmKd ?_; clear M; (try clear F); intro w1 M F); refine (H4.out _ M.toBelow).mono ?_; rintro e w2 ⟨rfl, hb⟩; replace M := M.below hb; clear hb; (try clear F); have F := fxd M))
  go_ret
  exact ⟨rfl, M.toBelow⟩
end Go.Proofs.Ytmidnaafljgbiaa
/- Where a run's mail lies, and its cells. -/
namespace Go.Proofs.Ytmidnaafljgbiaa
open Go.RowKit
/-- A block gets a name. -/
theorem blkName {w0 w : World} {f : List Nat} {L L' : List Asn} {g : Nat} {t : TypeId} {cs : List Value} (_M : Mem w0 f w L) (_hd : Del (blk g t cs) L L') : ∃ g', g = g' := ⟨g, rfl⟩
theorem mailForm {r : Rn} {a : RA} {W : World} (h : (runA r a).P W) (hl : 0 < r.mail.length) : ∃ g, a.mA = some ⟨g, 0, none⟩ := by
  have h1 : OwnL encV 2 tV W 0 (.slice a.mA r.mail.length a.mC) r.mail := h (rowV a.mA a.mC r.mail) (by simp [runL])
  obtain ⟨g, c', e1, _⟩ := OwnL.form h1 hl
  injection e1 with e1
  exact ⟨g, e1⟩
theorem mailCells {r : Rn} {g c : Nat} {sA lA wA : Option Addr} {sC lC wC : Nat} {W : World} {k : Nat} {v : Vl} (h : (runA r ⟨sA, sC, some ⟨g, 0, none⟩, c, lA, lC, wA, wC⟩).P W) (e : r.mail[k]? = some v) : W.cell? ⟨g, k * 2, none⟩ = some (.int .i64 v.k) ∧ W.cell? ⟨g, k * 2 + 1, none⟩ = some (.int .i64 v.n) := by
  have h1 : OwnL encV 2 tV W 0 (.slice (some ⟨g, 0, none⟩) r.mail.length c) r.mail := h (rowV (some ⟨g, 0, none⟩) c r.mail) (by simp [runL])
  obtain ⟨hl, rfl⟩ := List.getElem?_eq_some_iff.1 e
  exact ⟨(h1.cell encV_length (j := k) (i := 0) hl (by decide)).1, (h1.cell encV_length (j := k) (i := 1) hl (by decide)).1⟩
end Go.Proofs.Ytmidnaafljgbiaa
/- Bytes that came in are held. -/
namespace Go.Proofs.Ytmidnaafljgbiaa
open Go.RowKit
theorem Mem.ofBytesB {W : World} {A : Option Addr} {n : Nat} {bs : Nat → Int} (h : BytesOk W A n bs) : Mem W (roB A n) W [ro W A n bs] := by
  refine ⟨⟨rfl, rfl, rfl, Nat.le_refl _, fun _ _ _ => rfl, fun k hk => .inl (by simpa [fps, ro] using hk), ?_⟩, fun X hX => ?_⟩
  · show (roB A n ++ []).Nodup
    unfold roB
    split
    · cases A <;> simp [ob]
    · simp
  · obtain rfl : X = ro W A n bs := by simpa using hX
    exact ⟨h, Nat.le_refl _, fun _ _ => rfl⟩
end Go.Proofs.Ytmidnaafljgbiaa
