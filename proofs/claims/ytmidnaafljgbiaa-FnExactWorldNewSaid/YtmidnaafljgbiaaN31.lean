/- Parts of the proof, in one text. -/
import Derived.Lib.BufferMore
import Derived.Test.YtmidnaafljgbiaaN30
import Derived.Test.YtmidnaafljgbiaaN28
/- The laws' own comparison of worlds. -/
namespace Go.Proofs.Ytmidnaafljgbiaa
open Go.RowKit
set_option maxRecDepth 100000

theorem lEqOp (o : Opx) (w : World) : Calls Try.prog 68 #[.agg (encO o).toArray, .agg (encO o).toArray] w fun e w' => e = .returned (.bool true) ∧ Below w.heap.size w w' := by
  obtain ⟨k, r, s, to, ⟨vk, vn⟩⟩ := o
  have M := Mem.nil w
  have HV := Lib.hid (fun W => lEqVal ⟨vk, vn⟩ W)
  simp only [encO]
  go_enter Try.func68, Try.ntmps68
  go_wp2_with (first
    | (with_reducible refine alAw M ?_; clear M; (try clear F); intro w1 M F) | ((with_reducible apply ev_store (M := M)); rfl; rfl; ((conv => lhs; whnf) <;> rfl); rfl; (first | exact siI | exact siR | exact siV | exact siB | exact siSI | exact siSV | exact siW | exact siSR | exact siSO | exact siO); (exact one_all rfl); (exact dl); (exact Nat.le_of_ble_eq_true rfl); clear M; intro w1 M; simp only [SX] at M; (try clear F); have F := fxw M) | ((with_reducible refine goal_drewN (G := fun W => wpList _ _ _ _ _ W) M ?_); clear M; intro w1 M; (try clear F); have F := fxw M) | ((with_reducible refine goal_drew (G := fun W => wpList _ _ _ _ _ W) M ?_); clear M; intro w1 M; (try clear F); have F := fxw M) | ((with_reducible refine isSet (G := fun W => wpList _ _ _ _ _ W) ?_); (with_reducible refine nmw (G := fun W => wpList _ _ _ _ _ W) ?_; clear M; (try clear F); intro w1 M F))
    | (go_at_call 19; (refine nmKw ?_; clear M; (try clear F); intro w1 M F); refine (HV.out _).mono ?_; rintro e w2 ⟨rfl, hb⟩; replace M := M.below hb; clear hb; (try clear F); have F := fxw M))
  go_ret
  exact ⟨rfl, M.toBelow⟩
set_option maxHeartbeats 1000000 in
theorem lEqOpS (l : List Opx) (A A' : Option Addr) (c c' B : Nat) (w : World) (h : ReadsL encO 6 w B A l.length l) (h' : ReadsL encO 6 w B A' l.length l) (hB : B ≤ w.heap.size) :
    Calls Try.prog 27 #[.slice A l.length c, .slice A' l.length c'] w fun e w' => e = .returned (.bool true) ∧ Below w.heap.size w w' := by
  have hm := h.2.1
  go_enter Try.func27, Try.ntmps27
  go_wp2
  go_loopg [5] l.length (fun gg i wr => ∃ k : Nat, k ≤ l.length ∧ l.length - k ≤ gg ∧ i = .int .i64 k ∧ Hid (Below w.heap.size w wr))
  case atStart => exact ⟨0, Nat.zero_le _, by omega, rfl, Below.refl _ _⟩
  case round =>
    obtain ⟨k, hk, hg, rfl, BW⟩ := hrel
    by_cases hlt : k < l.length
    · obtain ⟨ad, rfl, _, hc0, hc1, hc2, hc3, hc4, hc5⟩ := (h.below' BW.out hB).op hlt
      obtain ⟨ad', rfl, _, hd0, hd1, hd2, hd3, hd4, hd5⟩ := (h'.below' BW.out hB).op hlt
      have HO := Lib.hid (fun W => lEqOp l[k] W)
      generalize l[k] = x at hc0 hc1 hc2 hc3 hc4 hc5 hd0 hd1 hd2 hd3 hd4 hd5 HO
      obtain ⟨xk, xr, xs, xt, ⟨xvk, xvn⟩⟩ := x
      simp only [encO] at HO
      simp only at hc0 hc1 hc2 hc3 hc4 hc5 hd0 hd1 hd2 hd3 hd4 hd5
      have i1 : (0 : Int) ≤ k := by omega
      have i2 : (k : Int) < l.length := by omega
      go_wp2
      go_still_tail 8, (by kernel_rfl)
      go_wp2_with (go_at_call 68; refine (HO.out _).mono ?_; rintro e w' ⟨rfl, hb⟩)
      go_roundg (l.length - (k + 1))
      case measure => omega
      case rel => exact ⟨k + 1, by omega, by omega, by go_num, below_step (BW.out.drew) hb⟩
    · have : k = l.length := by omega
      subst this
      go_wp2
      go_ret
      exact ⟨rfl, BW.out⟩
theorem getElem_ps {ps qs : List (Rn × RA)} (h : qs.map (·.1) = ps.map (·.1)) {k : Nat} (hk : k < ps.length) (hq : k < qs.length) : qs[k].1 = ps[k].1 := by
  have := congrArg (fun l : List Rn => l[k]?) h
  simpa [hk, hq] using this
theorem length_ps {ps qs : List (Rn × RA)} (h : qs.map (·.1) = ps.map (·.1)) : qs.length = ps.length := by
  have := congrArg List.length h
  simpa using this
set_option maxHeartbeats 2000000 in
theorem lEqRunS (ps qs : List (Rn × RA)) (hpq : qs.map (·.1) = ps.map (·.1)) (A A' : Option Addr) (c c' B : Nat) (w : World) (h : ReadsL encR 13 w B A ps.length ps) (h' : ReadsL encR 13 w B A' qs.length qs) (he : ∀ k (hk : k < ps.length), ReadsRun w B ps[k].1 ps[k].2) (he' : ∀ k (hk : k < qs.length), ReadsRun w B qs[k].1 qs[k].2) (hB : B ≤ w.heap.size) :
    Calls Try.prog 67 #[.slice A ps.length c, .slice A' qs.length c'] w fun e w' => e = .returned (.bool true) ∧ Below w.heap.size w w' := by
  have hm := h.2.1
  have hl := length_ps hpq
  have HE := Lib.hid (fun k (hk : k < ps.length) (hq : k < qs.length) W (hb : Below w.heap.size w W) => lEqRun ps[k].1 ps[k].2 qs[k].2 B W ((he k hk).below hb hB) (by have := (he' k hq).below hb hB; rw [getElem_ps hpq hk hq] at this; exact this) (Nat.le_trans hB hb.size))
  have EQ := Lib.hid (fun k (hk : k < ps.length) (hq : k < qs.length) => getElem_ps hpq hk hq)
  have hl2 : ((ps.length : Int) == (qs.length : Int)) = true := by rw [hl]; simp
  clear he he'
  go_enter Try.func67, Try.ntmps67
  go_wp2
  go_loopg [5] ps.length (fun gg i wr => ∃ k : Nat, k ≤ ps.length ∧ ps.length - k ≤ gg ∧ i = .int .i64 k ∧ Hid (Below w.heap.size w wr))
  case atStart => exact ⟨0, Nat.zero_le _, by omega, rfl, Below.refl _ _⟩
  case round =>
    obtain ⟨k, hk, hg, rfl, BW⟩ := hrel
    by_cases hlt : k < ps.length
    · have hlq : k < qs.length := by omega
      obtain ⟨ad, rfl, _, hc⟩ := (h.below' BW.out hB).run hlt
      obtain ⟨ad', rfl, _, hd⟩ := (h'.below' BW.out hB).run hlq
      have HO := Lib.hid (fun W hb => HE.out k hlt hlq W hb)
      have EK := EQ.out k hlt hlq
      rw [EK] at hd
      clear EK
      generalize ps[k] = p at hc hd HO
      generalize qs[k] = q at hd HO
      obtain ⟨r, a⟩ := p
      obtain ⟨_, b⟩ := q
      obtain ⟨id, at_, slots, full, mail, state, due, links, watched, trap, ⟨wk, wn⟩, turns⟩ := r
      obtain ⟨sA, sC, mA, mC, lA, lC, wA, wC⟩ := a
      obtain ⟨sA', sC', mA', mC', lA', lC', wA', wC'⟩ := b
      simp only [RunCells] at hc hd
      simp only [runArr] at HO
      obtain ⟨hc0, hc1, hc2, hc3, hc4, hc5, hc6, hc7, hc8, hc9, hc10, hc11, hc12⟩ := hc
      obtain ⟨hd0, hd1, hd2, hd3, hd4, hd5, hd6, hd7, hd8, hd9, hd10, hd11, hd12⟩ := hd
      have i1 : (0 : Int) ≤ k := by omega
      have i2 : (k : Int) < ps.length := by omega
      have i3 : (k : Int) < qs.length := by omega
      go_wp2
      go_still_tail 8, (by kernel_rfl)
      go_wp2_with (go_at_call 18; refine (HO.out _ BW.out.drew).mono ?_; rintro e w' ⟨rfl, hb⟩)
      go_roundg (ps.length - (k + 1))
      case measure => omega
      case rel => exact ⟨k + 1, by omega, by omega, by go_num, below_step (BW.out.drew) hb⟩
    · have : k = ps.length := by omega
      subst this
      go_wp2
      go_ret
      exact ⟨rfl, BW.out⟩
theorem Mem.readsW {w0 w : World} {f : List Nat} {L L' : List Asn} {W : Wm} (M : Mem w0 f w L) (hd : Del (wld W) L L') : ReadsW w w.heap.size W := by
  have M1 : Mem w0 f w (rowO W.cA W.cC W.code :: rowR W.rA W.rC W.ps :: rowI W.qA W.qC W.queue :: rws W.ps :: L') := Mem.unpack (L' := wldL W) (M.pull hd)
  refine ⟨(row_reads M1 .here).1, (row_reads M1 (.there .here)).1, (row_reads M1 (.there (.there .here))).1, fun k hk => ?_⟩
  have h := M1.is (.there (.there (.there .here)))
  exact (runA_reads (h (runA W.ps[k].1 W.ps[k].2) (List.mem_map.2 ⟨W.ps[k], List.getElem_mem hk, rfl⟩))).1
set_option maxHeartbeats 2000000 in
theorem lEqWorld (W V : Wm) (hwv : V.wd = W.wd) (B : Nat) (w : World) (h : ReadsW w B W) (h' : ReadsW w B V) (hB : B ≤ w.heap.size) :
    Calls Try.prog 26 #[.agg (wArr W), .agg (wArr V)] w fun e w' => e = .returned (.bool true) ∧ Below w.heap.size w w' := by
  obtain ⟨code, cA, cC, ps, rA, rC, queue, qA, qC, now, sent, taken, lost⟩ := W
  obtain ⟨code', cA', cC', qs, rA', rC', queue', qA', qC', now', sent', taken', lost'⟩ := V
  simp only [Wm.wd, Wd.mk.injEq] at hwv
  obtain ⟨rfl, hpq, rfl, rfl, rfl, rfl, rfl⟩ := hwv
  have HC := Lib.hid (fun V (hb : Below w.heap.size w V) => lEqOpS code' cA cA' cC cC' B V (h.code.below' hb hB) (h'.code.below' hb hB) (Nat.le_trans hB hb.size))
  have HR := Lib.hid (fun V (hb : Below w.heap.size w V) => lEqRunS ps qs hpq rA rA' rC rC' B V (h.runs.below' hb hB) (h'.runs.below' hb hB) (fun k hk => (h.each k hk).below hb hB) (fun k hk => (h'.each k hk).below hb hB) (Nat.le_trans hB hb.size))
  have HQ := Lib.hid (fun V (hb : Below w.heap.size w V) => lEqIntS queue' qA qA' qC qC' B V (h.queue.below' hb hB) (h'.queue.below' hb hB) (Nat.le_trans hB hb.size))
  clear h h' hB hpq
  have M := Mem.nil w
  simp only [wArr]
  go_enter Try.func26, Try.ntmps26
  go_wp2_with (first
    | (with_reducible refine alAw M ?_; clear M; (try clear F); intro w1 M F) | ((with_reducible apply ev_store (M := M)); rfl; rfl; ((conv => lhs; whnf) <;> rfl); rfl; (first | exact siI | exact siR | exact siV | exact siB | exact siSI | exact siSV | exact siW | exact siSR | exact siSO | exact siO); (exact one_all rfl); (exact dl); (exact Nat.le_of_ble_eq_true rfl); clear M; intro w1 M; simp only [SX] at M; (try clear F); have F := fxw M) | ((with_reducible refine goal_drewN (G := fun W => wpList _ _ _ _ _ W) M ?_); clear M; intro w1 M; (try clear F); have F := fxw M) | ((with_reducible refine goal_drew (G := fun W => wpList _ _ _ _ _ W) M ?_); clear M; intro w1 M; (try clear F); have F := fxw M) | ((with_reducible refine isSet (G := fun W => wpList _ _ _ _ _ W) ?_); (with_reducible refine nmw (G := fun W => wpList _ _ _ _ _ W) ?_; clear M; (try clear F); intro w1 M F))
    | (go_at_call 27; (refine nmKw ?_; clear M; (try clear F); intro w1 M F); refine (HC.out _ M.toBelow).mono ?_; rintro e w2 ⟨rfl, hb⟩; replace M := M.below hb; clear hb; (try clear F); have F := fxw M)
    | (go_at_call 67; (refine nmKw ?_; clear M; (try clear F); intro w1 M F); refine (HR.out _ M.toBelow).mono ?_; rintro e w2 ⟨rfl, hb⟩; replace M := M.below hb; clear hb; (try clear F); have F := fxw M)
    | (go_at_call 56; (refine nmKw ?_; clear M; (try clear F); intro w1 M F); refine (HQ.out _ M.toBelow).mono ?_; rintro e w2 ⟨rfl, hb⟩; replace M := M.below hb; clear hb; (try clear F); have F := fxw M))
  go_ret
  exact ⟨rfl, M.toBelow⟩
end Go.Proofs.Ytmidnaafljgbiaa
/- The reference's copy of a run. -/
namespace Go.Proofs.Ytmidnaafljgbiaa
open Go.RowKit
set_option maxRecDepth 100000

section
variable {α : Type} {enc : α → List Value} {m : Nat} {t : TypeId} {w0 w : World} {f : List Nat} {L L' : List Asn}
variable {P : Program} {ops : Array Oper} {rest : List Oper} {Q : Exit → Act → World → Prop} {a : Act} {x y : Operand} {ty tt : TypeId} {pos : String} {after : Array Edge}
/-- A list is appended to an empty one. -/
theorem ev_copy0 (ys : List α) (hk : ∀ x, (enc x).length = m) (hone : ∀ x, ∀ u ∈ enc x, u.oneCell' = true) (h0 : 0 < m) {bytes : Nat} (hinfo : (P.info? t).map (fun i => (i.zero.map (·.cells.size), i.size, i.bytes)) = some (some m, m, bytes)) (ht : P.underlying tt = some (.slice t))
    {dst : Option Tmp} {g n2 c2 B : Nat} {A2 : Option Addr} (hs : a.eval x = .slice (some ⟨g, 0, none⟩) 0 0) (hx : a.eval y = .slice A2 n2 c2) (M : Mem w0 f w L) (hd : Del (blk g t []) L L') (hr : ReadsL enc m w B A2 n2 ys) (hz : A2 = none → c2 = 0) (hlen : ys.length * bytes ≤ 1000000000) (hb : 1 ≤ bytes)
    (h : ∀ A' c' w1, Mem w0 f w1 (row enc m t A' c' ys :: L') → wpList P ops Q rest (a.put dst (.slice A' n2 c')) w1) :
    wpList P ops Q (⟨dst, .call { callee := .builtin .append, args := #[x, y], argTypes := #[tt, tt] }, ty, pos, after, none⟩ :: rest) a w := by
  obtain ⟨z, hz2, hzs⟩ := info_zero hinfo
  have hle : ys.length ≤ ys.length * bytes := Nat.le_mul_of_pos_right _ hb
  have M1 : Mem w0 f w (row enc m t (some ⟨g, 0, none⟩) 0 ([] : List α) :: L') := Mem.row_of hk (xs := []) (M.pull hd) rfl (by simp)
  refine ev_append (xs := []) (ys := ys) hk hone ht hz2 hzs h0 hs M1 .here rfl hx hr hz (by simp; omega) (by simp; omega) ?_
  intro A' c' w1 M2
  have := h A' c' w1 (by simpa using M2)
  rw [Nat.zero_add]
  exact this
end
theorem infOx : (Try.prog.info? 85).map (fun i => (i.zero.map (·.cells.size), i.size, i.bytes)) = some (some 6, 6, 48) := by kernel_rfl
end Go.Proofs.Ytmidnaafljgbiaa
/- The program's copies of lists. -/
namespace Go.Proofs.Ytmidnaafljgbiaa
open Go.RowKit
set_option maxRecDepth 100000

theorem reads_nil {α : Type} {enc : α → List Value} {m : Nat} {w : World} {B n : Nat} {l : List α} (h : ReadsL enc m w B none n l) : l = [] := by
  have hn := h.1
  by_cases hp : 0 < n
  · obtain ⟨_, e, _⟩ := h.2.2.2 hp
    cases e
  · exact List.length_eq_zero_iff.1 (by omega)
set_option maxHeartbeats 1000000 in
theorem mCloneO (l : List Opx) (A : Option Addr) (c B : Nat) (w : World) (h : ReadsL encO 6 w B A l.length l) (hB : B ≤ w.heap.size) (hz : A = none → c = 0) (hs : l.length ≤ 1048576) :
    Calls Try.prog 66 #[.slice A l.length c] w fun e w' => ∃ (A' : Option Addr) (c' : Nat), e = .returned (.slice A' l.length c') ∧ Mem w [] w' [row encO 6 tO A' c' l] := by
  have H := Lib.hid (fun V (hb : Below w.heap.size w V) => h.below' hb hB)
  have M := Mem.nil w
  cases A with
  | none =>
    obtain rfl := reads_nil h
    obtain rfl := hz rfl
    have N : Mem w [] w [row encO 6 tO none 0 ([] : List Opx)] := M.nilRow
    clear h H M hz
    simp only [List.length_nil]
    have hq : ∀ W, (binOp .eql 42 (.slice none 0 0) (.slice none 0 0)).run Try.prog W = .ok (.bool true) W := fun W => Lib.run_eql_slice_nil_nil W _ _ Try.underlying42
    go_enter Try.func66, Try.ntmps66
    go_wp2
    go_ret
    exact ⟨_, _, rfl, N⟩
  | some ad =>
    clear h hz
    have hq : ∀ W, (binOp .eql 42 (.slice (some ad) l.length c) (.slice none 0 0)).run Try.prog W = .ok (.bool false) W := fun W => Lib.run_eql_slice_some_nil W _ _ _ Try.underlying42
    have Z : Hid ((some ad : Option Addr) = none → c = 0) := fun e => by cases e
    go_enter Try.func66, Try.ntmps66
    go_wp2_with (first
      | (with_reducible refine alA M ?_; clear M; (try clear F); intro w1 M F)
      | ((with_reducible apply ev_copy0 (enc := encO) (ys := l) (hk := encO_length) (hone := oneO) (h0 := by decide) (hinfo := infOx) (ht := Try.underlying42) (M := M)); rfl; rfl; (exact dl); exact (H.out _ M.toBelow); exact Z.out; omega; (exact Nat.le_of_ble_eq_true rfl); clear M; intro A1 c1 w1 M; (try clear F); have F := fx M))
    go_ret
    exact ⟨_, _, rfl, M.sel sl⟩
end Go.Proofs.Ytmidnaafljgbiaa
