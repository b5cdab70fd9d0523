/- Parts of the proof, in one text. -/
import Derived.StillTailTactics
import Derived.Test.YtomolbhcggaakaaGreatH21
import Derived.Test.YtomolbhcggaakaaGreatH08
import Derived.Test.YtomolbhcggaakaaGreatH02
/- Who is alive in a world, by the reference. -/
namespace Go.Proofs.YtomolbhcggaakaaGreat
open Go.RowKit
set_option maxRecDepth 100000

theorem oneIx (x : Int) : ∀ u ∈ encI x, u.oneCell' = true := by
  intro u hu
  obtain rfl : u = .int .i64 x := by simpa [encI] using hu
  rfl
theorem infIx : (Tryz.prog.info? 3).map (fun i => (i.zero.map (·.cells.size), i.size, i.bytes)) = some (some 1, 1, 8) := by kernel_rfl
def AlivePost (W : Wm) (w0 : World) (f : List Nat) (L : List Asn) (e : Ending) (w' : World) : Prop := ∃ (A : Option Addr) (c : Nat), e = .returned (.slice A (worldAlive W.wd).length c) ∧ Mem w0 f w' (rowI A c (worldAlive W.wd) :: wld W :: L)
set_option maxHeartbeats 2000000 in
theorem sWorldAlive (W : Wm) {w0 w : World} {f : List Nat} {L L' : List Asn} (M : Mem w0 f w L) (hd : Del (wld W) L L') :
    Calls Tryz.prog 21 #[.agg (wArr W)] w (AlivePost W w0 f L') := by
  have HO := Lib.hid (fun V (L L' : List Asn) (M : Mem w0 f V L) (hd : Del (wld W) L L') => sWorldOk W M hd)
  replace M := M.pull hd
  have HF : Hid (∀ V A n c, n = (worldAlive W.wd).length → Mem w0 f V (rowI A c (worldAlive W.wd) :: wld W :: L') → AlivePost W w0 f L' (.returned (.slice A n c)) V) := fun V A n c hn M => ⟨A, c, by rw [hn], M⟩
  unfold worldAlive at HF
  clear hd
  cases h : worldOk W.wd with
  | false =>
    rw [h] at HO HF
    simp only [Bool.false_eq_true, if_false] at HF
    clear h
    go_enter Tryz.func21, Tryz.ntmps21
    go_wp2_with (first | (with_reducible refine alAw M ?_; clear M; (try clear F); intro w1 M F) | (go_at_call 13; (refine nmKw ?_; clear M; (try clear F); intro w1 M F); refine (HO.out _ _ _ M dl).mono ?_; clear M; rintro e w2 ⟨rfl, M⟩; (try clear F); have F := fxw M))
    go_ret
    have M2 : Mem w0 f w2 (rowI _ 0 [] :: wld W :: L') := Mem.row_of encI_length (xs := []) (M.sel (T := blk _ tI [] :: wld W :: L') sl) rfl (by simp)
    exact HF.out _ _ _ _ rfl M2
  | true =>
    rw [h] at HO HF
    simp only [if_true] at HF
    obtain ⟨hl, hfit⟩ := wok_ps h
    have HP := Lib.hid (fun V A c xs (M : Mem w0 f V (rowI A c xs :: rowO W.cA W.cC W.code :: rowR W.rA W.rC W.ps :: rowI W.qA W.qC W.queue :: rws W.ps :: L')) => (M.perm ((List.Perm.swap _ _ _).trans (.cons _ ((List.Perm.swap _ _ _).trans (.cons _ ((List.Perm.swap _ _ _).trans (.cons _ (List.Perm.swap _ _ _)))))))).packW.perm (.swap _ _ _))
    have UP := Lib.hid (fun V (L : List Asn) (M : Mem w0 f V (wld W :: L)) => M.unpackW)
    have e0 : W.wd.runs = W.ps.map (·.1) := rfl
    rw [e0] at HF
    clear h hfit e0
    obtain ⟨code, cA, cC, ps, rA, rC, queue, qA, qC, now, sent, taken, lost⟩ := W
    simp only at *
    go_enter Tryz.func21, Tryz.ntmps21
    go_wp2_with (first | (with_reducible refine alAw M ?_; clear M; (try clear F); intro w1 M F) | (go_at_call 13; (refine nmKw ?_; clear M; (try clear F); intro w1 M F); refine (HO.out _ _ _ M dl).mono ?_; clear M; rintro e w2 ⟨rfl, M⟩; (try clear F); have F := fxw M))
    replace M := UP.out _ _ M
    obtain ⟨gr, rfl⟩ := row_form M (.there .here) (by omega)
    have M2 : Mem w0 f w2 (rowI _ 0 [] :: rowO cA cC code :: rowR (some ⟨gr, 0, none⟩) rC ps :: rowI qA qC queue :: rws ps :: blk w.heap.size tW [.slice cA code.length cC, .slice (some ⟨gr, 0, none⟩) ps.length rC, .slice qA queue.length qC, .int .i64 now, .int .i64 sent, .int .i64 taken, .int .i64 lost] :: L') := Mem.row_of encI_length (xs := []) (M.sel (T := blk _ tI [] :: rowO cA cC code :: rowR (some ⟨gr, 0, none⟩) rC ps :: rowI qA qC queue :: rws ps :: blk w.heap.size tW [.slice cA code.length cC, .slice (some ⟨gr, 0, none⟩) ps.length rC, .slice qA queue.length qC, .int .i64 now, .int .i64 sent, .int .i64 taken, .int .i64 lost] :: L') sl) rfl (by simp)
    clear M F
    go_loopg [3, 4] ps.length (fun gg v i wr => ∃ (k : Nat) (A : Option Addr) (c : Nat), k ≤ ps.length ∧ ps.length - k ≤ gg ∧ v = .slice A (aliveFrom 1 ((ps.take k).map (·.1))).length c ∧ i = .int .i64 k ∧ Hid (Mem w0 f wr (row encI 1 tI A c (aliveFrom 1 ((ps.take k).map (·.1))) :: rowO cA cC code :: rowR (some ⟨gr, 0, none⟩) rC ps :: rowI qA qC queue :: rws ps :: blk w.heap.size tW [.slice cA code.length cC, .slice (some ⟨gr, 0, none⟩) ps.length rC, .slice qA queue.length qC, .int .i64 now, .int .i64 sent, .int .i64 taken, .int .i64 lost] :: L')))
    case atStart => exact ⟨0, _, _, by omega, by omega, rfl, rfl, M2⟩
    case round =>
      clear M2
      obtain ⟨k, A, c, hk, hg, rfl, rfl, M⟩ := hrel
      replace M := M.out
      (try clear F); have F := fxw M
      by_cases hlt : k < ps.length
      · have E := (elemR M (.there (.there .here)) hlt).2.2.2.2.2.1
        have e1 := alive_ps ps hlt
        have al : (aliveFrom 1 ((ps.take k).map (·.1))).length ≤ k := by
          have h5 := alive_le ((ps.take k).map (·.1)) 1
          rw [List.length_map, List.length_take] at h5
          omega
        generalize ps[k] = p at E e1
        obtain ⟨⟨_, _, _, _, _, state, _, _, _, _, _, _⟩, _⟩ := p
        simp only at E e1
        generalize aliveFrom 1 ((ps.take k).map (·.1)) = l at M e1 al
        have i1 : (0 : Int) ≤ k := by omega
        have i2 : (k : Int) < ps.length := by omega
        have wi : IntKind.i64.wrap ((k : Int) + 1) = (k : Int) + 1 := by rw [IntKind.wrap_i64]; omega
        by_cases hs : state = 3
        · subst hs
          have e2 : aliveFrom 1 ((ps.take (k + 1)).map (·.1)) = l := by rw [e1]; simp
          have e2 := Lib.hid e2
          clear e1
          go_wp2
          go_roundg (ps.length - (k + 1))
          case measure => omega
          case rel => exact ⟨k + 1, A, c, by omega, by omega, by rw [e2.out], by go_num, by rw [e2.out]; exact M⟩
        · have hs2 : (state != 3) = true := by simp [bne, hs]
          have e2 : aliveFrom 1 ((ps.take (k + 1)).map (·.1)) = l ++ [(k : Int) + 1] := by
            rw [e1, if_neg (by simpa using hs), show (1 : Int) + k = k + 1 by omega]
          have e2 := Lib.hid e2
          clear e1 hs
          go_wp2_with (first | ((with_reducible refine alAw M ?_; clear M; (try clear F); intro w1 M F); ((with_reducible apply ev_app1 (enc := encI) (v := (k : Int) + 1) (hk := encI_length) (hone := oneIx) (h0 := by decide) (hinfo := infIx) (ht := Tryz.underlying24) (M := M)); rfl; rfl; (exact dl); (exact dl); rfl; rfl; (first | exact Nat.le_of_ble_eq_true rfl | omega); (exact Nat.le_of_ble_eq_true rfl); clear M; intro A1 c1 w1 M; replace M := Mem.perm M (.swap _ _ _) |> Mem.drop; (try clear F); have F := fxw M)))
          go_roundg (ps.length - (k + 1))
          case measure => omega
          case rel => exact ⟨k + 1, A1, c1, by omega, by omega, by rw [e2.out, List.length_append]; rfl, by go_num, by rw [e2.out]; exact M⟩
      · have : k = ps.length := by omega
        subst this
        rw [List.take_length] at M ⊢
        have M := Lib.hid M
        go_wp2
        go_ret
        have M3 : Mem w0 f wr (rowI A c (aliveFrom 1 (ps.map (·.1))) :: rowO cA cC code :: rowR (some ⟨gr, 0, none⟩) rC ps :: rowI qA qC queue :: rws ps :: blk w.heap.size tW _ :: L') := M.out
        have M4 : Mem w0 f wr (rowI A c (aliveFrom 1 (ps.map (·.1))) :: rowO cA cC code :: rowR (some ⟨gr, 0, none⟩) rC ps :: rowI qA qC queue :: rws ps :: L') := M3.sel sl
        exact HF.out _ _ _ _ rfl (HP.out _ _ _ _ M4)
end Go.Proofs.YtomolbhcggaakaaGreat
/- The laws' own helpers on values and numbers: copies, sizes, comparisons. -/
namespace Go.Proofs.YtomolbhcggaakaaGreat
open Go.RowKit
set_option maxRecDepth 100000

set_option maxHeartbeats 1000000 in
theorem lToVal (v : Vl) (w : World) : Calls Tryz.prog 28 #[.agg #[.int .i64 v.k, .int .i64 v.n]] w fun e w' => e = .returned (.agg #[.int .i64 v.k, .int .i64 v.n]) ∧ Below w.heap.size w w' := by
  obtain ⟨k, n⟩ := v
  go_enter Tryz.func28, Tryz.ntmps28
  go_wp2
  exact bodyPost_ret (v := .agg #[.int .i64 k, .int .i64 n]) (by simp [results, Tryz.results28, go_sem]) rfl ⟨rfl, by repeat (first | exact Below.refl _ _ | apply below_new | (refine below_set ?_ (by simp; try omega)))⟩

set_option maxHeartbeats 1000000 in
theorem lEqVal (v : Vl) (w : World) : Calls Tryz.prog 143 #[.agg #[.int .i64 v.k, .int .i64 v.n], .agg #[.int .i64 v.k, .int .i64 v.n]] w fun e w' => e = .returned (.bool true) ∧ Below w.heap.size w w' := by
  obtain ⟨k, n⟩ := v
  go_enter Tryz.func143, Tryz.ntmps143
  go_wp2
  go_ret
  exact ⟨rfl, by repeat (first | exact Below.refl _ _ | apply below_new)⟩

/-- What is left of a size. -/
theorem lSzValS (l : List Vl) (left : Int) (A : Option Addr) (c : Nat) (w : World) (hl : l.length ≤ 140737488355328) (h0 : 0 ≤ left) (h1 : left ≤ 1048576) :
    Calls Tryz.prog 120 #[.slice A l.length c, .int .i64 left] w fun e w' => e = .returned (.int .i64 (if left - l.length < 0 then -1 else left - l.length)) ∧ w = w' := by
  by_cases h : left - l.length < 0
  · rw [if_pos h]
    go_enter Tryz.func120, Tryz.ntmps120
    go_wp2
    go_ret
    exact ⟨rfl, rfl⟩
  · rw [if_neg h]
    go_enter Tryz.func120, Tryz.ntmps120
    go_wp2
    go_ret
    exact ⟨rfl, rfl⟩
theorem lSzIntS (l : List Int) (left : Int) (A : Option Addr) (c : Nat) (w : World) (hl : l.length ≤ 140737488355328) (h0 : 0 ≤ left) (h1 : left ≤ 1048576) :
    Calls Tryz.prog 43 #[.slice A l.length c, .int .i64 left] w fun e w' => e = .returned (.int .i64 (if left - l.length < 0 then -1 else left - l.length)) ∧ w = w' := by
  by_cases h : left - l.length < 0
  · rw [if_pos h]
    go_enter Tryz.func43, Tryz.ntmps43
    go_wp2
    go_ret
    exact ⟨rfl, rfl⟩
  · rw [if_neg h]
    go_enter Tryz.func43, Tryz.ntmps43
    go_wp2
    go_ret
    exact ⟨rfl, rfl⟩

set_option maxHeartbeats 1000000 in
theorem lEqIntS (l : List Int) (A A' : Option Addr) (c c' B : Nat) (w : World) (h : ReadsI w B A l.length l) (h' : ReadsI w B A' l.length l) (hB : B ≤ w.heap.size) :
    Calls Tryz.prog 23 #[.slice A l.length c, .slice A' l.length c'] w fun e w' => e = .returned (.bool true) ∧ Below w.heap.size w w' := by
  have hm := h.2.1
  go_enter Tryz.func23, Tryz.ntmps23
  go_wp2
  go_loopg [5] l.length (fun gg i wr => ∃ k : Nat, k ≤ l.length ∧ l.length - k ≤ gg ∧ i = .int .i64 k ∧ Hid (Below w.heap.size w wr))
  case atStart => exact ⟨0, Nat.zero_le _, by omega, rfl, Below.refl _ _⟩
  case round =>
    obtain ⟨k, hk, hg, rfl, BW⟩ := hrel
    by_cases hlt : k < l.length
    · obtain ⟨ad, rfl, _, hc⟩ := (h.below' BW.out hB).int hlt
      obtain ⟨ad', rfl, _, hc'⟩ := (h'.below' BW.out hB).int hlt
      generalize l[k] = x at hc hc'
      have i1 : (0 : Int) ≤ k := by omega
      have i2 : (k : Int) < l.length := by omega
      go_wp2
      go_quiet (fail)
      go_wp2
      go_roundg (l.length - (k + 1))
      case measure => omega
      case rel => exact ⟨k + 1, by omega, by omega, by go_num, below_drewN BW.out _⟩
    · have : k = l.length := by omega
      subst this
      go_wp2
      go_ret
      exact ⟨rfl, BW.out⟩
end Go.Proofs.YtomolbhcggaakaaGreat
/- The laws' own comparison of lists of values. -/
namespace Go.Proofs.YtomolbhcggaakaaGreat
open Go.RowKit
set_option maxRecDepth 100000

set_option maxHeartbeats 1000000 in
theorem lEqValS (l : List Vl) (A A' : Option Addr) (c c' B : Nat) (w : World) (h : ReadsV w B A l.length l) (h' : ReadsV w B A' l.length l) (hB : B ≤ w.heap.size) :
    Calls Tryz.prog 144 #[.slice A l.length c, .slice A' l.length c'] w fun e w' => e = .returned (.bool true) ∧ Below w.heap.size w w' := by
  have hm := h.2.1
  go_enter Tryz.func144, Tryz.ntmps144
  go_wp2
  go_loopg [5] l.length (fun gg i wr => ∃ k : Nat, k ≤ l.length ∧ l.length - k ≤ gg ∧ i = .int .i64 k ∧ Hid (Below w.heap.size w wr))
  case atStart => exact ⟨0, Nat.zero_le _, by omega, rfl, Below.refl _ _⟩
  case round =>
    obtain ⟨k, hk, hg, rfl, BW⟩ := hrel
    by_cases hlt : k < l.length
    · obtain ⟨ad, rfl, _, hc1, hc2⟩ := (h.below' BW.out hB).val hlt
      obtain ⟨ad', rfl, _, hd1, hd2⟩ := (h'.below' BW.out hB).val hlt
      generalize l[k] = x at hc1 hc2 hd1 hd2
      obtain ⟨xk, xn⟩ := x
      have i1 : (0 : Int) ≤ k := by omega
      have i2 : (k : Int) < l.length := by omega
      go_wp2
      go_still_tail 8, (by kernel_rfl)
      go_wp2_with (go_at_call 143; refine (lEqVal ⟨xk, xn⟩ _).mono ?_; rintro e w' ⟨rfl, hb⟩)
      go_roundg (l.length - (k + 1))
      case measure => omega
      case rel => exact ⟨k + 1, by omega, by omega, by go_num, below_step (BW.out.drew) hb⟩
    · have : k = l.length := by omega
      subst this
      go_wp2
      go_ret
      exact ⟨rfl, BW.out⟩
end Go.Proofs.YtomolbhcggaakaaGreat
