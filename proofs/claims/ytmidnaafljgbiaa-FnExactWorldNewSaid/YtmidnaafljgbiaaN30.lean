/- Parts of the proof, in one text. -/
import Derived.Test.YtmidnaafljgbiaaN21
import Derived.Test.YtmidnaafljgbiaaN29
import Derived.Test.YtmidnaafljgbiaaN03
/- Marks and copies over what is held. -/
namespace Go.Proofs.Ytmidnaafljgbiaa
open Go.RowKit
set_option maxRecDepth 100000

theorem Mem.grownRow {α : Type} {enc : α → List Value} {m : Nat} {t : TypeId} {A : Option Addr} {c : Nat} {xs ys : List α} {w0 w w' : World} {f : List Nat} {L L' : List Asn} (M : Mem w0 f w L) (hd : Del (row enc m t A c xs) L L')
    (h : OwnL enc m t w' 0 (.slice A ys.length c) ys) (hg : w.grownBy w' (Value.slice A xs.length c).ownBlock) : Mem w0 f w' (row enc m t A c ys :: L') := by
  refine (M.pull hd).step (A := row enc m t A c xs) (B := row enc m t A c ys) ⟨hg.os, hg.tape, hg.output, hg.size, fun k hk hn => hg.block k hk ?_, fun k hk => .inl hk, ?_⟩ h
  · intro e
    cases A with
    | none => cases e
    | some ad =>
      apply hn
      injection e with e
      simp [row, ob, e]
  · cases A <;> simp [row, ob]
theorem mMarkI (xs : List Int) (A : Option Addr) (c : Nat) (k0 : Int) {w0 w : World} {f : List Nat} {L L' : List Asn} (M : Mem w0 f w L) (hd : Del (rowI A c xs) L L') (h0 : 0 ≤ k0) (h1 : k0 ≤ 1152921504606846976) :
    Calls Try.prog 58 #[.slice A xs.length c, .int .i64 k0] w fun e w' => e = .returned (.int .i64 (k0 + xs.length)) ∧ Mem w0 f w' (rowI A c (marksI k0 xs.length) :: L') := by
  have h : OwnL encI 1 tI w 0 (.slice A xs.length c) xs := M.is hd
  refine (lMarkI xs A c 0 k0 w h h.1 h0 h1).mono ?_
  rintro e w' ⟨rfl, ho, hg⟩
  exact ⟨rfl, M.grownRow hd (by rw [marksI_length]; exact ho) hg⟩
theorem mMarkV (xs : List Vl) (A : Option Addr) (c : Nat) (k0 : Int) {w0 w : World} {f : List Nat} {L L' : List Asn} (M : Mem w0 f w L) (hd : Del (rowV A c xs) L L') (h0 : 0 ≤ k0) (h1 : k0 ≤ 1152921504606846976) :
    Calls Try.prog 57 #[.slice A xs.length c, .int .i64 k0] w fun e w' => e = .returned (.int .i64 (k0 + 2 * xs.length)) ∧ Mem w0 f w' (rowV A c (marksV k0 xs.length) :: L') := by
  have h : OwnL encV 2 tV w 0 (.slice A xs.length c) xs := M.is hd
  refine (lMarkV xs A c 0 k0 w h h.1 h0 h1).mono ?_
  rintro e w' ⟨rfl, ho, hg⟩
  exact ⟨rfl, M.grownRow hd (by rw [marksV_length]; exact ho) hg⟩
end Go.Proofs.Ytmidnaafljgbiaa
/- A world that a law is given: what its lists hold. -/
namespace Go.Proofs.Ytmidnaafljgbiaa
open Go.RowKit

/-- A world that a law is given. -/
structure ReadsW (w : World) (B : Nat) (W : Wm) : Prop where
  code : ReadsL encO 6 w B W.cA W.code.length W.code
  runs : ReadsL encR 13 w B W.rA W.ps.length W.ps
  queue : ReadsI w B W.qA W.queue.length W.queue
  each : ∀ k (hk : k < W.ps.length), ReadsRun w B W.ps[k].1 W.ps[k].2
theorem ReadsW.below {w w' : World} {B : Nat} {W : Wm} (h : ReadsW w B W) (hb : Below w.heap.size w w') (hB : B ≤ w.heap.size) : ReadsW w' B W :=
  ⟨h.code.below' hb hB, h.runs.below' hb hB, h.queue.below' hb hB, fun k hk => (h.each k hk).below hb hB⟩
end Go.Proofs.Ytmidnaafljgbiaa
/- The laws' own copies of steps, runs and worlds. -/
namespace Go.Proofs.Ytmidnaafljgbiaa
open Go.RowKit
set_option maxRecDepth 100000

theorem lToOp (o : Opx) (w : World) : Calls Try.prog 63 #[.agg (encO o).toArray] w fun e w' => e = .returned (.agg (encO o).toArray) ∧ Below w.heap.size w w' := by
  obtain ⟨k, r, s, to, ⟨vk, vn⟩⟩ := o
  have M := Mem.nil w
  have HV := Lib.hid (fun W => lToVal ⟨vk, vn⟩ W)
  simp only [encO]
  go_enter Try.func63, Try.ntmps63
  go_wp2_with (first
    | (with_reducible refine alAw M ?_; clear M; (try clear F); intro w1 M F) | ((with_reducible apply ev_store (M := M)); rfl; rfl; ((conv => lhs; whnf) <;> rfl); rfl; (first | exact siI | exact siR | exact siV | exact siB | exact siSI | exact siSV | exact siW | exact siSR | exact siSO | exact siO); (exact one_all rfl); (exact dl); (exact Nat.le_of_ble_eq_true rfl); clear M; intro w1 M; simp only [SX] at M; (try clear F); have F := fxw M) | ((with_reducible refine goal_drewN (G := fun W => wpList _ _ _ _ _ W) M ?_); clear M; intro w1 M; (try clear F); have F := fxw M) | ((with_reducible refine goal_drew (G := fun W => wpList _ _ _ _ _ W) M ?_); clear M; intro w1 M; (try clear F); have F := fxw M) | ((with_reducible refine isSet (G := fun W => wpList _ _ _ _ _ W) ?_); (with_reducible refine nmw (G := fun W => wpList _ _ _ _ _ W) ?_; clear M; (try clear F); intro w1 M F))
    | (go_at_call 52; (refine nmKw ?_; clear M; (try clear F); intro w1 M F); refine (HV.out _).mono ?_; rintro e w2 ⟨rfl, hb⟩; replace M := M.below hb; clear hb; (try clear F); have F := fxw M))
  apply ret_cell (M := M); rfl; rfl; (exact dl); (first | exact agR | exact agV | exact agW | exact agO); (first | exact siI | exact siR | exact siV | exact siB | exact siSI | exact siSV | exact siW | exact siSR | exact siSO | exact siO); rfl
  exact ⟨rfl, M.toBelow⟩
theorem madeO (n : Nat) : madeCells #[.int .i64 0, .int .i64 0, .int .i64 0, .int .i64 0, .int .i64 0, .int .i64 0] (n * 6) = (flat encO (List.replicate n ⟨0, 0, 0, 0, ⟨0, 0⟩⟩)).toArray := by
  have := madeCells_flat (enc := encO) (z := #[.int .i64 0, .int .i64 0, .int .i64 0, .int .i64 0, .int .i64 0, .int .i64 0]) (x := ⟨0, 0, 0, 0, ⟨0, 0⟩⟩) rfl (by decide) n
  rw [← this]
  simp
theorem makeO (n : Nat) (hn : n ≤ 1048576) (W : World) : (Instr.makeSlice 42 (.int .i64 (n : Int)) (.int .i64 (n : Int))).run Try.prog W = .ok (.slice (some ⟨W.heap.size, 0, none⟩) n n) (W.alloc (.cells (flat encO (List.replicate n ⟨0, 0, 0, 0, ⟨0, 0⟩⟩)).toArray tO)) := by
  have h := run_make_m (P := Try.prog) 42 tO (.agg #[.int .i64 0, .int .i64 0, .int .i64 0, .int .i64 0, .int .i64 0, .int .i64 0]) 6 48 Try.underlying42 nfO n (by omega) (by omega) W
  rw [show (Value.agg #[.int .i64 0, .int .i64 0, .int .i64 0, .int .i64 0, .int .i64 0, .int .i64 0]).cells = #[.int .i64 0, .int .i64 0, .int .i64 0, .int .i64 0, .int .i64 0, .int .i64 0] from rfl, madeO] at h
  exact h
theorem zRow {α : Type} {enc : α → List Value} {m : Nat} {t : TypeId} {w0 w : World} {f : List Nat} {L : List Asn} {g : Nat} {l : List α} {z : α} (hk : ∀ x, (enc x).length = m) (hn : l.length ≤ 1048576) (M : Mem w0 f w (blk g t (flat enc (List.replicate l.length z)) :: L)) : Mem w0 f w (row enc m t (some ⟨g, 0, none⟩) l.length (fillL l z 0) :: L) := by
  have M1 := Mem.row_of hk (xs := List.replicate l.length z) M rfl (by rw [List.length_replicate]; omega)
  rw [List.length_replicate] at M1
  rw [fillL_zero]
  exact M1
set_option maxHeartbeats 2000000 in
theorem lToOpS (l : List Opx) (A : Option Addr) (c B : Nat) (w : World) (h : ReadsL encO 6 w B A l.length l) (hB : B ≤ w.heap.size) (hs : l.length ≤ 1048576) :
    Calls Try.prog 24 #[.slice A l.length c] w fun e w' => ∃ (A' : Option Addr) (c' : Nat), e = .returned (.slice A' l.length c') ∧ Mem w [] w' [rowO A' c' l] := by
  have hmk := makeO l.length hs
  have AL := add_lit0
  have M := Mem.nil w
  go_enter Try.func24, Try.ntmps24
  go_wp2
  clear hmk
  (refine nmw (G := fun W => Code.wp _ _ _ _ W) ?_; clear M; (try clear F); intro w1 M F)
  have M1 := zRow encO_length hs M
  clear M F
  generalize hgg : w.heap.size = g at M1 ⊢
  go_loopg [4] l.length (fun gg i wr => ∃ k : Nat, k ≤ l.length ∧ l.length - k ≤ gg ∧ i = .int .i64 k ∧ Hid (Mem w [] wr [rowO (some ⟨g, 0, none⟩) l.length (fillL l ⟨0, 0, 0, 0, ⟨0, 0⟩⟩ k)]))
  case atStart => exact ⟨0, Nat.zero_le _, by omega, rfl, M1⟩
  case round =>
    clear M1
    obtain ⟨k, hk, hg, rfl, M⟩ := hrel
    replace M := M.out
    by_cases hlt : k < l.length
    · obtain ⟨ad, rfl, hab, hc0, hc1, hc2, hc3, hc4, hc5⟩ := (h.below' M.toBelow hB).op hlt
      have hcl : k < (fillL l ⟨0, 0, 0, 0, ⟨0, 0⟩⟩ k).length := by rw [fillL_length _ _ hk]; exact hlt
      have hfs := fillL_set l ⟨0, 0, 0, 0, ⟨0, 0⟩⟩ hlt
      have HO := Lib.hid (fun W => lToOp l[k] W)
      generalize l[k] = x at hc0 hc1 hc2 hc3 hc4 hc5 hfs HO
      have hfs := Lib.hid hfs
      generalize fillL l ⟨0, 0, 0, 0, ⟨0, 0⟩⟩ k = cur at M hcl hfs
      obtain ⟨xk, xr, xs, xt, ⟨xvk, xvn⟩⟩ := x
      simp only [encO] at HO
      simp only at hc0 hc1 hc2 hc3 hc4 hc5
      have i1 : (0 : Int) ≤ k := by omega
      have i2 : (k : Int) < l.length := by omega
      go_wp2_with (first
        | (go_at_call 63; (refine nmKw ?_; clear M; (try clear F); intro w1 M F); refine (HO.out _).mono ?_; rintro e w2 ⟨rfl, hb⟩; replace M := M.below hb; clear hb; (try clear F); have F := fxw M)
        | ((with_reducible apply ev_put_row (x' := (⟨xk, xr, xs, xt, ⟨xvk, xvn⟩⟩ : Opx)) (hk := encO_length) (hone := oneO) (M := M)); rfl; rfl; ((conv => lhs; whnf) <;> rfl); rfl; exact siO; exact .here; rfl; exact hcl; clear M; intro w1 M))
      go_roundg (l.length - (k + 1))
      case measure => omega
      case rel => exact ⟨k + 1, by omega, by omega, by go_num, by rw [← hfs.out]; exact M⟩
    · have : k = l.length := by omega
      subst this
      rw [fillL_end] at M
      go_wp2
      go_ret
      exact ⟨_, _, rfl, M⟩
theorem Mem.rwsNil {w0 w : World} {f : List Nat} {L : List Asn} (M : Mem w0 f w L) : Mem w0 f w (rws [] :: L) := Mem.pack (L' := []) (by simpa using M)
theorem Mem.rwsSnoc {w0 w : World} {f : List Nat} {L : List Asn} {r : Rn} {a : RA} {ps : List (Rn × RA)} (M : Mem w0 f w (runA r a :: rws ps :: L)) : Mem w0 f w (rws (ps ++ [(r, a)]) :: L) := by
  refine M.join2 (C := rws (ps ++ [(r, a)])) (fun h1 h2 A hA => ?_) ?_
  · rw [List.map_append, List.map_singleton] at hA
    rcases List.mem_append.1 hA with hA | hA
    · exact h2 A hA
    · obtain rfl := List.mem_singleton.1 hA
      exact h1
  · show (fps ((ps ++ [(r, a)]).map fun p => runA p.1 p.2)).Perm _
    rw [List.map_append, fps_append]
    show (fps (ps.map fun p => runA p.1 p.2) ++ fps [runA r a]).Perm ((runA r a).fp ++ fps (ps.map fun p => runA p.1 p.2))
    rw [fps_one]
    exact List.perm_append_comm
end Go.Proofs.Ytmidnaafljgbiaa
