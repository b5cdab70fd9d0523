/- Parts of the proof, in one text. -/
import Derived.Test.YtmidnaafljgbiaaB18
import Derived.Test.YtmidnaafljgbiaaB19
import Derived.Test.YtmidnaafljgbiaaB17
import Derived.Test.YtmidnaafljgbiaaB08
import Derived.Test.YtmidnaafljgbiaaB05
import Derived.Test.YtmidnaafljgbiaaB09
/- The laws' own copies of steps, runs and worlds. -/
namespace Go.Proofs.Ytmidnaafljgbiaa
open Go.RowKit
set_option maxRecDepth 100000

theorem Mem.rwsNil {w0 w : World} {f : List Nat} {L : List Asn} (M : Mem w0 f w L) : Mem w0 f w (rws [] :: L) := Mem.pack (L' := []) (by simpa using M)
theorem Mem.rwsSnoc {w0 w : World} {f : List Nat} {L : List Asn} {r : Rn} {a : RA} {ps : List (Rn × RA)} (M : Mem w0 f w (runA r a :: rws ps :: L)) : Mem w0 f w (rws (ps ++ [(r, a)]) :: L) := by
  refine M.join2 (C := rws (ps ++ [(r, a)])) (fun h1 h2 A hA => ?_) ?_
  · rw [List.map_append, List.map_singleton] at hA
    rcases List.mem_append.1 hA with hA | hA
    · exact h2 A hA
    · obtain rfl := List.mem_singleton.1 hA
      exact h1
  · show (fps ((ps ++ [(r, a)]).map fun p => runA p.1 p.2)).Perm _
    rw [List.map_append, fps_append]
    show (fps (ps.map fun p => runA p.1 p.2) ++ fps [runA r a]).Perm ((runA r a).fp ++ fps (ps.map fun p => runA p.1 p.2))
    rw [fps_one]
    exact List.perm_append_comm
end Go.Proofs.Ytmidnaafljgbiaa
/- The laws' own comparison of worlds. -/
namespace Go.Proofs.Ytmidnaafljgbiaa
open Go.RowKit
set_option maxRecDepth 100000

end Go.Proofs.Ytmidnaafljgbiaa
/- The reference's copy of a run. -/
namespace Go.Proofs.Ytmidnaafljgbiaa
open Go.RowKit
set_option maxRecDepth 100000

section
variable {α : Type} {enc : α → List Value} {m : Nat} {t : TypeId} {w0 w : World} {f : List Nat} {L L' : List Asn}
variable {P : Program} {ops : Array Oper} {rest : List Oper} {Q : Exit → Act → World → Prop} {a : Act} {x y : Operand} {ty tt : TypeId} {pos : String} {after : Array Edge}
/-- A list is appended to an empty one. -/
theorem ev_copy0 (ys : List α) (hk : ∀ x, (enc x).length = m) (hone : ∀ x, ∀ u ∈ enc x, u.oneCell' = true) (h0 : 0 < m) {bytes : Nat} (hinfo : (P.info? t).map (fun i => (i.zero.map (·.cells.size), i.size, i.bytes)) = some (some m, m, bytes)) (ht : P.underlying tt = some (.slice t))
    {dst : Option Tmp} {g n2 c2 B : Nat} {A2 : Option Addr} (hs : a.eval x = .slice (some ⟨g, 0, none⟩) 0 0) (hx : a.eval y = .slice A2 n2 c2) (M : Mem w0 f w L) (hd : Del (blk g t []) L L') (hr : ReadsL enc m w B A2 n2 ys) (hz : A2 = none → c2 = 0) (hlen : ys.length * bytes ≤ 1000000000) (hb : 1 ≤ bytes)
    (h : ∀ A' c' w1, Mem w0 f w1 (row enc m t A' c' ys :: L') → wpList P ops Q rest (a.put dst (.slice A' n2 c')) w1) :
    wpList P ops Q (⟨dst, .call { callee := .builtin .append, args := #[x, y], argTypes := #[tt, tt] }, ty, pos, after, none⟩ :: rest) a w := by
  obtain ⟨z, hz2, hzs⟩ := info_zero hinfo
  have hle : ys.length ≤ ys.length * bytes := Nat.le_mul_of_pos_right _ hb
  have M1 : Mem w0 f w (row enc m t (some ⟨g, 0, none⟩) 0 ([] : List α) :: L') := Mem.row_of hk (xs := []) (M.pull hd) rfl (by simp)
  refine ev_append (xs := []) (ys := ys) hk hone ht hz2 hzs h0 hs M1 .here rfl hx hr hz (by simp; omega) (by simp; omega) ?_
  intro A' c' w1 M2
  have := h A' c' w1 (by simpa using M2)
  rw [Nat.zero_add]
  exact this
end
theorem infRx : (Try.prog.info? 32).map (fun i => (i.zero.map (·.cells.size), i.size, i.bytes)) = some (some 13, 13, 168) := by kernel_rfl
theorem infOx : (Try.prog.info? 85).map (fun i => (i.zero.map (·.cells.size), i.size, i.bytes)) = some (some 6, 6, 48) := by kernel_rfl
theorem infVx : (Try.prog.info? 30).map (fun i => (i.zero.map (·.cells.size), i.size, i.bytes)) = some (some 2, 2, 16) := by kernel_rfl
end Go.Proofs.Ytmidnaafljgbiaa
/- Steps are drawn, however they are. -/
namespace Go.Proofs.Ytmidnaafljgbiaa
open Go.RowKit
set_option maxRecDepth 100000

def CodePost (R : Rd) (p : Nat) (w0 : World) (f : List Nat) (L : List Asn) (e : Ending) (w' : World) : Prop := ∃ (C : List Opx) (A : Option Addr) (c p' : Nat), e = .returned (.slice A C.length c) ∧ 1 ≤ C.length ∧ C.length ≤ 16 ∧ p ≤ p' ∧ p' ≤ p + 200 ∧ Mem w0 f w' (rowO A c C :: rdr R p' :: L)
set_option maxHeartbeats 4000000 in
theorem sRandomD (R : Rd) (p : Nat) (hp : p ≤ 700000000) {w0 w : World} {f : List Nat} {L L' : List Asn} (M : Mem w0 f w L) (hd : Del (rdr R p) L L') :
    Calls Try.prog 124 #[.pointer (some ⟨R.g, 0, none⟩)] w (CodePost R p w0 f L') := by
  replace M := M.pull hd
  clear hd
  have AL := add_lit0
  have HP := Lib.hid (fun (m : Int) (hm : 1 ≤ m) (q : Nat) (hq : q ≤ 1000000000) W (L L' : List Asn) (M : Mem w0 f W L) (hd : Del (rdr R q) L L') => pick_of m hm R q hq M hd)
  have HO : Hid (∀ (q : Nat), q ≤ 800000000 → ∀ (pl : Int), (1 ≤ pl ∧ pl ≤ 1000) → ∀ {U : World} {L1 L2 : List Asn}, Mem w0 f U L1 → Del (rdr R q) L1 L2 → Calls Try.prog 140 #[.pointer (some ⟨R.g, 0, none⟩), .int .i64 pl] U (OpPost R q w0 f L2)) := fun q hq pl hpl U L1 L2 M hd => sOpD R q hq pl hpl M hd
  have WR : ∀ i : Int, 0 ≤ i → i < 100000 → IntKind.i64.wrap (3 + i) = 3 + i := fun i h0 h1 => by rw [IntKind.wrap_i64]; omega
  (try clear F); have F := fxu M
  go_enter Try.func124, Try.ntmps124
  go_upto_region 2 with (go_at_call 74; refine (HP.out _ (by decide) _ ?_ _ _ _ M dl).mono ?_; omega; clear M; rintro e w2 ⟨i, rfl, h0, h1, M⟩; have wx := WR i h0 (by omega); (try clear F); have F := fxu M)
  obtain ⟨N, hN⟩ : ∃ N : Nat, 3 + i = (N : Int) := ⟨(3 + i).toNat, by omega⟩
  rw [hN]
  have hN3 : 3 ≤ N ∧ N ≤ 10 := by omega
  clear wx hN h0 h1
  go_upto_region 3 with (first | (with_reducible refine alAu M ?_; clear M; (try clear F); intro w1 M F))
  have M2 : Mem w0 f _ (rowO (some ⟨w2.heap.size, 0, none⟩) 0 ([] : List Opx) :: rdr R (p + 1) :: L') := Mem.row_of encO_length (xs := []) M rfl (by simp)
  clear M F
  generalize w2.heap.size = g0 at M2 ⊢
  go_wp2
  go_loopg [4, 5] N (fun gg v i wr => ∃ (j q : Nat) (C : List Opx) (A : Option Addr) (c : Nat), j ≤ N ∧ N - j ≤ gg ∧ v = .slice A C.length c ∧ i = .int .i64 j ∧ C.length = j ∧ p ≤ q ∧ q ≤ p + 1 + 12 * j ∧ Hid (Mem w0 f wr (row encO 6 tO A c C :: rdr R q :: L')))
  case atStart => exact ⟨0, p + 1, [], _, _, by omega, by omega, rfl, rfl, rfl, by omega, by omega, M2⟩
  case round =>
    clear M2
    obtain ⟨j, q, C, A, c, hj, hg, rfl, rfl, hC, hq1, hq2, M⟩ := hrel
    replace M := M.out
    replace hC := Lib.hid hC
    have wj : IntKind.i64.wrap ((j : Int) + 1) = (j : Int) + 1 := by rw [IntKind.wrap_i64]; omega
    by_cases hlt : j < N
    · have j1 : (j : Int) < N := by omega
      have hCl : C.length ≤ 100 := by have := hC.out; omega
      (try clear F); have F := fxu M
      go_wp2_with (first
        | ((with_reducible refine alAu M ?_; clear M; (try clear F); intro w1 M F); ((with_reducible apply ev_app1 (enc := encO) (v := o) (hk := encO_length) (hone := oneO) (h0 := by decide) (hinfo := infOx) (ht := Try.underlying42) (M := M)); rfl; rfl; (exact dl); (exact dl); rfl; rfl; omega; (exact Nat.le_of_ble_eq_true rfl); clear M; intro A1 c1 w1 M; replace M := Mem.perm M (.swap _ _ _) |> Mem.drop; (try clear F); have F := fxu M))
        | (go_at_call 140; (refine nmKu ?_; clear M; (try clear F); intro w1 M F); refine (HO.out _ ?_ _ ?_ M dl).mono ?_; omega; omega; clear M; rintro e w2 ⟨o, q', rfl, hq3, hq4, M⟩; (try clear F); have F := fxu M))
      go_roundg (N - (j + 1))
      case measure => omega
      case rel => exact ⟨j + 1, q', C ++ [o], A1, c1, by omega, Nat.le_refl _, by rw [List.length_append]; rfl, by go_num, by rw [List.length_append, hC.out]; rfl, by omega, by omega, M.sel .refl⟩
    · have hjN : j = N := by omega
      have hCN : C.length = N := by rw [hC.out, hjN]
      obtain ⟨g, rfl⟩ := row_form M .here (by omega)
      have j9 : ¬ ((j : Int) < N) := by omega
      obtain ⟨n1, hn1⟩ : ∃ n1 : Nat, N = n1 + 1 := ⟨N - 1, by omega⟩
      have wn : IntKind.i64.wrap ((N : Int) - 1) = (n1 : Int) := by rw [IntKind.wrap_i64]; omega
      have m1 : (0 : Int) ≤ n1 := by omega
      have m2 : (n1 : Int) < C.length := by omega
      have HF : Hid (∀ (U : World) (x : Opx) (q' : Nat), p ≤ q' → q' ≤ p + 200 → Mem w0 f U (row encO 6 tO (some ⟨g, 0, none⟩) c (C.set n1 x) :: rdr R q' :: L') → CodePost R p w0 f L' (.returned (.slice (some ⟨g, 0, none⟩) C.length c)) U) := fun U x q' h1 h2 M => ⟨C.set n1 x, _, c, q', by rw [List.length_set], by rw [List.length_set]; omega, by rw [List.length_set]; omega, h1, h2, M⟩
      replace hCN := Lib.hid hCN
      (try clear F); have F := fxu M
      go_upto_region 8 with (first | (with_reducible refine alAu M ?_; clear M; (try clear F); intro w1 M F) | ((with_reducible apply ev_store (M := M)); rfl; rfl; ((conv => lhs; whnf) <;> rfl); rfl; (first | exact siI | exact siR | exact siV | exact siB | exact siSI | exact siSV | exact siW | exact siSR | exact siSO | exact siO); (exact one_all rfl); (exact dl); (exact Nat.le_of_ble_eq_true rfl); clear M; intro w1 M; simp only [SX] at M; (try clear F); have F := fxu M) | (go_at_call 74; refine (HP.out _ (by omega) _ ?_ _ _ _ M dl).mono ?_; omega; clear M; rintro e w2 ⟨i7, rfl, h2, h3, M⟩; (try clear F); have F := fxu M))
      go_wp2_with (first | ((with_reducible apply ev_store (M := M)); rfl; rfl; ((conv => lhs; whnf) <;> rfl); rfl; (first | exact siI | exact siR | exact siV | exact siB | exact siSI | exact siSV | exact siW | exact siSR | exact siSO | exact siO); (exact one_all rfl); (exact dl); (exact Nat.le_of_ble_eq_true rfl); clear M; intro w1 M; simp only [SX] at M; (try clear F); have F := fxu M) | ((with_reducible apply ev_put_row (enc := encO) (x' := (Opx.mk 14 0 0 0 (Vl.mk 0 0))) (k := n1) (hk := encO_length) (hone := oneO) (M := M)); rfl; rfl; ((conv => lhs; whnf) <;> rfl); rfl; exact siO; (exact dl); rfl; omega; clear M; intro w1 M; (try clear F); have F := fxu M) | ((with_reducible apply ev_put_row (enc := encO) (x' := (Opx.mk 9 0 0 i7 (Vl.mk 0 0))) (k := n1) (hk := encO_length) (hone := oneO) (M := M)); rfl; rfl; ((conv => lhs; whnf) <;> rfl); rfl; exact siO; (exact dl); rfl; omega; clear M; intro w1 M; (try clear F); have F := fxu M) | (go_at_call 74; refine (HP.out _ (by omega) _ ?_ _ _ _ M dl).mono ?_; omega; clear M; rintro e w2 ⟨i9, rfl, h4, h5, M⟩; (try clear F); have F := fxu M))
      all_goals go_ret
      · exact HF.out _ _ _ (by omega) (by omega) (M.sel (.cons .here (.drop .refl)))
      · exact HF.out _ _ _ (by omega) (by omega) (M.sel (.cons .here (.cons .here (.drop .refl))))
end Go.Proofs.Ytmidnaafljgbiaa
