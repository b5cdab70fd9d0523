/- Parts of the proof, in one text. -/
import Derived.Deep.AppendSrc
import Derived.Deep.Cut
import Derived.Deep.RegionWith
import Derived.Test.YtmidnaafljgbiaaB36
import Derived.Test.YtmidnaafljgbiaaB03
import Derived.Test.YtmidnaafljgbiaaB31
import Derived.Test.YtmidnaafljgbiaaB22
import Derived.Test.YtmidnaafljgbiaaB21
import Derived.Test.YtmidnaafljgbiaaB19
/- A run and a kind to take are drawn from the bytes. -/
namespace Go.Proofs.Ytmidnaafljgbiaa
open Go.RowKit
set_option maxRecDepth 100000

set_option maxHeartbeats 2000000 in
theorem sDrawRunTake (W0 : World) (A : Option Addr) (n c : Nat) (bs : Nat → Int) (hnc : n ≤ c) {w0 w : World} {f : List Nat} {L : List Asn} (M : Mem w0 f w (ro W0 A n bs :: L)) :
    Calls Try.prog 45 #[.slice A n c] w (DRF W0 A n w0 f L) := by
  have HD : Hid (∀ {W : World} {L : List Asn}, Mem w0 f W (ro W0 A n bs :: L) → Calls Try.prog 34 #[.slice A n c] W (DRF W0 A n w0 f L)) := fun {W L} M => sDrawRunFirst W0 A n c bs hnc M
  have HZ : Hid (∀ {r : Rn} {a : RA} {k : Int} {R : Rd} {p : Nat} {U : World}, RSx r → (R.W0 = W0 ∧ roB R.A R.n = roB A n) → Mem w0 f U (runA r a :: rdr R p :: L) → DRF W0 A n w0 f L (.returned (.tuple #[.agg (runArr r a), .int .i64 k])) U) := fun {r a k R p U} h1 h2 M => ⟨r, a, k, R, p, rfl, h1, h2, M⟩
  clear hnc
  (try clear F); have F := fxd M
  go_enter Try.func45, Try.ntmps45
  go_wp2_with (first | (with_reducible refine alAd M ?_; clear M; (try clear F); intro w1 M F) | ((with_reducible apply ev_store (M := M)); rfl; rfl; ((conv => lhs; whnf) <;> rfl); rfl; (first | exact siI | exact siR | exact siV | exact siB | exact siSI | exact siSV | exact siW | exact siSR | exact siSO | exact siO); (exact one_all rfl); (exact dl); (exact Nat.le_of_ble_eq_true rfl); clear M; intro w1 M; simp only [SX] at M; (try clear F); have F := fxd M) | (go_at_call 34; refine (HD.out (M.pull dl)).mono ?_; clear M; rintro e w2 ⟨⟨id, at_, slots, full, mail, state, due, links, watched, trap, ⟨wk, wn⟩, turns⟩, ⟨sA, sC, mA, mC, lA, lC, wA, wC⟩, kind, R, p, rfl, hr, hR, M⟩; replace hr := Lib.hid hr; replace hR := Lib.hid hR; (try simp only at M); (try clear F); have F := fxd M))
  (apply ret_cell_tmp (M := M); rfl; rfl; rfl; (exact dl); (first | exact agR | exact agV | exact agW | exact agO); (first | exact siI | exact siR | exact siV | exact siB | exact siSI | exact siSV | exact siW | exact siSR | exact siSO | exact siO); rfl)
  exact HZ.out hr.out hR.out (M.sel sl)
end Go.Proofs.Ytmidnaafljgbiaa
/- slices.Delete at Val: an append in place and a clear of the last element, over a row of two-cell elements. -/
namespace Go.Proofs.Ytmidnaafljgbiaa
open Go.RowKit
set_option maxRecDepth 100000

section
variable {P : Program} {t tb ty tt : TypeId} {g c : Nat} {w0 w : World} {f : List Nat} {L L' : List Asn}
theorem encV_one : ∀ x, ∀ u ∈ encV x, u.oneCell' = true := by
  intro x u hu
  simp only [encV, List.mem_cons, List.not_mem_nil, _root_.or_false] at hu
  rcases hu with rfl | rfl <;> rfl
theorem flatV_append (xs ys : List Vl) : flat encV (xs ++ ys) = flat encV xs ++ flat encV ys := by unfold flat; rw [List.flatMap_append]
theorem flatV_take {xs : List Vl} {k : Nat} (h : k ≤ xs.length) : (flat encV xs).take (k * 2) = flat encV (xs.take k) := by
  have e : xs = xs.take k ++ xs.drop k := (List.take_append_drop k xs).symm
  have e3 : (flat encV (xs.take k)).length = k * 2 := by rw [flat_length encV_length, List.length_take, Nat.min_eq_left h]
  conv => lhs; rw [e, flatV_append]
  rw [List.take_append_of_le_length (by omega), List.take_of_length_le (by omega)]
theorem flatV_drop {xs : List Vl} {k : Nat} (h : k ≤ xs.length) : (flat encV xs).drop (k * 2) = flat encV (xs.drop k) := by
  have e : xs = xs.take k ++ xs.drop k := (List.take_append_drop k xs).symm
  have e3 : (flat encV (xs.take k)).length = k * 2 := by rw [flat_length encV_length, List.length_take, Nat.min_eq_left h]
  conv => lhs; rw [e, flatV_append]
  rw [List.drop_append, e3, List.drop_eq_nil_of_le (by omega), Nat.sub_self, List.drop_zero, List.nil_append]
/-- The run of the append: the elements behind the i-th come one place nearer, the last one stays. -/
theorem run_delApp {xs : List Vl} {i n2 c2 : Nat} {A2 : Addr} (ht : P.underlying tt = some (.slice t)) (hi : (P.info? t).map (·.size) = some 2) (M : Mem w0 f w L) (hd : Del (row encV 2 tb (some ⟨g, 0, none⟩) c xs) L L') (h : i < xs.length) (hn : n2 = xs.length - (i + 1)) (hA : A2 = ⟨g, (i + 1) * 2, none⟩ ∨ n2 = 0) :
    ∃ w1, (Builtin.append_ #[tt, tt] ty #[.slice (some ⟨g, 0, none⟩) i c, .slice (some A2) n2 c2]).run P w = .ok (.slice (some ⟨g, 0, none⟩) (i + n2) c) w1 ∧ Mem w0 f w1 (row encV 2 tb (some ⟨g, 0, none⟩) c (xs.eraseIdx i ++ [xs[xs.length - 1]'(by omega)]) :: L') := by
  obtain ⟨ti, hti, hsz⟩ := Option.map_eq_some_iff.1 hi
  obtain ⟨cur, hb, c1, c2', c3, c4, c5⟩ := row_blk (M.is hd)
  have M1 : Mem w0 f w (blk g tb cur :: L') := (M.pull hd).turn (fun _ => hb) (List.Sublist.refl _)
  have hcell := M1.cells .here
  have hfz := fun j => (M1.facts.1).2.2 (j := j)
  have hl : (flat encV (xs.drop (i + 1))).length = n2 * 2 := by rw [flat_length encV_length, List.length_drop, hn]
  have hS : Src P 2 tt (.slice (some A2) n2 c2) n2 (flat encV (xs.drop (i + 1))) w := by
    refine Src.ofSlice w ht A2 n2 c2 _ hl ?_ ?_
    · intro j u hu
      rcases hA with rfl | h0
      · rw [add_lit0, hcell]
        have e : cur[(i + 1) * 2 + j]? = (cur.take (xs.length * 2))[(i + 1) * 2 + j]? := by
          have : j < n2 * 2 := by
            rw [← hl]
            exact (List.getElem?_eq_some_iff.1 hu).1
          rw [List.getElem?_take_of_lt (by omega)]
        rw [e, c4, ← hu]
        have e2 : xs = xs.take (i + 1) ++ xs.drop (i + 1) := (List.take_append_drop _ xs).symm
        conv => lhs; rw [e2]
        unfold flat
        rw [List.flatMap_append]
        have e3 := flat_length encV_length (xs.take (i + 1))
        unfold flat at e3
        rw [List.getElem?_append_right (by rw [e3, List.length_take]; omega), e3, List.length_take, Nat.min_eq_left (by omega), show (i + 1) * 2 + j - (i + 1) * 2 = j by omega]
      · rw [h0] at hl
        rw [List.eq_nil_of_length_eq_zero (by omega : (flat encV (xs.drop (i + 1))).length = 0)] at hu
        cases hu
    · intro u hu
      obtain ⟨y, _, hy⟩ := List.mem_flatMap.1 hu
      exact encV_one y u hy
  refine ⟨w.setCells g (0 + i * 2) (flat encV (xs.drop (i + 1))), ?_, ?_⟩
  · have hr := run_append_room_src w tt tt ty t ti ht hti g 0 i c _ n2 _ (by rw [hsz]; exact hS) (by omega) (fun j hj => by
      rw [hsz, hcell, List.getElem?_eq_getElem (by omega)]
      rfl) (fun j hj => M1.facts.1.2.2 _)
    rw [hsz] at hr
    exact hr
  · refine (Mem.setCells _ _ _ _ M1 (by omega)).turn (fun hb2 => ?_) (List.Sublist.refl _)
    have hlen : (xs.eraseIdx i ++ [xs[xs.length - 1]'(by omega)]).length = xs.length := by
      rw [List.length_append, List.length_eraseIdx, if_pos h, List.length_singleton]
      omega
    refine blk_row hb2 (by omega) c2' ?_ ?_ (by omega) (flat_length encV_length _)
    · unfold splice
      simp only [List.length_append, List.length_take, List.length_drop]
      omega
    · rw [hlen, List.eraseIdx_eq_take_drop_succ]
      have e1 : cur.take (0 + i * 2) = flat encV (xs.take i) := by
        rw [← flatV_take (by omega), ← c4, List.take_take, Nat.min_eq_left (by omega), Nat.zero_add]
      have e2 : (cur.drop (0 + i * 2 + n2 * 2)).take 2 = flat encV [xs[xs.length - 1]'(by omega)] := by
        have e3 : (cur.take (xs.length * 2)).drop ((xs.length - 1) * 2) = flat encV (xs.drop (xs.length - 1)) := by rw [c4, flatV_drop (by omega)]
        have e5 : xs.drop (xs.length - 1) = [xs[xs.length - 1]'(by omega)] := by rw [List.drop_eq_getElem_cons (show xs.length - 1 < xs.length by omega), List.drop_eq_nil_of_le (by omega)]
        rw [e5, List.drop_take, show xs.length * 2 - (xs.length - 1) * 2 = 2 by omega] at e3
        rw [show 0 + i * 2 + n2 * 2 = (xs.length - 1) * 2 by omega]
        exact e3
      unfold splice
      rw [hl, e1]
      have e4 : (flat encV (xs.take i)).length = i * 2 := by rw [flat_length encV_length, List.length_take, Nat.min_eq_left (by omega)]
      rw [flatV_append, flatV_append, ← e2]
      simp only [List.append_assoc]
      rw [List.take_append, List.take_of_length_le (l := flat encV (xs.take i)) (by omega), e4, List.take_append, List.take_of_length_le (l := flat encV (xs.drop (i + 1))) (by omega), hl, show xs.length * 2 - i * 2 - n2 * 2 = 2 by omega]
/-- The run of the clear: the last element is zero. -/
theorem run_delClr {ys : List Vl} {y : Vl} {c2 : Nat} (ht : P.underlying tt = some (.slice t)) (hv : ∀ w, (zeroValue t).run P w = .ok (.agg #[.int .i64 0, .int .i64 0]) w) (M : Mem w0 f w L) (hd : Del (row encV 2 tb (some ⟨g, 0, none⟩) c (ys ++ [y])) L L') :
    ∃ w1, (Builtin.clear_ #[tt] ty #[.slice (some ⟨g, ys.length * 2, none⟩) 1 c2]).run P w = .ok (.tuple #[]) w1 ∧ Mem w0 f w1 (row encV 2 tb (some ⟨g, 0, none⟩) c ys :: L') := by
  obtain ⟨cur, hb, c1, c2', c3, c4, c5⟩ := row_blk (M.is hd)
  have M1 : Mem w0 f w (blk g tb cur :: L') := (M.pull hd).turn (fun _ => hb) (List.Sublist.refl _)
  simp only [List.length_append, List.length_singleton] at c1 c4 c5
  obtain ⟨w1, hr, M2⟩ := run_storeCells (P := P) (off := ys.length * 2) [.int .i64 0, .int .i64 0] (by simp [Value.oneCell']) 0 w cur M1 (by simp only [List.length_cons, List.length_nil]; omega)
  refine ⟨w1, ?_, M2.turn (fun hb2 => ?_) (List.Sublist.refl _)⟩
  · have hz : (Builtin.zeroCells (Value.agg #[.int .i64 0, .int .i64 0]).cells 1).toList = [.int .i64 0, .int .i64 0] := by kernel_rfl
    simp [Builtin.clear_, run_underlying ht, hv, hz, hr]
  · refine blk_row hb2 (by omega) c2' ?_ ?_ (by omega) (flat_length encV_length _)
    · unfold splice
      simp only [List.length_append, List.length_take, List.length_drop, List.length_cons, List.length_nil]
      omega
    · unfold splice
      have e4 : cur.take (ys.length * 2) = flat encV ys := by
        have e5 : (cur.take ((ys.length + 1) * 2)).take (ys.length * 2) = flat encV ys := by
          rw [c4, flatV_take (by simp), List.take_append_of_le_length (by omega), List.take_of_length_le (by omega)]
        rw [← e5, List.take_take, Nat.min_eq_left (by omega)]
      rw [Nat.add_zero, e4, List.take_append_of_le_length (by rw [flat_length encV_length]; omega), List.take_of_length_le (by rw [flat_length encV_length]; omega)]
variable {ops : Array Oper} {rest : List Oper} {Q : Exit → Act → World → Prop} {a : Act} {p q : Operand} {pos : String} {after : Array Edge}
/-- The append as a step of a region. -/
theorem ev_delApp {dst : Option Tmp} {xs : List Vl} {i n2 c2 : Nat} {A2 : Addr} (hs : a.eval p = .slice (some ⟨g, 0, none⟩) i c) (hx : a.eval q = .slice (some A2) n2 c2) (ht : P.underlying tt = some (.slice t)) (hi : (P.info? t).map (·.size) = some 2) (M : Mem w0 f w L) (hd : Del (row encV 2 tb (some ⟨g, 0, none⟩) c xs) L L') (h : i < xs.length) (hn : n2 = xs.length - (i + 1)) (hA : A2 = ⟨g, (i + 1) * 2, none⟩ ∨ n2 = 0)
    (hk : ∀ w1, Mem w0 f w1 (row encV 2 tb (some ⟨g, 0, none⟩) c (xs.eraseIdx i ++ [xs[xs.length - 1]'(by omega)]) :: L') → wpList P ops Q rest (a.put dst (.slice (some ⟨g, 0, none⟩) (i + n2) c)) w1) :
    wpList P ops Q (⟨dst, .call { callee := .builtin .append, args := #[p, q], argTypes := #[tt, tt] }, ty, pos, after, none⟩ :: rest) a w := by
  obtain ⟨w1, hr, M1⟩ := run_delApp (ty := ty) (c2 := c2) ht hi M hd h hn hA
  have h' := hk w1 M1
  refine wpList_plain rfl fun K hK => ?_
  unfold Oper.wp
  simp [execOp, resolve, invoke, builtin, hs, hx, hr, Result.andThen]
  exact hK _ _ h'
/-- The clear as a step of a region. -/
theorem ev_delClr {ys : List Vl} {y : Vl} {off c2 : Nat} (hs : a.eval p = .slice (some ⟨g, off, none⟩) 1 c2) (ho : off = ys.length * 2) (ht : P.underlying tt = some (.slice t)) (hv : ∀ w, (zeroValue t).run P w = .ok (.agg #[.int .i64 0, .int .i64 0]) w) (M : Mem w0 f w L) (hd : Del (row encV 2 tb (some ⟨g, 0, none⟩) c (ys ++ [y])) L L')
    (hk : ∀ w1, Mem w0 f w1 (row encV 2 tb (some ⟨g, 0, none⟩) c ys :: L') → wpList P ops Q rest a w1) :
    wpList P ops Q (⟨none, .call { callee := .builtin .clear, args := #[p], argTypes := #[tt] }, ty, pos, after, none⟩ :: rest) a w := by
  subst ho
  obtain ⟨w1, hr, M1⟩ := run_delClr (ty := ty) (c2 := c2) ht hv M hd
  have h' := hk w1 M1
  refine wpList_plain rfl fun K hK => ?_
  unfold Oper.wp
  simp [execOp, resolve, invoke, builtin, hs, hr, Result.andThen]
  exact hK _ _ h'
end
end Go.Proofs.Ytmidnaafljgbiaa
/- slices.Delete at Val, one element. -/
namespace Go.Proofs.Ytmidnaafljgbiaa
open Go.RowKit
set_option maxRecDepth 100000

set_option maxHeartbeats 4000000 in
theorem iDelete (xs : List Vl) (g c i : Nat) {w0 w : World} {f : List Nat} {L L' : List Asn} (M : Mem w0 f w L) (hd : Del (row encV 2 tV (some ⟨g, 0, none⟩) c xs) L L') (hi : i < xs.length) (hl : xs.length ≤ 1000) :
    Calls Try.prog 93 #[.slice (some ⟨g, 0, none⟩) xs.length c, .int .i64 (i : Int), .int .i64 ((i : Int) + 1)] w fun e w' => e = .returned (.slice (some ⟨g, 0, none⟩) (xs.length - 1) c) ∧ Mem w0 f w' (row encV 2 tV (some ⟨g, 0, none⟩) c (xs.eraseIdx i) :: L') := by
  have AL := add_lit0
  have hle := (row_reads M hd).2.1
  have k1 : (0 : Int) ≤ i := by omega
  have k2 : (i : Int) < xs.length := by omega
  have k3 : (0 : Int) ≤ (i : Int) + 1 := by omega
  have k4 : (i : Int) ≤ (i : Int) + 1 := by omega
  have k5 : (i : Int) + 1 ≤ xs.length := by omega
  have k6 : (xs.length : Int) ≤ c := by omega
  have k7 : (i : Int) ≤ c := by omega
  have k8 : (i : Int) + 1 ≤ c := by omega
  have k9 : ¬ (i : Int) = (i : Int) + 1 := by omega
  go_enter Try.func93, Try.ntmps93
  go_upto_region 5 with (fail)
  by_cases hc : c = i + 1
  · subst hc
    have d3 : i + 1 - (i + 1) = 0 := by omega
    have d5 : i + 1 ≤ i + 1 := by omega
    replace M := M.pull hd
    clear hd
    (try clear F); have F := fx M
    (refine wp_region_any (by kernel_rfl) ?_); (try change wpAny _ _ _ _ _ _ _ (World.drew _)); (refine nm (G := fun W => wpAny _ _ _ _ _ _ _ W) ?_; clear M; (try clear F); intro w1 M F)
    refine anP 0 ?_; refine anP 1 ?_; refine anP 2 ?_; refine anP 3 ?_; refine anP 4 ?_; refine anP 5 ?_
    refine an1 6 (fun K hK => ?_); refine op_of_list rfl ?_; (refine ev_delApp (xs := xs) (i := i) (t := tV) (tb := tV) rfl rfl (by kernel_rfl) siV M .here hi (n2 := 0) (by omega) (.inr rfl) ?_; clear M; intro w1 M; (try clear F); have F := fx M); (refine hK.out _ _ ?_; clear hK K; (try simp only [AX]))
    refine anP 7 ?_
    refine wpAny_done (by kernel_rfl) ?_ _
    go_upto_region 6 with (fail)
    have e1 : xs.length - 1 = i := by omega
    have e2 : (xs.eraseIdx i).length = i := by rw [List.length_eraseIdx, if_pos hi, e1]
    generalize hy : xs[xs.length - 1]'(by omega) = y at M F
    clear hy
    replace e2 := Lib.hid e2
    replace e1 := Lib.hid e1
    have c2 : (i : Int) ≤ xs.length := by omega
    have c4 : ¬ i + 1 - i = 0 := by omega
    have c5 : ¬ i + 1 ≤ i := by omega
    have c6 : xs.length - i = 1 := by omega
    have c7 : i + 1 - i = 1 := by omega
    go_wp2_with (first
      | (refine ev_delClr (ys := xs.eraseIdx i) (y := y) (t := tV) (tb := tV) rfl (by have := e2.out; omega) (by kernel_rfl) (fun _ => by kernel_rfl) M .here ?_; clear M; intro w1 M; (try clear F); have F := fx M))
    go_ret
    exact ⟨by rw [e1.out]; rfl, M⟩
  · have d3 : ¬ c - (i + 1) = 0 := by omega
    have d5 : ¬ c ≤ i + 1 := by omega
    replace M := M.pull hd
    clear hd
    (try clear F); have F := fx M
    (refine wp_region_any (by kernel_rfl) ?_); (try change wpAny _ _ _ _ _ _ _ (World.drew _)); (refine nm (G := fun W => wpAny _ _ _ _ _ _ _ W) ?_; clear M; (try clear F); intro w1 M F)
    refine anP 0 ?_; refine anP 1 ?_; refine anP 2 ?_; refine anP 3 ?_; refine anP 4 ?_; refine anP 5 ?_
    refine an1 6 (fun K hK => ?_); refine op_of_list rfl ?_; (refine ev_delApp (xs := xs) (i := i) (t := tV) (tb := tV) rfl rfl (by kernel_rfl) siV M .here hi rfl (.inl rfl) ?_; clear M; intro w1 M; (try clear F); have F := fx M); (refine hK.out _ _ ?_; clear hK K; (try simp only [AX]))
    refine anP 7 ?_
    refine wpAny_done (by kernel_rfl) ?_ _
    go_upto_region 6 with (fail)
    have e1 : i + (xs.length - (i + 1)) = xs.length - 1 := by omega
    have e2 : (xs.eraseIdx i).length = xs.length - 1 := by rw [List.length_eraseIdx, if_pos hi]
    rw [e1]
    generalize hy : xs[xs.length - 1]'(by omega) = y at M F
    clear hy
    replace e2 := Lib.hid e2
    have c1 : (0 : Int) ≤ ((xs.length - 1 : Nat) : Int) := by omega
    have c2 : ((xs.length - 1 : Nat) : Int) ≤ xs.length := by omega
    have c3 : ((xs.length - 1 : Nat) : Int) ≤ c := by omega
    have c4 : ¬ c - (xs.length - 1) = 0 := by omega
    have c5 : ¬ c ≤ xs.length - 1 := by omega
    have c6 : xs.length - (xs.length - 1) = 1 := by omega
    go_wp2_with (first
      | (refine ev_delClr (ys := xs.eraseIdx i) (y := y) (t := tV) (tb := tV) rfl (by have := e2.out; omega) (by kernel_rfl) (fun _ => by kernel_rfl) M .here ?_; clear M; intro w1 M; (try clear F); have F := fx M))
    go_ret
    exact ⟨rfl, M⟩
end Go.Proofs.Ytmidnaafljgbiaa
/- A whole run of the call's own marked, and its marks read. -/
namespace Go.Proofs.Ytmidnaafljgbiaa
open Go.RowKit
set_option maxRecDepth 100000

/-- A run whose lists hold marks from k on. -/
def markedR (r : Rn) (k : Int) : Rn := { r with slots := marksV k r.slots.length, mail := marksV (k + 2 * r.slots.length) r.mail.length, links := marksI (k + 2 * r.slots.length + 2 * r.mail.length) r.links.length, watched := marksI (k + 2 * r.slots.length + 2 * r.mail.length + r.links.length) r.watched.length }
def marksR (r : Rn) (k : Int) : Int := k + 2 * r.slots.length + 2 * r.mail.length + r.links.length + r.watched.length
/-- A run's slices as values. -/
abbrev OwnA (w : World) (base : Nat) (r : Rn) (a : RA) : Prop := OwnRun 30 3 w base r (.slice a.sA r.slots.length a.sC) (.slice a.mA r.mail.length a.mC) (.slice a.lA r.links.length a.lC) (.slice a.wA r.watched.length a.wC)
set_option maxHeartbeats 2000000 in
theorem lHeldRun (r : Rn) (a : RA) (B : Nat) (k0 : Int) (w : World) (h : ReadsRun w B (markedR r k0) a) (hB : B ≤ w.heap.size) (h0 : 0 ≤ k0) (h1 : k0 ≤ 1048576) :
    Calls Try.prog 21 #[.agg (runArr r a), .int .i64 k0] w fun e w' => e = .returned (.int .i64 (marksR r k0)) ∧ Below w.heap.size w w' := by
  obtain ⟨id, at_, slots, full, mail, state, due, links, watched, trap, ⟨wk, wn⟩, turns⟩ := r
  obtain ⟨sA, sC, mA, mC, lA, lC, wA, wC⟩ := a
  obtain ⟨hs, hm, hl, hw, _, _, _, _⟩ := h
  simp only [markedR, marksV_length, marksI_length] at hs hm hl hw
  have n1 := hs.2.1
  have n2 := hm.2.1
  have n3 := hl.2.1
  have n4 := hw.2.1
  have K1 := Lib.hid (fun W (hb : Below w.heap.size w W) => lHeldV slots.length k0 sA sC B W (hs.below' hb hB) h0 (by omega))
  have K2 := Lib.hid (fun W (hb : Below w.heap.size w W) => lHeldV mail.length (k0 + 2 * slots.length) mA mC B W (hm.below' hb hB) (by omega) (by omega))
  have K3 := Lib.hid (fun W (hb : Below w.heap.size w W) => lHeldI links.length (k0 + 2 * slots.length + 2 * mail.length) lA lC B W (hl.below' hb hB) (by omega) (by omega))
  have K4 := Lib.hid (fun W (hb : Below w.heap.size w W) => lHeldI watched.length (k0 + 2 * slots.length + 2 * mail.length + links.length) wA wC B W (hw.below' hb hB) (by omega) (by omega))
  clear hs hm hl hw
  have d1 : ¬ k0 + 2 * (slots.length : Int) < 0 := by omega
  have d2 : ¬ k0 + 2 * (slots.length : Int) + 2 * mail.length < 0 := by omega
  have d3 : ¬ k0 + 2 * (slots.length : Int) + 2 * mail.length + links.length < 0 := by omega
  have d4 : ¬ k0 + 2 * (slots.length : Int) + 2 * mail.length + links.length + watched.length < 0 := by omega
  unfold marksR
  simp only [runArr]
  go_enter Try.func21, Try.ntmps21
  go_wp2_with (first
    | (go_at_call_of 59 (Value.slice sA slots.length sC); refine (K1.out _ (below_box _ _)).mono ?_; rintro e w' ⟨rfl, rfl⟩)
    | (go_at_call_of 59 (Value.slice mA mail.length mC); refine (K2.out _ (below_box _ _)).mono ?_; rintro e w' ⟨rfl, rfl⟩)
    | (go_at_call_of 60 (Value.slice lA links.length lC); refine (K3.out _ (below_box _ _)).mono ?_; rintro e w' ⟨rfl, rfl⟩)
    | (go_at_call_of 60 (Value.slice wA watched.length wC); refine (K4.out _ (below_box _ _)).mono ?_; rintro e w' ⟨rfl, rfl⟩))
  go_ret
  exact ⟨rfl, below_box _ _⟩
end Go.Proofs.Ytmidnaafljgbiaa
