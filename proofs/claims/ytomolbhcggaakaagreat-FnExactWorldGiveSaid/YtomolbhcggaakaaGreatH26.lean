/- Parts of the proof, in one text. -/
import Derived.Test.YtomolbhcggaakaaGreatH22
import Derived.Test.YtomolbhcggaakaaGreatH25
/- The reference's copy of a run. -/
namespace Go.Proofs.YtomolbhcggaakaaGreat
open Go.RowKit
set_option maxRecDepth 100000

section
variable {α : Type} {enc : α → List Value} {m : Nat} {t : TypeId} {w0 w : World} {f : List Nat} {L L' : List Asn}
variable {P : Program} {ops : Array Oper} {rest : List Oper} {Q : Exit → Act → World → Prop} {a : Act} {x y : Operand} {ty tt : TypeId} {pos : String} {after : Array Edge}
/-- A list is appended to an empty one. -/
theorem ev_copy0 (ys : List α) (hk : ∀ x, (enc x).length = m) (hone : ∀ x, ∀ u ∈ enc x, u.oneCell' = true) (h0 : 0 < m) {bytes : Nat} (hinfo : (P.info? t).map (fun i => (i.zero.map (·.cells.size), i.size, i.bytes)) = some (some m, m, bytes)) (ht : P.underlying tt = some (.slice t))
    {dst : Option Tmp} {g n2 c2 B : Nat} {A2 : Option Addr} (hs : a.eval x = .slice (some ⟨g, 0, none⟩) 0 0) (hx : a.eval y = .slice A2 n2 c2) (M : Mem w0 f w L) (hd : Del (blk g t []) L L') (hr : ReadsL enc m w B A2 n2 ys) (hz : A2 = none → c2 = 0) (hlen : ys.length * bytes ≤ 1000000000) (hb : 1 ≤ bytes)
    (h : ∀ A' c' w1, Mem w0 f w1 (row enc m t A' c' ys :: L') → wpList P ops Q rest (a.put dst (.slice A' n2 c')) w1) :
    wpList P ops Q (⟨dst, .call { callee := .builtin .append, args := #[x, y], argTypes := #[tt, tt] }, ty, pos, after, none⟩ :: rest) a w := by
  obtain ⟨z, hz2, hzs⟩ := info_zero hinfo
  have hle : ys.length ≤ ys.length * bytes := Nat.le_mul_of_pos_right _ hb
  have M1 : Mem w0 f w (row enc m t (some ⟨g, 0, none⟩) 0 ([] : List α) :: L') := Mem.row_of hk (xs := []) (M.pull hd) rfl (by simp)
  refine ev_append (xs := []) (ys := ys) hk hone ht hz2 hzs h0 hs M1 .here rfl hx hr hz (by simp; omega) (by simp; omega) ?_
  intro A' c' w1 M2
  have := h A' c' w1 (by simpa using M2)
  rw [Nat.zero_add]
  exact this
end
theorem infRx : (Tryz.prog.info? 56).map (fun i => (i.zero.map (·.cells.size), i.size, i.bytes)) = some (some 13, 13, 168) := by kernel_rfl
theorem infOx : (Tryz.prog.info? 93).map (fun i => (i.zero.map (·.cells.size), i.size, i.bytes)) = some (some 6, 6, 48) := by kernel_rfl
theorem infVx : (Tryz.prog.info? 44).map (fun i => (i.zero.map (·.cells.size), i.size, i.bytes)) = some (some 2, 2, 16) := by kernel_rfl
def ZNil (a : RA) : Prop := (a.sA = none → a.sC = 0) ∧ (a.mA = none → a.mC = 0) ∧ (a.lA = none → a.lC = 0) ∧ (a.wA = none → a.wC = 0)
set_option maxHeartbeats 2000000 in
theorem mSCopy (r : Rn) (a : RA) (B : Nat) (w : World) (hr : ReadsRun w B r a) (hB : B ≤ w.heap.size) (hz : ZNil a) (h1 : r.slots.length ≤ 1048576) (h2 : r.mail.length ≤ 1048576) (h3 : r.links.length ≤ 1048576) (h4 : r.watched.length ≤ 1048576) :
    Calls Tryz.prog 109 #[.agg (runArr r a)] w fun e w' => ∃ b : RA, e = .returned (.agg (runArr r b)) ∧ Mem w [] w' [runA r b] := by
  obtain ⟨id, at_, slots, full, mail, state, due, links, watched, trap, ⟨wk, wn⟩, turns⟩ := r
  obtain ⟨sA, sC, mA, mC, lA, lC, wA, wC⟩ := a
  obtain ⟨z1, z2, z3, z4⟩ := hz
  have H1 := Lib.hid (fun V (hb : Below w.heap.size w V) => hr.slots.below' hb hB)
  have H2 := Lib.hid (fun V (hb : Below w.heap.size w V) => hr.mail.below' hb hB)
  have H3 := Lib.hid (fun V (hb : Below w.heap.size w V) => hr.links.below' hb hB)
  have H4 := Lib.hid (fun V (hb : Below w.heap.size w V) => hr.watched.below' hb hB)
  have M := Mem.nil w
  simp only at *
  have Z1 := Lib.hid z1
  have Z2 := Lib.hid z2
  have Z3 := Lib.hid z3
  have Z4 := Lib.hid z4
  clear hr hB z1 z2 z3 z4
  simp only [runArr]
  go_enter Tryz.func109, Tryz.ntmps109
  go_wp2_with (first
    | (with_reducible refine alAw M ?_; clear M; (try clear F); intro w1 M F) | ((with_reducible apply ev_store (M := M)); rfl; rfl; ((conv => lhs; whnf) <;> rfl); rfl; (first | exact siI | exact siR | exact siV | exact siB | exact siSI | exact siSV | exact siW | exact siSR | exact siSO | exact siO); (exact one_all rfl); (exact dl); (exact Nat.le_of_ble_eq_true rfl); clear M; intro w1 M; simp only [SX] at M; (try clear F); have F := fxw M)
    | ((with_reducible apply ev_copy0 (enc := encV) (ys := slots) (hk := encV_length) (hone := oneV) (h0 := by decide) (hinfo := infVx) (ht := Tryz.underlying54) (M := M)); rfl; rfl; (exact dl); exact (H1.out _ M.toBelow); exact Z1.out; omega; (exact Nat.le_of_ble_eq_true rfl); clear M; intro A1 c1 w1 M; (try clear F); have F := fxw M)
    | ((with_reducible apply ev_copy0 (enc := encV) (ys := mail) (hk := encV_length) (hone := oneV) (h0 := by decide) (hinfo := infVx) (ht := Tryz.underlying54) (M := M)); rfl; rfl; (exact dl); exact (H2.out _ M.toBelow); exact Z2.out; omega; (exact Nat.le_of_ble_eq_true rfl); clear M; intro A2 c2 w1 M; (try clear F); have F := fxw M)
    | ((with_reducible apply ev_copy0 (enc := encI) (ys := links) (hk := encI_length) (hone := oneIx) (h0 := by decide) (hinfo := infIx) (ht := Tryz.underlying24) (M := M)); rfl; rfl; (exact dl); exact (H3.out _ M.toBelow); exact Z3.out; omega; (exact Nat.le_of_ble_eq_true rfl); clear M; intro A3 c3 w1 M; (try clear F); have F := fxw M)
    | ((with_reducible apply ev_copy0 (enc := encI) (ys := watched) (hk := encI_length) (hone := oneIx) (h0 := by decide) (hinfo := infIx) (ht := Tryz.underlying24) (M := M)); rfl; rfl; (exact dl); exact (H4.out _ M.toBelow); exact Z4.out; omega; (exact Nat.le_of_ble_eq_true rfl); clear M; intro A4 c4 w1 M; (try clear F); have F := fxw M))
  apply ret_cell (M := M); rfl; rfl; (exact dl); (first | exact agR | exact agV | exact agW | exact agO); (first | exact siI | exact siR | exact siV | exact siB | exact siSI | exact siSV | exact siW | exact siSR | exact siSO | exact siO); rfl
  refine ⟨⟨A1, c1, A2, c2, A3, c3, A4, c4⟩, rfl, ?_⟩
  have M3 : Mem w [] _ [_, _, rowI A4 c4 watched, rowI A3 c3 links, rowV A2 c2 mail, rowV A1 c1 slots] := M
  have M4 : Mem w [] _ [rowV A1 c1 slots, rowV A2 c2 mail, rowI A3 c3 links, rowI A4 c4 watched] := M3.sel sl
  exact Mem.packRun (r := ⟨id, at_, slots, full, mail, state, due, links, watched, trap, ⟨wk, wn⟩, turns⟩) (a := ⟨A1, c1, A2, c2, A3, c3, A4, c4⟩) (L := []) M4
end Go.Proofs.YtomolbhcggaakaaGreat
/- The reference's copy of a world. -/
namespace Go.Proofs.YtomolbhcggaakaaGreat
open Go.RowKit
set_option maxRecDepth 100000

/-- What a copy needs to know of lists that are nil. -/
structure NilW (W : Wm) : Prop where
  code : W.cA = none → W.cC = 0
  queue : W.qA = none → W.qC = 0
  each : ∀ k (hk : k < W.ps.length), ZNil W.ps[k].2
theorem Mem.nilW {w0 w : World} {f : List Nat} {L L' : List Asn} {W : Wm} (M : Mem w0 f w L) (hd : Del (wld W) L L') : NilW W := by
  have M1 : Mem w0 f w (rowO W.cA W.cC W.code :: rowR W.rA W.rC W.ps :: rowI W.qA W.qC W.queue :: rws W.ps :: L') := Mem.unpack (L' := wldL W) (M.pull hd)
  refine ⟨(row_reads M1 .here).2.2, (row_reads M1 (.there (.there .here))).2.2, fun k hk => ?_⟩
  have h := M1.is (.there (.there (.there .here)))
  exact (runA_reads (h (runA W.ps[k].1 W.ps[k].2) (List.mem_map.2 ⟨W.ps[k], List.getElem_mem hk, rfl⟩))).2
structure SmallW (W : Wm) : Prop where
  code : W.code.length ≤ 1048576
  runs : W.ps.length ≤ 1048576
  queue : W.queue.length ≤ 1048576
  each : ∀ k (hk : k < W.ps.length), W.ps[k].1.slots.length ≤ 1048576 ∧ W.ps[k].1.mail.length ≤ 1048576 ∧ W.ps[k].1.links.length ≤ 1048576 ∧ W.ps[k].1.watched.length ≤ 1048576
def CopyPost (W : Wm) (w : World) (e : Ending) (w' : World) : Prop := ∃ V : Wm, V.wd = W.wd ∧ e = .returned (.agg (wArr V)) ∧ Mem w [] w' [wld V]
set_option maxHeartbeats 4000000 in
theorem sCopyW (W : Wm) (B : Nat) (w : World) (h : ReadsW w B W) (hB : B ≤ w.heap.size) (hn : NilW W) (hz : SmallW W) :
    Calls Tryz.prog 66 #[.agg (wArr W)] w (CopyPost W w) := by
  have HC := Lib.hid (fun V (hb : Below w.heap.size w V) => h.code.below' hb hB)
  have HQ := Lib.hid (fun V (hb : Below w.heap.size w V) => h.queue.below' hb hB)
  have HR := Lib.hid (fun V (hb : Below w.heap.size w V) => h.runs.below' hb hB)
  have HT := Lib.hid (fun k (hk : k < W.ps.length) V (hb : Below w.heap.size w V) => mSCopy W.ps[k].1 W.ps[k].2 B V ((h.each k hk).below hb hB) (Nat.le_trans hB hb.size) (hn.each k hk) (by have := hz.each k hk; omega) (by have := hz.each k hk; omega) (by have := hz.each k hk; omega) (by have := hz.each k hk; omega))
  have ZC := Lib.hid hn.code
  have ZQ := Lib.hid hn.queue
  have sc := hz.code
  have sq := hz.queue
  have sr := hz.runs
  have M := Mem.nil w
  have HF : Hid (∀ (U : World) (e : Ending), (∃ V : Wm, V.wd = W.wd ∧ e = .returned (.agg (wArr V)) ∧ Mem w [] U [wld V]) → CopyPost W w e U) := fun _ _ h => h
  clear h hn hz hB
  obtain ⟨code, cA, cC, ps, rA, rC, queue, qA, qC, now, sent, taken, lost⟩ := W
  simp only [Wm.wd] at *
  go_enter Tryz.func66, Tryz.ntmps66
  go_wp2_with (first | (with_reducible refine alA M ?_; clear M; (try clear F); intro w1 M F))
  (refine nm (G := fun W => Code.wp _ _ _ _ W) ?_; clear M; (try clear F); intro w1 M F)
  generalize hgx : w.heap.size = g0 at M ⊢
  rename_i u1 u2 K0 a0
  clear F
  generalize u1.heap.size = gr at M ⊢
  have M1 := Mem.rwsNil M
  have M2 : Mem w [] w1 [row encR 13 tR (some ⟨u2.heap.size, 0, none⟩) 0 ([] : List (Rn × RA)), rws [], blk gr tW [.slice none 0 0, .slice none 0 0, .slice none 0 0, .int .i64 0, .int .i64 0, .int .i64 0, .int .i64 0], blk g0 tW [.slice cA code.length cC, .slice rA ps.length rC, .slice qA queue.length qC, .int .i64 now, .int .i64 sent, .int .i64 taken, .int .i64 lost]] := Mem.row_of encR_length (xs := []) (M1.perm (.swap _ _ _)) rfl (by simp)
  clear M M1
  go_loopg [3, 4] ps.length (fun gg v i wr => ∃ (k : Nat) (qs : List (Rn × RA)) (A : Option Addr) (c : Nat), k ≤ ps.length ∧ ps.length - k ≤ gg ∧ v = .slice A k c ∧ i = .int .i64 k ∧ Hid (qs.length = k) ∧ Hid (qs.map (·.1) = (ps.take k).map (·.1)) ∧ Hid (Mem w [] wr [row encR 13 tR A c qs, rws qs, blk gr tW [.slice none 0 0, .slice none 0 0, .slice none 0 0, .int .i64 0, .int .i64 0, .int .i64 0, .int .i64 0], blk g0 tW [.slice cA code.length cC, .slice rA ps.length rC, .slice qA queue.length qC, .int .i64 now, .int .i64 sent, .int .i64 taken, .int .i64 lost]]))
  case atStart => exact ⟨0, [], _, _, Nat.zero_le _, by omega, rfl, rfl, rfl, by simp [Hid], M2⟩
  case round =>
    clear M2
    obtain ⟨k, qs, A, c, hk, hg, rfl, rfl, hql, hqm, M⟩ := hrel
    replace M := M.out
    by_cases hlt : k < ps.length
    · obtain ⟨ad, rfl, hab, hc⟩ := (HR.out _ M.toBelow).run hlt
      have HT := Lib.hid (HT.out k hlt)
      have hqn : Hid (∀ b : RA, (qs ++ [(ps[k].1, b)]).map (·.1) = (ps.take (k + 1)).map (·.1)) := fun b => by
        rw [List.map_append, hqm.out, takeS _ hlt, List.map_append]
        rfl
      have hql2 : Hid (∀ p : Rn × RA, (qs ++ [p]).length = k + 1) := fun p => by rw [List.length_append, hql.out]; rfl
      clear hqm
      generalize ps[k] = p at hc HT hqn
      obtain ⟨r, a⟩ := p
      obtain ⟨id, at_, slots, full, mail, state, due, links, watched, trap, ⟨wk, wn⟩, turns⟩ := r
      obtain ⟨sA, sC, mA, mC, lA, lC, wA, wC⟩ := a
      simp only [RunCells] at hc
      simp only at HT
      obtain ⟨hc0, hc1, hc2, hc3, hc4, hc5, hc6, hc7, hc8, hc9, hc10, hc11, hc12⟩ := hc
      have i1 : (0 : Int) ≤ k := by omega
      have i2 : (k : Int) < ps.length := by omega
      have wi : IntKind.i64.wrap ((k : Int) + 1) = (k : Int) + 1 := by rw [IntKind.wrap_i64]; omega
      (try clear F); have F := fx M
      go_wp2_with (first
        | (with_reducible refine alA M ?_; clear M; (try clear F); intro w1 M F)
        | (go_at_call 109; (refine nmK ?_; clear M; (try clear F); intro w1 M F); refine (HT.out _ M.toBelow).mono ?_; rintro e w2 ⟨⟨sA1, sC1, mA1, mC1, lA1, lC1, wA1, wC1⟩, rfl, hm⟩; replace M := M.call0 hm; clear hm; (try clear F); have F := fx M)
        | ((with_reducible apply ev_app1 (enc := encR) (v := (⟨⟨id, at_, slots, full, mail, state, due, links, watched, trap, ⟨wk, wn⟩, turns⟩, ⟨sA1, sC1, mA1, mC1, lA1, lC1, wA1, wC1⟩⟩ : Rn × RA)) (hk := encR_length) (hone := oneR) (h0 := by decide) (hinfo := infRx) (ht := Tryz.underlying30) (M := M)); rfl; rfl; (exact dl); (exact dl); rfl; (exact hql.out.symm); (have := hql.out; omega); (exact Nat.le_of_ble_eq_true rfl); clear M; intro A1 c1 w1 M; (try clear F); have F := fx M))
      go_roundg (ps.length - (k + 1))
      case measure => omega
      case rel =>
        have M5 : Mem w [] _ (runA ⟨id, at_, slots, full, mail, state, due, links, watched, trap, ⟨wk, wn⟩, turns⟩ ⟨sA1, sC1, mA1, mC1, lA1, lC1, wA1, wC1⟩ :: rws qs :: row encR 13 tR A1 c1 (qs ++ [⟨⟨id, at_, slots, full, mail, state, due, links, watched, trap, ⟨wk, wn⟩, turns⟩, ⟨sA1, sC1, mA1, mC1, lA1, lC1, wA1, wC1⟩⟩]) :: [blk gr tW [.slice none 0 0, .slice none 0 0, .slice none 0 0, .int .i64 0, .int .i64 0, .int .i64 0, .int .i64 0], blk g0 tW [.slice cA code.length cC, .slice (some ad) ps.length rC, .slice qA queue.length qC, .int .i64 now, .int .i64 sent, .int .i64 taken, .int .i64 lost]]) := M.sel sl
        exact ⟨k + 1, qs ++ [⟨⟨id, at_, slots, full, mail, state, due, links, watched, trap, ⟨wk, wn⟩, turns⟩, ⟨sA1, sC1, mA1, mC1, lA1, lC1, wA1, wC1⟩⟩], A1, c1, by omega, by omega, rfl, by go_num, Lib.hid (hql2.out _), Lib.hid (hqn.out _), M5.rwsSnoc.perm (.swap _ _ _)⟩
    · have : k = ps.length := by omega
      subst this
      have e1 := hqm.out
      rw [List.take_length] at e1
      have e1 := Lib.hid e1
      have e2 := Lib.hid hql.out
      clear hqm hql
      (try clear F); have F := fx M
      go_wp2_with (first
        | (with_reducible refine alA M ?_; clear M; (try clear F); intro w1 M F) | ((with_reducible apply ev_store (M := M)); rfl; rfl; ((conv => lhs; whnf) <;> rfl); rfl; (first | exact siI | exact siR | exact siV | exact siB | exact siSI | exact siSV | exact siW | exact siSR | exact siSO | exact siO); (exact one_all rfl); (exact dl); (exact Nat.le_of_ble_eq_true rfl); clear M; intro w1 M; simp only [SX] at M; (try clear F); have F := fx M)
        | ((with_reducible apply ev_copy0 (enc := encO) (ys := code) (hk := encO_length) (hone := oneO) (h0 := by decide) (hinfo := infOx) (ht := Tryz.underlying29) (M := M)); rfl; rfl; (exact dl); exact (HC.out _ M.toBelow); exact ZC.out; omega; (exact Nat.le_of_ble_eq_true rfl); clear M; intro A1 c1 w1 M; (try clear F); have F := fx M)
        | ((with_reducible apply ev_copy0 (enc := encI) (ys := queue) (hk := encI_length) (hone := oneIx) (h0 := by decide) (hinfo := infIx) (ht := Tryz.underlying24) (M := M)); rfl; rfl; (exact dl); exact (HQ.out _ M.toBelow); exact ZQ.out; omega; (exact Nat.le_of_ble_eq_true rfl); clear M; intro A2 c2 w1 M; (try clear F); have F := fx M))
      apply ret_cell (M := M); rfl; rfl; (exact dl); (first | exact agR | exact agV | exact agW | exact agO); (first | exact siI | exact siR | exact siV | exact siB | exact siSI | exact siSV | exact siW | exact siSR | exact siSO | exact siO); rfl
      refine HF.out _ _ ⟨⟨code, A1, c1, qs, A, c, queue, A2, c2, now, sent, taken, lost⟩, by simp only [e1.out], ?_, ?_⟩
      · simp only [wArr, e2.out]
      · have M5 : Mem w [] _ [rowO A1 c1 code, rowR A c qs, rowI A2 c2 queue, rws qs] := M.sel (T := [row encO 6 tO A1 c1 code, row encR 13 tR A c qs, row encI 1 tI A2 c2 queue, rws qs]) sl
        exact Mem.pack (L' := wldL ⟨code, A1, c1, qs, A, c, queue, A2, c2, now, sent, taken, lost⟩) (L := []) M5
end Go.Proofs.YtomolbhcggaakaaGreat
/- The laws' marks on steps: laid, and held. -/
namespace Go.Proofs.YtomolbhcggaakaaGreat
open Go.RowKit
set_option maxRecDepth 100000

section
variable {P : Program} {ops : Array Oper} {rest : List Oper} {Q : Exit → Act → World → Prop} {a : Act} {x y : Operand} {ty tt : TypeId} {pos : String} {after : Array Edge} {gd : Option (Nat × Bool)}
variable {α : Type} {enc : α → List Value} {m : Nat} {t : TypeId} {c : Nat} {pre post : List α} {e0 : α} {w0 w : World} {f : List Nat} {L L' : List Asn}
theorem mid_get (pre post : List α) (e0 : α) {k : Nat} (hp : pre.length = k) (h : k < (pre ++ e0 :: post).length) : (pre ++ e0 :: post)[k] = e0 := by
  subst hp
  simp
theorem mid_set (pre post : List α) (e0 x' : α) {k : Nat} (hp : pre.length = k) : (pre ++ e0 :: post).set k x' = pre ++ x' :: post := by
  subst hp
  simp
/-- One cell of an element of a row is stored. -/
theorem ev_elem (x' : α) (j : Nat) (hk : ∀ x, (enc x).length = m) (M : Mem w0 f w L) {v : Value} {g off k : Nat} (hw : Region.wanted ⟨none, .store tt x y, ty, pos, after, gd⟩ (yielded ops a.tmps) = true) (hx : a.eval x = .pointer (some ⟨g, off, none⟩)) (hy : a.eval y = v) (hv : v.cells = [v].toArray)
    (hs : (P.info? tt).map (·.size) = some 1) (h1 : v.oneCell' = true) (hd : Del (row enc m t (some ⟨g, 0, none⟩) c (pre ++ e0 :: post)) L L') (ho : off = k * m + j) (hp : pre.length = k) (hj : j < m) (e : enc x' = (enc e0).set j v)
    (h : ∀ w1, Mem w0 f w1 (row enc m t (some ⟨g, 0, none⟩) c (pre ++ x' :: post) :: L') → wpList P ops Q rest a w1) : wpList P ops Q (⟨none, .store tt x y, ty, pos, after, gd⟩ :: rest) a w := by
  have hl : k < (pre ++ e0 :: post).length := by rw [List.length_append, List.length_cons]; omega
  refine ev_store_row (j := j) (k := k) (x' := x') (vs := [v]) hk hw hx hy hv hs (by intro u hu; rw [List.mem_singleton.1 hu]; exact h1) M hd ho hl (by rw [List.length_singleton]; omega) ?_ fun w1 M1 => h w1 ?_
  · rw [mid_get _ _ _ hp hl, splice_one _ _ _ (by rw [hk]; exact hj)]
    exact e
  · rw [mid_set _ _ _ _ hp] at M1
    exact M1
theorem row_mid (hk : ∀ x, (enc x).length = m) {g k : Nat} (M : Mem w0 f w L) (hd : Del (row enc m t (some ⟨g, 0, none⟩) c (pre ++ e0 :: post)) L L') (hp : pre.length = k) : ∀ j, j < m → w.cell? ⟨g, k * m + j, none⟩ = (enc e0)[j]? := by
  have hl : k < (pre ++ e0 :: post).length := by rw [List.length_append, List.length_cons]; omega
  have h := (row_elem hk M hd hl).2.1
  rw [mid_get _ _ _ hp hl] at h
  exact h
end
theorem setO0 (k r s to vk vn u : Int) : encO ⟨u, r, s, to, ⟨vk, vn⟩⟩ = (encO ⟨k, r, s, to, ⟨vk, vn⟩⟩).set 0 (.int .i64 u) := rfl
theorem setO1 (k r s to vk vn u : Int) : encO ⟨k, u, s, to, ⟨vk, vn⟩⟩ = (encO ⟨k, r, s, to, ⟨vk, vn⟩⟩).set 1 (.int .i64 u) := rfl
theorem setO2 (k r s to vk vn u : Int) : encO ⟨k, r, u, to, ⟨vk, vn⟩⟩ = (encO ⟨k, r, s, to, ⟨vk, vn⟩⟩).set 2 (.int .i64 u) := rfl
theorem setO3 (k r s to vk vn u : Int) : encO ⟨k, r, s, u, ⟨vk, vn⟩⟩ = (encO ⟨k, r, s, to, ⟨vk, vn⟩⟩).set 3 (.int .i64 u) := rfl
theorem setO4 (k r s to vk vn u : Int) : encO ⟨k, r, s, to, ⟨u, vn⟩⟩ = (encO ⟨k, r, s, to, ⟨vk, vn⟩⟩).set 4 (.int .i64 u) := rfl
theorem setO5 (k r s to vk vn u : Int) : encO ⟨k, r, s, to, ⟨vk, u⟩⟩ = (encO ⟨k, r, s, to, ⟨vk, vn⟩⟩).set 5 (.int .i64 u) := rfl
def markO (k : Int) : Opx := ⟨k, k + 1, k + 2, k + 3, ⟨k + 4, k + 5⟩⟩
def marksO (k : Int) (n : Nat) : List Opx := (List.range n).map fun (i : Nat) => markO (k + 6 * (i : Int))
theorem marksO_length (k : Int) (n : Nat) : (marksO k n).length = n := by simp [marksO]
theorem marksO_succ (k : Int) (n : Nat) : marksO k (n + 1) = marksO k n ++ [markO (k + 6 * (n : Int))] := by simp [marksO, List.range_succ]
theorem marksO_get {k : Int} {n j : Nat} (h : j < (marksO k n).length) : (marksO k n)[j] = markO (k + 6 * (j : Int)) := by simp [marksO]
set_option maxHeartbeats 4000000 in
theorem lMarkOpS (xs : List Opx) (A : Option Addr) (c : Nat) (k0 : Int) {w0 w : World} {f : List Nat} {L L' : List Asn} (M : Mem w0 f w L) (hd : Del (rowO A c xs) L L') (h0 : 0 ≤ k0) (h1 : k0 ≤ 1152921504606846976) (hn : xs.length ≤ 140737488355328) :
    Calls Tryz.prog 63 #[.slice A xs.length c, .int .i64 k0] w fun e w' => e = .returned (.int .i64 (k0 + 6 * xs.length)) ∧ Mem w0 f w' (rowO A c (marksO k0 xs.length) :: L') := by
  replace M := M.pull hd
  clear hd
  have AL := add_lit0
  go_enter Tryz.func63, Tryz.ntmps63
  go_wp2
  go_loopg [1, 5] xs.length (fun gg s1 s5 wr => ∃ k : Nat, k ≤ xs.length ∧ xs.length - k ≤ gg ∧ s1 = .int .i64 (k0 + 6 * k) ∧ s5 = .int .i64 k ∧ Hid (Mem w0 f wr (row encO 6 tO A c (marksO k0 k ++ xs.drop k) :: L')))
  case atStart => exact ⟨0, Nat.zero_le _, by omega, by simp, rfl, by (have e : marksO k0 0 ++ xs.drop 0 = xs := by simp [marksO]); rw [e]; exact M⟩
  case round =>
    clear M
    obtain ⟨k, hk, hg, rfl, rfl, M⟩ := hrel
    replace M := M.out
    by_cases hlt : k < xs.length
    · obtain ⟨g, rfl⟩ := row_form M .here (by rw [List.length_append, marksO_length, List.length_drop]; omega)
      have hpl := marksO_length k0 k
      have hdr : xs.drop k = xs[k] :: xs.drop (k + 1) := List.drop_eq_getElem_cons hlt
      rw [hdr] at M
      have hms := marksO_succ k0 k
      have hpl := Lib.hid hpl
      have hms := Lib.hid hms
      generalize marksO k0 k = pre at M hpl hms
      generalize xs[k] = x at M
      obtain ⟨xk, xr, xs1, xt, ⟨xvk, xvn⟩⟩ := x
      clear hdr
      have i1 : (0 : Int) ≤ k := by omega
      have i2 : (k : Int) < xs.length := by omega
      have a0 : IntKind.i64.wrap (k0 + 6 * (k : Int) + 1) = k0 + 6 * (k : Int) + 1 := by rw [IntKind.wrap_i64]; omega
      have a1 : IntKind.i64.wrap (k0 + 6 * (k : Int) + 1 + 1) = k0 + 6 * (k : Int) + 2 := by rw [IntKind.wrap_i64]; omega
      have a2 : IntKind.i64.wrap (k0 + 6 * (k : Int) + 2 + 1) = k0 + 6 * (k : Int) + 3 := by rw [IntKind.wrap_i64]; omega
      have a3 : IntKind.i64.wrap (k0 + 6 * (k : Int) + 3 + 1) = k0 + 6 * (k : Int) + 4 := by rw [IntKind.wrap_i64]; omega
      have a4 : IntKind.i64.wrap (k0 + 6 * (k : Int) + 4 + 1) = k0 + 6 * (k : Int) + 5 := by rw [IntKind.wrap_i64]; omega
      have a5 : IntKind.i64.wrap (k0 + 6 * (k : Int) + 5 + 1) = k0 + 6 * ((k + 1 : Nat) : Int) := by rw [IntKind.wrap_i64]; omega
      have b2 : IntKind.i64.wrap (k0 + 6 * (k : Int) + 2) = k0 + 6 * (k : Int) + 2 := by rw [IntKind.wrap_i64]; omega
      have b3 : IntKind.i64.wrap (k0 + 6 * (k : Int) + 3) = k0 + 6 * (k : Int) + 3 := by rw [IntKind.wrap_i64]; omega
      have b4 : IntKind.i64.wrap (k0 + 6 * (k : Int) + 4) = k0 + 6 * (k : Int) + 4 := by rw [IntKind.wrap_i64]; omega
      have b5 : IntKind.i64.wrap (k0 + 6 * (k : Int) + 5) = k0 + 6 * (k : Int) + 5 := by rw [IntKind.wrap_i64]; omega
      have b6 : IntKind.i64.wrap (k0 + 6 * (k : Int) + 6) = k0 + 6 * ((k + 1 : Nat) : Int) := by rw [IntKind.wrap_i64]; omega
      go_wp2_with (first | ((with_reducible apply ev_elem (enc := encO) (j := 0) (k := k) (hk := encO_length) (M := M)); rfl; rfl; ((conv => lhs; whnf) <;> rfl); rfl; exact siI; rfl; exact .here; (first | with_reducible rfl | with_reducible exact (Nat.add_zero _).symm); exact hpl.out; decide; exact setO0 _ _ _ _ _ _ _; clear M; intro w1 M) | ((with_reducible apply ev_elem (enc := encO) (j := 1) (k := k) (hk := encO_length) (M := M)); rfl; rfl; ((conv => lhs; whnf) <;> rfl); rfl; exact siI; rfl; exact .here; (first | with_reducible rfl | with_reducible exact (Nat.add_zero _).symm); exact hpl.out; decide; exact setO1 _ _ _ _ _ _ _; clear M; intro w1 M) | ((with_reducible apply ev_elem (enc := encO) (j := 2) (k := k) (hk := encO_length) (M := M)); rfl; rfl; ((conv => lhs; whnf) <;> rfl); rfl; exact siI; rfl; exact .here; (first | with_reducible rfl | with_reducible exact (Nat.add_zero _).symm); exact hpl.out; decide; exact setO2 _ _ _ _ _ _ _; clear M; intro w1 M) | ((with_reducible apply ev_elem (enc := encO) (j := 3) (k := k) (hk := encO_length) (M := M)); rfl; rfl; ((conv => lhs; whnf) <;> rfl); rfl; exact siI; rfl; exact .here; (first | with_reducible rfl | with_reducible exact (Nat.add_zero _).symm); exact hpl.out; decide; exact setO3 _ _ _ _ _ _ _; clear M; intro w1 M) | ((with_reducible apply ev_elem (enc := encO) (j := 4) (k := k) (hk := encO_length) (M := M)); rfl; rfl; ((conv => lhs; whnf) <;> rfl); rfl; exact siI; rfl; exact .here; (first | with_reducible rfl | with_reducible exact (Nat.add_zero _).symm); exact hpl.out; decide; exact setO4 _ _ _ _ _ _ _; clear M; intro w1 M) | ((with_reducible apply ev_elem (enc := encO) (j := 5) (k := k) (hk := encO_length) (M := M)); rfl; rfl; ((conv => lhs; whnf) <;> rfl); rfl; exact siI; rfl; exact .here; (first | with_reducible rfl | with_reducible exact (Nat.add_zero _).symm); exact hpl.out; decide; exact setO5 _ _ _ _ _ _ _; clear M; intro w1 M))
      go_roundg (xs.length - (k + 1))
      case measure => omega
      case rel => exact ⟨k + 1, by omega, by omega, rfl, by go_num, by rw [hms.out, List.append_assoc]; exact M⟩
    · have : k = xs.length := by omega
      subst this
      rw [List.drop_length, List.append_nil] at M
      go_wp2
      go_ret
      exact ⟨rfl, M⟩
end Go.Proofs.YtomolbhcggaakaaGreat
