/- Parts of the proof, in one text. -/
import Derived.Lib.BufferMore
import Derived.Test.YtomolbhcggaakaaGreatH47
import Derived.Test.YtomolbhcggaakaaGreatH22
import Derived.Test.YtomolbhcggaakaaGreatH26
/- What the program says of worlds: how many values wait, whether all is idle, who is alive. -/
namespace Go.Proofs.YtomolbhcggaakaaGreat
open Go.RowKit
set_option maxRecDepth 100000

set_option maxHeartbeats 2000000 in
theorem iWorldWaits (W : Wm) {w0 w : World} {f : List Nat} {L L' : List Asn} (M : Mem w0 f w L) (hd : Del (wld W) L L') :
    Calls Tryz.prog 20 #[.agg (wArr W)] w fun e w' => e = .returned (.int .i64 (worldWaits W.wd)) ∧ Mem w0 f w' (wld W :: L') := by
  have HO := Lib.hid (fun V (L L' : List Asn) (M : Mem w0 f V L) (hd : Del (wld W) L L') => iWorldOk W M hd)
  replace M := M.pull hd
  unfold worldWaits
  clear hd
  cases h : worldOk W.wd with
  | false =>
    rw [h] at HO
    simp only [Bool.false_eq_true, if_false]
    clear h
    go_enter Tryz.func20, Tryz.ntmps20
    go_wp2_with (first | (with_reducible refine alAw M ?_; clear M; (try clear F); intro w1 M F) | (go_at_call 15; (refine nmKw ?_; clear M; (try clear F); intro w1 M F); refine (HO.out _ _ _ M dl).mono ?_; clear M; rintro e w2 ⟨rfl, M⟩; (try clear F); have F := fxw M))
    go_ret
    exact ⟨rfl, (Mem.perm M (.swap _ _ _)).drop⟩
  | true =>
    rw [h] at HO
    simp only [if_true]
    have hl := (wok_ps h).1
    have HW := Lib.hid (fun V (L L' : List Asn) (M : Mem w0 f V L) (hd : Del (wld W) L L') => iWaiting W V.heap.size V (Mem.rw_ (M.pull hd).unpackW) (Nat.le_refl _) hl.2)
    clear h
    go_enter Tryz.func20, Tryz.ntmps20
    go_wp2_with (first | (with_reducible refine alAw M ?_; clear M; (try clear F); intro w1 M F) | (go_at_call 15; (refine nmKw ?_; clear M; (try clear F); intro w1 M F); refine (HO.out _ _ _ M dl).mono ?_; clear M; rintro e w2 ⟨rfl, M⟩; (try clear F); have F := fxw M) | (go_at_call 55; (refine nmKw ?_; clear M; (try clear F); intro w1 M F); refine (HW.out _ _ _ M dl).mono ?_; rintro e w2 ⟨rfl, hb⟩; replace M := M.below hb; clear hb; (try clear F); have F := fxw M))
    go_ret
    exact ⟨rfl, (Mem.perm M (.swap _ _ _)).drop⟩

/-- A predicate on runs, as a function value. -/
def PredR (g : Nat) (lb : Array Value) (p : Rn → Bool) (w : World) : Prop :=
  ∀ (W : World) (r : Rn) (a : RA), Below w.heap.size w W → Calls Tryz.prog g (#[.agg (runArr r a)] ++ lb) W fun e w' => e = .returned (.bool (p r)) ∧ Below w.heap.size w w'
set_option maxHeartbeats 1000000 in
theorem iIndexFuncR (p : Rn → Bool) (g : Nat) (lb : Array Value) (eg : ∀ args w, (callFunc g args).run Tryz.prog w = .ok (.enter g args) w) (l : List (Rn × RA)) (ga c : Nat) (w : World) (hl : l.length ≤ 140737488355328)
    (h : ∀ k (hk : k < l.length), ga < w.heap.size ∧ RunAt w ga (k * 13) l[k].1 l[k].2) (hp : PredR g lb p w) :
    Calls Tryz.prog 106 #[.slice (some ⟨ga, 0, none⟩) l.length c, .func (.func g) #[] lb] w fun e w' => e = .returned (.int .i64 (idxP (fun x : Rn × RA => p x.1) l)) ∧ Below w.heap.size w w' := by
  have AL := add_lit0
  have RE := Lib.hid (fun V (hv : Below w.heap.size w V) k (hk : k < l.length) => (h k hk).2.below hv (h k hk).1)
  clear h
  go_enter Tryz.func106, Tryz.ntmps106
  go_wp2
  go_loopg [5, 8] l.length (fun gg _ s8 wr => ∃ k : Nat, k ≤ l.length ∧ l.length - k ≤ gg ∧ s8 = .int .i64 k ∧ Hid (Below w.heap.size w wr) ∧ Hid (∀ j (hj : j < l.length), j < k → p l[j].1 = false))
  case atStart => exact ⟨0, Nat.zero_le _, by omega, rfl, Below.refl _ w, fun j _ h => absurd h (by omega)⟩
  case round =>
    obtain ⟨k, hk, hg, rfl, BW, hn⟩ := hrel
    by_cases hlt : k < l.length
    · have hlk : Hid (p l[k].1 = true → idxP (fun x : Rn × RA => p x.1) l = k) := fun h1 => idxP_hit hlt h1 (fun j hj => hn j (by omega) hj)
      have hl2 : Hid (p l[k].1 = false → ∀ j (hj : j < l.length), j < k + 1 → p l[j].1 = false) := fun h1 j hj hjk => by
        by_cases e : j = k
        · subst e; exact h1
        · exact hn j hj (by omega)
      have E := RE.out _ BW.out k hlt
      have hcall := hp wr l[k].1 l[k].2 BW.out
      have k1 : (0 : Int) ≤ k := by omega
      have k2 : (k : Int) < l.length := by omega
      clear hp hn
      generalize l[k] = x at hlk hl2 E hcall
      obtain ⟨⟨id, at_, slots, full, mail, state, due, links, watched, trap, ⟨wk, wn⟩, turns⟩, ⟨sA, sC, mA, mC, lA, lC, wA, wC⟩⟩ := x
      simp only [RunAt, runArr] at E hcall hlk hl2
      cases hq : p ⟨id, at_, slots, full, mail, state, due, links, watched, trap, ⟨wk, wn⟩, turns⟩ with
      | true =>
        rw [hq] at hcall
        go_wp2_with (go_at_fn g; refine hcall.mono ?_; rintro e w' ⟨rfl, hb'⟩)
        go_ret
        exact ⟨ret_int (hlk.out hq).symm, hb'⟩
      | false =>
        rw [hq] at hcall
        go_wp2_with (go_at_fn g; refine hcall.mono ?_; rintro e w' ⟨rfl, hb'⟩)
        go_roundg (l.length - (k + 1))
        case measure => omega
        case rel => exact ⟨k + 1, by omega, by omega, by go_num, hb', hl2.out hq⟩
    · have : k = l.length := by omega
      subst this
      go_wp2
      go_ret
      exact ⟨ret_int (idxP_miss (fun j hj => hn.out j hj hj)).symm, BW.out⟩
theorem iContainsR (p : Rn → Bool) (g : Nat) (lb : Array Value) (eg : ∀ args w, (callFunc g args).run Tryz.prog w = .ok (.enter g args) w) (l : List (Rn × RA)) (ga c : Nat) (w : World) (hl : l.length ≤ 140737488355328)
    (h : ∀ k (hk : k < l.length), ga < w.heap.size ∧ RunAt w ga (k * 13) l[k].1 l[k].2) (hp : PredR g lb p w) :
    Calls Tryz.prog 62 #[.slice (some ⟨ga, 0, none⟩) l.length c, .func (.func g) #[] lb] w fun e w' => e = .returned (.bool ((l.map (·.1)).any p)) ∧ Below w.heap.size w w' := by
  have e0 : (l.map (·.1)).any p = l.any (fun x : Rn × RA => p x.1) := by rw [List.any_map]; rfl
  rw [e0, ← idxP_any]
  have HI := Lib.hid (iIndexFuncR p g lb eg l ga c w hl h hp)
  clear h hp eg e0
  generalize idxP (fun x : Rn × RA => p x.1) l = ix at HI ⊢
  go_enter Tryz.func62, Tryz.ntmps62
  go_wp2_with (go_at_call 106; refine HI.out.mono ?_; rintro e w' ⟨rfl, hb⟩)
  go_ret
  exact ⟨rfl, hb⟩
set_option maxHeartbeats 1000000 in
theorem iDue (r : Rn) (a : RA) (w : World) : Calls Tryz.prog 61 #[.agg (runArr r a)] w fun e w' => e = .returned (.bool (dueR r)) ∧ Below w.heap.size w w' := by
  have M := Mem.nil w
  obtain ⟨id, at_, slots, full, mail, state, due, links, watched, trap, ⟨wk, wn⟩, turns⟩ := r
  obtain ⟨sA, sC, mA, mC, lA, lC, wA, wC⟩ := a
  simp only [runArr, dueR]
  by_cases hs : state = 2
  · subst hs
    go_enter Tryz.func61, Tryz.ntmps61
    go_upto_region 1 with (first | (with_reducible refine alAw M ?_; clear M; (try clear F); intro w1 M F))
    go_wp2
    go_ret
    exact ⟨by simp, M.toBelow⟩
  · have hs2 : (state == 2) = false := by simpa using hs
    go_enter Tryz.func61, Tryz.ntmps61
    go_upto_region 1 with (first | (with_reducible refine alAw M ?_; clear M; (try clear F); intro w1 M F))
    go_wp2
    go_ret
    exact ⟨by simp [hs2], M.toBelow⟩
set_option maxHeartbeats 2000000 in
theorem iWorldIdle (W : Wm) {w0 w : World} {f : List Nat} {L L' : List Asn} (M : Mem w0 f w L) (hd : Del (wld W) L L') :
    Calls Tryz.prog 18 #[.agg (wArr W)] w fun e w' => e = .returned (.bool (worldIdle W.wd)) ∧ Mem w0 f w' (wld W :: L') := by
  have HO := Lib.hid (fun V (L L' : List Asn) (M : Mem w0 f V L) (hd : Del (wld W) L L') => iWorldOk W M hd)
  replace M := M.pull hd
  clear hd
  have WI : worldIdle W.wd = (worldOk W.wd && ((W.queue.length : Int) == 0) && !((W.ps.map (·.1)).any dueR)) := rfl
  rw [WI]
  clear WI
  cases h : worldOk W.wd with
  | false =>
    rw [h] at HO
    simp only [Bool.false_and]
    clear h
    go_enter Tryz.func18, Tryz.ntmps18
    go_upto_region 2 with (first | (with_reducible refine alAw M ?_; clear M; (try clear F); intro w1 M F))
    go_wp2_with ((go_at_call 15; (refine nmKw ?_; clear M; (try clear F); intro w1 M F); refine (HO.out _ _ _ M dl).mono ?_; clear M; rintro e w2 ⟨rfl, M⟩; (try clear F); have F := fxw M))
    go_ret
    exact ⟨rfl, (Mem.perm M (.swap _ _ _)).drop⟩
  | true =>
    rw [h] at HO
    simp only [Bool.true_and]
    have hl := (wok_ps h).1
    have eg := enters_of Tryz.func61 (by kernel_rfl) rfl
    obtain ⟨gr, hgr⟩ := row_form M.unpackW (.there .here) (by omega)
    have HC := Lib.hid (fun V (L L' : List Asn) (M : Mem w0 f V L) (hd : Del (wld W) L L') => iContainsR dueR _ #[] eg W.ps gr W.rC V (by omega) (fun k hk => by
      obtain ⟨g, e1, e2, e3⟩ := (Mem.rw_ (M.pull hd).unpackW).runs k hk
      obtain rfl : gr = g := by rw [hgr] at e1; injection e1 with e1; injection e1
      exact ⟨e2, e3⟩) (fun U r a hU => (iDue r a U).mono fun e w' ⟨h1, h2⟩ => ⟨h1, hU.trans (h2.mono hU.size)⟩))
    clear h eg
    generalize (W.ps.map (·.1)).any dueR = an at HC ⊢
    obtain ⟨code, cA, cC, ps, rA, rC, queue, qA, qC, now, sent, taken, lost⟩ := W
    simp only at *
    subst hgr
    cases queue with
    | cons y ys =>
      have e : (((y :: ys).length : Int) == 0) = false := by simp; omega
      rw [e]
      clear HC
      go_enter Tryz.func18, Tryz.ntmps18
      go_upto_region 2 with (first | (with_reducible refine alAw M ?_; clear M; (try clear F); intro w1 M F))
      go_wp2_with ((go_at_call 15; (refine nmKw ?_; clear M; (try clear F); intro w1 M F); refine (HO.out _ _ _ M dl).mono ?_; clear M; rintro e w2 ⟨rfl, M⟩; (try clear F); have F := fxw M))
      go_ret
      exact ⟨rfl, (Mem.perm M (.swap _ _ _)).drop⟩
    | nil =>
      have e : ((([] : List Int).length : Int) == 0) = true := rfl
      rw [e, Bool.true_and]
      clear e
      go_enter Tryz.func18, Tryz.ntmps18
      go_upto_region 2 with (first | (with_reducible refine alAw M ?_; clear M; (try clear F); intro w1 M F))
      go_wp2_with (first | (go_at_call 15; (refine nmKw ?_; clear M; (try clear F); intro w1 M F); refine (HO.out _ _ _ M dl).mono ?_; clear M; rintro e w2 ⟨rfl, M⟩; (try clear F); have F := fxw M) | (go_at_call 62; (refine nmKw ?_; clear M; (try clear F); intro w1 M F); refine (HC.out _ _ _ M dl).mono ?_; rintro e w2 ⟨rfl, hb⟩; replace M := M.below hb; clear hb; (try clear F); have F := fxw M))
      go_ret
      exact ⟨rfl, (Mem.perm M (.swap _ _ _)).drop⟩
theorem alive_psI (ps : List (Rn × RA)) {k : Nat} (hk : k < ps.length) (hid : ps[k].1.id = (k : Int) + 1) : aliveFrom 1 ((ps.take (k + 1)).map (·.1)) = aliveFrom 1 ((ps.take k).map (·.1)) ++ (if ps[k].1.state == 3 then [] else [ps[k].1.id]) := by
  rw [alive_ps ps hk, hid, show (1 : Int) + k = k + 1 by omega]
set_option maxHeartbeats 2000000 in
theorem iWorldAlive (W : Wm) {w0 w : World} {f : List Nat} {L L' : List Asn} (M : Mem w0 f w L) (hd : Del (wld W) L L') :
    Calls Tryz.prog 22 #[.agg (wArr W)] w (AlivePost W w0 f L') := by
  have HO := Lib.hid (fun V (L L' : List Asn) (M : Mem w0 f V L) (hd : Del (wld W) L L') => iWorldOk W M hd)
  replace M := M.pull hd
  have HF : Hid (∀ V A n c, n = (worldAlive W.wd).length → Mem w0 f V (rowI A c (worldAlive W.wd) :: wld W :: L') → AlivePost W w0 f L' (.returned (.slice A n c)) V) := fun V A n c hn M => ⟨A, c, by rw [hn], M⟩
  unfold worldAlive at HF
  clear hd
  cases h : worldOk W.wd with
  | false =>
    rw [h] at HO HF
    simp only [Bool.false_eq_true, if_false] at HF
    clear h
    go_enter Tryz.func22, Tryz.ntmps22
    go_wp2_with (first | (with_reducible refine alAw M ?_; clear M; (try clear F); intro w1 M F) | (go_at_call 15; (refine nmKw ?_; clear M; (try clear F); intro w1 M F); refine (HO.out _ _ _ M dl).mono ?_; clear M; rintro e w2 ⟨rfl, M⟩; (try clear F); have F := fxw M))
    go_ret
    exact HF.out _ _ _ _ rfl (Mem.nilRow (Mem.perm M (.swap _ _ _)).drop)
  | true =>
    rw [h] at HO HF
    simp only [if_true] at HF
    obtain ⟨hl, hfit⟩ := wok_ps h
    have HID := Lib.hid (fun k (hk : k < W.ps.length) => (hfit k hk).id)
    have HP := Lib.hid (fun V A c xs (M : Mem w0 f V (rowI A c xs :: rowO W.cA W.cC W.code :: rowR W.rA W.rC W.ps :: rowI W.qA W.qC W.queue :: rws W.ps :: L')) => (M.perm ((List.Perm.swap _ _ _).trans (.cons _ ((List.Perm.swap _ _ _).trans (.cons _ ((List.Perm.swap _ _ _).trans (.cons _ (List.Perm.swap _ _ _)))))))).packW.perm (.swap _ _ _))
    have UP := Lib.hid (fun V (L : List Asn) (M : Mem w0 f V (wld W :: L)) => M.unpackW)
    have e0 : W.wd.runs = W.ps.map (·.1) := rfl
    rw [e0] at HF
    clear h hfit e0
    obtain ⟨code, cA, cC, ps, rA, rC, queue, qA, qC, now, sent, taken, lost⟩ := W
    simp only at *
    go_enter Tryz.func22, Tryz.ntmps22
    go_wp2_with (first | (with_reducible refine alAw M ?_; clear M; (try clear F); intro w1 M F) | (go_at_call 15; (refine nmKw ?_; clear M; (try clear F); intro w1 M F); refine (HO.out _ _ _ M dl).mono ?_; clear M; rintro e w2 ⟨rfl, M⟩; (try clear F); have F := fxw M))
    replace M := UP.out _ _ M
    obtain ⟨gr, rfl⟩ := row_form M (.there .here) (by omega)
    have M2 : Mem w0 f w2 (row encI 1 tI none 0 [] :: rowO cA cC code :: rowR (some ⟨gr, 0, none⟩) rC ps :: rowI qA qC queue :: rws ps :: blk w.heap.size tW [.slice cA code.length cC, .slice (some ⟨gr, 0, none⟩) ps.length rC, .slice qA queue.length qC, .int .i64 now, .int .i64 sent, .int .i64 taken, .int .i64 lost] :: L') := Mem.nilRow M
    clear M F
    go_loopg [3, 12] ps.length (fun gg v i wr => ∃ (k : Nat) (A : Option Addr) (c : Nat), k ≤ ps.length ∧ ps.length - k ≤ gg ∧ v = .slice A (aliveFrom 1 ((ps.take k).map (·.1))).length c ∧ i = .int .i64 k ∧ Hid (Mem w0 f wr (row encI 1 tI A c (aliveFrom 1 ((ps.take k).map (·.1))) :: rowO cA cC code :: rowR (some ⟨gr, 0, none⟩) rC ps :: rowI qA qC queue :: rws ps :: blk w.heap.size tW [.slice cA code.length cC, .slice (some ⟨gr, 0, none⟩) ps.length rC, .slice qA queue.length qC, .int .i64 now, .int .i64 sent, .int .i64 taken, .int .i64 lost] :: L')))
    case atStart => exact ⟨0, none, 0, by omega, by omega, rfl, rfl, M2⟩
    case round =>
      clear M2
      obtain ⟨k, A, c, hk, hg, rfl, rfl, M⟩ := hrel
      replace M := M.out
      (try clear F); have F := fxw M
      by_cases hlt : k < ps.length
      · have E := elemR M (.there (.there .here)) hlt
        have e1 := alive_psI ps hlt (HID.out k hlt)
        have al : (aliveFrom 1 ((ps.take k).map (·.1))).length ≤ k := by
          have h5 := alive_le ((ps.take k).map (·.1)) 1
          rw [List.length_map, List.length_take] at h5
          omega
        generalize ps[k] = p at E e1
        obtain ⟨⟨id, at_, slots, full, mail, state, due, links, watched, trap, ⟨wk, wn⟩, turns⟩, ⟨sA, sC, mA, mC, lA, lC, wA, wC⟩⟩ := p
        simp only [RunAt] at E e1
        generalize aliveFrom 1 ((ps.take k).map (·.1)) = l at M e1 al
        have i1 : (0 : Int) ≤ k := by omega
        have i2 : (k : Int) < ps.length := by omega
        by_cases hs : state = 3
        · subst hs
          have e2 : aliveFrom 1 ((ps.take (k + 1)).map (·.1)) = l := by rw [e1]; simp
          have e2 := Lib.hid e2
          clear e1
          go_wp2_with (first | (with_reducible refine alAw M ?_; clear M; (try clear F); intro w1 M F) | ((with_reducible apply ev_store (M := M)); rfl; rfl; ((conv => lhs; whnf) <;> rfl); rfl; (first | exact siI | exact siR | exact siV | exact siB | exact siSI | exact siSV | exact siW | exact siSR | exact siSO | exact siO); (exact one_all rfl); (exact dl); (exact Nat.le_of_ble_eq_true rfl); clear M; intro w1 M; simp only [SX] at M; (try clear F); have F := fxw M))
          go_roundg (ps.length - (k + 1))
          case measure => omega
          case rel => exact ⟨k + 1, A, c, by omega, by omega, by rw [e2.out], by go_num, by rw [e2.out]; exact M.drop⟩
        · have hs2 : (state != 3) = true := by simp [bne, hs]
          have e2 : aliveFrom 1 ((ps.take (k + 1)).map (·.1)) = l ++ [id] := by
            rw [e1, if_neg (by simpa using hs)]
          have e2 := Lib.hid e2
          clear e1 hs
          go_upto_region 8 with (first | (with_reducible refine alAw M ?_; clear M; (try clear F); intro w1 M F) | ((with_reducible apply ev_store (M := M)); rfl; rfl; ((conv => lhs; whnf) <;> rfl); rfl; (first | exact siI | exact siR | exact siV | exact siB | exact siSI | exact siSV | exact siW | exact siSR | exact siSO | exact siO); (exact one_all rfl); (exact dl); (exact Nat.le_of_ble_eq_true rfl); clear M; intro w1 M; simp only [SX] at M; (try clear F); have F := fxw M))
          go_wp2_with (first | ((with_reducible refine alAw M ?_; clear M; (try clear F); intro w1 M F); ((with_reducible apply ev_app1 (enc := encI) (v := id) (hk := encI_length) (hone := oneIx) (h0 := by decide) (hinfo := infIx) (ht := Tryz.underlying24) (M := M)); rfl; rfl; (exact dl); (exact dl); rfl; rfl; (first | exact Nat.le_of_ble_eq_true rfl | omega); (exact Nat.le_of_ble_eq_true rfl); clear M; intro A1 c1 w1 M; replace M := Mem.perm M (.swap _ _ _) |> Mem.drop; (try clear F); have F := fxw M)))
          go_roundg (ps.length - (k + 1))
          case measure => omega
          case rel => exact ⟨k + 1, A1, c1, by omega, by omega, by rw [e2.out, List.length_append]; rfl, by go_num, by rw [e2.out]; exact (Mem.perm M (.swap _ _ _)).drop⟩
      · have : k = ps.length := by omega
        subst this
        rw [List.take_length] at M ⊢
        have M := Lib.hid M
        go_wp2
        go_ret
        have M3 : Mem w0 f wr (rowI A c (aliveFrom 1 (ps.map (·.1))) :: rowO cA cC code :: rowR (some ⟨gr, 0, none⟩) rC ps :: rowI qA qC queue :: rws ps :: blk w.heap.size tW _ :: L') := M.out
        have M4 : Mem w0 f wr (rowI A c (aliveFrom 1 (ps.map (·.1))) :: rowO cA cC code :: rowR (some ⟨gr, 0, none⟩) rC ps :: rowI qA qC queue :: rws ps :: L') := M3.sel sl
        exact HF.out _ _ _ _ rfl (HP.out _ _ _ _ M4)
end Go.Proofs.YtomolbhcggaakaaGreat
/- The program's copies of lists. -/
namespace Go.Proofs.YtomolbhcggaakaaGreat
open Go.RowKit
set_option maxRecDepth 100000

theorem reads_nil {α : Type} {enc : α → List Value} {m : Nat} {w : World} {B n : Nat} {l : List α} (h : ReadsL enc m w B none n l) : l = [] := by
  have hn := h.1
  by_cases hp : 0 < n
  · obtain ⟨_, e, _⟩ := h.2.2.2 hp
    cases e
  · exact List.length_eq_zero_iff.1 (by omega)
set_option maxHeartbeats 1000000 in
theorem mCloneO (l : List Opx) (A : Option Addr) (c B : Nat) (w : World) (h : ReadsL encO 6 w B A l.length l) (hB : B ≤ w.heap.size) (hz : A = none → c = 0) (hs : l.length ≤ 1048576) :
    Calls Tryz.prog 111 #[.slice A l.length c] w fun e w' => ∃ (A' : Option Addr) (c' : Nat), e = .returned (.slice A' l.length c') ∧ Mem w [] w' [row encO 6 tO A' c' l] := by
  have H := Lib.hid (fun V (hb : Below w.heap.size w V) => h.below' hb hB)
  have M := Mem.nil w
  cases A with
  | none =>
    obtain rfl := reads_nil h
    obtain rfl := hz rfl
    have N : Mem w [] w [row encO 6 tO none 0 ([] : List Opx)] := M.nilRow
    clear h H M hz
    simp only [List.length_nil]
    have hq : ∀ W, (binOp .eql 29 (.slice none 0 0) (.slice none 0 0)).run Tryz.prog W = .ok (.bool true) W := fun W => Lib.run_eql_slice_nil_nil W _ _ Tryz.underlying29
    go_enter Tryz.func111, Tryz.ntmps111
    go_wp2
    go_ret
    exact ⟨_, _, rfl, N⟩
  | some ad =>
    clear h hz
    have hq : ∀ W, (binOp .eql 29 (.slice (some ad) l.length c) (.slice none 0 0)).run Tryz.prog W = .ok (.bool false) W := fun W => Lib.run_eql_slice_some_nil W _ _ _ Tryz.underlying29
    have Z : Hid ((some ad : Option Addr) = none → c = 0) := fun e => by cases e
    go_enter Tryz.func111, Tryz.ntmps111
    go_wp2_with (first
      | (with_reducible refine alA M ?_; clear M; (try clear F); intro w1 M F)
      | ((with_reducible apply ev_copy0 (enc := encO) (ys := l) (hk := encO_length) (hone := oneO) (h0 := by decide) (hinfo := infOx) (ht := Tryz.underlying29) (M := M)); rfl; rfl; (exact dl); exact (H.out _ M.toBelow); exact Z.out; omega; (exact Nat.le_of_ble_eq_true rfl); clear M; intro A1 c1 w1 M; (try clear F); have F := fx M))
    go_ret
    exact ⟨_, _, rfl, M.sel sl⟩
set_option maxHeartbeats 1000000 in
theorem mCloneI (l : List Int) (A : Option Addr) (c B : Nat) (w : World) (h : ReadsL encI 1 w B A l.length l) (hB : B ≤ w.heap.size) (hz : A = none → c = 0) (hs : l.length ≤ 1048576) :
    Calls Tryz.prog 79 #[.slice A l.length c] w fun e w' => ∃ (A' : Option Addr) (c' : Nat), e = .returned (.slice A' l.length c') ∧ Mem w [] w' [row encI 1 tI A' c' l] := by
  have H := Lib.hid (fun V (hb : Below w.heap.size w V) => h.below' hb hB)
  have M := Mem.nil w
  cases A with
  | none =>
    obtain rfl := reads_nil h
    obtain rfl := hz rfl
    have N : Mem w [] w [row encI 1 tI none 0 ([] : List Int)] := M.nilRow
    clear h H M hz
    simp only [List.length_nil]
    have hq : ∀ W, (binOp .eql 24 (.slice none 0 0) (.slice none 0 0)).run Tryz.prog W = .ok (.bool true) W := fun W => Lib.run_eql_slice_nil_nil W _ _ Tryz.underlying24
    go_enter Tryz.func79, Tryz.ntmps79
    go_wp2
    go_ret
    exact ⟨_, _, rfl, N⟩
  | some ad =>
    clear h hz
    have hq : ∀ W, (binOp .eql 24 (.slice (some ad) l.length c) (.slice none 0 0)).run Tryz.prog W = .ok (.bool false) W := fun W => Lib.run_eql_slice_some_nil W _ _ _ Tryz.underlying24
    have Z : Hid ((some ad : Option Addr) = none → c = 0) := fun e => by cases e
    go_enter Tryz.func79, Tryz.ntmps79
    go_wp2_with (first
      | (with_reducible refine alA M ?_; clear M; (try clear F); intro w1 M F)
      | ((with_reducible apply ev_copy0 (enc := encI) (ys := l) (hk := encI_length) (hone := oneIx) (h0 := by decide) (hinfo := infIx) (ht := Tryz.underlying24) (M := M)); rfl; rfl; (exact dl); exact (H.out _ M.toBelow); exact Z.out; omega; (exact Nat.le_of_ble_eq_true rfl); clear M; intro A1 c1 w1 M; (try clear F); have F := fx M))
    go_ret
    exact ⟨_, _, rfl, M.sel sl⟩
set_option maxHeartbeats 1000000 in
theorem mCloneV (l : List Vl) (A : Option Addr) (c B : Nat) (w : World) (h : ReadsL encV 2 w B A l.length l) (hB : B ≤ w.heap.size) (hz : A = none → c = 0) (hs : l.length ≤ 1048576) :
    Calls Tryz.prog 145 #[.slice A l.length c] w fun e w' => ∃ (A' : Option Addr) (c' : Nat), e = .returned (.slice A' l.length c') ∧ Mem w [] w' [row encV 2 tV A' c' l] := by
  have H := Lib.hid (fun V (hb : Below w.heap.size w V) => h.below' hb hB)
  have M := Mem.nil w
  cases A with
  | none =>
    obtain rfl := reads_nil h
    obtain rfl := hz rfl
    have N : Mem w [] w [row encV 2 tV none 0 ([] : List Vl)] := M.nilRow
    clear h H M hz
    simp only [List.length_nil]
    have hq : ∀ W, (binOp .eql 54 (.slice none 0 0) (.slice none 0 0)).run Tryz.prog W = .ok (.bool true) W := fun W => Lib.run_eql_slice_nil_nil W _ _ Tryz.underlying54
    go_enter Tryz.func145, Tryz.ntmps145
    go_wp2
    go_ret
    exact ⟨_, _, rfl, N⟩
  | some ad =>
    clear h hz
    have hq : ∀ W, (binOp .eql 54 (.slice (some ad) l.length c) (.slice none 0 0)).run Tryz.prog W = .ok (.bool false) W := fun W => Lib.run_eql_slice_some_nil W _ _ _ Tryz.underlying54
    have Z : Hid ((some ad : Option Addr) = none → c = 0) := fun e => by cases e
    go_enter Tryz.func145, Tryz.ntmps145
    go_wp2_with (first
      | (with_reducible refine alA M ?_; clear M; (try clear F); intro w1 M F)
      | ((with_reducible apply ev_copy0 (enc := encV) (ys := l) (hk := encV_length) (hone := oneV) (h0 := by decide) (hinfo := infVx) (ht := Tryz.underlying54) (M := M)); rfl; rfl; (exact dl); exact (H.out _ M.toBelow); exact Z.out; omega; (exact Nat.le_of_ble_eq_true rfl); clear M; intro A1 c1 w1 M; (try clear F); have F := fx M))
    go_ret
    exact ⟨_, _, rfl, M.sel sl⟩
end Go.Proofs.YtomolbhcggaakaaGreat
