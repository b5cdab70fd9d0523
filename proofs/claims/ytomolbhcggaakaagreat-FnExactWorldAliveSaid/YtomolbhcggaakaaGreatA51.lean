/- Parts of the proof, in one text. -/
import Derived.Test.YtomolbhcggaakaaGreatA50
/- Who is alive in a world, by the reference. -/
namespace Go.Proofs.YtomolbhcggaakaaGreat
open Go.RowKit
set_option maxRecDepth 100000

theorem oneIx (x : Int) : ∀ u ∈ encI x, u.oneCell' = true := by
  intro u hu
  obtain rfl : u = .int .i64 x := by simpa [encI] using hu
  rfl
theorem infIx : (Tryz.prog.info? 3).map (fun i => (i.zero.map (·.cells.size), i.size, i.bytes)) = some (some 1, 1, 8) := by kernel_rfl
def AlivePost (W : Wm) (w0 : World) (f : List Nat) (L : List Asn) (e : Ending) (w' : World) : Prop := ∃ (A : Option Addr) (c : Nat), e = .returned (.slice A (worldAlive W.wd).length c) ∧ Mem w0 f w' (rowI A c (worldAlive W.wd) :: wld W :: L)
set_option maxHeartbeats 2000000 in
theorem sWorldAlive (W : Wm) {w0 w : World} {f : List Nat} {L L' : List Asn} (M : Mem w0 f w L) (hd : Del (wld W) L L') :
    Calls Tryz.prog 21 #[.agg (wArr W)] w (AlivePost W w0 f L') := by
  have HO := Lib.hid (fun V (L L' : List Asn) (M : Mem w0 f V L) (hd : Del (wld W) L L') => sWorldOk W M hd)
  replace M := M.pull hd
  have HF : Hid (∀ V A n c, n = (worldAlive W.wd).length → Mem w0 f V (rowI A c (worldAlive W.wd) :: wld W :: L') → AlivePost W w0 f L' (.returned (.slice A n c)) V) := fun V A n c hn M => ⟨A, c, by rw [hn], M⟩
  unfold worldAlive at HF
  clear hd
  cases h : worldOk W.wd with
  | false =>
    rw [h] at HO HF
    simp only [Bool.false_eq_true, if_false] at HF
    clear h
    go_enter Tryz.func21, Tryz.ntmps21
    go_wp2_with (first | ((with_reducible refine goal_alloc (G := fun W => wpList _ _ _ _ _ W) M ?_); clear M; intro w1 M; (try clear F); have F := M.facts; simp only [And.intro FX FXw] at F) | (go_at_call 13; (apply goal_name (G := fun W => Calls _ _ _ W _)); (repeat (first | with_reducible exact M | with_reducible apply Mem.drew | with_reducible apply Mem.drewN | with_reducible apply Mem.allocD | with_reducible apply Mem.setV | with_reducible apply Mem.setD | with_reducible exact Del.here | with_reducible apply Del.there | with_reducible assumption)); clear M; intro w1 M; (try simp only [LX] at M); (try clear F); have F := M.facts; simp only [And.intro FX FXw] at F; refine (HO.out _ _ _ M (by repeat (first | with_reducible exact Del.here | with_reducible apply Del.there))).mono ?_; clear M; rintro e w2 ⟨rfl, M⟩; (try clear F); have F := M.facts; simp only [And.intro FX FXw] at F))
    go_ret
    have M2 : Mem w0 f w2 (rowI _ 0 [] :: wld W :: L') := Mem.row_of encI_length (xs := []) (M.sel (T := blk _ tI [] :: wld W :: L') (by repeat (first | with_reducible exact Sel.refl | with_reducible exact Sel.nil | (with_reducible refine Sel.cons (by repeat (first | with_reducible exact Del.here | with_reducible apply Del.there)) ?_) | with_reducible apply Sel.drop))) rfl (by simp)
    exact HF.out _ _ _ _ rfl M2
  | true =>
    rw [h] at HO HF
    simp only [if_true] at HF
    obtain ⟨hl, hfit⟩ := wok_ps h
    have HP := Lib.hid (fun V A c xs (M : Mem w0 f V (rowI A c xs :: rowO W.cA W.cC W.code :: rowR W.rA W.rC W.ps :: rowI W.qA W.qC W.queue :: rws W.ps :: L')) => (M.perm ((List.Perm.swap _ _ _).trans (.cons _ ((List.Perm.swap _ _ _).trans (.cons _ ((List.Perm.swap _ _ _).trans (.cons _ (List.Perm.swap _ _ _)))))))).packW.perm (.swap _ _ _))
    have UP := Lib.hid (fun V (L : List Asn) (M : Mem w0 f V (wld W :: L)) => M.unpackW)
    have e0 : W.wd.runs = W.ps.map (·.1) := rfl
    rw [e0] at HF
    clear h hfit e0
    obtain ⟨code, cA, cC, ps, rA, rC, queue, qA, qC, now, sent, taken, lost⟩ := W
    simp only at *
    go_enter Tryz.func21, Tryz.ntmps21
    go_wp2_with (first | ((with_reducible refine goal_alloc (G := fun W => wpList _ _ _ _ _ W) M ?_); clear M; intro w1 M; (try clear F); have F := M.facts; simp only [And.intro FX FXw] at F) | (go_at_call 13; (apply goal_name (G := fun W => Calls _ _ _ W _)); (repeat (first | with_reducible exact M | with_reducible apply Mem.drew | with_reducible apply Mem.drewN | with_reducible apply Mem.allocD | with_reducible apply Mem.setV | with_reducible apply Mem.setD | with_reducible exact Del.here | with_reducible apply Del.there | with_reducible assumption)); clear M; intro w1 M; skip; (try clear F); have F := M.facts; simp only [And.intro FX FXw] at F; refine (HO.out _ _ _ M (by repeat (first | with_reducible exact Del.here | with_reducible apply Del.there))).mono ?_; clear M; rintro e w2 ⟨rfl, M⟩; (try clear F); have F := M.facts; simp only [And.intro FX FXw] at F))
    replace M := UP.out _ _ M
    obtain ⟨gr, rfl⟩ := row_form M (.there .here) (by omega)
    have M2 : Mem w0 f w2 (rowI _ 0 [] :: rowO cA cC code :: rowR (some ⟨gr, 0, none⟩) rC ps :: rowI qA qC queue :: rws ps :: blk w.heap.size tW [.slice cA code.length cC, .slice (some ⟨gr, 0, none⟩) ps.length rC, .slice qA queue.length qC, .int .i64 now, .int .i64 sent, .int .i64 taken, .int .i64 lost] :: L') := Mem.row_of encI_length (xs := []) (M.sel (T := blk _ tI [] :: rowO cA cC code :: rowR (some ⟨gr, 0, none⟩) rC ps :: rowI qA qC queue :: rws ps :: blk w.heap.size tW [.slice cA code.length cC, .slice (some ⟨gr, 0, none⟩) ps.length rC, .slice qA queue.length qC, .int .i64 now, .int .i64 sent, .int .i64 taken, .int .i64 lost] :: L') (by repeat (first | with_reducible exact Sel.refl | with_reducible exact Sel.nil | (with_reducible refine Sel.cons (by repeat (first | with_reducible exact Del.here | with_reducible apply Del.there)) ?_) | with_reducible apply Sel.drop))) rfl (by simp)
    clear M F
    go_loopg [3, 4] ps.length (fun gg v i wr => ∃ (k : Nat) (A : Option Addr) (c : Nat), k ≤ ps.length ∧ ps.length - k ≤ gg ∧ v = .slice A (aliveFrom 1 ((ps.take k).map (·.1))).length c ∧ i = .int .i64 k ∧ Hid (Mem w0 f wr (row encI 1 tI A c (aliveFrom 1 ((ps.take k).map (·.1))) :: rowO cA cC code :: rowR (some ⟨gr, 0, none⟩) rC ps :: rowI qA qC queue :: rws ps :: blk w.heap.size tW [.slice cA code.length cC, .slice (some ⟨gr, 0, none⟩) ps.length rC, .slice qA queue.length qC, .int .i64 now, .int .i64 sent, .int .i64 taken, .int .i64 lost] :: L')))
    case atStart => exact ⟨0, _, _, by omega, by omega, rfl, rfl, M2⟩
    case round =>
      clear M2
      obtain ⟨k, A, c, hk, hg, rfl, rfl, M⟩ := hrel
      replace M := M.out
      (try clear F); have F := M.facts; simp only [And.intro FX FXw] at F
      by_cases hlt : k < ps.length
      · have E := (elemR M (.there (.there .here)) hlt).2.2.2.2.2.1
        have e1 := alive_ps ps hlt
        have al : (aliveFrom 1 ((ps.take k).map (·.1))).length ≤ k := by
          have h5 := alive_le ((ps.take k).map (·.1)) 1
          rw [List.length_map, List.length_take] at h5
          omega
        generalize ps[k] = p at E e1
        obtain ⟨⟨_, _, _, _, _, state, _, _, _, _, _, _⟩, _⟩ := p
        simp only at E e1
        generalize aliveFrom 1 ((ps.take k).map (·.1)) = l at M e1 al
        have i1 : (0 : Int) ≤ k := by omega
        have i2 : (k : Int) < ps.length := by omega
        have wi : IntKind.i64.wrap ((k : Int) + 1) = (k : Int) + 1 := by rw [IntKind.wrap_i64]; omega
        by_cases hs : state = 3
        · subst hs
          have e2 : aliveFrom 1 ((ps.take (k + 1)).map (·.1)) = l := by rw [e1]; simp
          have e2 := Lib.hid e2
          clear e1
          go_wp2
          go_roundg (ps.length - (k + 1))
          case measure => omega
          case rel => exact ⟨k + 1, A, c, by omega, by omega, by rw [e2.out], by go_num, by rw [e2.out]; exact M⟩
        · have hs2 : (state != 3) = true := by simp [bne, hs]
          have e2 : aliveFrom 1 ((ps.take (k + 1)).map (·.1)) = l ++ [(k : Int) + 1] := by
            rw [e1, if_neg (by simpa using hs), show (1 : Int) + k = k + 1 by omega]
          have e2 := Lib.hid e2
          clear e1 hs
          go_wp2_with (first | (((with_reducible refine goal_alloc (G := fun W => wpList _ _ _ _ _ W) M ?_); clear M; intro w1 M; (try clear F); have F := M.facts; simp only [And.intro FX FXw] at F); ((with_reducible apply ev_app1 (enc := encI) (v := (k : Int) + 1) (hk := encI_length) (hone := oneIx) (h0 := by decide) (hinfo := infIx) (ht := Tryz.underlying24) (M := M)); rfl; rfl; (repeat (first | with_reducible exact Del.here | with_reducible apply Del.there)); (repeat (first | with_reducible exact Del.here | with_reducible apply Del.there)); rfl; rfl; (first | exact Nat.le_of_ble_eq_true rfl | omega); (exact Nat.le_of_ble_eq_true rfl); clear M; intro A1 c1 w1 M; replace M := Mem.perm M (.swap _ _ _) |> Mem.drop; (try clear F); have F := M.facts; simp only [And.intro FX FXw] at F)))
          go_roundg (ps.length - (k + 1))
          case measure => omega
          case rel => exact ⟨k + 1, A1, c1, by omega, by omega, by rw [e2.out, List.length_append]; rfl, by go_num, by rw [e2.out]; exact M⟩
      · have : k = ps.length := by omega
        subst this
        rw [List.take_length] at M ⊢
        have M := Lib.hid M
        go_wp2
        go_ret
        have M3 : Mem w0 f wr (rowI A c (aliveFrom 1 (ps.map (·.1))) :: rowO cA cC code :: rowR (some ⟨gr, 0, none⟩) rC ps :: rowI qA qC queue :: rws ps :: blk w.heap.size tW _ :: L') := M.out
        have M4 : Mem w0 f wr (rowI A c (aliveFrom 1 (ps.map (·.1))) :: rowO cA cC code :: rowR (some ⟨gr, 0, none⟩) rC ps :: rowI qA qC queue :: rws ps :: L') := M3.sel (by repeat (first | with_reducible exact Sel.refl | with_reducible exact Sel.nil | (with_reducible refine Sel.cons (by repeat (first | with_reducible exact Del.here | with_reducible apply Del.there)) ?_) | with_reducible apply Sel.drop))
        exact HF.out _ _ _ _ rfl (HP.out _ _ _ _ M4)
end Go.Proofs.YtomolbhcggaakaaGreat
/- What the program says of worlds: how many values wait, whether all is idle, who is alive. -/
namespace Go.Proofs.YtomolbhcggaakaaGreat
open Go.RowKit
set_option maxRecDepth 100000

theorem alive_psI (ps : List (Rn × RA)) {k : Nat} (hk : k < ps.length) (hid : ps[k].1.id = (k : Int) + 1) : aliveFrom 1 ((ps.take (k + 1)).map (·.1)) = aliveFrom 1 ((ps.take k).map (·.1)) ++ (if ps[k].1.state == 3 then [] else [ps[k].1.id]) := by
  rw [alive_ps ps hk, hid, show (1 : Int) + k = k + 1 by omega]
set_option maxHeartbeats 2000000 in
theorem iWorldAlive (W : Wm) {w0 w : World} {f : List Nat} {L L' : List Asn} (M : Mem w0 f w L) (hd : Del (wld W) L L') :
    Calls Tryz.prog 22 #[.agg (wArr W)] w (AlivePost W w0 f L') := by
  have HO := Lib.hid (fun V (L L' : List Asn) (M : Mem w0 f V L) (hd : Del (wld W) L L') => iWorldOk W M hd)
  replace M := M.pull hd
  have HF : Hid (∀ V A n c, n = (worldAlive W.wd).length → Mem w0 f V (rowI A c (worldAlive W.wd) :: wld W :: L') → AlivePost W w0 f L' (.returned (.slice A n c)) V) := fun V A n c hn M => ⟨A, c, by rw [hn], M⟩
  unfold worldAlive at HF
  clear hd
  cases h : worldOk W.wd with
  | false =>
    rw [h] at HO HF
    simp only [Bool.false_eq_true, if_false] at HF
    clear h
    go_enter Tryz.func22, Tryz.ntmps22
    go_wp2_with (first | ((with_reducible refine goal_alloc (G := fun W => wpList _ _ _ _ _ W) M ?_); clear M; intro w1 M; (try clear F); have F := M.facts; simp only [And.intro FX FXw] at F) | (go_at_call 15; (apply goal_name (G := fun W => Calls _ _ _ W _)); (repeat (first | with_reducible exact M | with_reducible apply Mem.drew | with_reducible apply Mem.drewN | with_reducible apply Mem.allocD | with_reducible apply Mem.setV | with_reducible apply Mem.setD | with_reducible exact Del.here | with_reducible apply Del.there | with_reducible assumption)); clear M; intro w1 M; (try simp only [LX] at M); (try clear F); have F := M.facts; simp only [And.intro FX FXw] at F; refine (HO.out _ _ _ M (by repeat (first | with_reducible exact Del.here | with_reducible apply Del.there))).mono ?_; clear M; rintro e w2 ⟨rfl, M⟩; (try clear F); have F := M.facts; simp only [And.intro FX FXw] at F))
    go_ret
    exact HF.out _ _ _ _ rfl (Mem.nilRow (Mem.perm M (.swap _ _ _)).drop)
  | true =>
    rw [h] at HO HF
    simp only [if_true] at HF
    obtain ⟨hl, hfit⟩ := wok_ps h
    have HID := Lib.hid (fun k (hk : k < W.ps.length) => (hfit k hk).id)
    have HP := Lib.hid (fun V A c xs (M : Mem w0 f V (rowI A c xs :: rowO W.cA W.cC W.code :: rowR W.rA W.rC W.ps :: rowI W.qA W.qC W.queue :: rws W.ps :: L')) => (M.perm ((List.Perm.swap _ _ _).trans (.cons _ ((List.Perm.swap _ _ _).trans (.cons _ ((List.Perm.swap _ _ _).trans (.cons _ (List.Perm.swap _ _ _)))))))).packW.perm (.swap _ _ _))
    have UP := Lib.hid (fun V (L : List Asn) (M : Mem w0 f V (wld W :: L)) => M.unpackW)
    have e0 : W.wd.runs = W.ps.map (·.1) := rfl
    rw [e0] at HF
    clear h hfit e0
    obtain ⟨code, cA, cC, ps, rA, rC, queue, qA, qC, now, sent, taken, lost⟩ := W
    simp only at *
    go_enter Tryz.func22, Tryz.ntmps22
    go_wp2_with (first | ((with_reducible refine goal_alloc (G := fun W => wpList _ _ _ _ _ W) M ?_); clear M; intro w1 M; (try clear F); have F := M.facts; simp only [And.intro FX FXw] at F) | (go_at_call 15; (apply goal_name (G := fun W => Calls _ _ _ W _)); (repeat (first | with_reducible exact M | with_reducible apply Mem.drew | with_reducible apply Mem.drewN | with_reducible apply Mem.allocD | with_reducible apply Mem.setV | with_reducible apply Mem.setD | with_reducible exact Del.here | with_reducible apply Del.there | with_reducible assumption)); clear M; intro w1 M; skip; (try clear F); have F := M.facts; simp only [And.intro FX FXw] at F; refine (HO.out _ _ _ M (by repeat (first | with_reducible exact Del.here | with_reducible apply Del.there))).mono ?_; clear M; rintro e w2 ⟨rfl, M⟩; (try clear F); have F := M.facts; simp only [And.intro FX FXw] at F))
    replace M := UP.out _ _ M
    obtain ⟨gr, rfl⟩ := row_form M (.there .here) (by omega)
    have M2 : Mem w0 f w2 (row encI 1 tI none 0 [] :: rowO cA cC code :: rowR (some ⟨gr, 0, none⟩) rC ps :: rowI qA qC queue :: rws ps :: blk w.heap.size tW [.slice cA code.length cC, .slice (some ⟨gr, 0, none⟩) ps.length rC, .slice qA queue.length qC, .int .i64 now, .int .i64 sent, .int .i64 taken, .int .i64 lost] :: L') := Mem.nilRow M
    clear M F
    go_loopg [3, 12] ps.length (fun gg v i wr => ∃ (k : Nat) (A : Option Addr) (c : Nat), k ≤ ps.length ∧ ps.length - k ≤ gg ∧ v = .slice A (aliveFrom 1 ((ps.take k).map (·.1))).length c ∧ i = .int .i64 k ∧ Hid (Mem w0 f wr (row encI 1 tI A c (aliveFrom 1 ((ps.take k).map (·.1))) :: rowO cA cC code :: rowR (some ⟨gr, 0, none⟩) rC ps :: rowI qA qC queue :: rws ps :: blk w.heap.size tW [.slice cA code.length cC, .slice (some ⟨gr, 0, none⟩) ps.length rC, .slice qA queue.length qC, .int .i64 now, .int .i64 sent, .int .i64 taken, .int .i64 lost] :: L')))
    case atStart => exact ⟨0, none, 0, by omega, by omega, rfl, rfl, M2⟩
    case round =>
      clear M2
      obtain ⟨k, A, c, hk, hg, rfl, rfl, M⟩ := hrel
      replace M := M.out
      (try clear F); have F := M.facts; simp only [And.intro FX FXw] at F
      by_cases hlt : k < ps.length
      · have E := elemR M (.there (.there .here)) hlt
        have e1 := alive_psI ps hlt (HID.out k hlt)
        have al : (aliveFrom 1 ((ps.take k).map (·.1))).length ≤ k := by
          have h5 := alive_le ((ps.take k).map (·.1)) 1
          rw [List.length_map, List.length_take] at h5
          omega
        generalize ps[k] = p at E e1
        obtain ⟨⟨id, at_, slots, full, mail, state, due, links, watched, trap, ⟨wk, wn⟩, turns⟩, ⟨sA, sC, mA, mC, lA, lC, wA, wC⟩⟩ := p
        simp only [RunAt] at E e1
        generalize aliveFrom 1 ((ps.take k).map (·.1)) = l at M e1 al
        have i1 : (0 : Int) ≤ k := by omega
        have i2 : (k : Int) < ps.length := by omega
        by_cases hs : state = 3
        · subst hs
          have e2 : aliveFrom 1 ((ps.take (k + 1)).map (·.1)) = l := by rw [e1]; simp
          have e2 := Lib.hid e2
          clear e1
          go_wp2_with (first | ((with_reducible refine goal_alloc (G := fun W => wpList _ _ _ _ _ W) M ?_); clear M; intro w1 M; (try clear F); have F := M.facts; simp only [And.intro FX FXw] at F) | ((with_reducible apply ev_store (M := M)); rfl; rfl; ((conv => lhs; whnf) <;> rfl); rfl; (first | exact siI | exact siR | exact siV | exact siB | exact siSI | exact siSV | exact siW | exact siSR | exact siSO | exact siO); (exact one_all rfl); (repeat (first | with_reducible exact Del.here | with_reducible apply Del.there)); (exact Nat.le_of_ble_eq_true rfl); clear M; intro w1 M; simp only [SX] at M; (try clear F); have F := M.facts; simp only [And.intro FX FXw] at F))
          go_roundg (ps.length - (k + 1))
          case measure => omega
          case rel => exact ⟨k + 1, A, c, by omega, by omega, by rw [e2.out], by go_num, by rw [e2.out]; exact M.drop⟩
        · have hs2 : (state != 3) = true := by simp [bne, hs]
          have e2 : aliveFrom 1 ((ps.take (k + 1)).map (·.1)) = l ++ [id] := by
            rw [e1, if_neg (by simpa using hs)]
          have e2 := Lib.hid e2
          clear e1 hs
          go_upto_region 8 with (first | ((with_reducible refine goal_alloc (G := fun W => wpList _ _ _ _ _ W) M ?_); clear M; intro w1 M; (try clear F); have F := M.facts; simp only [And.intro FX FXw] at F) | ((with_reducible apply ev_store (M := M)); rfl; rfl; ((conv => lhs; whnf) <;> rfl); rfl; (first | exact siI | exact siR | exact siV | exact siB | exact siSI | exact siSV | exact siW | exact siSR | exact siSO | exact siO); (exact one_all rfl); (repeat (first | with_reducible exact Del.here | with_reducible apply Del.there)); (exact Nat.le_of_ble_eq_true rfl); clear M; intro w1 M; simp only [SX] at M; (try clear F); have F := M.facts; simp only [And.intro FX FXw] at F))
          go_wp2_with (first | (((with_reducible refine goal_alloc (G := fun W => wpList _ _ _ _ _ W) M ?_); clear M; intro w1 M; (try clear F); have F := M.facts; simp only [And.intro FX FXw] at F); ((with_reducible apply ev_app1 (enc := encI) (v := id) (hk := encI_length) (hone := oneIx) (h0 := by decide) (hinfo := infIx) (ht := Tryz.underlying24) (M := M)); rfl; rfl; (repeat (first | with_reducible exact Del.here | with_reducible apply Del.there)); (repeat (first | with_reducible exact Del.here | with_reducible apply Del.there)); rfl; rfl; (first | exact Nat.le_of_ble_eq_true rfl | omega); (exact Nat.le_of_ble_eq_true rfl); clear M; intro A1 c1 w1 M; replace M := Mem.perm M (.swap _ _ _) |> Mem.drop; (try clear F); have F := M.facts; simp only [And.intro FX FXw] at F)))
          go_roundg (ps.length - (k + 1))
          case measure => omega
          case rel => exact ⟨k + 1, A1, c1, by omega, by omega, by rw [e2.out, List.length_append]; rfl, by go_num, by rw [e2.out]; exact (Mem.perm M (.swap _ _ _)).drop⟩
      · have : k = ps.length := by omega
        subst this
        rw [List.take_length] at M ⊢
        have M := Lib.hid M
        go_wp2
        go_ret
        have M3 : Mem w0 f wr (rowI A c (aliveFrom 1 (ps.map (·.1))) :: rowO cA cC code :: rowR (some ⟨gr, 0, none⟩) rC ps :: rowI qA qC queue :: rws ps :: blk w.heap.size tW _ :: L') := M.out
        have M4 : Mem w0 f wr (rowI A c (aliveFrom 1 (ps.map (·.1))) :: rowO cA cC code :: rowR (some ⟨gr, 0, none⟩) rC ps :: rowI qA qC queue :: rws ps :: L') := M3.sel (by repeat (first | with_reducible exact Sel.refl | with_reducible exact Sel.nil | (with_reducible refine Sel.cons (by repeat (first | with_reducible exact Del.here | with_reducible apply Del.there)) ?_) | with_reducible apply Sel.drop))
        exact HF.out _ _ _ _ rfl (HP.out _ _ _ _ M4)
end Go.Proofs.YtomolbhcggaakaaGreat
