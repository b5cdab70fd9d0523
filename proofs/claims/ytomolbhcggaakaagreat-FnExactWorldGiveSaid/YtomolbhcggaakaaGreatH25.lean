/- Parts of the proof, in one text. -/
import Derived.Test.YtomolbhcggaakaaGreatH24
import Derived.Test.YtomolbhcggaakaaGreatH23
import Derived.Test.YtomolbhcggaakaaGreatH06
import Derived.Test.YtomolbhcggaakaaGreatH05
/- Marks and copies over what is held. -/
namespace Go.Proofs.YtomolbhcggaakaaGreat
open Go.RowKit
set_option maxRecDepth 100000

theorem Mem.grownRow {α : Type} {enc : α → List Value} {m : Nat} {t : TypeId} {A : Option Addr} {c : Nat} {xs ys : List α} {w0 w w' : World} {f : List Nat} {L L' : List Asn} (M : Mem w0 f w L) (hd : Del (row enc m t A c xs) L L')
    (h : OwnL enc m t w' 0 (.slice A ys.length c) ys) (hg : w.grownBy w' (Value.slice A xs.length c).ownBlock) : Mem w0 f w' (row enc m t A c ys :: L') := by
  refine (M.pull hd).step (A := row enc m t A c xs) (B := row enc m t A c ys) ⟨hg.os, hg.tape, hg.output, hg.size, fun k hk hn => hg.block k hk ?_, fun k hk => .inl hk, ?_⟩ h
  · intro e
    cases A with
    | none => cases e
    | some ad =>
      apply hn
      injection e with e
      simp [row, ob, e]
  · cases A <;> simp [row, ob]
theorem mMarkI (xs : List Int) (A : Option Addr) (c : Nat) (k0 : Int) {w0 w : World} {f : List Nat} {L L' : List Asn} (M : Mem w0 f w L) (hd : Del (rowI A c xs) L L') (h0 : 0 ≤ k0) (h1 : k0 ≤ 1152921504606846976) :
    Calls Tryz.prog 25 #[.slice A xs.length c, .int .i64 k0] w fun e w' => e = .returned (.int .i64 (k0 + xs.length)) ∧ Mem w0 f w' (rowI A c (marksI k0 xs.length) :: L') := by
  have h : OwnL encI 1 tI w 0 (.slice A xs.length c) xs := M.is hd
  refine (lMarkI xs A c 0 k0 w h h.1 h0 h1).mono ?_
  rintro e w' ⟨rfl, ho, hg⟩
  exact ⟨rfl, M.grownRow hd (by rw [marksI_length]; exact ho) hg⟩
theorem mMarkV (xs : List Vl) (A : Option Addr) (c : Nat) (k0 : Int) {w0 w : World} {f : List Nat} {L L' : List Asn} (M : Mem w0 f w L) (hd : Del (rowV A c xs) L L') (h0 : 0 ≤ k0) (h1 : k0 ≤ 1152921504606846976) :
    Calls Tryz.prog 107 #[.slice A xs.length c, .int .i64 k0] w fun e w' => e = .returned (.int .i64 (k0 + 2 * xs.length)) ∧ Mem w0 f w' (rowV A c (marksV k0 xs.length) :: L') := by
  have h : OwnL encV 2 tV w 0 (.slice A xs.length c) xs := M.is hd
  refine (lMarkV xs A c 0 k0 w h h.1 h0 h1).mono ?_
  rintro e w' ⟨rfl, ho, hg⟩
  exact ⟨rfl, M.grownRow hd (by rw [marksV_length]; exact ho) hg⟩
theorem mToRun (r : Rn) (a : RA) (B : Nat) (w : World) (hr : ReadsRun w B r a) (hB : B ≤ w.heap.size) (h1 : r.slots.length ≤ 8796093022208) (h2 : r.mail.length ≤ 8796093022208) (h3 : r.links.length ≤ 17592186044416) (h4 : r.watched.length ≤ 17592186044416) :
    Calls Tryz.prog 94 #[.agg (runArr r a)] w fun e w' => ∃ b : RA, e = .returned (.agg (runArr r b)) ∧ Mem w [] w' [runA r b] := by
  refine (lToRun r a B w hr hB h1 h2 h3 h4).mono ?_
  rintro e w' ⟨s, m, l, o, rfl, ho, hb⟩
  obtain ⟨b, rfl, rfl, rfl, rfl, _⟩ := ho.reads
  exact ⟨b, rfl, Mem.ofRun ho hb⟩
end Go.Proofs.YtomolbhcggaakaaGreat
/- The laws' own copies of steps, runs and worlds. -/
namespace Go.Proofs.YtomolbhcggaakaaGreat
open Go.RowKit
set_option maxRecDepth 100000

theorem lToOp (o : Opx) (w : World) : Calls Tryz.prog 93 #[.agg (encO o).toArray] w fun e w' => e = .returned (.agg (encO o).toArray) ∧ Below w.heap.size w w' := by
  obtain ⟨k, r, s, to, ⟨vk, vn⟩⟩ := o
  have M := Mem.nil w
  have HV := Lib.hid (fun W => lToVal ⟨vk, vn⟩ W)
  simp only [encO]
  go_enter Tryz.func93, Tryz.ntmps93
  go_wp2_with (first
    | (with_reducible refine alAw M ?_; clear M; (try clear F); intro w1 M F) | ((with_reducible apply ev_store (M := M)); rfl; rfl; ((conv => lhs; whnf) <;> rfl); rfl; (first | exact siI | exact siR | exact siV | exact siB | exact siSI | exact siSV | exact siW | exact siSR | exact siSO | exact siO); (exact one_all rfl); (exact dl); (exact Nat.le_of_ble_eq_true rfl); clear M; intro w1 M; simp only [SX] at M; (try clear F); have F := fxw M) | ((with_reducible refine goal_drewN (G := fun W => wpList _ _ _ _ _ W) M ?_); clear M; intro w1 M; (try clear F); have F := fxw M) | ((with_reducible refine goal_drew (G := fun W => wpList _ _ _ _ _ W) M ?_); clear M; intro w1 M; (try clear F); have F := fxw M) | ((with_reducible refine isSet (G := fun W => wpList _ _ _ _ _ W) ?_); (with_reducible refine nmw (G := fun W => wpList _ _ _ _ _ W) ?_; clear M; (try clear F); intro w1 M F))
    | (go_at_call 28; (refine nmKw ?_; clear M; (try clear F); intro w1 M F); refine (HV.out _).mono ?_; rintro e w2 ⟨rfl, hb⟩; replace M := M.below hb; clear hb; (try clear F); have F := fxw M))
  apply ret_cell (M := M); rfl; rfl; (exact dl); (first | exact agR | exact agV | exact agW | exact agO); (first | exact siI | exact siR | exact siV | exact siB | exact siSI | exact siSV | exact siW | exact siSR | exact siSO | exact siO); rfl
  exact ⟨rfl, M.toBelow⟩
theorem madeO (n : Nat) : madeCells #[.int .i64 0, .int .i64 0, .int .i64 0, .int .i64 0, .int .i64 0, .int .i64 0] (n * 6) = (flat encO (List.replicate n ⟨0, 0, 0, 0, ⟨0, 0⟩⟩)).toArray := by
  have := madeCells_flat (enc := encO) (z := #[.int .i64 0, .int .i64 0, .int .i64 0, .int .i64 0, .int .i64 0, .int .i64 0]) (x := ⟨0, 0, 0, 0, ⟨0, 0⟩⟩) rfl (by decide) n
  rw [← this]
  simp
theorem makeO (n : Nat) (hn : n ≤ 1048576) (W : World) : (Instr.makeSlice 29 (.int .i64 (n : Int)) (.int .i64 (n : Int))).run Tryz.prog W = .ok (.slice (some ⟨W.heap.size, 0, none⟩) n n) (W.alloc (.cells (flat encO (List.replicate n ⟨0, 0, 0, 0, ⟨0, 0⟩⟩)).toArray tO)) := by
  have h := run_make_m (P := Tryz.prog) 29 tO (.agg #[.int .i64 0, .int .i64 0, .int .i64 0, .int .i64 0, .int .i64 0, .int .i64 0]) 6 48 Tryz.underlying29 nfO n (by omega) (by omega) W
  rw [show (Value.agg #[.int .i64 0, .int .i64 0, .int .i64 0, .int .i64 0, .int .i64 0, .int .i64 0]).cells = #[.int .i64 0, .int .i64 0, .int .i64 0, .int .i64 0, .int .i64 0, .int .i64 0] from rfl, madeO] at h
  exact h
theorem zRow {α : Type} {enc : α → List Value} {m : Nat} {t : TypeId} {w0 w : World} {f : List Nat} {L : List Asn} {g : Nat} {l : List α} {z : α} (hk : ∀ x, (enc x).length = m) (hn : l.length ≤ 1048576) (M : Mem w0 f w (blk g t (flat enc (List.replicate l.length z)) :: L)) : Mem w0 f w (row enc m t (some ⟨g, 0, none⟩) l.length (fillL l z 0) :: L) := by
  have M1 := Mem.row_of hk (xs := List.replicate l.length z) M rfl (by rw [List.length_replicate]; omega)
  rw [List.length_replicate] at M1
  rw [fillL_zero]
  exact M1
set_option maxHeartbeats 2000000 in
theorem lToOpS (l : List Opx) (A : Option Addr) (c B : Nat) (w : World) (h : ReadsL encO 6 w B A l.length l) (hB : B ≤ w.heap.size) (hs : l.length ≤ 1048576) :
    Calls Tryz.prog 50 #[.slice A l.length c] w fun e w' => ∃ (A' : Option Addr) (c' : Nat), e = .returned (.slice A' l.length c') ∧ Mem w [] w' [rowO A' c' l] := by
  have hmk := makeO l.length hs
  have AL := add_lit0
  have M := Mem.nil w
  go_enter Tryz.func50, Tryz.ntmps50
  go_wp2
  clear hmk
  (refine nmw (G := fun W => Code.wp _ _ _ _ W) ?_; clear M; (try clear F); intro w1 M F)
  have M1 := zRow encO_length hs M
  clear M F
  generalize hgg : w.heap.size = g at M1 ⊢
  go_loopg [4] l.length (fun gg i wr => ∃ k : Nat, k ≤ l.length ∧ l.length - k ≤ gg ∧ i = .int .i64 k ∧ Hid (Mem w [] wr [rowO (some ⟨g, 0, none⟩) l.length (fillL l ⟨0, 0, 0, 0, ⟨0, 0⟩⟩ k)]))
  case atStart => exact ⟨0, Nat.zero_le _, by omega, rfl, M1⟩
  case round =>
    clear M1
    obtain ⟨k, hk, hg, rfl, M⟩ := hrel
    replace M := M.out
    by_cases hlt : k < l.length
    · obtain ⟨ad, rfl, hab, hc0, hc1, hc2, hc3, hc4, hc5⟩ := (h.below' M.toBelow hB).op hlt
      have hcl : k < (fillL l ⟨0, 0, 0, 0, ⟨0, 0⟩⟩ k).length := by rw [fillL_length _ _ hk]; exact hlt
      have hfs := fillL_set l ⟨0, 0, 0, 0, ⟨0, 0⟩⟩ hlt
      have HO := Lib.hid (fun W => lToOp l[k] W)
      generalize l[k] = x at hc0 hc1 hc2 hc3 hc4 hc5 hfs HO
      have hfs := Lib.hid hfs
      generalize fillL l ⟨0, 0, 0, 0, ⟨0, 0⟩⟩ k = cur at M hcl hfs
      obtain ⟨xk, xr, xs, xt, ⟨xvk, xvn⟩⟩ := x
      simp only [encO] at HO
      simp only at hc0 hc1 hc2 hc3 hc4 hc5
      have i1 : (0 : Int) ≤ k := by omega
      have i2 : (k : Int) < l.length := by omega
      go_wp2_with (first
        | (go_at_call 93; (refine nmKw ?_; clear M; (try clear F); intro w1 M F); refine (HO.out _).mono ?_; rintro e w2 ⟨rfl, hb⟩; replace M := M.below hb; clear hb; (try clear F); have F := fxw M)
        | ((with_reducible apply ev_put_row (x' := (⟨xk, xr, xs, xt, ⟨xvk, xvn⟩⟩ : Opx)) (hk := encO_length) (hone := oneO) (M := M)); rfl; rfl; ((conv => lhs; whnf) <;> rfl); rfl; exact siO; exact .here; rfl; exact hcl; clear M; intro w1 M))
      go_roundg (l.length - (k + 1))
      case measure => omega
      case rel => exact ⟨k + 1, by omega, by omega, by go_num, by rw [← hfs.out]; exact M⟩
    · have : k = l.length := by omega
      subst this
      rw [fillL_end] at M
      go_wp2
      go_ret
      exact ⟨_, _, rfl, M⟩
def zR : Rn × RA := (Rn.zero, ⟨none, 0, none, 0, none, 0, none, 0⟩)
def zRv : Value := .agg #[.int .i64 0, .int .i64 0, .slice none 0 0, .int .i64 0, .slice none 0 0, .int .i64 0, .int .i64 0, .slice none 0 0, .slice none 0 0, .bool false, .int .i64 0, .int .i64 0, .int .i64 0]
theorem madeR (n : Nat) : madeCells zRv.cells (n * 13) = (flat encR (List.replicate n zR)).toArray := by
  have := madeCells_flat (enc := encR) (z := zRv.cells) (x := zR) rfl (by decide) n
  rw [← this]
  simp [zRv, Value.cells]
theorem makeR (n : Nat) (hn : n ≤ 1048576) (W : World) : (Instr.makeSlice 30 (.int .i64 (n : Int)) (.int .i64 (n : Int))).run Tryz.prog W = .ok (.slice (some ⟨W.heap.size, 0, none⟩) n n) (W.alloc (.cells (flat encR (List.replicate n zR)).toArray tR)) := by
  have h := run_make_m (P := Tryz.prog) 30 tR zRv 13 168 Tryz.underlying30 nfR n (by omega) (by omega) W
  rw [madeR] at h
  exact h
theorem Mem.rwsNil {w0 w : World} {f : List Nat} {L : List Asn} (M : Mem w0 f w L) : Mem w0 f w (rws [] :: L) := Mem.pack (L' := []) (by simpa using M)
theorem Mem.rwsSnoc {w0 w : World} {f : List Nat} {L : List Asn} {r : Rn} {a : RA} {ps : List (Rn × RA)} (M : Mem w0 f w (runA r a :: rws ps :: L)) : Mem w0 f w (rws (ps ++ [(r, a)]) :: L) := by
  refine M.join2 (C := rws (ps ++ [(r, a)])) (fun h1 h2 A hA => ?_) ?_
  · rw [List.map_append, List.map_singleton] at hA
    rcases List.mem_append.1 hA with hA | hA
    · exact h2 A hA
    · obtain rfl := List.mem_singleton.1 hA
      exact h1
  · show (fps ((ps ++ [(r, a)]).map fun p => runA p.1 p.2)).Perm _
    rw [List.map_append, fps_append]
    show (fps (ps.map fun p => runA p.1 p.2) ++ fps [runA r a]).Perm ((runA r a).fp ++ fps (ps.map fun p => runA p.1 p.2))
    rw [fps_one]
    exact List.perm_append_comm
def RunSPost (ps : List (Rn × RA)) (w : World) (e : Ending) (w' : World) : Prop := ∃ (qs : List (Rn × RA)) (A' : Option Addr) (c' : Nat), qs.map (·.1) = ps.map (·.1) ∧ e = .returned (.slice A' qs.length c') ∧ Mem w [] w' [rowR A' c' qs, rws qs]
set_option maxHeartbeats 4000000 in
theorem lToRunS (ps : List (Rn × RA)) (A : Option Addr) (c B : Nat) (w : World) (h : ReadsL encR 13 w B A ps.length ps) (he : ∀ k (hk : k < ps.length), ReadsRun w B ps[k].1 ps[k].2) (hz : ∀ k (hk : k < ps.length), ps[k].1.slots.length ≤ 1048576 ∧ ps[k].1.mail.length ≤ 1048576 ∧ ps[k].1.links.length ≤ 1048576 ∧ ps[k].1.watched.length ≤ 1048576) (hB : B ≤ w.heap.size) (hs : ps.length ≤ 1048576) :
    Calls Tryz.prog 51 #[.slice A ps.length c] w (RunSPost ps w) := by
  have hmk := makeR ps.length hs
  have AL := add_lit0
  have M := Mem.nil w
  have HT := Lib.hid (fun k (hk : k < ps.length) W (hb : Below w.heap.size w W) => mToRun ps[k].1 ps[k].2 B W ((he k hk).below hb hB) (Nat.le_trans hB hb.size) (by have := hz k hk; omega) (by have := hz k hk; omega) (by have := hz k hk; omega) (by have := hz k hk; omega))
  clear he hz
  go_enter Tryz.func51, Tryz.ntmps51
  go_wp2
  clear hmk
  (refine nmw (G := fun W => Code.wp _ _ _ _ W) ?_; clear M; (try clear F); intro w1 M F)
  have M1 := Mem.rwsNil (M.perm (List.Perm.refl _))
  clear M F
  generalize hgg : w.heap.size = g at M1 ⊢
  have M2 : Mem w [] w1 [rowR (some ⟨g, 0, none⟩) ps.length ([] ++ List.replicate ps.length zR), rws []] := by
    have M3 := Mem.row_of encR_length (xs := List.replicate ps.length zR) (M1.perm (.swap _ _ _)) rfl (by rw [List.length_replicate]; omega)
    rw [List.length_replicate] at M3
    exact M3
  clear M1
  go_loopg [4] ps.length (fun gg i wr => ∃ (k : Nat) (qs : List (Rn × RA)), k ≤ ps.length ∧ ps.length - k ≤ gg ∧ i = .int .i64 k ∧ Hid (qs.length = k) ∧ Hid (qs.map (·.1) = (ps.take k).map (·.1)) ∧ Hid (Mem w [] wr [rowR (some ⟨g, 0, none⟩) ps.length (qs ++ List.replicate (ps.length - k) zR), rws qs]))
  case atStart => exact ⟨0, [], Nat.zero_le _, by omega, rfl, rfl, by simp [Hid], M2⟩
  case round =>
    clear M2
    obtain ⟨k, qs, hk, hg, rfl, hql, hqm, M⟩ := hrel
    replace M := M.out
    by_cases hlt : k < ps.length
    · obtain ⟨ad, rfl, hab, hc⟩ := (h.below' M.toBelow hB).run hlt
      have hcl : k < (qs ++ List.replicate (ps.length - k) zR).length := by rw [List.length_append, List.length_replicate, hql.out]; omega
      have hset : ∀ p : Rn × RA, (qs ++ List.replicate (ps.length - k) zR).set k p = (qs ++ [p]) ++ List.replicate (ps.length - (k + 1)) zR := by
        intro p
        have e1 : ps.length - k = (ps.length - (k + 1)) + 1 := by omega
        rw [List.set_append_right _ _ (by rw [hql.out]; exact Nat.le_refl _), hql.out, Nat.sub_self, e1, List.replicate_succ, List.set_cons_zero]
        simp
      have hset := Lib.hid hset
      have HT := Lib.hid (HT.out k hlt)
      have hqn : Hid (∀ b : RA, (qs ++ [(ps[k].1, b)]).map (·.1) = (ps.take (k + 1)).map (·.1)) := fun b => by
        rw [List.map_append, hqm.out, takeS _ hlt, List.map_append]
        rfl
      have hql2 : Hid (∀ p : Rn × RA, (qs ++ [p]).length = k + 1) := fun p => by rw [List.length_append, hql.out]; rfl
      clear hqm hql
      generalize qs ++ List.replicate (ps.length - k) zR = cur at M hcl hset
      generalize ps[k] = p at hc HT hqn
      obtain ⟨r, a⟩ := p
      obtain ⟨id, at_, slots, full, mail, state, due, links, watched, trap, ⟨wk, wn⟩, turns⟩ := r
      obtain ⟨sA, sC, mA, mC, lA, lC, wA, wC⟩ := a
      simp only [RunCells] at hc
      simp only at HT
      obtain ⟨hc0, hc1, hc2, hc3, hc4, hc5, hc6, hc7, hc8, hc9, hc10, hc11, hc12⟩ := hc
      have i1 : (0 : Int) ≤ k := by omega
      have i2 : (k : Int) < ps.length := by omega
      go_wp2_with (first
        | (go_at_call 94; (refine nmKw ?_; clear M; (try clear F); intro w1 M F); refine (HT.out _ M.toBelow).mono ?_; rintro e w2 ⟨⟨sA1, sC1, mA1, mC1, lA1, lC1, wA1, wC1⟩, rfl, hm⟩; replace M := M.call0 hm; clear hm)
        | ((with_reducible apply ev_put_row (x' := ((⟨id, at_, slots, full, mail, state, due, links, watched, trap, ⟨wk, wn⟩, turns⟩, ⟨sA1, sC1, mA1, mC1, lA1, lC1, wA1, wC1⟩) : Rn × RA)) (hk := encR_length) (hone := oneR) (M := M)); rfl; rfl; ((conv => lhs; whnf) <;> rfl); rfl; exact siR; exact .there .here; rfl; exact hcl; clear M; intro w1 M))
      go_roundg (ps.length - (k + 1))
      case measure => omega
      case rel => exact ⟨k + 1, qs ++ [(⟨id, at_, slots, full, mail, state, due, links, watched, trap, ⟨wk, wn⟩, turns⟩, ⟨sA1, sC1, mA1, mC1, lA1, lC1, wA1, wC1⟩)], by omega, by omega, by go_num, Lib.hid (hql2.out _), Lib.hid (hqn.out _), by rw [hset.out] at M; exact (Mem.rwsSnoc ((M.perm (.swap _ _ _)).perm (.cons _ (.swap _ _ _)))).perm (.swap _ _ _)⟩
    · have : k = ps.length := by omega
      subst this
      have hn : Hid (qs.length = ps.length) := hql
      have e1 := hqm.out
      rw [List.take_length] at e1
      have e1 := Lib.hid e1
      have M1 := Lib.hid (show Mem w [] wr [rowR (some ⟨g, 0, none⟩) ps.length qs, rws qs] by simpa using M)
      clear M hqm hql
      go_wp2
      go_ret
      refine ⟨qs, some ⟨g, 0, none⟩, ps.length, e1.out, ?_, M1.out⟩
      rw [hn.out]
      rfl
theorem Mem.callL {w0 w w' : World} {f : List Nat} {L L2 : List Asn} (M : Mem w0 f w L) (h : Mem w [] w' L2) : Mem w0 f w' (L2 ++ L) := Mem.unpack (M.call0 h.whole)
theorem mToIntS (l : List Int) (A : Option Addr) (c B : Nat) (w : World) (h : ReadsI w B A l.length l) (hB : B ≤ w.heap.size) (hs : l.length ≤ 1048576) :
    Calls Tryz.prog 52 #[.slice A l.length c] w fun e w' => ∃ (A' : Option Addr) (c' : Nat), e = .returned (.slice A' l.length c') ∧ Mem w [] w' [rowI A' c' l] := by
  refine (lToIntS l A c B w h hB (by omega)).mono ?_
  rintro e w' ⟨v, rfl, ho, hb⟩
  obtain ⟨A', c', rfl, M⟩ := (Mem.nil w).newI ho hb
  exact ⟨_, _, rfl, M⟩
set_option maxHeartbeats 2000000 in
theorem lToWorld (W : Wm) (B : Nat) (w : World) (h : ReadsW w B W) (hB : B ≤ w.heap.size) (h1 : W.code.length ≤ 1048576) (h2 : W.ps.length ≤ 1048576) (h3 : W.queue.length ≤ 1048576)
    (hz : ∀ k (hk : k < W.ps.length), W.ps[k].1.slots.length ≤ 1048576 ∧ W.ps[k].1.mail.length ≤ 1048576 ∧ W.ps[k].1.links.length ≤ 1048576 ∧ W.ps[k].1.watched.length ≤ 1048576) :
    Calls Tryz.prog 14 #[.agg (wArr W)] w fun e w' => ∃ V : Wm, V.wd = W.wd ∧ e = .returned (.agg (wArr V)) ∧ Mem w [] w' [wld V] := by
  have HC := Lib.hid (fun V (hb : Below w.heap.size w V) => lToOpS W.code W.cA W.cC B V (h.code.below' hb hB) (Nat.le_trans hB hb.size) h1)
  have HR := Lib.hid (fun V (hb : Below w.heap.size w V) => lToRunS W.ps W.rA W.rC B V (h.runs.below' hb hB) (fun k hk => (h.each k hk).below hb hB) hz (Nat.le_trans hB hb.size) h2)
  have HQ := Lib.hid (fun V (hb : Below w.heap.size w V) => mToIntS W.queue W.qA W.qC B V (h.queue.below' hb hB) (Nat.le_trans hB hb.size) h3)
  unfold RunSPost at HR
  clear h h1 h2 h3 hz hB
  have M := Mem.nil w
  obtain ⟨code, cA, cC, ps, rA, rC, queue, qA, qC, now, sent, taken, lost⟩ := W
  simp only [Wm.wd] at *
  go_enter Tryz.func14, Tryz.ntmps14
  go_wp2_with (first
    | (with_reducible refine alAw M ?_; clear M; (try clear F); intro w1 M F) | ((with_reducible apply ev_store (M := M)); rfl; rfl; ((conv => lhs; whnf) <;> rfl); rfl; (first | exact siI | exact siR | exact siV | exact siB | exact siSI | exact siSV | exact siW | exact siSR | exact siSO | exact siO); (exact one_all rfl); (exact dl); (exact Nat.le_of_ble_eq_true rfl); clear M; intro w1 M; simp only [SX] at M; (try clear F); have F := fxw M) | ((with_reducible refine goal_drewN (G := fun W => wpList _ _ _ _ _ W) M ?_); clear M; intro w1 M; (try clear F); have F := fxw M) | ((with_reducible refine goal_drew (G := fun W => wpList _ _ _ _ _ W) M ?_); clear M; intro w1 M; (try clear F); have F := fxw M) | ((with_reducible refine isSet (G := fun W => wpList _ _ _ _ _ W) ?_); (with_reducible refine nmw (G := fun W => wpList _ _ _ _ _ W) ?_; clear M; (try clear F); intro w1 M F))
    | (go_at_call 50; (refine nmKw ?_; clear M; (try clear F); intro w1 M F); refine (HC.out _ M.toBelow).mono ?_; rintro e w2 ⟨cA1, cC1, rfl, hm⟩; replace M := M.call0 hm; clear hm; (try clear F); have F := fxw M)
    | (go_at_call 51; (refine nmKw ?_; clear M; (try clear F); intro w1 M F); refine (HR.out _ M.toBelow).mono ?_; rintro e w2 ⟨qs, rA1, rC1, hqs, rfl, hm⟩; replace M := M.callL hm; (simp only [List.cons_append, List.nil_append] at M); clear hm; (try clear F); have F := fxw M)
    | (go_at_call 52; (refine nmKw ?_; clear M; (try clear F); intro w1 M F); refine (HQ.out _ M.toBelow).mono ?_; rintro e w2 ⟨qA1, qC1, rfl, hm⟩; replace M := M.call0 hm; clear hm; (try clear F); have F := fxw M))
  apply ret_cell (M := M); rfl; rfl; (exact dl); (first | exact agR | exact agV | exact agW | exact agO); (first | exact siI | exact siR | exact siV | exact siB | exact siSI | exact siSV | exact siW | exact siSR | exact siSO | exact siO); rfl
  refine ⟨⟨code, cA1, cC1, qs, rA1, rC1, queue, qA1, qC1, now, sent, taken, lost⟩, by simp only [hqs], rfl, ?_⟩
  have M2 : Mem w [] _ [rowO cA1 cC1 code, rowR rA1 rC1 qs, rowI qA1 qC1 queue, rws qs] := M.sel sl
  exact Mem.pack (L' := wldL ⟨code, cA1, cC1, qs, rA1, rC1, queue, qA1, qC1, now, sent, taken, lost⟩) (L := []) M2
end Go.Proofs.YtomolbhcggaakaaGreat
/- The laws' own comparison of worlds. -/
namespace Go.Proofs.YtomolbhcggaakaaGreat
open Go.RowKit
set_option maxRecDepth 100000

theorem lEqOp (o : Opx) (w : World) : Calls Tryz.prog 104 #[.agg (encO o).toArray, .agg (encO o).toArray] w fun e w' => e = .returned (.bool true) ∧ Below w.heap.size w w' := by
  obtain ⟨k, r, s, to, ⟨vk, vn⟩⟩ := o
  have M := Mem.nil w
  have HV := Lib.hid (fun W => lEqVal ⟨vk, vn⟩ W)
  simp only [encO]
  go_enter Tryz.func104, Tryz.ntmps104
  go_wp2_with (first
    | (with_reducible refine alAw M ?_; clear M; (try clear F); intro w1 M F) | ((with_reducible apply ev_store (M := M)); rfl; rfl; ((conv => lhs; whnf) <;> rfl); rfl; (first | exact siI | exact siR | exact siV | exact siB | exact siSI | exact siSV | exact siW | exact siSR | exact siSO | exact siO); (exact one_all rfl); (exact dl); (exact Nat.le_of_ble_eq_true rfl); clear M; intro w1 M; simp only [SX] at M; (try clear F); have F := fxw M) | ((with_reducible refine goal_drewN (G := fun W => wpList _ _ _ _ _ W) M ?_); clear M; intro w1 M; (try clear F); have F := fxw M) | ((with_reducible refine goal_drew (G := fun W => wpList _ _ _ _ _ W) M ?_); clear M; intro w1 M; (try clear F); have F := fxw M) | ((with_reducible refine isSet (G := fun W => wpList _ _ _ _ _ W) ?_); (with_reducible refine nmw (G := fun W => wpList _ _ _ _ _ W) ?_; clear M; (try clear F); intro w1 M F))
    | (go_at_call 143; (refine nmKw ?_; clear M; (try clear F); intro w1 M F); refine (HV.out _).mono ?_; rintro e w2 ⟨rfl, hb⟩; replace M := M.below hb; clear hb; (try clear F); have F := fxw M))
  go_ret
  exact ⟨rfl, M.toBelow⟩
set_option maxHeartbeats 1000000 in
theorem lEqOpS (l : List Opx) (A A' : Option Addr) (c c' B : Nat) (w : World) (h : ReadsL encO 6 w B A l.length l) (h' : ReadsL encO 6 w B A' l.length l) (hB : B ≤ w.heap.size) :
    Calls Tryz.prog 59 #[.slice A l.length c, .slice A' l.length c'] w fun e w' => e = .returned (.bool true) ∧ Below w.heap.size w w' := by
  have hm := h.2.1
  go_enter Tryz.func59, Tryz.ntmps59
  go_wp2
  go_loopg [5] l.length (fun gg i wr => ∃ k : Nat, k ≤ l.length ∧ l.length - k ≤ gg ∧ i = .int .i64 k ∧ Hid (Below w.heap.size w wr))
  case atStart => exact ⟨0, Nat.zero_le _, by omega, rfl, Below.refl _ _⟩
  case round =>
    obtain ⟨k, hk, hg, rfl, BW⟩ := hrel
    by_cases hlt : k < l.length
    · obtain ⟨ad, rfl, _, hc0, hc1, hc2, hc3, hc4, hc5⟩ := (h.below' BW.out hB).op hlt
      obtain ⟨ad', rfl, _, hd0, hd1, hd2, hd3, hd4, hd5⟩ := (h'.below' BW.out hB).op hlt
      have HO := Lib.hid (fun W => lEqOp l[k] W)
      generalize l[k] = x at hc0 hc1 hc2 hc3 hc4 hc5 hd0 hd1 hd2 hd3 hd4 hd5 HO
      obtain ⟨xk, xr, xs, xt, ⟨xvk, xvn⟩⟩ := x
      simp only [encO] at HO
      simp only at hc0 hc1 hc2 hc3 hc4 hc5 hd0 hd1 hd2 hd3 hd4 hd5
      have i1 : (0 : Int) ≤ k := by omega
      have i2 : (k : Int) < l.length := by omega
      go_wp2
      go_still_tail 8, (by kernel_rfl)
      go_wp2_with (go_at_call 104; refine (HO.out _).mono ?_; rintro e w' ⟨rfl, hb⟩)
      go_roundg (l.length - (k + 1))
      case measure => omega
      case rel => exact ⟨k + 1, by omega, by omega, by go_num, below_step (BW.out.drew) hb⟩
    · have : k = l.length := by omega
      subst this
      go_wp2
      go_ret
      exact ⟨rfl, BW.out⟩
theorem getElem_ps {ps qs : List (Rn × RA)} (h : qs.map (·.1) = ps.map (·.1)) {k : Nat} (hk : k < ps.length) (hq : k < qs.length) : qs[k].1 = ps[k].1 := by
  have := congrArg (fun l : List Rn => l[k]?) h
  simpa [hk, hq] using this
theorem length_ps {ps qs : List (Rn × RA)} (h : qs.map (·.1) = ps.map (·.1)) : qs.length = ps.length := by
  have := congrArg List.length h
  simpa using this
set_option maxHeartbeats 2000000 in
theorem lEqRunS (ps qs : List (Rn × RA)) (hpq : qs.map (·.1) = ps.map (·.1)) (A A' : Option Addr) (c c' B : Nat) (w : World) (h : ReadsL encR 13 w B A ps.length ps) (h' : ReadsL encR 13 w B A' qs.length qs) (he : ∀ k (hk : k < ps.length), ReadsRun w B ps[k].1 ps[k].2) (he' : ∀ k (hk : k < qs.length), ReadsRun w B qs[k].1 qs[k].2) (hB : B ≤ w.heap.size) :
    Calls Tryz.prog 60 #[.slice A ps.length c, .slice A' qs.length c'] w fun e w' => e = .returned (.bool true) ∧ Below w.heap.size w w' := by
  have hm := h.2.1
  have hl := length_ps hpq
  have HE := Lib.hid (fun k (hk : k < ps.length) (hq : k < qs.length) W (hb : Below w.heap.size w W) => lEqRun ps[k].1 ps[k].2 qs[k].2 B W ((he k hk).below hb hB) (by have := (he' k hq).below hb hB; rw [getElem_ps hpq hk hq] at this; exact this) (Nat.le_trans hB hb.size))
  have EQ := Lib.hid (fun k (hk : k < ps.length) (hq : k < qs.length) => getElem_ps hpq hk hq)
  have hl2 : ((ps.length : Int) == (qs.length : Int)) = true := by rw [hl]; simp
  clear he he'
  go_enter Tryz.func60, Tryz.ntmps60
  go_wp2
  go_loopg [5] ps.length (fun gg i wr => ∃ k : Nat, k ≤ ps.length ∧ ps.length - k ≤ gg ∧ i = .int .i64 k ∧ Hid (Below w.heap.size w wr))
  case atStart => exact ⟨0, Nat.zero_le _, by omega, rfl, Below.refl _ _⟩
  case round =>
    obtain ⟨k, hk, hg, rfl, BW⟩ := hrel
    by_cases hlt : k < ps.length
    · have hlq : k < qs.length := by omega
      obtain ⟨ad, rfl, _, hc⟩ := (h.below' BW.out hB).run hlt
      obtain ⟨ad', rfl, _, hd⟩ := (h'.below' BW.out hB).run hlq
      have HO := Lib.hid (fun W hb => HE.out k hlt hlq W hb)
      have EK := EQ.out k hlt hlq
      rw [EK] at hd
      clear EK
      generalize ps[k] = p at hc hd HO
      generalize qs[k] = q at hd HO
      obtain ⟨r, a⟩ := p
      obtain ⟨_, b⟩ := q
      obtain ⟨id, at_, slots, full, mail, state, due, links, watched, trap, ⟨wk, wn⟩, turns⟩ := r
      obtain ⟨sA, sC, mA, mC, lA, lC, wA, wC⟩ := a
      obtain ⟨sA', sC', mA', mC', lA', lC', wA', wC'⟩ := b
      simp only [RunCells] at hc hd
      simp only [runArr] at HO
      obtain ⟨hc0, hc1, hc2, hc3, hc4, hc5, hc6, hc7, hc8, hc9, hc10, hc11, hc12⟩ := hc
      obtain ⟨hd0, hd1, hd2, hd3, hd4, hd5, hd6, hd7, hd8, hd9, hd10, hd11, hd12⟩ := hd
      have i1 : (0 : Int) ≤ k := by omega
      have i2 : (k : Int) < ps.length := by omega
      have i3 : (k : Int) < qs.length := by omega
      go_wp2
      go_still_tail 8, (by kernel_rfl)
      go_wp2_with (go_at_call 105; refine (HO.out _ BW.out.drew).mono ?_; rintro e w' ⟨rfl, hb⟩)
      go_roundg (ps.length - (k + 1))
      case measure => omega
      case rel => exact ⟨k + 1, by omega, by omega, by go_num, below_step (BW.out.drew) hb⟩
    · have : k = ps.length := by omega
      subst this
      go_wp2
      go_ret
      exact ⟨rfl, BW.out⟩
theorem Mem.readsW {w0 w : World} {f : List Nat} {L L' : List Asn} {W : Wm} (M : Mem w0 f w L) (hd : Del (wld W) L L') : ReadsW w w.heap.size W := by
  have M1 : Mem w0 f w (rowO W.cA W.cC W.code :: rowR W.rA W.rC W.ps :: rowI W.qA W.qC W.queue :: rws W.ps :: L') := Mem.unpack (L' := wldL W) (M.pull hd)
  refine ⟨(row_reads M1 .here).1, (row_reads M1 (.there .here)).1, (row_reads M1 (.there (.there .here))).1, fun k hk => ?_⟩
  have h := M1.is (.there (.there (.there .here)))
  exact (runA_reads (h (runA W.ps[k].1 W.ps[k].2) (List.mem_map.2 ⟨W.ps[k], List.getElem_mem hk, rfl⟩))).1
set_option maxHeartbeats 2000000 in
theorem lEqWorld (W V : Wm) (hwv : V.wd = W.wd) (B : Nat) (w : World) (h : ReadsW w B W) (h' : ReadsW w B V) (hB : B ≤ w.heap.size) :
    Calls Tryz.prog 16 #[.agg (wArr W), .agg (wArr V)] w fun e w' => e = .returned (.bool true) ∧ Below w.heap.size w w' := by
  obtain ⟨code, cA, cC, ps, rA, rC, queue, qA, qC, now, sent, taken, lost⟩ := W
  obtain ⟨code', cA', cC', qs, rA', rC', queue', qA', qC', now', sent', taken', lost'⟩ := V
  simp only [Wm.wd, Wd.mk.injEq] at hwv
  obtain ⟨rfl, hpq, rfl, rfl, rfl, rfl, rfl⟩ := hwv
  have HC := Lib.hid (fun V (hb : Below w.heap.size w V) => lEqOpS code' cA cA' cC cC' B V (h.code.below' hb hB) (h'.code.below' hb hB) (Nat.le_trans hB hb.size))
  have HR := Lib.hid (fun V (hb : Below w.heap.size w V) => lEqRunS ps qs hpq rA rA' rC rC' B V (h.runs.below' hb hB) (h'.runs.below' hb hB) (fun k hk => (h.each k hk).below hb hB) (fun k hk => (h'.each k hk).below hb hB) (Nat.le_trans hB hb.size))
  have HQ := Lib.hid (fun V (hb : Below w.heap.size w V) => lEqIntS queue' qA qA' qC qC' B V (h.queue.below' hb hB) (h'.queue.below' hb hB) (Nat.le_trans hB hb.size))
  clear h h' hB hpq
  have M := Mem.nil w
  simp only [wArr]
  go_enter Tryz.func16, Tryz.ntmps16
  go_wp2_with (first
    | (with_reducible refine alAw M ?_; clear M; (try clear F); intro w1 M F) | ((with_reducible apply ev_store (M := M)); rfl; rfl; ((conv => lhs; whnf) <;> rfl); rfl; (first | exact siI | exact siR | exact siV | exact siB | exact siSI | exact siSV | exact siW | exact siSR | exact siSO | exact siO); (exact one_all rfl); (exact dl); (exact Nat.le_of_ble_eq_true rfl); clear M; intro w1 M; simp only [SX] at M; (try clear F); have F := fxw M) | ((with_reducible refine goal_drewN (G := fun W => wpList _ _ _ _ _ W) M ?_); clear M; intro w1 M; (try clear F); have F := fxw M) | ((with_reducible refine goal_drew (G := fun W => wpList _ _ _ _ _ W) M ?_); clear M; intro w1 M; (try clear F); have F := fxw M) | ((with_reducible refine isSet (G := fun W => wpList _ _ _ _ _ W) ?_); (with_reducible refine nmw (G := fun W => wpList _ _ _ _ _ W) ?_; clear M; (try clear F); intro w1 M F))
    | (go_at_call 59; (refine nmKw ?_; clear M; (try clear F); intro w1 M F); refine (HC.out _ M.toBelow).mono ?_; rintro e w2 ⟨rfl, hb⟩; replace M := M.below hb; clear hb; (try clear F); have F := fxw M)
    | (go_at_call 60; (refine nmKw ?_; clear M; (try clear F); intro w1 M F); refine (HR.out _ M.toBelow).mono ?_; rintro e w2 ⟨rfl, hb⟩; replace M := M.below hb; clear hb; (try clear F); have F := fxw M)
    | (go_at_call 23; (refine nmKw ?_; clear M; (try clear F); intro w1 M F); refine (HQ.out _ M.toBelow).mono ?_; rintro e w2 ⟨rfl, hb⟩; replace M := M.below hb; clear hb; (try clear F); have F := fxw M))
  go_ret
  exact ⟨rfl, M.toBelow⟩
end Go.Proofs.YtomolbhcggaakaaGreat
