/- A new run of the reference, over what is held. -/
import Derived.Test.YtemglijebbodkaaM5
import Derived.Test.YtemglijebbodkaaS3
import Derived.Deep.RegionWith
namespace Go.Proofs.Ytemglijebbodkaa
open Go.RowKit
set_option maxRecDepth 100000

theorem newRun_mem {w0 w : World} {f : List Nat} {L : List Asn} {g1 g2 g3 g4 : Nat} {id at_ k n : Int} (M : Mem w0 f w (blk g1 tV [.int .i64 k, .int .i64 n, .int .i64 0, .int .i64 0, .int .i64 0, .int .i64 0, .int .i64 0, .int .i64 0] :: blk g2 tV [] :: blk g3 tI [] :: blk g4 tI [] :: L)) :
    Mem w0 f w (runA (newRun id at_ ⟨k, n⟩) ⟨some ⟨g1, 0, none⟩, 4, some ⟨g2, 0, none⟩, 0, some ⟨g3, 0, none⟩, 0, some ⟨g4, 0, none⟩, 0⟩ :: L) := by
  have M1 := Mem.row_of encV_length (xs := [⟨k, n⟩, Vl.zero, Vl.zero, Vl.zero]) M rfl (by simp)
  have M2 := Mem.row_of encV_length (xs := []) (M1.pull (.there .here)) rfl (by decide)
  have M3 := Mem.row_of encI_length (xs := []) (M2.pull (.there (.there .here))) rfl (by decide)
  have M4 := Mem.row_of encI_length (xs := []) (M3.pull (.there (.there (.there .here)))) rfl (by decide)
  exact Mem.packRun (M4.sel (.cons (.there (.there (.there .here))) (.cons (.there (.there .here)) (.cons (.there .here) (.cons .here .refl)))))
set_option maxHeartbeats 1000000 in
theorem sNewM (id at_ : Int) (v : Vl) {w0 w : World} {f : List Nat} {L : List Asn} (M : Mem w0 f w L) :
    Calls Try.prog 34 #[.int .i64 id, .int .i64 at_, .agg #[.int .i64 v.k, .int .i64 v.n]] w fun e w' => ∃ b : RA, e = .returned (.agg (runArr (newRun id at_ v) b)) ∧ Mem w0 f w' (runA (newRun id at_ v) b :: L) := by
  obtain ⟨k, n⟩ := v
  go_enter Try.func34, Try.ntmps34
  go_wp2_with (first
    | ((with_reducible refine goal_alloc (G := fun W => wpList _ _ _ _ _ W) M ?_); clear M; intro w1 M; (try clear F); have F := M.facts; simp only [FX] at F) | ((with_reducible apply ev_store (M := M)); rfl; rfl; ((conv => lhs; whnf) <;> rfl); rfl; (first | exact siI | exact siR | exact siV | exact siB | exact siSI | exact siSV | exact siW | exact siSR | exact siSO | exact siO); (exact one_all rfl); (repeat (first | with_reducible exact Del.here | with_reducible apply Del.there)); (exact Nat.le_of_ble_eq_true rfl); clear M; intro w1 M; simp only [SX] at M; (try clear F); have F := M.facts; simp only [FX] at F) | ((with_reducible refine goal_drewN (G := fun W => wpList _ _ _ _ _ W) M ?_); clear M; intro w1 M; (try clear F); have F := M.facts; simp only [FX] at F) | ((with_reducible refine goal_drew (G := fun W => wpList _ _ _ _ _ W) M ?_); clear M; intro w1 M; (try clear F); have F := M.facts; simp only [FX] at F) | ((with_reducible refine isSet (G := fun W => wpList _ _ _ _ _ W) ?_); ((with_reducible apply goal_name (G := fun W => wpList _ _ _ _ _ W)); (repeat (first | with_reducible exact M | with_reducible apply Mem.drew | with_reducible apply Mem.drewN | with_reducible apply Mem.allocD | with_reducible apply Mem.setV | with_reducible apply Mem.setD | with_reducible exact Del.here | with_reducible apply Del.there | with_reducible assumption)); clear M; intro w1 M; (try simp only [LX] at M); (try clear F); have F := M.facts; simp only [FX] at F)))
  apply ret_cell (M := M); rfl; rfl; (repeat (first | with_reducible exact Del.here | with_reducible apply Del.there)); (first | exact agR | exact agV | exact agW | exact agO); (first | exact siI | exact siR | exact siV | exact siB | exact siSI | exact siSV | exact siW | exact siSR | exact siSO | exact siO); rfl
  exact ⟨⟨some ⟨_, 0, none⟩, 4, some ⟨_, 0, none⟩, 0, some ⟨_, 0, none⟩, 0, some ⟨_, 0, none⟩, 0⟩, rfl, newRun_mem (M.sel (by repeat (first | with_reducible exact Sel.refl | with_reducible exact Sel.nil | (with_reducible refine Sel.cons (by repeat (first | with_reducible exact Del.here | with_reducible apply Del.there)) ?_) | with_reducible apply Sel.drop)))⟩
theorem zero_mem {w0 w : World} {f : List Nat} {L : List Asn} (M : Mem w0 f w L) : Mem w0 f w (runA Rn.zero ⟨none, 0, none, 0, none, 0, none, 0⟩ :: L) := by
  refine M.call0 ⟨⟨rfl, rfl, rfl, Nat.le_refl _, fun _ _ _ => rfl, fun k hk => ?_, ?_⟩, fun X hX => ?_⟩
  · rw [fps_one, runA_fp] at hk
    simp [ob] at hk
  · rw [fps_one, runA_fp]
    simp [ob]
  · obtain rfl : X = runA Rn.zero ⟨none, 0, none, 0, none, 0, none, 0⟩ := by simpa using hX
    intro B hB
    simp only [runL, List.mem_cons, List.not_mem_nil, or_false] at hB
    rcases hB with rfl | rfl | rfl | rfl
    · exact OwnL.nil _ _
    · exact OwnL.nil _ _
    · exact OwnL.nil _ _
    · exact OwnL.nil _ _
theorem ret_ct {P : Program} {fn : Func} {R : Ending → World → Prop} {a : Act} {w0 w : World} {f : List Nat} {L L' : List Asn} {d1 d : Tmp} {t tb : TypeId} {g : Nat} {cs : List Value} {v1 : Value} (hres : fn.results = #[.cell d t, .tmp d1]) (h1 : a.tmps.getD d1 undef = v1) (hx : a.tmps.getD d undef = .pointer (some ⟨g, 0, none⟩)) (M : Mem w0 f w L) (hd : Del (blk g tb cs) L L')
    (ha : ∀ W, (isAgg t).run P W = .ok true W) (hs : (P.info? t).map (·.size) = some cs.length) (hdef : a.defers = []) (hR : R (.returned (.tuple #[.agg cs.toArray, v1])) w) : bodyPost P fn R .ret a w := by
  have hrun := run_loadAgg (P := P) (off := 0) (ha w) hs (M.pull hd).facts.1.2.1 (by omega : 0 + cs.length ≤ cs.length)
  simp only [List.drop_zero, List.take_length] at hrun
  refine ⟨hdef, _, ?_, hR⟩
  simp only [Array.getD_eq_getD_getElem?] at hx h1
  simp [results, hres, hx, h1, asAddr, hrun]
def NewPostM (r : Rn) (ok : Bool) (w0 : World) (f : List Nat) (L : List Asn) (e : Ending) (w' : World) : Prop := ∃ b : RA, e = .returned (.tuple #[.agg (runArr r b), .bool ok]) ∧ Mem w0 f w' (runA r b :: L)
set_option maxHeartbeats 2000000 in
theorem sRunNewM (id at_ : Int) (v : Vl) {w0 w : World} {f : List Nat} {L : List Asn} (M : Mem w0 f w L) :
    Calls Try.prog 10 #[.int .i64 id, .int .i64 at_, .agg #[.int .i64 v.k, .int .i64 v.n]] w (NewPostM (runNew id at_ v).1 (runNew id at_ v).2 w0 f L) := by
  have H1 := Lib.hid (fun W => sIn id 1 6 W)
  have H2 := Lib.hid (fun W => sTo at_ W)
  have H3 := Lib.hid (fun W => sValOk v W)
  have HN := Lib.hid (fun W (L : List Asn) (M : Mem w0 f W L) => sNewM id at_ v M)
  have HF : Hid (∀ W b, Mem w0 f W (runA (newRun id at_ v) b :: L) → NewPostM (newRun id at_ v) true w0 f L (.returned (.tuple #[.agg (runArr (newRun id at_ v) b), .bool true])) W) := fun W b M => ⟨b, rfl, M⟩
  have HZ : Hid (∀ W, Mem w0 f W L → NewPostM Rn.zero false w0 f L (.returned (.tuple #[.agg (runArr Rn.zero ⟨none, 0, none, 0, none, 0, none, 0⟩), .bool false])) W) := fun W M => ⟨_, rfl, zero_mem M⟩
  have hr : runNew id at_ v = if inB id 1 6 && inB at_ 0 15 && valOk v then (newRun id at_ v, true) else (Rn.zero, false) := rfl
  rw [hr]
  clear hr
  generalize inB id 1 6 = b1 at H1 ⊢
  generalize inB at_ 0 15 = b2 at H2 ⊢
  generalize valOk v = b3 at H3 ⊢
  generalize newRun id at_ v = q at HN HF ⊢
  obtain ⟨k, n⟩ := v
  have h4 : (b1 = true ∧ b2 = true ∧ b3 = true) ∨ b1 = false ∨ (b1 = true ∧ b2 = false) ∨ (b1 = true ∧ b2 = true ∧ b3 = false) := by cases b1 <;> cases b2 <;> cases b3 <;> simp
  simp only [runArr, Rn.zero, Vl.zero, List.length_nil] at H3 HN HF HZ
  rcases h4 with ⟨rfl, rfl, rfl⟩ | rfl | ⟨rfl, rfl⟩ | ⟨rfl, rfl, rfl⟩
  · clear HZ
    simp only [Bool.and_self, if_true]
    go_enter Try.func10, Try.ntmps10
    go_wp2_with (first
      | ((with_reducible refine goal_alloc (G := fun W => wpList _ _ _ _ _ W) M ?_); clear M; intro w1 M; (try clear F); have F := M.facts; simp only [FX] at F) | ((with_reducible apply ev_store (M := M)); rfl; rfl; ((conv => lhs; whnf) <;> rfl); rfl; (first | exact siI | exact siR | exact siV | exact siB | exact siSI | exact siSV | exact siW | exact siSR | exact siSO | exact siO); (exact one_all rfl); (repeat (first | with_reducible exact Del.here | with_reducible apply Del.there)); (exact Nat.le_of_ble_eq_true rfl); clear M; intro w1 M; simp only [SX] at M; (try clear F); have F := M.facts; simp only [FX] at F) | ((with_reducible refine goal_drewN (G := fun W => wpList _ _ _ _ _ W) M ?_); clear M; intro w1 M; (try clear F); have F := M.facts; simp only [FX] at F) | ((with_reducible refine goal_drew (G := fun W => wpList _ _ _ _ _ W) M ?_); clear M; intro w1 M; (try clear F); have F := M.facts; simp only [FX] at F) | ((with_reducible refine isSet (G := fun W => wpList _ _ _ _ _ W) ?_); ((with_reducible apply goal_name (G := fun W => wpList _ _ _ _ _ W)); (repeat (first | with_reducible exact M | with_reducible apply Mem.drew | with_reducible apply Mem.drewN | with_reducible apply Mem.allocD | with_reducible apply Mem.setV | with_reducible apply Mem.setD | with_reducible exact Del.here | with_reducible apply Del.there | with_reducible assumption)); clear M; intro w1 M; (try simp only [LX] at M); (try clear F); have F := M.facts; simp only [FX] at F))
      | (go_at_call 31; refine (H1.out _).mono ?_; rintro e w2 ⟨rfl, rfl⟩)
      | (go_at_call 32; refine (H2.out _).mono ?_; rintro e w2 ⟨rfl, rfl⟩)
      | (go_at_call 33; refine (H3.out _).mono ?_; rintro e w2 ⟨rfl, hb⟩; replace M := M.below hb; clear hb; (try clear F); have F := M.facts; simp only [FX] at F)
      | (go_at_call 34; refine (HN.out _ _ M).mono ?_; clear M; rintro e w2 ⟨⟨sA2, sC2, mA2, mC2, lA2, lC2, wA2, wC2⟩, rfl, M⟩; (try clear F); have F := M.facts; simp only [FX] at F))
    (apply goal_name (G := fun W => bodyPost _ _ _ _ _ W)); (repeat (first | with_reducible exact M | with_reducible apply Mem.drew | with_reducible apply Mem.drewN | with_reducible apply Mem.allocD | with_reducible apply Mem.setV | with_reducible apply Mem.setD | with_reducible exact Del.here | with_reducible apply Del.there | with_reducible assumption)); clear M; intro w1 M; (try simp only [LX] at M); (try clear F); have F := M.facts; simp only [FX] at F
    apply ret_ct (M := M); rfl; ((conv => lhs; whnf) <;> rfl); rfl; (repeat (first | with_reducible exact Del.here | with_reducible apply Del.there)); (first | exact agR | exact agV | exact agW | exact agO); (first | exact siI | exact siR | exact siV | exact siB | exact siSI | exact siSV | exact siW | exact siSR | exact siSO | exact siO); rfl
    exact HF.out _ ⟨_, _, _, _, _, _, _, _⟩ (M.sel (by repeat (first | with_reducible exact Sel.refl | with_reducible exact Sel.nil | (with_reducible refine Sel.cons (by repeat (first | with_reducible exact Del.here | with_reducible apply Del.there)) ?_) | with_reducible apply Sel.drop)))
  all_goals
    clear HF HN
    simp only [Bool.true_and, Bool.false_and, if_false, Bool.false_eq_true, Rn.zero, Vl.zero]
    go_enter Try.func10, Try.ntmps10
    go_wp2_with (first
      | ((with_reducible refine goal_alloc (G := fun W => wpList _ _ _ _ _ W) M ?_); clear M; intro w1 M; (try clear F); have F := M.facts; simp only [FX] at F) | ((with_reducible apply ev_store (M := M)); rfl; rfl; ((conv => lhs; whnf) <;> rfl); rfl; (first | exact siI | exact siR | exact siV | exact siB | exact siSI | exact siSV | exact siW | exact siSR | exact siSO | exact siO); (exact one_all rfl); (repeat (first | with_reducible exact Del.here | with_reducible apply Del.there)); (exact Nat.le_of_ble_eq_true rfl); clear M; intro w1 M; simp only [SX] at M; (try clear F); have F := M.facts; simp only [FX] at F) | ((with_reducible refine goal_drewN (G := fun W => wpList _ _ _ _ _ W) M ?_); clear M; intro w1 M; (try clear F); have F := M.facts; simp only [FX] at F) | ((with_reducible refine goal_drew (G := fun W => wpList _ _ _ _ _ W) M ?_); clear M; intro w1 M; (try clear F); have F := M.facts; simp only [FX] at F) | ((with_reducible refine isSet (G := fun W => wpList _ _ _ _ _ W) ?_); ((with_reducible apply goal_name (G := fun W => wpList _ _ _ _ _ W)); (repeat (first | with_reducible exact M | with_reducible apply Mem.drew | with_reducible apply Mem.drewN | with_reducible apply Mem.allocD | with_reducible apply Mem.setV | with_reducible apply Mem.setD | with_reducible exact Del.here | with_reducible apply Del.there | with_reducible assumption)); clear M; intro w1 M; (try simp only [LX] at M); (try clear F); have F := M.facts; simp only [FX] at F))
      | (go_at_call 31; refine (H1.out _).mono ?_; rintro e w2 ⟨rfl, rfl⟩)
      | (go_at_call 32; refine (H2.out _).mono ?_; rintro e w2 ⟨rfl, rfl⟩)
      | (go_at_call 33; refine (H3.out _).mono ?_; rintro e w2 ⟨rfl, hb⟩; replace M := M.below hb; clear hb; (try clear F); have F := M.facts; simp only [FX] at F))
    (apply goal_name (G := fun W => bodyPost _ _ _ _ _ W)); (repeat (first | with_reducible exact M | with_reducible apply Mem.drew | with_reducible apply Mem.drewN | with_reducible apply Mem.allocD | with_reducible apply Mem.setV | with_reducible apply Mem.setD | with_reducible exact Del.here | with_reducible apply Del.there | with_reducible assumption)); clear M; intro w1 M; (try simp only [LX] at M); (try clear F); have F := M.facts; simp only [FX] at F
    apply ret_ct (M := M); rfl; ((conv => lhs; whnf) <;> rfl); rfl; (repeat (first | with_reducible exact Del.here | with_reducible apply Del.there)); (first | exact agR | exact agV | exact agW | exact agO); (first | exact siI | exact siR | exact siV | exact siB | exact siSI | exact siSV | exact siW | exact siSR | exact siSO | exact siO); rfl
    exact HZ.out _ (M.sel (by repeat (first | with_reducible exact Sel.refl | with_reducible exact Sel.nil | (with_reducible refine Sel.cons (by repeat (first | with_reducible exact Del.here | with_reducible apply Del.there)) ?_) | with_reducible apply Sel.drop)))
end Go.Proofs.Ytemglijebbodkaa
