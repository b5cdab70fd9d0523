/- Parts of the proof, in one text. -/
import Derived.Test.YtmidnaafljgbiaaN37
import Derived.Test.YtmidnaafljgbiaaN42
import Derived.Test.YtmidnaafljgbiaaN29
import Derived.Test.YtmidnaafljgbiaaN30
import Derived.Test.YtmidnaafljgbiaaN31
import Derived.Test.YtmidnaafljgbiaaN32
import Derived.Test.YtmidnaafljgbiaaN43
import Derived.Test.YtmidnaafljgbiaaN44
/- The law FnExactWorldNew, walked. -/
namespace Go.Proofs.Ytmidnaafljgbiaa
open Go.RowKit
set_option maxRecDepth 100000

theorem newWorld_sizes (C : List Opx) (hC : C.length ≤ 1048576) : (if codeSafe C then newWorld C else Wd.zero).code.length ≤ 1048576 ∧ (if codeSafe C then newWorld C else Wd.zero).runs.length ≤ 1048576 ∧ (if codeSafe C then newWorld C else Wd.zero).queue.length ≤ 1048576 ∧ sizesR (if codeSafe C then newWorld C else Wd.zero).runs ≤ 100000000 := by
  split
  · exact ⟨hC, by simp [newWorld], by simp [newWorld], by simp [newWorld, sizesR, sizeR, newRun]⟩
  · exact ⟨by simp [Wd.zero], by simp [Wd.zero], by simp [Wd.zero], by simp [Wd.zero, sizesR]⟩
set_option maxHeartbeats 8000000 in
theorem fnExactWorldNew_walk (C : List Opx) (A : Option Addr) (cc : Nat) (w : World) (h : ReadsL encO 6 w w.heap.size A C.length C) (hn : C.length ≤ 140737488355328) :
    Calls Try.prog 4 #[.slice A C.length cc] w fun e w' => e = .returned (.bool true) ∧ Below w.heap.size w w' := by
  have HZ := Lib.hid (fun V => lSzOpS C 1048576 A cc V hn (by decide) (by decide))
  have M := Mem.nil w
  by_cases c : (1048576 : Int) - C.length < 0
  · simp only [if_pos c] at HZ
    go_enter Try.func4, Try.ntmps4
    go_wp2_with (first
      | (with_reducible refine alAw M ?_; clear M; (try clear F); intro w1 M F)
      | (go_at_call 22; refine (HZ.out _).mono ?_; rintro e w2 ⟨rfl, rfl⟩))
    go_ret
    exact ⟨rfl, M.toBelow⟩
  · simp only [if_neg c] at HZ
    have hC : C.length ≤ 1048576 := by omega
    obtain ⟨z, hz⟩ : ∃ z : Int, z = 1048576 - C.length := ⟨_, rfl⟩
    rw [← hz] at HZ c
    have c' : decide (z < 0) = false := by simpa using c
    have HT : Hid (∀ {V : World}, Below w.heap.size w V → Calls Try.prog 24 #[.slice A C.length cc] V fun e w' => ∃ (A' : Option Addr) (c' : Nat), e = .returned (.slice A' C.length c') ∧ Mem V [] w' [rowO A' c' C]) := fun {V} hb => lToOpS C A cc w.heap.size V (h.below hb) hb.size hC
    obtain ⟨R, hR⟩ : ∃ R : Wd, R = if codeSafe C then newWorld C else Wd.zero := ⟨_, rfl⟩
    have sz := newWorld_sizes C hC
    rw [← hR] at sz
    have HS : Hid (∀ {V : World} {L L' : List Asn} {A1 : Option Addr} {c1 : Nat}, Mem w [] V L → Del (rowO A1 c1 C) L L' → Calls Try.prog 23 #[.slice A1 C.length c1] V fun e w' => ∃ Y : Wm, Y.wd = R ∧ e = .returned (.tuple #[.agg (wArr Y), .bool (codeSafe C)]) ∧ Mem w [] w' (wld Y :: rowO A1 c1 C :: L')) := fun {V L L' A1 c1} M hd => by
      rw [hR]; exact sWorldNew C A1 c1 (M.pull hd) (by omega)
    have HI : Hid (∀ {V : World} {L L' : List Asn} {A1 : Option Addr} {c1 : Nat}, Mem w [] V L → Del (rowO A1 c1 C) L L' → Calls Try.prog 25 #[.slice A1 C.length c1] V fun e w' => ∃ Y : Wm, Y.wd = R ∧ e = .returned (.tuple #[.agg (wArr Y), .bool (codeSafe C)]) ∧ Mem w [] w' (wld Y :: rowO A1 c1 C :: L')) := fun {V L L' A1 c1} M hd => by
      rw [hR]; exact iWorldNew C A1 c1 (M.pull hd) (by omega)
    have HE : Hid (∀ {V : World} {L L' L2 : List Asn} {X Y : Wm}, X.wd = R → Y.wd = R → Mem w [] V L → Del (wld X) L L' → Del (wld Y) L L2 → Calls Try.prog 26 #[.agg (wArr X), .agg (wArr Y)] V fun e w' => e = .returned (.bool true) ∧ Below V.heap.size V w') := fun {V L L' L2 X Y} hX hY M hd hd' => lEqWorld X Y (hY.trans hX.symm) V.heap.size V (M.readsW hd) (M.readsW hd') (Nat.le_refl _)
    have HEO : Hid (∀ {V : World} {L L' L2 : List Asn} {A1 A2 : Option Addr} {c1 c2 : Nat}, Mem w [] V L → Del (rowO A1 c1 C) L L' → Del (rowO A2 c2 C) L L2 → Calls Try.prog 27 #[.slice A1 C.length c1, .slice A2 C.length c2] V fun e w' => e = .returned (.bool true) ∧ Below V.heap.size V w') := fun {V L L' L2 A1 A2 c1 c2} M hd hd' => lEqOpS C A1 A2 c1 c2 V.heap.size V (row_reads M hd).1 (row_reads M hd').1 (Nat.le_refl _)
    have HMO : Hid (∀ {V : World} {L L' : List Asn} {A1 : Option Addr} {c1 : Nat}, Mem w [] V L → Del (rowO A1 c1 C) L L' → Calls Try.prog 28 #[.slice A1 C.length c1, .int .i64 1] V fun e w' => ∃ z : Int, ¬ z < 0 ∧ e = .returned (.int .i64 z) ∧ Mem w [] w' L') := fun {V L L' A1 c1} M hd => by
      refine (lMarkOpS C A1 c1 1 M hd (by decide) (by decide) hn).mono ?_
      rintro e w' ⟨rfl, M⟩
      exact ⟨_, by omega, rfl, M.drop⟩
    have HMK : Hid (∀ {V : World} {L L' : List Asn} {X : Wm}, X.wd = R → Mem w [] V L → Del (wld X) L L' → Calls Try.prog 29 #[.agg (wArr X), .int .i64 1] V fun e w' => ∃ z : Int, ¬ z < 0 ∧ Hid (z = mkEnd 1 X) ∧ e = .returned (.int .i64 z) ∧ Mem w [] w' (wld (mkW 1 X) :: L')) := fun {V L L' X} hX M hd => lMarkKept R sz.1 sz.2.1 sz.2.2.1 sz.2.2.2 X hX M hd
    have HH : Hid (∀ {V : World} {L L' : List Asn} {X : Wm} {z : Int}, X.wd = R → z = mkEnd 1 X → Mem w [] V L → Del (wld (mkW 1 X)) L L' → Calls Try.prog 30 #[.agg (wArr X), .int .i64 1] V fun e w' => e = .returned (.int .i64 z) ∧ Below V.heap.size V w') := fun {V L L' X z} hX hz M hd => lHeldKept R sz.1 sz.2.1 sz.2.2.1 sz.2.2.2 X hX z hz M hd
    generalize codeSafe C = ok9 at HS HI
    have q9 : (ok9 != ok9) = false := by simp
    clear h hn sz hC hR hz c
    go_enter Try.func4, Try.ntmps4
    go_upto_region 6 with (first
      | (with_reducible refine alAw M ?_; clear M; (try clear F); intro w1 M F) | ((with_reducible apply ev_store (M := M)); rfl; rfl; ((conv => lhs; whnf) <;> rfl); rfl; (first | exact siI | exact siR | exact siV | exact siB | exact siSI | exact siSV | exact siW | exact siSR | exact siSO | exact siO); (exact one_all rfl); (exact dl); (exact Nat.le_of_ble_eq_true rfl); clear M; intro w1 M; simp only [SX] at M; (try clear F); have F := fxw M)
      | (go_at_call 22; refine (HZ.out _).mono ?_; rintro e w2 ⟨rfl, rfl⟩)
      | (go_at_call 24; (refine nmKw ?_; clear M; (try clear F); intro w1 M F); with_reducible refine (HT.out M.toBelow).mono ?_; rintro e w2 ⟨A1, c1, rfl, hm⟩; replace M := M.call0 hm; clear hm; (try clear F); have F := fxw M)
      | (go_at_call 23; (refine nmKw ?_; clear M; (try clear F); intro w1 M F); with_reducible refine (HS.out M dl).mono ?_; clear M; rintro e w2 ⟨Y, hY, rfl, M⟩; have hY := Lib.hid hY; (try clear F); have F := fxw M))
    go_upto_region 8 with (first
      | (with_reducible refine alAw M ?_; clear M; (try clear F); intro w1 M F) | ((with_reducible apply ev_store (M := M)); rfl; rfl; ((conv => lhs; whnf) <;> rfl); rfl; (first | exact siI | exact siR | exact siV | exact siB | exact siSI | exact siSV | exact siW | exact siSR | exact siSO | exact siO); (exact one_all rfl); (exact dl); (exact Nat.le_of_ble_eq_true rfl); clear M; intro w1 M; simp only [SX] at M; (try clear F); have F := fxw M)
      | (go_at_call 24; (refine nmKw ?_; clear M; (try clear F); intro w1 M F); with_reducible refine (HT.out M.toBelow).mono ?_; rintro e w2 ⟨A2, c2, rfl, hm⟩; replace M := M.call0 hm; clear hm; (try clear F); have F := fxw M)
      | (go_at_call 25; (refine nmKw ?_; clear M; (try clear F); intro w1 M F); with_reducible refine (HI.out M dl).mono ?_; clear M; rintro e w2 ⟨X, hX, rfl, M⟩; have hX := Lib.hid hX; (try clear F); have F := fxw M))
    go_upto_region 24 with (first
      | (go_at_call 26; (refine nmKw ?_; clear M; (try clear F); intro w1 M F); with_reducible refine (HE.out hX.out hY.out M dl dl).mono ?_; rintro e w2 ⟨rfl, hb⟩; replace M := M.below hb; clear hb; (try clear F); have F := fxw M)
      | (go_at_call 24; (refine nmKw ?_; clear M; (try clear F); intro w1 M F); with_reducible refine (HT.out M.toBelow).mono ?_; rintro e w2 ⟨A3, c3, rfl, hm⟩; replace M := M.call0 hm; clear hm; (try clear F); have F := fxw M)
      | (go_at_call 27; (refine nmKw ?_; clear M; (try clear F); intro w1 M F); with_reducible refine (HEO.out M dl dl).mono ?_; rintro e w2 ⟨rfl, hb⟩; replace M := M.below hb; clear hb; (try clear F); have F := fxw M)
      | (go_at_call 28; (refine nmKw ?_; clear M; (try clear F); intro w1 M F); with_reducible refine (HMO.out M dl).mono ?_; clear M; rintro e w2 ⟨zz, hzz, rfl, M⟩; (try clear F); have F := fxw M)
      | (go_at_call 29; (refine nmKw ?_; clear M; (try clear F); intro w1 M F); with_reducible refine (HMK.out hX.out M dl).mono ?_; clear M; rintro e w2 ⟨z2, hz2, hk2, rfl, M⟩; (try clear F); have F := fxw M)
      | (go_at_call 30; (refine nmKw ?_; clear M; (try clear F); intro w1 M F); with_reducible refine (HH.out hX.out hk2.out M dl).mono ?_; rintro e w2 ⟨rfl, hb⟩; replace M := M.below hb; clear hb; (try clear F); have F := fxw M))
    go_wp2_with (first
      | (with_reducible refine alAw M ?_; clear M; (try clear F); intro w1 M F) | ((with_reducible apply ev_store (M := M)); rfl; rfl; ((conv => lhs; whnf) <;> rfl); rfl; (first | exact siI | exact siR | exact siV | exact siB | exact siSI | exact siSV | exact siW | exact siSR | exact siSO | exact siO); (exact one_all rfl); (exact dl); (exact Nat.le_of_ble_eq_true rfl); clear M; intro w1 M; simp only [SX] at M; (try clear F); have F := fxw M)
      | (go_at_call 24; (refine nmKw ?_; clear M; (try clear F); intro w1 M F); with_reducible refine (HT.out M.toBelow).mono ?_; rintro e w2 ⟨A4, c4, rfl, hm⟩; replace M := M.call0 hm; clear hm; (try clear F); have F := fxw M)
      | (go_at_call 25; (refine nmKw ?_; clear M; (try clear F); intro w1 M F); with_reducible refine (HI.out M dl).mono ?_; clear M; rintro e w2 ⟨T, hT, rfl, M⟩; have hT := Lib.hid hT; (try clear F); have F := fxw M)
      | (go_at_call 26; (refine nmKw ?_; clear M; (try clear F); intro w1 M F); with_reducible refine (HE.out hT.out hY.out M dl dl).mono ?_; rintro e w2 ⟨rfl, hb⟩; replace M := M.below hb; clear hb; (try clear F); have F := fxw M)
      | (go_at_call 30; (refine nmKw ?_; clear M; (try clear F); intro w1 M F); with_reducible refine (HH.out hX.out hk2.out M dl).mono ?_; rintro e w2 ⟨rfl, hb⟩; replace M := M.below hb; clear hb; (try clear F); have F := fxw M))
    go_ret
    exact ⟨rfl, M.toBelow⟩
end Go.Proofs.Ytmidnaafljgbiaa
/- The law FnExactWorldNew returns true at all arguments, and its arguments read behind the call as before. -/
namespace Go.Proofs.Ytmidnaafljgbiaa.fnExactWorldNew
open Go.ChangeShapes Go.WideShapes Go.ChangeAt Go.RowKit
open Go.ChangeMaps (open_string shut_string)
theorem own : ownKnob Try.prog.godebug = none := by kernel_rfl
theorem laidOut : laidOutB Try.prog = true := by kernel_rfl

set_option maxRecDepth 100000 in
theorem lifted (os : Os) (started : os.Started) (H : Type) (enc : TypeId × Value → H) :
    ReturnsInHanded {} Try.checked os 4 .any (Rows.fnExactWorldNewSpec.pre6 enc Try.prog Try.f4 Rows.fnExactWorldNewRow.domain false) (Rows.fnExactWorldNewSpec.post enc Try.prog Try.f4 false true false false) := by
  refine returnsInHanded_of_change_sized (C := Try.checked) own started (by kernel_rfl) Try.func4
    (ChangeSpec.witness6 (enc := enc) (C := Try.checked) false ⟨#[], #[.slice none 0 0], []⟩ 8 (by kernel_rfl) (by kernel_rfl) (by kernel_rfl) (by kernel_rfl)) ?_
  intro W base args ds gs before hval0 hW hcnd hsz0 _
  have hsz : (DataW.weightsEach Try.prog (Try.f4.params.toList ++ Rows.fnExactWorldNewSpec.plain.varTypes Try.prog) (ds ++ gs)).all (· ≤ reachBytes) = true := hsz0
  have hval : ∀ (j : Nat) t v, Try.f4.params[j]? = some t → args[j]? = some v → Value.okWide Try.prog W .any base t v := hval0
  have hW' := hW
  obtain ⟨p, q, hA0, hV, rfl, hfz, hnd⟩ := hW
  have hA : DataW.TrodAll enc Try.prog W 0 (fun _ => true) true Try.f4.params.toList args.toList ds p := hA0
  rw [Try.params4] at hA hval hsz
  obtain ⟨v0, vs0, d0, ds0, p0, q0, hargs, rfl, rfl, h0, r0⟩ := trodAll_cons hA
  obtain ⟨rfl, rfl, rfl⟩ := trodAll_nil r0
  obtain rfl : args = #[v0] := by cases args; simp_all
  obtain ⟨rfl, rfl⟩ := trodVars_none hV
  have lt0 : ∀ x ∈ p0, x.block < W.heap.size := by obtain ⟨m, hm⟩ := h0; exact DataW.trod_lt m _ _ _ hm
  obtain ⟨Ao, xs, cap, rfl, hxl, hxr⟩ := open_opsA (hval 0 40 v0 rfl rfl) h0 (fun k hk => by
    have := List.all_eq_true.1 hsz _ (DataW.weights_mem_each (j := 0) rfl rfl k hk)
    simpa using this)
  clear hA0 hval0 hsz0 hsz
  refine (fnExactWorldNew_walk xs Ao cap W hxr (by omega)).mono fun e W' ⟨he, bel⟩ => ?_
  subst he
  exact ⟨_, rfl, _, _, _, [], _, [], hW', trodAll_mk1 (shut_bool Try.underlying4 _), (trodAll_cons_mk (Below.trod laidOut (by kernel_rfl) (of_decide_eq_true (by kernel_rfl)) h0 bel lt0) trodAll_mk0), rfl, bel.frame _, fun h => by cases h⟩

theorem over : Rows.fnExactWorldNewRow.holds Try.pinned (OpenSpec.ofChange Rows.fnExactWorldNewSpec) :=
  OpenClaim.holds_of_wide 4 Try.f4 rfl rfl rfl rfl rfl rfl rfl ⟨rfl, rfl, rfl, rfl, rfl⟩ rfl rfl rfl rfl rfl (by kernel_rfl) Try.func4 (by kernel_rfl)
    (of_decide_eq_true (by kernel_rfl)) (by unfold Func.isWrapper; first | (rw [if_pos (by decide +kernel)]; kernel_rfl) | (rw [if_neg (by decide +kernel)]; exact ⟨rfl, rfl⟩))
    (fun os started H enc _ => lifted os started H enc)
theorem proved : Rows.FnExactWorldNewSaid := over
#print axioms proved
end Go.Proofs.Ytmidnaafljgbiaa.fnExactWorldNew
