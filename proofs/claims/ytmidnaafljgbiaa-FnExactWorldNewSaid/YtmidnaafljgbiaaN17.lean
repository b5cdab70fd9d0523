/- Parts of the proof, in one text. -/
import Derived.Lib.OthersKept
import Derived.LoopN
import Derived.Test.YtmidnaafljgbiaaN16
import Derived.Test.YtmidnaafljgbiaaN04
/- The ways from a step, by the program's text. -/
namespace Go.Proofs.Ytmidnaafljgbiaa
open Go.RowKit
set_option maxRecDepth 100000

/-- What a way does with the slots that are full. -/
inductive Fk
  | same
  | fill (g : Nat)
  | one
def fnV : Fk → Value
  | .same => .func (.func 133) #[] #[]
  | .fill g => .func (.func 134) #[] #[.pointer (some ⟨g, 0, none⟩)]
  | .one => .func (.func 135) #[] #[]
structure Arw where
  to : Int
  fn : Fk
def encA (x : Arw) : List Value := [.int .i64 x.to, fnV x.fn]
theorem encA_length (x : Arw) : (encA x).length = 2 := rfl
theorem oneA (x : Arw) : ∀ u ∈ encA x, u.oneCell' = true := by
  intro u hu
  obtain ⟨to, fn⟩ := x
  simp only [encA, List.mem_cons, List.not_mem_nil, or_false] at hu
  rcases hu with rfl | rfl
  · rfl
  · cases fn <;> rfl
theorem infA : (Try.prog.info? 125).map (fun i => (i.zero.map (·.cells.size), i.size, i.bytes)) = some (some 2, 2, 16) := by kernel_rfl
def nextWay (o : Opx) (n at_ g : Nat) : List Arw := if o.k ≠ 9 ∧ o.k ≠ 14 ∧ at_ + 1 < n then [⟨(at_ : Int) + 1, if fillsR o.k then .fill g else .same⟩] else []
def goWay (o : Opx) : List Arw := if o.k = 5 then [⟨o.to, .one⟩] else if formAt o.k 2 then [⟨o.to, .same⟩] else []
def arrowsOf (o : Opx) (n at_ g : Nat) : List Arw := nextWay o n at_ g ++ goWay o
def ArrPost (C : List Opx) (o : Opx) (k : Nat) (w0 : World) (f : List Nat) (L : List Asn) (e : Ending) (w' : World) : Prop :=
  ∃ (g : Nat) (A : Option Addr) (c : Nat), e = .returned (.slice A (arrowsOf o C.length k g).length c) ∧ Mem w0 f w' (row encA 2 125 A c (arrowsOf o C.length k g) :: blk g tO (encO o) :: L)
theorem Mem.drop2 {w0 w : World} {f : List Nat} {A B : Asn} {L : List Asn} (M : Mem w0 f w (A :: B :: L)) : Mem w0 f w (A :: L) := (M.perm (.swap B A L)).drop
set_option maxHeartbeats 2000000 in
theorem iArrows (C : List Opx) (cA : Option Addr) (cC k : Nat) (hk : k < C.length) (h16 : C.length ≤ 16) {w0 w : World} {f : List Nat} {L L' : List Asn} (M : Mem w0 f w L) (hd : Del (rowO cA cC C) L L') :
    Calls Try.prog 120 #[.slice cA C.length cC, .int .i64 (k : Int)] w (ArrPost C C[k] k w0 f L) := by
  obtain ⟨ga, rfl⟩ := row_form M hd (by omega)
  have E0 := elemO0 M hd hk
  have HF : Hid (∀ V g A c n, n = (arrowsOf C[k] C.length k g).length → Mem w0 f V (row encA 2 125 A c (arrowsOf C[k] C.length k g) :: blk g tO (encO C[k]) :: L) → ArrPost C C[k] k w0 f L (.returned (.slice A n c)) V) := fun V g A c n hn M => ⟨g, A, c, by rw [hn], M⟩
  have HH := Lib.hid (fun V (L : List Asn) (M : Mem w0 f V L) => iHow C[k] M)
  have HA := Lib.hid (fun V => iHas C[k] 84 V)
  rw [(hasB_form C[k].k).2.2.1] at HA
  obtain ⟨b4, hb4⟩ : ∃ b, fillsR C[k].k = b := ⟨_, rfl⟩
  obtain ⟨ft, hft⟩ : ∃ b, formAt C[k].k 2 = b := ⟨_, rfl⟩
  have AR : ∀ g, arrowsOf C[k] C.length k g = (if C[k].k ≠ 9 ∧ C[k].k ≠ 14 ∧ k + 1 < C.length then [⟨(k : Int) + 1, if b4 then .fill g else .same⟩] else []) ++ (if C[k].k = 5 then [⟨C[k].to, .one⟩] else if ft then [⟨C[k].to, .same⟩] else []) := by
    intro g
    rw [← hb4, ← hft]
    rfl
  simp only [AR] at HF
  rw [hft] at HA
  simp only [howArr, hb4] at HH
  clear AR hb4 hft
  have i1 : (0 : Int) ≤ k := by omega
  have i3 : (k : Int) < C.length := by omega
  have i4 : IntKind.i64.wrap ((k : Int) + 1) = (k : Int) + 1 := by rw [IntKind.wrap_i64]; omega
  obtain ⟨n, hn⟩ : ∃ n, C.length = n := ⟨_, rfl⟩
  have hi : k < n := by omega
  simp only [hn] at *
  generalize C[k] = o at *
  replace M := M.nilRow (enc := encA) (m := 2) (t := 125)
  clear hd h16 hn
  clear hk
  obtain ⟨kk, r, s, to, ⟨vk, vn⟩⟩ := o
  simp only [opArr] at HH HA HF E0
  generalize wordOf kk = z1 at HH
  generalize hasOf kk = z2 at HH
  generalize readsOf kk = z3 at HH
  obtain ⟨E1a, E1b, E1c, E1d, E1e, E1f⟩ := E0
  have f3 := fieldM3 z1 z2 z3 b4
  by_cases h9 : kk = 9
  · subst h9
    simp only [ne_eq, not_true_eq_false, false_and, if_false, List.nil_append, show ¬ ((9:Int) = 5) by decide] at HF
    --[1
    cases ft with
    | true =>
      simp only [if_true] at HF
      (go_enter Try.func120, Try.ntmps120; go_wp2_with (first | ((with_reducible refine alA M ?_; clear M; (try clear F); intro w1 M F); ((with_reducible apply ev_app1 (enc := encA) (v := ⟨(k:Int)+1, .same⟩) (hk := encA_length) (hone := oneA) (h0 := by decide) (hinfo := infA) (ht := Try.underlying122) (M := M)); rfl; rfl; (exact dl); (exact dl); rfl; rfl; (exact Nat.le_of_ble_eq_true rfl); (exact Nat.le_of_ble_eq_true rfl); clear M; intro A1 c1 w1 M; replace M := Mem.drop2 M; (simp only [List.nil_append, List.cons_append] at M); (try clear F); have F := fx M)) | ((with_reducible refine alA M ?_; clear M; (try clear F); intro w1 M F); ((with_reducible apply ev_app1 (enc := encA) (v := ⟨(k:Int)+1, .fill w.heap.size⟩) (hk := encA_length) (hone := oneA) (h0 := by decide) (hinfo := infA) (ht := Try.underlying122) (M := M)); rfl; rfl; (exact dl); (exact dl); rfl; rfl; (exact Nat.le_of_ble_eq_true rfl); (exact Nat.le_of_ble_eq_true rfl); clear M; intro A1 c1 w1 M; replace M := Mem.drop2 M; (simp only [List.nil_append, List.cons_append] at M); (try clear F); have F := fx M)) | ((with_reducible refine alA M ?_; clear M; (try clear F); intro w1 M F); ((with_reducible apply ev_app1 (enc := encA) (v := ⟨to, .one⟩) (hk := encA_length) (hone := oneA) (h0 := by decide) (hinfo := infA) (ht := Try.underlying122) (M := M)); rfl; rfl; (exact dl); (exact dl); rfl; rfl; (exact Nat.le_of_ble_eq_true rfl); (exact Nat.le_of_ble_eq_true rfl); clear M; intro A1 c1 w1 M; replace M := Mem.drop2 M; (simp only [List.nil_append, List.cons_append] at M); (try clear F); have F := fx M)) | ((with_reducible refine alA M ?_; clear M; (try clear F); intro w1 M F); ((with_reducible apply ev_app1 (enc := encA) (v := ⟨to, .same⟩) (hk := encA_length) (hone := oneA) (h0 := by decide) (hinfo := infA) (ht := Try.underlying122) (M := M)); rfl; rfl; (exact dl); (exact dl); rfl; rfl; (exact Nat.le_of_ble_eq_true rfl); (exact Nat.le_of_ble_eq_true rfl); clear M; intro A1 c1 w1 M; replace M := Mem.drop2 M; (simp only [List.nil_append] at M); (try clear F); have F := fx M)) | (with_reducible refine alA M ?_; clear M; (try clear F); intro w1 M F) | ((with_reducible apply ev_store (M := M)); rfl; rfl; ((conv => lhs; whnf) <;> rfl); rfl; (first | exact siI | exact siR | exact siV | exact siB | exact siSI | exact siSV | exact siW | exact siSR | exact siSO | exact siO); (exact one_all rfl); (exact dl); (exact Nat.le_of_ble_eq_true rfl); clear M; intro w1 M; simp only [SX] at M; (try clear F); have F := fx M) | (go_at_call 122; (refine nmK ?_; clear M; (try clear F); intro w1 M F); refine (HH.out _ _ M).mono ?_; clear M; rintro e w2 ⟨rfl, M⟩; (try clear F); have F := fx M) | (go_at_call 118; (refine nmK ?_; clear M; (try clear F); intro w1 M F); refine (HA.out _).mono ?_; rintro e w2 ⟨rfl, hb⟩; replace M := M.below hb; clear hb; (try clear F); have F := fx M)); go_ret)
      (first | exact HF.out _ _ _ _ _ rfl (M.perm (.swap _ _ _)) | exact HF.out _ _ _ _ _ rfl M)
    | false =>
      simp only [if_false, Bool.false_eq_true] at HF
      (go_enter Try.func120, Try.ntmps120; go_wp2_with (first | ((with_reducible refine alA M ?_; clear M; (try clear F); intro w1 M F); ((with_reducible apply ev_app1 (enc := encA) (v := ⟨(k:Int)+1, .same⟩) (hk := encA_length) (hone := oneA) (h0 := by decide) (hinfo := infA) (ht := Try.underlying122) (M := M)); rfl; rfl; (exact dl); (exact dl); rfl; rfl; (exact Nat.le_of_ble_eq_true rfl); (exact Nat.le_of_ble_eq_true rfl); clear M; intro A1 c1 w1 M; replace M := Mem.drop2 M; (simp only [List.nil_append, List.cons_append] at M); (try clear F); have F := fx M)) | ((with_reducible refine alA M ?_; clear M; (try clear F); intro w1 M F); ((with_reducible apply ev_app1 (enc := encA) (v := ⟨(k:Int)+1, .fill w.heap.size⟩) (hk := encA_length) (hone := oneA) (h0 := by decide) (hinfo := infA) (ht := Try.underlying122) (M := M)); rfl; rfl; (exact dl); (exact dl); rfl; rfl; (exact Nat.le_of_ble_eq_true rfl); (exact Nat.le_of_ble_eq_true rfl); clear M; intro A1 c1 w1 M; replace M := Mem.drop2 M; (simp only [List.nil_append, List.cons_append] at M); (try clear F); have F := fx M)) | ((with_reducible refine alA M ?_; clear M; (try clear F); intro w1 M F); ((with_reducible apply ev_app1 (enc := encA) (v := ⟨to, .one⟩) (hk := encA_length) (hone := oneA) (h0 := by decide) (hinfo := infA) (ht := Try.underlying122) (M := M)); rfl; rfl; (exact dl); (exact dl); rfl; rfl; (exact Nat.le_of_ble_eq_true rfl); (exact Nat.le_of_ble_eq_true rfl); clear M; intro A1 c1 w1 M; replace M := Mem.drop2 M; (simp only [List.nil_append, List.cons_append] at M); (try clear F); have F := fx M)) | ((with_reducible refine alA M ?_; clear M; (try clear F); intro w1 M F); ((with_reducible apply ev_app1 (enc := encA) (v := ⟨to, .same⟩) (hk := encA_length) (hone := oneA) (h0 := by decide) (hinfo := infA) (ht := Try.underlying122) (M := M)); rfl; rfl; (exact dl); (exact dl); rfl; rfl; (exact Nat.le_of_ble_eq_true rfl); (exact Nat.le_of_ble_eq_true rfl); clear M; intro A1 c1 w1 M; replace M := Mem.drop2 M; (simp only [List.nil_append, List.cons_append] at M); (try clear F); have F := fx M)) | (with_reducible refine alA M ?_; clear M; (try clear F); intro w1 M F) | ((with_reducible apply ev_store (M := M)); rfl; rfl; ((conv => lhs; whnf) <;> rfl); rfl; (first | exact siI | exact siR | exact siV | exact siB | exact siSI | exact siSV | exact siW | exact siSR | exact siSO | exact siO); (exact one_all rfl); (exact dl); (exact Nat.le_of_ble_eq_true rfl); clear M; intro w1 M; simp only [SX] at M; (try clear F); have F := fx M) | (go_at_call 122; (refine nmK ?_; clear M; (try clear F); intro w1 M F); refine (HH.out _ _ M).mono ?_; clear M; rintro e w2 ⟨rfl, M⟩; (try clear F); have F := fx M) | (go_at_call 118; (refine nmK ?_; clear M; (try clear F); intro w1 M F); refine (HA.out _).mono ?_; rintro e w2 ⟨rfl, hb⟩; replace M := M.below hb; clear hb; (try clear F); have F := fx M)); go_ret)
      (first | exact HF.out _ _ _ _ _ rfl (M.perm (.swap _ _ _)) | exact HF.out _ _ _ _ _ rfl M)
    --]1
  by_cases h14 : kk = 14
  · subst h14
    simp only [ne_eq, not_true_eq_false, false_and, and_false, if_false, List.nil_append, show ¬ ((14:Int) = 5) by decide] at HF
    --[2
    cases ft with
    | true =>
      simp only [if_true] at HF
      (go_enter Try.func120, Try.ntmps120; go_wp2_with (first | ((with_reducible refine alA M ?_; clear M; (try clear F); intro w1 M F); ((with_reducible apply ev_app1 (enc := encA) (v := ⟨(k:Int)+1, .same⟩) (hk := encA_length) (hone := oneA) (h0 := by decide) (hinfo := infA) (ht := Try.underlying122) (M := M)); rfl; rfl; (exact dl); (exact dl); rfl; rfl; (exact Nat.le_of_ble_eq_true rfl); (exact Nat.le_of_ble_eq_true rfl); clear M; intro A1 c1 w1 M; replace M := Mem.drop2 M; (simp only [List.nil_append, List.cons_append] at M); (try clear F); have F := fx M)) | ((with_reducible refine alA M ?_; clear M; (try clear F); intro w1 M F); ((with_reducible apply ev_app1 (enc := encA) (v := ⟨(k:Int)+1, .fill w.heap.size⟩) (hk := encA_length) (hone := oneA) (h0 := by decide) (hinfo := infA) (ht := Try.underlying122) (M := M)); rfl; rfl; (exact dl); (exact dl); rfl; rfl; (exact Nat.le_of_ble_eq_true rfl); (exact Nat.le_of_ble_eq_true rfl); clear M; intro A1 c1 w1 M; replace M := Mem.drop2 M; (simp only [List.nil_append, List.cons_append] at M); (try clear F); have F := fx M)) | ((with_reducible refine alA M ?_; clear M; (try clear F); intro w1 M F); ((with_reducible apply ev_app1 (enc := encA) (v := ⟨to, .one⟩) (hk := encA_length) (hone := oneA) (h0 := by decide) (hinfo := infA) (ht := Try.underlying122) (M := M)); rfl; rfl; (exact dl); (exact dl); rfl; rfl; (exact Nat.le_of_ble_eq_true rfl); (exact Nat.le_of_ble_eq_true rfl); clear M; intro A1 c1 w1 M; replace M := Mem.drop2 M; (simp only [List.nil_append, List.cons_append] at M); (try clear F); have F := fx M)) | ((with_reducible refine alA M ?_; clear M; (try clear F); intro w1 M F); ((with_reducible apply ev_app1 (enc := encA) (v := ⟨to, .same⟩) (hk := encA_length) (hone := oneA) (h0 := by decide) (hinfo := infA) (ht := Try.underlying122) (M := M)); rfl; rfl; (exact dl); (exact dl); rfl; rfl; (exact Nat.le_of_ble_eq_true rfl); (exact Nat.le_of_ble_eq_true rfl); clear M; intro A1 c1 w1 M; replace M := Mem.drop2 M; (simp only [List.nil_append] at M); (try clear F); have F := fx M)) | (with_reducible refine alA M ?_; clear M; (try clear F); intro w1 M F) | ((with_reducible apply ev_store (M := M)); rfl; rfl; ((conv => lhs; whnf) <;> rfl); rfl; (first | exact siI | exact siR | exact siV | exact siB | exact siSI | exact siSV | exact siW | exact siSR | exact siSO | exact siO); (exact one_all rfl); (exact dl); (exact Nat.le_of_ble_eq_true rfl); clear M; intro w1 M; simp only [SX] at M; (try clear F); have F := fx M) | (go_at_call 122; (refine nmK ?_; clear M; (try clear F); intro w1 M F); refine (HH.out _ _ M).mono ?_; clear M; rintro e w2 ⟨rfl, M⟩; (try clear F); have F := fx M) | (go_at_call 118; (refine nmK ?_; clear M; (try clear F); intro w1 M F); refine (HA.out _).mono ?_; rintro e w2 ⟨rfl, hb⟩; replace M := M.below hb; clear hb; (try clear F); have F := fx M)); go_ret)
      (first | exact HF.out _ _ _ _ _ rfl (M.perm (.swap _ _ _)) | exact HF.out _ _ _ _ _ rfl M)
    | false =>
      simp only [if_false, Bool.false_eq_true] at HF
      (go_enter Try.func120, Try.ntmps120; go_wp2_with (first | ((with_reducible refine alA M ?_; clear M; (try clear F); intro w1 M F); ((with_reducible apply ev_app1 (enc := encA) (v := ⟨(k:Int)+1, .same⟩) (hk := encA_length) (hone := oneA) (h0 := by decide) (hinfo := infA) (ht := Try.underlying122) (M := M)); rfl; rfl; (exact dl); (exact dl); rfl; rfl; (exact Nat.le_of_ble_eq_true rfl); (exact Nat.le_of_ble_eq_true rfl); clear M; intro A1 c1 w1 M; replace M := Mem.drop2 M; (simp only [List.nil_append, List.cons_append] at M); (try clear F); have F := fx M)) | ((with_reducible refine alA M ?_; clear M; (try clear F); intro w1 M F); ((with_reducible apply ev_app1 (enc := encA) (v := ⟨(k:Int)+1, .fill w.heap.size⟩) (hk := encA_length) (hone := oneA) (h0 := by decide) (hinfo := infA) (ht := Try.underlying122) (M := M)); rfl; rfl; (exact dl); (exact dl); rfl; rfl; (exact Nat.le_of_ble_eq_true rfl); (exact Nat.le_of_ble_eq_true rfl); clear M; intro A1 c1 w1 M; replace M := Mem.drop2 M; (simp only [List.nil_append, List.cons_append] at M); (try clear F); have F := fx M)) | ((with_reducible refine alA M ?_; clear M; (try clear F); intro w1 M F); ((with_reducible apply ev_app1 (enc := encA) (v := ⟨to, .one⟩) (hk := encA_length) (hone := oneA) (h0 := by decide) (hinfo := infA) (ht := Try.underlying122) (M := M)); rfl; rfl; (exact dl); (exact dl); rfl; rfl; (exact Nat.le_of_ble_eq_true rfl); (exact Nat.le_of_ble_eq_true rfl); clear M; intro A1 c1 w1 M; replace M := Mem.drop2 M; (simp only [List.nil_append, List.cons_append] at M); (try clear F); have F := fx M)) | ((with_reducible refine alA M ?_; clear M; (try clear F); intro w1 M F); ((with_reducible apply ev_app1 (enc := encA) (v := ⟨to, .same⟩) (hk := encA_length) (hone := oneA) (h0 := by decide) (hinfo := infA) (ht := Try.underlying122) (M := M)); rfl; rfl; (exact dl); (exact dl); rfl; rfl; (exact Nat.le_of_ble_eq_true rfl); (exact Nat.le_of_ble_eq_true rfl); clear M; intro A1 c1 w1 M; replace M := Mem.drop2 M; (simp only [List.nil_append, List.cons_append] at M); (try clear F); have F := fx M)) | (with_reducible refine alA M ?_; clear M; (try clear F); intro w1 M F) | ((with_reducible apply ev_store (M := M)); rfl; rfl; ((conv => lhs; whnf) <;> rfl); rfl; (first | exact siI | exact siR | exact siV | exact siB | exact siSI | exact siSV | exact siW | exact siSR | exact siSO | exact siO); (exact one_all rfl); (exact dl); (exact Nat.le_of_ble_eq_true rfl); clear M; intro w1 M; simp only [SX] at M; (try clear F); have F := fx M) | (go_at_call 122; (refine nmK ?_; clear M; (try clear F); intro w1 M F); refine (HH.out _ _ M).mono ?_; clear M; rintro e w2 ⟨rfl, M⟩; (try clear F); have F := fx M) | (go_at_call 118; (refine nmK ?_; clear M; (try clear F); intro w1 M F); refine (HA.out _).mono ?_; rintro e w2 ⟨rfl, hb⟩; replace M := M.below hb; clear hb; (try clear F); have F := fx M)); go_ret)
      (first | exact HF.out _ _ _ _ _ rfl (M.perm (.swap _ _ _)) | exact HF.out _ _ _ _ _ rfl M)
    --]2
  by_cases hlt : k + 1 < n
  · have i5 : (k : Int) + 1 < n := by omega
    by_cases h5 : kk = 5
    · subst h5
      simp only [show ¬ ((5:Int) = 9) by decide, show ¬ ((5:Int) = 14) by decide, ne_eq, not_false_eq_true, true_and, hlt, if_true] at HF
      --[3
      cases b4 with
      | true =>
        simp only [if_true, List.cons_append, List.nil_append] at HF
        (go_enter Try.func120, Try.ntmps120; go_wp2_with (first | ((with_reducible refine alA M ?_; clear M; (try clear F); intro w1 M F); ((with_reducible apply ev_app1 (enc := encA) (v := ⟨(k:Int)+1, .same⟩) (hk := encA_length) (hone := oneA) (h0 := by decide) (hinfo := infA) (ht := Try.underlying122) (M := M)); rfl; rfl; (exact dl); (exact dl); rfl; rfl; (exact Nat.le_of_ble_eq_true rfl); (exact Nat.le_of_ble_eq_true rfl); clear M; intro A1 c1 w1 M; replace M := Mem.drop2 M; (simp only [List.nil_append, List.cons_append] at M); (try clear F); have F := fx M)) | ((with_reducible refine alA M ?_; clear M; (try clear F); intro w1 M F); ((with_reducible apply ev_app1 (enc := encA) (v := ⟨(k:Int)+1, .fill w.heap.size⟩) (hk := encA_length) (hone := oneA) (h0 := by decide) (hinfo := infA) (ht := Try.underlying122) (M := M)); rfl; rfl; (exact dl); (exact dl); rfl; rfl; (exact Nat.le_of_ble_eq_true rfl); (exact Nat.le_of_ble_eq_true rfl); clear M; intro A1 c1 w1 M; replace M := Mem.drop2 M; (simp only [List.nil_append] at M); (try clear F); have F := fx M)) | ((with_reducible refine alA M ?_; clear M; (try clear F); intro w1 M F); ((with_reducible apply ev_app1 (enc := encA) (v := ⟨to, .one⟩) (hk := encA_length) (hone := oneA) (h0 := by decide) (hinfo := infA) (ht := Try.underlying122) (M := M)); rfl; rfl; (exact dl); (exact dl); rfl; rfl; (exact Nat.le_of_ble_eq_true rfl); (exact Nat.le_of_ble_eq_true rfl); clear M; intro A1 c1 w1 M; replace M := Mem.drop2 M; (simp only [List.nil_append, List.cons_append] at M); (try clear F); have F := fx M)) | ((with_reducible refine alA M ?_; clear M; (try clear F); intro w1 M F); ((with_reducible apply ev_app1 (enc := encA) (v := ⟨to, .same⟩) (hk := encA_length) (hone := oneA) (h0 := by decide) (hinfo := infA) (ht := Try.underlying122) (M := M)); rfl; rfl; (exact dl); (exact dl); rfl; rfl; (exact Nat.le_of_ble_eq_true rfl); (exact Nat.le_of_ble_eq_true rfl); clear M; intro A1 c1 w1 M; replace M := Mem.drop2 M; (simp only [List.nil_append, List.cons_append] at M); (try clear F); have F := fx M)) | (with_reducible refine alA M ?_; clear M; (try clear F); intro w1 M F) | ((with_reducible apply ev_store (M := M)); rfl; rfl; ((conv => lhs; whnf) <;> rfl); rfl; (first | exact siI | exact siR | exact siV | exact siB | exact siSI | exact siSV | exact siW | exact siSR | exact siSO | exact siO); (exact one_all rfl); (exact dl); (exact Nat.le_of_ble_eq_true rfl); clear M; intro w1 M; simp only [SX] at M; (try clear F); have F := fx M) | (go_at_call 122; (refine nmK ?_; clear M; (try clear F); intro w1 M F); refine (HH.out _ _ M).mono ?_; clear M; rintro e w2 ⟨rfl, M⟩; (try clear F); have F := fx M) | (go_at_call 118; (refine nmK ?_; clear M; (try clear F); intro w1 M F); refine (HA.out _).mono ?_; rintro e w2 ⟨rfl, hb⟩; replace M := M.below hb; clear hb; (try clear F); have F := fx M)); go_ret)
        (first | exact HF.out _ _ _ _ _ rfl (M.perm (.swap _ _ _)) | exact HF.out _ _ _ _ _ rfl M)
      | false =>
        simp only [if_false, Bool.false_eq_true, List.cons_append, List.nil_append] at HF
        (go_enter Try.func120, Try.ntmps120; go_wp2_with (first | ((with_reducible refine alA M ?_; clear M; (try clear F); intro w1 M F); ((with_reducible apply ev_app1 (enc := encA) (v := ⟨(k:Int)+1, .same⟩) (hk := encA_length) (hone := oneA) (h0 := by decide) (hinfo := infA) (ht := Try.underlying122) (M := M)); rfl; rfl; (exact dl); (exact dl); rfl; rfl; (exact Nat.le_of_ble_eq_true rfl); (exact Nat.le_of_ble_eq_true rfl); clear M; intro A1 c1 w1 M; replace M := Mem.drop2 M; (simp only [List.nil_append] at M); (try clear F); have F := fx M)) | ((with_reducible refine alA M ?_; clear M; (try clear F); intro w1 M F); ((with_reducible apply ev_app1 (enc := encA) (v := ⟨(k:Int)+1, .fill w.heap.size⟩) (hk := encA_length) (hone := oneA) (h0 := by decide) (hinfo := infA) (ht := Try.underlying122) (M := M)); rfl; rfl; (exact dl); (exact dl); rfl; rfl; (exact Nat.le_of_ble_eq_true rfl); (exact Nat.le_of_ble_eq_true rfl); clear M; intro A1 c1 w1 M; replace M := Mem.drop2 M; (simp only [List.nil_append, List.cons_append] at M); (try clear F); have F := fx M)) | ((with_reducible refine alA M ?_; clear M; (try clear F); intro w1 M F); ((with_reducible apply ev_app1 (enc := encA) (v := ⟨to, .one⟩) (hk := encA_length) (hone := oneA) (h0 := by decide) (hinfo := infA) (ht := Try.underlying122) (M := M)); rfl; rfl; (exact dl); (exact dl); rfl; rfl; (exact Nat.le_of_ble_eq_true rfl); (exact Nat.le_of_ble_eq_true rfl); clear M; intro A1 c1 w1 M; replace M := Mem.drop2 M; (simp only [List.nil_append, List.cons_append] at M); (try clear F); have F := fx M)) | ((with_reducible refine alA M ?_; clear M; (try clear F); intro w1 M F); ((with_reducible apply ev_app1 (enc := encA) (v := ⟨to, .same⟩) (hk := encA_length) (hone := oneA) (h0 := by decide) (hinfo := infA) (ht := Try.underlying122) (M := M)); rfl; rfl; (exact dl); (exact dl); rfl; rfl; (exact Nat.le_of_ble_eq_true rfl); (exact Nat.le_of_ble_eq_true rfl); clear M; intro A1 c1 w1 M; replace M := Mem.drop2 M; (simp only [List.nil_append, List.cons_append] at M); (try clear F); have F := fx M)) | (with_reducible refine alA M ?_; clear M; (try clear F); intro w1 M F) | ((with_reducible apply ev_store (M := M)); rfl; rfl; ((conv => lhs; whnf) <;> rfl); rfl; (first | exact siI | exact siR | exact siV | exact siB | exact siSI | exact siSV | exact siW | exact siSR | exact siSO | exact siO); (exact one_all rfl); (exact dl); (exact Nat.le_of_ble_eq_true rfl); clear M; intro w1 M; simp only [SX] at M; (try clear F); have F := fx M) | (go_at_call 122; (refine nmK ?_; clear M; (try clear F); intro w1 M F); refine (HH.out _ _ M).mono ?_; clear M; rintro e w2 ⟨rfl, M⟩; (try clear F); have F := fx M) | (go_at_call 118; (refine nmK ?_; clear M; (try clear F); intro w1 M F); refine (HA.out _).mono ?_; rintro e w2 ⟨rfl, hb⟩; replace M := M.below hb; clear hb; (try clear F); have F := fx M)); go_ret)
        (first | exact HF.out _ _ _ _ _ rfl (M.perm (.swap _ _ _)) | exact HF.out _ _ _ _ _ rfl M)
      --]3
    simp only [h9, h14, h5, ne_eq, not_false_eq_true, true_and, hlt, if_true, if_false] at HF
    cases b4 with
    | true =>
      cases ft with
      | true =>
        --[4
        simp only [if_true, List.cons_append, List.nil_append] at HF
        (go_enter Try.func120, Try.ntmps120; go_wp2_with (first | ((with_reducible refine alA M ?_; clear M; (try clear F); intro w1 M F); ((with_reducible apply ev_app1 (enc := encA) (v := ⟨(k:Int)+1, .same⟩) (hk := encA_length) (hone := oneA) (h0 := by decide) (hinfo := infA) (ht := Try.underlying122) (M := M)); rfl; rfl; (exact dl); (exact dl); rfl; rfl; (exact Nat.le_of_ble_eq_true rfl); (exact Nat.le_of_ble_eq_true rfl); clear M; intro A1 c1 w1 M; replace M := Mem.drop2 M; (simp only [List.nil_append, List.cons_append] at M); (try clear F); have F := fx M)) | ((with_reducible refine alA M ?_; clear M; (try clear F); intro w1 M F); ((with_reducible apply ev_app1 (enc := encA) (v := ⟨(k:Int)+1, .fill w.heap.size⟩) (hk := encA_length) (hone := oneA) (h0 := by decide) (hinfo := infA) (ht := Try.underlying122) (M := M)); rfl; rfl; (exact dl); (exact dl); rfl; rfl; (exact Nat.le_of_ble_eq_true rfl); (exact Nat.le_of_ble_eq_true rfl); clear M; intro A1 c1 w1 M; replace M := Mem.drop2 M; (simp only [List.nil_append] at M); (try clear F); have F := fx M)) | ((with_reducible refine alA M ?_; clear M; (try clear F); intro w1 M F); ((with_reducible apply ev_app1 (enc := encA) (v := ⟨to, .one⟩) (hk := encA_length) (hone := oneA) (h0 := by decide) (hinfo := infA) (ht := Try.underlying122) (M := M)); rfl; rfl; (exact dl); (exact dl); rfl; rfl; (exact Nat.le_of_ble_eq_true rfl); (exact Nat.le_of_ble_eq_true rfl); clear M; intro A1 c1 w1 M; replace M := Mem.drop2 M; (simp only [List.nil_append, List.cons_append] at M); (try clear F); have F := fx M)) | ((with_reducible refine alA M ?_; clear M; (try clear F); intro w1 M F); ((with_reducible apply ev_app1 (enc := encA) (v := ⟨to, .same⟩) (hk := encA_length) (hone := oneA) (h0 := by decide) (hinfo := infA) (ht := Try.underlying122) (M := M)); rfl; rfl; (exact dl); (exact dl); rfl; rfl; (exact Nat.le_of_ble_eq_true rfl); (exact Nat.le_of_ble_eq_true rfl); clear M; intro A1 c1 w1 M; replace M := Mem.drop2 M; (simp only [List.nil_append, List.cons_append] at M); (try clear F); have F := fx M)) | (with_reducible refine alA M ?_; clear M; (try clear F); intro w1 M F) | ((with_reducible apply ev_store (M := M)); rfl; rfl; ((conv => lhs; whnf) <;> rfl); rfl; (first | exact siI | exact siR | exact siV | exact siB | exact siSI | exact siSV | exact siW | exact siSR | exact siSO | exact siO); (exact one_all rfl); (exact dl); (exact Nat.le_of_ble_eq_true rfl); clear M; intro w1 M; simp only [SX] at M; (try clear F); have F := fx M) | (go_at_call 122; (refine nmK ?_; clear M; (try clear F); intro w1 M F); refine (HH.out _ _ M).mono ?_; clear M; rintro e w2 ⟨rfl, M⟩; (try clear F); have F := fx M) | (go_at_call 118; (refine nmK ?_; clear M; (try clear F); intro w1 M F); refine (HA.out _).mono ?_; rintro e w2 ⟨rfl, hb⟩; replace M := M.below hb; clear hb; (try clear F); have F := fx M)); go_ret)
        (first | exact HF.out _ _ _ _ _ rfl (M.perm (.swap _ _ _)) | exact HF.out _ _ _ _ _ rfl M)
        all_goals (exfalso; have q := ‹(kk != 9) = false ∨ (kk != 14) = false›; simp [h9, h14] at q)
        --]4
      | false =>
        --[5
        simp only [if_true, if_false, Bool.false_eq_true, List.cons_append, List.nil_append] at HF
        (go_enter Try.func120, Try.ntmps120; go_wp2_with (first | ((with_reducible refine alA M ?_; clear M; (try clear F); intro w1 M F); ((with_reducible apply ev_app1 (enc := encA) (v := ⟨(k:Int)+1, .same⟩) (hk := encA_length) (hone := oneA) (h0 := by decide) (hinfo := infA) (ht := Try.underlying122) (M := M)); rfl; rfl; (exact dl); (exact dl); rfl; rfl; (exact Nat.le_of_ble_eq_true rfl); (exact Nat.le_of_ble_eq_true rfl); clear M; intro A1 c1 w1 M; replace M := Mem.drop2 M; (simp only [List.nil_append, List.cons_append] at M); (try clear F); have F := fx M)) | ((with_reducible refine alA M ?_; clear M; (try clear F); intro w1 M F); ((with_reducible apply ev_app1 (enc := encA) (v := ⟨(k:Int)+1, .fill w.heap.size⟩) (hk := encA_length) (hone := oneA) (h0 := by decide) (hinfo := infA) (ht := Try.underlying122) (M := M)); rfl; rfl; (exact dl); (exact dl); rfl; rfl; (exact Nat.le_of_ble_eq_true rfl); (exact Nat.le_of_ble_eq_true rfl); clear M; intro A1 c1 w1 M; replace M := Mem.drop2 M; (simp only [List.nil_append] at M); (try clear F); have F := fx M)) | ((with_reducible refine alA M ?_; clear M; (try clear F); intro w1 M F); ((with_reducible apply ev_app1 (enc := encA) (v := ⟨to, .one⟩) (hk := encA_length) (hone := oneA) (h0 := by decide) (hinfo := infA) (ht := Try.underlying122) (M := M)); rfl; rfl; (exact dl); (exact dl); rfl; rfl; (exact Nat.le_of_ble_eq_true rfl); (exact Nat.le_of_ble_eq_true rfl); clear M; intro A1 c1 w1 M; replace M := Mem.drop2 M; (simp only [List.nil_append, List.cons_append] at M); (try clear F); have F := fx M)) | ((with_reducible refine alA M ?_; clear M; (try clear F); intro w1 M F); ((with_reducible apply ev_app1 (enc := encA) (v := ⟨to, .same⟩) (hk := encA_length) (hone := oneA) (h0 := by decide) (hinfo := infA) (ht := Try.underlying122) (M := M)); rfl; rfl; (exact dl); (exact dl); rfl; rfl; (exact Nat.le_of_ble_eq_true rfl); (exact Nat.le_of_ble_eq_true rfl); clear M; intro A1 c1 w1 M; replace M := Mem.drop2 M; (simp only [List.nil_append, List.cons_append] at M); (try clear F); have F := fx M)) | (with_reducible refine alA M ?_; clear M; (try clear F); intro w1 M F) | ((with_reducible apply ev_store (M := M)); rfl; rfl; ((conv => lhs; whnf) <;> rfl); rfl; (first | exact siI | exact siR | exact siV | exact siB | exact siSI | exact siSV | exact siW | exact siSR | exact siSO | exact siO); (exact one_all rfl); (exact dl); (exact Nat.le_of_ble_eq_true rfl); clear M; intro w1 M; simp only [SX] at M; (try clear F); have F := fx M) | (go_at_call 122; (refine nmK ?_; clear M; (try clear F); intro w1 M F); refine (HH.out _ _ M).mono ?_; clear M; rintro e w2 ⟨rfl, M⟩; (try clear F); have F := fx M) | (go_at_call 118; (refine nmK ?_; clear M; (try clear F); intro w1 M F); refine (HA.out _).mono ?_; rintro e w2 ⟨rfl, hb⟩; replace M := M.below hb; clear hb; (try clear F); have F := fx M)); go_ret)
        (first | exact HF.out _ _ _ _ _ rfl (M.perm (.swap _ _ _)) | exact HF.out _ _ _ _ _ rfl M)
        all_goals (exfalso; have q := ‹(kk != 9) = false ∨ (kk != 14) = false›; simp [h9, h14] at q)
        --]5
    | false =>
      cases ft with
      | true =>
        --[6
        simp only [if_true, if_false, Bool.false_eq_true, List.cons_append, List.nil_append] at HF
        (go_enter Try.func120, Try.ntmps120; go_wp2_with (first | ((with_reducible refine alA M ?_; clear M; (try clear F); intro w1 M F); ((with_reducible apply ev_app1 (enc := encA) (v := ⟨(k:Int)+1, .same⟩) (hk := encA_length) (hone := oneA) (h0 := by decide) (hinfo := infA) (ht := Try.underlying122) (M := M)); rfl; rfl; (exact dl); (exact dl); rfl; rfl; (exact Nat.le_of_ble_eq_true rfl); (exact Nat.le_of_ble_eq_true rfl); clear M; intro A1 c1 w1 M; replace M := Mem.drop2 M; (simp only [List.nil_append] at M); (try clear F); have F := fx M)) | ((with_reducible refine alA M ?_; clear M; (try clear F); intro w1 M F); ((with_reducible apply ev_app1 (enc := encA) (v := ⟨(k:Int)+1, .fill w.heap.size⟩) (hk := encA_length) (hone := oneA) (h0 := by decide) (hinfo := infA) (ht := Try.underlying122) (M := M)); rfl; rfl; (exact dl); (exact dl); rfl; rfl; (exact Nat.le_of_ble_eq_true rfl); (exact Nat.le_of_ble_eq_true rfl); clear M; intro A1 c1 w1 M; replace M := Mem.drop2 M; (simp only [List.nil_append, List.cons_append] at M); (try clear F); have F := fx M)) | ((with_reducible refine alA M ?_; clear M; (try clear F); intro w1 M F); ((with_reducible apply ev_app1 (enc := encA) (v := ⟨to, .one⟩) (hk := encA_length) (hone := oneA) (h0 := by decide) (hinfo := infA) (ht := Try.underlying122) (M := M)); rfl; rfl; (exact dl); (exact dl); rfl; rfl; (exact Nat.le_of_ble_eq_true rfl); (exact Nat.le_of_ble_eq_true rfl); clear M; intro A1 c1 w1 M; replace M := Mem.drop2 M; (simp only [List.nil_append, List.cons_append] at M); (try clear F); have F := fx M)) | ((with_reducible refine alA M ?_; clear M; (try clear F); intro w1 M F); ((with_reducible apply ev_app1 (enc := encA) (v := ⟨to, .same⟩) (hk := encA_length) (hone := oneA) (h0 := by decide) (hinfo := infA) (ht := Try.underlying122) (M := M)); rfl; rfl; (exact dl); (exact dl); rfl; rfl; (exact Nat.le_of_ble_eq_true rfl); (exact Nat.le_of_ble_eq_true rfl); clear M; intro A1 c1 w1 M; replace M := Mem.drop2 M; (simp only [List.nil_append, List.cons_append] at M); (try clear F); have F := fx M)) | (with_reducible refine alA M ?_; clear M; (try clear F); intro w1 M F) | ((with_reducible apply ev_store (M := M)); rfl; rfl; ((conv => lhs; whnf) <;> rfl); rfl; (first | exact siI | exact siR | exact siV | exact siB | exact siSI | exact siSV | exact siW | exact siSR | exact siSO | exact siO); (exact one_all rfl); (exact dl); (exact Nat.le_of_ble_eq_true rfl); clear M; intro w1 M; simp only [SX] at M; (try clear F); have F := fx M) | (go_at_call 122; (refine nmK ?_; clear M; (try clear F); intro w1 M F); refine (HH.out _ _ M).mono ?_; clear M; rintro e w2 ⟨rfl, M⟩; (try clear F); have F := fx M) | (go_at_call 118; (refine nmK ?_; clear M; (try clear F); intro w1 M F); refine (HA.out _).mono ?_; rintro e w2 ⟨rfl, hb⟩; replace M := M.below hb; clear hb; (try clear F); have F := fx M)); go_ret)
        (first | exact HF.out _ _ _ _ _ rfl (M.perm (.swap _ _ _)) | exact HF.out _ _ _ _ _ rfl M)
        all_goals (exfalso; have q := ‹(kk != 9) = false ∨ (kk != 14) = false›; simp [h9, h14] at q)
        --]6
      | false =>
        --[7
        simp only [if_false, Bool.false_eq_true, List.cons_append, List.nil_append] at HF
        (go_enter Try.func120, Try.ntmps120; go_wp2_with (first | ((with_reducible refine alA M ?_; clear M; (try clear F); intro w1 M F); ((with_reducible apply ev_app1 (enc := encA) (v := ⟨(k:Int)+1, .same⟩) (hk := encA_length) (hone := oneA) (h0 := by decide) (hinfo := infA) (ht := Try.underlying122) (M := M)); rfl; rfl; (exact dl); (exact dl); rfl; rfl; (exact Nat.le_of_ble_eq_true rfl); (exact Nat.le_of_ble_eq_true rfl); clear M; intro A1 c1 w1 M; replace M := Mem.drop2 M; (simp only [List.nil_append] at M); (try clear F); have F := fx M)) | ((with_reducible refine alA M ?_; clear M; (try clear F); intro w1 M F); ((with_reducible apply ev_app1 (enc := encA) (v := ⟨(k:Int)+1, .fill w.heap.size⟩) (hk := encA_length) (hone := oneA) (h0 := by decide) (hinfo := infA) (ht := Try.underlying122) (M := M)); rfl; rfl; (exact dl); (exact dl); rfl; rfl; (exact Nat.le_of_ble_eq_true rfl); (exact Nat.le_of_ble_eq_true rfl); clear M; intro A1 c1 w1 M; replace M := Mem.drop2 M; (simp only [List.nil_append, List.cons_append] at M); (try clear F); have F := fx M)) | ((with_reducible refine alA M ?_; clear M; (try clear F); intro w1 M F); ((with_reducible apply ev_app1 (enc := encA) (v := ⟨to, .one⟩) (hk := encA_length) (hone := oneA) (h0 := by decide) (hinfo := infA) (ht := Try.underlying122) (M := M)); rfl; rfl; (exact dl); (exact dl); rfl; rfl; (exact Nat.le_of_ble_eq_true rfl); (exact Nat.le_of_ble_eq_true rfl); clear M; intro A1 c1 w1 M; replace M := Mem.drop2 M; (simp only [List.nil_append, List.cons_append] at M); (try clear F); have F := fx M)) | ((with_reducible refine alA M ?_; clear M; (try clear F); intro w1 M F); ((with_reducible apply ev_app1 (enc := encA) (v := ⟨to, .same⟩) (hk := encA_length) (hone := oneA) (h0 := by decide) (hinfo := infA) (ht := Try.underlying122) (M := M)); rfl; rfl; (exact dl); (exact dl); rfl; rfl; (exact Nat.le_of_ble_eq_true rfl); (exact Nat.le_of_ble_eq_true rfl); clear M; intro A1 c1 w1 M; replace M := Mem.drop2 M; (simp only [List.nil_append, List.cons_append] at M); (try clear F); have F := fx M)) | (with_reducible refine alA M ?_; clear M; (try clear F); intro w1 M F) | ((with_reducible apply ev_store (M := M)); rfl; rfl; ((conv => lhs; whnf) <;> rfl); rfl; (first | exact siI | exact siR | exact siV | exact siB | exact siSI | exact siSV | exact siW | exact siSR | exact siSO | exact siO); (exact one_all rfl); (exact dl); (exact Nat.le_of_ble_eq_true rfl); clear M; intro w1 M; simp only [SX] at M; (try clear F); have F := fx M) | (go_at_call 122; (refine nmK ?_; clear M; (try clear F); intro w1 M F); refine (HH.out _ _ M).mono ?_; clear M; rintro e w2 ⟨rfl, M⟩; (try clear F); have F := fx M) | (go_at_call 118; (refine nmK ?_; clear M; (try clear F); intro w1 M F); refine (HA.out _).mono ?_; rintro e w2 ⟨rfl, hb⟩; replace M := M.below hb; clear hb; (try clear F); have F := fx M)); go_ret)
        (first | exact HF.out _ _ _ _ _ rfl (M.perm (.swap _ _ _)) | exact HF.out _ _ _ _ _ rfl M)
        all_goals (exfalso; have q := ‹(kk != 9) = false ∨ (kk != 14) = false›; simp [h9, h14] at q)
        --]7
  · have i5 : ¬ (k : Int) + 1 < n := by omega
    by_cases h5 : kk = 5
    · subst h5
      simp only [show ¬ ((5:Int) = 9) by decide, show ¬ ((5:Int) = 14) by decide, ne_eq, not_false_eq_true, true_and, hlt, if_true, if_false, List.nil_append] at HF
      --[8
      (go_enter Try.func120, Try.ntmps120; go_wp2_with (first | ((with_reducible refine alA M ?_; clear M; (try clear F); intro w1 M F); ((with_reducible apply ev_app1 (enc := encA) (v := ⟨(k:Int)+1, .same⟩) (hk := encA_length) (hone := oneA) (h0 := by decide) (hinfo := infA) (ht := Try.underlying122) (M := M)); rfl; rfl; (exact dl); (exact dl); rfl; rfl; (exact Nat.le_of_ble_eq_true rfl); (exact Nat.le_of_ble_eq_true rfl); clear M; intro A1 c1 w1 M; replace M := Mem.drop2 M; (simp only [List.nil_append, List.cons_append] at M); (try clear F); have F := fx M)) | ((with_reducible refine alA M ?_; clear M; (try clear F); intro w1 M F); ((with_reducible apply ev_app1 (enc := encA) (v := ⟨(k:Int)+1, .fill w.heap.size⟩) (hk := encA_length) (hone := oneA) (h0 := by decide) (hinfo := infA) (ht := Try.underlying122) (M := M)); rfl; rfl; (exact dl); (exact dl); rfl; rfl; (exact Nat.le_of_ble_eq_true rfl); (exact Nat.le_of_ble_eq_true rfl); clear M; intro A1 c1 w1 M; replace M := Mem.drop2 M; (simp only [List.nil_append, List.cons_append] at M); (try clear F); have F := fx M)) | ((with_reducible refine alA M ?_; clear M; (try clear F); intro w1 M F); ((with_reducible apply ev_app1 (enc := encA) (v := ⟨to, .one⟩) (hk := encA_length) (hone := oneA) (h0 := by decide) (hinfo := infA) (ht := Try.underlying122) (M := M)); rfl; rfl; (exact dl); (exact dl); rfl; rfl; (exact Nat.le_of_ble_eq_true rfl); (exact Nat.le_of_ble_eq_true rfl); clear M; intro A1 c1 w1 M; replace M := Mem.drop2 M; (simp only [List.nil_append] at M); (try clear F); have F := fx M)) | ((with_reducible refine alA M ?_; clear M; (try clear F); intro w1 M F); ((with_reducible apply ev_app1 (enc := encA) (v := ⟨to, .same⟩) (hk := encA_length) (hone := oneA) (h0 := by decide) (hinfo := infA) (ht := Try.underlying122) (M := M)); rfl; rfl; (exact dl); (exact dl); rfl; rfl; (exact Nat.le_of_ble_eq_true rfl); (exact Nat.le_of_ble_eq_true rfl); clear M; intro A1 c1 w1 M; replace M := Mem.drop2 M; (simp only [List.nil_append, List.cons_append] at M); (try clear F); have F := fx M)) | (with_reducible refine alA M ?_; clear M; (try clear F); intro w1 M F) | ((with_reducible apply ev_store (M := M)); rfl; rfl; ((conv => lhs; whnf) <;> rfl); rfl; (first | exact siI | exact siR | exact siV | exact siB | exact siSI | exact siSV | exact siW | exact siSR | exact siSO | exact siO); (exact one_all rfl); (exact dl); (exact Nat.le_of_ble_eq_true rfl); clear M; intro w1 M; simp only [SX] at M; (try clear F); have F := fx M) | (go_at_call 122; (refine nmK ?_; clear M; (try clear F); intro w1 M F); refine (HH.out _ _ M).mono ?_; clear M; rintro e w2 ⟨rfl, M⟩; (try clear F); have F := fx M) | (go_at_call 118; (refine nmK ?_; clear M; (try clear F); intro w1 M F); refine (HA.out _).mono ?_; rintro e w2 ⟨rfl, hb⟩; replace M := M.below hb; clear hb; (try clear F); have F := fx M)); go_ret)
      (first | exact HF.out _ _ _ _ _ rfl (M.perm (.swap _ _ _)) | exact HF.out _ _ _ _ _ rfl M)
      --]8
    simp only [h9, h14, h5, ne_eq, not_false_eq_true, true_and, hlt, if_false, List.nil_append] at HF
    --[9
    cases ft with
    | true =>
      simp only [if_true] at HF
      (go_enter Try.func120, Try.ntmps120; go_wp2_with (first | ((with_reducible refine alA M ?_; clear M; (try clear F); intro w1 M F); ((with_reducible apply ev_app1 (enc := encA) (v := ⟨(k:Int)+1, .same⟩) (hk := encA_length) (hone := oneA) (h0 := by decide) (hinfo := infA) (ht := Try.underlying122) (M := M)); rfl; rfl; (exact dl); (exact dl); rfl; rfl; (exact Nat.le_of_ble_eq_true rfl); (exact Nat.le_of_ble_eq_true rfl); clear M; intro A1 c1 w1 M; replace M := Mem.drop2 M; (simp only [List.nil_append, List.cons_append] at M); (try clear F); have F := fx M)) | ((with_reducible refine alA M ?_; clear M; (try clear F); intro w1 M F); ((with_reducible apply ev_app1 (enc := encA) (v := ⟨(k:Int)+1, .fill w.heap.size⟩) (hk := encA_length) (hone := oneA) (h0 := by decide) (hinfo := infA) (ht := Try.underlying122) (M := M)); rfl; rfl; (exact dl); (exact dl); rfl; rfl; (exact Nat.le_of_ble_eq_true rfl); (exact Nat.le_of_ble_eq_true rfl); clear M; intro A1 c1 w1 M; replace M := Mem.drop2 M; (simp only [List.nil_append, List.cons_append] at M); (try clear F); have F := fx M)) | ((with_reducible refine alA M ?_; clear M; (try clear F); intro w1 M F); ((with_reducible apply ev_app1 (enc := encA) (v := ⟨to, .one⟩) (hk := encA_length) (hone := oneA) (h0 := by decide) (hinfo := infA) (ht := Try.underlying122) (M := M)); rfl; rfl; (exact dl); (exact dl); rfl; rfl; (exact Nat.le_of_ble_eq_true rfl); (exact Nat.le_of_ble_eq_true rfl); clear M; intro A1 c1 w1 M; replace M := Mem.drop2 M; (simp only [List.nil_append, List.cons_append] at M); (try clear F); have F := fx M)) | ((with_reducible refine alA M ?_; clear M; (try clear F); intro w1 M F); ((with_reducible apply ev_app1 (enc := encA) (v := ⟨to, .same⟩) (hk := encA_length) (hone := oneA) (h0 := by decide) (hinfo := infA) (ht := Try.underlying122) (M := M)); rfl; rfl; (exact dl); (exact dl); rfl; rfl; (exact Nat.le_of_ble_eq_true rfl); (exact Nat.le_of_ble_eq_true rfl); clear M; intro A1 c1 w1 M; replace M := Mem.drop2 M; (simp only [List.nil_append] at M); (try clear F); have F := fx M)) | (with_reducible refine alA M ?_; clear M; (try clear F); intro w1 M F) | ((with_reducible apply ev_store (M := M)); rfl; rfl; ((conv => lhs; whnf) <;> rfl); rfl; (first | exact siI | exact siR | exact siV | exact siB | exact siSI | exact siSV | exact siW | exact siSR | exact siSO | exact siO); (exact one_all rfl); (exact dl); (exact Nat.le_of_ble_eq_true rfl); clear M; intro w1 M; simp only [SX] at M; (try clear F); have F := fx M) | (go_at_call 122; (refine nmK ?_; clear M; (try clear F); intro w1 M F); refine (HH.out _ _ M).mono ?_; clear M; rintro e w2 ⟨rfl, M⟩; (try clear F); have F := fx M) | (go_at_call 118; (refine nmK ?_; clear M; (try clear F); intro w1 M F); refine (HA.out _).mono ?_; rintro e w2 ⟨rfl, hb⟩; replace M := M.below hb; clear hb; (try clear F); have F := fx M)); go_ret)
      (first | exact HF.out _ _ _ _ _ rfl (M.perm (.swap _ _ _)) | exact HF.out _ _ _ _ _ rfl M)
    | false =>
      simp only [if_false, Bool.false_eq_true] at HF
      (go_enter Try.func120, Try.ntmps120; go_wp2_with (first | ((with_reducible refine alA M ?_; clear M; (try clear F); intro w1 M F); ((with_reducible apply ev_app1 (enc := encA) (v := ⟨(k:Int)+1, .same⟩) (hk := encA_length) (hone := oneA) (h0 := by decide) (hinfo := infA) (ht := Try.underlying122) (M := M)); rfl; rfl; (exact dl); (exact dl); rfl; rfl; (exact Nat.le_of_ble_eq_true rfl); (exact Nat.le_of_ble_eq_true rfl); clear M; intro A1 c1 w1 M; replace M := Mem.drop2 M; (simp only [List.nil_append, List.cons_append] at M); (try clear F); have F := fx M)) | ((with_reducible refine alA M ?_; clear M; (try clear F); intro w1 M F); ((with_reducible apply ev_app1 (enc := encA) (v := ⟨(k:Int)+1, .fill w.heap.size⟩) (hk := encA_length) (hone := oneA) (h0 := by decide) (hinfo := infA) (ht := Try.underlying122) (M := M)); rfl; rfl; (exact dl); (exact dl); rfl; rfl; (exact Nat.le_of_ble_eq_true rfl); (exact Nat.le_of_ble_eq_true rfl); clear M; intro A1 c1 w1 M; replace M := Mem.drop2 M; (simp only [List.nil_append, List.cons_append] at M); (try clear F); have F := fx M)) | ((with_reducible refine alA M ?_; clear M; (try clear F); intro w1 M F); ((with_reducible apply ev_app1 (enc := encA) (v := ⟨to, .one⟩) (hk := encA_length) (hone := oneA) (h0 := by decide) (hinfo := infA) (ht := Try.underlying122) (M := M)); rfl; rfl; (exact dl); (exact dl); rfl; rfl; (exact Nat.le_of_ble_eq_true rfl); (exact Nat.le_of_ble_eq_true rfl); clear M; intro A1 c1 w1 M; replace M := Mem.drop2 M; (simp only [List.nil_append, List.cons_append] at M); (try clear F); have F := fx M)) | ((with_reducible refine alA M ?_; clear M; (try clear F); intro w1 M F); ((with_reducible apply ev_app1 (enc := encA) (v := ⟨to, .same⟩) (hk := encA_length) (hone := oneA) (h0 := by decide) (hinfo := infA) (ht := Try.underlying122) (M := M)); rfl; rfl; (exact dl); (exact dl); rfl; rfl; (exact Nat.le_of_ble_eq_true rfl); (exact Nat.le_of_ble_eq_true rfl); clear M; intro A1 c1 w1 M; replace M := Mem.drop2 M; (simp only [List.nil_append, List.cons_append] at M); (try clear F); have F := fx M)) | (with_reducible refine alA M ?_; clear M; (try clear F); intro w1 M F) | ((with_reducible apply ev_store (M := M)); rfl; rfl; ((conv => lhs; whnf) <;> rfl); rfl; (first | exact siI | exact siR | exact siV | exact siB | exact siSI | exact siSV | exact siW | exact siSR | exact siSO | exact siO); (exact one_all rfl); (exact dl); (exact Nat.le_of_ble_eq_true rfl); clear M; intro w1 M; simp only [SX] at M; (try clear F); have F := fx M) | (go_at_call 122; (refine nmK ?_; clear M; (try clear F); intro w1 M F); refine (HH.out _ _ M).mono ?_; clear M; rintro e w2 ⟨rfl, M⟩; (try clear F); have F := fx M) | (go_at_call 118; (refine nmK ?_; clear M; (try clear F); intro w1 M F); refine (HA.out _).mono ?_; rintro e w2 ⟨rfl, hb⟩; replace M := M.below hb; clear hb; (try clear F); have F := fx M)); go_ret)
      (first | exact HF.out _ _ _ _ _ rfl (M.perm (.swap _ _ _)) | exact HF.out _ _ _ _ _ rfl M)
    --]9
end Go.Proofs.Ytmidnaafljgbiaa
/- The ways' functions on the slots that are full, by the program's text. -/
namespace Go.Proofs.Ytmidnaafljgbiaa
open Go.RowKit
set_option maxRecDepth 100000

theorem iFn1 (B : Int) (w : World) : Calls Try.prog 133 #[.int .i64 B] w fun e w' => e = .returned (.int .i64 B) ∧ w' = w := by
  go_enter Try.func133, Try.ntmps133
  go_wp2
  go_ret
  exact ⟨rfl, rfl⟩
theorem iFn3 (B : Int) (w : World) : Calls Try.prog 135 #[.int .i64 B] w fun e w' => e = .returned (.int .i64 1) ∧ w' = w := by
  go_enter Try.func135, Try.ntmps135
  go_wp2
  go_ret
  exact ⟨rfl, rfl⟩
theorem orBit_all : ∀ b : Fin 16, ∀ r : Fin 4, bits .or .i64 (b.val : Int) (wrap64 (2 ^ ((r.val : Int)).toNat)) = withBit b.val r.val := by decide +kernel
theorem orBit {B r : Int} (hB : 0 ≤ B ∧ B ≤ 15) (hr : 0 ≤ r ∧ r ≤ 3) : bits .or .i64 B (wrap64 (2 ^ r.toNat)) = withBit B r := by
  have h := orBit_all ⟨B.toNat, by omega⟩ ⟨r.toNat, by omega⟩
  simp only [Int.toNat_of_nonneg hB.1, Int.toNat_of_nonneg hr.1] at h
  exact h
theorem iFn2 (B r : Int) (g : Nat) (hB : 0 ≤ B ∧ B ≤ 15) (hr : 0 ≤ r ∧ r ≤ 3) (w : World) (h : w.cell? ⟨g, 1, none⟩ = some (.int .i64 r)) : Calls Try.prog 134 #[.int .i64 B, .pointer (some ⟨g, 0, none⟩)] w fun e w' => e = .returned (.int .i64 (withBit B r)) ∧ w' = w := by
  have e := orBit hB hr
  obtain ⟨r1, r2⟩ := hr
  go_enter Try.func134, Try.ntmps134
  go_wp2
  go_ret
  exact ⟨rfl, rfl⟩
theorem andBit_all : ∀ b : Fin 16, ∀ r : Fin 4, (bits .and .i64 ((b.val : Int) / 2 ^ ((r.val : Int)).toNat) 1 == 0) = !hasBit b.val r.val := by decide +kernel
theorem andBit {B r : Int} (hB : 0 ≤ B ∧ B ≤ 15) (hr : 0 ≤ r ∧ r ≤ 3) : (bits .and .i64 (B / 2 ^ r.toNat) 1 == 0) = !hasBit B r := by
  have h := andBit_all ⟨B.toNat, by omega⟩ ⟨r.toNat, by omega⟩
  simp only [Int.toNat_of_nonneg hB.1, Int.toNat_of_nonneg hr.1] at h
  exact h
set_option maxHeartbeats 1000000 in
theorem iLacks (c B : Int) (g : Nat) (hB : 0 ≤ B ∧ B ≤ 15) (hr : 0 ≤ c ∧ c ≤ 3) (w : World) (h : w.cell? ⟨g, 0, none⟩ = some (.int .i64 B)) : Calls Try.prog 101 #[.int .i64 c, .pointer (some ⟨g, 0, none⟩)] w fun e w' => e = .returned (.bool (!hasBit B c)) ∧ w' = w := by
  have e := andBit hB hr
  obtain ⟨r1, r2⟩ := hr
  go_enter Try.func101, Try.ntmps101
  go_wp2
  go_ret
  exact ⟨rfl, rfl⟩
end Go.Proofs.Ytmidnaafljgbiaa
/- A string's iterator that is held; nothing of the program. -/
namespace Go.Proofs.Ytmidnaafljgbiaa
open Go.RowKit

def itr (k : Nat) (s : ByteArray) (p : Nat) : Asn where
  fp := [k]
  P w := w.heap[k]? = some (.stringIter s p)
  F w := k < w.heap.size ∧ w.heap[k]? = some (.stringIter s p)
  loc w w' _ h hp := (h k (by simp)).trans hp
  lt w hp j hj := by
    obtain rfl : j = k := by simpa using hj
    exact (Array.getElem?_eq_some_iff.1 hp).1
  imp w hp := ⟨(Array.getElem?_eq_some_iff.1 hp).1, hp⟩
theorem itr_F {k : Nat} {s : ByteArray} {p : Nat} {w : World} : (itr k s p).F w = (k < w.heap.size ∧ w.heap[k]? = some (.stringIter s p)) := rfl
section
variable {w0 w : World} {f : List Nat} {L : List Asn} {k p p' : Nat} {s : ByteArray}
theorem Mem.iter (M : Mem w0 f w L) : Mem w0 f (w.iter s p) (itr w.heap.size s p :: L) := by
  have M1 := M.below (below_new (Below.refl _ _) (.stringIter s p))
  refine ⟨⟨M1.ext.os, M1.ext.tape, M1.ext.output, M1.ext.size, M1.ext.keep, ?_, ?_⟩, ?_⟩
  · intro k hk
    rcases List.mem_append.1 hk with hk | hk
    · obtain rfl : k = w.heap.size := by simpa [itr] using hk
      exact .inr M.ext.size
    · exact M.ext.own k hk
  · refine List.nodup_append.2 ⟨by simp [itr], M.ext.nodup, ?_⟩
    rintro a ha b hb rfl
    obtain rfl : a = w.heap.size := by simpa [itr] using ha
    have := M.lt _ hb
    omega
  · intro X hX
    rcases List.mem_cons.1 hX with rfl | hX
    · exact World.iter_heap w s p
    · exact M1.holds X hX
theorem Mem.iterAt (M : Mem w0 f w (itr k s p :: L)) : Mem w0 f (w.iterAt k s p') (itr k s p' :: L) := by
  have hk : w.heap[k]? = some (.stringIter s p) := M.holds (itr k s p) (by simp)
  refine M.step (A := itr k s p) (B := itr k s p') ⟨rfl, rfl, rfl, by simp [World.iterAt], fun j _ hne => ?_, fun j hj => .inl hj, by simp [itr]⟩ (Lib.iterAt_heap w k s p p' hk)
  have : j ≠ k := by simpa [itr] using hne
  simp [World.iterAt, Ne.symm this]
theorem goal_iter {G : World → Prop} (M : Mem w0 f w L) (h : ∀ w1, Mem w0 f w1 (itr w.heap.size s p :: L) → G w1) : G (w.iter s p) := h _ M.iter
variable {P : Program} {ops : Array Oper} {rest : List Oper} {Q : Exit → Act → World → Prop} {a : Act} {x : Operand} {ty : TypeId} {pos : String} {after : Array Edge} {gd : Option (Tmp × Bool)} {L' : List Asn}
theorem ev_next {dst : Option Tmp} {b : Nat} (hw : Region.wanted ⟨dst, .next x true, ty, pos, after, gd⟩ (yielded ops a.tmps) = true) (hx : a.eval x = .pointer (some ⟨k, 0, none⟩)) (M : Mem w0 f w L) (hd : Del (itr k s p) L L')
    (hq : (s.data[p]?).map (·.toNat) = some b) (ha : b < 128) (h : ∀ w1, Mem w0 f w1 (itr k s (p + 1) :: L') → wpList P ops Q rest (a.put dst (.tuple #[.bool true, .int .i64 p, .int .i32 b])) w1) :
    wpList P ops Q (⟨dst, .next x true, ty, pos, after, gd⟩ :: rest) a w := by
  obtain ⟨c, hc, hb⟩ := Option.map_eq_some_iff.1 hq
  obtain ⟨hp, hc2⟩ := Array.getElem?_eq_some_iff.1 hc
  have hb : (s[p]'hp).toNat = b := by
    rw [← hb, ← hc2]
    rfl
  refine wpList_step fun K hK => ?_
  rw [if_pos hw]
  have hr := Lib.run_next_ascii_at (P := P) w k s p ty (M.is hd) hp (by omega)
  rw [hb] at hr
  have hrun : (execOp a.eval ⟨dst, .next x true, ty, pos, after, gd⟩).run P w = .ok (.value (.tuple #[.bool true, .int .i64 p, .int .i32 b])) (w.iterAt k s (p + 1)) := by
    unfold execOp
    simp only [hx, Sem.run_bind, Sem.run_pure, Result.andThen_ok, hr]
  unfold Oper.wp
  rw [hrun]
  exact hK _ _ (h _ (M.pull hd).iterAt)
end
end Go.Proofs.Ytmidnaafljgbiaa
