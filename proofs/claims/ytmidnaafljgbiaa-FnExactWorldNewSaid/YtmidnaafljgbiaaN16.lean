/- Parts of the proof, in one text. -/
import Derived.Test.YtmidnaafljgbiaaN14
import Derived.Test.YtmidnaafljgbiaaN15
import Derived.Test.YtmidnaafljgbiaaN04
/- Code is looked through for a step that is not ok, or goes nowhere. -/
namespace Go.Proofs.Ytmidnaafljgbiaa
open Go.RowKit
set_option maxRecDepth 100000

def wrongOp (n : Nat) (o : Opx) : Bool := !opOk o || (formAt o.k 2 && decide ((n : Int) ≤ o.to))
theorem goes_form {o : Opx} (h : opOk o = true) : formAt o.k 2 = goesTo o.k := by
  have hk := (opOk_parts h).1
  have hc : o.k = 1 ∨ o.k = 2 ∨ o.k = 3 ∨ o.k = 4 ∨ o.k = 5 ∨ o.k = 6 ∨ o.k = 7 ∨ o.k = 8 ∨ o.k = 9 ∨ o.k = 10 ∨ o.k = 11 ∨ o.k = 12 ∨ o.k = 13 ∨ o.k = 14 := by omega
  generalize o.k = k at hc
  rcases hc with rfl | rfl | rfl | rfl | rfl | rfl | rfl | rfl | rfl | rfl | rfl | rfl | rfl | rfl <;> decide
theorem wrong_step (n : Nat) (o : Opx) : wrongOp n o = !stepOk n o := by
  unfold wrongOp stepOk
  cases h : opOk o with
  | false => rfl
  | true => rw [goes_form h]; simp
set_option maxHeartbeats 2000000 in
theorem iWrong (o : Opx) (g n c : Nat) (A : Option Addr) (w : World) (hc : w.cell? ⟨g, 0, none⟩ = some (.slice A n c)) (hg : g < w.heap.size) :
    Calls Try.prog 116 #[.agg (opArr o), .pointer (some ⟨g, 0, none⟩)] w fun e w' => e = .returned (.bool (wrongOp n o)) ∧ Below w.heap.size w w' := by
  have M := Mem.nil w
  have HC := Lib.hid (fun V (hv : Below w.heap.size w V) => (hv.cell (p := ⟨g, 0, none⟩) hg).trans hc)
  have HO := Lib.hid (fun V => iOpOk o V)
  have HA := Lib.hid (fun V => iHas o 84 V)
  rw [(hasB_form o.k).2.2.1] at HA
  unfold wrongOp
  generalize opOk o = x at HO ⊢
  generalize formAt o.k 2 = y at HA ⊢
  clear hc hg
  obtain ⟨k, r, s, to, ⟨vk, vn⟩⟩ := o
  simp only [opArr] at *
  have hd : decide ((n : Int) ≤ to) = true ∨ decide ((n : Int) ≤ to) = false := by cases decide ((n : Int) ≤ to) <;> simp
  cases x <;> cases y <;> rcases hd with hd | hd
  all_goals
    go_enter Try.func116, Try.ntmps116
    go_wp2_with (first
      | ((with_reducible refine alAw M ?_; clear M; (try clear F); intro w1 M F); have E1 := HC.out _ M.toBelow)
      | (go_at_call 117; (refine nmKw ?_; clear M; (try clear F); intro w1 M F); with_reducible refine (HO.out _).mono ?_; rintro e w2 ⟨rfl, hb⟩; replace M := M.below hb; clear hb; (try clear F); have F := fxw M; have E1 := HC.out _ M.toBelow)
      | (go_at_call 118; (refine nmKw ?_; clear M; (try clear F); intro w1 M F); with_reducible refine (HA.out _).mono ?_; rintro e w2 ⟨rfl, hb⟩; replace M := M.below hb; clear hb; (try clear F); have F := fxw M; have E1 := HC.out _ M.toBelow))
    go_ret
    exact ⟨ret_bool (by simp [hd]), M.toBelow⟩

/-- A predicate on steps, as a function value. -/
def PredO (g : Nat) (lb : Array Value) (p : Opx → Bool) (w : World) : Prop :=
  ∀ (W : World) (x : Opx), Below w.heap.size w W → Calls Try.prog g (#[.agg (opArr x)] ++ lb) W fun e w' => e = .returned (.bool (p x)) ∧ Below w.heap.size w w'
set_option maxHeartbeats 1000000 in
theorem iIndexFuncO (p : Opx → Bool) (g : Nat) (lb : Array Value) (eg : ∀ args w, (callFunc g args).run Try.prog w = .ok (.enter g args) w) (l : List Opx) (ga c : Nat) (w : World) (hl : l.length ≤ 140737488355328)
    (h : ∀ k (hk : k < l.length), ga < w.heap.size ∧ OpAt w ga (k * 6) l[k]) (hp : PredO g lb p w) :
    Calls Try.prog 132 #[.slice (some ⟨ga, 0, none⟩) l.length c, .func (.func g) #[] lb] w fun e w' => e = .returned (.int .i64 (idxP p l)) ∧ Below w.heap.size w w' := by
  have AL := add_lit0
  have RE := Lib.hid (fun V (hv : Below w.heap.size w V) k (hk : k < l.length) => (h k hk).2.below hv (h k hk).1)
  clear h
  go_enter Try.func132, Try.ntmps132
  go_wp2
  go_loopg [5, 8] l.length (fun gg _ s8 wr => ∃ k : Nat, k ≤ l.length ∧ l.length - k ≤ gg ∧ s8 = .int .i64 k ∧ Hid (Below w.heap.size w wr) ∧ Hid (∀ j (hj : j < l.length), j < k → p l[j] = false))
  case atStart => exact ⟨0, Nat.zero_le _, by omega, rfl, Below.refl _ w, fun j _ h => absurd h (by omega)⟩
  case round =>
    obtain ⟨k, hk, hg, rfl, BW, hn⟩ := hrel
    by_cases hlt : k < l.length
    · have hlk : Hid (p l[k] = true → idxP p l = k) := fun h1 => idxP_hit hlt h1 (fun j hj => hn j (by omega) hj)
      have hl2 : Hid (p l[k] = false → ∀ j (hj : j < l.length), j < k + 1 → p l[j] = false) := fun h1 j hj hjk => by
        by_cases e : j = k
        · subst e; exact h1
        · exact hn j hj (by omega)
      have E := RE.out _ BW.out k hlt
      have hcall := hp wr l[k] BW.out
      have k1 : (0 : Int) ≤ k := by omega
      have k2 : (k : Int) < l.length := by omega
      clear hp hn
      generalize l[k] = x at hlk hl2 E hcall
      obtain ⟨xk, xr, xs, xt, ⟨xvk, xvn⟩⟩ := x
      simp only [OpAt, opArr] at E hcall
      cases hq : p ⟨xk, xr, xs, xt, ⟨xvk, xvn⟩⟩ with
      | true =>
        rw [hq] at hcall
        go_wp2_with (go_at_fn g; refine hcall.mono ?_; rintro e w' ⟨rfl, hb'⟩)
        go_ret
        exact ⟨ret_int (hlk.out hq).symm, hb'⟩
      | false =>
        rw [hq] at hcall
        go_wp2_with (go_at_fn g; refine hcall.mono ?_; rintro e w' ⟨rfl, hb'⟩)
        go_roundg (l.length - (k + 1))
        case measure => omega
        case rel => exact ⟨k + 1, by omega, by omega, by go_num, hb', hl2.out hq⟩
    · have : k = l.length := by omega
      subst this
      go_wp2
      go_ret
      exact ⟨ret_int (idxP_miss (fun j hj => hn.out j hj hj)).symm, BW.out⟩
end Go.Proofs.Ytmidnaafljgbiaa
/- Whether code is ok, by the program's text. -/
namespace Go.Proofs.Ytmidnaafljgbiaa
open Go.RowKit
set_option maxRecDepth 100000

theorem codeOk_any (C : List Opx) : codeOk C = (inB C.length 1 16 && !C.any (wrongOp C.length)) := by
  have e : C.all (fun o => opOk o && !(goesTo o.k && decide ((C.length : Int) ≤ o.to))) = !C.any (wrongOp C.length) := by
    rw [List.not_any_eq_all_not]
    congr 1
    funext o
    rw [wrong_step, Bool.not_not]
    rfl
  unfold codeOk
  rw [e]
  have : (decide (1 ≤ C.length) && decide (C.length ≤ 16)) = inB C.length 1 16 := by
    unfold inB
    congr 1
    · exact decide_eq_decide.2 (by omega)
    · exact decide_eq_decide.2 (by omega)
  rw [← this]
  cases decide (1 ≤ C.length) <;> cases decide (C.length ≤ 16) <;> cases C.any (wrongOp C.length) <;> rfl
theorem iContainsO (p : Opx → Bool) (g : Nat) (lb : Array Value) (eg : ∀ args w, (callFunc g args).run Try.prog w = .ok (.enter g args) w) (l : List Opx) (ga c : Nat) (w : World) (hl : l.length ≤ 140737488355328)
    (h : ∀ k (hk : k < l.length), ga < w.heap.size ∧ OpAt w ga (k * 6) l[k]) (hp : PredO g lb p w) :
    Calls Try.prog 119 #[.slice (some ⟨ga, 0, none⟩) l.length c, .func (.func g) #[] lb] w fun e w' => e = .returned (.bool (l.any p)) ∧ Below w.heap.size w w' := by
  rw [← idxP_any]
  have HI := Lib.hid (iIndexFuncO p g lb eg l ga c w hl h hp)
  clear h hp eg
  generalize idxP p l = ix at HI ⊢
  go_enter Try.func119, Try.ntmps119
  go_wp2_with (go_at_call 132; refine HI.out.mono ?_; rintro e w' ⟨rfl, hb⟩)
  go_ret
  exact ⟨rfl, hb⟩
set_option maxHeartbeats 2000000 in
theorem iCodeOk (C : List Opx) (cA : Option Addr) (cC : Nat) {w0 w : World} {f : List Nat} {L L' : List Asn} (M0 : Mem w0 f w L) (hd : Del (rowO cA cC C) L L') :
    Calls Try.prog 97 #[.slice cA C.length cC] w fun e w' => e = .returned (.bool (codeOk C)) ∧ Below w.heap.size w w' := by
  have hm : C.length ≤ 140737488355328 := (row_reads M0 hd).1.2.1
  rw [codeOk_any]
  have HI := Lib.hid (fun V => iIn C.length 1 16 V)
  have M := Mem.nil w
  cases hin : inB C.length 1 16 with
  | false =>
    rw [hin] at HI
    clear hin M0 hd
    go_enter Try.func97, Try.ntmps97
    go_wp2_with (first
      | (with_reducible refine alA M ?_; clear M; (try clear F); intro w1 M F)
      | (go_at_call 75; (refine nmK ?_; clear M; (try clear F); intro w1 M F); refine (HI.out _).mono ?_; rintro e w2 ⟨rfl, rfl⟩))
    go_ret
    exact ⟨rfl, M.toBelow⟩
  | true =>
    rw [hin] at HI
    have hlen := inB_iff.1 hin
    obtain ⟨ga, rfl⟩ := row_form M0 hd (by omega)
    have RE : ∀ V, Below w.heap.size w V → ∀ k (hk : k < C.length), ga < V.heap.size ∧ OpAt V ga (k * 6) C[k] := fun V hv k hk => ⟨Nat.lt_of_lt_of_le (row_elem encO_length M0 hd hk).1 hv.size, OpAt.below (elemO0 M0 hd hk) hv (row_elem encO_length M0 hd hk).1⟩
    have eg := enters_of Try.func116 (by kernel_rfl) rfl
    have HC := Lib.hid (fun V (hv : Below w.heap.size w V) (g : Nat) (hc : V.cell? ⟨g, 0, none⟩ = some (.slice (some ⟨ga, 0, none⟩) C.length cC)) (hg : g < V.heap.size) =>
      iContainsO (wrongOp C.length) _ #[.pointer (some ⟨g, 0, none⟩)] eg C ga cC V hm (RE V hv) (fun U x hu => (iWrong x g C.length cC (some ⟨ga, 0, none⟩) U ((hu.cell (p := ⟨g, 0, none⟩) hg).trans hc) (Nat.lt_of_lt_of_le hg hu.size)).mono fun e w' ⟨h1, h2⟩ => ⟨h1, hu.trans (h2.mono hu.size)⟩))
    clear RE eg hin M0 hd hlen
    generalize C.any (wrongOp C.length) = b at HC ⊢
    go_enter Try.func97, Try.ntmps97
    go_wp2_with (first
      | (with_reducible refine alA M ?_; clear M; (try clear F); intro w1 M F)
      | (go_at_call 75; (refine nmK ?_; clear M; (try clear F); intro w1 M F); refine (HI.out _).mono ?_; rintro e w2 ⟨rfl, rfl⟩)
      | (go_at_call 119; (refine nmK ?_; clear M; (try clear F); intro w1 M F); refine (HC.out _ M.toBelow _ (F.2.1 0) F.1).mono ?_; rintro e w2 ⟨rfl, hb⟩; replace M := M.below hb; clear hb; (try clear F); have F := fx M))
    go_ret
    exact ⟨rfl, M.toBelow⟩
end Go.Proofs.Ytmidnaafljgbiaa
/- One element is appended to a row that is held; an empty row; nothing of the program. -/
namespace Go.Proofs.Ytmidnaafljgbiaa
open Go.RowKit

theorem info_zero {P : Program} {t : TypeId} {m bytes : Nat} (h : (P.info? t).map (fun i => (i.zero.map (·.cells.size), i.size, i.bytes)) = some (some m, m, bytes)) : ∃ z : Value, (P.info? t).map (fun i => (i.zero, i.size, i.bytes)) = some (some z, m, bytes) ∧ z.cells.size = m := by
  obtain ⟨i, hi, h2⟩ := Option.map_eq_some_iff.1 h
  simp only [Prod.mk.injEq] at h2
  obtain ⟨h3, h4, h5⟩ := h2
  obtain ⟨z, hz, hz2⟩ := Option.map_eq_some_iff.1 h3
  exact ⟨z, by rw [hi]; simp [hz, h4, h5], hz2⟩
section
variable {α : Type} {enc : α → List Value} {m : Nat} {t : TypeId} {A : Option Addr} {c : Nat} {xs : List α} {w0 w : World} {f : List Nat} {L L' L2 : List Asn}
variable {P : Program} {ops : Array Oper} {rest : List Oper} {Q : Exit → Act → World → Prop} {a : Act} {x y : Operand} {ty tt : TypeId} {pos : String} {after : Array Edge}
theorem ev_app1 (v : α) (hk : ∀ x, (enc x).length = m) (hone : ∀ x, ∀ u ∈ enc x, u.oneCell' = true) (h0 : 0 < m) {bytes : Nat} (hinfo : (P.info? t).map (fun i => (i.zero.map (·.cells.size), i.size, i.bytes)) = some (some m, m, bytes)) (ht : P.underlying tt = some (.slice t))
    {dst : Option Tmp} {n g : Nat} {cs : List Value} (hs : a.eval x = .slice A n c) (hx : a.eval y = .slice (some ⟨g, 0, none⟩) 1 1) (M : Mem w0 f w L) (hd : Del (row enc m t A c xs) L L') (hd2 : Del (blk g t cs) L L2) (hc : cs = enc v) (hn : n = xs.length) (hlen : (xs.length + 1) * bytes ≤ 1000000000) (hb : 1 ≤ bytes)
    (h : ∀ A' c' w1, Mem w0 f w1 (row enc m t A' c' (xs ++ [v]) :: L') → wpList P ops Q rest (a.put dst (.slice A' (n + 1) c')) w1) :
    wpList P ops Q (⟨dst, .call { callee := .builtin .append, args := #[x, y], argTypes := #[tt, tt] }, ty, pos, after, none⟩ :: rest) a w := by
  obtain ⟨z, hz, hzs⟩ := info_zero hinfo
  have hle : xs.length + 1 ≤ (xs.length + 1) * bytes := Nat.le_mul_of_pos_right _ hb
  exact ev_append (ys := [v]) hk hone ht hz hzs h0 hs M hd hn hx (blk_reads hk M hd2 (by rw [hc]; simp [flat]) (by simp)) (by intro e; cases e) (by simp; omega) (by simp; omega) h
theorem Mem.nilRow (M : Mem w0 f w L) : Mem w0 f w (row enc m t none 0 ([] : List α) :: L) := by
  refine M.call0 ⟨⟨rfl, rfl, rfl, Nat.le_refl _, fun _ _ _ => rfl, fun k hk => ?_, ?_⟩, fun X hX => ?_⟩
  · rw [fps_one] at hk
    simp [row, ob] at hk
  · rw [fps_one]
    simp [row, ob]
  · obtain rfl : X = row enc m t none 0 ([] : List α) := by simpa using hX
    exact OwnL.nil _ _
end
end Go.Proofs.Ytmidnaafljgbiaa
