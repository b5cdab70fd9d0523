/- Parts of the proof, in one text. -/
import Derived.Test.YtomolbhcggaakaaGreatG32
import Derived.Test.YtomolbhcggaakaaGreatG12
/- Whether code is ok, by the program's text. -/
namespace Go.Proofs.YtomolbhcggaakaaGreat
open Go.RowKit
set_option maxRecDepth 100000

theorem codeOk_any (C : List Opx) : codeOk C = (inB C.length 1 16 && !C.any (wrongOp C.length)) := by
  have e : C.all (fun o => opOk o && !(goesTo o.k && decide ((C.length : Int) ≤ o.to))) = !C.any (wrongOp C.length) := by
    rw [List.not_any_eq_all_not]
    congr 1
    funext o
    rw [wrong_step, Bool.not_not]
    rfl
  unfold codeOk
  rw [e]
  have : (decide (1 ≤ C.length) && decide (C.length ≤ 16)) = inB C.length 1 16 := by
    unfold inB
    congr 1
    · exact decide_eq_decide.2 (by omega)
    · exact decide_eq_decide.2 (by omega)
  rw [← this]
  cases decide (1 ≤ C.length) <;> cases decide (C.length ≤ 16) <;> cases C.any (wrongOp C.length) <;> rfl
theorem iContainsO (p : Opx → Bool) (g : Nat) (lb : Array Value) (eg : ∀ args w, (callFunc g args).run Tryz.prog w = .ok (.enter g args) w) (l : List Opx) (ga c : Nat) (w : World) (hl : l.length ≤ 140737488355328)
    (h : ∀ k (hk : k < l.length), ga < w.heap.size ∧ OpAt w ga (k * 6) l[k]) (hp : PredO g lb p w) :
    Calls Tryz.prog 133 #[.slice (some ⟨ga, 0, none⟩) l.length c, .func (.func g) #[] lb] w fun e w' => e = .returned (.bool (l.any p)) ∧ Below w.heap.size w w' := by
  rw [← idxP_any]
  have HI := Lib.hid (iIndexFuncO p g lb eg l ga c w hl h hp)
  clear h hp eg
  generalize idxP p l = ix at HI ⊢
  go_enter Tryz.func133, Tryz.ntmps133
  go_wp2_with (go_at_call 166; refine HI.out.mono ?_; rintro e w' ⟨rfl, hb⟩)
  go_ret
  exact ⟨rfl, hb⟩
set_option maxHeartbeats 2000000 in
theorem iCodeOk (C : List Opx) (cA : Option Addr) (cC : Nat) {w0 w : World} {f : List Nat} {L L' : List Asn} (M0 : Mem w0 f w L) (hd : Del (rowO cA cC C) L L') :
    Calls Tryz.prog 95 #[.slice cA C.length cC] w fun e w' => e = .returned (.bool (codeOk C)) ∧ Below w.heap.size w w' := by
  have hm : C.length ≤ 140737488355328 := (row_reads M0 hd).1.2.1
  rw [codeOk_any]
  have HI := Lib.hid (fun V => iIn C.length 1 16 V)
  have M := Mem.nil w
  cases hin : inB C.length 1 16 with
  | false =>
    rw [hin] at HI
    clear hin M0 hd
    go_enter Tryz.func95, Tryz.ntmps95
    go_wp2_with (first
      | ((with_reducible refine goal_alloc (G := fun W => wpList _ _ _ _ _ W) M ?_); clear M; intro w1 M; (try clear F); have F := M.facts; simp only [FX] at F)
      | (go_at_call 54; (apply goal_name (G := fun W => Calls _ _ _ W _)); (repeat (first | with_reducible exact M | with_reducible apply Mem.drew | with_reducible apply Mem.drewN | with_reducible apply Mem.allocD | with_reducible apply Mem.setV | with_reducible apply Mem.setD | with_reducible exact Del.here | with_reducible apply Del.there | with_reducible assumption)); clear M; intro w1 M; (try simp only [LX] at M); (try clear F); have F := M.facts; simp only [FX] at F; refine (HI.out _).mono ?_; rintro e w2 ⟨rfl, rfl⟩))
    go_ret
    exact ⟨rfl, M.toBelow⟩
  | true =>
    rw [hin] at HI
    have hlen := inB_iff.1 hin
    obtain ⟨ga, rfl⟩ := row_form M0 hd (by omega)
    have RE : ∀ V, Below w.heap.size w V → ∀ k (hk : k < C.length), ga < V.heap.size ∧ OpAt V ga (k * 6) C[k] := fun V hv k hk => ⟨Nat.lt_of_lt_of_le (row_elem encO_length M0 hd hk).1 hv.size, OpAt.below (elemO0 M0 hd hk) hv (row_elem encO_length M0 hd hk).1⟩
    have eg := enters_of Tryz.func130 (by kernel_rfl) rfl
    have HC := Lib.hid (fun V (hv : Below w.heap.size w V) (g : Nat) (hc : V.cell? ⟨g, 0, none⟩ = some (.slice (some ⟨ga, 0, none⟩) C.length cC)) (hg : g < V.heap.size) =>
      iContainsO (wrongOp C.length) _ #[.pointer (some ⟨g, 0, none⟩)] eg C ga cC V hm (RE V hv) (fun U x hu => (iWrong x g C.length cC (some ⟨ga, 0, none⟩) U ((hu.cell (p := ⟨g, 0, none⟩) hg).trans hc) (Nat.lt_of_lt_of_le hg hu.size)).mono fun e w' ⟨h1, h2⟩ => ⟨h1, hu.trans (h2.mono hu.size)⟩))
    clear RE eg hin M0 hd hlen
    generalize C.any (wrongOp C.length) = b at HC ⊢
    go_enter Tryz.func95, Tryz.ntmps95
    go_wp2_with (first
      | ((with_reducible refine goal_alloc (G := fun W => wpList _ _ _ _ _ W) M ?_); clear M; intro w1 M; (try clear F); have F := M.facts; simp only [FX] at F)
      | (go_at_call 54; (apply goal_name (G := fun W => Calls _ _ _ W _)); (repeat (first | with_reducible exact M | with_reducible apply Mem.drew | with_reducible apply Mem.drewN | with_reducible apply Mem.allocD | with_reducible apply Mem.setV | with_reducible apply Mem.setD | with_reducible exact Del.here | with_reducible apply Del.there | with_reducible assumption)); clear M; intro w1 M; (try simp only [LX] at M); (try clear F); have F := M.facts; simp only [FX] at F; refine (HI.out _).mono ?_; rintro e w2 ⟨rfl, rfl⟩)
      | (go_at_call 133; (apply goal_name (G := fun W => Calls _ _ _ W _)); (repeat (first | with_reducible exact M | with_reducible apply Mem.drew | with_reducible apply Mem.drewN | with_reducible apply Mem.allocD | with_reducible apply Mem.setV | with_reducible apply Mem.setD | with_reducible exact Del.here | with_reducible apply Del.there | with_reducible assumption)); clear M; intro w1 M; (try simp only [LX] at M); (try clear F); have F := M.facts; simp only [FX] at F; refine (HC.out _ M.toBelow _ (F.2.1 0) F.1).mono ?_; rintro e w2 ⟨rfl, hb⟩; replace M := M.below hb; clear hb; (try clear F); have F := M.facts; simp only [FX] at F))
    go_ret
    exact ⟨rfl, M.toBelow⟩
end Go.Proofs.YtomolbhcggaakaaGreat
/- One element is appended to a row that is held; an empty row; nothing of the program. -/
namespace Go.Proofs.YtomolbhcggaakaaGreat
open Go.RowKit

theorem info_zero {P : Program} {t : TypeId} {m bytes : Nat} (h : (P.info? t).map (fun i => (i.zero.map (·.cells.size), i.size, i.bytes)) = some (some m, m, bytes)) : ∃ z : Value, (P.info? t).map (fun i => (i.zero, i.size, i.bytes)) = some (some z, m, bytes) ∧ z.cells.size = m := by
  obtain ⟨i, hi, h2⟩ := Option.map_eq_some_iff.1 h
  simp only [Prod.mk.injEq] at h2
  obtain ⟨h3, h4, h5⟩ := h2
  obtain ⟨z, hz, hz2⟩ := Option.map_eq_some_iff.1 h3
  exact ⟨z, by rw [hi]; simp [hz, h4, h5], hz2⟩
section
variable {α : Type} {enc : α → List Value} {m : Nat} {t : TypeId} {A : Option Addr} {c : Nat} {xs : List α} {w0 w : World} {f : List Nat} {L L' L2 : List Asn}
variable {P : Program} {ops : Array Oper} {rest : List Oper} {Q : Exit → Act → World → Prop} {a : Act} {x y : Operand} {ty tt : TypeId} {pos : String} {after : Array Edge}
theorem ev_app1 (v : α) (hk : ∀ x, (enc x).length = m) (hone : ∀ x, ∀ u ∈ enc x, u.oneCell' = true) (h0 : 0 < m) {bytes : Nat} (hinfo : (P.info? t).map (fun i => (i.zero.map (·.cells.size), i.size, i.bytes)) = some (some m, m, bytes)) (ht : P.underlying tt = some (.slice t))
    {dst : Option Tmp} {n g : Nat} {cs : List Value} (hs : a.eval x = .slice A n c) (hx : a.eval y = .slice (some ⟨g, 0, none⟩) 1 1) (M : Mem w0 f w L) (hd : Del (row enc m t A c xs) L L') (hd2 : Del (blk g t cs) L L2) (hc : cs = enc v) (hn : n = xs.length) (hlen : (xs.length + 1) * bytes ≤ 1000000000) (hb : 1 ≤ bytes)
    (h : ∀ A' c' w1, Mem w0 f w1 (row enc m t A' c' (xs ++ [v]) :: L') → wpList P ops Q rest (a.put dst (.slice A' (n + 1) c')) w1) :
    wpList P ops Q (⟨dst, .call { callee := .builtin .append, args := #[x, y], argTypes := #[tt, tt] }, ty, pos, after, none⟩ :: rest) a w := by
  obtain ⟨z, hz, hzs⟩ := info_zero hinfo
  have hle : xs.length + 1 ≤ (xs.length + 1) * bytes := Nat.le_mul_of_pos_right _ hb
  exact ev_append (ys := [v]) hk hone ht hz hzs h0 hs M hd hn hx (blk_reads hk M hd2 (by rw [hc]; simp [flat]) (by simp)) (by intro e; cases e) (by simp; omega) (by simp; omega) h
theorem Mem.nilRow (M : Mem w0 f w L) : Mem w0 f w (row enc m t none 0 ([] : List α) :: L) := by
  refine M.call0 ⟨⟨rfl, rfl, rfl, Nat.le_refl _, fun _ _ _ => rfl, fun k hk => ?_, ?_⟩, fun X hX => ?_⟩
  · rw [fps_one] at hk
    simp [row, ob] at hk
  · rw [fps_one]
    simp [row, ob]
  · obtain rfl : X = row enc m t none 0 ([] : List α) := by simpa using hX
    exact OwnL.nil _ _
end
end Go.Proofs.YtomolbhcggaakaaGreat
