/- Parts of the proof, in one text. -/
import Derived.Test.YtomolbhcggaakaaGreatG25
import Derived.Test.YtomolbhcggaakaaGreatG31
import Derived.Test.YtomolbhcggaakaaGreatG30
/- A world that is read: what its readers may ask. Whether two runs are linked both ways. -/
namespace Go.Proofs.YtomolbhcggaakaaGreat
open Go.RowKit
set_option maxRecDepth 100000

/-- The cells of a run at a place. -/
def RunAt (w : World) (g o : Nat) (r : Rn) (a : RA) : Prop :=
  w.cell? ⟨g, o, none⟩ = some (.int .i64 r.id) ∧ w.cell? ⟨g, o + 1, none⟩ = some (.int .i64 r.at_) ∧ w.cell? ⟨g, o + 2, none⟩ = some (.slice a.sA r.slots.length a.sC) ∧ w.cell? ⟨g, o + 3, none⟩ = some (.int .i64 r.full) ∧
  w.cell? ⟨g, o + 4, none⟩ = some (.slice a.mA r.mail.length a.mC) ∧ w.cell? ⟨g, o + 5, none⟩ = some (.int .i64 r.state) ∧ w.cell? ⟨g, o + 6, none⟩ = some (.int .i64 r.due) ∧ w.cell? ⟨g, o + 7, none⟩ = some (.slice a.lA r.links.length a.lC) ∧
  w.cell? ⟨g, o + 8, none⟩ = some (.slice a.wA r.watched.length a.wC) ∧ w.cell? ⟨g, o + 9, none⟩ = some (.bool r.trap) ∧ w.cell? ⟨g, o + 10, none⟩ = some (.int .i64 r.why.k) ∧ w.cell? ⟨g, o + 11, none⟩ = some (.int .i64 r.why.n) ∧ w.cell? ⟨g, o + 12, none⟩ = some (.int .i64 r.turns)
def OpAt (w : World) (g o : Nat) (x : Opx) : Prop :=
  w.cell? ⟨g, o, none⟩ = some (.int .i64 x.k) ∧ w.cell? ⟨g, o + 1, none⟩ = some (.int .i64 x.r) ∧ w.cell? ⟨g, o + 2, none⟩ = some (.int .i64 x.s) ∧ w.cell? ⟨g, o + 3, none⟩ = some (.int .i64 x.to) ∧ w.cell? ⟨g, o + 4, none⟩ = some (.int .i64 x.v.k) ∧ w.cell? ⟨g, o + 5, none⟩ = some (.int .i64 x.v.n)
theorem RunAt.below {w w' : World} {g o : Nat} {r : Rn} {a : RA} {B : Nat} (h : RunAt w g o r a) (hb : Below B w w') (hg : g < B) : RunAt w' g o r a := by
  unfold RunAt at h ⊢
  simp only [hb.cell (p := ⟨g, _, none⟩) hg]
  exact h
theorem OpAt.below {w w' : World} {g o : Nat} {x : Opx} {B : Nat} (h : OpAt w g o x) (hb : Below B w w') (hg : g < B) : OpAt w' g o x := by
  unfold OpAt at h ⊢
  simp only [hb.cell (p := ⟨g, _, none⟩) hg]
  exact h
structure RW (w : World) (B : Nat) (W : Wm) : Prop where
  code : ∀ k (hk : k < W.code.length), ∃ g, W.cA = some ⟨g, 0, none⟩ ∧ g < B ∧ OpAt w g (k * 6) W.code[k]
  runs : ∀ k (hk : k < W.ps.length), ∃ g, W.rA = some ⟨g, 0, none⟩ ∧ g < B ∧ RunAt w g (k * 13) W.ps[k].1 W.ps[k].2
  queue : ReadsI w B W.qA W.queue.length W.queue
  each : ∀ k (hk : k < W.ps.length), ReadsRun w B W.ps[k].1 W.ps[k].2
  lens : W.code.length ≤ W.cC ∧ W.ps.length ≤ W.rC ∧ W.queue.length ≤ W.qC
  szs : W.code.length ≤ 140737488355328 ∧ W.ps.length ≤ 140737488355328
theorem RW.below {w w' : World} {B : Nat} {W : Wm} (h : RW w B W) (hb : Below w.heap.size w w') (hB : B ≤ w.heap.size) : RW w' B W :=
  ⟨fun k hk => by
    obtain ⟨g, e, hg, hc⟩ := h.code k hk
    exact ⟨g, e, hg, hc.below (hb.mono hB) hg⟩, fun k hk => by
    obtain ⟨g, e, hg, hc⟩ := h.runs k hk
    exact ⟨g, e, hg, hc.below (hb.mono hB) hg⟩, h.queue.below' hb hB, fun k hk => (h.each k hk).below hb hB, h.lens, h.szs⟩
theorem rws_reads {w : World} {ps : List (Rn × RA)} (h : (rws ps).P w) {k : Nat} (hk : k < ps.length) : ReadsRun w w.heap.size ps[k].1 ps[k].2 ∧ (ps[k].2.sA = none → ps[k].2.sC = 0) ∧ (ps[k].2.mA = none → ps[k].2.mC = 0) ∧ (ps[k].2.lA = none → ps[k].2.lC = 0) ∧ (ps[k].2.wA = none → ps[k].2.wC = 0) :=
  runA_reads (h (runA ps[k].1 ps[k].2) (List.mem_map.2 ⟨ps[k], List.getElem_mem hk, rfl⟩))
theorem elemR {w0 w : World} {f : List Nat} {L L' : List Asn} {g k c : Nat} {xs : List (Rn × RA)} (M : Mem w0 f w L) (hd : Del (rowR (some ⟨g, 0, none⟩) c xs) L L') (hlt : k < xs.length) : RunAt w g (k * 13) xs[k].1 xs[k].2 := by
  have h := (row_elem encR_length M hd hlt).2.1
  exact ⟨h 0 (by decide), h 1 (by decide), h 2 (by decide), h 3 (by decide), h 4 (by decide), h 5 (by decide), h 6 (by decide), h 7 (by decide), h 8 (by decide), h 9 (by decide), h 10 (by decide), h 11 (by decide), h 12 (by decide)⟩
theorem Mem.rw_ {w0 w : World} {f : List Nat} {L : List Asn} {W : Wm} (M : Mem w0 f w (rowO W.cA W.cC W.code :: rowR W.rA W.rC W.ps :: rowI W.qA W.qC W.queue :: rws W.ps :: L)) : RW w w.heap.size W := by
  refine ⟨fun k hk => ?_, fun k hk => ?_, readsI M (.there (.there .here)), fun k hk => (rws_reads (M.is (.there (.there (.there .here)))) hk).1, ⟨(row_reads M .here).2.1, (row_reads M (.there .here)).2.1, (row_reads M (.there (.there .here))).2.1⟩, (row_reads M .here).1.2.1, (row_reads M (.there .here)).1.2.1⟩
  · obtain ⟨g, e⟩ := row_form M .here (by omega)
    rw [e] at M
    exact ⟨g, e, (row_elem encO_length M .here hk).1, elemO0 M .here hk⟩
  · obtain ⟨g, e⟩ := row_form M (.there .here) (by omega)
    rw [e] at M
    exact ⟨g, e, (row_elem encR_length M (.there .here) hk).1, elemR M (.there .here) hk⟩

set_option maxHeartbeats 2000000 in
theorem sLinked (W : Wm) (a b : Nat) (ha : a < W.ps.length) (hb : b < W.ps.length) (B : Nat) (w : World) (h : RW w B W) (hB : B ≤ w.heap.size) (hl : W.ps.length ≤ 1000) :
    Calls Tryz.prog 49 #[.agg (wArr W), .int .i64 (a : Int), .int .i64 (b : Int)] w fun e w' => e = .returned (.bool (inL W.ps[a].1.links ((b : Int) + 1) == inL W.ps[b].1.links ((a : Int) + 1))) ∧ Below w.heap.size w w' := by
  obtain ⟨g, hA, hg, ca⟩ := h.runs a ha
  obtain ⟨g', hA', _, cb⟩ := h.runs b hb
  obtain rfl : g = g' := by rw [hA] at hA'; injection hA' with e; injection e
  have RA1 := Lib.hid (fun V (hv : Below w.heap.size w V) => (ca.below (hv.mono hB) hg).2.2.2.2.2.2.2.1)
  have RB1 := Lib.hid (fun V (hv : Below w.heap.size w V) => (cb.below (hv.mono hB) hg).2.2.2.2.2.2.2.1)
  have HA := Lib.hid (fun V n (hv : Below w.heap.size w V) => quiet_eq (sAmong W.ps[a].1.links ((b : Int) + 1) W.ps[a].2.lA W.ps[a].2.lC B (V.drewN n) (((h.each a ha).links.below' hv hB).drewN n)))
  have HB := Lib.hid (fun V n (hv : Below w.heap.size w V) => quiet_eq (sAmong W.ps[b].1.links ((a : Int) + 1) W.ps[b].2.lA W.ps[b].2.lC B (V.drewN n) (((h.each b hb).links.below' hv hB).drewN n)))
  clear h ca cb
  obtain ⟨code, cA, cC, ps, rA, rC, queue, qA, qC, now, sent, taken, lost⟩ := W
  simp only at *
  subst hA
  generalize ps[a] = p at RA1 HA ⊢
  generalize ps[b] = q at RB1 HB ⊢
  obtain ⟨p, pa⟩ := p
  obtain ⟨q, qa⟩ := q
  simp only at *
  generalize inL p.links ((b : Int) + 1) = x at HA ⊢
  generalize inL q.links ((a : Int) + 1) = y at HB ⊢
  have M := Mem.nil w
  have AL := add_lit0
  have i1 : (0 : Int) ≤ a := by omega
  have i2 : (a : Int) < ps.length := by omega
  have i3 : (0 : Int) ≤ b := by omega
  have i4 : (b : Int) < ps.length := by omega
  have w1 : IntKind.i64.wrap ((a : Int) + 1) = (a : Int) + 1 := by rw [IntKind.wrap_i64]; omega
  have w2 : IntKind.i64.wrap ((b : Int) + 1) = (b : Int) + 1 := by rw [IntKind.wrap_i64]; omega
  clear hl hB hg
  go_enter Tryz.func49, Tryz.ntmps49
  go_wp2
  ((with_reducible apply goal_name (G := fun W => Code.wp _ _ _ _ W)); (repeat (first | with_reducible exact M | with_reducible apply Mem.drew | with_reducible apply Mem.drewN | with_reducible apply Mem.allocD | with_reducible apply Mem.setV | with_reducible apply Mem.setD | with_reducible exact Del.here | with_reducible apply Del.there | with_reducible assumption)); clear M; intro w1 M; skip; (try clear F); have F := M.facts; simp only [And.intro FX FXw] at F)
  have E1 := RA1.out _ M.toBelow
  have E2 := RB1.out _ M.toBelow
  go_quiet ((first | (go_at_call 74; with_reducible exact HA.out _ _ M.toBelow) | (go_at_call 74; with_reducible exact HB.out _ _ M.toBelow)))
  go_wp2
  go_ret
  exact ⟨rfl, below_drewN M.toBelow _⟩
end Go.Proofs.YtomolbhcggaakaaGreat
/- Code is looked through for a step that is not ok, or goes nowhere. -/
namespace Go.Proofs.YtomolbhcggaakaaGreat
open Go.RowKit
set_option maxRecDepth 100000

def wrongOp (n : Nat) (o : Opx) : Bool := !opOk o || (formAt o.k 2 && decide ((n : Int) ≤ o.to))
theorem goes_form {o : Opx} (h : opOk o = true) : formAt o.k 2 = goesTo o.k := by
  have hk := (opOk_parts h).1
  have hc : o.k = 1 ∨ o.k = 2 ∨ o.k = 3 ∨ o.k = 4 ∨ o.k = 5 ∨ o.k = 6 ∨ o.k = 7 ∨ o.k = 8 ∨ o.k = 9 ∨ o.k = 10 ∨ o.k = 11 ∨ o.k = 12 ∨ o.k = 13 ∨ o.k = 14 := by omega
  generalize o.k = k at hc
  rcases hc with rfl | rfl | rfl | rfl | rfl | rfl | rfl | rfl | rfl | rfl | rfl | rfl | rfl | rfl <;> decide
theorem wrong_step (n : Nat) (o : Opx) : wrongOp n o = !stepOk n o := by
  unfold wrongOp stepOk
  cases h : opOk o with
  | false => rfl
  | true => rw [goes_form h]; simp
set_option maxHeartbeats 2000000 in
theorem iWrong (o : Opx) (g n c : Nat) (A : Option Addr) (w : World) (hc : w.cell? ⟨g, 0, none⟩ = some (.slice A n c)) (hg : g < w.heap.size) :
    Calls Tryz.prog 130 #[.agg (opArr o), .pointer (some ⟨g, 0, none⟩)] w fun e w' => e = .returned (.bool (wrongOp n o)) ∧ Below w.heap.size w w' := by
  have M := Mem.nil w
  have HC := Lib.hid (fun V (hv : Below w.heap.size w V) => (hv.cell (p := ⟨g, 0, none⟩) hg).trans hc)
  have HO := Lib.hid (fun V => iOpOk o V)
  have HA := Lib.hid (fun V => iHas o 84 V)
  rw [(hasB_form o.k).2.2.1] at HA
  unfold wrongOp
  generalize opOk o = x at HO ⊢
  generalize formAt o.k 2 = y at HA ⊢
  clear hc hg
  obtain ⟨k, r, s, to, ⟨vk, vn⟩⟩ := o
  simp only [opArr] at *
  have hd : decide ((n : Int) ≤ to) = true ∨ decide ((n : Int) ≤ to) = false := by cases decide ((n : Int) ≤ to) <;> simp
  cases x <;> cases y <;> rcases hd with hd | hd
  all_goals
    go_enter Tryz.func130, Tryz.ntmps130
    go_wp2_with (first
      | (((with_reducible refine goal_alloc (G := fun W => wpList _ _ _ _ _ W) M ?_); clear M; intro w1 M; (try clear F); have F := M.facts; simp only [And.intro FX FXw] at F); have E1 := HC.out _ M.toBelow)
      | (go_at_call 131; (apply goal_name (G := fun W => Calls _ _ _ W _)); (repeat (first | with_reducible exact M | with_reducible apply Mem.drew | with_reducible apply Mem.drewN | with_reducible apply Mem.allocD | with_reducible apply Mem.setV | with_reducible apply Mem.setD | with_reducible exact Del.here | with_reducible apply Del.there | with_reducible assumption)); clear M; intro w1 M; (try simp only [LX] at M); (try clear F); have F := M.facts; simp only [And.intro FX FXw] at F; with_reducible refine (HO.out _).mono ?_; rintro e w2 ⟨rfl, hb⟩; replace M := M.below hb; clear hb; (try clear F); have F := M.facts; simp only [And.intro FX FXw] at F; have E1 := HC.out _ M.toBelow)
      | (go_at_call 132; (apply goal_name (G := fun W => Calls _ _ _ W _)); (repeat (first | with_reducible exact M | with_reducible apply Mem.drew | with_reducible apply Mem.drewN | with_reducible apply Mem.allocD | with_reducible apply Mem.setV | with_reducible apply Mem.setD | with_reducible exact Del.here | with_reducible apply Del.there | with_reducible assumption)); clear M; intro w1 M; (try simp only [LX] at M); (try clear F); have F := M.facts; simp only [And.intro FX FXw] at F; with_reducible refine (HA.out _).mono ?_; rintro e w2 ⟨rfl, hb⟩; replace M := M.below hb; clear hb; (try clear F); have F := M.facts; simp only [And.intro FX FXw] at F; have E1 := HC.out _ M.toBelow))
    go_ret
    exact ⟨ret_bool (by simp [hd]), M.toBelow⟩

/-- A predicate on steps, as a function value. -/
def PredO (g : Nat) (lb : Array Value) (p : Opx → Bool) (w : World) : Prop :=
  ∀ (W : World) (x : Opx), Below w.heap.size w W → Calls Tryz.prog g (#[.agg (opArr x)] ++ lb) W fun e w' => e = .returned (.bool (p x)) ∧ Below w.heap.size w w'
set_option maxHeartbeats 1000000 in
theorem iIndexFuncO (p : Opx → Bool) (g : Nat) (lb : Array Value) (eg : ∀ args w, (callFunc g args).run Tryz.prog w = .ok (.enter g args) w) (l : List Opx) (ga c : Nat) (w : World) (hl : l.length ≤ 140737488355328)
    (h : ∀ k (hk : k < l.length), ga < w.heap.size ∧ OpAt w ga (k * 6) l[k]) (hp : PredO g lb p w) :
    Calls Tryz.prog 166 #[.slice (some ⟨ga, 0, none⟩) l.length c, .func (.func g) #[] lb] w fun e w' => e = .returned (.int .i64 (idxP p l)) ∧ Below w.heap.size w w' := by
  have AL := add_lit0
  have RE := Lib.hid (fun V (hv : Below w.heap.size w V) k (hk : k < l.length) => (h k hk).2.below hv (h k hk).1)
  clear h
  go_enter Tryz.func166, Tryz.ntmps166
  go_wp2
  go_loopg [5, 8] l.length (fun gg _ s8 wr => ∃ k : Nat, k ≤ l.length ∧ l.length - k ≤ gg ∧ s8 = .int .i64 k ∧ Hid (Below w.heap.size w wr) ∧ Hid (∀ j (hj : j < l.length), j < k → p l[j] = false))
  case atStart => exact ⟨0, Nat.zero_le _, by omega, rfl, Below.refl _ w, fun j _ h => absurd h (by omega)⟩
  case round =>
    obtain ⟨k, hk, hg, rfl, BW, hn⟩ := hrel
    by_cases hlt : k < l.length
    · have hlk : Hid (p l[k] = true → idxP p l = k) := fun h1 => idxP_hit hlt h1 (fun j hj => hn j (by omega) hj)
      have hl2 : Hid (p l[k] = false → ∀ j (hj : j < l.length), j < k + 1 → p l[j] = false) := fun h1 j hj hjk => by
        by_cases e : j = k
        · subst e; exact h1
        · exact hn j hj (by omega)
      have E := RE.out _ BW.out k hlt
      have hcall := hp wr l[k] BW.out
      have k1 : (0 : Int) ≤ k := by omega
      have k2 : (k : Int) < l.length := by omega
      clear hp hn
      generalize l[k] = x at hlk hl2 E hcall
      obtain ⟨xk, xr, xs, xt, ⟨xvk, xvn⟩⟩ := x
      simp only [OpAt, opArr] at E hcall
      cases hq : p ⟨xk, xr, xs, xt, ⟨xvk, xvn⟩⟩ with
      | true =>
        rw [hq] at hcall
        go_wp2_with (go_at_fn g; refine hcall.mono ?_; rintro e w' ⟨rfl, hb'⟩)
        go_ret
        exact ⟨ret_int (hlk.out hq).symm, hb'⟩
      | false =>
        rw [hq] at hcall
        go_wp2_with (go_at_fn g; refine hcall.mono ?_; rintro e w' ⟨rfl, hb'⟩)
        go_roundg (l.length - (k + 1))
        case measure => omega
        case rel => exact ⟨k + 1, by omega, by omega, by go_num, hb', hl2.out hq⟩
    · have : k = l.length := by omega
      subst this
      go_wp2
      go_ret
      exact ⟨ret_int (idxP_miss (fun j hj => hn.out j hj hj)).symm, BW.out⟩
end Go.Proofs.YtomolbhcggaakaaGreat
