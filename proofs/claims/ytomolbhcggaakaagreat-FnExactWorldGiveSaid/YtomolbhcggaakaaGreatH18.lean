/- Parts of the proof, in one text. -/
import Derived.Deep.RegionWith
import Derived.Deep.DrawnRows
import Derived.Test.YtomolbhcggaakaaGreatH16
import Derived.Test.YtomolbhcggaakaaGreatH15
/- Whether a run fits its world. It is told by its state. -/
namespace Go.Proofs.YtomolbhcggaakaaGreat
open Go.RowKit
set_option maxRecDepth 100000
attribute [local go_sem ↓] Go.wp_at_zero Go.wp_at_succ

set_option maxHeartbeats 1200000 in
theorem sRun12_e (W : Wm) (FL : List Int) (fA : Option Addr) (fC i : Nat) (hi : i < W.ps.length) (hl6 : W.ps.length ≤ 6) (B : Nat) (w : World) (h : RW w B W) (hF : ReadsI w B fA FL.length FL) (hFl : FL.length = W.code.length) (hFb : Bits FL) (hB : B ≤ w.heap.size) (hb1 : runOk W.ps[i].1 = true) (hb2 : (W.ps[i].1.id == (i : Int) + 1) = true) (hb3 : W.ps[i].1.at_ < W.code.length) (hb4 : (inL W.queue W.ps[i].1.id == (W.ps[i].1.state == 1)) = true)
    (hb5 : ((W.ps[i].1.state == 2) = true ∧ waitsOk W.wd W.ps[i].1 = false) ∨ (W.ps[i].1.state == 3) = true ∧ (W.ps[i].1.state == 2) = false) :
    Calls Tryz.prog 48 #[.agg (wArr W), .slice fA FL.length fC, .int .i64 (i : Int)] w fun e w' => e = .returned (.bool (runFits W.wd FL i W.ps[i].1)) ∧ Below w.heap.size w w' := by
  rw [runFits_eq W.wd FL i W.ps[i].1]
  obtain ⟨g, hA, hg, ca⟩ := h.runs i hi
  have RX := Lib.hid (fun V (hv : Below w.heap.size w V) => ca.below (hv.mono hB) hg)
  have hr := h.each i hi
  have HR := Lib.hid (fun V (hv : Below w.heap.size w V) => sRunOk W.ps[i].1 W.ps[i].2 B V (hr.below hv hB) (Nat.le_trans hB hv.size))
  have HA := Lib.hid (fun V (hv : Below w.heap.size w V) => sAmong W.queue W.ps[i].1.id W.qA W.qC B V (h.queue.below' hv hB))
  have HW := Lib.hid (fun (h0 : 0 ≤ W.ps[i].1.at_) (h1 : W.ps[i].1.at_ < W.code.length) V (hv : Below w.heap.size w V) => sWaiting W W.ps[i].1 W.ps[i].2 h0 h1 B V (h.below hv hB) (hr.below hv hB) (Nat.le_trans hB hv.size))
  have HPS := Lib.hid h
  have HFF := Lib.hid hF
  have HFB := Lib.hid hFb
  have HFL := Lib.hid hFl
  clear h ca hF hFb hFl
  have i1 : (0 : Int) ≤ i := by omega
  have i2 : (i : Int) < W.ps.length := by omega
  have wi : IntKind.i64.wrap ((i : Int) + 1) = (i : Int) + 1 := by rw [IntKind.wrap_i64]; omega
  have AL := add_lit0
  have M := Mem.nil w
  have HRR := Lib.hid hr
  clear hr
  generalize hp : W.ps[i] = p at *
  have HP := Lib.hid hp
  clear hp
  obtain ⟨r, ra⟩ := p
  simp only at *
  generalize hx1 : runOk r = x1 at HR ⊢
  have HX1 := Lib.hid hx1
  clear hx1
  have e1 : W.wd.code = W.code := rfl
  have e2 : W.wd.queue = W.queue := rfl
  rw [e1, e2]
  clear e1 e2
  generalize inL W.queue r.id = xa at *
  generalize waitsOk W.wd r = xw at *
  generalize hxr : (r.links.all (aliveIn W.wd.runs) && r.watched.all (aliveIn W.wd.runs) && needOk FL r) = xr
  have HXR := Lib.hid hxr
  clear hxr
  obtain ⟨code, cA, cC, ps, rA, rC, queue, qA, qC, now, sent, taken, lost⟩ := W
  simp only at *
  subst hA
  obtain ⟨id, at_, slots, full, mail, state, due, links, watched, trap, ⟨wk, wn⟩, turns⟩ := r
  obtain ⟨sA, sC, mA, mC, lA, lC, wA, wC⟩ := ra
  simp only [runArr, RunAt] at RX HR HW HA ⊢
  go_enter Tryz.func48, Tryz.ntmps48
  go_upto_region 1 with (first | ((with_reducible refine alAw M ?_; clear M; (try clear F); intro w1 M F); have E1 := RX.out _ M.toBelow) | (((with_reducible apply ev_store (M := M)); rfl; rfl; ((conv => lhs; whnf) <;> rfl); rfl; (first | exact siI | exact siR | exact siV | exact siB | exact siSI | exact siSV | exact siW | exact siSR | exact siSO | exact siO); (exact one_all rfl); (exact dl); (exact Nat.le_of_ble_eq_true rfl); clear M; intro w1 M; simp only [SX] at M; (try clear F); have F := fxw M); have E1 := RX.out _ M.toBelow))
  go_cut [3, 6, 7] from 10 (fun s3 s6 s7 wx => ∃ (g3 g7 : Nat), s3 = .pointer (some ⟨g3, 0, none⟩) ∧ s6 = .bool false ∧ s7 = .pointer (some ⟨g7, 0, none⟩) ∧ Mem w [] wx [blk g7 tR [.int .i64 id, .int .i64 at_, .slice sA slots.length sC, .int .i64 full, .slice mA mail.length mC, .int .i64 state, .int .i64 due, .slice lA links.length lC, .slice wA watched.length wC, .bool trap, .int .i64 wk, .int .i64 wn, .int .i64 turns], blk g3 tW [.slice cA code.length cC, .slice (some ⟨g, 0, none⟩) ps.length rC, .slice qA queue.length qC, .int .i64 now, .int .i64 sent, .int .i64 taken, .int .i64 lost]])
  case first =>
    go_wp2_with (first | ((with_reducible refine alAw M ?_; clear M; (try clear F); intro w1 M F); have E1 := RX.out _ M.toBelow) | (((with_reducible apply ev_store (M := M)); rfl; rfl; ((conv => lhs; whnf) <;> rfl); rfl; (first | exact siI | exact siR | exact siV | exact siB | exact siSI | exact siSV | exact siW | exact siSR | exact siSO | exact siO); (exact one_all rfl); (exact dl); (exact Nat.le_of_ble_eq_true rfl); clear M; intro w1 M; simp only [SX] at M; (try clear F); have F := fxw M); have E1 := RX.out _ M.toBelow))
    go_meet
    case rel => exact ⟨_, _, rfl, rfl, rfl, M.sel sl⟩
  clear M
  obtain ⟨g3, g7, rfl, rfl, rfl, M⟩ := hcut
  (try clear F); have F := fxw M
  simp only at hb3
  rw [HX1.out] at hb1
  subst hb1
  have c2' : (id != (i : Int) + 1) = false := by simp [bne, hb2]
  have C2 := Lib.hid hb2
  have c3' : decide ((code.length : Int) ≤ at_) = false := decide_eq_false (by omega)
  have C3 := Lib.hid hb3
  have pat := (runOk_parts HX1.out).2.1
  have HW2 := Lib.hid (HW.out pat.1 C3.out)
  clear HW pat
  clear hb2 hb3
  rcases hb5 with ⟨h2, hw⟩ | ⟨h3, h2⟩
  · subst hw
    obtain rfl : state = 2 := by simpa using h2
    obtain rfl : xa = false := by simpa using hb4
    clear h2 hb4
    go_wp2
    refine held_begin (S := (fun W => (∀ j, W.cell? ⟨g7, j, none⟩ = ([.int .i64 id, .int .i64 at_, .slice sA slots.length sC, .int .i64 full, .slice mA mail.length mC, .int .i64 2, .int .i64 due, .slice lA links.length lC, .slice wA watched.length wC, .bool trap, .int .i64 wk, .int .i64 wn, .int .i64 turns] : List Value)[j]?) ∧ ∀ j, W.cell? ⟨g3, j, none⟩ = ([.slice cA code.length cC, .slice (some ⟨g, 0, none⟩) ps.length rC, .slice qA queue.length qC, .int .i64 now, .int .i64 sent, .int .i64 taken, .int .i64 lost] : List Value)[j]?)) (by kernel_rfl) (fun _ _ _ _ _ h => h) (by (refine ⟨?_, ?_⟩ <;> (exact kc))) (fun HQ hHeld => ?_)
    refine tkY HQ hHeld 0 ?_
    refine stp 1 (fun K hK => ?_); go_simp
    (first | (go_at_call 90; (refine nmKw ?_; clear M; (try clear F); intro w1 M F); refine (HR.out _ M.toBelow).mono ?_; rintro e w2 ⟨rfl, hb⟩; replace M := M.below hb; clear hb; (try clear F); have F := fxw M) | (go_at_call 74; (refine nmKw ?_; clear M; (try clear F); intro w1 M F); refine (HA.out _ M.toBelow).mono ?_; rintro e w2 ⟨rfl, rfl⟩))
    (try go_wp2_with fail); refine hK.out _ _ (by (refine ⟨?_, ?_⟩ <;> (exact kc))) (fun hHeld => ?_); clear hK K; (try simp only [AX])
    refine tkY HQ hHeld 2 ?_; refine tkY HQ hHeld 3 ?_; refine tkY HQ hHeld 4 ?_; refine tkY HQ hHeld 5 ?_; refine tkY HQ hHeld 6 ?_; refine tkY HQ hHeld 7 ?_; refine tkY HQ hHeld 8 ?_; refine tkY HQ hHeld 9 ?_; refine tkY HQ hHeld 10 ?_; refine tkY HQ hHeld 11 ?_; refine tkY HQ hHeld 12 ?_; refine tkY HQ hHeld 13 ?_; refine tkY HQ hHeld 14 ?_; refine tkY HQ hHeld 15 ?_; refine tkY HQ hHeld 16 ?_; refine tkY HQ hHeld 17 ?_; refine tkY HQ hHeld 18 ?_; refine tkY HQ hHeld 19 ?_; refine tkY HQ hHeld 20 ?_; refine tkY HQ hHeld 21 ?_; refine tkY HQ hHeld 22 ?_; refine tkY HQ hHeld 24 ?_; refine tkY HQ hHeld 25 ?_; refine tkY HQ hHeld 26 ?_
    refine stp 23 (fun K hK => ?_); go_simp
    (first | (go_at_call 90; (refine nmKw ?_; clear M; (try clear F); intro w1 M F); refine (HR.out _ M.toBelow).mono ?_; rintro e w2 ⟨rfl, hb⟩; replace M := M.below hb; clear hb; (try clear F); have F := fxw M) | (go_at_call 74; (refine nmKw ?_; clear M; (try clear F); intro w1 M F); refine (HA.out _ M.toBelow).mono ?_; rintro e w2 ⟨rfl, rfl⟩))
    (try go_wp2_with fail); refine hK.out _ _ (by (refine ⟨?_, ?_⟩ <;> (exact kc))) (fun hHeld => ?_); clear hK K; (try simp only [AX])
    refine tkY HQ hHeld 27 ?_; refine tkY HQ hHeld 28 ?_
    refine wpAnyH_done (by kernel_rfl) ?_ _; clear HQ; (repeat clear hHeld)
    go_wp2_with ((go_at_call 91; (refine nmKw ?_; clear M; (try clear F); intro w1 M F); refine (HW2.out _ M.toBelow).mono ?_; rintro e w2 ⟨rfl, hb⟩; replace M := M.below hb; clear hb; (try clear F); have F := fxw M))
    go_ret
    exact ⟨ret_bool (by simp), M.toBelow⟩
  · obtain rfl : state = 3 := by simpa using h3
    obtain rfl : xa = false := by simpa using hb4
    clear h2 h3 hb4
    go_wp2
    refine held_begin (S := (fun W => (∀ j, W.cell? ⟨g7, j, none⟩ = ([.int .i64 id, .int .i64 at_, .slice sA slots.length sC, .int .i64 full, .slice mA mail.length mC, .int .i64 3, .int .i64 due, .slice lA links.length lC, .slice wA watched.length wC, .bool trap, .int .i64 wk, .int .i64 wn, .int .i64 turns] : List Value)[j]?) ∧ ∀ j, W.cell? ⟨g3, j, none⟩ = ([.slice cA code.length cC, .slice (some ⟨g, 0, none⟩) ps.length rC, .slice qA queue.length qC, .int .i64 now, .int .i64 sent, .int .i64 taken, .int .i64 lost] : List Value)[j]?)) (by kernel_rfl) (fun _ _ _ _ _ h => h) (by (refine ⟨?_, ?_⟩ <;> (exact kc))) (fun HQ hHeld => ?_)
    refine tkY HQ hHeld 0 ?_
    refine stp 1 (fun K hK => ?_); go_simp
    (first | (go_at_call 90; (refine nmKw ?_; clear M; (try clear F); intro w1 M F); refine (HR.out _ M.toBelow).mono ?_; rintro e w2 ⟨rfl, hb⟩; replace M := M.below hb; clear hb; (try clear F); have F := fxw M) | (go_at_call 74; (refine nmKw ?_; clear M; (try clear F); intro w1 M F); refine (HA.out _ M.toBelow).mono ?_; rintro e w2 ⟨rfl, rfl⟩))
    (try go_wp2_with fail); refine hK.out _ _ (by (refine ⟨?_, ?_⟩ <;> (exact kc))) (fun hHeld => ?_); clear hK K; (try simp only [AX])
    refine tkY HQ hHeld 2 ?_; refine tkY HQ hHeld 3 ?_; refine tkY HQ hHeld 4 ?_; refine tkY HQ hHeld 5 ?_; refine tkY HQ hHeld 6 ?_; refine tkY HQ hHeld 7 ?_; refine tkY HQ hHeld 8 ?_; refine tkY HQ hHeld 9 ?_; refine tkY HQ hHeld 10 ?_; refine tkY HQ hHeld 11 ?_; refine tkY HQ hHeld 12 ?_; refine tkY HQ hHeld 13 ?_; refine tkY HQ hHeld 14 ?_; refine tkY HQ hHeld 15 ?_; refine tkY HQ hHeld 16 ?_; refine tkY HQ hHeld 17 ?_; refine tkY HQ hHeld 18 ?_; refine tkY HQ hHeld 19 ?_; refine tkY HQ hHeld 20 ?_; refine tkY HQ hHeld 21 ?_; refine tkY HQ hHeld 22 ?_; refine tkY HQ hHeld 24 ?_; refine tkY HQ hHeld 25 ?_; refine tkY HQ hHeld 26 ?_
    refine stp 23 (fun K hK => ?_); go_simp
    (first | (go_at_call 90; (refine nmKw ?_; clear M; (try clear F); intro w1 M F); refine (HR.out _ M.toBelow).mono ?_; rintro e w2 ⟨rfl, hb⟩; replace M := M.below hb; clear hb; (try clear F); have F := fxw M) | (go_at_call 74; (refine nmKw ?_; clear M; (try clear F); intro w1 M F); refine (HA.out _ M.toBelow).mono ?_; rintro e w2 ⟨rfl, rfl⟩))
    (try go_wp2_with fail); refine hK.out _ _ (by (refine ⟨?_, ?_⟩ <;> (exact kc))) (fun hHeld => ?_); clear hK K; (try simp only [AX])
    refine tkY HQ hHeld 27 ?_; refine tkY HQ hHeld 28 ?_
    refine wpAnyH_done (by kernel_rfl) ?_ _; clear HQ; (repeat clear hHeld)
    go_wp2
    go_ret
    refine ⟨ret_bool ?_, M.toBelow⟩
    rw [C2.out, show decide (at_ < (code.length : Int)) = true from decide_eq_true C3.out]
    rfl
end Go.Proofs.YtomolbhcggaakaaGreat
/- Giving and falling in plain words; an ok world stays ok. No Go and no memory here. -/
namespace Go.Proofs.YtomolbhcggaakaaGreat

def wr (x : Int) : Int := (x + 9223372036854775808) % 18446744073709551616 - 9223372036854775808
theorem wr_eq {x : Int} (h0 : -9223372036854775808 ≤ x) (h1 : x ≤ 9223372036854775807) : wr x = x := by unfold wr; omega

def updR (l : List Rn) (id : Int) (f : Rn → Rn) : List Rn := l.set (id - 1).toNat (f (getR l id))
theorem updR_length (l : List Rn) (id : Int) (f : Rn → Rn) : (updR l id f).length = l.length := by simp [updR]
theorem getR_updR {l : List Rn} {id j : Int} (h1 : 1 ≤ id) (h2 : id ≤ l.length) (hj : 1 ≤ j) (f : Rn → Rn) : getR (updR l id f) j = if j = id then f (getR l id) else getR l j := by
  unfold updR
  rw [getR, List.getD_eq_getElem?_getD, List.getElem?_set]
  by_cases h : j = id
  · subst h
    rw [if_pos rfl, if_pos (by omega), if_pos rfl]
    rfl
  · rw [if_neg (by omega), if_neg h, getR, List.getD_eq_getElem?_getD]

def give (w : Wd) (id : Int) (v : Vl) : Wd :=
  if aliveIn w.runs id && decide ((getR w.runs id).mail.length < 12) then
    { w with
      sent := wr (w.sent + 1)
      runs := updR w.runs id (fun r => { r with mail := r.mail ++ [v], state := if r.state == 2 && fits v (opAt w.code r.at_).s then 1 else r.state })
      queue := if (getR w.runs id).state == 2 && fits v (opAt w.code (getR w.runs id).at_).s then w.queue ++ [id] else w.queue }
  else { w with sent := wr (w.sent + 1), lost := wr (w.lost + 1) }
def worldGive (w : Wd) (id : Int) (v : Vl) : Wd := if worldOk w && valOk v && decide (w.sent < 9990) then give w id v else Wd.zero

def less (l : List Int) (n : Int) : List Int := l.filter (fun x => !(x == n))
def isNormal (v : Vl) : Bool := v == ⟨2, 0⟩
def endOne (why : Vl) (r : Rn) : Rn := { r with mail := [], links := [], watched := [], state := 3, due := 0, why := why }
def unlink (w : Wd) (k id : Int) : Wd := { w with runs := updR w.runs k (fun r => { r with links := less r.links id }) }
def linkStep (id : Int) (normal : Bool) (s : Wd × List Int) (k : Int) : Wd × List Int :=
  if normal then (unlink s.1 k id, s.2) else if (getR s.1.runs k).trap then (give (unlink s.1 k id) k ⟨3, id⟩, s.2) else (unlink s.1 k id, s.2 ++ [k])
def endFirst (w : Wd) (id : Int) (why : Vl) : Wd :=
  { w with
    lost := wr (w.lost + (getR w.runs id).mail.length)
    runs := (updR w.runs id (endOne why)).map (fun x => { x with watched := less x.watched id })
    queue := less w.queue id }
def giveAll (id : Int) (w : Wd) (l : List Int) : Wd := l.foldl (fun w k => give w k ⟨3, id⟩) w
def endRun (w : Wd) (id : Int) (why : Vl) : Wd × List Int :=
  let s := (getR w.runs id).links.foldl (linkStep id (isNormal why)) (endFirst w id why, [])
  (giveAll id s.1 (getR w.runs id).watched, s.2)
/-- Who is listed falls, one behind the other. -/
def fallN (why : Vl) : Nat → Wd → List Int → Wd
  | 0, w, _ => w
  | _ + 1, w, [] => w
  | n + 1, w, k :: l => if aliveIn w.runs k then fallN why n (endRun w k why).1 (l ++ (endRun w k why).2) else fallN why n w l
/-- How many rounds a falling takes at most. -/
def sumR (g : Rn → Nat) : List Rn → Nat
  | [] => 0
  | r :: l => g r + sumR g l
def linkW (r : Rn) : Nat := if r.state = 3 then 0 else r.links.length + 1
def liveW (r : Rn) : Nat := if r.state = 3 then 0 else 1
def pot (w : Wd) (l : List Int) : Nat := l.length + sumR linkW w.runs
def fallAll (w : Wd) (id : Int) (why : Vl) : Wd := fallN why (pot w [id]) w [id]
def fallEnd (w : Wd) (id : Int) (why : Vl) : Wd := if worldOk w && valOk why && decide (w.sent < 9900) then fallAll w id why else Wd.zero

/-! ### An ok world, as a proposition -/
structure FitR (w : Wd) (f : List Int) (k : Nat) (r : Rn) : Prop where
  ok : runOk r = true
  id : r.id = (k : Int) + 1
  at_ : r.at_ < w.code.length
  queue : r.id ∈ w.queue ↔ r.state = 1
  waits : r.state = 2 → waitsOk w r = true
  links : ∀ x ∈ r.links, aliveIn w.runs x = true
  watched : ∀ x ∈ r.watched, aliveIn w.runs x = true
  need : r.state ≠ 3 → needOk f r = true
structure WOk (w : Wd) : Prop where
  safe : codeSafe w.code = true
  len : 1 ≤ w.runs.length ∧ w.runs.length ≤ 6
  now : 0 ≤ w.now ∧ w.now ≤ 300
  sent : 0 ≤ w.sent ∧ w.sent ≤ 9999
  taken : 0 ≤ w.taken ∧ w.taken ≤ 9999
  lost : 0 ≤ w.lost ∧ w.lost ≤ 9999
  qin : ∀ x ∈ w.queue, 1 ≤ x ∧ x ≤ w.runs.length
  qnd : w.queue.Nodup
  fit : ∀ k (hk : k < w.runs.length), FitR w (fullOf w.code) k w.runs[k]
  sym : ∀ a (ha : a < w.runs.length) b (hb : b < w.runs.length), (b : Int) + 1 ∈ (w.runs[a]).links → (a : Int) + 1 ∈ (w.runs[b]).links
  sum : w.sent = w.taken + w.lost + waits w.runs

theorem runFits_iff {w : Wd} {f : List Int} {k : Nat} {r : Rn} : runFits w f k r = true ↔ FitR w f k r := by
  simp only [runFits, Bool.and_eq_true, beq_iff_eq, decide_eq_true_eq, Bool.or_eq_true, Bool.not_eq_true', beq_eq_false_iff_ne, List.all_eq_true]
  constructor
  · rintro ⟨⟨⟨⟨⟨h1, h2⟩, h3⟩, h4⟩, h5⟩, h6⟩
    rw [Bool.eq_iff_iff, List.contains_iff_mem, beq_iff_eq] at h4
    obtain ⟨_, _, _, _, _, _, _, _, _, _, _, _, _, e, _⟩ := runOk_parts h1
    refine ⟨h1, h2, h3, h4, fun hs => h5.resolve_left (fun hn => hn hs), fun x hx => ?_, fun x hx => ?_, fun hs => (h6.resolve_left hs).2⟩
    · rcases h6 with h6 | h6
      · rw [(e h6).2.1] at hx
        simp at hx
      · exact h6.1.1 x hx
    · rcases h6 with h6 | h6
      · rw [(e h6).2.2] at hx
        simp at hx
      · exact h6.1.2 x hx
  · rintro ⟨h1, h2, h3, h4, h5, h6, h7, h8⟩
    refine ⟨⟨⟨⟨⟨h1, h2⟩, h3⟩, ?_⟩, ?_⟩, ?_⟩
    · rw [Bool.eq_iff_iff, List.contains_iff_mem, beq_iff_eq]
      exact h4
    · by_cases hs : r.state = 2
      · exact .inr (h5 hs)
      · exact .inl hs
    · by_cases hs : r.state = 3
      · exact .inl hs
      · exact .inr ⟨⟨h6, h7⟩, h8 hs⟩
theorem worldOk_iff {w : Wd} : worldOk w = true ↔ WOk w := by
  simp only [worldOk, Bool.and_eq_true, beq_iff_eq, fitsFrom_iff, Nat.zero_add, idsOk_iff, linkedAll_iff, List.all_eq_true, decide_eq_true_eq, inB_iff, runFits_iff]
  constructor
  · rintro ⟨⟨⟨⟨⟨⟨⟨⟨⟨⟨h1, h2⟩, h3⟩, h4⟩, h5⟩, h6⟩, hq1, hq2⟩, h8⟩, h9⟩, h10⟩, h7⟩
    exact ⟨h1, by omega, h3, h4, h5, h6, fun x hx => ⟨(hq1 x hx).1, h9 x hx⟩, hq2, h8, fun a ha b hb => (h10 a ha b hb).1, h7⟩
  · rintro ⟨h1, h2, h3, h4, h5, h6, hq1, hq2, h8, h10, h7⟩
    exact ⟨⟨⟨⟨⟨⟨⟨⟨⟨⟨h1, by omega⟩, h3⟩, h4⟩, h5⟩, h6⟩, fun x hx => ⟨(hq1 x hx).1, by have := (hq1 x hx).2; omega, by have := (hq1 x hx).1; omega⟩, hq2⟩, h8⟩, fun x hx => (hq1 x hx).2⟩, fun a ha b hb => ⟨h10 a ha b hb, h10 b hb a ha⟩⟩, h7⟩

/-! ### A run is turned -/
theorem waits_set {l : List Rn} {k : Nat} (hk : k < l.length) (r : Rn) : waits (l.set k r) = waits l - (l[k]).mail.length + r.mail.length := by
  induction l generalizing k with
  | nil => simp at hk
  | cons x l ih =>
    cases k with
    | zero => simp only [List.set_cons_zero, waits, List.getElem_cons_zero]; omega
    | succ k => simp only [List.set_cons_succ, waits, List.getElem_cons_succ, ih (by simpa using hk)]; omega
theorem waits_updR {l : List Rn} {id : Int} (h1 : 1 ≤ id) (h2 : id ≤ l.length) (f : Rn → Rn) : waits (updR l id f) = waits l - (getR l id).mail.length + (f (getR l id)).mail.length := by
  unfold updR
  rw [waits_set (by omega), mem_getR h1 h2]
theorem waits_nonneg (l : List Rn) : 0 ≤ waits l := by
  induction l with
  | nil => simp [waits]
  | cons r l ih => simp only [waits]; omega
theorem waits_ge {l : List Rn} {id : Int} (h1 : 1 ≤ id) (h2 : id ≤ l.length) : ((getR l id).mail.length : Int) ≤ waits l := by
  have := waits_updR h1 h2 (fun r => { r with mail := [] })
  have h := waits_nonneg (updR l id (fun r => { r with mail := [] }))
  simp only [List.length_nil] at this
  omega

/-- By numbers, not by places. -/
theorem WOk.run {w : Wd} (h : WOk w) {x : Int} (h1 : 1 ≤ x) (h2 : x ≤ w.runs.length) : FitR w (fullOf w.code) (x - 1).toNat (getR w.runs x) := by
  rw [mem_getR h1 h2]
  exact h.fit _ _
theorem WOk.run_id {w : Wd} (h : WOk w) {x : Int} (h1 : 1 ≤ x) (h2 : x ≤ w.runs.length) : (getR w.runs x).id = x := by
  have := (h.run h1 h2).id
  omega
theorem WOk.link {w : Wd} (h : WOk w) {a b : Int} (a1 : 1 ≤ a) (a2 : a ≤ w.runs.length) (hb : b ∈ (getR w.runs a).links) : (1 ≤ b ∧ b ≤ w.runs.length) ∧ a ∈ (getR w.runs b).links ∧ (getR w.runs b).state ≠ 3 ∧ b ≠ a := by
  have f := h.run a1 a2
  obtain ⟨⟨b1, b2⟩, b3⟩ := aliveIn_iff.1 (f.links b hb)
  refine ⟨⟨b1, b2⟩, ?_, b3, ?_⟩
  · rw [mem_getR a1 a2] at hb
    have := h.sym (a - 1).toNat (by omega) (b - 1).toNat (by omega) (by rw [show (((b - 1).toNat : Nat) : Int) + 1 = b by omega]; exact hb)
    rw [show (((a - 1).toNat : Nat) : Int) + 1 = a by omega] at this
    rwa [mem_getR b1 b2]
  · obtain ⟨_, _, _, _, _, _, _, _, _, _, e, _⟩ := runOk_parts f.ok
    have := ((idsOk_iff.1 e).1 b hb).2.2
    have := h.run_id a1 a2
    omega
/-- Of numbers: all that an ok world is. -/
theorem wok_of {w : Wd} (h1 : codeSafe w.code = true) (h2 : 1 ≤ w.runs.length ∧ w.runs.length ≤ 6) (h3 : 0 ≤ w.now ∧ w.now ≤ 300) (h4 : 0 ≤ w.sent ∧ w.sent ≤ 9999) (h5 : 0 ≤ w.taken ∧ w.taken ≤ 9999) (h6 : 0 ≤ w.lost ∧ w.lost ≤ 9999)
    (h7 : ∀ x ∈ w.queue, 1 ≤ x ∧ x ≤ w.runs.length) (h8 : w.queue.Nodup) (h9 : ∀ x : Int, 1 ≤ x → x ≤ w.runs.length → FitR w (fullOf w.code) (x - 1).toNat (getR w.runs x))
    (h10 : ∀ a b : Int, 1 ≤ a → a ≤ w.runs.length → 1 ≤ b → b ≤ w.runs.length → b ∈ (getR w.runs a).links → a ∈ (getR w.runs b).links) (h11 : w.sent = w.taken + w.lost + waits w.runs) : WOk w := by
  refine ⟨h1, h2, h3, h4, h5, h6, h7, h8, fun k hk => ?_, fun a ha b hb hm => ?_, h11⟩
  · have := h9 ((k : Int) + 1) (by omega) (by omega)
    rw [mem_getR (by omega) (by omega)] at this
    simpa using this
  · have := h10 ((a : Int) + 1) ((b : Int) + 1) (by omega) (by omega) (by omega) (by omega) (by rw [mem_getR (by omega) (by omega)]; simpa using hm)
    rw [mem_getR (by omega) (by omega)] at this
    simpa using this

/-! ### Giving -/
theorem give_length (w : Wd) (id : Int) (v : Vl) : (give w id v).runs.length = w.runs.length := by
  unfold give
  split
  · simp only [updR_length]
  · rfl
theorem give_code (w : Wd) (id : Int) (v : Vl) : (give w id v).code = w.code := by unfold give; split <;> rfl
theorem give_now (w : Wd) (id : Int) (v : Vl) : (give w id v).now = w.now := by unfold give; split <;> rfl
theorem give_taken (w : Wd) (id : Int) (v : Vl) : (give w id v).taken = w.taken := by unfold give; split <;> rfl
theorem give_sent (w : Wd) (id : Int) (v : Vl) : (give w id v).sent = wr (w.sent + 1) := by unfold give; split <;> rfl
/-- What a run is behind a giving: all but mail, and whether it goes, is as it was. -/
theorem give_run (w : Wd) (id : Int) (v : Vl) {x : Int} (hx : 1 ≤ x) :
    getR (give w id v).runs x = (if (aliveIn w.runs id && decide ((getR w.runs id).mail.length < 12)) = true ∧ x = id then
      { getR w.runs x with mail := (getR w.runs x).mail ++ [v], state := if (getR w.runs x).state == 2 && fits v (opAt w.code (getR w.runs x).at_).s then 1 else (getR w.runs x).state } else getR w.runs x) := by
  unfold give
  by_cases h : (aliveIn w.runs id && decide ((getR w.runs id).mail.length < 12)) = true
  · rw [if_pos h]
    obtain ⟨⟨a1, a2⟩, _⟩ := aliveIn_iff.1 (Bool.and_eq_true_iff.1 h).1
    rw [getR_updR a1 a2 hx]
    by_cases e : x = id
    · subst e; rw [if_pos rfl]; exact (if_pos ⟨h, rfl⟩).symm
    · rw [if_neg e, if_neg (fun hh => e hh.2)]
  · rw [if_neg h, if_neg (fun hh => h hh.1)]
theorem give_fields (w : Wd) (id : Int) (v : Vl) {x : Int} (hx : 1 ≤ x) :
    (getR (give w id v).runs x).id = (getR w.runs x).id ∧ (getR (give w id v).runs x).at_ = (getR w.runs x).at_ ∧ (getR (give w id v).runs x).slots = (getR w.runs x).slots ∧ (getR (give w id v).runs x).full = (getR w.runs x).full ∧
    (getR (give w id v).runs x).links = (getR w.runs x).links ∧ (getR (give w id v).runs x).watched = (getR w.runs x).watched ∧ (getR (give w id v).runs x).trap = (getR w.runs x).trap ∧ (getR (give w id v).runs x).why = (getR w.runs x).why ∧
    ((getR (give w id v).runs x).state = 3 ↔ (getR w.runs x).state = 3) ∧ (getR (give w id v).runs x).due = (getR w.runs x).due ∧ (getR (give w id v).runs x).turns = (getR w.runs x).turns := by
  rw [give_run w id v hx]
  split
  · refine ⟨rfl, rfl, rfl, rfl, rfl, rfl, rfl, rfl, ?_, rfl, rfl⟩
    by_cases h : ((getR w.runs x).state == 2 && fits v (opAt w.code (getR w.runs x).at_).s) = true
    · simp only [if_pos h]
      simp only [Bool.and_eq_true, beq_iff_eq] at h
      omega
    · simp only [if_neg h]
  · exact ⟨rfl, rfl, rfl, rfl, rfl, rfl, rfl, rfl, Iff.rfl, rfl, rfl⟩
theorem give_alive (w : Wd) (id : Int) (v : Vl) (x : Int) : aliveIn (give w id v).runs x = aliveIn w.runs x := by
  rw [Bool.eq_iff_iff, aliveIn_iff, aliveIn_iff, give_length]
  constructor
  · rintro ⟨h, hs⟩
    exact ⟨h, fun e => hs ((give_fields w id v h.1).2.2.2.2.2.2.2.2.1.2 e)⟩
  · rintro ⟨h, hs⟩
    exact ⟨h, fun e => hs ((give_fields w id v h.1).2.2.2.2.2.2.2.2.1.1 e)⟩
theorem give_lost {w : Wd} (id : Int) (v : Vl) : (give w id v).lost = if (aliveIn w.runs id && decide ((getR w.runs id).mail.length < 12)) = true then w.lost else wr (w.lost + 1) := by
  unfold give
  split <;> rfl
theorem give_waits {w : Wd} (id : Int) (v : Vl) : waits (give w id v).runs = waits w.runs + if (aliveIn w.runs id && decide ((getR w.runs id).mail.length < 12)) = true then 1 else 0 := by
  unfold give
  by_cases h : (aliveIn w.runs id && decide ((getR w.runs id).mail.length < 12)) = true
  · rw [if_pos h, if_pos h]
    obtain ⟨⟨a1, a2⟩, _⟩ := aliveIn_iff.1 (Bool.and_eq_true_iff.1 h).1
    rw [waits_updR a1 a2]
    simp only [List.length_append, List.length_cons, List.length_nil]
    omega
  · rw [if_neg h, if_neg h]
    simp

theorem runOk_give {r : Rn} (h : runOk r = true) (hs : r.state ≠ 3) (hm : r.mail.length < 12) {v : Vl} (hv : valOk v = true) (s : Int) (hs' : s = 1 ∨ s = r.state) : runOk { r with mail := r.mail ++ [v], state := s } = true := by
  obtain ⟨h1, h2, h3, h4, h5, h6, h7, h8, h9, h10, h11, h12, h13, h14, h15⟩ := runOk_parts h
  simp only [runOk, Bool.and_eq_true, decide_eq_true_eq, inB_iff, beq_iff_eq, List.length_append, List.length_cons, List.length_nil]
  refine ⟨⟨⟨⟨⟨⟨⟨⟨⟨⟨⟨⟨⟨h1, h2⟩, h3⟩, h4⟩, by omega⟩, by omega⟩, h7⟩, h8⟩, h9⟩, ?_⟩, h11⟩, h12⟩, h13⟩, ?_⟩
  · rw [List.all_append, h10]
    simp [hv]
  · rw [if_neg (by omega)]
    simpa using h15 hs

theorem firstIx_append_none {m : List Vl} {v : Vl} {kind : Int} (h : (firstIx m kind).isNone = true) (hv : fits v kind = false) : (firstIx (m ++ [v]) kind).isNone = true := by
  rw [Option.isNone_iff_eq_none, firstIx_none] at h ⊢
  intro x hx
  rcases List.mem_append.1 hx with hx | hx
  · exact h x hx
  · rw [List.mem_singleton] at hx
    subst hx
    exact hv

/-- An ok world stays ok by a giving. -/
theorem give_ok {w : Wd} (h : WOk w) (hs : w.sent < 9999) (id : Int) {v : Vl} (hv : valOk v = true) : WOk (give w id v) := by
  have hc := give_code w id v
  have wn := waits_nonneg w.runs
  have b1 := h.sent; have b2 := h.taken; have b3 := h.lost; have b4 := h.sum
  by_cases hg : (aliveIn w.runs id && decide ((getR w.runs id).mail.length < 12)) = true
  · obtain ⟨ga, gm⟩ := Bool.and_eq_true_iff.1 hg
    obtain ⟨⟨a1, a2⟩, a3⟩ := aliveIn_iff.1 ga
    have fr := h.run a1 a2
    have hid := h.run_id a1 a2
    have hm : (getR w.runs id).mail.length < 12 := by simpa using gm
    have hq : (give w id v).queue = if (getR w.runs id).state == 2 && fits v (opAt w.code (getR w.runs id).at_).s then w.queue ++ [id] else w.queue := by
      unfold give; rw [if_pos hg]
    have hnq : (getR w.runs id).state = 2 → id ∉ w.queue := fun hs hm => by
      have := fr.queue.1 (by rw [hid]; exact hm)
      omega
    have hqm : ∀ x, x ∈ (give w id v).queue ↔ x ∈ w.queue ∨ (x = id ∧ (getR w.runs id).state = 2 ∧ fits v (opAt w.code (getR w.runs id).at_).s = true) := by
      intro x
      rw [hq]
      split
      · rename_i hw
        simp only [Bool.and_eq_true, beq_iff_eq] at hw
        simp [hw]
      · rename_i hw
        simp only [Bool.and_eq_true, beq_iff_eq] at hw
        constructor
        · exact .inl
        · rintro (hx | ⟨_, hx⟩)
          · exact hx
          · exact absurd hx hw
    refine wok_of (by rw [hc]; exact h.safe) (by rw [give_length]; exact h.len) (by rw [give_now]; exact h.now) ?_ (by rw [give_taken]; exact h.taken) ?_ ?_ ?_ ?_ ?_ ?_
    · rw [give_sent, wr_eq (by omega) (by omega)]; omega
    · rw [give_lost, if_pos hg]; exact h.lost
    · intro x hx
      rw [give_length]
      rcases (hqm x).1 hx with hx | ⟨rfl, _⟩
      · exact h.qin x hx
      · exact ⟨a1, a2⟩
    · rw [hq]
      split
      · rename_i hw
        simp only [Bool.and_eq_true, beq_iff_eq] at hw
        rw [List.nodup_append]
        refine ⟨h.qnd, by simp, ?_⟩
        intro a ha b hb e
        rw [List.mem_singleton] at hb
        subst hb
        subst e
        exact hnq hw.1 ha
      · exact h.qnd
    · intro x hx1 hx2
      rw [give_length] at hx2
      rw [hc]
      have f := h.run hx1 hx2
      have hxid := h.run_id hx1 hx2
      by_cases e : x = id
      · subst e
        rw [give_run w x v hx1, if_pos ⟨hg, rfl⟩]
        by_cases hw : ((getR w.runs x).state == 2 && fits v (opAt w.code (getR w.runs x).at_).s) = true
        · simp only [if_pos hw]
          refine ⟨runOk_give f.ok a3 hm hv 1 (.inl rfl), f.id, by rw [hc]; exact f.at_, ?_, fun hs => by simp at hs, fun y hy => by rw [give_alive]; exact f.links y hy, fun y hy => by rw [give_alive]; exact f.watched y hy, fun hs => f.need a3⟩
          simp only [Bool.and_eq_true, beq_iff_eq] at hw
          refine ⟨fun _ => rfl, fun _ => (hqm _).2 (.inr ⟨hxid, hw⟩)⟩
        · simp only [if_neg hw]
          refine ⟨runOk_give f.ok a3 hm hv _ (.inr rfl), f.id, by rw [hc]; exact f.at_, ?_, fun hs => ?_, fun y hy => by rw [give_alive]; exact f.links y hy, fun y hy => by rw [give_alive]; exact f.watched y hy, fun hs => f.need a3⟩
          · simp only [Bool.and_eq_true, beq_iff_eq] at hw
            rw [hqm]
            refine ⟨fun hm => ?_, fun hs => .inl (f.queue.2 hs)⟩
            rcases hm with hm | ⟨_, hm⟩
            · exact f.queue.1 hm
            · exact absurd hm hw
          · have hs2 : (getR w.runs x).state = 2 := hs
            have hfv : fits v (opAt w.code (getR w.runs x).at_).s = false := by
              simp only [Bool.and_eq_true, beq_iff_eq, not_and, Bool.not_eq_true] at hw
              exact hw hs2
            have := f.waits hs2
            simp only [waitsOk, Bool.and_eq_true, hc, give_now] at this ⊢
            exact ⟨this.1, firstIx_append_none this.2 hfv⟩
      · rw [give_run w id v hx1, if_neg (fun hh => e hh.2)]
        refine ⟨f.ok, f.id, by rw [hc]; exact f.at_, ?_, fun hs => ?_, fun y hy => by rw [give_alive]; exact f.links y hy, fun y hy => by rw [give_alive]; exact f.watched y hy, f.need⟩
        · rw [hqm]
          refine ⟨fun hm => ?_, fun hs => .inl (f.queue.2 hs)⟩
          rcases hm with hm | ⟨hm, _⟩
          · exact f.queue.1 hm
          · omega
        · have := f.waits hs
          simp only [waitsOk, Bool.and_eq_true, hc, give_now] at this ⊢
          exact this
    · intro a b a1' a2' b1' b2' hb
      rw [give_length] at a2' b2'
      rw [(give_fields w id v a1').2.2.2.2.1] at hb
      rw [(give_fields w id v b1').2.2.2.2.1]
      exact (h.link a1' a2' hb).2.1
    · rw [give_sent, give_taken, give_lost, give_waits, if_pos hg, if_pos hg, wr_eq (by omega) (by omega)]; omega
  · -- it is lost
    have e : give w id v = { w with sent := wr (w.sent + 1), lost := wr (w.lost + 1) } := by unfold give; rw [if_neg hg]
    rw [e, wr_eq (by omega) (by omega), wr_eq (by omega) (by omega)]
    refine ⟨h.safe, h.len, h.now, by simp only; omega, h.taken, by simp only; omega, h.qin, h.qnd, fun k hk => ?_, h.sym, by simp only; omega⟩
    have f := h.fit k hk
    exact ⟨f.ok, f.id, f.at_, f.queue, f.waits, f.links, f.watched, f.need⟩

end Go.Proofs.YtomolbhcggaakaaGreat
/- A run ends: the world stays ok; who falls next, who is told. No Go and no memory here. -/
namespace Go.Proofs.YtomolbhcggaakaaGreat

theorem runs_ext {l m : List Rn} (hl : l.length = m.length) (h : ∀ x : Int, 1 ≤ x → x ≤ l.length → getR l x = getR m x) : l = m := by
  apply List.ext_getElem hl
  intro k h1 h2
  have := h ((k : Int) + 1) (by omega) (by omega)
  rw [mem_getR (by omega) (by omega), mem_getR (by omega) (by omega)] at this
  simpa using this
theorem getR_out {l : List Rn} {x : Int} (h : (l.length : Int) < x) : getR l x = Rn.zero := by
  unfold getR
  rw [List.getD_eq_getElem?_getD, List.getElem?_eq_none (by omega)]
  rfl

/-! ### Links are taken away -/
theorem unlink_length (w : Wd) (k id : Int) : (unlink w k id).runs.length = w.runs.length := by simp only [unlink, updR_length]
theorem unlink_run (w : Wd) {k id : Int} (k1 : 1 ≤ k) (k2 : k ≤ w.runs.length) {x : Int} (hx : 1 ≤ x) :
    getR (unlink w k id).runs x = if x = k then { getR w.runs x with links := less (getR w.runs x).links id } else getR w.runs x := by
  unfold unlink
  rw [getR_updR k1 k2 hx]
  by_cases e : x = k
  · subst e; rw [if_pos rfl]
  · rw [if_neg e, if_neg e]
theorem unlink_alive (w : Wd) {k id : Int} (k1 : 1 ≤ k) (k2 : k ≤ w.runs.length) (x : Int) : aliveIn (unlink w k id).runs x = aliveIn w.runs x := by
  rw [Bool.eq_iff_iff, aliveIn_iff, aliveIn_iff, unlink_length]
  constructor
  · rintro ⟨h, hs⟩
    refine ⟨h, fun e => hs ?_⟩
    rw [unlink_run w k1 k2 h.1]
    split <;> exact e
  · rintro ⟨h, hs⟩
    refine ⟨h, fun e => hs ?_⟩
    rw [unlink_run w k1 k2 h.1] at e
    split at e <;> exact e

/-- Giving and unlinking, in any order. -/
theorem unlink_give (w : Wd) {k id : Int} (k1 : 1 ≤ k) (k2 : k ≤ w.runs.length) (j : Int) (v : Vl) : unlink (give w j v) k id = give (unlink w k id) j v := by
  have ha := unlink_alive w (id := id) k1 k2 j
  have hm : ∀ x : Int, 1 ≤ x → (getR (unlink w k id).runs x).mail = (getR w.runs x).mail ∧ (getR (unlink w k id).runs x).state = (getR w.runs x).state ∧ (getR (unlink w k id).runs x).at_ = (getR w.runs x).at_ := by
    intro x hx
    rw [unlink_run w k1 k2 hx]
    split <;> exact ⟨rfl, rfl, rfl⟩
  have hr : (unlink (give w j v) k id).runs = (give (unlink w k id) j v).runs := by
    apply runs_ext
    · rw [unlink_length, give_length, give_length, unlink_length]
    · intro x x1 x2
      have k2' : k ≤ (give w j v).runs.length := by rw [give_length]; exact k2
      have gx := give_run w j v x1
      have gu := give_run (unlink w k id) j v x1
      have ux := unlink_run w (id := id) k1 k2 x1
      have ug := unlink_run (give w j v) (id := id) k1 k2' x1
      rw [ha] at gu
      by_cases h : (aliveIn w.runs j && decide ((getR w.runs j).mail.length < 12)) = true ∧ x = j
      · have h' : (aliveIn w.runs j && decide ((getR (unlink w k id).runs j).mail.length < 12)) = true ∧ x = j := by
          refine ⟨?_, h.2⟩
          rw [← h.2, (hm x x1).1, h.2]
          exact h.1
        rw [if_pos h'] at gu
        rw [if_pos h] at gx
        by_cases e : x = k
        · rw [if_pos e] at ux ug
          rw [ug, gu, gx, ux]
          rfl
        · rw [if_neg e] at ux ug
          rw [ug, gu, gx, ux]
          rfl
      · have h' : ¬ ((aliveIn w.runs j && decide ((getR (unlink w k id).runs j).mail.length < 12)) = true ∧ x = j) := by
          rintro ⟨hh, rfl⟩
          rw [(hm x x1).1] at hh
          exact h ⟨hh, rfl⟩
        rw [if_neg h'] at gu
        rw [if_neg h] at gx
        rw [gu, ug, ux]
        by_cases e : x = k
        · rw [if_pos e, if_pos e, gx]
        · rw [if_neg e, if_neg e, gx]
  have cond : (aliveIn (unlink w k id).runs j && decide ((getR (unlink w k id).runs j).mail.length < 12)) = (aliveIn w.runs j && decide ((getR w.runs j).mail.length < 12)) := by
    rw [ha]
    cases hj : aliveIn w.runs j with
    | false => simp
    | true => rw [(hm j (aliveIn_iff.1 hj).1.1).1]
  have hq : (give w j v).queue = (give (unlink w k id) j v).queue := by
    unfold give
    rw [cond]
    by_cases h : (aliveIn w.runs j && decide ((getR w.runs j).mail.length < 12)) = true
    · have j1 := (aliveIn_iff.1 (Bool.and_eq_true_iff.1 h).1).1.1
      rw [if_pos h, if_pos h]
      simp only [(hm j j1).2.1, (hm j j1).2.2]
      rfl
    · rw [if_neg h, if_neg h]
      rfl
  have hl : (give w j v).lost = (give (unlink w k id) j v).lost := by
    rw [give_lost, give_lost, cond]
    rfl
  have e1 : unlink (give w j v) k id = { (give w j v) with runs := (unlink (give w j v) k id).runs } := rfl
  rw [e1, hr]
  have e2 : give (unlink w k id) j v = { code := w.code, runs := (give (unlink w k id) j v).runs, queue := (give w j v).queue, now := w.now, sent := wr (w.sent + 1), taken := w.taken, lost := (give w j v).lost } := by
    have c1 := give_code (unlink w k id) j v
    have c2 := give_now (unlink w k id) j v
    have c3 := give_sent (unlink w k id) j v
    have c4 := give_taken (unlink w k id) j v
    rw [hq, hl]
    show _ = Wd.mk _ _ _ _ _ _ _
    cases hg : give (unlink w k id) j v
    rw [hg] at c1 c2 c3 c4
    simp only at c1 c2 c3 c4
    subst c1; subst c2; subst c3; subst c4
    rfl
  have e3 : give w j v = { code := w.code, runs := (give w j v).runs, queue := (give w j v).queue, now := w.now, sent := wr (w.sent + 1), taken := w.taken, lost := (give w j v).lost } := by
    have c1 := give_code w j v
    have c2 := give_now w j v
    have c3 := give_sent w j v
    have c4 := give_taken w j v
    cases hg : give w j v
    rw [hg] at c1 c2 c3 c4
    simp only at c1 c2 c3 c4
    subst c1; subst c2; subst c3; subst c4
    rfl
  rw [e2, e3]

def unlinkAll (id : Int) (w : Wd) (l : List Int) : Wd := l.foldl (fun w k => unlink w k id) w
theorem unlinkAll_length (id : Int) : ∀ (l : List Int) (w : Wd), (unlinkAll id w l).runs.length = w.runs.length := by
  intro l
  induction l with
  | nil => intro w; rfl
  | cons k l ih => intro w; show (unlinkAll id (unlink w k id) l).runs.length = _; rw [ih, unlink_length]
theorem giveAll_length (id : Int) : ∀ (l : List Int) (w : Wd), (giveAll id w l).runs.length = w.runs.length := by
  intro l
  induction l with
  | nil => intro w; rfl
  | cons k l ih => intro w; show (giveAll id (give w k _) l).runs.length = _; rw [ih, give_length]
theorem unlink_giveAll {k id : Int} (k1 : 1 ≤ k) : ∀ (l : List Int) (w : Wd), k ≤ w.runs.length → unlink (giveAll id w l) k id = giveAll id (unlink w k id) l := by
  intro l
  induction l with
  | nil => intro w _; rfl
  | cons j l ih =>
    intro w k2
    show unlink (giveAll id (give w j _) l) k id = giveAll id (give (unlink w k id) j _) l
    rw [ih _ (by rw [give_length]; exact k2), unlink_give w k1 k2]
theorem giveAll_append (id : Int) (w : Wd) (a b : List Int) : giveAll id w (a ++ b) = giveAll id (giveAll id w a) b := by simp [giveAll, List.foldl_append]
theorem unlink_trap (w : Wd) {k id : Int} (k1 : 1 ≤ k) (k2 : k ≤ w.runs.length) {x : Int} (hx : 1 ≤ x) : (getR (unlink w k id).runs x).trap = (getR w.runs x).trap := by
  rw [unlink_run w k1 k2 hx]; split <;> rfl
theorem giveAll_trap (id : Int) : ∀ (l : List Int) (w : Wd) (x : Int), 1 ≤ x → (getR (giveAll id w l).runs x).trap = (getR w.runs x).trap := by
  intro l
  induction l with
  | nil => intro w x _; rfl
  | cons j l ih => intro w x hx; show (getR (giveAll id (give w j _) l).runs x).trap = _; rw [ih _ x hx, (give_fields w j _ hx).2.2.2.2.2.2.1]

/-- All links are taken away; then who traps is told; the others fall next. -/
theorem links_fold (id : Int) (normal : Bool) : ∀ (l : List Int) (w : Wd) (g : List Int) (n : List Int), (∀ k ∈ l, 1 ≤ k ∧ k ≤ w.runs.length) →
    l.foldl (linkStep id normal) (giveAll id w g, n) = (giveAll id (unlinkAll id w l) (g ++ if normal then [] else l.filter (fun k => (getR w.runs k).trap)), n ++ if normal then [] else l.filter (fun k => !(getR w.runs k).trap)) := by
  intro l
  induction l with
  | nil => intro w g n _; simp [unlinkAll]
  | cons k l ih =>
    intro w g n hl
    obtain ⟨k1, k2⟩ := hl k List.mem_cons_self
    have hrest : ∀ j ∈ l, 1 ≤ j ∧ j ≤ (unlink w k id).runs.length := fun j hj => by rw [unlink_length]; exact hl j (List.mem_cons_of_mem _ hj)
    have hun : unlink (giveAll id w g) k id = giveAll id (unlink w k id) g := unlink_giveAll k1 g w k2
    have htr : (getR (giveAll id w g).runs k).trap = (getR w.runs k).trap := giveAll_trap id g w k k1
    have hf : ∀ p : Bool → Bool, l.filter (fun j => p (getR (unlink w k id).runs j).trap) = l.filter (fun j => p (getR w.runs j).trap) := by
      intro p
      apply List.filter_congr
      intro j hj
      rw [unlink_trap w k1 k2 (hl j (List.mem_cons_of_mem _ hj)).1]
    rw [List.foldl_cons]
    unfold linkStep
    simp only [hun, htr]
    show List.foldl (linkStep id normal) _ l = _
    cases normal with
    | true =>
      simp only [if_true]
      rw [ih _ _ _ hrest]
      simp [unlinkAll]
    | false =>
      simp only [Bool.false_eq_true, if_false]
      by_cases ht : (getR w.runs k).trap = true
      · rw [if_pos ht]
        have e : give (giveAll id (unlink w k id) g) k ⟨3, id⟩ = giveAll id (unlink w k id) (g ++ [k]) := by rw [giveAll_append]; rfl
        rw [e, ih _ _ _ hrest]
        simp only [Bool.false_eq_true, if_false, hf (fun b => b), hf (fun b => !b), List.filter_cons, ht, if_true, Bool.not_true]
        simp [unlinkAll]
      · rw [if_neg ht, ih _ _ _ hrest]
        have ht' : (getR w.runs k).trap = false := by simpa using ht
        simp only [Bool.false_eq_true, if_false, hf (fun b => b), hf (fun b => !b), List.filter_cons, ht', if_true, Bool.not_false]
        simp [unlinkAll]

theorem less_less (l : List Int) (n : Int) : less (less l n) n = less l n := by simp [less]
theorem mem_less {l : List Int} {n x : Int} : x ∈ less l n ↔ x ∈ l ∧ x ≠ n := by simp [less]
theorem less_none {l : List Int} {n : Int} (h : n ∉ l) : less l n = l := by
  unfold less
  rw [List.filter_eq_self]
  intro x hx
  simp only [Bool.not_eq_true', beq_eq_false_iff_ne, ne_eq]
  rintro rfl
  exact h hx
theorem unlinkAll_run (id : Int) : ∀ (l : List Int) (w : Wd) (x : Int), (∀ k ∈ l, 1 ≤ k ∧ k ≤ w.runs.length) → 1 ≤ x →
    getR (unlinkAll id w l).runs x = if x ∈ l then { getR w.runs x with links := less (getR w.runs x).links id } else getR w.runs x := by
  intro l
  induction l with
  | nil => intro w x _ _; simp [unlinkAll]
  | cons k l ih =>
    intro w x hl hx
    obtain ⟨k1, k2⟩ := hl k List.mem_cons_self
    show getR (unlinkAll id (unlink w k id) l).runs x = _
    rw [ih _ x (fun j hj => by rw [unlink_length]; exact hl j (List.mem_cons_of_mem _ hj)) hx, unlink_run w k1 k2 hx]
    by_cases e : x = k
    · subst e
      rw [if_pos rfl, if_pos List.mem_cons_self]
      split
      · simp only [less_less]
      · rfl
    · rw [if_neg e]
      by_cases hm : x ∈ l
      · rw [if_pos hm, if_pos (List.mem_cons_of_mem _ hm)]
      · rw [if_neg hm, if_neg (by simp [e, hm])]

/-! ### The run itself -/
/-- The world behind a run's end, before anybody is told. -/
def cleared (w : Wd) (id : Int) (why : Vl) : Wd := unlinkAll id (endFirst w id why) (getR w.runs id).links
theorem endFirst_length (w : Wd) (id : Int) (why : Vl) : (endFirst w id why).runs.length = w.runs.length := by simp [endFirst, updR_length]
theorem getR_map {l : List Rn} {f : Rn → Rn} {x : Int} (h1 : 1 ≤ x) (h2 : x ≤ l.length) : getR (l.map f) x = f (getR l x) := by
  rw [mem_getR h1 (by rw [List.length_map]; exact h2), mem_getR h1 h2]
  simp
theorem endFirst_run {w : Wd} {id : Int} (i1 : 1 ≤ id) (i2 : id ≤ w.runs.length) (why : Vl) {x : Int} (x1 : 1 ≤ x) (x2 : x ≤ w.runs.length) :
    getR (endFirst w id why).runs x = if x = id then endOne why (getR w.runs id) else { getR w.runs x with watched := less (getR w.runs x).watched id } := by
  unfold endFirst
  rw [getR_map x1 (by rw [updR_length]; exact x2), getR_updR i1 i2 x1]
  by_cases e : x = id
  · rw [if_pos e, if_pos e]
    rfl
  · rw [if_neg e, if_neg e]
theorem cleared_length (w : Wd) (id : Int) (why : Vl) : (cleared w id why).runs.length = w.runs.length := by rw [cleared, unlinkAll_length, endFirst_length]
theorem cleared_run {w : Wd} (h : WOk w) {id : Int} (i1 : 1 ≤ id) (i2 : id ≤ w.runs.length) (why : Vl) {x : Int} (x1 : 1 ≤ x) (x2 : x ≤ w.runs.length) :
    getR (cleared w id why).runs x = if x = id then endOne why (getR w.runs id) else { getR w.runs x with links := less (getR w.runs x).links id, watched := less (getR w.runs x).watched id } := by
  unfold cleared
  rw [unlinkAll_run id _ _ x (fun k hk => by rw [endFirst_length]; exact (h.link i1 i2 hk).1) x1, endFirst_run i1 i2 why x1 x2]
  by_cases e : x = id
  · rw [if_pos e, if_neg (fun hm => (h.link i1 i2 hm).2.2.2 e)]
    rw [if_pos e]
  · rw [if_neg e, if_neg e]
    by_cases hm : x ∈ (getR w.runs id).links
    · rw [if_pos hm]
    · rw [if_neg hm]
      have : less (getR w.runs x).links id = (getR w.runs x).links := less_none (fun hi => hm (h.link x1 x2 hi).2.1)
      rw [this]
theorem unlinkAll_rest (id : Int) : ∀ (l : List Int) (w : Wd), (unlinkAll id w l).code = w.code ∧ (unlinkAll id w l).queue = w.queue ∧ (unlinkAll id w l).now = w.now ∧ (unlinkAll id w l).sent = w.sent ∧ (unlinkAll id w l).taken = w.taken ∧ (unlinkAll id w l).lost = w.lost := by
  intro l
  induction l with
  | nil => intro w; exact ⟨rfl, rfl, rfl, rfl, rfl, rfl⟩
  | cons k l ih => intro w; exact ih (unlink w k id)
theorem cleared_rest (w : Wd) (id : Int) (why : Vl) : (cleared w id why).code = w.code ∧ (cleared w id why).queue = less w.queue id ∧ (cleared w id why).now = w.now ∧ (cleared w id why).sent = w.sent ∧ (cleared w id why).taken = w.taken ∧ (cleared w id why).lost = wr (w.lost + (getR w.runs id).mail.length) := by
  exact unlinkAll_rest id _ _
/-- What a run's end is. -/
theorem endRun_eq {w : Wd} (h : WOk w) {id : Int} (i1 : 1 ≤ id) (i2 : id ≤ w.runs.length) (why : Vl) :
    endRun w id why = (giveAll id (cleared w id why) ((if isNormal why then [] else (getR w.runs id).links.filter (fun k => (getR w.runs k).trap)) ++ (getR w.runs id).watched), if isNormal why then [] else (getR w.runs id).links.filter (fun k => !(getR w.runs k).trap)) := by
  have hl : ∀ k ∈ (getR w.runs id).links, 1 ≤ k ∧ k ≤ (endFirst w id why).runs.length := fun k hk => by rw [endFirst_length]; exact (h.link i1 i2 hk).1
  have e := links_fold id (isNormal why) (getR w.runs id).links (endFirst w id why) [] [] hl
  have hf : ∀ p : Bool → Bool, (getR w.runs id).links.filter (fun j => p (getR (endFirst w id why).runs j).trap) = (getR w.runs id).links.filter (fun j => p (getR w.runs j).trap) := by
    intro p
    apply List.filter_congr
    intro j hj
    have := h.link i1 i2 hj
    rw [endFirst_run i1 i2 why this.1.1 this.1.2, if_neg this.2.2.2]
  simp only [hf (fun b => b), hf (fun b => !b), List.nil_append] at e
  unfold endRun
  show (giveAll id (List.foldl (linkStep id (isNormal why)) (giveAll id (endFirst w id why) [], []) (getR w.runs id).links).1 _, (List.foldl (linkStep id (isNormal why)) (giveAll id (endFirst w id why) [], []) (getR w.runs id).links).2) = _
  rw [e, giveAll_append]
  rfl

theorem idsOk_less {l : List Int} {own : Int} (h : idsOk l own = true) (n : Int) : idsOk (less l n) own = true := by
  rw [idsOk_iff] at h ⊢
  exact ⟨fun x hx => h.1 x (mem_less.1 hx).1, h.2.filter _⟩
theorem runOk_less {r : Rn} (h : runOk r = true) (n : Int) : runOk { r with links := less r.links n, watched := less r.watched n } = true := by
  obtain ⟨h1, h2, h3, h4, h5, h6, h7, h8, h9, h10, h11, h12, h13, h14, h15⟩ := runOk_parts h
  simp only [runOk, Bool.and_eq_true, decide_eq_true_eq, inB_iff, beq_iff_eq]
  refine ⟨⟨⟨⟨⟨⟨⟨⟨⟨⟨⟨⟨⟨h1, h2⟩, h3⟩, h4⟩, h5⟩, h6⟩, h7⟩, h8⟩, h9⟩, h10⟩, idsOk_less h11 n⟩, idsOk_less h12 n⟩, h13⟩, ?_⟩
  split
  · rename_i hs
    obtain ⟨a, b, c⟩ := h14 hs
    simp [a, b, c, less]
  · rename_i hs
    simpa using h15 hs
theorem runOk_end {r : Rn} (h : runOk r = true) {why : Vl} (hv : valOk why = true) : runOk (endOne why r) = true := by
  obtain ⟨h1, h2, h3, h4, h5, h6, h7, h8, h9, h10, h11, h12, h13, h14, h15⟩ := runOk_parts h
  simp only [runOk, endOne, Bool.and_eq_true, inB_iff, beq_iff_eq]
  exact ⟨⟨⟨⟨⟨⟨⟨⟨⟨⟨⟨⟨⟨h1, h2⟩, h3⟩, h4⟩, by simp⟩, by omega⟩, by omega⟩, h8⟩, h9⟩, by simp⟩, by simp [idsOk, idsFrom]⟩, by simp [idsOk, idsFrom]⟩, hv⟩, by simp⟩

theorem cleared_alive {w : Wd} (h : WOk w) {id : Int} (i1 : 1 ≤ id) (i2 : id ≤ w.runs.length) (why : Vl) {x : Int} : aliveIn (cleared w id why).runs x = true ↔ aliveIn w.runs x = true ∧ x ≠ id := by
  rw [aliveIn_iff, aliveIn_iff, cleared_length]
  constructor
  · rintro ⟨hx, hs⟩
    rw [cleared_run h i1 i2 why hx.1 hx.2] at hs
    by_cases e : x = id
    · rw [if_pos e] at hs
      exact absurd rfl hs
    · rw [if_neg e] at hs
      exact ⟨⟨hx, hs⟩, e⟩
  · rintro ⟨⟨hx, hs⟩, e⟩
    rw [cleared_run h i1 i2 why hx.1 hx.2, if_neg e]
    exact ⟨hx, hs⟩

theorem waits_eq {l m : List Rn} (hl : l.length = m.length) (h : ∀ x : Int, 1 ≤ x → x ≤ l.length → (getR l x).mail.length = (getR m x).mail.length) : waits l = waits m := by
  induction l generalizing m with
  | nil => cases m with
    | nil => rfl
    | cons _ _ => simp at hl
  | cons r l ih =>
    cases m with
    | nil => simp at hl
    | cons s m =>
      have h1 := h 1 (by omega) (by simp; omega)
      have e1 : getR (r :: l) 1 = r := rfl
      have e2 : getR (s :: m) 1 = s := rfl
      rw [e1, e2] at h1
      have := ih (m := m) (by simpa using hl) (fun x x1 x2 => by
        have := h (x + 1) (by omega) (by simp; omega)
        have e3 : ∀ (y : Rn) (q : List Rn), getR (y :: q) (x + 1) = getR q x := by
          intro y q
          unfold getR
          rw [show (x + 1 - 1).toNat = (x - 1).toNat + 1 by omega]
          rfl
        rwa [e3, e3] at this)
      simp only [waits]
      omega

theorem cleared_ok {w : Wd} (h : WOk w) {id : Int} (ha : aliveIn w.runs id = true) {why : Vl} (hv : valOk why = true) : WOk (cleared w id why) := by
  obtain ⟨⟨i1, i2⟩, i3⟩ := aliveIn_iff.1 ha
  obtain ⟨c1, c2, c3, c4, c5, c6⟩ := cleared_rest w id why
  have hlen := cleared_length w id why
  have wn := waits_nonneg w.runs
  have wg := waits_ge i1 i2
  have b1 := h.sent; have b2 := h.taken; have b3 := h.lost; have b4 := h.sum
  have hlost : (cleared w id why).lost = w.lost + (getR w.runs id).mail.length := by rw [c6, wr_eq (by omega) (by omega)]
  have hwaits : waits (cleared w id why).runs = waits w.runs - (getR w.runs id).mail.length := by
    have := waits_updR i1 i2 (fun r => { r with mail := [] })
    rw [← Int.sub_zero (waits w.runs - _)]
    have e : waits (cleared w id why).runs = waits (updR w.runs id (fun r => { r with mail := [] })) := by
      apply waits_eq
      · rw [hlen, updR_length]
      · intro x x1 x2
        rw [hlen] at x2
        rw [cleared_run h i1 i2 why x1 x2, getR_updR i1 i2 x1]
        by_cases e : x = id
        · rw [if_pos e, if_pos e]; rfl
        · rw [if_neg e, if_neg e]
    rw [e, this]
    simp
  refine wok_of (by rw [c1]; exact h.safe) (by rw [hlen]; exact h.len) (by rw [c3]; exact h.now) (by rw [c4]; exact h.sent) (by rw [c5]; exact h.taken) (by rw [hlost]; omega) ?_ ?_ ?_ ?_ (by rw [c4, c5, hlost, hwaits]; omega)
  · intro x hx
    rw [c2] at hx
    rw [hlen]
    exact h.qin x (mem_less.1 hx).1
  · rw [c2]
    exact h.qnd.filter _
  · intro x x1 x2
    rw [hlen] at x2
    have f := h.run x1 x2
    have hid := h.run_id x1 x2
    rw [c1, cleared_run h i1 i2 why x1 x2]
    by_cases e : x = id
    · subst e
      rw [if_pos rfl]
      refine ⟨runOk_end f.ok hv, f.id, by rw [c1]; exact f.at_, ?_, fun hs => ?_, fun y hy => by simp [endOne] at hy, fun y hy => by simp [endOne] at hy, fun hs => absurd rfl hs⟩
      · rw [c2, mem_less]
        refine ⟨fun hm => absurd hid hm.2, fun hs => ?_⟩
        have : (3 : Int) = 1 := hs
        omega
      · have : (3 : Int) = 2 := hs
        omega
    · rw [if_neg e]
      refine ⟨runOk_less f.ok id, f.id, by rw [c1]; exact f.at_, ?_, fun hs => ?_, fun y hy => ?_, fun y hy => ?_, f.need⟩
      · rw [c2, mem_less]
        refine ⟨fun hm => f.queue.1 hm.1, fun hs => ⟨f.queue.2 hs, ?_⟩⟩
        show (getR w.runs x).id ≠ id
        omega
      · have := f.waits hs
        simp only [waitsOk, c1, c3] at this ⊢
        exact this
      · have hy' := mem_less.1 hy
        exact (cleared_alive h i1 i2 why).2 ⟨f.links y hy'.1, hy'.2⟩
      · have hy' := mem_less.1 hy
        exact (cleared_alive h i1 i2 why).2 ⟨f.watched y hy'.1, hy'.2⟩
  · intro a b a1 a2 b1' b2' hb
    rw [hlen] at a2 b2'
    rw [cleared_run h i1 i2 why a1 a2] at hb
    rw [cleared_run h i1 i2 why b1' b2']
    by_cases ea : a = id
    · rw [if_pos ea] at hb
      simp [endOne] at hb
    · rw [if_neg ea] at hb
      have hb' := mem_less.1 hb
      rw [if_neg hb'.2]
      exact mem_less.2 ⟨(h.link a1 a2 hb'.1).2.1, ea⟩

theorem giveAll_ok {id : Int} (hid : 1 ≤ id ∧ id ≤ 6) : ∀ (l : List Int) {w : Wd}, WOk w → w.sent + l.length ≤ 9999 →
    WOk (giveAll id w l) ∧ (giveAll id w l).sent = w.sent + l.length ∧ (giveAll id w l).taken = w.taken ∧ (giveAll id w l).code = w.code ∧ (giveAll id w l).now = w.now ∧ w.lost ≤ (giveAll id w l).lost := by
  have hv : valOk ⟨3, id⟩ = true := by simp [valOk, inB]; omega
  intro l
  induction l with
  | nil => intro w h _; exact ⟨h, by simp [giveAll], rfl, rfl, rfl, Int.le_refl _⟩
  | cons k l ih =>
    intro w h hs
    simp only [List.length_cons] at hs
    have b := h.sent
    have g := give_ok h (by omega) k hv
    have e : (give w k ⟨3, id⟩).sent = w.sent + 1 := by rw [give_sent, wr_eq (by omega) (by omega)]
    have hl : w.lost ≤ (give w k ⟨3, id⟩).lost := by
      have b3 := h.lost
      rw [give_lost]
      split
      · exact Int.le_refl _
      · rw [wr_eq (by omega) (by omega)]; omega
    obtain ⟨k1, k2, k3, k4, k5, k6⟩ := ih g (by omega)
    show WOk (giveAll id (give w k _) l) ∧ (giveAll id (give w k _) l).sent = _ ∧ _
    exact ⟨k1, by rw [k2, e]; simp only [List.length_cons]; omega, k3.trans (give_taken _ _ _), k4.trans (give_code _ _ _), k5.trans (give_now _ _ _), Int.le_trans hl k6⟩

end Go.Proofs.YtomolbhcggaakaaGreat
