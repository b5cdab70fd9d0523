/- Parts of the proof, in one text. -/
import Derived.Test.YtmidnaafljgbiaaB25
import Derived.Test.YtmidnaafljgbiaaB34
import Derived.Test.YtmidnaafljgbiaaB32
import Derived.Test.YtmidnaafljgbiaaB04
/- A play is drawn. -/
namespace Go.Proofs.Ytmidnaafljgbiaa
open Go.RowKit
set_option maxRecDepth 100000

def encE (e : Int × Int × Vl) : List Value := [.int .i64 e.1, .int .i64 e.2.1, .int .i64 e.2.2.k, .int .i64 e.2.2.n]
theorem encE_length (e : Int × Int × Vl) : (encE e).length = 4 := rfl
theorem oneE (x : Int × Int × Vl) : ∀ u ∈ encE x, u.oneCell' = true := by
  intro u hu
  simp only [encE, List.mem_cons, List.not_mem_nil] at hu
  rcases hu with rfl | rfl | rfl | rfl | hu
  · rfl
  · rfl
  · rfl
  · rfl
  · cases hu
theorem infEx : (Try.prog.info? 143).map (fun i => (i.zero.map (·.cells.size), i.size, i.bytes)) = some (some 4, 4, 32) := by kernel_rfl
abbrev tE : Nat := 143
def PlayPost (R : Rd) (p : Nat) (w0 : World) (f : List Nat) (L : List Asn) (e : Ending) (w' : World) : Prop := ∃ (V : Wm) (v1 v2 : Value) (p' : Nat), e = .returned (.tuple #[v1, v2, .agg (wArr V)]) ∧ WOk V.wd ∧ room V.wd ≤ 204 ∧ p ≤ p' ∧ p' ≤ p + 1300 ∧ Mem w0 f w' (wld V :: rdr R p' :: L)
set_option maxHeartbeats 8000000 in
theorem sPlayD (R : Rd) (p : Nat) (hp : p ≤ 500000000) {w0 w : World} {f : List Nat} {L L' : List Asn} (M : Mem w0 f w L) (hd : Del (rdr R p) L L') :
    Calls Try.prog 123 #[.pointer (some ⟨R.g, 0, none⟩)] w (PlayPost R p w0 f L') := by
  replace M := M.pull hd
  clear hd
  have AL := add_lit0
  have HP := Lib.hid (fun (m : Int) (hm : 1 ≤ m) (q : Nat) (hq : q ≤ 1000000000) W (L L' : List Asn) (M : Mem w0 f W L) (hd : Del (rdr R q) L L') => pick_of m hm R q hq M hd)
  have HSf : Hid (∀ {U : World} {L1 L2 : List Asn}, Mem w0 f U L1 → Del (rdr R p) L1 L2 → Calls Try.prog 137 #[.pointer (some ⟨R.g, 0, none⟩)] U (SafePost R p w0 f L2)) := fun {U L1 L2} M hd => sSafeD R p (by omega) M hd
  have HW : Hid (∀ {C : List Opx} {A : Option Addr} {c : Nat} {U : World} {L1 L2 : List Asn}, codeSafe C = true → C.length ≤ 16 → Mem w0 f U L1 → Del (rowO A c C) L1 L2 → Calls Try.prog 23 #[.slice A C.length c] U (fun e w' => ∃ V : Wm, WOk V.wd ∧ room V.wd = 72 ∧ e = .returned (.tuple #[.agg (wArr V), .bool true]) ∧ Mem w0 f w' (wld V :: L2))) := fun {C A c U L1 L2} hs hl M hd => by
    have h := sWorldNew C A c (M.pull hd) (by omega)
    rw [hs] at h
    refine h.mono ?_
    rintro e w' ⟨V, hV, rfl, M⟩
    rw [if_pos rfl] at hV
    refine ⟨V, ?_, ?_, rfl, M.sel (.cons .here (.drop .refl))⟩
    · rw [hV]; exact (newWorld_ok hs).1
    · rw [hV]; exact (newWorld_ok hs).2
  have HE : Hid (∀ (q : Nat), q ≤ 800000000 → ∀ (V : Wm), WOk V.wd → ∀ {U : World} {L1 L2 : List Asn}, Mem w0 f U L1 → Del (rdr R q) L1 L2 → Calls Try.prog 138 #[.pointer (some ⟨R.g, 0, none⟩), .agg (wArr V)] U (EvPost R q w0 f L2)) := fun q hq V h U L1 L2 M hd => sEvD R q hq V (by have := h.len.1; rwa [runsLen] at this) (by have := h.len.2; rwa [runsLen] at this) M hd
  have HD : Hid (∀ (V : Wm) (kk aa : Int) (v : Vl), WOk V.wd → room V.wd ≤ 204 → ∀ {U : World} {L1 L2 : List Asn}, Mem w0 f U L1 → Del (wld V) L1 L2 → Calls Try.prog 139 #[.agg (wArr V), .agg #[.int .i64 kk, .int .i64 aa, .int .i64 v.k, .int .i64 v.n]] U (fun e w' => ∃ Y : Wm, (WOk Y.wd ∧ room Y.wd ≤ room V.wd + 3) ∧ e = .returned (.agg (wArr Y)) ∧ Mem w0 f w' (wld Y :: L2))) := fun V kk aa v h1 h2 U L1 L2 M hd => by
    refine (sEvent V kk aa v M hd h1 (by omega)).mono ?_
    rintro e w' ⟨Y, hY, rfl, M⟩
    have t := eventW_turned h1 (by omega) kk aa v
    exact ⟨Y, ⟨by rw [hY]; exact t.ok, by rw [hY]; exact t.room⟩, rfl, M⟩
  have HF : Hid (∀ (U : World) (V : Wm) (v1 v2 : Value) (q : Nat), WOk V.wd → room V.wd ≤ 204 → p ≤ q → q ≤ p + 1300 → Mem w0 f U (wld V :: rdr R q :: L') → PlayPost R p w0 f L' (.returned (.tuple #[v1, v2, .agg (wArr V)])) U) := fun U V v1 v2 q h1 h2 h3 h4 M => ⟨V, v1, v2, q, rfl, h1, h2, h3, h4, M⟩
  (try clear F); have F := fxd M
  go_enter Try.func123, Try.ntmps123
  go_upto_region 5 with (first
    | (with_reducible refine alAd M ?_; clear M; (try clear F); intro w1 M F)
    | ((with_reducible apply ev_store (M := M)); rfl; rfl; ((conv => lhs; whnf) <;> rfl); rfl; (first | exact siI | exact siR | exact siV | exact siB | exact siSI | exact siSV | exact siW | exact siSR | exact siSO | exact siO); (exact one_all rfl); (exact dl); (exact Nat.le_of_ble_eq_true rfl); clear M; intro w1 M; simp only [SX] at M; (try clear F); have F := fxd M)
    | (go_at_call 137; (refine nmKd ?_; clear M; (try clear F); intro w1 M F); refine (HSf.out M dl).mono ?_; clear M; rintro e w2 ⟨C, A, c, q, rfl, hs, h1, h2, hq1, hq2, M⟩; (try clear F); have F := fxd M)
    | (go_at_call 23; (refine nmKd ?_; clear M; (try clear F); intro w1 M F); refine (HW.out hs h2 M dl).mono ?_; clear M; rintro e w2 ⟨V, hV, hVr, rfl, M⟩; (try clear F); have F := fxd M)
    | (go_at_call 74; (refine nmKd ?_; clear M; (try clear F); intro w1 M F); refine (HP.out _ (by omega) _ ?_ _ _ _ M dl).mono ?_; omega; clear M; rintro e w2 ⟨i, rfl, i0, i1, M⟩; obtain ⟨n1, rfl⟩ : ∃ n1 : Nat, i = n1 := ⟨i.toNat, by omega⟩; (try clear F); have F := fxd M))
  rename_i a1 a2 a3 a4 a5 a6 a7 a8 _ _
  have M2 := (Mem.row_of encE_length (xs := ([] : List (Int × Int × Vl))) (M.sel (.cons (.there .here) .refl)) rfl (by simp))
  clear M F
  generalize w.heap.size = g4 at M2 ⊢
  generalize a5.heap.size = g6 at M2 ⊢
  generalize a7.heap.size = g8 at M2 ⊢
  have MB : Hid (Mem w0 f w2 (row encE 4 tE (some ⟨g8, 0, none⟩) 0 ([] : List (Int × Int × Vl)) :: wld V :: blk g6 tW [.slice V.cA V.code.length V.cC, .slice V.rA V.ps.length V.rC, .slice V.qA V.queue.length V.qC, .int .i64 V.now, .int .i64 V.sent, .int .i64 V.taken, .int .i64 V.lost] :: blk g4 tW [.slice none 0 0, .slice none 0 0, .slice none 0 0, .int .i64 0, .int .i64 0, .int .i64 0, .int .i64 0] :: rdr R (q + 1) :: L')) := M2.sel (.cons .here (.cons (.there (.there .here)) (.cons (.there .here) (.cons (.there .here) (.cons .here .refl)))))
  have hqq : q + 1 ≤ p + 901 := by omega
  have hqp : p ≤ q + 1 := by omega
  clear M2 hq1 hq2 HSf HW
  go_wp2
  go_loopg [8, 9] 44 (fun gg v8 v9 wr => ∃ (m q ne ec : Nat) (EA : Option Addr) (es : List (Int × Int × Vl)) (V : Wm), m ≤ gg ∧ m ≤ 44 ∧ v8 = .slice EA ne ec ∧ v9 = .int .i64 m ∧ es.length = ne ∧ ne + m ≤ 44 ∧ WOk V.wd ∧ room V.wd ≤ 72 + 3 * (44 - (m : Int)) ∧ p ≤ q ∧ q ≤ p + 901 + 8 * (44 - m) ∧ Hid (Mem w0 f wr (row encE 4 tE EA ec es :: wld V :: blk g6 tW [.slice V.cA V.code.length V.cC, .slice V.rA V.ps.length V.rC, .slice V.qA V.queue.length V.qC, .int .i64 V.now, .int .i64 V.sent, .int .i64 V.taken, .int .i64 V.lost] :: blk g4 tW [.slice none 0 0, .slice none 0 0, .slice none 0 0, .int .i64 0, .int .i64 0, .int .i64 0, .int .i64 0] :: rdr R q :: L')))
  case atStart => exact ⟨n1, _, _, _, _, _, V, by omega, by omega, rfl, rfl, rfl, by omega, hV, by omega, hqp, by omega, MB⟩
  case round =>
    clear MB hqq hqp hV hVr i0 i1 hs h1 h2
    obtain ⟨m, q, ne, ec, EA, es, V, hmg, hm, rfl, rfl, hes, hne, hV, hVr, hq1, hq2, M⟩ := hrel
    replace M := M.out
    replace hes := Lib.hid hes
    by_cases hlt : 0 < m
    · obtain ⟨m1, rfl⟩ : ∃ m1, m = m1 + 1 := ⟨m - 1, by omega⟩
      have j1 : (0 : Int) < (m1 : Int) + 1 := by omega
      have wj : IntKind.i64.wrap ((m1 : Int) + 1 - 1) = (m1 : Int) := by rw [IntKind.wrap_i64]; omega
      have wj2 : IntKind.i64.wrap (m1 : Int) = (m1 : Int) := by rw [IntKind.wrap_i64]; omega
      have hVr2 : room V.wd ≤ 204 := by omega
      (try clear F); have F := fxd M
      go_upto_region 8 with (first
        | (with_reducible refine alAd M ?_; clear M; (try clear F); intro w1 M F)
        | ((with_reducible apply ev_store (M := M)); rfl; rfl; ((conv => lhs; whnf) <;> rfl); rfl; exact siE; (exact one_all rfl); (exact dl); (exact Nat.le_of_ble_eq_true rfl); clear M; intro w1 M; simp only [SX] at M; (try clear F); have F := fxd M)
        | (go_at_call 138; (refine nmKd ?_; clear M; (try clear F); intro w1 M F); refine (HE.out _ ?_ V hV M dl).mono ?_; omega; clear M; rintro e w2 ⟨kk, aa, ⟨vk, vn⟩, q', rfl, hq3, hq4, M⟩; (try simp only at M); (try clear F); have F := fxd M))
      have hes2 : (es ++ [((kk, aa, ⟨vk, vn⟩) : Int × Int × Vl)]).length = ne + 1 := by rw [List.length_append, hes.out]; rfl
      replace hes2 := Lib.hid hes2
      have HD1 : Hid (∀ {U : World} {L1 L2 : List Asn}, Mem w0 f U L1 → Del (wld V) L1 L2 → Calls Try.prog 139 #[.agg (wArr V), .agg #[.int .i64 kk, .int .i64 aa, .int .i64 vk, .int .i64 vn]] U (fun e w' => ∃ Y : Wm, (WOk Y.wd ∧ room Y.wd ≤ room V.wd + 3) ∧ e = .returned (.agg (wArr Y)) ∧ Mem w0 f w' (wld Y :: L2))) := fun {U L1 L2} M hd => HD.out V kk aa ⟨vk, vn⟩ hV hVr2 M hd
      go_upto_region 9 with (first
        | ((with_reducible refine alAd M ?_; clear M; (try clear F); intro w1 M F); ((with_reducible apply ev_app1 (enc := encE) (v := ((kk, aa, ⟨vk, vn⟩) : Int × Int × Vl)) (hk := encE_length) (hone := oneE) (h0 := by decide) (hinfo := infEx) (ht := Try.underlying130) (M := M)); rfl; rfl; (exact dl); (exact dl); rfl; exact hes.out.symm; (rw [hes.out]; omega); (exact Nat.le_of_ble_eq_true rfl); clear M; intro A1 c1 w1 M; replace M := Mem.perm M (.swap _ _ _) |> Mem.drop; (try clear F); have F := fxd M)))
      go_wp2_with (first
        | ((with_reducible apply ev_store (M := M)); rfl; rfl; ((conv => lhs; whnf) <;> rfl); rfl; (first | exact siI | exact siR | exact siV | exact siB | exact siSI | exact siSV | exact siW | exact siSR | exact siSO | exact siO); (exact one_all rfl); (exact dl); (exact Nat.le_of_ble_eq_true rfl); clear M; intro w1 M; simp only [SX] at M; (try clear F); have F := fxd M)
        | (go_at_call 139; (refine nmKd ?_; clear M; (try clear F); intro w1 M F); refine (HD1.out M dl).mono ?_; clear M; rintro e w2 ⟨Y, hY, rfl, M⟩; replace hY := Lib.hid hY; (try clear F); have F := fxd M))
      go_roundg m1
      case measure => omega
      case rel => exact ⟨m1, q', ne + 1, c1, A1, _, Y, by omega, by omega, rfl, by go_num, hes2.out, by omega, hY.out.1, by have := hY.out.2; omega, by omega, by omega, M.sel (.cons (.there (.there .here)) (.cons (.there .here) (.cons .here (.cons (.there (.there .here)) (.cons (.there .here) (.drop .refl))))))⟩
    · obtain rfl : m = 0 := by omega
      (try clear F); have F := fxd M
      go_upto_region 10 with fail
      (refine held_begin (S := fun W' => ∀ j, W'.cell? ⟨g6, j, none⟩ = ([.slice V.cA V.code.length V.cC, .slice V.rA V.ps.length V.rC, .slice V.qA V.queue.length V.qC, .int .i64 V.now, .int .i64 V.sent, .int .i64 V.taken, .int .i64 V.lost] : List Value)[j]?) (by kernel_rfl) (fun _ _ _ _ _ h => h) kc (fun HQ hHeld => ?_))
      refine tkY HQ hHeld 0 ?_; refine tkY HQ hHeld 1 ?_; refine tkY HQ hHeld 2 ?_; refine tkY HQ hHeld 3 ?_; refine tkY HQ hHeld 4 ?_; clear hHeld; (refine nmd (G := fun W => wpAnyH _ _ _ _ _ _ _ _ W) ?_; clear M; (try clear F); intro w1 M F)
      refine stp 5 (fun K hK => ?_)
      refine op_of_list rfl ?_; ((with_reducible apply ev_store (M := M)); rfl; rfl; ((conv => lhs; whnf) <;> rfl); rfl; (first | exact siI | exact siR | exact siV | exact siB | exact siSI | exact siSV | exact siW | exact siSR | exact siSO | exact siO); (exact one_all rfl); (exact dl); (exact Nat.le_of_ble_eq_true rfl); clear M; intro w1 M; simp only [SX] at M; (try clear F); have F := fxd M)
      (try go_wp2_with fail); refine hK.out _ _ (kc) (fun hHeld => ?_); clear hK K; (try simp only [AX])
      refine wpAnyH_done (by kernel_rfl) ?_ _; clear HQ; (repeat clear hHeld)
      go_wp2
      (apply ret_tmp_tmp_cell (M := M); rfl; rfl; rfl; rfl; (exact dl); (first | exact agR | exact agV | exact agW | exact agO); (first | exact siI | exact siR | exact siV | exact siB | exact siSI | exact siSV | exact siW | exact siSR | exact siSO | exact siO); rfl)
      exact HF.out _ _ _ _ _ hV (by omega) hq1 (by omega) (M.sel (.cons (.there (.there .here)) (.drop (.drop (.drop .refl)))))
end Go.Proofs.Ytmidnaafljgbiaa
/- A world is drawn, some spoilt. -/
namespace Go.Proofs.Ytmidnaafljgbiaa
open Go.RowKit
set_option maxRecDepth 100000

def RSm (r : Rn) : Prop := r.slots.length ≤ 4 ∧ r.mail.length ≤ 12 ∧ r.links.length ≤ 6 ∧ r.watched.length ≤ 6
def WSm (V : Wm) : Prop := 1 ≤ V.ps.length ∧ V.ps.length ≤ 6 ∧ V.queue.length ≤ 7 ∧ V.code.length ≤ 16 ∧ ∀ p ∈ V.ps, RSm p.1
theorem rsm_of {r : Rn} (h : runOk r = true) : RSm r := by
  have p := runOk_parts h
  refine ⟨by omega, p.2.2.2.2.1, len6 p.2.2.2.2.2.2.2.2.2.2.1, len6 p.2.2.2.2.2.2.2.2.2.2.2.1⟩
theorem wsm_of {V : Wm} (h : WOk V.wd) : WSm V ∧ V.queue.length ≤ 6 := by
  have h1 := h.len
  rw [runsLen] at h1
  have hq : V.queue.length ≤ 6 := wok_queue (worldOk_iff.2 h)
  refine ⟨⟨h1.1, h1.2, by omega, ?_, fun p hp => ?_⟩, hq⟩
  · have hs := h.safe
    have : codeOk V.code = true := by
      have hs2 : codeSafe V.code = true := hs
      unfold codeSafe at hs2
      exact (Bool.and_eq_true_iff.1 hs2).1
    simp only [codeOk, Bool.and_eq_true, decide_eq_true_eq] at this
    exact this.2
  · obtain ⟨k, hk, rfl⟩ := List.getElem_of_mem hp
    have hk2 : k < V.wd.runs.length := by rw [runsLen]; exact hk
    have := (h.fit k hk2).ok
    have e : V.wd.runs[k] = V.ps[k].1 := by simp [Wm.wd]
    rw [e] at this
    exact rsm_of this
def DrawPost (R : Rd) (p : Nat) (w0 : World) (f : List Nat) (L : List Asn) (e : Ending) (w' : World) : Prop := ∃ (V : Wm) (p' : Nat), e = .returned (.agg (wArr V)) ∧ WSm V ∧ p ≤ p' ∧ p' ≤ p + 1600 ∧ Mem w0 f w' (wld V :: rdr R p' :: L)
theorem draw_close {g5 gr nn g2 : Nat} {cA : Option Addr} {cC : Nat} {code : List Opx} {rC : Nat} {pre post : List (Rn × RA)} {r : Rn} {a : RA} {queue : List Int} {qA : Option Addr} {qC : Nat} {now sent taken lost : Int} {w0 w : World} {f : List Nat} {L : List Asn} {R : Rd} {p q : Nat}
    (hnn : ∀ x : Rn × RA, (pre ++ x :: post).length = nn) (h1 : 1 ≤ nn) (h6 : nn ≤ 6) (hq : queue.length ≤ 7) (hc : code.length ≤ 16) (hr : RSm r) (hp : ∀ x ∈ pre ++ post, RSm x.1) (hq1 : p ≤ q) (hq2 : q ≤ p + 1600)
    (M : Mem w0 f w (blk g2 tW [.slice cA code.length cC, .slice (some ⟨gr, 0, none⟩) nn rC, .slice qA queue.length qC, .int .i64 now, .int .i64 sent, .int .i64 taken, .int .i64 lost] :: opened g5 gr nn cA cC code rC pre post r a queue qA qC now sent taken lost (rdr R q :: L))) :
    DrawPost R p w0 f L (.returned (.agg #[.slice cA code.length cC, .slice (some ⟨gr, 0, none⟩) nn rC, .slice qA queue.length qC, .int .i64 now, .int .i64 sent, .int .i64 taken, .int .i64 lost])) w := by
  refine ⟨⟨code, cA, cC, pre ++ (r, a) :: post, some ⟨gr, 0, none⟩, rC, queue, qA, qC, now, sent, taken, lost⟩, q, ?_, ⟨?_, ?_, hq, hc, ?_⟩, hq1, hq2, ?_⟩
  · show _ = Ending.returned (.agg #[.slice cA code.length cC, .slice (some ⟨gr, 0, none⟩) (pre ++ (r, a) :: post).length rC, .slice qA queue.length qC, .int .i64 now, .int .i64 sent, .int .i64 taken, .int .i64 lost])
    rw [hnn]
  · show 1 ≤ (pre ++ (r, a) :: post).length
    rw [hnn]; exact h1
  · show (pre ++ (r, a) :: post).length ≤ 6
    rw [hnn]; exact h6
  · intro x hx
    simp only [List.mem_append, List.mem_cons] at hx hp
    rcases hx with hx | rfl | hx
    · exact hp x (.inl hx)
    · exact hr
    · exact hp x (.inr hx)
  · exact (close_at M.drop hnn).drop
set_option maxHeartbeats 8000000 in
theorem sWorldD (R : Rd) (p : Nat) (hp : p ≤ 400000000) {w0 w : World} {f : List Nat} {L L' : List Asn} (M : Mem w0 f w L) (hd : Del (rdr R p) L L') :
    Calls Try.prog 102 #[.pointer (some ⟨R.g, 0, none⟩)] w (DrawPost R p w0 f L') := by
  replace M := M.pull hd
  clear hd
  have AL := add_lit0
  have HP := Lib.hid (fun (m : Int) (hm : 1 ≤ m) (q : Nat) (hq : q ≤ 1000000000) W (L L' : List Asn) (M : Mem w0 f W L) (hd : Del (rdr R q) L L') => pick_of m hm R q hq M hd)
  have HPl : Hid (∀ {U : World} {L1 L2 : List Asn}, Mem w0 f U L1 → Del (rdr R p) L1 L2 → Calls Try.prog 123 #[.pointer (some ⟨R.g, 0, none⟩)] U (PlayPost R p w0 f L2)) := fun {U L1 L2} M hd => sPlayD R p (by omega) M hd
  have HRd : Hid (∀ (q : Nat), q ≤ 700000000 → ∀ {U : World} {L1 L2 : List Asn}, Mem w0 f U L1 → Del (rdr R q) L1 L2 → Calls Try.prog 124 #[.pointer (some ⟨R.g, 0, none⟩)] U (CodePost R q w0 f L2)) := fun q hq U L1 L2 M hd => sRandomD R q hq M hd
  (try clear F); have F := fxd M
  go_enter Try.func102, Try.ntmps102
  go_upto_region 3 with (first
    | (with_reducible refine alAd M ?_; clear M; (try clear F); intro w1 M F)
    | ((with_reducible apply ev_store (M := M)); rfl; rfl; ((conv => lhs; whnf) <;> rfl); rfl; (first | exact siI | exact siR | exact siV | exact siB | exact siSI | exact siSV | exact siW | exact siSR | exact siSO | exact siO); (exact one_all rfl); (exact dl); (exact Nat.le_of_ble_eq_true rfl); clear M; intro w1 M; simp only [SX] at M; (try clear F); have F := fxd M)
    | (go_at_call 123; (refine nmKd ?_; clear M; (try clear F); intro w1 M F); refine (HPl.out M dl).mono ?_; clear M; rintro e w2 ⟨V, v1, v2, q, rfl, hV, hVr, hq1, hq2, M⟩; (try clear F); have F := fxd M)
    | (go_at_call 74; (refine nmKd ?_; clear M; (try clear F); intro w1 M F); refine (HP.out _ (by omega) _ ?_ _ _ _ M dl).mono ?_; omega; clear M; rintro e w2 ⟨i, rfl, i0, i1, M⟩; (try clear F); have F := fxd M))
  rename_i a1 a2 a3 a4 a5 _ _ _ _
  have hw := wsm_of hV
  obtain ⟨⟨hp1, hp6, _, hc16, hrs⟩, hq6⟩ := hw
  have hsent := (room_sent hV).2
  have hs204 : V.sent ≤ 204 := by have e : V.wd.sent = V.sent := rfl; omega
  have hs0 : 0 ≤ V.sent := hV.sent.1
  have M2 : Mem w0 f w2 (blk a3.heap.size tW (w7 V) :: wld V :: blk w.heap.size tW [.slice none 0 0, .slice none 0 0, .slice none 0 0, .int .i64 0, .int .i64 0, .int .i64 0, .int .i64 0] :: rdr R (q + 1) :: L') := M.sel (.cons (.there .here) (.cons (.there .here) (.cons (.there .here) (.cons .here .refl))))
  obtain ⟨gr, nn, pre, post, r, a, hA, hps, hpl, hnn, hnl, M3⟩ := open_at M2 (k := 0) (by omega)
  obtain rfl : pre = [] := List.eq_nil_of_length_eq_zero hpl
  have hnnp : nn = V.ps.length := hnl
  have hr : RSm r := hrs (r, a) (by rw [hps]; simp)
  have hpo : ∀ x ∈ ([] : List (Rn × RA)) ++ post, RSm x.1 := fun x hx => hrs x (by rw [hps]; simp at hx; simp [hx])
  have hn1 : 1 ≤ nn := by omega
  have hn6 : nn ≤ 6 := by omega
  have HZ : Hid (∀ {U : World} {code : List Opx} {cA qA : Option Addr} {cC qC rC q' : Nat} {r' : Rn} {a' : RA} {queue : List Int} {now sent taken lost : Int}, queue.length ≤ 7 → code.length ≤ 16 → RSm r' → p ≤ q' → q' ≤ p + 1600 →
      Mem w0 f U (blk w.heap.size tW [.slice cA code.length cC, .slice (some ⟨gr, 0, none⟩) nn rC, .slice qA queue.length qC, .int .i64 now, .int .i64 sent, .int .i64 taken, .int .i64 lost] :: opened a3.heap.size gr nn cA cC code rC [] post r' a' queue qA qC now sent taken lost (rdr R q' :: L')) →
      DrawPost R p w0 f L' (.returned (.agg #[.slice cA code.length cC, .slice (some ⟨gr, 0, none⟩) nn rC, .slice qA queue.length qC, .int .i64 now, .int .i64 sent, .int .i64 taken, .int .i64 lost])) U) :=
    fun h1 h2 h3 h4 h5 M => draw_close hnn hn1 hn6 h1 h2 h3 hpo h4 h5 M
  have hq1' : p ≤ q + 1 := by omega
  have hq2' : q + 1 ≤ p + 1301 := by omega
  unfold opened at M3 HZ
  clear M M2 F hV hVr hrs hps hpl hnn hnl hsent hA hnnp HPl hp1 hp6
  have M := M3
  clear M3
  generalize w.heap.size = g2 at M HZ ⊢
  generalize a3.heap.size = g5 at M HZ ⊢
  have hi : i = 0 ∨ i = 1 ∨ i = 2 ∨ i = 3 ∨ i = 4 ∨ 5 ≤ i := by omega
  have w1s : IntKind.i64.wrap (V.sent + 1) = V.sent + 1 := by rw [IntKind.wrap_i64]; omega
  have n0 : (0 : Int) < nn := by omega
  have n0n : 0 < nn := by omega
  replace hr := Lib.hid hr
  have hll : ∀ s : Int, RSm { r with state := s } := fun s => hr.out
  replace hll := Lib.hid hll
  have hl2 : RSm { r with links := [2] } := ⟨hr.out.1, hr.out.2.1, by simp, hr.out.2.2.2⟩
  replace hl2 := Lib.hid hl2
  (try clear F); have F := fxd M
  rcases hi with rfl | rfl | rfl | rfl | rfl | hi
  · have e : (V.queue ++ [(1 : Int)]).length = V.queue.length + 1 := by simp
    replace e := Lib.hid e
    go_wp2_with (first
      | ((with_reducible refine alAd M ?_; clear M; (try clear F); intro w1 M F); ((with_reducible apply ev_app1 (enc := encI) (v := (1 : Int)) (hk := encI_length) (hone := oneIx) (h0 := by decide) (hinfo := infIx) (ht := Try.underlying23) (M := M)); rfl; rfl; (exact dl); (exact dl); rfl; rfl; (first | exact Nat.le_of_ble_eq_true rfl | omega); (exact Nat.le_of_ble_eq_true rfl); clear M; intro A1 c1 w1 M; replace M := Mem.perm M (.swap _ _ _) |> Mem.drop; (try clear F); have F := fxd M))
      | ((with_reducible apply ev_store (M := M)); rfl; rfl; ((conv => lhs; whnf) <;> rfl); rfl; (first | exact siI | exact siR | exact siV | exact siB | exact siSI | exact siSV | exact siW | exact siSR | exact siSO | exact siO); (exact one_all rfl); (exact dl); (exact Nat.le_of_ble_eq_true rfl); clear M; intro w1 M; simp only [SX] at M; (try clear F); have F := fxd M))
    apply ret_cell (M := M); rfl; rfl; (exact dl); (first | exact agR | exact agV | exact agW | exact agO); (first | exact siI | exact siR | exact siV | exact siB | exact siSI | exact siSV | exact siW | exact siSR | exact siSO | exact siO); rfl
    rw [← e.out] at M ⊢
    exact HZ.out (by rw [e.out]; omega) hc16 hr.out hq1' (by omega) (M.sel (.cons .here (.cons .here (.cons (.there .here) (.cons (.there .here) (.cons (.there .here) (.cons (.there .here) (.cons (.there .here) (.cons (.there .here) (.cons (.there .here) (.cons .here (.cons .here .refl))))))))))))
  · go_wp2_with (first | ((with_reducible apply ev_store (M := M)); rfl; rfl; ((conv => lhs; whnf) <;> rfl); rfl; (first | exact siI | exact siR | exact siV | exact siB | exact siSI | exact siSV | exact siW | exact siSR | exact siSO | exact siO); (exact one_all rfl); (exact dl); (exact Nat.le_of_ble_eq_true rfl); clear M; intro w1 M; simp only [SX] at M; (try clear F); have F := fxd M))
    apply ret_cell (M := M); rfl; rfl; (exact dl); (first | exact agR | exact agV | exact agW | exact agO); (first | exact siI | exact siR | exact siV | exact siB | exact siSI | exact siSV | exact siW | exact siSR | exact siSO | exact siO); rfl
    exact HZ.out (by omega) hc16 hr.out hq1' (by omega) M
  · go_upto_region 8 with fail
    (refine beginE (S := fun W' => ∀ j, W'.cell? ⟨g5, j, none⟩ = ([.slice V.cA V.code.length V.cC, .slice (some ⟨gr, 0, none⟩) nn V.rC, .slice V.qA V.queue.length V.qC, .int .i64 V.now, .int .i64 V.sent, .int .i64 V.taken, .int .i64 V.lost] : List Value)[j]?) 7 (by kernel_rfl) (fun _ _ _ _ _ h => h) kc (fun HQ hHeld => ?_))
    refine tkYE HQ hHeld 0 ?_; refine tkYE HQ hHeld 1 ?_; refine tkYE HQ hHeld 2 ?_
    refine stpE 3 (fun K hK => ?_); go_simp
    (go_at_call 74; (refine nmKd ?_; clear M; (try clear F); intro w1 M F); refine (HP.out _ (by omega) _ ?_ _ _ _ M dl).mono ?_; omega; clear M; rintro e w2 ⟨i, rfl, i2, i3, M⟩; have wi : IntKind.i64.wrap (1 + i) = 1 + i := IntWalk.i64_in _ (by omega); (try clear F); have F := fxd M)
    (try go_wp2_with fail); refine hK.out _ _ (kc) (fun hHeld => ?_); clear hK K; (try simp only [AX])
    refine tkYE HQ hHeld 4 ?_; refine tkYE HQ hHeld 5 ?_; refine tkYE HQ hHeld 6 ?_
    refine stpT (fun K hK => ?_); refine op_of_list rfl ?_; ((with_reducible apply ev_elem (enc := encR) (x' := (({ r with state := 1 + i }, a) : Rn × RA)) (j := 5) (k := 0) (hk := encR_length) (M := M)); rfl; rfl; ((conv => lhs; whnf) <;> rfl); rfl; exact siI; rfl; (exact dl); rfl; rfl; decide; exact rfl; clear M; intro w1 M; (try clear F); have F := fxd M); (try go_wp2_with fail); refine hK.out _ _ ?_; clear hK K; (try simp only [AX])
    go_wp2_with (first | ((with_reducible apply ev_store (M := M)); rfl; rfl; ((conv => lhs; whnf) <;> rfl); rfl; (first | exact siI | exact siR | exact siV | exact siB | exact siSI | exact siSV | exact siW | exact siSR | exact siSO | exact siO); (exact one_all rfl); (exact dl); (exact Nat.le_of_ble_eq_true rfl); clear M; intro w1 M; simp only [SX] at M; (try clear F); have F := fxd M))
    apply ret_cell (M := M); rfl; rfl; (exact dl); (first | exact agR | exact agV | exact agW | exact agO); (first | exact siI | exact siR | exact siV | exact siB | exact siSI | exact siSV | exact siW | exact siSR | exact siSO | exact siO); rfl
    exact HZ.out (by omega) hc16 (hll.out _) (by omega) (by omega) (M.sel (.cons .here (.cons (.there (.there .here)) (.cons .here (.cons (.there .here) (.cons (.there .here) (.cons (.there .here) (.cons (.there .here) (.cons (.there .here) (.cons (.there .here) (.cons (.there .here) (.cons .here .refl))))))))))))
  · go_wp2_with (first
      | ((with_reducible apply ev_elem (enc := encR) (x' := (({ r with links := [2] }, { a with lA := some ⟨w2.heap.size, 0, none⟩, lC := 1 }) : Rn × RA)) (j := 7) (k := 0) (hk := encR_length) (M := M)); rfl; rfl; ((conv => lhs; whnf) <;> rfl); rfl; exact siSI; rfl; (exact dl); rfl; rfl; decide; exact rfl; clear M; intro w1 M; (try clear F); have F := fxd M)
      | (with_reducible refine alAd M ?_; clear M; (try clear F); intro w1 M F)
      | ((with_reducible apply ev_store (M := M)); rfl; rfl; ((conv => lhs; whnf) <;> rfl); rfl; (first | exact siI | exact siR | exact siV | exact siB | exact siSI | exact siSV | exact siW | exact siSR | exact siSO | exact siO); (exact one_all rfl); (exact dl); (exact Nat.le_of_ble_eq_true rfl); clear M; intro w1 M; simp only [SX] at M; (try clear F); have F := fxd M))
    apply ret_cell (M := M); rfl; rfl; (exact dl); (first | exact agR | exact agV | exact agW | exact agO); (first | exact siI | exact siR | exact siV | exact siB | exact siSI | exact siSV | exact siW | exact siSR | exact siSO | exact siO); rfl
    replace M := (Mem.row_of encI_length (xs := [(2 : Int)]) (M.sel (.cons (.there (.there .here)) .refl)) rfl (by simp))
    exact HZ.out (by omega) hc16 hl2.out hq1' (by omega) (M.sel (.cons (.there .here) (.cons (.there (.there .here)) (.cons (.there .here) (.cons (.there .here) (.cons (.there .here) (.cons .here (.cons (.there .here) (.cons (.there .here) (.cons (.there .here) (.cons (.there .here) (.cons (.there .here) (.drop .refl)))))))))))))
  · go_wp2_with (first | (go_at_call 124; (refine nmKd ?_; clear M; (try clear F); intro w1 M F); refine (HRd.out _ ?_ M dl).mono ?_; omega; clear M; rintro e w2 ⟨C, A, c, q', rfl, h1, h2, h3, h4, M⟩; (try clear F); have F := fxd M) | ((with_reducible apply ev_store (M := M)); rfl; rfl; ((conv => lhs; whnf) <;> rfl); rfl; (first | exact siI | exact siR | exact siV | exact siB | exact siSI | exact siSV | exact siW | exact siSR | exact siSO | exact siO); (exact one_all rfl); (exact dl); (exact Nat.le_of_ble_eq_true rfl); clear M; intro w1 M; simp only [SX] at M; (try clear F); have F := fxd M))
    apply ret_cell (M := M); rfl; rfl; (exact dl); (first | exact agR | exact agV | exact agW | exact agO); (first | exact siI | exact siR | exact siV | exact siB | exact siSI | exact siSV | exact siW | exact siSR | exact siSO | exact siO); rfl
    exact HZ.out (by omega) h2 hr.out (by omega) (by omega) (M.sel (.cons .here (.cons .here (.cons (.there (.there .here)) (.cons (.there (.there .here)) (.cons (.there (.there .here)) (.cons (.there (.there .here)) (.cons (.there (.there .here)) (.cons (.there (.there .here)) (.cons .here (.cons (.there (.there .here)) (.cons .here (.drop .refl)))))))))))))
  · have b0 : (i == 0) = false := by simp; omega
    have b1 : (i == 1) = false := by simp; omega
    have b2 : (i == 2) = false := by simp; omega
    have b3 : (i == 3) = false := by simp; omega
    have b4 : (i == 4) = false := by simp; omega
    go_wp2_with (first | ((with_reducible apply ev_store (M := M)); rfl; rfl; ((conv => lhs; whnf) <;> rfl); rfl; (first | exact siI | exact siR | exact siV | exact siB | exact siSI | exact siSV | exact siW | exact siSR | exact siSO | exact siO); (exact one_all rfl); (exact dl); (exact Nat.le_of_ble_eq_true rfl); clear M; intro w1 M; simp only [SX] at M; (try clear F); have F := fxd M))
    apply ret_cell (M := M); rfl; rfl; (exact dl); (first | exact agR | exact agV | exact agW | exact agO); (first | exact siI | exact siR | exact siV | exact siB | exact siSI | exact siSV | exact siW | exact siSR | exact siSO | exact siO); rfl
    exact HZ.out (by omega) hc16 hr.out hq1' (by omega) M
end Go.Proofs.Ytmidnaafljgbiaa
/- A run is drawn, some spoilt. -/
namespace Go.Proofs.Ytmidnaafljgbiaa
open Go.RowKit
set_option maxRecDepth 100000

def RSx (r : Rn) : Prop := r.slots.length ≤ 4 ∧ r.mail.length ≤ 20 ∧ r.links.length ≤ 7 ∧ r.watched.length ≤ 6
def DRunPost (R : Rd) (p : Nat) (w0 : World) (f : List Nat) (L : List Asn) (e : Ending) (w' : World) : Prop := ∃ (r : Rn) (a : RA) (p' : Nat), e = .returned (.agg (runArr r a)) ∧ RSx r ∧ p ≤ p' ∧ p' ≤ p + 1700 ∧ Mem w0 f w' (runA r a :: rdr R p' :: L)
set_option maxHeartbeats 8000000 in
theorem sRunD (R : Rd) (p : Nat) (hp : p ≤ 300000000) {w0 w : World} {f : List Nat} {L L' : List Asn} (M : Mem w0 f w L) (hd : Del (rdr R p) L L') :
    Calls Try.prog 73 #[.pointer (some ⟨R.g, 0, none⟩)] w (DRunPost R p w0 f L') := by
  replace M := M.pull hd
  clear hd
  have AL := add_lit0
  have HP := Lib.hid (fun (m : Int) (hm : 1 ≤ m) (q : Nat) (hq : q ≤ 1000000000) W (L L' : List Asn) (M : Mem w0 f W L) (hd : Del (rdr R q) L L') => pick_of m hm R q hq M hd)
  have HW : Hid (∀ {U : World} {L1 L2 : List Asn}, Mem w0 f U L1 → Del (rdr R p) L1 L2 → Calls Try.prog 102 #[.pointer (some ⟨R.g, 0, none⟩)] U (DrawPost R p w0 f L2)) := fun {U L1 L2} M hd => sWorldD R p (by omega) M hd
  have HG : Hid (∀ (q : Nat), q ≤ 900000000 → ∀ {U : World} {L1 L2 : List Asn}, Mem w0 f U L1 → Del (rdr R q) L1 L2 → Calls Try.prog 103 #[.pointer (some ⟨R.g, 0, none⟩)] U (GoodPost R q w0 f L2)) := fun q hq U L1 L2 M hd => sGood R q hq M hd
  have HV : Hid (∀ (q : Nat), q ≤ 900000000 → ∀ {U : World} {L1 L2 : List Asn}, Mem w0 f U L1 → Del (rdr R q) L1 L2 → Calls Try.prog 86 #[.pointer (some ⟨R.g, 0, none⟩)] U (ValPost R q w0 f L2)) := fun q hq U L1 L2 M hd => sVal R q hq M hd
  (try clear F); have F := fxd M
  go_enter Try.func73, Try.ntmps73
  go_upto_region 2 with (first
    | (with_reducible refine alAd M ?_; clear M; (try clear F); intro w1 M F)
    | ((with_reducible apply ev_store (M := M)); rfl; rfl; ((conv => lhs; whnf) <;> rfl); rfl; (first | exact siI | exact siR | exact siV | exact siB | exact siSI | exact siSV | exact siW | exact siSR | exact siSO | exact siO); (exact one_all rfl); (exact dl); (exact Nat.le_of_ble_eq_true rfl); clear M; intro w1 M; simp only [SX] at M; (try clear F); have F := fxd M)
    | (go_at_call 102; (refine nmKd ?_; clear M; (try clear F); intro w1 M F); refine (HW.out M dl).mono ?_; clear M; rintro e w2 ⟨V, q, rfl, hV, hq1, hq2, M⟩; (try clear F); have F := fxd M))
  generalize w.heap.size = g2 at M ⊢
  generalize w2.heap.size = g3 at M ⊢
  obtain ⟨hp1, hp6, hqq, hcc, hrs⟩ := hV
  have HB : Hid (∀ {U : World} {k : Nat} {L1 : List Asn}, k < V.ps.length → Mem w0 f U (blk g3 tW [.slice V.cA V.code.length V.cC, .slice V.rA V.ps.length V.rC, .slice V.qA V.queue.length V.qC, .int .i64 V.now, .int .i64 V.sent, .int .i64 V.taken, .int .i64 V.lost] :: wld V :: L1) → ∃ (gr nn : Nat) (pre post : List (Rn × RA)) (r : Rn) (a : RA), V.rA = some ⟨gr, 0, none⟩ ∧ RSm r ∧ pre.length = k ∧ nn = V.ps.length ∧
      Mem w0 f U (opened g3 gr nn V.cA V.cC V.code V.rC pre post r a V.queue V.qA V.qC V.now V.sent V.taken V.lost L1)) := by
    intro U k L1 hk M
    obtain ⟨gr, nn, pre, post, r, a, hA, hps, hpl, hnn, hnl, M3⟩ := open_at (V := V) M hk
    exact ⟨gr, nn, pre, post, r, a, hA, hrs (r, a) (by rw [hps]; simp), hpl, hnl, M3⟩
  have n1 : (1 : Int) ≤ (V.ps.length : Int) := by omega
  clear F hqq hcc hrs
  (try clear F); have F := fxd M
  go_cut [4] from 5 (fun s4 wx => ∃ (r : Rn) (a : RA) (g4 : Nat), s4 = .pointer (some ⟨g4, 0, none⟩) ∧ RSm r ∧ Mem w0 f wx (blk g4 tR (encR (r, a)) :: row encV 2 tV a.sA a.sC r.slots :: row encV 2 tV a.mA a.mC r.mail :: row encI 1 tI a.lA a.lC r.links :: row encI 1 tI a.wA a.wC r.watched :: rdr R (q + 1) :: blk g2 tR [.int .i64 0, .int .i64 0, .slice none 0 0, .int .i64 0, .slice none 0 0, .int .i64 0, .int .i64 0, .slice none 0 0, .slice none 0 0, .bool false, .int .i64 0, .int .i64 0, .int .i64 0] :: L'))
  case first =>
    (refine held_begin (S := fun W' => ∀ j, W'.cell? ⟨g3, j, none⟩ = ([.slice V.cA V.code.length V.cC, .slice V.rA V.ps.length V.rC, .slice V.qA V.queue.length V.qC, .int .i64 V.now, .int .i64 V.sent, .int .i64 V.taken, .int .i64 V.lost] : List Value)[j]?) (by kernel_rfl) (fun _ _ _ _ _ h => h) kc (fun HQ hHeld => ?_))
    refine tkY HQ hHeld 0 ?_; refine tkY HQ hHeld 1 ?_; refine tkY HQ hHeld 2 ?_; refine tkY HQ hHeld 3 ?_; refine tkY HQ hHeld 4 ?_; refine tkY HQ hHeld 5 ?_; clear hHeld; (refine nmd (G := fun W => wpAnyH _ _ _ _ _ _ _ _ W) ?_; clear M; (try clear F); intro w1 M F)
    refine stp2 6 9 (fun K hK => ?_) (fun K hK => ?_)
    · go_simp
      (go_at_call 74; (refine nmKd ?_; clear M; (try clear F); intro w1 M F); refine (HP.out _ n1 _ ?_ _ _ _ M dl).mono ?_; omega; clear M; rintro e w2 ⟨i, rfl, i0, i1, M⟩; obtain ⟨k, rfl⟩ : ∃ k : Nat, i = k := ⟨i.toNat, by omega⟩; (try clear F); have F := fxd M)
      (try go_wp2_with fail); refine hK.out _ _ (kc) (fun hHeld => ?_); clear hK K; (try simp only [AX])
      obtain ⟨gr, nn, pre, post, r, a, hA, hr, hpl, hnl, M⟩ := HB.out (k := k) (by omega) (M.sel (.cons (.there .here) (.cons (.there .here) .refl)))
      unfold opened at M
      have RA9 := runAt_mid M dl hpl
      unfold RunAt at RA9
      have j0 : (0 : Int) ≤ k := by omega
      have j1 : k < nn := by omega
      rw [hA, ← hnl]
      replace hpl := Lib.hid hpl
      have hAh := Lib.hid hA
      have hnh := Lib.hid hnl
      clear HB hA hnl i0 i1
      (try clear F); have F := fxd M
      refine tkY HQ (by exact kc) 7 ?_
      refine stp2 8 9 (fun K hK => ?_) (fun K hK => ?_)
      · go_simp; (try go_wp2_with fail); refine hK.out _ _ (kc) (fun hHeld => ?_); clear hK K; (try simp only [AX]); refine stp 9 (fun K hK => ?_); go_simp; (try go_wp2_with fail); refine hK.out _ _ (kc) (fun hHeld => ?_); clear hK K; (try simp only [AX]); clear hHeld; (refine nmd (G := fun W => wpAnyH _ _ _ _ _ _ _ _ W) ?_; clear M; (try clear F); intro w1 M F); refine stp 10 (fun K hK => ?_); refine op_of_list rfl ?_; ((with_reducible apply ev_store (M := M)); rfl; rfl; ((conv => lhs; whnf) <;> rfl); rfl; (first | exact siI | exact siR | exact siV | exact siB | exact siSI | exact siSV | exact siW | exact siSR | exact siSO | exact siO); (exact one_all rfl); (exact dl); (exact Nat.le_of_ble_eq_true rfl); clear M; intro w1 M; simp only [SX] at M; (try clear F); have F := fxd M); (try go_wp2_with fail); refine hK.out _ _ (kc) (fun hHeld => ?_); clear hK K; (try simp only [AX]); refine wpAnyH_done (by kernel_rfl) ?_ _; clear HQ; (repeat clear hHeld); go_wp2; go_meet; exact ⟨r, a, _, rfl, hr, M.sel (.cons .here (.drop (.drop (.cons .here (.cons .here (.cons .here (.cons .here (.drop (.drop (.drop .refl))))))))))⟩
      · go_simp; (try go_wp2_with fail); refine hK.out _ _ (kc) (fun hHeld => ?_); clear hK K; (try simp only [AX]); clear hHeld; (refine nmd (G := fun W => wpAnyH _ _ _ _ _ _ _ _ W) ?_; clear M; (try clear F); intro w1 M F); have RA9 := runAt_mid M dl hpl.out; unfold RunAt at RA9; refine stp 8 (fun K hK => ?_); go_simp; (try go_wp2_with fail); refine hK.out _ _ (kc) (fun hHeld => ?_); clear hK K; (try simp only [AX]); refine stp 10 (fun K hK => ?_); refine op_of_list rfl ?_; ((with_reducible apply ev_store (M := M)); rfl; rfl; ((conv => lhs; whnf) <;> rfl); rfl; (first | exact siI | exact siR | exact siV | exact siB | exact siSI | exact siSV | exact siW | exact siSR | exact siSO | exact siO); (exact one_all rfl); (exact dl); (exact Nat.le_of_ble_eq_true rfl); clear M; intro w1 M; simp only [SX] at M; (try clear F); have F := fxd M); (try go_wp2_with fail); refine hK.out _ _ (kc) (fun hHeld => ?_); clear hK K; (try simp only [AX]); refine wpAnyH_done (by kernel_rfl) ?_ _; clear HQ; (repeat clear hHeld); go_wp2; go_meet; exact ⟨r, a, _, rfl, hr, M.sel (.cons .here (.drop (.drop (.cons .here (.cons .here (.cons .here (.cons .here (.drop (.drop (.drop .refl))))))))))⟩
    · go_simp; (try go_wp2_with fail); refine hK.out _ _ (kc) (fun hHeld => ?_); clear hK K; (try simp only [AX]); clear hHeld; (refine nmd (G := fun W => wpAnyH _ _ _ _ _ _ _ _ W) ?_; clear M; (try clear F); intro w1 M F); refine stp 6 (fun K hK => ?_); go_simp
      (go_at_call 74; (refine nmKd ?_; clear M; (try clear F); intro w1 M F); refine (HP.out _ n1 _ ?_ _ _ _ M dl).mono ?_; omega; clear M; rintro e w2 ⟨i, rfl, i0, i1, M⟩; obtain ⟨k, rfl⟩ : ∃ k : Nat, i = k := ⟨i.toNat, by omega⟩; (try clear F); have F := fxd M)
      (try go_wp2_with fail); refine hK.out _ _ (kc) (fun hHeld => ?_); clear hK K; (try simp only [AX])
      obtain ⟨gr, nn, pre, post, r, a, hA, hr, hpl, hnl, M⟩ := HB.out (k := k) (by omega) (M.sel (.cons (.there (.there .here)) (.cons (.there (.there .here)) .refl)))
      unfold opened at M
      have RA9 := runAt_mid M dl hpl
      unfold RunAt at RA9
      have j0 : (0 : Int) ≤ k := by omega
      have j1 : k < nn := by omega
      rw [hA, ← hnl]
      replace hpl := Lib.hid hpl
      have hAh := Lib.hid hA
      have hnh := Lib.hid hnl
      clear HB hA hnl i0 i1
      (try clear F); have F := fxd M
      refine tkY HQ (by exact kc) 7 ?_; refine stp 8 (fun K hK => ?_); go_simp; (try go_wp2_with fail); refine hK.out _ _ (kc) (fun hHeld => ?_); clear hK K; (try simp only [AX]); refine stp 10 (fun K hK => ?_); refine op_of_list rfl ?_; ((with_reducible apply ev_store (M := M)); rfl; rfl; ((conv => lhs; whnf) <;> rfl); rfl; (first | exact siI | exact siR | exact siV | exact siB | exact siSI | exact siSV | exact siW | exact siSR | exact siSO | exact siO); (exact one_all rfl); (exact dl); (exact Nat.le_of_ble_eq_true rfl); clear M; intro w1 M; simp only [SX] at M; (try clear F); have F := fxd M); (try go_wp2_with fail); refine hK.out _ _ (kc) (fun hHeld => ?_); clear hK K; (try simp only [AX]); refine wpAnyH_done (by kernel_rfl) ?_ _; clear HQ; (repeat clear hHeld); go_wp2; go_meet; exact ⟨r, a, _, rfl, hr, M.sel (.cons .here (.drop (.drop (.cons .here (.cons .here (.cons .here (.cons .here (.drop (.drop (.drop .refl))))))))))⟩
  clear M F HB HW
  obtain ⟨r, a, g4, rfl, hr, M⟩ := hcut
  obtain ⟨id, at_, slots, full, mail, state, due, links, watched, trap, ⟨wk, wn⟩, turns⟩ := r
  obtain ⟨sA, sC, mA, mC, lA, lC, wA, wC⟩ := a
  obtain ⟨l1, l2, l3, l4⟩ := hr
  simp only at l1 l2 l3 l4 M
  have M : Mem w0 f _ (blk g4 tR [.int .i64 id, .int .i64 at_, .slice sA slots.length sC, .int .i64 full, .slice mA mail.length mC, .int .i64 state, .int .i64 due, .slice lA links.length lC, .slice wA watched.length wC, .bool trap, .int .i64 wk, .int .i64 wn, .int .i64 turns] :: row encV 2 tV sA sC slots :: row encV 2 tV mA mC mail :: row encI 1 tI lA lC links :: row encI 1 tI wA wC watched :: rdr R (q + 1) :: blk g2 tR [.int .i64 0, .int .i64 0, .slice none 0 0, .int .i64 0, .slice none 0 0, .int .i64 0, .int .i64 0, .slice none 0 0, .slice none 0 0, .bool false, .int .i64 0, .int .i64 0, .int .i64 0] :: L') := M
  (try clear F); have F := fxd M
  go_upto_region 3 with fail
  go_cut [24] from 5 (fun s24 wx => ∃ (b : Bool) (q : Nat), s24 = .bool b ∧ p ≤ q ∧ q ≤ p + 1602 ∧ Mem w0 f wx (blk g4 tR [.int .i64 id, .int .i64 at_, .slice sA slots.length sC, .int .i64 full, .slice mA mail.length mC, .int .i64 state, .int .i64 due, .slice lA links.length lC, .slice wA watched.length wC, .bool trap, .int .i64 wk, .int .i64 wn, .int .i64 turns] :: row encV 2 tV sA sC slots :: row encV 2 tV mA mC mail :: row encI 1 tI lA lC links :: row encI 1 tI wA wC watched :: rdr R q :: blk g2 tR [.int .i64 0, .int .i64 0, .slice none 0 0, .int .i64 0, .slice none 0 0, .int .i64 0, .int .i64 0, .slice none 0 0, .slice none 0 0, .bool false, .int .i64 0, .int .i64 0, .int .i64 0] :: L'))
  case first =>
    cases hst : (state == 3) with
    | true =>
      have b5 : (state != 3) = false := by rw [bne, hst]; rfl
      go_wp2
      go_meet
      case rel => exact ⟨_, q + 1, rfl, by omega, by omega, M⟩
    | false =>
      have b5 : (state != 3) = true := by rw [bne, hst]; rfl
      go_wp2_with (first | (go_at_call 74; (refine nmKd ?_; clear M; (try clear F); intro w1 M F); refine (HP.out _ (by omega) _ ?_ _ _ _ M dl).mono ?_; omega; clear M; rintro e w2 ⟨i, rfl, i0, i1, M⟩; (try clear F); have F := fxd M))
      go_meet
      case rel => exact ⟨_, q + 2, rfl, by omega, by omega, M.sel (.cons (.there .here) (.cons (.there .here) (.cons (.there .here) (.cons (.there .here) (.cons (.there .here) .refl)))))⟩
  clear M F hq1 hq2
  obtain ⟨b, q, rfl, hq1, hq2, M⟩ := hcut
  (try clear F); have F := fxd M
  go_upto_if 24 with fail
  go_cut [] from 5 (fun wx => ∃ (q : Nat) (mail : List Vl) (mA : Option Addr) (mC : Nat), mail.length ≤ 16 ∧ p ≤ q ∧ q ≤ p + 1640 ∧ Mem w0 f wx (blk g4 tR [.int .i64 id, .int .i64 at_, .slice sA slots.length sC, .int .i64 full, .slice mA mail.length mC, .int .i64 state, .int .i64 due, .slice lA links.length lC, .slice wA watched.length wC, .bool trap, .int .i64 wk, .int .i64 wn, .int .i64 turns] :: row encV 2 tV sA sC slots :: row encV 2 tV mA mC mail :: row encI 1 tI lA lC links :: row encI 1 tI wA wC watched :: rdr R q :: blk g2 tR [.int .i64 0, .int .i64 0, .slice none 0 0, .int .i64 0, .slice none 0 0, .int .i64 0, .int .i64 0, .slice none 0 0, .slice none 0 0, .bool false, .int .i64 0, .int .i64 0, .int .i64 0] :: L'))
  case first =>
    cases b with
    | false =>
      go_wp2
      go_meet
      case rel => exact ⟨q, mail, mA, mC, by omega, by omega, by omega, M⟩
    | true =>
      go_upto_region 5 with (first | (go_at_call 74; (refine nmKd ?_; clear M; (try clear F); intro w1 M F); refine (HP.out _ (by omega) _ ?_ _ _ _ M dl).mono ?_; omega; clear M; rintro e w2 ⟨i, rfl, i0, i1, M⟩; (try clear F); have F := fxd M))
      obtain ⟨m, rfl⟩ : ∃ m : Nat, i = m := ⟨i.toNat, by omega⟩
      have MB : Hid (Mem w0 f w2 (blk g4 tR [.int .i64 id, .int .i64 at_, .slice sA slots.length sC, .int .i64 full, .slice mA mail.length mC, .int .i64 state, .int .i64 due, .slice lA links.length lC, .slice wA watched.length wC, .bool trap, .int .i64 wk, .int .i64 wn, .int .i64 turns] :: row encV 2 tV sA sC slots :: row encV 2 tV mA mC mail :: row encI 1 tI lA lC links :: row encI 1 tI wA wC watched :: rdr R (q + 1) :: blk g2 tR [.int .i64 0, .int .i64 0, .slice none 0 0, .int .i64 0, .slice none 0 0, .int .i64 0, .int .i64 0, .slice none 0 0, .slice none 0 0, .bool false, .int .i64 0, .int .i64 0, .int .i64 0] :: L')) := M.sel (.cons (.there .here) (.cons (.there .here) (.cons (.there .here) (.cons (.there .here) (.cons (.there .here) .refl)))))
      clear M F
      go_loopg [5] 4 (fun gg v wr => ∃ (m q : Nat) (mail : List Vl) (mA : Option Addr) (mC : Nat), m ≤ gg ∧ m ≤ 4 ∧ v = .int .i64 m ∧ mail.length + m ≤ 16 ∧ p ≤ q ∧ q ≤ p + 1603 + 4 * (4 - m) ∧ Hid (Mem w0 f wr (blk g4 tR [.int .i64 id, .int .i64 at_, .slice sA slots.length sC, .int .i64 full, .slice mA mail.length mC, .int .i64 state, .int .i64 due, .slice lA links.length lC, .slice wA watched.length wC, .bool trap, .int .i64 wk, .int .i64 wn, .int .i64 turns] :: row encV 2 tV sA sC slots :: row encV 2 tV mA mC mail :: row encI 1 tI lA lC links :: row encI 1 tI wA wC watched :: rdr R q :: blk g2 tR [.int .i64 0, .int .i64 0, .slice none 0 0, .int .i64 0, .slice none 0 0, .int .i64 0, .int .i64 0, .slice none 0 0, .slice none 0 0, .bool false, .int .i64 0, .int .i64 0, .int .i64 0] :: L')))
      case atStart => exact ⟨m, q + 1, mail, mA, mC, by omega, by omega, rfl, by omega, by omega, by omega, MB⟩
      case round =>
        clear MB hq1 hq2 l2 i0 i1
        obtain ⟨m, q, mail, mA, mC, hmg, hm4, rfl, hml, hq1, hq2, M⟩ := hrel
        replace M := M.out
        by_cases hlt : 0 < m
        · obtain ⟨m1, rfl⟩ : ∃ m1, m = m1 + 1 := ⟨m - 1, by omega⟩
          have j1 : (0 : Int) < (m1 : Int) + 1 := by omega
          have wj : IntKind.i64.wrap ((m1 : Int) + 1 - 1) = (m1 : Int) := by rw [IntKind.wrap_i64]; omega
          have wj2 : IntKind.i64.wrap (m1 : Int) = (m1 : Int) := by rw [IntKind.wrap_i64]; omega
          (try clear F); have F := fxd M
          go_upto_region 7 with fail
          (refine beginE (S := fun W' => ∀ j, W'.cell? ⟨g4, j, none⟩ = ([.int .i64 id, .int .i64 at_, .slice sA slots.length sC, .int .i64 full, .slice mA mail.length mC, .int .i64 state, .int .i64 due, .slice lA links.length lC, .slice wA watched.length wC, .bool trap, .int .i64 wk, .int .i64 wn, .int .i64 turns] : List Value)[j]?) 7 (by kernel_rfl) (fun _ _ _ _ _ h => h) kc (fun HQ hHeld => ?_)); refine tkYE HQ hHeld 0 ?_; refine tkYE HQ hHeld 1 ?_; refine tkYE HQ hHeld 2 ?_; refine stpE 3 (fun K hK => ?_); go_simp
          (go_at_call 103; (refine nmKd ?_; clear M; (try clear F); intro w1 M F); refine (HG.out _ ?_ M dl).mono ?_; omega; clear M; rintro e w2 ⟨⟨vk, vn⟩, q9, rfl, hv, hq8, hq9, M⟩; (try simp only at M); (try clear F); have F := fxd M)
          (try go_wp2_with fail); refine hK.out _ _ (kc) (fun hHeld => ?_); clear hK K; (try simp only [AX]); refine stpE 4 (fun K hK => ?_); go_simp; (try go_wp2_with fail); refine hK.out _ _ (kc) (fun hHeld => ?_); clear hK K; (try simp only [AX]); clear hHeld; (refine nmd (G := fun W => wpAnyE _ _ _ _ _ _ _ _ _ W) ?_; clear M; (try clear F); intro w1 M F); refine stpE 5 (fun K hK => ?_); refine op_of_list rfl ?_; ((with_reducible apply ev_app1 (enc := encV) (v := (⟨vk, vn⟩ : Vl)) (hk := encV_length) (hone := oneV) (h0 := by decide) (hinfo := infVx) (ht := Try.underlying29) (M := M)); rfl; rfl; (exact dl); (exact dl); rfl; rfl; omega; (exact Nat.le_of_ble_eq_true rfl); clear M; intro A1 c1 w1 M; replace M := Mem.perm M (.swap _ _ _) |> Mem.drop; (try clear F); have F := fxd M); (try go_wp2_with fail); refine hK.out _ _ (kc) (fun hHeld => ?_); clear hK K; (try simp only [AX]); refine tkYE HQ hHeld 6 ?_; refine stpT (fun K hK => ?_); refine op_of_list rfl ?_; ((with_reducible apply ev_store (M := M)); rfl; rfl; ((conv => lhs; whnf) <;> rfl); rfl; (first | exact siI | exact siR | exact siV | exact siB | exact siSI | exact siSV | exact siW | exact siSR | exact siSO | exact siO); (exact one_all rfl); (exact dl); (exact Nat.le_of_ble_eq_true rfl); clear M; intro w1 M; simp only [SX] at M; (try clear F); have F := fxd M); (try go_wp2_with fail); refine hK.out _ _ ?_; clear hK K; (try simp only [AX])
          have e : (mail ++ [(⟨vk, vn⟩ : Vl)]).length = mail.length + 1 := by simp
          rw [← e] at M
          replace e := Lib.hid e
          clear F
          go_wp2
          go_roundg m1
          case measure => omega
          case rel => exact ⟨m1, q9, _, A1, c1, by omega, by omega, by go_num, by rw [e.out]; omega, by omega, by omega, M.sel (.cons .here (.cons (.there (.there .here)) (.cons .here (.cons (.there .here) (.cons (.there .here) .refl)))))⟩
        · obtain rfl : m = 0 := by omega
          (try clear F); have F := fxd M
          go_wp2
          go_meet
          case rel => exact ⟨q, mail, mA, mC, by omega, by omega, by omega, M⟩
  clear M F hq1 hq2 l2
  obtain ⟨q, mail, mA, mC, l2, hq1, hq2, M⟩ := hcut
  (try clear F); have F := fxd M
  have HZ : Hid (∀ {U : World} {id at_ full state due wk wn turns : Int} {trap : Bool} {mail : List Vl} {links : List Int} {mA lA : Option Addr} {mC lC q' : Nat}, mail.length ≤ 20 → links.length ≤ 7 → p ≤ q' → q' ≤ p + 1700 → Mem w0 f U (row encV 2 tV sA sC slots :: row encV 2 tV mA mC mail :: row encI 1 tI lA lC links :: row encI 1 tI wA wC watched :: rdr R q' :: L') → DRunPost R p w0 f L' (.returned (.agg (List.toArray [.int .i64 id, .int .i64 at_, .slice sA slots.length sC, .int .i64 full, .slice mA mail.length mC, .int .i64 state, .int .i64 due, .slice lA links.length lC, .slice wA watched.length wC, .bool trap, .int .i64 wk, .int .i64 wn, .int .i64 turns]))) U) :=
    fun {U id at_ full state due wk wn turns trap mail links mA lA mC lC q'} h1 h2 h3 h4 M => ⟨⟨id, at_, slots, full, mail, state, due, links, watched, trap, ⟨wk, wn⟩, turns⟩, ⟨sA, sC, mA, mC, lA, lC, wA, wC⟩, q', rfl, ⟨l1, h1, h2, l4⟩, h3, h4, Mem.packRun (r := ⟨id, at_, slots, full, mail, state, due, links, watched, trap, ⟨wk, wn⟩, turns⟩) (a := ⟨sA, sC, mA, mC, lA, lC, wA, wC⟩) M⟩
  go_upto_region 9 with (first | (go_at_call 74; (refine nmKd ?_; clear M; (try clear F); intro w1 M F); refine (HP.out _ (by omega) _ ?_ _ _ _ M dl).mono ?_; omega; clear M; rintro e w2 ⟨i, rfl, i0, i1, M⟩; (try clear F); have F := fxd M))
  have hi : i = 0 ∨ i = 1 ∨ i = 2 ∨ i = 3 ∨ 4 ≤ i := by omega
  rcases hi with rfl | rfl | rfl | rfl | hi
  · clear i0 i1
    go_upto_region 10 with fail
    go_wp2_with (first
      | ((with_reducible apply ev_store (M := M)); rfl; rfl; ((conv => lhs; whnf) <;> rfl); rfl; (first | exact siI | exact siR | exact siV | exact siB | exact siSI | exact siSV | exact siW | exact siSR | exact siSO | exact siO); (exact one_all rfl); (exact dl); (exact Nat.le_of_ble_eq_true rfl); clear M; intro w1 M; simp only [SX] at M; (try clear F); have F := fxd M)
      | (go_at_call 74; (refine nmKd ?_; clear M; (try clear F); intro w1 M F); refine (HP.out _ (by omega) _ ?_ _ _ _ M dl).mono ?_; omega; clear M; rintro e w2 ⟨i, rfl, i0, i1, M⟩; have wi : IntKind.i64.wrap (i - 1) = i - 1 := IntWalk.i64_in _ (by omega); (try clear F); have F := fxd M))
    apply ret_cell (M := M); rfl; rfl; (exact dl); (first | exact agR | exact agV | exact agW | exact agO); (first | exact siI | exact siR | exact siV | exact siB | exact siSI | exact siSV | exact siW | exact siSR | exact siSO | exact siO); rfl
    exact HZ.out (by omega) (by omega) (by omega) (by omega) (M.sel (.drop (.drop (.cons (.there .here) (.cons (.there .here) (.cons (.there .here) (.cons (.there .here) .refl)))))))
  · clear i0 i1
    go_upto_region 12 with fail
    (refine beginE (S := fun W' => ∀ j, W'.cell? ⟨g4, j, none⟩ = ([.int .i64 id, .int .i64 at_, .slice sA slots.length sC, .int .i64 full, .slice mA mail.length mC, .int .i64 state, .int .i64 due, .slice lA links.length lC, .slice wA watched.length wC, .bool trap, .int .i64 wk, .int .i64 wn, .int .i64 turns] : List Value)[j]?) 7 (by kernel_rfl) (fun _ _ _ _ _ h => h) kc (fun HQ hHeld => ?_)); refine tkYE HQ hHeld 0 ?_; refine tkYE HQ hHeld 1 ?_; refine tkYE HQ hHeld 2 ?_; refine stpE 3 (fun K hK => ?_); go_simp
    (go_at_call 86; (refine nmKd ?_; clear M; (try clear F); intro w1 M F); refine (HV.out _ ?_ M dl).mono ?_; omega; clear M; rintro e w2 ⟨⟨vk, vn⟩, q9, rfl, hv, hq8, hq9, M⟩; (try simp only at M); (try clear F); have F := fxd M)
    (try go_wp2_with fail); refine hK.out _ _ (kc) (fun hHeld => ?_); clear hK K; (try simp only [AX]); refine stpE 4 (fun K hK => ?_); go_simp; (try go_wp2_with fail); refine hK.out _ _ (kc) (fun hHeld => ?_); clear hK K; (try simp only [AX]); clear hHeld; (refine nmd (G := fun W => wpAnyE _ _ _ _ _ _ _ _ _ W) ?_; clear M; (try clear F); intro w1 M F); refine stpE 5 (fun K hK => ?_); refine op_of_list rfl ?_; ((with_reducible apply ev_app1 (enc := encV) (v := (⟨vk, vn⟩ : Vl)) (hk := encV_length) (hone := oneV) (h0 := by decide) (hinfo := infVx) (ht := Try.underlying29) (M := M)); rfl; rfl; (exact dl); (exact dl); rfl; rfl; omega; (exact Nat.le_of_ble_eq_true rfl); clear M; intro A1 c1 w1 M; replace M := Mem.perm M (.swap _ _ _) |> Mem.drop; (try clear F); have F := fxd M); (try go_wp2_with fail); refine hK.out _ _ (kc) (fun hHeld => ?_); clear hK K; (try simp only [AX]); refine tkYE HQ hHeld 6 ?_; refine stpT (fun K hK => ?_); refine op_of_list rfl ?_; ((with_reducible apply ev_store (M := M)); rfl; rfl; ((conv => lhs; whnf) <;> rfl); rfl; (first | exact siI | exact siR | exact siV | exact siB | exact siSI | exact siSV | exact siW | exact siSR | exact siSO | exact siO); (exact one_all rfl); (exact dl); (exact Nat.le_of_ble_eq_true rfl); clear M; intro w1 M; simp only [SX] at M; (try clear F); have F := fxd M); (try go_wp2_with fail); refine hK.out _ _ ?_; clear hK K; (try simp only [AX])
    have e : (mail ++ [(⟨vk, vn⟩ : Vl)]).length = mail.length + 1 := by simp
    rw [← e] at M
    (try clear F); have F := fxd M
    go_wp2_with (first | ((with_reducible apply ev_store (M := M)); rfl; rfl; ((conv => lhs; whnf) <;> rfl); rfl; (first | exact siI | exact siR | exact siV | exact siB | exact siSI | exact siSV | exact siW | exact siSR | exact siSO | exact siO); (exact one_all rfl); (exact dl); (exact Nat.le_of_ble_eq_true rfl); clear M; intro w1 M; simp only [SX] at M; (try clear F); have F := fxd M))
    apply ret_cell (M := M); rfl; rfl; (exact dl); (first | exact agR | exact agV | exact agW | exact agO); (first | exact siI | exact siR | exact siV | exact siB | exact siSI | exact siSV | exact siW | exact siSR | exact siSO | exact siO); rfl
    rw [← e]
    exact HZ.out (by rw [e]; omega) (by omega) (by omega) (by omega) (M.sel (.drop (.drop (.cons (.there (.there .here)) (.cons .here (.cons (.there .here) (.cons (.there .here) .refl)))))))
  · clear i0 i1
    go_upto_region 14 with fail
    (refine beginE (S := fun W' => ∀ j, W'.cell? ⟨g4, j, none⟩ = ([.int .i64 id, .int .i64 at_, .slice sA slots.length sC, .int .i64 full, .slice mA mail.length mC, .int .i64 state, .int .i64 due, .slice lA links.length lC, .slice wA watched.length wC, .bool trap, .int .i64 wk, .int .i64 wn, .int .i64 turns] : List Value)[j]?) 7 (by kernel_rfl) (fun _ _ _ _ _ h => h) kc (fun HQ hHeld => ?_)); refine tkYE HQ hHeld 0 ?_; refine tkYE HQ hHeld 1 ?_; refine tkYE HQ hHeld 2 ?_; refine stpE 3 (fun K hK => ?_); go_simp
    (go_at_call 74; (refine nmKd ?_; clear M; (try clear F); intro w1 M F); refine (HP.out _ (by omega) _ ?_ _ _ _ M dl).mono ?_; omega; clear M; rintro e w2 ⟨i, rfl, i0, i1, M⟩; (try clear F); have F := fxd M)
    (try go_wp2_with fail); refine hK.out _ _ (kc) (fun hHeld => ?_); clear hK K; (try simp only [AX]); refine stpE 4 (fun K hK => ?_); go_simp; (try go_wp2_with fail); refine hK.out _ _ (kc) (fun hHeld => ?_); clear hK K; (try simp only [AX]); clear hHeld; (refine nmd (G := fun W => wpAnyE _ _ _ _ _ _ _ _ _ W) ?_; clear M; (try clear F); intro w1 M F); refine stpE 5 (fun K hK => ?_); refine op_of_list rfl ?_; ((with_reducible apply ev_app1 (enc := encI) (v := i) (hk := encI_length) (hone := oneIx) (h0 := by decide) (hinfo := infIx) (ht := Try.underlying23) (M := M)); rfl; rfl; (exact dl); (exact dl); rfl; rfl; omega; (exact Nat.le_of_ble_eq_true rfl); clear M; intro A1 c1 w1 M; replace M := Mem.perm M (.swap _ _ _) |> Mem.drop; (try clear F); have F := fxd M); (try go_wp2_with fail); refine hK.out _ _ (kc) (fun hHeld => ?_); clear hK K; (try simp only [AX]); refine tkYE HQ hHeld 6 ?_; refine stpT (fun K hK => ?_); refine op_of_list rfl ?_; ((with_reducible apply ev_store (M := M)); rfl; rfl; ((conv => lhs; whnf) <;> rfl); rfl; (first | exact siI | exact siR | exact siV | exact siB | exact siSI | exact siSV | exact siW | exact siSR | exact siSO | exact siO); (exact one_all rfl); (exact dl); (exact Nat.le_of_ble_eq_true rfl); clear M; intro w1 M; simp only [SX] at M; (try clear F); have F := fxd M); (try go_wp2_with fail); refine hK.out _ _ ?_; clear hK K; (try simp only [AX])
    have e : (links ++ [i]).length = links.length + 1 := by simp
    rw [← e] at M
    (try clear F); have F := fxd M
    go_wp2_with (first | ((with_reducible apply ev_store (M := M)); rfl; rfl; ((conv => lhs; whnf) <;> rfl); rfl; (first | exact siI | exact siR | exact siV | exact siB | exact siSI | exact siSV | exact siW | exact siSR | exact siSO | exact siO); (exact one_all rfl); (exact dl); (exact Nat.le_of_ble_eq_true rfl); clear M; intro w1 M; simp only [SX] at M; (try clear F); have F := fxd M))
    apply ret_cell (M := M); rfl; rfl; (exact dl); (first | exact agR | exact agV | exact agW | exact agO); (first | exact siI | exact siR | exact siV | exact siB | exact siSI | exact siSV | exact siW | exact siSR | exact siSO | exact siO); rfl
    rw [← e]
    exact HZ.out (by omega) (by rw [e]; omega) (by omega) (by omega) (M.sel (.drop (.drop (.cons (.there (.there .here)) (.cons (.there (.there .here)) (.cons .here (.cons (.there .here) .refl)))))))
  · clear i0 i1
    go_wp2_with (first | ((with_reducible apply ev_store (M := M)); rfl; rfl; ((conv => lhs; whnf) <;> rfl); rfl; (first | exact siI | exact siR | exact siV | exact siB | exact siSI | exact siSV | exact siW | exact siSR | exact siSO | exact siO); (exact one_all rfl); (exact dl); (exact Nat.le_of_ble_eq_true rfl); clear M; intro w1 M; simp only [SX] at M; (try clear F); have F := fxd M) | (go_at_call 74; (refine nmKd ?_; clear M; (try clear F); intro w1 M F); refine (HP.out _ (by omega) _ ?_ _ _ _ M dl).mono ?_; omega; clear M; rintro e w2 ⟨i, rfl, i0, i1, M⟩; (try clear F); have F := fxd M))
    apply ret_cell (M := M); rfl; rfl; (exact dl); (first | exact agR | exact agV | exact agW | exact agO); (first | exact siI | exact siR | exact siV | exact siB | exact siSI | exact siSV | exact siW | exact siSR | exact siSO | exact siO); rfl
    exact HZ.out (by omega) (by omega) (by omega) (by omega) (M.sel (.drop (.drop (.cons (.there .here) (.cons (.there .here) (.cons (.there .here) (.cons (.there .here) .refl)))))))
  · have b0 : (i == 0) = false := by simp; omega
    have b1 : (i == 1) = false := by simp; omega
    have b2 : (i == 2) = false := by simp; omega
    have b3 : (i == 3) = false := by simp; omega
    go_wp2_with (first | ((with_reducible apply ev_store (M := M)); rfl; rfl; ((conv => lhs; whnf) <;> rfl); rfl; (first | exact siI | exact siR | exact siV | exact siB | exact siSI | exact siSV | exact siW | exact siSR | exact siSO | exact siO); (exact one_all rfl); (exact dl); (exact Nat.le_of_ble_eq_true rfl); clear M; intro w1 M; simp only [SX] at M; (try clear F); have F := fxd M))
    apply ret_cell (M := M); rfl; rfl; (exact dl); (first | exact agR | exact agV | exact agW | exact agO); (first | exact siI | exact siR | exact siV | exact siB | exact siSI | exact siSV | exact siW | exact siSR | exact siSO | exact siO); rfl
    exact HZ.out (by omega) (by omega) (by omega) (by omega) (M.sel (.drop (.cons (.there (.there .here)) (.cons (.there (.there .here)) (.cons (.there (.there .here)) (.cons (.there (.there .here)) (.cons .here (.drop .refl))))))))
end Go.Proofs.Ytmidnaafljgbiaa
/- What a new run is drawn from. -/
namespace Go.Proofs.Ytmidnaafljgbiaa
open Go.RowKit
set_option maxRecDepth 100000
theorem rdr_below {W w' : World} {f : List Nat} {L L' : List Asn} {R : Rd} {p : Nat} (M : Mem W f w' L) (hd : Del (rdr R p) L L') (h0 : R.W0 = W) (hf : roB R.A R.n = f) : Below W.heap.size W w' := by
  subst h0
  subst hf
  have M1 := Mem.unpack (L' := rdL R p) (M.pull hd)
  exact Mem.roBelow M1 (.there .here)
set_option maxHeartbeats 1000000 in
theorem sOpenW (W0 : World) (A : Option Addr) (n c : Nat) (bs : Nat → Int) (hnc : n ≤ c) {w0 w : World} {f : List Nat} {L : List Asn} (M : Mem w0 f w (ro W0 A n bs :: L)) :
    Calls Try.prog 72 #[.slice A n c] w fun e w' => ∃ R : Rd, e = .returned (.pointer (some ⟨R.g, 0, none⟩)) ∧ (R.W0 = W0 ∧ roB R.A R.n = roB A n) ∧ Mem w0 f w' (rdr R 0 :: L) := by
  have hb := (M.is dl : (ro W0 A n bs).P w)
  have hn : n ≤ 1048576 := hb.1.1
  by_cases h : n ≤ 2000
  · have h1 : decide (2000 < n) = false := by simp; omega
    have HF := Lib.hid (fun W g (M : Mem w0 f W (blk g 113 [.slice A n c, .int .i64 0] :: ro W0 A n bs :: L)) => (⟨⟨W0, g, A, n, c, bs⟩, rfl, ⟨rfl, rfl⟩, Mem.pack (L' := rdL ⟨W0, g, A, n, c, bs⟩ 0) M⟩ : ∃ R : Rd, Ending.returned (.pointer (some ⟨g, 0, none⟩)) = .returned (.pointer (some ⟨R.g, 0, none⟩)) ∧ (R.W0 = W0 ∧ roB R.A R.n = roB A n) ∧ Mem w0 f W (rdr R 0 :: L)))
    clear hb
    go_enter Try.func72, Try.ntmps72
    go_wp2_with (first
      | (with_reducible refine alAd M ?_; clear M; (try clear F); intro w1 M F) | ((with_reducible apply ev_store (M := M)); rfl; rfl; ((conv => lhs; whnf) <;> rfl); rfl; (first | exact siI | exact siR | exact siV | exact siB | exact siSI | exact siSV | exact siW | exact siSR | exact siSO | exact siO); (exact one_all rfl); (exact dl); (exact Nat.le_of_ble_eq_true rfl); clear M; intro w1 M; simp only [SX] at M; (try clear F); have F := fxd M) | ((with_reducible refine goal_drewN (G := fun W => wpList _ _ _ _ _ W) M ?_); clear M; intro w1 M; (try clear F); have F := fxd M) | ((with_reducible refine goal_drew (G := fun W => wpList _ _ _ _ _ W) M ?_); clear M; intro w1 M; (try clear F); have F := fxd M) | ((with_reducible refine isSet (G := fun W => wpList _ _ _ _ _ W) ?_); (with_reducible refine nmd (G := fun W => wpList _ _ _ _ _ W) ?_; clear M; (try clear F); intro w1 M F)))
    (refine nmd (G := fun W => bodyPost _ _ _ _ _ W) ?_; clear M; (try clear F); intro w1 M F)
    go_ret
    exact HF.out _ _ M
  · have h1 : decide (2000 < n) = true := by simp; omega
    have h2 : (2000 : Int) < n := by omega
    have h3 : (2000 : Int) ≤ c := by omega
    have hro : roB A 2000 = roB A n := by unfold roB; rw [if_pos (by omega), if_pos (by omega)]
    replace M : Mem w0 f w (ro W0 A 2000 bs :: L) := M.turn (fun h => ⟨⟨by omega, h.1.2.1, by
      have := h.1.2.2
      cases A with
      | none => simp only at this; omega
      | some ad => exact fun j hj => this j (by omega)⟩, h.2.1, by
      have := h.2.2
      unfold roB at this ⊢
      rw [if_pos (by omega)] at this
      rw [if_pos (by omega)]
      exact this⟩) (by
      show (roB A 2000).Sublist (roB A n)
      unfold roB
      rw [if_pos (by omega), if_pos (by omega)]
      exact List.Sublist.refl _)
    have HF := Lib.hid (fun W g (M : Mem w0 f W (blk g 113 [.slice A 2000 c, .int .i64 0] :: ro W0 A 2000 bs :: L)) => (⟨⟨W0, g, A, 2000, c, bs⟩, rfl, ⟨rfl, hro⟩, Mem.pack (L' := rdL ⟨W0, g, A, 2000, c, bs⟩ 0) M⟩ : ∃ R : Rd, Ending.returned (.pointer (some ⟨g, 0, none⟩)) = .returned (.pointer (some ⟨R.g, 0, none⟩)) ∧ (R.W0 = W0 ∧ roB R.A R.n = roB A n) ∧ Mem w0 f W (rdr R 0 :: L)))
    clear hb
    go_enter Try.func72, Try.ntmps72
    go_wp2_with (first
      | (with_reducible refine alAd M ?_; clear M; (try clear F); intro w1 M F) | ((with_reducible apply ev_store (M := M)); rfl; rfl; ((conv => lhs; whnf) <;> rfl); rfl; (first | exact siI | exact siR | exact siV | exact siB | exact siSI | exact siSV | exact siW | exact siSR | exact siSO | exact siO); (exact one_all rfl); (exact dl); (exact Nat.le_of_ble_eq_true rfl); clear M; intro w1 M; simp only [SX] at M; (try clear F); have F := fxd M) | ((with_reducible refine goal_drewN (G := fun W => wpList _ _ _ _ _ W) M ?_); clear M; intro w1 M; (try clear F); have F := fxd M) | ((with_reducible refine goal_drew (G := fun W => wpList _ _ _ _ _ W) M ?_); clear M; intro w1 M; (try clear F); have F := fxd M) | ((with_reducible refine isSet (G := fun W => wpList _ _ _ _ _ W) ?_); (with_reducible refine nmd (G := fun W => wpList _ _ _ _ _ W) ?_; clear M; (try clear F); intro w1 M F)))
    (refine nmd (G := fun W => bodyPost _ _ _ _ _ W) ?_; clear M; (try clear F); intro w1 M F)
    go_ret
    exact HF.out _ _ M
end Go.Proofs.Ytmidnaafljgbiaa
