/- Parts of the proof, in one text. -/
import Derived.Test.YtomolbhcggaakaaGreatG29
import Derived.Test.YtomolbhcggaakaaGreatG08
/- When a step is ok, by the program's text. Whether one is not ok, or goes nowhere. -/
namespace Go.Proofs.YtomolbhcggaakaaGreat
open Go.RowKit
set_option maxRecDepth 100000

set_option maxHeartbeats 2000000 in
theorem iOpOk_no (o : Opx) (h : inB o.k 1 14 = false) (w : World) : Calls Tryz.prog 131 #[.agg (opArr o)] w fun e w' => e = .returned (.bool (opOk o)) ∧ Below w.heap.size w w' := by
  have hno : opOk o = false := by unfold opOk; rw [h]; simp
  rw [hno]
  clear hno
  have hn : howArr o.k = #[.string ⟨#[]⟩, .string ⟨#[]⟩, .string ⟨#[]⟩, .bool false] := how_none h
  have hf : hasB o.k 86 = false := by
    have e1 : hasOf o.k = ⟨#[]⟩ := by
      have := congrArg (fun a : Array Value => a[1]?) hn
      simpa using this
    unfold hasB
    rw [e1]
    decide
  have M := Mem.nil w
  have HA := Lib.hid (fun V => iHas o 86 V)
  rw [hf] at HA
  have HH := Lib.hid (fun V (L : List Asn) (M : Mem w [] V L) => iHow o M)
  rw [hn] at HH
  have f0 := fieldM0 ⟨#[]⟩ ⟨#[]⟩ ⟨#[]⟩ false
  clear hn hf h
  obtain ⟨k, r, s, to, ⟨vk, vn⟩⟩ := o
  simp only [opArr] at *
  have hz : (vk = 0 ∧ vn = 0) ∨ (vk = 0 ∧ (vn == 0) = false) ∨ (vk == 0) = false := by
    by_cases h1 : vk = 0
    · by_cases h2 : vn = 0
      · exact .inl ⟨h1, h2⟩
      · exact .inr (.inl ⟨h1, by simpa using h2⟩)
    · exact .inr (.inr (by simpa using h1))
  rcases hz with ⟨rfl, rfl⟩ | ⟨rfl, hz⟩ | hz
  all_goals
    go_enter Tryz.func131, Tryz.ntmps131
    go_wp2_with (first
      | ((with_reducible refine goal_alloc (G := fun W => wpList _ _ _ _ _ W) M ?_); clear M; intro w1 M; (try clear F); have F := M.facts; simp only [FX] at F)
      | (go_at_call 132; (apply goal_name (G := fun W => Calls _ _ _ W _)); (repeat (first | with_reducible exact M | with_reducible apply Mem.drew | with_reducible apply Mem.drewN | with_reducible apply Mem.allocD | with_reducible apply Mem.setV | with_reducible apply Mem.setD | with_reducible exact Del.here | with_reducible apply Del.there | with_reducible assumption)); clear M; intro w1 M; (try simp only [LX] at M); (try clear F); have F := M.facts; simp only [FX] at F; with_reducible refine (HA.out _).mono ?_; rintro e w2 ⟨rfl, hb⟩; replace M := M.below hb; clear hb; (try clear F); have F := M.facts; simp only [FX] at F)
      | (go_at_call 135; (apply goal_name (G := fun W => Calls _ _ _ W _)); (repeat (first | with_reducible exact M | with_reducible apply Mem.drew | with_reducible apply Mem.drewN | with_reducible apply Mem.allocD | with_reducible apply Mem.setV | with_reducible apply Mem.setD | with_reducible exact Del.here | with_reducible apply Del.there | with_reducible assumption)); clear M; intro w1 M; (try simp only [LX] at M); (try clear F); have F := M.facts; simp only [FX] at F; with_reducible refine (HH.out _ _ M).mono ?_; clear M; rintro e w2 ⟨rfl, M⟩; (try clear F); have F := M.facts; simp only [FX] at F))
    go_ret
    exact ⟨rfl, M.toBelow⟩
theorem iOpOk (o : Opx) (w : World) : Calls Tryz.prog 131 #[.agg (opArr o)] w fun e w' => e = .returned (.bool (opOk o)) ∧ Below w.heap.size w w' := by
  cases h : inB o.k 1 14 with
  | false => exact iOpOk_no o h w
  | true =>
    cases hb : hasB o.k 86 with
    | true => exact iOpOk_t o h hb w
    | false => exact iOpOk_f o h hb w
end Go.Proofs.YtomolbhcggaakaaGreat
/- When a run is ok, by the program's text. -/
namespace Go.Proofs.YtomolbhcggaakaaGreat
open Go.RowKit
set_option maxRecDepth 100000

theorem bits_has {f : Int} {k : Nat} (h0 : 0 ≤ f) (h1 : f ≤ 15) (hk : k < 4) : (bits BinOp.and IntKind.i64 (f / 2 ^ k) 1 = 0 → hasBit f k = false) ∧ (¬ bits BinOp.and IntKind.i64 (f / 2 ^ k) 1 = 0 → hasBit f k = true) := by
  have key : ∀ f : Fin 16, ∀ k : Fin 4, (bits BinOp.and IntKind.i64 ((f.val : Int) / 2 ^ k.val) 1 = 0 → hasBit f.val k.val = false) ∧ (¬ bits BinOp.and IntKind.i64 ((f.val : Int) / 2 ^ k.val) 1 = 0 → hasBit f.val k.val = true) := by decide
  obtain ⟨f', rfl⟩ := Int.eq_ofNat_of_zero_le h0
  exact key ⟨f', by omega⟩ ⟨k, hk⟩

set_option maxHeartbeats 4000000 in
theorem iSlotsOk_loop (r : Rn) (a : RA) (B : Nat) (w : World) (h4 : r.slots.length = 4) (ha : allOk r.slots = true) (hf : inB r.full 0 15 = true) (hr : ReadsRun w B r a) (hB : B ≤ w.heap.size) :
    Calls Tryz.prog 139 #[.agg (runArr r a)] w fun e w' => e = .returned (.bool (slotsFrom r.full 0 r.slots)) ∧ Below w.heap.size w w' := by
  have hsl := @slotsFrom_cut r.full r.slots 0
  have hv := allOk_cut.1 ha
  obtain ⟨id, at_, slots, full, mail, state, due, links, watched, trap, ⟨wk, wn⟩, turns⟩ := r
  obtain ⟨sA, sC, mA, mC, lA, lC, wA, wC⟩ := a
  simp only at h4 ha hf hsl hv
  have HSL := Lib.hid hsl
  have HV := Lib.hid hv
  clear hsl hv
  obtain ⟨f0, f15⟩ := inB_iff.1 hf
  obtain ⟨b, hb⟩ : ∃ b, b = slotsFrom full 0 slots := ⟨_, rfl⟩
  simp only [runArr]
  rw [← hb]
  have HB := Lib.hid hb
  have hVs := Lib.hid (fun W (hbb : Below w.heap.size w W) => iValsOk slots sA sC B W (hr.slots.below' hbb hB) (Nat.le_trans hB hbb.size))
  rw [ha, h4] at hVs
  rw [h4]
  have P3 := Lib.hid h4
  clear h4 hb ha
  go_enter Tryz.func139, Tryz.ntmps139
  go_wp2_with (first
    | ((with_reducible refine gate_dst (N := 1) rfl ?_); refine box_ev ?hg (N := 1) ?hd (cs := #[.int .i64 id, .int .i64 at_, .slice sA 4 sC, .int .i64 full, .slice mA mail.length mC, .int .i64 state, .int .i64 due, .slice lA links.length lC, .slice wA watched.length wC, .bool trap, .int .i64 wk, .int .i64 wn, .int .i64 turns]) (t := 56) ?hr ?_; (case hd => rfl); (case hg => rfl); (case hr => first | (go_simp; done) | (go_simp; rfl)); intro g w1 hg hbox hW; obtain ⟨hgl, hcell⟩ := hbox)
    | (go_at_call 54; refine (iIn _ _ _ _).mono ?_; rintro e w' ⟨rfl, rfl⟩) | (go_at_call 140; refine (hVs.out _ hW).mono ?_; rintro e w' ⟨rfl, hb1⟩; have hcell1 := keepB hb1 hgl hcell))
  obtain ⟨w2, rfl⟩ : ∃ w2 : World, w2 = w' := ⟨_, rfl⟩
  have hW2 := Lib.hid (below_step hW hb1)
  have hgl2 : g < w2.heap.size := Nat.lt_of_lt_of_le hgl hb1.size
  have hr2 := Lib.hid (hr.below hW2.out hB)
  clear hr hb1 hW hgl hcell
  go_loopg [3, 4, 24] 4 (fun gg _ _ s wr => ∃ k : Nat, k ≤ 4 ∧ 4 - k ≤ gg ∧ s = .int .i64 k ∧ Hid (Below w2.heap.size w2 wr) ∧ Hid (∀ j (hj : j < slots.length), j < k → (hasBit full (0 + j) = true ∨ (slots[j] == Vl.zero) = true)))
  case atStart => exact ⟨0, Nat.zero_le _, by omega, rfl, Below.refl _ _, fun j _ h => absurd h (by omega)⟩
  case round =>
    obtain ⟨k, hk, hgg, rfl, BW, hn⟩ := hrel
    have hcell2 := keepB BW.out hgl2 hcell1
    have hgr : g < wr.heap.size := Nat.lt_of_lt_of_le hgl2 BW.out.size
    have hr3 := Lib.hid (hr2.out.below BW.out (Nat.le_trans hB hW2.out.size))
    by_cases hlt : k < 4
    · have hlt' : k < slots.length := by rw [P3.out]; exact hlt
      obtain ⟨ad, rfl, hab, hc1, hc2⟩ := hr3.out.slots.val hlt'
      have har : (ad.add (k * 2)).block < wr.heap.size := by rw [block_of_add]; have := hW2.out.size; have := BW.out.size; omega
      have hx : Hid (¬ (hasBit full (0 + (k : Int)) = true ∨ (slots[k] == Vl.zero) = true) → false = b) := by
        intro h1
        rw [HB.out]
        cases hq : slotsFrom full 0 slots with
        | false => rfl
        | true => exact absurd (HSL.out.1 hq k hlt').2 h1
      have hl2 : Hid ((hasBit full (0 + (k : Int)) = true ∨ (slots[k] == Vl.zero) = true) → ∀ j (hj : j < slots.length), j < k + 1 → (hasBit full (0 + (j : Int)) = true ∨ (slots[j] == Vl.zero) = true)) := fun h1 j hj hjk => by
        by_cases e : j = k
        · subst e; exact h1
        · exact hn j hj (by omega)
      rw [Int.zero_add] at hx hl2
      generalize slots[k] = x at hc1 hc2 hx hl2
      obtain ⟨xk, xn⟩ := x
      go_wp2
      · have e1 : xk = 0 := by assumption
        have e2 : xn = 0 := by assumption
        have hz := Lib.hid (hl2.out (.inr (by rw [e1, e2]; rfl)))
        clear e1 e2
        go_roundg (4 - (k + 1))
        case measure => omega
        case rel => exact ⟨k + 1, by omega, by omega, by go_num, by repeat (first | exact BW.out | apply below_new | refine below_set ?_ BW.out.size), hz.out⟩
      · have e0 : bits BinOp.and IntKind.i64 (full / 2 ^ k) 1 = 0 := by assumption
        have e2 : ¬ xn = 0 := by assumption
        have hz := Lib.hid (hx.out (fun h => not_n (p := True) ((bits_has f0 f15 hlt).1 e0) e2 ⟨trivial, h⟩))
        clear e0 e2
        go_ret
        exact ⟨ret_bool hz.out, below_step hW2.out (by repeat (first | exact BW.out | apply below_new | refine below_set ?_ BW.out.size))⟩
      · have e0 : bits BinOp.and IntKind.i64 (full / 2 ^ k) 1 = 0 := by assumption
        have e1 : ¬ xk = 0 := by assumption
        have hz := Lib.hid (hx.out (fun h => not_k (p := True) ((bits_has f0 f15 hlt).1 e0) e1 ⟨trivial, h⟩))
        clear e0 e1
        go_ret
        exact ⟨ret_bool hz.out, below_step hW2.out (by repeat (first | exact BW.out | apply below_new | refine below_set ?_ BW.out.size))⟩
      · have e0 : ¬ bits BinOp.and IntKind.i64 (full / 2 ^ k) 1 = 0 := by assumption
        have hz := Lib.hid (hl2.out (.inl ((bits_has f0 f15 hlt).2 e0)))
        clear e0
        go_roundg (4 - (k + 1))
        case measure => omega
        case rel => exact ⟨k + 1, by omega, by omega, by go_num, by repeat (first | exact BW.out | apply below_new | refine below_set ?_ BW.out.size), hz.out⟩
    · have hk4 : k = 4 := by omega
      subst hk4
      have hz : Hid (true = b) := by
        show true = b
        rw [HB.out]
        exact (HSL.out.2 (fun j hj => ⟨HV.out j hj, hn.out j hj (by have := P3.out; omega)⟩)).symm
      clear hn
      go_wp2
      go_ret
      exact ⟨ret_bool hz.out, below_step hW2.out BW.out⟩

/-- Slots, as the program looks at them. -/
def slotsB (r : Rn) : Bool := decide (r.slots.length = 4) && allOk r.slots && inB r.full 0 15 && slotsFrom r.full 0 r.slots
set_option maxHeartbeats 4000000 in
theorem iSlotsOk (r : Rn) (a : RA) (B : Nat) (w : World) (hr : ReadsRun w B r a) (hB : B ≤ w.heap.size) :
    Calls Tryz.prog 139 #[.agg (runArr r a)] w fun e w' => e = .returned (.bool (slotsB r)) ∧ Below w.heap.size w w' := by
  by_cases h4 : r.slots.length = 4
  · cases ha : allOk r.slots with
    | true =>
      cases hf : inB r.full 0 15 with
      | true =>
        have : slotsB r = slotsFrom r.full 0 r.slots := by simp [slotsB, h4, ha, hf]
        rw [this]
        exact iSlotsOk_loop r a B w h4 ha hf hr hB
      | false =>
        have : slotsB r = false := by simp [slotsB, hf]
        rw [this]
        obtain ⟨id, at_, slots, full, mail, state, due, links, watched, trap, ⟨wk, wn⟩, turns⟩ := r
        obtain ⟨sA, sC, mA, mC, lA, lC, wA, wC⟩ := a
        simp only at h4 ha hf
        have hVs := Lib.hid (fun W (hbb : Below w.heap.size w W) => iValsOk slots sA sC B W (hr.slots.below' hbb hB) (Nat.le_trans hB hbb.size))
        rw [ha, h4] at hVs
        simp only [runArr]
        rw [h4]
        clear h4 ha hr this
        go_enter Tryz.func139, Tryz.ntmps139
        go_wp2_with (first
          | ((with_reducible refine gate_dst (N := 1) rfl ?_); refine box_ev ?hg (N := 1) ?hd (cs := #[.int .i64 id, .int .i64 at_, .slice sA 4 sC, .int .i64 full, .slice mA mail.length mC, .int .i64 state, .int .i64 due, .slice lA links.length lC, .slice wA watched.length wC, .bool trap, .int .i64 wk, .int .i64 wn, .int .i64 turns]) (t := 56) ?hr ?_; (case hd => rfl); (case hg => rfl); (case hr => first | (go_simp; done) | (go_simp; rfl)); intro g w1 hg hbox hW; obtain ⟨hgl, hcell⟩ := hbox)
          | (go_at_call 54; refine (iIn _ _ _ _).mono ?_; rintro e w' ⟨rfl, rfl⟩) | (go_at_call 140; refine (hVs.out _ hW).mono ?_; rintro e w' ⟨rfl, hb1⟩; have hcell1 := keepB hb1 hgl hcell))
        go_ret
        exact ⟨rfl, below_step hW hb1⟩
    | false =>
      have : slotsB r = false := by simp [slotsB, ha]
      rw [this]
      obtain ⟨id, at_, slots, full, mail, state, due, links, watched, trap, ⟨wk, wn⟩, turns⟩ := r
      obtain ⟨sA, sC, mA, mC, lA, lC, wA, wC⟩ := a
      simp only at h4 ha
      have hVs := Lib.hid (fun W (hbb : Below w.heap.size w W) => iValsOk slots sA sC B W (hr.slots.below' hbb hB) (Nat.le_trans hB hbb.size))
      rw [ha, h4] at hVs
      simp only [runArr]
      rw [h4]
      clear h4 ha hr this
      go_enter Tryz.func139, Tryz.ntmps139
      go_wp2_with (first
        | ((with_reducible refine gate_dst (N := 1) rfl ?_); refine box_ev ?hg (N := 1) ?hd (cs := #[.int .i64 id, .int .i64 at_, .slice sA 4 sC, .int .i64 full, .slice mA mail.length mC, .int .i64 state, .int .i64 due, .slice lA links.length lC, .slice wA watched.length wC, .bool trap, .int .i64 wk, .int .i64 wn, .int .i64 turns]) (t := 56) ?hr ?_; (case hd => rfl); (case hg => rfl); (case hr => first | (go_simp; done) | (go_simp; rfl)); intro g w1 hg hbox hW; obtain ⟨hgl, hcell⟩ := hbox)
        | (go_at_call 54; refine (iIn _ _ _ _).mono ?_; rintro e w' ⟨rfl, rfl⟩) | (go_at_call 140; refine (hVs.out _ hW).mono ?_; rintro e w' ⟨rfl, hb1⟩; have hcell1 := keepB hb1 hgl hcell))
      go_ret
      exact ⟨rfl, below_step hW hb1⟩
  · have : slotsB r = false := by simp [slotsB, h4]
    rw [this]
    obtain ⟨id, at_, slots, full, mail, state, due, links, watched, trap, ⟨wk, wn⟩, turns⟩ := r
    obtain ⟨sA, sC, mA, mC, lA, lC, wA, wC⟩ := a
    simp only [runArr] at h4 ⊢
    generalize slots.length = ns at h4
    clear hr this
    go_enter Tryz.func139, Tryz.ntmps139
    go_wp2
    go_ret
    exact ⟨rfl, below_box _ _⟩
end Go.Proofs.YtomolbhcggaakaaGreat
