/- Parts of the proof, in one text. -/
import Derived.LoopN
import Derived.Test.YtmidnaafljgbiaaB21
import Derived.Test.YtmidnaafljgbiaaB02
/- Numbers read back from their texts. -/
namespace Go.Proofs.Ytmidnaafljgbiaa
open Go.RowKit
set_option maxRecDepth 100000

def decTab : List (ByteArray × Int × Bool) := [(⟨#[48]⟩, 0, true), (⟨#[49]⟩, 1, true), (⟨#[50]⟩, 2, true), (⟨#[51]⟩, 3, true), (⟨#[52]⟩, 4, true), (⟨#[53]⟩, 5, true), (⟨#[54]⟩, 6, true), (⟨#[55]⟩, 7, true), (⟨#[56]⟩, 8, true), (⟨#[57]⟩, 9, true), (⟨#[49, 48]⟩, 10, true), (⟨#[110, 48]⟩, 0, false), (⟨#[110, 49]⟩, 0, false), (⟨#[110, 50]⟩, 0, false), (⟨#[110, 51]⟩, 0, false), (⟨#[110, 52]⟩, 0, false), (⟨#[97, 48]⟩, 0, false), (⟨#[97, 49]⟩, 0, false), (⟨#[97, 50]⟩, 0, false), (⟨#[97, 51]⟩, 0, false), (⟨#[97, 52]⟩, 0, false)]
set_option maxHeartbeats 4000000 in
theorem sDecW (s : ByteArray) (n : Int) (b : Bool) (h : (s, n, b) ∈ decTab) (w : World) : Calls Try.prog 161 #[.string s] w fun e w' => e = .returned (.tuple #[.int .i64 n, .bool b]) ∧ w = w' := by
  have HI := Lib.hid (fun n V => sIn n 1 2 V)
  simp only [decTab, List.mem_cons, List.not_mem_nil, or_false, Prod.mk.injEq] at h
  rcases h with ⟨rfl, rfl, rfl⟩ | ⟨rfl, rfl, rfl⟩ | ⟨rfl, rfl, rfl⟩ | ⟨rfl, rfl, rfl⟩ | ⟨rfl, rfl, rfl⟩ | ⟨rfl, rfl, rfl⟩ | ⟨rfl, rfl, rfl⟩ | ⟨rfl, rfl, rfl⟩ | ⟨rfl, rfl, rfl⟩ | ⟨rfl, rfl, rfl⟩ | ⟨rfl, rfl, rfl⟩ | ⟨rfl, rfl, rfl⟩ | ⟨rfl, rfl, rfl⟩ | ⟨rfl, rfl, rfl⟩ | ⟨rfl, rfl, rfl⟩ | ⟨rfl, rfl, rfl⟩ | ⟨rfl, rfl, rfl⟩ | ⟨rfl, rfl, rfl⟩ | ⟨rfl, rfl, rfl⟩ | ⟨rfl, rfl, rfl⟩ | ⟨rfl, rfl, rfl⟩
  · go_enter Try.func161, Try.ntmps161
    go_wp2_with (go_at_call 80; refine (HI.out _ _).mono ?_; rintro e w2 ⟨rfl, rfl⟩)
    refine wp_loop_rounds 2 ?_
    rw [rounds_succ]
    go_wp2
    rw [rounds_succ]
    go_wp2
    go_ret2
    exact ⟨rfl, rfl⟩
  · go_enter Try.func161, Try.ntmps161
    go_wp2_with (go_at_call 80; refine (HI.out _ _).mono ?_; rintro e w2 ⟨rfl, rfl⟩)
    refine wp_loop_rounds 2 ?_
    rw [rounds_succ]
    go_wp2
    rw [rounds_succ]
    go_wp2
    go_ret2
    exact ⟨rfl, rfl⟩
  · go_enter Try.func161, Try.ntmps161
    go_wp2_with (go_at_call 80; refine (HI.out _ _).mono ?_; rintro e w2 ⟨rfl, rfl⟩)
    refine wp_loop_rounds 2 ?_
    rw [rounds_succ]
    go_wp2
    rw [rounds_succ]
    go_wp2
    go_ret2
    exact ⟨rfl, rfl⟩
  · go_enter Try.func161, Try.ntmps161
    go_wp2_with (go_at_call 80; refine (HI.out _ _).mono ?_; rintro e w2 ⟨rfl, rfl⟩)
    refine wp_loop_rounds 2 ?_
    rw [rounds_succ]
    go_wp2
    rw [rounds_succ]
    go_wp2
    go_ret2
    exact ⟨rfl, rfl⟩
  · go_enter Try.func161, Try.ntmps161
    go_wp2_with (go_at_call 80; refine (HI.out _ _).mono ?_; rintro e w2 ⟨rfl, rfl⟩)
    refine wp_loop_rounds 2 ?_
    rw [rounds_succ]
    go_wp2
    rw [rounds_succ]
    go_wp2
    go_ret2
    exact ⟨rfl, rfl⟩
  · go_enter Try.func161, Try.ntmps161
    go_wp2_with (go_at_call 80; refine (HI.out _ _).mono ?_; rintro e w2 ⟨rfl, rfl⟩)
    refine wp_loop_rounds 2 ?_
    rw [rounds_succ]
    go_wp2
    rw [rounds_succ]
    go_wp2
    go_ret2
    exact ⟨rfl, rfl⟩
  · go_enter Try.func161, Try.ntmps161
    go_wp2_with (go_at_call 80; refine (HI.out _ _).mono ?_; rintro e w2 ⟨rfl, rfl⟩)
    refine wp_loop_rounds 2 ?_
    rw [rounds_succ]
    go_wp2
    rw [rounds_succ]
    go_wp2
    go_ret2
    exact ⟨rfl, rfl⟩
  · go_enter Try.func161, Try.ntmps161
    go_wp2_with (go_at_call 80; refine (HI.out _ _).mono ?_; rintro e w2 ⟨rfl, rfl⟩)
    refine wp_loop_rounds 2 ?_
    rw [rounds_succ]
    go_wp2
    rw [rounds_succ]
    go_wp2
    go_ret2
    exact ⟨rfl, rfl⟩
  · go_enter Try.func161, Try.ntmps161
    go_wp2_with (go_at_call 80; refine (HI.out _ _).mono ?_; rintro e w2 ⟨rfl, rfl⟩)
    refine wp_loop_rounds 2 ?_
    rw [rounds_succ]
    go_wp2
    rw [rounds_succ]
    go_wp2
    go_ret2
    exact ⟨rfl, rfl⟩
  · go_enter Try.func161, Try.ntmps161
    go_wp2_with (go_at_call 80; refine (HI.out _ _).mono ?_; rintro e w2 ⟨rfl, rfl⟩)
    refine wp_loop_rounds 2 ?_
    rw [rounds_succ]
    go_wp2
    rw [rounds_succ]
    go_wp2
    go_ret2
    exact ⟨rfl, rfl⟩
  · go_enter Try.func161, Try.ntmps161
    go_wp2_with (go_at_call 80; refine (HI.out _ _).mono ?_; rintro e w2 ⟨rfl, rfl⟩)
    refine wp_loop_rounds 3 ?_
    rw [rounds_succ]
    go_wp2
    rw [rounds_succ]
    go_wp2
    rw [rounds_succ]
    go_wp2
    go_ret2
    exact ⟨rfl, rfl⟩
  · go_enter Try.func161, Try.ntmps161
    go_wp2_with (go_at_call 80; refine (HI.out _ _).mono ?_; rintro e w2 ⟨rfl, rfl⟩)
    refine wp_loop_rounds 1 ?_
    rw [rounds_succ]
    go_wp2
    go_ret2
    exact ⟨rfl, rfl⟩
  · go_enter Try.func161, Try.ntmps161
    go_wp2_with (go_at_call 80; refine (HI.out _ _).mono ?_; rintro e w2 ⟨rfl, rfl⟩)
    refine wp_loop_rounds 1 ?_
    rw [rounds_succ]
    go_wp2
    go_ret2
    exact ⟨rfl, rfl⟩
  · go_enter Try.func161, Try.ntmps161
    go_wp2_with (go_at_call 80; refine (HI.out _ _).mono ?_; rintro e w2 ⟨rfl, rfl⟩)
    refine wp_loop_rounds 1 ?_
    rw [rounds_succ]
    go_wp2
    go_ret2
    exact ⟨rfl, rfl⟩
  · go_enter Try.func161, Try.ntmps161
    go_wp2_with (go_at_call 80; refine (HI.out _ _).mono ?_; rintro e w2 ⟨rfl, rfl⟩)
    refine wp_loop_rounds 1 ?_
    rw [rounds_succ]
    go_wp2
    go_ret2
    exact ⟨rfl, rfl⟩
  · go_enter Try.func161, Try.ntmps161
    go_wp2_with (go_at_call 80; refine (HI.out _ _).mono ?_; rintro e w2 ⟨rfl, rfl⟩)
    refine wp_loop_rounds 1 ?_
    rw [rounds_succ]
    go_wp2
    go_ret2
    exact ⟨rfl, rfl⟩
  · go_enter Try.func161, Try.ntmps161
    go_wp2_with (go_at_call 80; refine (HI.out _ _).mono ?_; rintro e w2 ⟨rfl, rfl⟩)
    refine wp_loop_rounds 1 ?_
    rw [rounds_succ]
    go_wp2
    go_ret2
    exact ⟨rfl, rfl⟩
  · go_enter Try.func161, Try.ntmps161
    go_wp2_with (go_at_call 80; refine (HI.out _ _).mono ?_; rintro e w2 ⟨rfl, rfl⟩)
    refine wp_loop_rounds 1 ?_
    rw [rounds_succ]
    go_wp2
    go_ret2
    exact ⟨rfl, rfl⟩
  · go_enter Try.func161, Try.ntmps161
    go_wp2_with (go_at_call 80; refine (HI.out _ _).mono ?_; rintro e w2 ⟨rfl, rfl⟩)
    refine wp_loop_rounds 1 ?_
    rw [rounds_succ]
    go_wp2
    go_ret2
    exact ⟨rfl, rfl⟩
  · go_enter Try.func161, Try.ntmps161
    go_wp2_with (go_at_call 80; refine (HI.out _ _).mono ?_; rintro e w2 ⟨rfl, rfl⟩)
    refine wp_loop_rounds 1 ?_
    rw [rounds_succ]
    go_wp2
    go_ret2
    exact ⟨rfl, rfl⟩
  · go_enter Try.func161, Try.ntmps161
    go_wp2_with (go_at_call 80; refine (HI.out _ _).mono ?_; rintro e w2 ⟨rfl, rfl⟩)
    refine wp_loop_rounds 1 ?_
    rw [rounds_succ]
    go_wp2
    go_ret2
    exact ⟨rfl, rfl⟩
end Go.Proofs.Ytmidnaafljgbiaa
/- A region that draws its order and ends with a store: as in Reg, but behind the last operation nothing is asked of the memory; nothing of the program. -/
namespace Go.Proofs.Ytmidnaafljgbiaa
open Go
section
variable {P : Program} {ops : Array Oper} {Q : Exit → Act → World → Prop} {md : Region.Mode} {S : World → Prop} {t : Nat}
/-- What is listed has all listed that it waits for. -/
def Closed (md : Region.Mode) (ops : Array Oper) (listed : Array Bool) : Prop := ∀ (j : Nat) (o : Oper), ops[j]? = some o → listed.getD j true = true → ∀ e ∈ o.after, Region.binds md e = true → listed.getD e.on false = true
theorem Closed.take {listed : Array Bool} (h : Closed md ops listed) {j : Nat} (hj : j ∈ Region.ready md ops listed) : Closed md ops (listed.setIfInBounds j true) := by
  intro k o ho hk e he hb
  by_cases hkj : k = j
  · subst hkj
    obtain ⟨_, o', ho', hall⟩ := mem_ready.1 hj
    rw [ho] at ho'
    injection ho' with ho'
    subst ho'
    exact getD_set_true (hall e he hb)
  · rw [getD_set_ne true (Ne.symm hkj)] at hk
    exact getD_set_true (h k o ho hk e he hb)
/-- The one waits for the other, through others. -/
def depB (md : Region.Mode) (ops : Array Oper) : Nat → Nat → Nat → Bool
  | 0, _, _ => false
  | n + 1, a, i => match ops[a]? with
    | none => false
    | some o => o.after.any fun e => Region.binds md e && (e.on == i || depB md ops n e.on i)
theorem getD_both {listed : Array Bool} {i : Nat} (h : listed.getD i false = true) : listed.getD i true = true := by
  by_cases hi : i < listed.size
  · simpa [hi] using h
  · simp [hi] at h
theorem dep_listed {listed : Array Bool} (hc : Closed md ops listed) {i : Nat} : ∀ (n a : Nat) (o : Oper), ops[a]? = some o → depB md ops n a i = true → (∀ e ∈ o.after, Region.binds md e = true → listed.getD e.on false = true) → listed.getD i false = true := by
  intro n
  induction n with
  | zero => intro a o _ h; cases h
  | succ n ih =>
    intro a o ho h hl
    simp only [depB, ho] at h
    rw [Array.any_eq_true'] at h
    obtain ⟨e, he, h⟩ := h
    simp only [Bool.and_eq_true, Bool.or_eq_true, beq_iff_eq] at h
    have h1 := hl e he h.1
    rcases h.2 with h2 | h2
    · rw [← h2]; exact h1
    · cases hb : ops[e.on]? with
      | none =>
        cases n with
        | zero => cases h2
        | succ n => simp [depB, hb] at h2
      | some o2 => exact ih e.on o2 hb h2 (hc e.on o2 hb (getD_both h1))
theorem last_waits {listed : Array Bool} (hc : Closed md ops listed) {n i : Nat} (hd : depB md ops n t i = true) (hi : listed.getD i true = false) : t ∉ Region.ready md ops listed := by
  intro ht
  obtain ⟨_, o, ho, hall⟩ := mem_ready.1 ht
  have h := getD_both (dep_listed hc n t o ho hd hall)
  rw [hi] at h
  cases h
/-- Whatever order is picked: S holds behind every operation but the last. -/
def wpAnyE (P : Program) (md : Region.Mode) (ops : Array Oper) (Q : Exit → Act → World → Prop) (S : World → Prop) (t : Nat) : Nat → Array Bool → Act → World → Prop
  | 0, listed, a, w => Region.ready md ops listed = [] ∧ Q .normal a w
  | fuel + 1, listed, a, w =>
    (Region.ready md ops listed = [] → Q .normal a w) ∧
    ∀ i ∈ Region.ready md ops listed, wpOp P ops Q i (fun a' w' => (i ≠ t → S w') ∧ wpAnyE P md ops Q S t fuel (listed.setIfInBounds i true) a' w') a w
theorem wpAny_of_E : ∀ (fuel : Nat) (listed : Array Bool) (a : Act) (w : World), wpAnyE P md ops Q S t fuel listed a w → wpAny P md ops Q fuel listed a w
  | 0, _, _, _, h => h
  | fuel + 1, _, _, _, h => ⟨h.1, fun i hi => wpOp_mono (fun a' w' h' => wpAny_of_E fuel _ a' w' h'.2) (h.2 i hi)⟩
theorem wpAnyE_first {i : Nat} {oi : Oper} {v : Value} {n : Nat} (hi : ops[i]? = some oi) (hsel : ∀ (j : Nat) (o : Oper) cs b, ops[j]? = some o → o.op ≠ .select cs b)
    (hQ : ∀ c a w, Q (.panic c) (a.put oi.dst v) w → Q (.panic c) a w) (hd : depB md ops n t i = true) :
    ∀ (fuel : Nat) (listed : Array Bool) (a : Act) (w : World), Closed md ops listed →
      (∀ j oj, ops[j]? = some oj → j ≠ i → listed.getD j true = false → (∀ e ∈ oj.after, Region.binds md e = true → e.on ≠ i) → oi.apart ops oj = true) →
      i ∈ Region.ready md ops listed → YieldsIf P ops S oi v a → S w →
      wpAnyE P md ops Q S t fuel (listed.setIfInBounds i true) (a.put oi.dst v) w → wpAnyE P md ops Q S t (fuel + 1) listed a w := by
  intro fuel
  induction fuel with
  | zero =>
    intro listed a w hc _ hr hy hS H
    refine ⟨fun h => (by rw [h] at hr; cases hr), fun j hj => ?_⟩
    by_cases hji : j = i
    · subst hji; exact hy.wpOp hi hS ⟨fun _ => hS, H⟩
    · have := ready_mono hj hji
      rw [H.1] at this
      cases this
  | succ fuel ih =>
    intro listed a w hc hfree hr hy hS H
    refine ⟨fun h => (by rw [h] at hr; cases hr), fun j hj => ?_⟩
    have hjt : j ≠ t := fun e => last_waits hc hd (mem_ready.1 hr).1 (e ▸ hj)
    by_cases hji : j = i
    · subst hji; exact hy.wpOp hi hS ⟨fun _ => hS, H⟩
    · have h1 := H.2 j (ready_mono hj hji)
      obtain ⟨hjun, oj, hoj, hall⟩ := mem_ready.1 hj
      have hnot : ∀ e ∈ oj.after, Region.binds md e = true → e.on ≠ i := fun e he hb heq => by
        have h1 := hall e he hb
        have h0 := (mem_ready.1 hr).1
        rw [heq] at h1
        rcases Nat.lt_or_ge i listed.size with h' | h'
        · simp [h'] at h0 h1; rw [h0] at h1; cases h1
        · simp [Array.getElem?_eq_none h'] at h1
      have h2 := wpOp_putIf hoj (hfree j oj hoj hji hjun hnot) (fun cs b => hsel i oi cs b hi) (fun cs b => hsel j oj cs b hoj) hQ hy h1
      have hfree' : ∀ k ok, ops[k]? = some ok → k ≠ i → (listed.setIfInBounds j true).getD k true = false →
          (∀ e ∈ ok.after, Region.binds md e = true → e.on ≠ i) → oi.apart ops ok = true := fun k ok hk hki hun hno => by
        refine hfree k ok hk hki ?_ hno
        by_cases hjk : j = k
        · subst hjk; exact hjun
        · rw [getD_set_ne true hjk] at hun; exact hun
      refine wpOp_mono (fun a' w' h3 => ⟨h3.2.1, ih (listed.setIfInBounds j true) a' w' (hc.take hj) hfree' (ready_mono hr (Ne.symm hji)) h3.1 (h3.2.1 hjt) ?_⟩) h2
      rw [Array.setIfInBounds_comm _ _ hji]
      exact h3.2.2
theorem wpAnyE_done {listed : Array Bool} {a : Act} {w : World} (hr : Region.ready md ops listed = []) (h : Q .normal a w) : ∀ fuel, wpAnyE P md ops Q S t fuel listed a w
  | 0 => ⟨hr, h⟩
  | _ + 1 => ⟨fun _ => h, by rw [hr]; simp⟩
theorem beginE {id : Nat} {a : Act} {w : World} (t : Nat) (hm : P.follows .mixedOrders = true) (hQ : Calm Q) (hS : S w.drew)
    (h : Calm Q → S w.drew → wpAnyE P .any ops Q S t ops.size (Array.replicate ops.size false) a w.drew) : (Code.region id ops true).wp P Q a w :=
  wp_region_any hm (wpAny_of_E _ _ _ _ (h hQ hS))
def closedB (md : Region.Mode) (ops : Array Oper) (listed : Array Bool) : Bool := (List.range ops.size).all fun j => !(listed.getD j true) || match ops[j]? with
  | none => true
  | some o => o.after.all fun e => !Region.binds md e || listed.getD e.on false
theorem closed_of {listed : Array Bool} (h : closedB md ops listed = true) : Closed md ops listed := by
  intro j o ho hl e he hb
  unfold closedB at h
  rw [List.all_eq_true] at h
  have h1 := h j (List.mem_range.2 (Array.getElem?_eq_some_iff.1 ho).1)
  rw [hl, ho] at h1
  simp only [Bool.not_true, Bool.false_or] at h1
  have h2 := Array.all_eq_true_iff_forall_mem.1 h1 e he
  rw [hb] at h2
  simpa using h2
theorem tkYE {oi : Oper} {v : Value} {fuel : Nat} {listed : Array Bool} {a a' : Act} {w : World} {d : Tmp} (hQ : Calm Q) (hS : S w) (i : Nat)
    (h : wpAnyE P md ops Q S t fuel (listed.setIfInBounds i true) a' w) (hi : ops[i]? = some oi := by exact rfl) (hd : oi.dst = some d := by exact rfl)
    (hs : (Region.noSelect ops && Region.free md ops listed i && (Region.ready md ops listed).contains i) = true := by kernel_rfl) (hc : (closedB md ops listed && depB md ops 8 t i) = true := by kernel_rfl) (hw : Region.wanted oi (yielded ops a.tmps) = true := by kernel_rfl)
    (hy : ∀ w, S w → (execOp a.eval oi).run P w = .ok (.value v) w := by (intro W hSw; (try dsimp only at hSw); go_simp; (try with_reducible rfl)))
    (e : a.put (some d) v = a' := by ((try (conv => lhs; simp only [AX])) <;> rfl)) : wpAnyE P md ops Q S t (fuel + 1) listed a w := by
  subst e
  rw [← hd] at h
  simp only [Bool.and_eq_true] at hs hc
  exact wpAnyE_first hi (Region.noSelect_spec hs.1.1) (fun c a w => by rw [hd]; exact hQ c a _ _ w) hc.2 fuel listed a w (closed_of hc.1) (Region.free_spec hi hs.1.2) (by simpa using hs.2) (.inl ⟨hw, hy⟩) hS h
theorem stpE {oi : Oper} {fuel : Nat} {listed : Array Bool} {a : Act} {w : World} {op : Op} {d : Option Tmp} {ty : TypeId} {pos : String} {af : Array Edge} {gd : Option (Nat × Bool)} (i : Nat)
    (h : ∀ K' : Act → World → Prop, Shut (∀ a w, S w → (S w → wpAnyE P md ops Q S t fuel (listed.setIfInBounds i true) a w) → K' a w) → Oper.wp P ⟨d, op, ty, pos, af, gd⟩ a w K' Q)
    (hi : ops[i]? = some oi := by exact rfl) (he : oi = ⟨d, op, ty, pos, af, gd⟩ := by exact rfl) (hr : Region.ready md ops listed = [i] := by kernel_rfl) (hw : Region.wanted oi (yielded ops a.tmps) = true := by kernel_rfl) : wpAnyE P md ops Q S t (fuel + 1) listed a w := by
  subst he
  refine ⟨fun h0 => (by rw [hr] at h0; cases h0), fun j hj => ?_⟩
  rw [hr] at hj
  obtain rfl := List.mem_singleton.1 hj
  exact wpOp_step hi (fun K' hK => by rw [if_pos hw]; exact h K' (fun a w hS hW => hK a w ⟨fun _ => hS, hW hS⟩))
/-- The last one. -/
theorem stpT {oi : Oper} {fuel : Nat} {listed : Array Bool} {a : Act} {w : World} {op : Op} {d : Option Tmp} {ty : TypeId} {pos : String} {af : Array Edge} {gd : Option (Nat × Bool)}
    (h : ∀ K' : Act → World → Prop, Shut (∀ a w, Q .normal a w → K' a w) → Oper.wp P ⟨d, op, ty, pos, af, gd⟩ a w K' Q)
    (hi : ops[t]? = some oi := by exact rfl) (he : oi = ⟨d, op, ty, pos, af, gd⟩ := by exact rfl) (hr : Region.ready md ops listed = [t] := by kernel_rfl) (hr2 : Region.ready md ops (listed.setIfInBounds t true) = [] := by kernel_rfl) (hw : Region.wanted oi (yielded ops a.tmps) = true := by kernel_rfl) : wpAnyE P md ops Q S t (fuel + 1) listed a w := by
  subst he
  refine ⟨fun h0 => (by rw [hr] at h0; cases h0), fun j hj => ?_⟩
  rw [hr] at hj
  obtain rfl := List.mem_singleton.1 hj
  exact wpOp_step hi (fun K' hK => by rw [if_pos hw]; exact h K' (fun a w hW => hK a w ⟨fun e => absurd rfl e, wpAnyE_done hr2 hW fuel⟩))
end
end Go.Proofs.Ytmidnaafljgbiaa
/- The text of a small value. -/
namespace Go.Proofs.Ytmidnaafljgbiaa
open Go.RowKit
set_option maxRecDepth 100000

section
variable {P : Program} {ops : Array Oper} {Q : Exit → Act → World → Prop} {md : Region.Mode} {S : World → Prop} {fuel : Nat} {listed : Array Bool} {a : Act} {w : World}
/-- One of two that may come up comes up. -/
theorem stpTwo {oi oj : Oper} {op op2 : Op} {d d2 : Option Tmp} {ty ty2 : TypeId} {pos pos2 : String} {af af2 : Array Edge} {gd gd2 : Option (Nat × Bool)} (i j : Nat)
    (h : ∀ K' : Act → World → Prop, Shut (∀ a w, S w → (S w → wpAnyH P md ops Q S fuel (listed.setIfInBounds i true) a w) → K' a w) → Oper.wp P ⟨d, op, ty, pos, af, gd⟩ a w K' Q)
    (h2 : ∀ K' : Act → World → Prop, Shut (∀ a w, S w → (S w → wpAnyH P md ops Q S fuel (listed.setIfInBounds j true) a w) → K' a w) → Oper.wp P ⟨d2, op2, ty2, pos2, af2, gd2⟩ a w K' Q)
    (hi : ops[i]? = some oi := by exact rfl) (he : oi = ⟨d, op, ty, pos, af, gd⟩ := by exact rfl) (hj : ops[j]? = some oj := by exact rfl) (he2 : oj = ⟨d2, op2, ty2, pos2, af2, gd2⟩ := by exact rfl) (hr : Region.ready md ops listed = [i, j] := by kernel_rfl) (hw : Region.wanted oi (yielded ops a.tmps) = true := by kernel_rfl) (hw2 : Region.wanted oj (yielded ops a.tmps) = true := by kernel_rfl) : wpAnyH P md ops Q S (fuel + 1) listed a w := by
  subst he he2
  exact wpAnyH_ready hr (by simp) (AllReadyH.cons hi (fun K hK => by rw [if_pos hw]; exact h K hK) (AllReadyH.cons hj (fun K hK => by rw [if_pos hw2]; exact h2 K hK) AllReadyH.nil))
end
theorem val_ok {k : Int} {m : Nat} (hk : k = 1 ∨ k = 2) (hm : m ≤ 4) : valOk ⟨k, m⟩ = true := by
  have h : m = 0 ∨ m = 1 ∨ m = 2 ∨ m = 3 ∨ m = 4 := by omega
  rcases hk with rfl | rfl <;> rcases h with rfl | rfl | rfl | rfl | rfl <;> decide
set_option maxHeartbeats 2000000 in
theorem sValText (k : Int) (m : Nat) (hk : k = 1 ∨ k = 2) (hm : m ≤ 4) (w : World) : Calls Try.prog 172 #[.agg #[.int .i64 k, .int .i64 m]] w fun e w' => e = .returned (sv (valS k m)) ∧ Below w.heap.size w w' := by
  have M := Mem.nil w
  have HV := Lib.hid (fun W => sValOk ⟨k, m⟩ W)
  rw [val_ok hk hm] at HV
  obtain ⟨D, hD⟩ : ∃ D : ByteArray, D = ⟨(decS m).toArray⟩ := ⟨_, rfl⟩
  have HD : Hid (∀ W, Calls Try.prog 173 #[.int .i64 m] W fun e w' => e = .returned (.string D) ∧ Below W.heap.size W w') := fun W => by rw [hD]; exact sDec m (by omega) W
  have hz : (9223372036854775807 < 1 + D.size) = False := by
    have : D.size ≤ 2 := by
      rw [hD]
      show (decS m).toArray.size ≤ 2
      unfold decS
      split <;> simp
    exact eq_false (by omega)
  have HQ1 : k = 1 → Hid (∀ U : World, Below w.heap.size w U → Ending.returned (.string ((⟨#[110]⟩ : ByteArray) ++ D)) = .returned (sv (valS k m)) ∧ Below w.heap.size w U) := fun e U h => ⟨by subst e; rw [hD, show (⟨#[110]⟩ : ByteArray) = ⟨[110].toArray⟩ from rfl, sv_app]; rfl, h⟩
  have HQ2 : k = 2 → Hid (∀ U : World, Below w.heap.size w U → Ending.returned (.string ((⟨#[97]⟩ : ByteArray) ++ D)) = .returned (sv (valS k m)) ∧ Below w.heap.size w U) := fun e U h => ⟨by subst e; rw [hD, show (⟨#[97]⟩ : ByteArray) = ⟨[97].toArray⟩ from rfl, sv_app]; rfl, h⟩
  clear hD hm
  rcases hk with rfl | rfl
  · replace HQ2 := HQ1 rfl
    (try clear F); have F := fx M
    go_enter Try.func172, Try.ntmps172
    go_upto_region 5 with (first | (with_reducible refine alA M ?_; clear M; (try clear F); intro w1 M F) | (go_at_call 42; (refine nmK ?_; clear M; (try clear F); intro w1 M F); refine (HV.out _).mono ?_; rintro e w2 ⟨rfl, hb⟩; replace M := M.below hb; clear hb; (try clear F); have F := fx M))
    generalize w.heap.size = g1 at M ⊢
    (try clear F); have F := fx M
    refine held_begin (S := fun W' => ∀ j, W'.cell? ⟨g1, j, none⟩ = ([.int .i64 1, .int .i64 m] : List Value)[j]?) (by kernel_rfl) (fun _ _ _ _ _ h => h) kc (fun HQ hHeld => ?_)
    refine tkY HQ hHeld 1 ?_; refine tkY HQ hHeld 2 ?_; refine tkY HQ hHeld 5 ?_; refine tkY HQ hHeld 6 ?_
    refine stpTwo 0 7 (fun K hK => ?_) (fun K hK => ?_)
    · go_simp; (try go_wp2_with fail); refine hK.out _ _ (kc) (fun hHeld => ?_); clear hK K; (try simp only [AX]); clear hHeld; (refine nm (G := fun W => wpAnyH _ _ _ _ _ _ _ _ W) ?_; clear M; (try clear F); intro w1 M F); refine tkY HQ (by exact kc) 3 ?_
      refine stpTwo 4 7 (fun K hK => ?_) (fun K hK => ?_)
      · go_simp; (try go_wp2_with fail); refine hK.out _ _ (kc) (fun hHeld => ?_); clear hK K; (try simp only [AX]); refine stp 7 (fun K hK => ?_); go_simp; (go_at_call 173; (refine nmK ?_; clear M; (try clear F); intro w1 M F); refine (HD.out _).mono ?_; rintro e w2 ⟨rfl, hb⟩; replace M := M.below hb; clear hb; (try clear F); have F := fx M); (try go_wp2_with fail); refine hK.out _ _ (kc) (fun hHeld => ?_); clear hK K; (try simp only [AX])
        refine tkY HQ hHeld 8 ?_; refine tkY HQ hHeld 9 ?_; refine wpAnyH_done (by kernel_rfl) ?_ _; clear HQ; (repeat clear hHeld); go_wp2; go_ret; exact HQ2.out _ M.toBelow
      · go_simp; (go_at_call 173; (refine nmK ?_; clear M; (try clear F); intro w1 M F); refine (HD.out _).mono ?_; rintro e w2 ⟨rfl, hb⟩; replace M := M.below hb; clear hb; (try clear F); have F := fx M); (try go_wp2_with fail); refine hK.out _ _ (kc) (fun hHeld => ?_); clear hK K; (try simp only [AX]); refine stp 4 (fun K hK => ?_); go_simp; (try go_wp2_with fail); refine hK.out _ _ (kc) (fun hHeld => ?_); clear hK K; (try simp only [AX])
        refine tkY HQ hHeld 8 ?_; refine tkY HQ hHeld 9 ?_; refine wpAnyH_done (by kernel_rfl) ?_ _; clear HQ; (repeat clear hHeld); go_wp2; go_ret; exact HQ2.out _ M.toBelow
    · go_simp; (go_at_call 173; (refine nmK ?_; clear M; (try clear F); intro w1 M F); refine (HD.out _).mono ?_; rintro e w2 ⟨rfl, hb⟩; replace M := M.below hb; clear hb; (try clear F); have F := fx M); (try go_wp2_with fail); refine hK.out _ _ (kc) (fun hHeld => ?_); clear hK K; (try simp only [AX]); refine stp 0 (fun K hK => ?_); go_simp; (try go_wp2_with fail); refine hK.out _ _ (kc) (fun hHeld => ?_); clear hK K; (try simp only [AX]); clear hHeld; (refine nm (G := fun W => wpAnyH _ _ _ _ _ _ _ _ W) ?_; clear M; (try clear F); intro w1 M F); refine tkY HQ (by exact kc) 3 ?_; refine stp 4 (fun K hK => ?_); go_simp; (try go_wp2_with fail); refine hK.out _ _ (kc) (fun hHeld => ?_); clear hK K; (try simp only [AX])
      refine tkY HQ hHeld 8 ?_; refine tkY HQ hHeld 9 ?_; refine wpAnyH_done (by kernel_rfl) ?_ _; clear HQ; (repeat clear hHeld); go_wp2; go_ret; exact HQ2.out _ M.toBelow
  · replace HQ2 := HQ2 rfl
    (try clear F); have F := fx M
    go_enter Try.func172, Try.ntmps172
    go_upto_region 5 with (first | (with_reducible refine alA M ?_; clear M; (try clear F); intro w1 M F) | (go_at_call 42; (refine nmK ?_; clear M; (try clear F); intro w1 M F); refine (HV.out _).mono ?_; rintro e w2 ⟨rfl, hb⟩; replace M := M.below hb; clear hb; (try clear F); have F := fx M))
    generalize w.heap.size = g1 at M ⊢
    (try clear F); have F := fx M
    refine held_begin (S := fun W' => ∀ j, W'.cell? ⟨g1, j, none⟩ = ([.int .i64 2, .int .i64 m] : List Value)[j]?) (by kernel_rfl) (fun _ _ _ _ _ h => h) kc (fun HQ hHeld => ?_)
    refine tkY HQ hHeld 1 ?_; refine tkY HQ hHeld 2 ?_; refine tkY HQ hHeld 5 ?_; refine tkY HQ hHeld 6 ?_
    refine stpTwo 0 7 (fun K hK => ?_) (fun K hK => ?_)
    · go_simp; (try go_wp2_with fail); refine hK.out _ _ (kc) (fun hHeld => ?_); clear hK K; (try simp only [AX]); clear hHeld; (refine nm (G := fun W => wpAnyH _ _ _ _ _ _ _ _ W) ?_; clear M; (try clear F); intro w1 M F); refine tkY HQ (by exact kc) 3 ?_
      refine stpTwo 4 7 (fun K hK => ?_) (fun K hK => ?_)
      · go_simp; (try go_wp2_with fail); refine hK.out _ _ (kc) (fun hHeld => ?_); clear hK K; (try simp only [AX]); refine stp 7 (fun K hK => ?_); go_simp; (go_at_call 173; (refine nmK ?_; clear M; (try clear F); intro w1 M F); refine (HD.out _).mono ?_; rintro e w2 ⟨rfl, hb⟩; replace M := M.below hb; clear hb; (try clear F); have F := fx M); (try go_wp2_with fail); refine hK.out _ _ (kc) (fun hHeld => ?_); clear hK K; (try simp only [AX])
        refine tkY HQ hHeld 8 ?_; refine tkY HQ hHeld 9 ?_; refine wpAnyH_done (by kernel_rfl) ?_ _; clear HQ; (repeat clear hHeld); go_wp2; go_ret; exact HQ2.out _ M.toBelow
      · go_simp; (go_at_call 173; (refine nmK ?_; clear M; (try clear F); intro w1 M F); refine (HD.out _).mono ?_; rintro e w2 ⟨rfl, hb⟩; replace M := M.below hb; clear hb; (try clear F); have F := fx M); (try go_wp2_with fail); refine hK.out _ _ (kc) (fun hHeld => ?_); clear hK K; (try simp only [AX]); refine stp 4 (fun K hK => ?_); go_simp; (try go_wp2_with fail); refine hK.out _ _ (kc) (fun hHeld => ?_); clear hK K; (try simp only [AX])
        refine tkY HQ hHeld 8 ?_; refine tkY HQ hHeld 9 ?_; refine wpAnyH_done (by kernel_rfl) ?_ _; clear HQ; (repeat clear hHeld); go_wp2; go_ret; exact HQ2.out _ M.toBelow
    · go_simp; (go_at_call 173; (refine nmK ?_; clear M; (try clear F); intro w1 M F); refine (HD.out _).mono ?_; rintro e w2 ⟨rfl, hb⟩; replace M := M.below hb; clear hb; (try clear F); have F := fx M); (try go_wp2_with fail); refine hK.out _ _ (kc) (fun hHeld => ?_); clear hK K; (try simp only [AX]); refine stp 0 (fun K hK => ?_); go_simp; (try go_wp2_with fail); refine hK.out _ _ (kc) (fun hHeld => ?_); clear hK K; (try simp only [AX]); clear hHeld; (refine nm (G := fun W => wpAnyH _ _ _ _ _ _ _ _ W) ?_; clear M; (try clear F); intro w1 M F); refine tkY HQ (by exact kc) 3 ?_; refine stp 4 (fun K hK => ?_); go_simp; (try go_wp2_with fail); refine hK.out _ _ (kc) (fun hHeld => ?_); clear hK K; (try simp only [AX])
      refine tkY HQ hHeld 8 ?_; refine tkY HQ hHeld 9 ?_; refine wpAnyH_done (by kernel_rfl) ?_ _; clear HQ; (repeat clear hHeld); go_wp2; go_ret; exact HQ2.out _ M.toBelow
end Go.Proofs.Ytmidnaafljgbiaa
/- A result in a cell, and one besides. -/
namespace Go.Proofs.Ytmidnaafljgbiaa
open Go.RowKit
theorem ret_cell_tmp {P : Program} {fn : Func} {R : Ending → World → Prop} {a : Act} {w0 w : World} {f : List Nat} {L L' : List Asn} {d1 d : Tmp} {t tb : TypeId} {g : Nat} {cs : List Value} {v1 : Value} (hres : fn.results = #[.cell d t, .tmp d1]) (h1 : a.tmps.getD d1 undef = v1) (hx : a.tmps.getD d undef = .pointer (some ⟨g, 0, none⟩)) (M : Mem w0 f w L) (hd : Del (blk g tb cs) L L')
    (ha : ∀ W, (isAgg t).run P W = .ok true W) (hs : (P.info? t).map (·.size) = some cs.length) (hdef : a.defers = []) (hR : R (.returned (.tuple #[.agg cs.toArray, v1])) w) : bodyPost P fn R .ret a w := by
  have hrun := run_loadAgg (P := P) (off := 0) (ha w) hs (M.pull hd).facts.1.2.1 (by omega : 0 + cs.length ≤ cs.length)
  simp only [List.drop_zero, List.take_length] at hrun
  refine ⟨hdef, _, ?_, hR⟩
  simp only [Array.getD_eq_getD_getElem?] at hx h1
  simp [results, hres, hx, h1, asAddr, hrun]
end Go.Proofs.Ytmidnaafljgbiaa
