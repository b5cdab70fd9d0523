/- Parts of the proof, in one text. -/
import Derived.Deep.QuietTactic
import Derived.BigQuiet
import Derived.Shelf.Abstract
import Derived.Test.YtmidnaafljgbiaaB05
import Derived.Test.YtmidnaafljgbiaaB01
import Derived.Test.YtmidnaafljgbiaaB04
/- What a step of a kind has. -/
namespace Go.Proofs.Ytmidnaafljgbiaa
open Go.RowKit
set_option maxRecDepth 100000

def encB (b : Bool) : List Value := [.bool b]
theorem encB_length (b : Bool) : (encB b).length = 1 := rfl
def rowB (A : Option Addr) (c : Nat) (xs : List Bool) : Asn := row encB 1 4 A c xs
theorem rowB_blk {w0 w : World} {f : List Nat} {L : List Asn} {g : Nat} {b0 b1 b2 b3 : Bool} (M : Mem w0 f w (blk g 4 [.bool b0, .bool b1, .bool b2, .bool b3] :: L)) : Mem w0 f w (rowB (some ⟨g, 0, none⟩) 4 [b0, b1, b2, b3] :: L) :=
  Mem.row_of encB_length (xs := [b0, b1, b2, b3]) M rfl (by simp)
theorem rowB_nil {w0 w : World} {f : List Nat} {L : List Asn} {g : Nat} (M : Mem w0 f w (blk g 4 [] :: L)) : Mem w0 f w (rowB (some ⟨g, 0, none⟩) 0 [] :: L) :=
  Mem.row_of encB_length (xs := []) M rfl (by simp)
def FormPost (k : Int) (w0 : World) (f : List Nat) (L : List Asn) (e : Ending) (w' : World) : Prop := ∃ (A : Option Addr) (c : Nat), e = .returned (.slice A (opForm k).length c) ∧ Mem w0 f w' (rowB A c (opForm k) :: L)
set_option maxHeartbeats 4000000 in
theorem sForm (k : Int) {w0 w : World} {f : List Nat} {L : List Asn} (M : Mem w0 f w L) : Calls Try.prog 126 #[.int .i64 k] w (FormPost k w0 f L) := by
  have HF : Hid (∀ W g b0 b1 b2 b3, opForm k = [b0, b1, b2, b3] → Mem w0 f W (blk g 4 [.bool b0, .bool b1, .bool b2, .bool b3] :: L) → FormPost k w0 f L (.returned (.slice (some ⟨g, 0, none⟩) 4 4)) W) := fun W g b0 b1 b2 b3 h M => ⟨_, _, by rw [h]; rfl, by rw [h]; exact rowB_blk M⟩
  have HN : Hid (∀ W g, opForm k = [] → Mem w0 f W (blk g 4 [] :: L) → FormPost k w0 f L (.returned (.slice (some ⟨g, 0, none⟩) 0 0)) W) := fun W g h M => ⟨_, _, by rw [h]; rfl, by rw [h]; exact rowB_nil M⟩
  go_enter Try.func126, Try.ntmps126
  go_wp2
  all_goals (refine nmw (G := fun W => bodyPost _ _ _ _ _ W) ?_; clear M; (try clear F); intro w1 M F)
  all_goals go_ret
  all_goals (simp only [beq_iff_eq, beq_eq_false_iff_ne, ne_eq] at *)
  all_goals (first | (refine HF.out _ _ _ _ _ _ ?_ M; subst_vars; rfl) | (refine HN.out _ _ ?_ M; simp [opForm, *]))
end Go.Proofs.Ytmidnaafljgbiaa
/- What kinds of steps do. -/
namespace Go.Proofs.Ytmidnaafljgbiaa
open Go.RowKit
set_option maxRecDepth 100000

set_option maxHeartbeats 1000000 in
theorem sGoes (k : Int) (w : World) : Calls Try.prog 114 #[.int .i64 k] w fun e w' => e = .returned (.bool (goesTo k)) ∧ w = w' := by
  have h : goesTo k = true ∨ goesTo k = false := by cases goesTo k <;> simp
  unfold goesTo at *
  go_enter Try.func114, Try.ntmps114
  go_wp2
  all_goals go_ret
  all_goals exact ⟨by simp_all, rfl⟩
set_option maxHeartbeats 1000000 in
theorem sFills (k : Int) (w : World) : Calls Try.prog 127 #[.int .i64 k] w fun e w' => e = .returned (.bool (fillsR k)) ∧ w = w' := by
  unfold fillsR
  go_enter Try.func127, Try.ntmps127
  go_wp2
  all_goals go_ret
  all_goals exact ⟨by simp_all, rfl⟩
abbrev opArr (o : Opx) : Array Value := #[.int .i64 o.k, .int .i64 o.r, .int .i64 o.s, .int .i64 o.to, .int .i64 o.v.k, .int .i64 o.v.n]
def UsesPost (o : Opx) (w0 : World) (f : List Nat) (L : List Asn) (e : Ending) (w' : World) : Prop := ∃ (A : Option Addr) (c : Nat), e = .returned (.slice A (opUses o).length c) ∧ Mem w0 f w' (rowI A c (opUses o) :: L)
theorem rowI_list {w0 w : World} {f : List Nat} {L : List Asn} {g : Nat} (xs : List Int) (hl : xs.length ≤ 1000) (M : Mem w0 f w (blk g tI (xs.map (.int .i64 ·)) :: L)) : Mem w0 f w (rowI (some ⟨g, 0, none⟩) xs.length xs :: L) :=
  Mem.row_of encI_length (xs := xs) M (by clear hl M; induction xs with | nil => rfl | cons x xs ih => simp [flat, encI] at ih ⊢; exact ih) (by omega)
set_option maxHeartbeats 2000000 in
theorem sUses (o : Opx) {w0 w : World} {f : List Nat} {L : List Asn} (M : Mem w0 f w L) : Calls Try.prog 96 #[.agg (opArr o)] w (UsesPost o w0 f L) := by
  have HF : Hid (∀ W g (xs : List Int) n, opUses o = xs → xs.length = n → xs.length ≤ 1000 → Mem w0 f W (blk g tI (xs.map (.int .i64 ·)) :: L) → UsesPost o w0 f L (.returned (.slice (some ⟨g, 0, none⟩) n n)) W) := fun W g xs n h hn hl M => ⟨_, _, by rw [h, hn], by rw [h]; exact hn ▸ rowI_list xs hl M⟩
  obtain ⟨k, r, s, to, ⟨vk, vn⟩⟩ := o
  simp only [opArr]
  go_enter Try.func96, Try.ntmps96
  go_wp2_with (first
    | (with_reducible refine alAw M ?_; clear M; (try clear F); intro w1 M F) | ((with_reducible apply ev_store (M := M)); rfl; rfl; ((conv => lhs; whnf) <;> rfl); rfl; (first | exact siI | exact siR | exact siV | exact siB | exact siSI | exact siSV | exact siW | exact siSR | exact siSO | exact siO); (exact one_all rfl); (exact dl); (exact Nat.le_of_ble_eq_true rfl); clear M; intro w1 M; simp only [SX] at M; (try clear F); have F := fxw M) | ((with_reducible refine goal_drewN (G := fun W => wpList _ _ _ _ _ W) M ?_); clear M; intro w1 M; (try clear F); have F := fxw M) | ((with_reducible refine goal_drew (G := fun W => wpList _ _ _ _ _ W) M ?_); clear M; intro w1 M; (try clear F); have F := fxw M) | ((with_reducible refine isSet (G := fun W => wpList _ _ _ _ _ W) ?_); (with_reducible refine nmw (G := fun W => wpList _ _ _ _ _ W) ?_; clear M; (try clear F); intro w1 M F)))
  all_goals (refine nmw (G := fun W => bodyPost _ _ _ _ _ W) ?_; clear M; (try clear F); intro w1 M F)
  all_goals go_ret
  all_goals (simp only [beq_iff_eq, beq_eq_false_iff_ne, ne_eq] at *)
  all_goals (first | exact HF.out _ _ [s] _ (by subst_vars; rfl) rfl (by simp) (M.sel (T := blk _ tI [.int .i64 s] :: L) sl) | exact HF.out _ _ [r, s] _ (by subst_vars; rfl) rfl (by simp) (M.sel (T := blk _ tI [.int .i64 r, .int .i64 s] :: L) sl) | exact HF.out _ _ [r] _ (by subst_vars; rfl) rfl (by simp) (M.sel (T := blk _ tI [.int .i64 r] :: L) sl) | exact HF.out _ _ [] _ (by simp [opUses, *]) rfl (by simp) (M.sel (T := blk _ tI [] :: L) sl))
end Go.Proofs.Ytmidnaafljgbiaa
/- Plain laws on runs: what is taken, what is put, what stays. No Go and no memory here. -/
namespace Go.Proofs.Ytmidnaafljgbiaa

theorem all_sub {p : Vl → Bool} {l l' : List Vl} (h : l.all p = true) (hs : ∀ x, x ∈ l' → x ∈ l) : l'.all p = true := by
  rw [List.all_eq_true] at h ⊢
  exact fun x hx => h x (hs x hx)

/-- A run with other mail. -/
theorem runOk_mail {r : Rn} (h : runOk r = true) {m : List Vl} (hl : m.length ≤ r.mail.length) (hs : ∀ x, x ∈ m → x ∈ r.mail) : runOk { r with mail := m } = true := by
  simp only [runOk, Bool.and_eq_true, decide_eq_true_eq] at h ⊢
  obtain ⟨⟨⟨⟨⟨⟨⟨⟨⟨⟨⟨⟨⟨h1, h2⟩, h3⟩, h4⟩, h5⟩, h6⟩, h7⟩, h8⟩, h9⟩, h10⟩, h11⟩, h12⟩, h13⟩, h14⟩ := h
  refine ⟨⟨⟨⟨⟨⟨⟨⟨⟨⟨⟨⟨⟨h1, h2⟩, h3⟩, h4⟩, by omega⟩, h6⟩, h7⟩, h8⟩, h9⟩, all_sub h10 hs⟩, h11⟩, h12⟩, h13⟩, ?_⟩
  split
  · rename_i hst
    rw [if_pos hst] at h14
    simp only [Bool.and_eq_true, List.isEmpty_iff] at h14 ⊢
    obtain ⟨⟨a, b⟩, c⟩ := h14
    refine ⟨⟨?_, b⟩, c⟩
    rw [a] at hl
    exact List.eq_nil_of_length_eq_zero (by simpa using hl)
  · rename_i hst
    rwa [if_neg hst] at h14

theorem runOk_parts {r : Rn} (h : runOk r = true) : (1 ≤ r.id ∧ r.id ≤ 6) ∧ (0 ≤ r.at_ ∧ r.at_ ≤ 15) ∧ r.slots.length = 4 ∧ (0 ≤ r.full ∧ r.full ≤ 15) ∧ r.mail.length ≤ 12 ∧ (1 ≤ r.state ∧ r.state ≤ 3) ∧ (-1 ≤ r.due ∧ r.due ≤ 400) ∧ (0 ≤ r.turns ∧ r.turns ≤ 9999) ∧
    slotsFrom r.full 0 r.slots = true ∧ r.mail.all valOk = true ∧ idsOk r.links r.id = true ∧ idsOk r.watched r.id = true ∧ valOk r.why = true ∧
    (r.state = 3 → r.mail = [] ∧ r.links = [] ∧ r.watched = []) ∧ (r.state ≠ 3 → r.why = Vl.zero) := by
  simp only [runOk, Bool.and_eq_true, decide_eq_true_eq, inB_iff, beq_iff_eq] at h
  obtain ⟨⟨⟨⟨⟨⟨⟨⟨⟨⟨⟨⟨⟨h1, h2⟩, h3⟩, h4⟩, h5⟩, h6⟩, h7⟩, h8⟩, h9⟩, h10⟩, h11⟩, h12⟩, h13⟩, h14⟩ := h
  refine ⟨h1, h2, h3, h4, h5, h6, h7, h8, h9, h10, h11, h12, h13, fun hs => ?_, fun hs => ?_⟩
  · rw [if_pos hs] at h14
    simp only [Bool.and_eq_true, List.isEmpty_iff] at h14
    exact ⟨h14.1.1, h14.1.2, h14.2⟩
  · rw [if_neg hs] at h14
    simpa using h14

/-! ### What fits first -/
theorem firstIx_some {m : List Vl} {kind : Int} {i : Nat} (h : firstIx m kind = some i) : ∃ hi : i < m.length, fits m[i] kind = true ∧ ∀ j (hj : j < i), fits (m[j]'(by omega)) kind = false := by
  unfold firstIx at h
  rw [List.findIdx?_eq_some_iff_getElem] at h
  obtain ⟨hi, h1, h2⟩ := h
  exact ⟨hi, h1, fun j hj => by simpa using h2 j hj⟩
theorem firstIx_none {m : List Vl} {kind : Int} : firstIx m kind = none ↔ ∀ x ∈ m, fits x kind = false := by
  unfold firstIx
  rw [List.findIdx?_eq_none_iff]
theorem firstIx_of {m : List Vl} {kind : Int} {i : Nat} (hi : i < m.length) (h1 : fits m[i] kind = true) (h2 : ∀ j (hj : j < i), fits (m[j]'(by omega)) kind = false) : firstIx m kind = some i := by
  unfold firstIx
  rw [List.findIdx?_eq_some_iff_getElem]
  exact ⟨hi, h1, fun j hj => by simpa using h2 j hj⟩

theorem mem_erase {α : Type} {x : α} {l : List α} {i : Nat} (h : x ∈ l.eraseIdx i) : x ∈ l := List.mem_of_mem_eraseIdx h
theorem runOk_erase {r : Rn} (h : runOk r = true) (i : Nat) : runOk { r with mail := r.mail.eraseIdx i } = true :=
  runOk_mail h (List.length_eraseIdx_le _ _) (fun _ hx => mem_erase hx)
theorem runOk_drop {r : Rn} (h : runOk r = true) (i : Nat) : runOk { r with mail := r.mail.drop i } = true :=
  runOk_mail h (by simp) (fun _ hx => List.mem_of_mem_drop hx)
/-- Of one kind: what is of other kinds stands ahead. -/
theorem runTake_kind {r : Rn} (h : runOk r = true) {kind : Int} (hk : inB kind 0 3 = true) {a b : List Vl} {v : Vl} (hm : r.mail = a ++ v :: b) (ha : ∀ x ∈ a, fits x kind = false) (hv : fits v kind = true) :
    runTake r kind = ({ r with mail := a ++ b }, v, true) := by
  have hf : firstIx r.mail kind = some a.length := by
    refine firstIx_of (by rw [hm]; simp) (by simp [hm, hv]) (fun j hj => ?_)
    simp only [hm]
    rw [List.getElem_append_left hj]
    exact ha _ (List.getElem_mem _)
  have he : r.mail.eraseIdx a.length = a ++ b := by rw [hm, List.eraseIdx_append_of_length_le (Nat.le_refl _)]; simp
  have hg : r.mail.getD a.length Vl.zero = v := by rw [hm]; simp [List.getD_eq_getElem?_getD]
  simp only [runTake, h, hk, Bool.and_self, if_true, hf, he, hg]
/-- Of any kind the eldest is taken. -/
theorem runTake_any {r : Rn} (h : runOk r = true) {v : Vl} {rest : List Vl} (hm : r.mail = v :: rest) : runTake r 0 = ({ r with mail := rest }, v, true) :=
  runTake_kind h (by simp [inB]) (a := []) hm (by simp) (by simp [fits])
theorem runTake_none {r : Rn} {kind : Int} (h : ∀ x ∈ r.mail, fits x kind = false) : runTake r kind = (Rn.zero, Vl.zero, false) := by
  have hf : firstIx r.mail kind = none := firstIx_none.2 h
  unfold runTake
  split <;> simp [hf]

theorem runTake_empty {r : Rn} (kind : Int) (hm : r.mail = []) : runTake r kind = (Rn.zero, Vl.zero, false) := runTake_none (by rw [hm]; simp)

/-- Mail, parted at the first that fits; or none fits. -/
theorem part_kind (m : List Vl) (kind : Int) : (∀ x ∈ m, fits x kind = false) ∨ ∃ a v b, m = a ++ v :: b ∧ (∀ x ∈ a, fits x kind = false) ∧ fits v kind = true := by
  induction m with
  | nil => exact .inl (by simp)
  | cons x m ih =>
    cases hx : fits x kind with
    | true => exact .inr ⟨[], x, m, rfl, by simp, hx⟩
    | false =>
      rcases ih with ih | ⟨a, v, b, rfl, ha, hv⟩
      · exact .inl (by simpa [hx] using ih)
      · exact .inr ⟨x :: a, v, b, rfl, by simpa [hx] using ha, hv⟩

/-- What a taking comes to. -/
theorem runTake_cases {r : Rn} (h : runOk r = true) {kind : Int} (hk : inB kind 0 3 = true) :
    ((∀ x ∈ r.mail, fits x kind = false) ∧ runTake r kind = (Rn.zero, Vl.zero, false)) ∨
    ∃ a v b, r.mail = a ++ v :: b ∧ (∀ x ∈ a, fits x kind = false) ∧ fits v kind = true ∧ runTake r kind = ({ r with mail := a ++ b }, v, true) := by
  rcases part_kind r.mail kind with h0 | ⟨a, v, b, hm, ha, hv⟩
  · exact .inl ⟨h0, runTake_none h0⟩
  · exact .inr ⟨a, v, b, hm, ha, hv, runTake_kind h hk hm ha hv⟩

theorem fits_ne {v : Vl} {k1 k2 : Int} (h1 : k1 ≠ 0) (h2 : k2 ≠ 0) (hne : k1 ≠ k2) (hf : fits v k1 = true) : fits v k2 = false := by
  simp only [fits, Bool.or_eq_true, beq_iff_eq, Bool.or_eq_false_iff, beq_eq_false_iff_ne] at *
  omega

/-- Two kinds: in any order. -/
theorem runTake_two {r : Rn} (h : runOk r = true) {k1 k2 : Int} (hk1 : inB k1 1 3 = true) (hk2 : inB k2 1 3 = true) (hne : k1 ≠ k2) (hx : (runTake r k1).2.2 = true) :
    (runTake (runTake r k1).1 k2).2.2 = (runTake r k2).2.2 ∧
    ((runTake r k2).2.2 = true → (runTake (runTake r k2).1 k1).2.2 = true ∧ (runTake (runTake r k2).1 k1).2.1 = (runTake r k1).2.1 ∧ (runTake r k2).2.1 = (runTake (runTake r k1).1 k2).2.1 ∧ (runTake (runTake r k2).1 k1).1 = (runTake (runTake r k1).1 k2).1) := by
  have b1 := inB_iff.1 hk1
  have b2 := inB_iff.1 hk2
  have hk1' : inB k1 0 3 = true := inB_iff.2 (by omega)
  have hk2' : inB k2 0 3 = true := inB_iff.2 (by omega)
  rcases runTake_cases h hk1' with ⟨_, e1⟩ | ⟨a1, v1, c1, hm1, ha1, hv1, e1⟩
  · rw [e1] at hx; cases hx
  rcases runTake_cases h hk2' with ⟨hn2, e2⟩ | ⟨a2, v2, c2, hm2, ha2, hv2, e2⟩
  · have e3 : runTake { r with mail := a1 ++ c1 } k2 = (Rn.zero, Vl.zero, false) := runTake_none fun x hx => by
      refine hn2 x ?_
      rw [hm1]
      simp only [List.mem_append, List.mem_cons] at hx ⊢
      exact hx.elim .inl (fun h => .inr (.inr h))
    rw [e1, e2]
    exact ⟨by rw [e3], fun h => by cases h⟩
  · have hf21 : fits v2 k1 = false := fits_ne (by omega) (by omega) (fun e => hne e.symm) hv2
    have hf12 : fits v1 k2 = false := fits_ne (by omega) (by omega) hne hv1
    have hr1 : runOk { r with mail := a1 ++ c1 } = true := runOk_mail h (by rw [hm1]; simp) (by rw [hm1]; intro x hx; simp only [List.mem_append, List.mem_cons] at hx ⊢; exact hx.elim .inl (fun h => .inr (.inr h)))
    have hr2 : runOk { r with mail := a2 ++ c2 } = true := runOk_mail h (by rw [hm2]; simp) (by rw [hm2]; intro x hx; simp only [List.mem_append, List.mem_cons] at hx ⊢; exact hx.elim .inl (fun h => .inr (.inr h)))
    have he : a1 ++ v1 :: c1 = a2 ++ v2 :: c2 := hm1.symm.trans hm2
    rw [e1, e2]
    rcases Nat.lt_trichotomy a1.length a2.length with hl | hl | hl
    · -- v1 stands ahead of v2
      obtain ⟨d, rfl⟩ : ∃ d, a2 = a1 ++ v1 :: d := by
        refine ⟨a2.drop (a1.length + 1), ?_⟩
        have h1 := congrArg (List.take a2.length) he
        rw [List.take_left] at h1
        rw [List.take_append, List.take_of_length_le (by omega : a1.length ≤ a2.length)] at h1
        obtain ⟨q, hq⟩ : ∃ q, a2.length - a1.length = q + 1 := ⟨a2.length - a1.length - 1, by omega⟩
        rw [hq, List.take_succ_cons] at h1
        rw [← h1, List.drop_append]
        simp
      have hc : c1 = d ++ v2 :: c2 := by simpa using he
      subst hc
      have e3 : runTake { r with mail := a1 ++ (d ++ v2 :: c2) } k2 = ({ r with mail := (a1 ++ d) ++ c2 }, v2, true) :=
        runTake_kind (r := { r with mail := a1 ++ (d ++ v2 :: c2) }) hr1 hk2' (a := a1 ++ d) (by simp) (fun x hx => ha2 x (by simp only [List.mem_append, List.mem_cons] at hx ⊢; exact hx.elim .inl (fun h => .inr (.inr h)))) hv2
      have e4 : runTake { r with mail := (a1 ++ v1 :: d) ++ c2 } k1 = ({ r with mail := a1 ++ (d ++ c2) }, v1, true) :=
        runTake_kind (r := { r with mail := (a1 ++ v1 :: d) ++ c2 }) hr2 hk1' (a := a1) (b := d ++ c2) (by simp) ha1 hv1
      exact ⟨by rw [e3], fun _ => ⟨by rw [e4], by rw [e4], by rw [e3], by rw [e3, e4]; simp⟩⟩
    · -- they would be one
      exfalso
      have h1 := (List.append_inj he hl).2
      simp only [List.cons.injEq] at h1
      rw [h1.1] at hv1
      rw [hv1] at hf21
      cases hf21
    · obtain ⟨d, rfl⟩ : ∃ d, a1 = a2 ++ v2 :: d := by
        refine ⟨a1.drop (a2.length + 1), ?_⟩
        have h1 := congrArg (List.take a1.length) he.symm
        rw [List.take_left] at h1
        rw [List.take_append, List.take_of_length_le (by omega : a2.length ≤ a1.length)] at h1
        obtain ⟨q, hq⟩ : ∃ q, a1.length - a2.length = q + 1 := ⟨a1.length - a2.length - 1, by omega⟩
        rw [hq, List.take_succ_cons] at h1
        rw [← h1, List.drop_append]
        simp
      have hc : c2 = d ++ v1 :: c1 := by simpa using he.symm
      subst hc
      have e3 : runTake { r with mail := (a2 ++ v2 :: d) ++ c1 } k2 = ({ r with mail := a2 ++ (d ++ c1) }, v2, true) :=
        runTake_kind (r := { r with mail := (a2 ++ v2 :: d) ++ c1 }) hr1 hk2' (a := a2) (b := d ++ c1) (by simp) ha2 hv2
      have e4 : runTake { r with mail := a2 ++ (d ++ v1 :: c1) } k1 = ({ r with mail := (a2 ++ d) ++ c1 }, v1, true) :=
        runTake_kind (r := { r with mail := a2 ++ (d ++ v1 :: c1) }) hr2 hk1' (a := a2 ++ d) (by simp) (fun x hx => ha1 x (by simp only [List.mem_append, List.mem_cons] at hx ⊢; exact hx.elim .inl (fun h => .inr (.inr h)))) hv1
      exact ⟨by rw [e3], fun _ => ⟨by rw [e4], by rw [e4], by rw [e3], by rw [e3, e4]; simp⟩⟩

/-! ### What is put -/
theorem bit_cases {s : Int} (h : inB s 0 3 = true) : s = 0 ∨ s = 1 ∨ s = 2 ∨ s = 3 := by have := inB_iff.1 h; omega
theorem withBit_facts {f s : Int} (h0 : 0 ≤ f) (h1 : f ≤ 15) (hs : inB s 0 3 = true) :
    (0 ≤ withBit f s ∧ withBit f s ≤ 15) ∧ hasBit (withBit f s) s = true ∧ (∀ t, inB t 0 3 = true → t ≠ s → hasBit (withBit f s) t = hasBit f t) ∧ withBit (withBit f s) s = withBit f s ∧
      (∀ t, inB t 0 3 = true → withBit (withBit f s) t = withBit (withBit f t) s) := by
  have key : ∀ f : Fin 16, ∀ s t : Fin 4, (0 ≤ withBit f.val s.val ∧ withBit f.val s.val ≤ 15) ∧ hasBit (withBit f.val s.val) s.val = true ∧ (t ≠ s → hasBit (withBit f.val s.val) t.val = hasBit f.val t.val) ∧
      withBit (withBit f.val s.val) s.val = withBit f.val s.val ∧ withBit (withBit f.val s.val) t.val = withBit (withBit f.val t.val) s.val := by decide
  have hs' := inB_iff.1 hs
  obtain ⟨f', rfl⟩ := Int.eq_ofNat_of_zero_le h0
  obtain ⟨s', rfl⟩ := Int.eq_ofNat_of_zero_le hs'.1
  have k := fun t => key ⟨f', by omega⟩ ⟨s', by omega⟩ t
  refine ⟨(k 0).1, (k 0).2.1, fun t ht hne => ?_, (k 0).2.2.2.1, fun t ht => ?_⟩
  · have ht' := inB_iff.1 ht
    obtain ⟨t', rfl⟩ := Int.eq_ofNat_of_zero_le ht'.1
    exact (k ⟨t', by omega⟩).2.2.1 (fun e => hne (by injection e with e; rw [e]))
  · have ht' := inB_iff.1 ht
    obtain ⟨t', rfl⟩ := Int.eq_ofNat_of_zero_le ht'.1
    exact (k ⟨t', by omega⟩).2.2.2.2

theorem four {l : List Vl} (h : l.length = 4) : ∃ a b c d, l = [a, b, c, d] := by
  match l, h with
  | [a, b, c, d], _ => exact ⟨a, b, c, d, rfl⟩

theorem runOk_put {r : Rn} (h : runOk r = true) {s : Int} (hs : inB s 0 3 = true) {v : Vl} (hv : valOk v = true) : runOk { r with slots := r.slots.set s.toNat v, full := withBit r.full s } = true := by
  obtain ⟨h1, h2, h3, h4, h5, h6, h7, h8, h9, h10, h11, h12, h13, h14, h15⟩ := runOk_parts h
  obtain ⟨g1, g2, g3, _, _⟩ := withBit_facts h4.1 h4.2 hs
  have b0 := g3 0 rfl
  have b1 := g3 1 rfl
  have b2 := g3 2 rfl
  have b3 := g3 3 rfl
  obtain ⟨a, b, c, d, e⟩ := four h3
  rw [e] at h9
  simp only [slotsFrom, Bool.and_eq_true, Bool.or_eq_true] at h9
  have hsl : slotsFrom (withBit r.full s) 0 (r.slots.set s.toNat v) = true := by
    rw [e]
    rcases bit_cases hs with rfl | rfl | rfl | rfl
    all_goals simp_all [slotsFrom]
  simp only [runOk, Bool.and_eq_true, decide_eq_true_eq, inB_iff, beq_iff_eq, List.length_set]
  refine ⟨⟨⟨⟨⟨⟨⟨⟨⟨⟨⟨⟨⟨h1, h2⟩, h3⟩, g1⟩, h5⟩, h6⟩, h7⟩, h8⟩, hsl⟩, h10⟩, h11⟩, h12⟩, h13⟩, ?_⟩
  split
  · rename_i hst
    obtain ⟨x, y, z⟩ := h14 hst
    simp [x, y, z]
  · rename_i hst
    simp [h15 hst]

/-! ### What is not ok -/
end Go.Proofs.Ytmidnaafljgbiaa
/- Lists of numbers and values are looked through: each call returns what its plain word says. -/
namespace Go.Proofs.Ytmidnaafljgbiaa
open Go.RowKit
set_option maxRecDepth 100000

/-- Is a number in a list? -/
def inL (l : List Int) (n : Int) : Bool := l.contains n
theorem inL_iff {l : List Int} {n : Int} : inL l n = true ↔ n ∈ l := by unfold inL; exact List.contains_iff_mem
theorem inL_take (l : List Int) (n : Int) (k : Nat) (hk : k < l.length) : inL (l.take (k + 1)) n = (inL (l.take k) n || (l[k] == n)) := by
  rw [List.take_succ_eq_append_getElem hk]
  rw [Bool.eq_iff_iff]
  simp only [inL_iff, List.mem_append, List.mem_singleton, Bool.or_eq_true, beq_iff_eq]
  exact or_congr Iff.rfl ⟨fun h => h.symm, fun h => h.symm⟩

set_option maxHeartbeats 400000 in
theorem sAmong (l : List Int) (n : Int) (A : Option Addr) (c B : Nat) (w : World) (h : ReadsI w B A l.length l) :
    Calls Try.prog 108 #[.slice A l.length c, .int .i64 n] w fun e w' => e = .returned (.bool (inL l n)) ∧ w = w' := by
  have hm := h.2.1
  go_enter Try.func108, Try.ntmps108
  go_wp2
  go_loop [5] (fun i => ∃ k : Nat, k ≤ l.length ∧ i = .int .i64 k ∧ Hid (inL (l.take k) n = false)) (fun i => l.length - (intOf i).toNat)
  case atStart => exact ⟨0, Nat.zero_le _, rfl, by simp [Hid, inL]⟩
  case round =>
    obtain ⟨k, hk, rfl, hn⟩ := hrel
    by_cases hlt : k < l.length
    · obtain ⟨ad, rfl, _, hc⟩ := h.int hlt
      have hct := Lib.hid (inL_take l n k hlt)
      generalize l[k] = x at hc hct
      by_cases hx : x = n
      · subst hx
        go_wp2
        go_ret
        refine ⟨ret_bool ?_, rfl⟩
        have := hct.out
        simp only [beq_self_eq_true, Bool.or_true] at this
        exact (inL_iff.2 (List.mem_of_mem_take (inL_iff.1 this))).symm
      · have hx' : (x == n) = false := by simpa using hx
        go_wp2
        go_round
        case rel => exact ⟨k + 1, by omega, by go_num, by unfold Hid; rw [hct.out, hn.out, hx']; rfl⟩
        case measure => simp [intOf]; omega
    · have : k = l.length := by omega
      subst this
      go_wp2
      go_ret
      refine ⟨ret_bool ?_, rfl⟩
      have := hn.out
      rw [List.take_length] at this
      exact this.symm
/-- Where the first is of which p holds; -1, if there is none. -/
def idxP {α : Type} (p : α → Bool) (l : List α) : Int := match l.findIdx? p with | some i => (i : Int) | none => -1
theorem idxP_hit {α : Type} {p : α → Bool} {l : List α} {k : Nat} (hk : k < l.length) (h : p l[k] = true) (hn : ∀ j (hj : j < k), p (l[j]'(by omega)) = false) : idxP p l = k := by
  have : l.findIdx? p = some k := by
    rw [List.findIdx?_eq_some_iff_getElem]
    exact ⟨hk, h, fun j hj => by simpa using hn j hj⟩
  unfold idxP
  rw [this]
theorem idxP_miss {α : Type} {p : α → Bool} {l : List α} (hn : ∀ j (hj : j < l.length), p l[j] = false) : idxP p l = -1 := by
  have : l.findIdx? p = none := by
    rw [List.findIdx?_eq_none_iff]
    intro x hx
    obtain ⟨j, hj, rfl⟩ := List.getElem_of_mem hx
    exact hn j hj
  unfold idxP
  rw [this]
theorem idxP_any {α : Type} (p : α → Bool) (l : List α) : decide (0 ≤ idxP p l) = l.any p := by
  unfold idxP
  cases h : l.findIdx? p with
  | some i =>
    rw [List.findIdx?_eq_some_iff_getElem] at h
    obtain ⟨hi, h1, _⟩ := h
    have : l.any p = true := List.any_eq_true.2 ⟨l[i], List.getElem_mem _, h1⟩
    rw [this]
    show decide ((0 : Int) ≤ (i : Int)) = true
    exact decide_eq_true (by omega)
  | none =>
    rw [List.findIdx?_eq_none_iff] at h
    have : l.any p = false := by
      rw [List.any_eq_false]
      exact fun x hx => by simp [h x hx]
    rw [this]
    rfl

set_option maxHeartbeats 400000 in
theorem iIndex (l : List Int) (n : Int) (A : Option Addr) (c B : Nat) (w : World) (h : ReadsI w B A l.length l) :
    Calls Try.prog 125 #[.slice A l.length c, .int .i64 n] w fun e w' => e = .returned (.int .i64 (idxP (fun x => n == x) l)) ∧ w = w' := by
  have hm := h.2.1
  go_enter Try.func125, Try.ntmps125
  go_wp2
  go_loop [5, 8] (fun _ i => ∃ k : Nat, k ≤ l.length ∧ i = .int .i64 k ∧ Hid (∀ j (hj : j < l.length), j < k → (n == l[j]) = false)) (fun _ i => l.length - (intOf i).toNat)
  case atStart => exact ⟨0, Nat.zero_le _, rfl, fun j _ h => absurd h (by omega)⟩
  case round =>
    obtain ⟨k, hk, rfl, hn⟩ := hrel
    by_cases hlt : k < l.length
    · obtain ⟨ad, rfl, _, hc⟩ := h.int hlt
      have hlk : Hid (∀ y, y = l[k] → (n == y) = true → idxP (fun x => n == x) l = k) := fun y hy h1 => idxP_hit hlt (by rw [← hy]; exact h1) (fun j hj => hn j (by omega) hj)
      have hl2 : Hid (∀ y, y = l[k] → (n == y) = false → ∀ j (hj : j < l.length), j < k + 1 → (n == l[j]) = false) := fun y hy h1 j hj hjk => by
        by_cases e : j = k
        · subst e; rw [← hy]; exact h1
        · exact hn j hj (by omega)
      obtain ⟨x, hx⟩ : ∃ x, x = l[k] := ⟨_, rfl⟩
      have hl3 := Lib.hid hx
      rw [← hx] at hc
      clear hx
      by_cases hx : n = x
      · have hl4 := Lib.hid (hlk.out x hl3.out (by simpa using hx))
        subst hx
        go_wp2
        go_ret
        exact ⟨ret_int hl4.out.symm, rfl⟩
      · have hx' : (n == x) = false := by simpa using hx
        go_wp2
        go_round
        case rel => exact ⟨k + 1, by omega, by go_num, hl2.out x hl3.out hx'⟩
        case measure => simp [intOf]; omega
    · have : k = l.length := by omega
      subst this
      go_wp2
      go_ret
      exact ⟨ret_int (idxP_miss (fun j hj => hn.out j hj hj)).symm, rfl⟩
theorem inL_any (l : List Int) (n : Int) : l.any (fun x => n == x) = inL l n := by
  rw [Bool.eq_iff_iff, List.any_eq_true, inL_iff]
  constructor
  · rintro ⟨x, hx, h⟩
    rw [beq_iff_eq] at h
    exact h ▸ hx
  · intro h
    exact ⟨n, h, by simp⟩
theorem iContains (l : List Int) (n : Int) (A : Option Addr) (c B : Nat) (w : World) (h : ReadsI w B A l.length l) :
    Calls Try.prog 106 #[.slice A l.length c, .int .i64 n] w fun e w' => e = .returned (.bool (inL l n)) ∧ w = w' := by
  have e := (idxP_any (fun x => n == x) l).trans (inL_any l n)
  rw [← e]
  clear e
  go_enter Try.func106, Try.ntmps106
  go_wp2_with (go_at_call 125; refine (iIndex l n A c B _ h).mono ?_; rintro e w' ⟨rfl, rfl⟩)
  go_ret
  exact ⟨rfl, rfl⟩

/-! ### A predicate on values, as a function value -/
def PredV (g : Nat) (lb : Array Value) (p : Vl → Bool) (w : World) : Prop :=
  ∀ (W : World) (x : Vl), Below w.heap.size w W → Calls Try.prog g (#[.agg #[.int .i64 x.k, .int .i64 x.n]] ++ lb) W fun e w' => e = .returned (.bool (p x)) ∧ Below w.heap.size w w'
set_option maxHeartbeats 1000000 in
theorem iIndexFunc (p : Vl → Bool) (g : Nat) (lb : Array Value) (eg : ∀ args w, (callFunc g args).run Try.prog w = .ok (.enter g args) w) (l : List Vl) (A : Option Addr) (c B : Nat) (w : World) (h : ReadsV w B A l.length l) (hB : B ≤ w.heap.size) (hp : PredV g lb p w) :
    Calls Try.prog 110 #[.slice A l.length c, .func (.func g) #[] lb] w fun e w' => e = .returned (.int .i64 (idxP p l)) ∧ Below w.heap.size w w' := by
  have hm := h.2.1
  go_enter Try.func110, Try.ntmps110
  go_wp2
  go_loopg [5, 8] l.length (fun gg _ s8 wr => ∃ k : Nat, k ≤ l.length ∧ l.length - k ≤ gg ∧ s8 = .int .i64 k ∧ Hid (Below w.heap.size w wr) ∧ Hid (∀ j (hj : j < l.length), j < k → p l[j] = false))
  case atStart => exact ⟨0, Nat.zero_le _, by omega, rfl, Below.refl _ w, fun j _ h => absurd h (by omega)⟩
  case round =>
    obtain ⟨k, hk, hg, rfl, BW, hn⟩ := hrel
    by_cases hlt : k < l.length
    · have hlk : Hid (p l[k] = true → idxP p l = k) := fun h1 => idxP_hit hlt h1 (fun j hj => hn j (by omega) hj)
      have hl2 : Hid (p l[k] = false → ∀ j (hj : j < l.length), j < k + 1 → p l[j] = false) := fun h1 j hj hjk => by
        by_cases e : j = k
        · subst e; exact h1
        · exact hn j hj (by omega)
      obtain ⟨ad, rfl, hb, hc1, hc2⟩ := (h.below' BW.out hB).val hlt
      have hcall := hp wr l[k] BW.out
      clear hp
      generalize l[k] = x at hlk hl2 hc1 hc2 hcall
      obtain ⟨xk, xn⟩ := x
      cases hq : p ⟨xk, xn⟩ with
      | true =>
        rw [hq] at hcall
        go_wp2_with (go_at_fn g; refine hcall.mono ?_; rintro e w' ⟨rfl, hb'⟩)
        go_ret
        exact ⟨ret_int (hlk.out hq).symm, hb'⟩
      | false =>
        rw [hq] at hcall
        go_wp2_with (go_at_fn g; refine hcall.mono ?_; rintro e w' ⟨rfl, hb'⟩)
        go_roundg (l.length - (k + 1))
        case measure => omega
        case rel => exact ⟨k + 1, by omega, by omega, by go_num, hb', hl2.out hq⟩
    · have : k = l.length := by omega
      subst this
      go_wp2
      go_ret
      exact ⟨ret_int (idxP_miss (fun j hj => hn.out j hj hj)).symm, BW.out⟩
end Go.Proofs.Ytmidnaafljgbiaa
