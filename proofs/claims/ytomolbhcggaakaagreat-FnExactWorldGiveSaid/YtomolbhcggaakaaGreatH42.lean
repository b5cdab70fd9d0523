/- Parts of the proof, in one text. -/
import Derived.Test.YtomolbhcggaakaaGreatH24
import Derived.Test.YtomolbhcggaakaaGreatH19
import Derived.Test.YtomolbhcggaakaaGreatH22
import Derived.Test.YtomolbhcggaakaaGreatH18
/- How great a world is that was given to, and the row of an ok world: plain. -/
namespace Go.Proofs.YtomolbhcggaakaaGreat

theorem wok_queue {w : Wd} (h : worldOk w = true) : w.queue.length ≤ 6 := by
  have h1 := worldOk_iff.1 h
  have h2 := h1.len
  refine len6 (own := 0) (idsOk_iff.2 ⟨fun x hx => ?_, h1.qnd⟩)
  have := h1.qin x hx
  omega
theorem sizesR_set {l : List Rn} {k : Nat} (hk : k < l.length) (r : Rn) : sizesR (l.set k r) = sizesR l - sizeR l[k] + sizeR r := by
  induction l generalizing k with
  | nil => simp at hk
  | cons x l ih =>
    cases k with
    | zero => simp only [List.set_cons_zero, sizesR, List.getElem_cons_zero]; omega
    | succ k => simp only [List.set_cons_succ, sizesR, List.getElem_cons_succ, ih (by simpa using hk)]; omega
theorem give_size (w : Wd) (id : Int) (v : Vl) : (give w id v).queue.length ≤ w.queue.length + 1 ∧ sizesR (give w id v).runs ≤ sizesR w.runs + 1 := by
  unfold give
  split
  · rename_i h
    simp only [Bool.and_eq_true, decide_eq_true_eq] at h
    have h2 := aliveIn_iff.1 h.1
    refine ⟨?_, ?_⟩
    · show (if (getR w.runs id).state == 2 && fits v (opAt w.code (getR w.runs id).at_).s then w.queue ++ [id] else w.queue).length ≤ _
      split
      · simp
      · omega
    · have hk : (id - 1).toNat < w.runs.length := by omega
      have e : getR w.runs id = w.runs[(id - 1).toNat] := mem_getR h2.1.1 h2.1.2
      simp only [updR, e]
      rw [sizesR_set hk]
      generalize w.runs[(id - 1).toNat] = r
      have e3 : ∀ s : Int, sizeR { r with mail := r.mail ++ [v], state := s } = sizeR r + 1 := fun s => by unfold sizeR; simp only [List.length_append, List.length_singleton]; omega
      rw [e3]
      omega
  · exact ⟨Nat.le_succ _, by show sizesR w.runs ≤ _; omega⟩
theorem wGive_size (w : Wd) (id : Int) (v : Vl) (s0 : 0 ≤ sizesR w.runs) : (worldGive w id v).code.length ≤ w.code.length ∧ (worldGive w id v).runs.length ≤ w.runs.length ∧ (worldGive w id v).queue.length ≤ 7 ∧ sizesR (worldGive w id v).runs ≤ sizesR w.runs + 1 := by
  unfold worldGive
  split
  · rename_i h
    simp only [Bool.and_eq_true] at h
    have hq := wok_queue h.1.1
    have h := give_size w id v
    rw [give_code, give_length]
    exact ⟨Nat.le_refl _, Nat.le_refl _, by omega, h.2⟩
  · exact ⟨Nat.zero_le _, Nat.zero_le _, Nat.zero_le _, by show (0 : Int) ≤ _; omega⟩
end Go.Proofs.YtomolbhcggaakaaGreat
/- Numbers without one, by the reference. -/
namespace Go.Proofs.YtomolbhcggaakaaGreat
open Go.RowKit
set_option maxRecDepth 100000

theorem less_succ {l : List Int} {k : Nat} (hk : k < l.length) (n : Int) : less (l.take (k + 1)) n = less (l.take k) n ++ (if l[k] == n then [] else [l[k]]) := by
  unfold less
  rw [takeS l hk, List.filter_append]
  congr 1
  by_cases h : l[k] = n
  · simp [h]
  · simp [h]
theorem less_le (l : List Int) (n : Int) : (less l n).length ≤ l.length := List.length_filter_le _ _
set_option maxHeartbeats 2000000 in
theorem sLess (l : List Int) (n : Int) (A : Option Addr) (c B : Nat) (w : World) (h : ReadsI w B A l.length l) (hB : B ≤ w.heap.size) (hs : l.length ≤ 1000000) :
    Calls Tryz.prog 146 #[.slice A l.length c, .int .i64 n] w fun e w' => ∃ (A' : Option Addr) (c' : Nat), e = .returned (.slice A' (less l n).length c') ∧ Mem w [] w' [rowI A' c' (less l n)] := by
  have HR := Lib.hid (fun V (hb : Below w.heap.size w V) => h.below' hb hB)
  have M := Mem.nil w
  have HF : Hid (∀ V A' c', Mem w [] V [rowI A' c' (less l n)] → (fun (e : Ending) w' => ∃ (A' : Option Addr) (c' : Nat), e = .returned (.slice A' (less l n).length c') ∧ Mem w [] w' [rowI A' c' (less l n)]) (.returned (.slice A' (less l n).length c')) V) := fun V A' c' M => ⟨A', c', rfl, M⟩
  clear h hB
  go_enter Tryz.func146, Tryz.ntmps146
  go_wp2_with (first | (with_reducible refine alAw M ?_; clear M; (try clear F); intro w1 M F))
  (refine nmw (G := fun W => Code.wp _ _ _ _ W) ?_; clear M; (try clear F); intro w1 M F)
  have M2 : Mem w [] w1 [rowI (some ⟨w.heap.size, 0, none⟩) 0 []] := Mem.row_of encI_length (xs := []) M rfl (by simp)
  clear M F
  go_loopg [5, 6] l.length (fun gg v i wr => ∃ (k : Nat) (A' : Option Addr) (c' : Nat), k ≤ l.length ∧ l.length - k ≤ gg ∧ v = .slice A' (less (l.take k) n).length c' ∧ i = .int .i64 k ∧ Hid (Mem w [] wr [row encI 1 tI A' c' (less (l.take k) n)]))
  case atStart => exact ⟨0, _, _, by omega, by omega, rfl, rfl, M2⟩
  case round =>
    clear M2
    obtain ⟨k, A', c', hk, hg, rfl, rfl, M⟩ := hrel
    replace M := M.out
    (try clear F); have F := fxw M
    by_cases hlt : k < l.length
    · obtain ⟨ad, rfl, _, hc⟩ := (HR.out _ M.toBelow).int hlt
      have e1 := less_succ hlt n
      have al : (less (l.take k) n).length ≤ k := by
        have h5 := less_le (l.take k) n
        rw [List.length_take] at h5
        omega
      generalize l[k] = x at hc e1
      generalize less (l.take k) n = q at M e1 al
      have i1 : (0 : Int) ≤ k := by omega
      have i2 : (k : Int) < l.length := by omega
      have wi : IntKind.i64.wrap ((k : Int) + 1) = (k : Int) + 1 := by rw [IntKind.wrap_i64]; omega
      by_cases hx : x = n
      · subst hx
        have e2 : less (l.take (k + 1)) x = q := by rw [e1]; simp
        have e2 := Lib.hid e2
        clear e1
        go_wp2
        go_roundg (l.length - (k + 1))
        case measure => omega
        case rel => exact ⟨k + 1, A', c', by omega, by omega, by rw [e2.out], by go_num, by rw [e2.out]; exact M⟩
      · have hx2 : (x != n) = true := by simpa using hx
        have e2 : less (l.take (k + 1)) n = q ++ [x] := by rw [e1, if_neg (by simpa using hx)]
        have e2 := Lib.hid e2
        clear e1 hx
        go_wp2_with (first | ((with_reducible refine alAw M ?_; clear M; (try clear F); intro w1 M F); ((with_reducible apply ev_app1 (enc := encI) (v := x) (hk := encI_length) (hone := oneIx) (h0 := by decide) (hinfo := infIx) (ht := Tryz.underlying24) (M := M)); rfl; rfl; (exact dl); (exact dl); rfl; rfl; (first | exact Nat.le_of_ble_eq_true rfl | omega); (exact Nat.le_of_ble_eq_true rfl); clear M; intro A1 c1 w1 M; replace M := Mem.perm M (.swap _ _ _) |> Mem.drop; (try clear F); have F := fxw M)))
        go_roundg (l.length - (k + 1))
        case measure => omega
        case rel => exact ⟨k + 1, A1, c1, by omega, by omega, by rw [e2.out, List.length_append]; rfl, by go_num, by rw [e2.out]; exact M⟩
    · have : k = l.length := by omega
      subst this
      rw [List.take_length] at M ⊢
      have M := Lib.hid M
      go_wp2
      go_ret
      exact HF.out _ _ _ M.out
end Go.Proofs.YtomolbhcggaakaaGreat
