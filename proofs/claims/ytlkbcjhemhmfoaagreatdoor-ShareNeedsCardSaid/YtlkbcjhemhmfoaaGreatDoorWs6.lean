/- Walks: light, and the equality of lists. -/
import Derived.Test.YtlkbcjhemhmfoaaGreatDoorWs5
set_option linter.unusedSimpArgs false
set_option linter.unusedVariables false
namespace Go.AM
open Go Go.Proofs
set_option maxRecDepth 10000
set_option maxHeartbeats 1000000

def lightB (r s p : Nat) : Bool := decide ((r ≤ 8 ∧ s ≤ 10 ∧ p ≤ 10) ∨ (32 < r ∧ r < 40 ∧ s < 70 ∧ p < 70) ∨ (64 < s ∧ s < 70 ∧ r < 40 ∧ p < 70) ∨ (64 < p ∧ p < 70 ∧ r < 40 ∧ s < 70))
theorem lightB_t {r s p : Nat} (h : lightB r s p = true) : r < 40 ∧ s < 70 ∧ p < 70 := by
  unfold lightB at h
  have := of_decide_eq_true h
  omega
theorem dec_eq {p : Prop} [Decidable p] {b : Bool} (h : b = true ↔ p) : b = decide p := by
  cases b with
  | true => exact (decide_eq_true (h.1 rfl)).symm
  | false => exact (decide_eq_false fun c => by have := h.2 c; cases this).symm
theorem lightV {r s p : Nat} {b : Bool} (h : b = true ↔ ((r ≤ 8 ∧ s ≤ 10 ∧ p ≤ 10) ∨ (32 < r ∧ r < 40 ∧ s < 70 ∧ p < 70) ∨ (64 < s ∧ s < 70 ∧ r < 40 ∧ p < 70) ∨ (64 < p ∧ p < 70 ∧ r < 40 ∧ s < 70))) : AV.one (.bool b) = AV.one (.bool (lightB r s p)) := by
  unfold lightB
  rw [← dec_eq h]
theorem c_light (rs : List Rt) (ss : List Su) (po : List Po) (f1 f2 f3 : Bool) : Ct0 envB 18 [shA rs.length ss.length po.length f1 f2 f3] (shB rs ss po) 3 (.one (.bool (lightB rs.length ss.length po.length))) := by
  refine Ct.of zB (fn := Tryz.f18) (by kernel_rfl) (by kernel_rfl) rfl rfl ?_
  refine Rn.draw zB 1000 [0, 1, 3, 0, 8, 24, 0, 64, 192, 7, 575, 2047] rfl (by kernel_rfl) (by kernel_rfl) ?_
  repeat' first
    | (rename_i h; exact absurd h (by decide))
    | (refine Rn.fin0 zB 1000 rfl rfl rfl rfl ?_; refine lightV ?_; simp at *; omega)
    | refine Rn.split zB 1000 rfl (fun h => ?_) (fun h => ?_)

theorem sameMore {α : Type} {xs ys : List α} {i : Nat} (h : ∀ j, j < i → xs[j]? = ys[j]?) (e : xs[i]? = ys[i]?) : ∀ j, j < i + 1 → xs[j]? = ys[j]? := fun j hj => by
  by_cases c : j = i
  · subst c; exact e
  · exact h j (by omega)
theorem eqPlaces {α : Type} {xs ys : List α} (hl : xs.length = ys.length) (h : ∀ j, j < xs.length → xs[j]? = ys[j]?) : xs = ys := by
  apply List.ext_getElem?
  intro j
  by_cases c : j < xs.length
  · exact h j c
  · rw [List.getElem?_eq_none (by omega), List.getElem?_eq_none (by omega)]
theorem c_equal (xs ys : List Int) (fa fb : Bool) (hb : xs.length < 1152921504606846976) : Ct0 envB 46 [slA 0 0 xs.length fa 1, slA 1 0 ys.length fb 1] [⟨0, false, none, .raw (arr iC xs)⟩, ⟨1, false, none, .raw (arr iC ys)⟩] 2 (.one (.bool (decide (xs = ys)))) := by
  refine Ct.of zB (fn := Tryz.f46) (by kernel_rfl) (by kernel_rfl) rfl rfl ?_
  refine Rn.split zB 1000 rfl (fun hl => ?_) (fun hl => ?_)
  · refine Rn.fin0 zB 1000 rfl rfl rfl rfl ?_
    have hl : xs.length ≠ ys.length := by simp at hl; omega
    rw [decide_eq_false (fun h => hl (by rw [h]))]
  have hl : xs.length = ys.length := by simp at hl; omega
  refine Rn.loop zB 1000 rfl (T := Nat) (fun i => xs.length - i) (fun i => i ≤ xs.length ∧ ∀ j, j < i → xs[j]? = ys[j]?) (fun i => [(13, iA i), (12, iA xs.length), (1, slA 1 0 ys.length fb 1), (0, slA 0 0 xs.length fa 1)]) (fun _ => [⟨0, false, none, .raw (arr iC xs)⟩, ⟨1, false, none, .raw (arr iC ys)⟩]) (fun _ => 2) (0) [some 0, some 1] (⟨Nat.zero_le _, fun j h => absurd h (Nat.not_lt_zero j)⟩) ⟨rfl, rfl, rfl, rfl, rfl, by (repeat' first | exact trivial | exact rfl | exact Or.inl (And.intro rfl rfl) | exact wsucc _ (by omega) | exact wlin (by first | omega | (push_cast; omega)) (by omega) | exact wint (by omega) (by omega) | refine And.intro ?_ ?_ | refine Or.inr ?_), by (repeat' first | exact trivial | exact rfl | exact (by decide) | exact zerosI _ | exact zerosN _ | exact OfRaw.rows (by omega) | exact Or.inl (And.intro rfl rfl) | refine And.intro ?_ ?_ | refine Exists.intro _ (Exists.intro _ (And.intro rfl (And.intro (by decide) ?_))))⟩ ?_
  rintro i ⟨hi, he⟩
  refine Rn.split zB 1000 rfl (fun h => ?_) (fun h => ?_)
  · have hlt : i < xs.length := by simpa using h
    obtain ⟨a, ha⟩ : ∃ a, xs[i]? = some a := ⟨xs[i], List.getElem?_eq_getElem (by omega)⟩
    obtain ⟨b, hb'⟩ : ∃ b, ys[i]? = some b := ⟨ys[i], List.getElem?_eq_getElem (by omega)⟩
    refine Rn.draw zB 1000 [0, 0, 3, 7, 0, 0, 48, 112, 255] rfl (by kernel_rfl) (by kernel_rfl) ?_
    refine Rn.ask zB 1000 rfl ⟨by first | omega | (dsimp only; omega), by first | omega | (dsimp only; omega)⟩ ?_
    refine Rn.loadR zB 1000 rfl (LoadR.fld eI (f := 0) (v := .int .i64 a) ha (by simp) rfl rfl) ?_
    refine Rn.ask zB 1000 rfl ⟨by first | omega | (dsimp only; omega), by first | omega | (dsimp only; omega)⟩ ?_
    refine Rn.loadR zB 1000 rfl (LoadR.fld eI (f := 0) (v := .int .i64 b) hb' (by simp) rfl rfl) ?_
    refine Rn.split zB 1000 rfl (fun hz => ?_) (fun hz => ?_)
    · refine Rn.out zB 1000 rfl rfl ?_
      refine Rn.fin0 zB 1000 rfl rfl rfl rfl ?_
      have hz : a ≠ b := by simpa using hz
      rw [decide_eq_false (fun h => hz (by rw [h, hb'] at ha; injection ha with ha; exact ha.symm))]
    · have hz : a = b := by simpa using hz
      refine Rn.again zB 1000 rfl (i + 1) [some 0, some 1] (by omega) (⟨by omega, sameMore he (by rw [ha, hb', hz])⟩) ⟨rfl, rfl, rfl, rfl, rfl, by (repeat' first | exact trivial | exact rfl | exact Or.inl (And.intro rfl rfl) | exact wsucc _ (by omega) | exact wlin (by first | omega | (push_cast; omega)) (by omega) | exact wint (by omega) (by omega) | refine And.intro ?_ ?_ | refine Or.inr ?_), by (repeat' first | exact trivial | exact rfl | exact (by decide) | exact zerosI _ | exact zerosN _ | exact OfRaw.rows (by omega) | exact Or.inl (And.intro rfl rfl) | refine And.intro ?_ ?_ | refine Exists.intro _ (Exists.intro _ (And.intro rfl (And.intro (by decide) ?_))))⟩
  · refine Rn.out zB 1000 rfl rfl ?_
    refine Rn.fin0 zB 1000 rfl rfl rfl rfl ?_
    have : i = xs.length := by simp at h; omega
    rw [decide_eq_true (eqPlaces hl (this ▸ he))]
theorem arr_nat : ∀ l : List Nat, arr nC l = arr iC (l.map fun n : Nat => (n : Int))
  | [] => rfl
  | n :: l => by rw [List.map_cons, arr_cons, arr_cons, arr_nat l]; rfl
theorem c_equalN (xs ys : List Nat) (fa fb : Bool) (hb : xs.length < 1152921504606846976) : Ct0 envB 46 [slA 0 0 xs.length fa 1, slA 1 0 ys.length fb 1] [⟨0, false, none, .raw (arr nC xs)⟩, ⟨1, false, none, .raw (arr nC ys)⟩] 2 (.one (.bool (decide (xs.map (fun n : Nat => (n : Int)) = ys.map (fun n : Nat => (n : Int)))))) := by
  have c := c_equal (xs.map fun n : Nat => (n : Int)) (ys.map fun n : Nat => (n : Int)) fa fb (by simpa using hb)
  rw [← arr_nat, ← arr_nat, List.length_map, List.length_map] at c
  exact c

end Go.AM
