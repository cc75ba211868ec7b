/- Walks: the statement ShareEnters. -/
import Derived.Test.YtlkbcjhemhmfoaaGreatDoorWe4
set_option linter.unusedSimpArgs false
set_option linter.unusedVariables false
namespace Go.AM
open Go Go.Proofs
set_option maxRecDepth 10000
set_option maxHeartbeats 1000000

theorem entL_len (xs : List Evt) (e : Evt) : (entL xs e).length ≤ xs.length + 1 := by
  unfold entL
  split <;> simp
theorem c_shareEnters (xs : List Evt) (full : Bool) (e : Evt) : Ct0 envB 14 [.agg [.sl (some (0, 0)) xs.length full 10], .agg e.c] [⟨0, false, none, .raw (arr Evt.c xs)⟩] 1 (.one (.bool true)) := by
  refine Ct.of zB (fn := Tryz.f14) (by kernel_rfl) (by kernel_rfl) rfl rfl ?_
  refine Rn.split zB 1000 rfl (fun h => ?_) (fun h => ?_)
  · cases h
  refine Rn.split zB 1000 rfl (fun hl => ?_) (fun hl => ?_)
  · exact Rn.fin0 zB 1000 rfl rfl rfl rfl rfl
  have hl : xs.length ≤ 260 := by simp at hl; omega
  refine Rn.call zB 1000 rfl (c_enter xs full (by omega) e) [some 0] rfl (by (repeat' first | exact trivial | exact rfl | exact Or.inl (And.intro rfl rfl) | exact wsucc _ (by omega) | refine And.intro ?_ ?_ | refine Or.inr ?_)) (by (repeat' first | exact trivial | exact rfl | exact (by decide) | exact Or.inl (And.intro rfl rfl) | refine And.intro ?_ ?_ | refine Exists.intro _ (Exists.intro _ (And.intro rfl (And.intro (by decide) ?_))))) rfl rfl rfl (fun _ => ⟨_, _, rfl, ?_⟩)
  refine Rn.call zB 1000 rfl (c_renter xs full (by omega) e) [some 0] rfl (by (repeat' first | exact trivial | exact rfl | exact Or.inl (And.intro rfl rfl) | exact wsucc _ (by omega) | refine And.intro ?_ ?_ | refine Or.inr ?_)) (by (repeat' first | exact trivial | exact rfl | exact (by decide) | exact Or.inl (And.intro rfl rfl) | refine And.intro ?_ ?_ | refine Exists.intro _ (Exists.intro _ (And.intro rfl (And.intro (by decide) ?_))))) rfl rfl rfl (fun _ => ⟨_, _, rfl, ?_⟩)
  refine Rn.draw zB 1000 [0, 1, 0, 7, 15, 31, 63, 127, 63, 511, 1023, 2047, 4095, 8191, 8191, 32767, 65535, 131071, 262143, 262143, 1048575, 2097151, 4194303] rfl (by kernel_rfl) (by kernel_rfl) ?_
  refine Rn.split zB 1000 rfl (fun h => ?_) (fun h => ?_)
  · refine Rn.call0d zB 1000 rfl (c_check xs full (by omega)) [some 0] rfl rfl rfl (by (repeat' first | exact trivial | exact rfl | exact Or.inl (And.intro rfl rfl) | exact wsucc _ (by omega) | refine And.intro ?_ ?_ | refine Or.inr ?_)) (by (repeat' first | exact trivial | exact rfl | exact (by decide) | exact Or.inl (And.intro rfl rfl) | refine And.intro ?_ ?_ | refine Exists.intro _ (Exists.intro _ (And.intro rfl (And.intro (by decide) ?_))))) rfl rfl rfl rfl ?_
    refine Rn.call0d zB 1000 rfl (c_rcheck xs full (by omega)) [some 0] rfl rfl rfl (by (repeat' first | exact trivial | exact rfl | exact Or.inl (And.intro rfl rfl) | exact wsucc _ (by omega) | refine And.intro ?_ ?_ | refine Or.inr ?_)) (by (repeat' first | exact trivial | exact rfl | exact (by decide) | exact Or.inl (And.intro rfl rfl) | refine And.intro ?_ ?_ | refine Exists.intro _ (Exists.intro _ (And.intro rfl (And.intro (by decide) ?_))))) rfl rfl rfl rfl ?_
    refine Rn.split zB 1000 rfl (fun h => ?_) (fun h => ?_)
    · have hle := entL_len xs e
      have c := c_sameReg (entL xs e) (entL xs e) false false (by omega) (by omega)
      rw [decide_eq_true rfl] at c
      refine Rn.call0d zB 1000 rfl (c) [some 3, some 5] rfl rfl rfl (by (repeat' first | exact trivial | exact rfl | exact Or.inl (And.intro rfl rfl) | exact wsucc _ (by omega) | refine And.intro ?_ ?_ | refine Or.inr ?_)) (by (repeat' first | exact trivial | exact rfl | exact (by decide) | exact Or.inl (And.intro rfl rfl) | refine And.intro ?_ ?_ | refine Exists.intro _ (Exists.intro _ (And.intro rfl (And.intro (by decide) ?_))))) rfl rfl rfl rfl ?_
      refine Rn.split zB 1000 rfl (fun h => ?_) (fun h => ?_)
      · refine Rn.fin0 zB 1000 rfl rfl rfl rfl ?_
        simp
      · cases h
    · simp at h
  · simp at h

end Go.AM
