/- Walks: the statement SharePromises. -/
import Derived.Test.YtlkbcjhemhmfoaaGreatDoorWs6
set_option linter.unusedSimpArgs false
set_option linter.unusedVariables false
namespace Go.AM
open Go Go.Proofs
set_option maxRecDepth 10000
set_option maxHeartbeats 1000000

theorem c_sharePromises (rs : List Rt) (ss : List Su) (po : List Po) (vs : List Int) (f1 f2 f3 f4 : Bool) : Ct0 envB 8 [shA rs.length ss.length po.length f1 f2 f3, slA 3 0 vs.length f4 1] (shV rs ss po vs) 4 (.one (.bool true)) := by
  refine Ct.of zB (fn := Tryz.f8) (by kernel_rfl) (by kernel_rfl) rfl rfl ?_
  refine Rn.split zB 1000 rfl (fun h => ?_) (fun h => ?_)
  · cases h
  refine Rn.call0 zB 1000 rfl (c_light rs ss po f1 f2 f3) [some 0, some 1, some 2] rfl rfl (by (repeat' first | exact trivial | exact rfl | exact Or.inl (And.intro rfl rfl) | exact wsucc _ (by omega) | exact wlin (by first | omega | (push_cast; omega)) (by omega) | exact wint (by omega) (by omega) | refine And.intro ?_ ?_ | refine Or.inr ?_)) (by (repeat' first | exact trivial | exact rfl | exact (by decide) | exact zerosI _ | exact zerosN _ | exact OfRaw.rows (by omega) | exact Or.inl (And.intro rfl rfl) | refine And.intro ?_ ?_ | refine Exists.intro _ (Exists.intro _ (And.intro rfl (And.intro (by decide) ?_))))) rfl rfl rfl rfl rfl ?_
  refine Rn.split zB 1000 rfl (fun hl => ?_) (fun hl => ?_)
  · exact Rn.fin0 zB 1000 rfl rfl rfl rfl rfl
  have hl := lightB_t (by simpa using hl)
  obtain ⟨l1, l2, l3⟩ := hl
  refine Rn.call0 zB 1000 rfl (c_enough rs ss po vs f1 f2 f3 f4 (by omega) (by omega) (by omega)) [some 0, some 1, some 2, some 3] rfl rfl (by (repeat' first | exact trivial | exact rfl | exact Or.inl (And.intro rfl rfl) | exact wsucc _ (by omega) | exact wlin (by first | omega | (push_cast; omega)) (by omega) | exact wint (by omega) (by omega) | refine And.intro ?_ ?_ | refine Or.inr ?_)) (by (repeat' first | exact trivial | exact rfl | exact (by decide) | exact zerosI _ | exact zerosN _ | exact OfRaw.rows (by omega) | exact Or.inl (And.intro rfl rfl) | refine And.intro ?_ ?_ | refine Exists.intro _ (Exists.intro _ (And.intro rfl (And.intro (by decide) ?_))))) rfl rfl rfl rfl rfl ?_
  refine Rn.call0 zB 1000 rfl (c_renough rs ss po vs f1 f2 f3 f4 (by omega) (by omega) (by omega)) [some 0, some 1, some 2, some 3] rfl rfl (by (repeat' first | exact trivial | exact rfl | exact Or.inl (And.intro rfl rfl) | exact wsucc _ (by omega) | exact wlin (by first | omega | (push_cast; omega)) (by omega) | exact wint (by omega) (by omega) | refine And.intro ?_ ?_ | refine Or.inr ?_)) (by (repeat' first | exact trivial | exact rfl | exact (by decide) | exact zerosI _ | exact zerosN _ | exact OfRaw.rows (by omega) | exact Or.inl (And.intro rfl rfl) | refine And.intro ?_ ?_ | refine Exists.intro _ (Exists.intro _ (And.intro rfl (And.intro (by decide) ?_))))) rfl rfl rfl rfl rfl ?_
  refine Rn.call zB 1000 rfl (c_promise rs ss po f1 f2 f3 (by omega) (by omega) (by omega)) [some 0, some 1, some 2] rfl (by (repeat' first | exact trivial | exact rfl | exact Or.inl (And.intro rfl rfl) | exact wsucc _ (by omega) | exact wlin (by first | omega | (push_cast; omega)) (by omega) | exact wint (by omega) (by omega) | refine And.intro ?_ ?_ | refine Or.inr ?_)) (by (repeat' first | exact trivial | exact rfl | exact (by decide) | exact zerosI _ | exact zerosN _ | exact OfRaw.rows (by omega) | exact Or.inl (And.intro rfl rfl) | refine And.intro ?_ ?_ | refine Exists.intro _ (Exists.intro _ (And.intro rfl (And.intro (by decide) ?_))))) rfl rfl rfl ?_
  rintro ⟨_, hP⟩
  refine ⟨_, _, rfl, ?_⟩
  refine Rn.call zB 1000 rfl (c_rpromise rs ss po f1 f2 f3 (by omega) (by omega) (by omega) hP) [some 0, some 1, some 2] rfl (by (repeat' first | exact trivial | exact rfl | exact Or.inl (And.intro rfl rfl) | exact wsucc _ (by omega) | exact wlin (by first | omega | (push_cast; omega)) (by omega) | exact wint (by omega) (by omega) | refine And.intro ?_ ?_ | refine Or.inr ?_)) (by (repeat' first | exact trivial | exact rfl | exact (by decide) | exact zerosI _ | exact zerosN _ | exact OfRaw.rows (by omega) | exact Or.inl (And.intro rfl rfl) | refine And.intro ?_ ?_ | refine Exists.intro _ (Exists.intro _ (And.intro rfl (And.intro (by decide) ?_))))) rfl rfl rfl (fun _ => ⟨_, _, rfl, ?_⟩)
  refine Rn.call zB 1000 rfl (c_short rs ss po f1 f2 f3 (by omega) (by omega) (by omega)) [some 0, some 1, some 2] rfl (by (repeat' first | exact trivial | exact rfl | exact Or.inl (And.intro rfl rfl) | exact wsucc _ (by omega) | exact wlin (by first | omega | (push_cast; omega)) (by omega) | exact wint (by omega) (by omega) | refine And.intro ?_ ?_ | refine Or.inr ?_)) (by (repeat' first | exact trivial | exact rfl | exact (by decide) | exact zerosI _ | exact zerosN _ | exact OfRaw.rows (by omega) | exact Or.inl (And.intro rfl rfl) | refine And.intro ?_ ?_ | refine Exists.intro _ (Exists.intro _ (And.intro rfl (And.intro (by decide) ?_))))) rfl rfl rfl (fun _ => ⟨_, _, rfl, ?_⟩)
  refine Rn.call zB 1000 rfl (c_rshort rs ss po f1 f2 f3 (by omega) (by omega) (by omega) hP) [some 0, some 1, some 2] rfl (by (repeat' first | exact trivial | exact rfl | exact Or.inl (And.intro rfl rfl) | exact wsucc _ (by omega) | exact wlin (by first | omega | (push_cast; omega)) (by omega) | exact wint (by omega) (by omega) | refine And.intro ?_ ?_ | refine Or.inr ?_)) (by (repeat' first | exact trivial | exact rfl | exact (by decide) | exact zerosI _ | exact zerosN _ | exact OfRaw.rows (by omega) | exact Or.inl (And.intro rfl rfl) | refine And.intro ?_ ?_ | refine Exists.intro _ (Exists.intro _ (And.intro rfl (And.intro (by decide) ?_))))) rfl rfl rfl (fun _ => ⟨_, _, rfl, ?_⟩)
  refine Rn.draw zB 1000 [0, 1, 0, 7, 15, 31, 63, 63, 255, 511, 1023, 2047, 2047, 8191, 16383, 32767, 65535, 65535, 262143, 524287, 1048575, 2097151, 2097151, 8388607, 16777215, 33554431, 67108863, 67108863, 268435455, 536870911, 1073741823, 2147483647, 2147483647, 8589934591, 17179869183, 34359738367] rfl (by kernel_rfl) (by kernel_rfl) ?_
  refine Rn.call0d zB 1000 rfl (c_checkShare rs ss po f1 f2 f3 (by omega) (by omega) (by omega)) [some 0, some 1, some 2] rfl rfl rfl (by (repeat' first | exact trivial | exact rfl | exact Or.inl (And.intro rfl rfl) | exact wsucc _ (by omega) | exact wlin (by first | omega | (push_cast; omega)) (by omega) | exact wint (by omega) (by omega) | refine And.intro ?_ ?_ | refine Or.inr ?_)) (by (repeat' first | exact trivial | exact rfl | exact (by decide) | exact zerosI _ | exact zerosN _ | exact OfRaw.rows (by omega) | exact Or.inl (And.intro rfl rfl) | refine And.intro ?_ ?_ | refine Exists.intro _ (Exists.intro _ (And.intro rfl (And.intro (by decide) ?_))))) rfl rfl rfl rfl ?_
  refine Rn.call0d zB 1000 rfl (c_rcheckShare rs ss po f1 f2 f3 (by omega) (by omega) (by omega)) [some 0, some 1, some 2] rfl rfl rfl (by (repeat' first | exact trivial | exact rfl | exact Or.inl (And.intro rfl rfl) | exact wsucc _ (by omega) | exact wlin (by first | omega | (push_cast; omega)) (by omega) | exact wint (by omega) (by omega) | refine And.intro ?_ ?_ | refine Or.inr ?_)) (by (repeat' first | exact trivial | exact rfl | exact (by decide) | exact zerosI _ | exact zerosN _ | exact OfRaw.rows (by omega) | exact Or.inl (And.intro rfl rfl) | refine And.intro ?_ ?_ | refine Exists.intro _ (Exists.intro _ (And.intro rfl (And.intro (by decide) ?_))))) rfl rfl rfl rfl ?_
  refine Rn.split zB 1000 rfl (fun e1 => ?_) (fun e1 => ?_)
  rotate_left
  · simp at e1
  refine Rn.split zB 1000 rfl (fun e2 => ?_) (fun e2 => ?_)
  rotate_left
  · simp at e2
  refine Rn.split zB 1000 rfl (fun e3 => ?_) (fun e3 => ?_)
  rotate_left
  · simp at e3
  have hn : (promL rs ss po).length ≤ 40 := by
    by_cases e : shErr rs ss po = 0
    · have := (hP e).len; omega
    · rw [promL_bad fun c => e (shErr_ok c)]; decide
  have hs : (shoL rs ss po).length ≤ 40 := by
    by_cases e : shErr rs ss po = 0
    · rw [shoL_ok e]; have := shortN_len rs (promL rs ss po) rs.length; omega
    · rw [shoL_bad e]; decide
  have ce := c_equal (promL rs ss po) (promL rs ss po) true false (by omega)
  rw [decide_eq_true rfl] at ce
  refine Rn.call0d zB 1000 rfl (ce) [some 5, some 6] rfl rfl rfl (by (repeat' first | exact trivial | exact rfl | exact Or.inl (And.intro rfl rfl) | exact wsucc _ (by omega) | exact wlin (by first | omega | (push_cast; omega)) (by omega) | exact wint (by omega) (by omega) | refine And.intro ?_ ?_ | refine Or.inr ?_)) (by (repeat' first | exact trivial | exact rfl | exact (by decide) | exact zerosI _ | exact zerosN _ | exact OfRaw.rows (by omega) | exact Or.inl (And.intro rfl rfl) | refine And.intro ?_ ?_ | refine Exists.intro _ (Exists.intro _ (And.intro rfl (And.intro (by decide) ?_))))) rfl rfl rfl rfl ?_
  refine Rn.split zB 1000 rfl (fun e4 => ?_) (fun e4 => ?_)
  rotate_left
  · cases e4
  refine Rn.split zB 1000 rfl (fun e5 => ?_) (fun e5 => ?_)
  rotate_left
  · simp at e5
  have ce := c_equalN (shoL rs ss po) (shoL rs ss po) false false (by omega)
  rw [decide_eq_true rfl] at ce
  refine Rn.call0d zB 1000 rfl (ce) [some 7, some 8] rfl rfl rfl (by (repeat' first | exact trivial | exact rfl | exact Or.inl (And.intro rfl rfl) | exact wsucc _ (by omega) | exact wlin (by first | omega | (push_cast; omega)) (by omega) | exact wint (by omega) (by omega) | refine And.intro ?_ ?_ | refine Or.inr ?_)) (by (repeat' first | exact trivial | exact rfl | exact (by decide) | exact zerosI _ | exact zerosN _ | exact OfRaw.rows (by omega) | exact Or.inl (And.intro rfl rfl) | refine And.intro ?_ ?_ | refine Exists.intro _ (Exists.intro _ (And.intro rfl (And.intro (by decide) ?_))))) rfl rfl rfl rfl ?_
  refine Rn.split zB 1000 rfl (fun e6 => ?_) (fun e6 => ?_)
  rotate_left
  · cases e6
  refine Rn.fin0 zB 1000 rfl rfl rfl rfl ?_
  simp
end Go.AM
