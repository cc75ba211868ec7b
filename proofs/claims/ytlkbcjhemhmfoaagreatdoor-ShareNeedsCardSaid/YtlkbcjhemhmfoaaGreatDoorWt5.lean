/- Walks: the statement ShareNeeds. -/
import Derived.Test.YtlkbcjhemhmfoaaGreatDoorWy3
import Derived.Test.YtlkbcjhemhmfoaaGreatDoorWs6
set_option linter.unusedSimpArgs false
set_option linter.unusedVariables false
namespace Go.AM
open Go Go.Proofs
set_option maxRecDepth 10000
set_option maxHeartbeats 1000000

theorem c_shareNeeds (rs : List Rt) (ss : List Su) (po : List Po) (right v d : Int) (f1 f2 f3 : Bool) : Ct0 envB 5 [shA rs.length ss.length po.length f1 f2 f3, iA right, iA v, iA d] (shB rs ss po) 3 (.one (.bool true)) := by
  refine Ct.of zB (fn := Tryz.f5) (by kernel_rfl) (by kernel_rfl) rfl rfl ?_
  refine Rn.split zB 1000 rfl (fun h => ?_) (fun h => ?_)
  · cases h
  refine Rn.call0 zB 1000 rfl (c_light rs ss po f1 f2 f3) [some 0, some 1, some 2] rfl rfl (by (repeat' first | exact trivial | exact rfl | exact Or.inl (And.intro rfl rfl) | exact wsucc _ (by omega) | exact wlin (by first | omega | (push_cast; omega)) (by omega) | exact wint (by omega) (by omega) | refine And.intro ?_ ?_ | refine Or.inr ?_)) (by (repeat' first | exact trivial | exact rfl | exact (by decide) | exact zerosI _ | exact zerosN _ | exact OfRaw.rows (by omega) | exact Or.inl (And.intro rfl rfl) | refine And.intro ?_ ?_ | refine Exists.intro _ (Exists.intro _ (And.intro rfl (And.intro (by decide) ?_))))) rfl rfl rfl rfl rfl ?_
  refine Rn.split zB 1000 rfl (fun hl => ?_) (fun hl => ?_)
  · exact Rn.fin0 zB 1000 rfl rfl rfl rfl rfl
  have hl := lightB_t (by simpa using hl)
  obtain ⟨l1, l2, l3⟩ := hl
  refine Rn.call zB 1000 rfl (c_need rs ss po f1 f2 f3 right v d (by omega) (by omega) (by omega)) [some 0, some 1, some 2] rfl (by (repeat' first | exact trivial | exact rfl | exact Or.inl (And.intro rfl rfl) | exact wsucc _ (by omega) | exact wlin (by first | omega | (push_cast; omega)) (by omega) | exact wint (by omega) (by omega) | refine And.intro ?_ ?_ | refine Or.inr ?_)) (by (repeat' first | exact trivial | exact rfl | exact (by decide) | exact zerosI _ | exact zerosN _ | exact OfRaw.rows (by omega) | exact Or.inl (And.intro rfl rfl) | refine And.intro ?_ ?_ | refine Exists.intro _ (Exists.intro _ (And.intro rfl (And.intro (by decide) ?_))))) rfl rfl rfl ?_
  rintro ⟨⟨x, a, e⟩, hx⟩
  refine ⟨_, _, rfl, ?_⟩
  refine Rn.call zB 1000 rfl (c_rneed rs ss po f1 f2 f3 right v d (by omega) (by omega) (by omega)) [some 0, some 1, some 2] rfl (by (repeat' first | exact trivial | exact rfl | exact Or.inl (And.intro rfl rfl) | exact wsucc _ (by omega) | exact wlin (by first | omega | (push_cast; omega)) (by omega) | exact wint (by omega) (by omega) | refine And.intro ?_ ?_ | refine Or.inr ?_)) (by (repeat' first | exact trivial | exact rfl | exact (by decide) | exact zerosI _ | exact zerosN _ | exact OfRaw.rows (by omega) | exact Or.inl (And.intro rfl rfl) | refine And.intro ?_ ?_ | refine Exists.intro _ (Exists.intro _ (And.intro rfl (And.intro (by decide) ?_))))) rfl rfl rfl ?_
  rintro ⟨⟨y, b, g⟩, hy⟩
  refine ⟨_, _, rfl, ?_⟩
  dsimp only at hx hy
  obtain ⟨rfl, rfl, rfl⟩ := hx.unique hy
  refine Rn.split zB 1000 rfl (fun k1 => ?_) (fun k1 => ?_)
  rotate_left
  · simp at k1
  refine Rn.split zB 1000 rfl (fun k2 => ?_) (fun k2 => ?_)
  rotate_left
  · simp at k2
  refine Rn.fin0 zB 1000 rfl rfl rfl rfl ?_
  simp
end Go.AM
