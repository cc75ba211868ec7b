/- Walks: CheckEvent of both. -/
import Derived.Test.YtlkbcjhemhmfoaaGreatDoorWa1
set_option linter.unusedSimpArgs false
set_option linter.unusedVariables false
namespace Go.AM
open Go Go.Proofs
set_option maxRecDepth 10000
set_option maxHeartbeats 1000000

theorem c_checkEvent (e : Evt) : Ct0 envA 56 [.agg e.c] [] 0 (.one (.int .i64 (ckEv e))) := by
  refine Ct.of zA (fn := Tryz.f56) (by kernel_rfl) (by kernel_rfl) rfl rfl ?_
  have k1 : isNum e.valley = false → e.valley ≠ 0 := fun h h0 => by rw [h0] at h; cases h
  have k2 : isDay e.fr = false → e.fr ≠ 0 := fun h h0 => by rw [h0] at h; cases h
  have k3 : isDay e.to = false → e.to ≠ 0 := fun h h0 => by rw [h0] at h; cases h
  have k4 : isVol e.claim = false → e.claim ≠ 0 := fun h h0 => by rw [h0] at h; cases h
  repeat' first
    | (rename_i h; exact absurd h (by decide))
    | (refine Rn.fin0 zA 1000 rfl rfl rfl rfl ?_; first | (simp [ckEv, fineEv, *]; done) | (simp_all [ckEv, fineEv]; done) | (by_cases hk : e.kind = 1 <;> simp_all [ckEv, fineEv] <;> omega) | skip)
    | refine Rn.split zA 1000 rfl (fun h => ?_) (fun h => ?_)


theorem c_rcheckEvent (e : Evt) : Ct0 envA 57 [.agg e.c] [] 0 (.one (.int .i64 (ckEv e))) := by
  refine Ct.of zA (fn := Tryz.f57) (by kernel_rfl) (by kernel_rfl) rfl rfl ?_
  have k1 : isNum e.valley = false → e.valley ≠ 0 := fun h h0 => by rw [h0] at h; cases h
  have k2 : isDay e.fr = false → e.fr ≠ 0 := fun h h0 => by rw [h0] at h; cases h
  have k3 : isDay e.to = false → e.to ≠ 0 := fun h h0 => by rw [h0] at h; cases h
  have k4 : isVol e.claim = false → e.claim ≠ 0 := fun h h0 => by rw [h0] at h; cases h
  repeat' first
    | (rename_i h; exact absurd h (by decide))
    | (refine Rn.fin0 zA 1000 rfl rfl rfl rfl ?_; first | (simp [ckEv, fineEv, *]; done) | (simp_all [ckEv, fineEv]; done) | (by_cases hk : e.kind = 1 <;> simp_all [ckEv, fineEv] <;> omega) | skip)
    | refine Rn.split zA 1000 rfl (fun h => ?_) (fun h => ?_)

end Go.AM
