/- The machine at this program, with the answers of 'sane' and of CheckEvent known. -/
import Derived.Test.YtlkbcjhemhmfoaaGreatDoorWa2
import Derived.Test.YtlkbcjhemhmfoaaGreatDoorWb0
set_option linter.unusedSimpArgs false
set_option linter.unusedVariables false
namespace Go.AM
open Go Go.Proofs
set_option maxRecDepth 10000

noncomputable section
def saneE : List AV → Option AV
  | [] => some (.one (.bool true))
  | _ => none
def rightE : List AV → Option AV
  | [.agg [.int .i64 a, .int .i64 b, .int .i64 c, .int .i64 d, .int .i64 e, .int .i64 f, .int .i64 g]] => some (.one (.bool (rightB ⟨a, b, c, d, e, f, g⟩)))
  | _ => none
def evtE : List AV → Option AV
  | [.agg [.int .i64 a, .int .i64 b, .int .i64 c, .int .i64 d, .int .i64 e, .int .i64 f, .int .i64 g, .int .i64 h, .int .i64 i, .int .i64 j]] => some (.one (.int .i64 (ckEv ⟨a, b, c, d, e, f, g, h, i, j⟩)))
  | _ => none
def setB (f : Nat) : Option (List AV → Option AV) := bif Nat.beq f 17 then some saneE else bif Nat.beq f 109 then some rightE else bif Nat.beq f 56 then some evtE else bif Nat.beq f 57 then some evtE else setA f
def envB : Env := ⟨tyOf Tryz.prog, fun f => Tryz.prog.funcs[f]?, setB, eqT, fun f => memB f wrL⟩
end
theorem zB : ZeroFlat envB := z0
theorem rightE_ok : ∀ args v, rightE args = some v → allB AV.flat args = true ∧ v.flat = true ∧ Ct0 envA 109 args [] 0 v := fun args v hg => by
  unfold rightE at hg
  split at hg
  · injection hg with hg; subst hg; exact ⟨rfl, rfl, c_right ⟨_, _, _, _, _, _, _⟩⟩
  · cases hg
theorem evtE_ok {f : FuncId} (h : ∀ e, Ct0 envA f [.agg (Evt.c e)] [] 0 (.one (.int .i64 (ckEv e)))) : ∀ args v, evtE args = some v → allB AV.flat args = true ∧ v.flat = true ∧ Ct0 envA f args [] 0 v := fun args v hg => by
  unfold evtE at hg
  split at hg
  · injection hg with hg; subst hg; exact ⟨rfl, rfl, h ⟨_, _, _, _, _, _, _, _, _, _⟩⟩
  · cases hg
/-- Given that 'sane' answers true. -/
theorem envB_ok (hs : ∃ h', CallsA envA 17 [] hE (.one (.bool true)) h') : EnvOK Tryz.prog envB := by
  refine (envA_ok.more [(17, saneE), (109, rightE), (56, evtE), (57, evtE)] (fun x hx => ?_) setB fun f g h => ?_ : EnvOK Tryz.prog { envA with E := setB })
  · simp only [List.mem_cons, List.not_mem_nil, or_false] at hx
    rcases hx with rfl | rfl | rfl | rfl
    · refine ⟨⟨Tryz.f17, (by kernel_rfl), rfl⟩, fun args v hg _ => ?_⟩
      have hg : saneE args = some v := hg
      unfold saneE at hg
      split at hg
      · injection hg with hg; subst hg; exact ⟨rfl, hs⟩
      · cases hg
    · exact ⟨⟨Tryz.f109, (by kernel_rfl), rfl⟩, addE rightE_ok⟩
    · exact ⟨⟨Tryz.f56, (by kernel_rfl), rfl⟩, addE (evtE_ok c_checkEvent)⟩
    · exact ⟨⟨Tryz.f57, (by kernel_rfl), rfl⟩, addE (evtE_ok c_rcheckEvent)⟩
  · unfold setB at h
    have two : ∀ {n : Nat} {f : Nat} {g g0 : List AV → Option AV} {r : Option (List AV → Option AV)}, (bif Nat.beq f n then some g0 else r) = some g → (f = n ∧ g = g0) ∨ r = some g := fun {n f g g0 r} h => by
      cases hb : Nat.beq f n with
      | true => rw [hb] at h; injection h with h; exact .inl ⟨Nat.eq_of_beq_eq_true hb, h.symm⟩
      | false => rw [hb] at h; exact .inr h
    rcases two h with ⟨rfl, rfl⟩ | h
    · exact .inl (by simp)
    rcases two h with ⟨rfl, rfl⟩ | h
    · exact .inl (by simp)
    rcases two h with ⟨rfl, rfl⟩ | h
    · exact .inl (by simp)
    rcases two h with ⟨rfl, rfl⟩ | h
    · exact .inl (by simp)
    exact .inr h

/-! ### The lists -/
theorem eEvt : Elt Evt.c 10 := ⟨fun _ => rfl, fun _ => rfl⟩
theorem eRt : Elt Rt.c 7 := ⟨fun _ => rfl, fun _ => rfl⟩
theorem eSu : Elt Su.c 3 := ⟨fun _ => rfl, fun _ => rfl⟩
theorem ePo : Elt Po.c 2 := ⟨fun _ => rfl, fun _ => rfl⟩
theorem eDw : Elt Dw.c 3 := ⟨fun _ => rfl, fun _ => rfl⟩
def iC (n : Int) : List Sc := [.int .i64 n]
def bC (b : Bool) : List Sc := [.bool b]
theorem eI : Elt iC 1 := ⟨fun _ => rfl, fun _ => rfl⟩
theorem eB : Elt bC 1 := ⟨fun _ => rfl, fun _ => rfl⟩
/-- A slice. -/
abbrev slA (j o n : Nat) (full : Bool) (sz : Nat) : AV := .one (.sl (some (j, o)) n full sz)
theorem w64_id {n : Int} (h1 : -9223372036854775808 ≤ n) (h2 : n < 9223372036854775808) : IntKind.wrap .i64 n = n := by
  unfold IntKind.wrap
  simp [IntKind.bits, IntKind.signed]
  omega

end Go.AM
