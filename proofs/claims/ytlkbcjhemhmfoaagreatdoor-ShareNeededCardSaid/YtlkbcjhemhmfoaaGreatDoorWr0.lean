/- Rows: from what a call is handed to the machine, and back. -/
import Derived.Test.YtlkbcjhemhmfoaaGreatDoorMj
import Derived.Test.YtlkbcjhemhmfoaaGreatDoorCards
import Derived.Test.YtlkbcjhemhmfoaaGreatDoorTie
import Derived.ProofKit
import Derived.OpenShut
import Derived.Deep.DeepHandedRow
import Derived.Deep.Frames
import Derived.Deep.Slices
import Derived.Lib.LaidTab
import Derived.ChangeStays
set_option linter.unusedSimpArgs false
set_option linter.unusedVariables false
namespace Go.AM
open Go Go.Proofs Go.RowKit Go.ChangeShapes

/-! ### Blocks that are only read -/
noncomputable def hPut : H → Nat → List (Option (List Sc)) → H
  | h, _, [] => h
  | h, i, some l :: r => hPut (h.put i l) (i + 1) r
  | h, i, none :: r => hPut h (i + 1) r
theorem hPut_get : ∀ (r : List (Option (List Sc))) (h : H) (i j : Nat), (hPut h i r).get j = if i ≤ j ∧ j < i + r.length then (match r[j - i]? with | some (some l) => some l | some none => h.get j | none => h.get j) else h.get j
  | [], h, i, j => by simp [hPut]
  | none :: r, h, i, j => by
    rw [hPut, hPut_get r h (i + 1) j]
    by_cases h1 : i + 1 ≤ j ∧ j < i + 1 + r.length
    · rw [if_pos h1, if_pos (by simp; omega)]
      obtain ⟨k, hk⟩ : ∃ k, j - i = k + 1 := ⟨j - i - 1, by omega⟩
      rw [hk, show j - (i + 1) = k by omega]
      simp
    · rw [if_neg h1]
      by_cases h2 : i ≤ j ∧ j < i + (none :: r).length
      · rw [if_pos h2]
        have : j = i := by simp at h2; omega
        subst this
        simp
      · rw [if_neg h2]
  | some l :: r, h, i, j => by
    rw [hPut, hPut_get r (h.put i l) (i + 1) j]
    by_cases h1 : i + 1 ≤ j ∧ j < i + 1 + r.length
    · rw [if_pos h1, if_pos (by simp; omega)]
      obtain ⟨k, hk⟩ : ∃ k, j - i = k + 1 := ⟨j - i - 1, by omega⟩
      rw [hk, show j - (i + 1) = k by omega, H.get_put, if_neg (by omega)]
      simp
    · rw [if_neg h1]
      by_cases h2 : i ≤ j ∧ j < i + (some l :: r).length
      · rw [if_pos h2]
        have : j = i := by simp at h2; omega
        subst this
        simp [H.get_put]
      · rw [if_neg h2, H.get_put, if_neg (by simp at h2; omega)]
theorem hPut_nx : ∀ (r : List (Option (List Sc))) (h : H) (i : Nat), (hPut h i r).nx = h.nx ∧ (hPut h i r).ro = h.ro
  | [], _, _ => ⟨rfl, rfl⟩
  | none :: r, h, i => hPut_nx r h (i + 1)
  | some l :: r, h, i => by rw [hPut]; exact hPut_nx r (h.put i l) (i + 1)
noncomputable def hOf (r : List (Option (List Sc))) : H := hPut ⟨.nil, r.length, r.length⟩ 0 r
theorem hOf_get (r : List (Option (List Sc))) (j : Nat) : (hOf r).get j = (match r[j]? with | some (some l) => some l | _ => none) := by
  unfold hOf
  rw [hPut_get]
  by_cases h : j < r.length
  · rw [if_pos (by omega), Nat.sub_zero]
    rw [List.getElem?_eq_getElem h]
    cases r[j] <;> rfl
  · rw [if_neg (by omega), List.getElem?_eq_none (by omega)]; rfl

def rawBL : Nat → List (Option (List Sc)) → BL
  | _, [] => []
  | i, l :: r => ⟨i, false, none, .raw (l.getD [])⟩ :: rawBL (i + 1) r
theorem rawBL_mem : ∀ (r : List (Option (List Sc))) (i : Nat) (e : Bk), e ∈ rawBL i r → ∃ j o, r[j]? = some o ∧ e = ⟨i + j, false, none, .raw (o.getD [])⟩
  | [], _, _, h => by cases h
  | l :: r, i, e, h => by
    rcases List.mem_cons.1 h with h | h
    · exact ⟨0, l, rfl, by rw [h]; rfl⟩
    · obtain ⟨j, o, h1, h2⟩ := rawBL_mem r (i + 1) e h
      exact ⟨j + 1, o, by simpa using h1, by rw [h2]; congr 1; omega⟩
theorem rawBL_nodup : ∀ (r : List (Option (List Sc))) (i : Nat), ((rawBL i r).map Bk.j).Nodup
  | [], _ => List.nodup_nil
  | l :: r, i => by
    rw [rawBL, List.map_cons, List.nodup_cons]
    refine ⟨fun h => ?_, rawBL_nodup r (i + 1)⟩
    obtain ⟨e, he, hj⟩ := List.mem_map.1 h
    obtain ⟨j, o, _, rfl⟩ := rawBL_mem r (i + 1) e he
    simp at hj
    omega
def sgOf (r : List (Option (List Sc))) : Sg := fun j => match r[j]? with
  | some (some _) => some (some j)
  | some none => some none
  | none => none
def rhoOf (r : List (Option (List Sc))) (info : Nat → Nat × Nat × Nat) : Rho := fun j => match r[j]? with
  | some (some _) => some (info j)
  | _ => none

/-- A call of a statement's function, in every world that holds what it reads. -/
theorem law_run {X : Env} (hX : EnvOK Tryz.prog X) {f : FuncId} {args args' : List AV} {r : List (Option (List Sc))} (c : Ct0 X f args (rawBL 0 r) r.length (.one (.bool true))) (hargs : LR (RAV (sgOf r)) args args') {W : World} {vs : Array Value} (info : Nat → Nat × Nat × Nat)
    (hinfo : ∀ i l, r[i]? = some (some l) → Lies (rhoOf r info) False W l (info i).1 (info i).2.1 (info i).2.2) (hvs : LR (avR (rhoOf r info)) args' vs.toList) :
    Calls Tryz.prog f vs W fun e W' => e = .returned (.bool true) ∧ Grown W W' := by
  have hro : (hOf r).ro = r.length := (hPut_nx r _ 0).2
  have hnx : (hOf r).nx = r.length := (hPut_nx r _ 0).1
  have hfoot : ∀ e ∈ rawBL 0 r, ∀ i, Foot (sgOf r) (hOf r) e i → i < r.length := fun e he i hi => by
    obtain ⟨j, o, h1, rfl⟩ := rawBL_mem r 0 e he
    unfold Foot sgOf at hi
    simp only [Nat.zero_add] at hi
    rw [h1] at hi
    have hjl : j < r.length := by
      rcases Nat.lt_or_ge j r.length with h | h
      · exact h
      · rw [List.getElem?_eq_none h] at h1; cases h1
    cases o with
    | none => exact hi.elim
    | some l => have hi : i = j := hi; omega
  have hok : BlOK (sgOf r) (rawBL 0 r) (hOf r) := by
    refine ⟨fun e he => ?_, fun e he i hi => by rw [hnx]; exact hfoot e he i hi, fun e he hw => ?_, rawBL_nodup r 0, fun e he e' he' _ hw => ?_⟩
    · obtain ⟨j, o, h1, rfl⟩ := rawBL_mem r 0 e he
      unfold Ent sgOf
      simp only [Nat.zero_add]
      rw [h1]
      cases o with
      | none => rfl
      | some l =>
        show (hOf r).get j = some l
        rw [hOf_get, h1]
    · obtain ⟨j, o, h1, rfl⟩ := rawBL_mem r 0 e he; cases hw
    · obtain ⟨j, o, h1, rfl⟩ := rawBL_mem r 0 e he
      obtain ⟨j', o', h1', rfl⟩ := rawBL_mem r 0 e' he'
      rcases hw with hw | hw <;> cases hw
  obtain ⟨v', h', hca, a, σ', _, _, _, _, hv, _⟩ := c (sgOf r) args' (hOf r) hargs hok (by rw [hro, hnx]; exact Nat.le_refl _) fun j hj => by
    unfold sgOf
    rw [List.getElem?_eq_none hj]
  have hv := RAV.flat (v := .one (.bool true)) rfl hv
  subst hv
  obtain ⟨n, hca⟩ := hca
  obtain ⟨_, hc⟩ := call_ok hX n f args' (hOf r) _ h' hca
  have hRel : Rel (rhoOf r info) (hOf r).get (hOf r).ro W := by
    refine ⟨fun i l hi => ?_, fun i j l l' h1 h2 _ hj => ?_⟩
    · rw [hOf_get] at hi
      split at hi
      · rename_i l0 e
        injection hi with hi
        subst hi
        obtain ⟨cs, t, fz, k1, k2, k3, k4, _⟩ := hinfo i l0 e
        have hil : i < r.length := by
          rcases Nat.lt_or_ge i r.length with h | h
          · exact h
          · rw [List.getElem?_eq_none h] at e; cases e
        exact ⟨(info i).1, (info i).2.1, (info i).2.2, by unfold rhoOf; rw [e], cs, t, fz, k1, k2, k3, k4, fun h => by rw [hro] at h; omega⟩
      · cases hi
    · rw [hro] at hj
      rw [hOf_get, List.getElem?_eq_none hj] at h2
      cases h2
  refine (hc (rhoOf r info) W vs hRel (by rw [hro, hnx]; exact Nat.le_refl _) (fun i hi => by rw [hnx] at hi; unfold rhoOf; rw [List.getElem?_eq_none hi]) hvs).mono fun e W' ⟨v2, ρ', he, hv2, hR, hst, _⟩ => ?_
  have hv2 : v2 = .bool true := hv2
  subst hv2
  refine ⟨he, ⟨hst.os, hst.output, fun i hi => ?_⟩, hst.fz, hst.size⟩
  have := hst.keep i hi fun ⟨k, l, p, h1, h2, _⟩ => by
    rw [hro] at h1
    rw [hOf_get, List.getElem?_eq_none h1] at h2
    cases h2
  rw [this]
  split
  · rename_i e1 e2
    rw [e1] at e2; injection e2 with e2
    injection e2 with h1 h2 h3
    subst h1; subst h2; subst h3
    exact ⟨rfl, rfl, rfl, fun _ _ => rfl⟩
  · rename_i e1 e2
    rw [e1] at e2; injection e2 with e2
    injection e2 with h1 h2
    subst h1; subst h2
    exact .inr ⟨rfl, rfl⟩
  · rfl

end Go.AM
