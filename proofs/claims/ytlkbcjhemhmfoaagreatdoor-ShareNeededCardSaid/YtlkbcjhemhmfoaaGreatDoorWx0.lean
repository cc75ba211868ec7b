/- What is promised, and the largest amount that can be taken, exist: a contract's call in a world of its own. -/
import Derived.Test.YtlkbcjhemhmfoaaGreatDoorWr0
import Derived.Test.YtlkbcjhemhmfoaaGreatDoorWp1
import Derived.Test.YtlkbcjhemhmfoaaGreatDoorWq4
set_option linter.unusedSimpArgs false
set_option linter.unusedVariables false
namespace Go.AM
open Go Go.Proofs

theorem ct_some {X : Env} {f : FuncId} {args : List AV} {r : List (Option (List Sc))} {nb : Nat} {A : Type} {V : A → AV} {B : A → BL} {nb' : A → Nat} (hnb : nb = r.length) (c : Ct X f args (rawBL 0 r) nb A V B nb') (hargs : LR (RAV (sgOf r)) args args) : Nonempty A := by
  subst hnb
  have hro : (hOf r).ro = r.length := (hPut_nx r _ 0).2
  have hnx : (hOf r).nx = r.length := (hPut_nx r _ 0).1
  have hfoot : ∀ e ∈ rawBL 0 r, ∀ i, Foot (sgOf r) (hOf r) e i → i < r.length := fun e he i hi => by
    obtain ⟨j, o, h1, rfl⟩ := rawBL_mem r 0 e he
    unfold Foot sgOf at hi
    simp only [Nat.zero_add] at hi
    rw [h1] at hi
    have hjl : j < r.length := by
      rcases Nat.lt_or_ge j r.length with h | h
      · exact h
      · rw [List.getElem?_eq_none h] at h1; cases h1
    cases o with
    | none => exact hi.elim
    | some l => have hi : i = j := hi; omega
  have hok : BlOK (sgOf r) (rawBL 0 r) (hOf r) := by
    refine ⟨fun e he => ?_, fun e he i hi => by rw [hnx]; exact hfoot e he i hi, fun e he hw => ?_, rawBL_nodup r 0, fun e he e' he' _ hw => ?_⟩
    · obtain ⟨j, o, h1, rfl⟩ := rawBL_mem r 0 e he
      unfold Ent sgOf
      simp only [Nat.zero_add]
      rw [h1]
      cases o with
      | none => rfl
      | some l =>
        show (hOf r).get j = some l
        rw [hOf_get, h1]
    · obtain ⟨j, o, h1, rfl⟩ := rawBL_mem r 0 e he; cases hw
    · obtain ⟨j, o, h1, rfl⟩ := rawBL_mem r 0 e he
      obtain ⟨j', o', h1', rfl⟩ := rawBL_mem r 0 e' he'
      rcases hw with hw | hw <;> cases hw
  obtain ⟨v', h', hca, a, _⟩ := c (sgOf r) args (hOf r) hargs hok (by rw [hro, hnx]; exact Nat.le_refl _) fun j hj => by
    unfold sgOf
    rw [List.getElem?_eq_none hj]
  exact ⟨a⟩
section
variable {rs : List Rt} {ss : List Su} {po : List Po}
theorem prom_exists (B : ShB rs ss po) : ∃ p, PromRes rs ss po p := by
  have c := c_promised rs ss po false false false B
  obtain ⟨p, hp⟩ := ct_some (r := [some (arr Rt.c rs), some (arr Su.c ss), some (arr Po.c po)]) rfl c ⟨⟨_, rfl, .inl ⟨0, rfl, rfl⟩, .inl ⟨1, rfl, rfl⟩, .inl ⟨2, rfl, rfl⟩, trivial⟩, trivial⟩
  exact ⟨p, hp⟩
theorem max_exists (B : ShB rs ss po) (vs : List Int) (hv : vs.length = rs.length) (hvb : ∀ k, k < rs.length → 0 ≤ vOf vs k ∧ vOf vs k ≤ 1099511627776) : ∃ s, Snow.IsMax (instOf rs ss po) (vOf vs) s := by
  have c := c_taken rs ss po false false false false vs B hv hvb
  obtain ⟨s, hs⟩ := ct_some (r := [some (arr Rt.c rs), some (arr Su.c ss), some (arr Po.c po), some (arr iC vs)]) rfl c ⟨⟨_, rfl, .inl ⟨0, rfl, rfl⟩, .inl ⟨1, rfl, rfl⟩, .inl ⟨2, rfl, rfl⟩, trivial⟩, ⟨_, rfl, .inl ⟨3, rfl, rfl⟩⟩, trivial⟩
  exact ⟨s, hs⟩
end
end Go.AM
