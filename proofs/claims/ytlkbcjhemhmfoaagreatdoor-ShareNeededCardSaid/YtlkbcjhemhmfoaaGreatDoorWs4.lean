/- Walks: the check of volumes. -/
import Derived.Test.YtlkbcjhemhmfoaaGreatDoorWs3
set_option linter.unusedSimpArgs false
set_option linter.unusedVariables false
namespace Go.AM
open Go Go.Proofs
set_option maxRecDepth 10000
set_option maxHeartbeats 1000000

structure VolOK (rs : List Rt) (vs : List Int) : Prop where
  len : vs.length = rs.length
  v : ∀ (i : Nat) (x : Int) (r : Rt), vs[i]? = some x → rs[i]? = some r → 0 ≤ x ∧ x ≤ r.claim
open Classical in
noncomputable def wErr (rs : List Rt) (ss : List Su) (po : List Po) (vs : List Int) : Int := if ShareOK rs ss po then (if VolOK rs vs then 0 else 1) else 82
theorem wErr_bad {rs : List Rt} {ss : List Su} {po : List Po} {vs : List Int} (h : ¬ ShareOK rs ss po) : wErr rs ss po vs = 82 := if_neg h
theorem wErr_arg {rs : List Rt} {ss : List Su} {po : List Po} {vs : List Int} (h : ShareOK rs ss po) (h2 : ¬ VolOK rs vs) : wErr rs ss po vs = 1 := by unfold wErr; rw [if_pos h, if_neg h2]
theorem wErr_ok {rs : List Rt} {ss : List Su} {po : List Po} {vs : List Int} (h : ShareOK rs ss po) (h2 : VolOK rs vs) : wErr rs ss po vs = 0 := by unfold wErr; rw [if_pos h, if_pos h2]
theorem wErr_zero {rs : List Rt} {ss : List Su} {po : List Po} {vs : List Int} (h : wErr rs ss po vs = 0) : ShareOK rs ss po ∧ VolOK rs vs := by
  by_cases a : ShareOK rs ss po
  · by_cases b : VolOK rs vs
    · exact ⟨a, b⟩
    · rw [wErr_arg a b] at h; cases h
  · rw [wErr_bad a] at h; cases h
theorem argV {rs : List Rt} {ss : List Su} {po : List Po} {vs : List Int} (h : ShareOK rs ss po) (h2 : ¬ VolOK rs vs) : AV.one (.int .i64 1) = AV.one (.int .i64 (wErr rs ss po vs)) := by rw [wErr_arg h h2]
/-- A share and volumes for its rights. -/
abbrev shV (rs : List Rt) (ss : List Su) (po : List Po) (vs : List Int) : BL := shB rs ss po ++ [⟨3, false, none, .raw (arr iC vs)⟩]
abbrev shW (rs : List Rt) (ss : List Su) (po : List Po) (vs : List Int) (f1 f2 f3 : Bool) : BL := ⟨4, true, none, .ex [.sl (some (0, 0)) rs.length f1 7, .sl (some (1, 0)) ss.length f2 3, .sl (some (2, 0)) po.length f3 2]⟩ :: shV rs ss po vs
theorem c_wants (rs : List Rt) (ss : List Su) (po : List Po) (vs : List Int) (f1 f2 f3 f4 : Bool) (h1 : rs.length < 90000000000) (h2 : ss.length < 90000000000) (h3 : po.length < 90000000000) : Ct0 envB 70 [shA rs.length ss.length po.length f1 f2 f3, slA 3 0 vs.length f4 1] (shV rs ss po vs) 4 (.one (.int .i64 (wErr rs ss po vs))) := by
  refine Ct.of zB (fn := Tryz.f70) (by kernel_rfl) (by kernel_rfl) rfl rfl ?_
  refine Rn.call0 zB 1000 rfl (c_checkShare rs ss po f1 f2 f3 h1 h2 h3) [some 0, some 1, some 2] rfl rfl (by (repeat' first | exact trivial | exact rfl | exact Or.inl (And.intro rfl rfl) | exact wsucc _ (by omega) | exact wlin (by first | omega | (push_cast; omega)) (by omega) | exact wint (by omega) (by omega) | refine And.intro ?_ ?_ | refine Or.inr ?_)) (by (repeat' first | exact trivial | exact rfl | exact (by decide) | exact zerosI _ | exact zerosN _ | exact OfRaw.rows (by omega) | exact Or.inl (And.intro rfl rfl) | refine And.intro ?_ ?_ | refine Exists.intro _ (Exists.intro _ (And.intro rfl (And.intro (by decide) ?_))))) rfl rfl rfl rfl rfl ?_
  refine Rn.split zB 1000 rfl (fun e0 => ?_) (fun e0 => ?_)
  · refine Rn.fin0 zB 1000 rfl rfl rfl rfl ?_
    have : ¬ ShareOK rs ss po := fun c => by rw [shErr_ok c] at e0; cases e0
    rw [wErr_bad this, shErr_bad this]
  have hok := shErr_zero (by simpa using e0)
  refine Rn.split zB 1000 rfl (fun e1 => ?_) (fun e1 => ?_)
  · refine Rn.fin0 zB 1000 rfl rfl rfl rfl ?_
    refine argV hok fun c => ?_
    have := c.len
    simp at e1; omega
  have e1 : vs.length = rs.length := by simp at e1; omega
  refine Rn.loop zB 1000 rfl (T := Nat) (fun i => vs.length - i) (fun i => i ≤ vs.length ∧ ∀ (j : Nat) (x : Int) (r : Rt), j < i → vs[j]? = some x → rs[j]? = some r → 0 ≤ x ∧ x ≤ r.claim) (fun i => [(21, iA i), (20, iA vs.length), (19, slA 3 0 vs.length f4 1), (2, .one (.ptr (some (4, 0))))]) (fun _ => shW rs ss po vs f1 f2 f3) (fun _ => 5) (0) [some 0, some 1, some 2, some 3, some 4] (⟨Nat.zero_le _, fun j _ _ h => absurd h (Nat.not_lt_zero j)⟩) ⟨rfl, rfl, rfl, rfl, rfl, by (repeat' first | exact trivial | exact rfl | exact Or.inl (And.intro rfl rfl) | exact wsucc _ (by omega) | exact wlin (by first | omega | (push_cast; omega)) (by omega) | exact wint (by omega) (by omega) | refine And.intro ?_ ?_ | refine Or.inr ?_), by (repeat' first | exact trivial | exact rfl | exact (by decide) | exact zerosI _ | exact zerosN _ | exact OfRaw.rows (by omega) | exact Or.inl (And.intro rfl rfl) | refine And.intro ?_ ?_ | refine Exists.intro _ (Exists.intro _ (And.intro rfl (And.intro (by decide) ?_))))⟩ ?_
  rintro i ⟨hi, hp⟩
  refine Rn.split zB 1000 rfl (fun hlt => ?_) (fun hlt => ?_)
  · have hlt : i < vs.length := by simpa using hlt
    obtain ⟨r, hr⟩ : ∃ r, rs[i]? = some r := ⟨rs[i]'(by omega), List.getElem?_eq_getElem _⟩
    obtain ⟨x, hx⟩ : ∃ r, vs[i]? = some r := ⟨vs[i], List.getElem?_eq_getElem hlt⟩
    refine Rn.ask zB 1000 rfl ⟨by first | omega | (dsimp only; omega), by first | omega | (dsimp only; omega)⟩ ?_
    refine Rn.loadR zB 1000 rfl (LoadR.fld eI (f := 0) (v := .int .i64 x) hx (by simp) rfl rfl) ?_
    refine Rn.split zB 1000 rfl (fun b0 => ?_) (fun b0 => ?_)
    · repeat (refine Rn.split zB 1000 rfl (fun _ => ?_) (fun h => by cases h))
      refine Rn.out zB 1000 rfl rfl ?_
      refine Rn.fin0 zB 1000 rfl rfl rfl rfl ?_
      refine argV hok fun c => ?_
      have := c.v i x r hx hr
      simp at b0; omega
    have b0 : 0 ≤ x := by simpa using b0
    refine Rn.ask zB 1000 rfl ⟨by omega, by omega⟩ ?_
    refine Rn.loadR zB 1000 rfl (LoadR.fld eRt (f := 6) (v := .int .i64 r.claim) hr (by simp) rfl rfl) ?_
    refine Rn.split zB 1000 rfl (fun b1 => ?_) (fun b1 => ?_)
    · refine Rn.out zB 1000 rfl rfl ?_
      refine Rn.fin0 zB 1000 rfl rfl rfl rfl ?_
      refine argV hok fun c => ?_
      have := c.v i x r hx hr
      simp at b1; omega
    have b1 : x ≤ r.claim := by simpa using b1
    refine Rn.again zB 1000 rfl (i + 1) [some 0, some 1, some 2, some 3, some 4] (by omega) (⟨hlt, fun j y q hj hy hq => by
      by_cases e : j = i
      · subst e; rw [hx] at hy; rw [hr] at hq; injection hy with ey; injection hq with eq; subst ey; subst eq; exact ⟨b0, b1⟩
      · exact hp j y q (by omega) hy hq⟩) ⟨rfl, rfl, rfl, rfl, rfl, by (repeat' first | exact trivial | exact rfl | exact Or.inl (And.intro rfl rfl) | exact wsucc _ (by omega) | exact wlin (by first | omega | (push_cast; omega)) (by omega) | exact wint (by omega) (by omega) | refine And.intro ?_ ?_ | refine Or.inr ?_), by (repeat' first | exact trivial | exact rfl | exact (by decide) | exact zerosI _ | exact zerosN _ | exact OfRaw.rows (by omega) | exact Or.inl (And.intro rfl rfl) | refine And.intro ?_ ?_ | refine Exists.intro _ (Exists.intro _ (And.intro rfl (And.intro (by decide) ?_))))⟩
  have hge : i = vs.length := by simp at hlt; omega
  subst hge
  refine Rn.out zB 1000 rfl rfl ?_
  refine Rn.fin0 zB 1000 rfl rfl rfl rfl ?_
  rw [wErr_ok hok ⟨e1, fun j x r hx hr => hp j x r (List.getElem?_eq_some_iff.mp hx).1 hx hr⟩]
theorem c_volumes (rs : List Rt) (ss : List Su) (po : List Po) (vs : List Int) (f1 f2 f3 f4 : Bool) (h1 : rs.length < 90000000000) (h2 : ss.length < 90000000000) (h3 : po.length < 90000000000) : Ct0 envB 67 [shA rs.length ss.length po.length f1 f2 f3, slA 3 0 vs.length f4 1] (shV rs ss po vs) 4 (.one (.int .i64 (wErr rs ss po vs))) := by
  refine Ct.of zB (fn := Tryz.f67) (by kernel_rfl) (by kernel_rfl) rfl rfl ?_
  refine Rn.call0 zB 1000 rfl (c_rcheckShare rs ss po f1 f2 f3 h1 h2 h3) [some 0, some 1, some 2] rfl rfl (by (repeat' first | exact trivial | exact rfl | exact Or.inl (And.intro rfl rfl) | exact wsucc _ (by omega) | exact wlin (by first | omega | (push_cast; omega)) (by omega) | exact wint (by omega) (by omega) | refine And.intro ?_ ?_ | refine Or.inr ?_)) (by (repeat' first | exact trivial | exact rfl | exact (by decide) | exact zerosI _ | exact zerosN _ | exact OfRaw.rows (by omega) | exact Or.inl (And.intro rfl rfl) | refine And.intro ?_ ?_ | refine Exists.intro _ (Exists.intro _ (And.intro rfl (And.intro (by decide) ?_))))) rfl rfl rfl rfl rfl ?_
  refine Rn.split zB 1000 rfl (fun e0 => ?_) (fun e0 => ?_)
  · refine Rn.fin0 zB 1000 rfl rfl rfl rfl ?_
    have : ¬ ShareOK rs ss po := fun c => by rw [shErr_ok c] at e0; cases e0
    rw [wErr_bad this, shErr_bad this]
  have hok := shErr_zero (by simpa using e0)
  refine Rn.split zB 1000 rfl (fun e1 => ?_) (fun e1 => ?_)
  · refine Rn.fin0 zB 1000 rfl rfl rfl rfl ?_
    refine argV hok fun c => ?_
    have := c.len
    simp at e1; omega
  have e1 : vs.length = rs.length := by simp at e1; omega
  refine Rn.loop zB 1000 rfl (T := Nat) (fun i => vs.length - i) (fun i => i ≤ vs.length ∧ ∀ (j : Nat) (x : Int) (r : Rt), j < i → vs[j]? = some x → rs[j]? = some r → 0 ≤ x ∧ x ≤ r.claim) (fun i => [(6, iA i), (1, slA 3 0 vs.length f4 1), (2, .one (.ptr (some (4, 0))))]) (fun _ => shW rs ss po vs f1 f2 f3) (fun _ => 5) (0) [some 0, some 1, some 2, some 3, some 4] (⟨Nat.zero_le _, fun j _ _ h => absurd h (Nat.not_lt_zero j)⟩) ⟨rfl, rfl, rfl, rfl, rfl, by (repeat' first | exact trivial | exact rfl | exact Or.inl (And.intro rfl rfl) | exact wsucc _ (by omega) | exact wlin (by first | omega | (push_cast; omega)) (by omega) | exact wint (by omega) (by omega) | refine And.intro ?_ ?_ | refine Or.inr ?_), by (repeat' first | exact trivial | exact rfl | exact (by decide) | exact zerosI _ | exact zerosN _ | exact OfRaw.rows (by omega) | exact Or.inl (And.intro rfl rfl) | refine And.intro ?_ ?_ | refine Exists.intro _ (Exists.intro _ (And.intro rfl (And.intro (by decide) ?_))))⟩ ?_
  rintro i ⟨hi, hp⟩
  refine Rn.split zB 1000 rfl (fun hlt => ?_) (fun hlt => ?_)
  · have hlt : i < vs.length := by simpa using hlt
    obtain ⟨r, hr⟩ : ∃ r, rs[i]? = some r := ⟨rs[i]'(by omega), List.getElem?_eq_getElem _⟩
    obtain ⟨x, hx⟩ : ∃ r, vs[i]? = some r := ⟨vs[i], List.getElem?_eq_getElem hlt⟩
    refine Rn.draw zB 1000 [0, 0, 3, 7, 15, 31, 63, 63, 255, 511, 63, 1087, 63, 7231, 15423, 31807, 65535, 131071] rfl (by kernel_rfl) (by kernel_rfl) ?_
    refine Rn.ask zB 1000 rfl ⟨by omega, by omega⟩ ?_
    refine Rn.loadR zB 1000 rfl (LoadR.fld eI (f := 0) (v := .int .i64 x) hx (by simp) rfl rfl) ?_
    refine Rn.split zB 1000 rfl (fun b0 => ?_) (fun b0 => ?_)
    · repeat (refine Rn.split zB 1000 rfl (fun _ => ?_) (fun h => by cases h))
      refine Rn.out zB 1000 rfl rfl ?_
      refine Rn.fin0 zB 1000 rfl rfl rfl rfl ?_
      refine argV hok fun c => ?_
      have := c.v i x r hx hr
      simp at b0; omega
    have b0 : 0 ≤ x := by simpa using b0
    refine Rn.ask zB 1000 rfl ⟨by omega, by omega⟩ ?_
    refine Rn.loadR zB 1000 rfl (LoadR.fld eI (f := 0) (v := .int .i64 x) hx (by simp) rfl rfl) ?_
    refine Rn.ask zB 1000 rfl ⟨by omega, by omega⟩ ?_
    refine Rn.loadR zB 1000 rfl (LoadR.fld eRt (f := 6) (v := .int .i64 r.claim) hr (by simp) rfl rfl) ?_
    refine Rn.split zB 1000 rfl (fun b1 => ?_) (fun b1 => ?_)
    · refine Rn.out zB 1000 rfl rfl ?_
      refine Rn.fin0 zB 1000 rfl rfl rfl rfl ?_
      refine argV hok fun c => ?_
      have := c.v i x r hx hr
      simp at b1; omega
    have b1 : x ≤ r.claim := by simpa using b1
    refine Rn.again zB 1000 rfl (i + 1) [some 0, some 1, some 2, some 3, some 4] (by omega) (⟨hlt, fun j y q hj hy hq => by
      by_cases e : j = i
      · subst e; rw [hx] at hy; rw [hr] at hq; injection hy with ey; injection hq with eq; subst ey; subst eq; exact ⟨b0, b1⟩
      · exact hp j y q (by omega) hy hq⟩) ⟨rfl, rfl, rfl, rfl, rfl, by (repeat' first | exact trivial | exact rfl | exact Or.inl (And.intro rfl rfl) | exact wsucc _ (by omega) | exact wlin (by first | omega | (push_cast; omega)) (by omega) | exact wint (by omega) (by omega) | refine And.intro ?_ ?_ | refine Or.inr ?_), by (repeat' first | exact trivial | exact rfl | exact (by decide) | exact zerosI _ | exact zerosN _ | exact OfRaw.rows (by omega) | exact Or.inl (And.intro rfl rfl) | refine And.intro ?_ ?_ | refine Exists.intro _ (Exists.intro _ (And.intro rfl (And.intro (by decide) ?_))))⟩
  have hge : i = vs.length := by simp at hlt; omega
  subst hge
  refine Rn.out zB 1000 rfl rfl ?_
  refine Rn.fin0 zB 1000 rfl rfl rfl rfl ?_
  rw [wErr_ok hok ⟨e1, fun j x r hx hr => hp j x r (List.getElem?_eq_some_iff.mp hx).1 hx hr⟩]
end Go.AM
