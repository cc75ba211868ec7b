/- Walks: the specification's check of a share, and the check of volumes. -/
import Derived.Test.YtlkbcjhemhmfoaaGreatDoorWs2
set_option linter.unusedSimpArgs false
set_option linter.unusedVariables false
namespace Go.AM
open Go Go.Proofs
set_option maxRecDepth 10000
set_option maxHeartbeats 1000000

def RO (rs : List Rt) (i : Nat) : Prop := ∀ r : Rt, rs[i]? = some r → rightB r = true ∧ ∀ (j : Nat) (q : Rt), j < i → rs[j]? = some q → olderB q r = true ∧ q.no ≠ r.no
theorem c_rcheckShare (rs : List Rt) (ss : List Su) (po : List Po) (f1 f2 f3 : Bool) (h1 : rs.length < 90000000000) (h2 : ss.length < 90000000000) (h3 : po.length < 90000000000) : Ct0 envB 45 [shA rs.length ss.length po.length f1 f2 f3] (shB rs ss po) 3 (.one (.int .i64 (shErr rs ss po))) := by
  refine Ct.of zB (fn := Tryz.f45) (by kernel_rfl) (by kernel_rfl) rfl rfl ?_
  refine Rn.split zB 1000 rfl (fun e0 => ?_) (fun e0 => ?_)
  · repeat (refine Rn.split zB 1000 rfl (fun _ => ?_) (fun h => by cases h))
    refine Rn.fin0 zB 1000 rfl rfl rfl rfl ?_
    refine badV fun c => ?_
    have := c.nr; simp at e0; omega
  refine Rn.split zB 1000 rfl (fun e1 => ?_) (fun e1 => ?_)
  · repeat (refine Rn.split zB 1000 rfl (fun _ => ?_) (fun h => by cases h))
    refine Rn.fin0 zB 1000 rfl rfl rfl rfl ?_
    refine badV fun c => ?_
    have := c.ns; simp at e1; omega
  refine Rn.split zB 1000 rfl (fun e2 => ?_) (fun e2 => ?_)
  · repeat (refine Rn.split zB 1000 rfl (fun _ => ?_) (fun h => by cases h))
    refine Rn.fin0 zB 1000 rfl rfl rfl rfl ?_
    refine badV fun c => ?_
    have := c.np; simp at e2; omega
  repeat (refine Rn.split zB 1000 rfl (fun h => by cases h) (fun _ => ?_))
  have e0 : rs.length ≤ 32 := by simp at e0; omega
  have e1 : ss.length ≤ 64 := by simp at e1; omega
  have e2 : po.length ≤ 64 := by simp at e2; omega
  refine Rn.loop zB 1000 rfl (T := Nat) (fun i => rs.length - i) (fun i => i ≤ rs.length ∧ ∀ j, j < i → RO rs j) (fun i => [(3, iA i), (1, .one (.ptr (some (3, 0))))]) (fun _ => shC rs ss po f1 f2 f3) (fun _ => 4) (0) [some 0, some 1, some 2, some 3] (⟨Nat.zero_le _, fun j h => absurd h (Nat.not_lt_zero j)⟩) ⟨rfl, rfl, rfl, rfl, rfl, by (repeat' first | exact trivial | exact rfl | exact Or.inl (And.intro rfl rfl) | exact wsucc _ (by omega) | exact wlin (by first | omega | (push_cast; omega)) (by omega) | exact wint (by omega) (by omega) | refine And.intro ?_ ?_ | refine Or.inr ?_), by (repeat' first | exact trivial | exact rfl | exact (by decide) | exact zerosI _ | exact zerosN _ | exact OfRaw.rows (by omega) | exact Or.inl (And.intro rfl rfl) | refine And.intro ?_ ?_ | refine Exists.intro _ (Exists.intro _ (And.intro rfl (And.intro (by decide) ?_))))⟩ ?_
  rintro i ⟨hi, hp⟩
  refine Rn.split zB 1000 rfl (fun hlt => ?_) (fun hlt => ?_)
  · have hlt : i < rs.length := by simpa using hlt
    obtain ⟨r, hr⟩ : ∃ r, rs[i]? = some r := ⟨rs[i], List.getElem?_eq_getElem hlt⟩
    refine Rn.ask zB 1000 rfl ⟨by first | omega | (dsimp only; omega), by first | omega | (dsimp only; omega)⟩ ?_
    refine Rn.loadR zB 1000 rfl (LoadR.elt eRt hr (by simp)) ?_
    refine Rn.split zB 1000 rfl (fun b0 => ?_) (fun b0 => ?_)
    · refine Rn.out zB 1000 rfl rfl ?_
      refine Rn.fin0 zB 1000 rfl rfl rfl rfl ?_
      refine badV fun c => ?_
      rw [(c.r i r hr).1] at b0
      cases b0
    have b0 : rightB r = true := by simpa using b0
    refine Rn.loop zB 1000 rfl (T := Nat) (fun j => i - j) (fun j => j ≤ i ∧ ∀ (k : Nat) (q : Rt), k < j → rs[k]? = some q → olderB q r = true ∧ q.no ≠ r.no) (fun j => [(5, iA j), (3, iA i), (1, .one (.ptr (some (3, 0))))]) (fun _ => shC rs ss po f1 f2 f3) (fun _ => 4) (0) [some 0, some 1, some 2, some 3] (⟨Nat.zero_le _, fun j q h => absurd h (Nat.not_lt_zero j)⟩) ⟨rfl, rfl, rfl, rfl, rfl, by (repeat' first | exact trivial | exact rfl | exact Or.inl (And.intro rfl rfl) | exact wsucc _ (by omega) | exact wlin (by first | omega | (push_cast; omega)) (by omega) | exact wint (by omega) (by omega) | refine And.intro ?_ ?_ | refine Or.inr ?_), by (repeat' first | exact trivial | exact rfl | exact (by decide) | exact zerosI _ | exact zerosN _ | exact OfRaw.rows (by omega) | exact Or.inl (And.intro rfl rfl) | refine And.intro ?_ ?_ | refine Exists.intro _ (Exists.intro _ (And.intro rfl (And.intro (by decide) ?_))))⟩ ?_
    rintro j ⟨hj, hq⟩
    refine Rn.split zB 1000 rfl (fun hjt => ?_) (fun hjt => ?_)
    · have hjt : j < i := by simpa using hjt
      obtain ⟨q, hqj⟩ : ∃ r, rs[j]? = some r := ⟨rs[j], List.getElem?_eq_getElem (by omega)⟩
      refine Rn.draw zB 1000 [0, 1, 0, 7, 15, 0, 32, 0, 224, 480, 1023, 2047] rfl (by kernel_rfl) (by kernel_rfl) ?_
      refine Rn.ask zB 1000 rfl ⟨by omega, by omega⟩ ?_
      refine Rn.loadR zB 1000 rfl (LoadR.elt eRt hqj (by simp)) ?_
      refine Rn.ask zB 1000 rfl ⟨by omega, by omega⟩ ?_
      refine Rn.loadR zB 1000 rfl (LoadR.elt eRt hr (by simp)) ?_
      refine Rn.draw zB 1000 [0, 1, 3, 7, 15, 7, 63, 127, 255, 7, 519, 7, 3591, 7687, 15879, 32767, 65535] rfl (by kernel_rfl) (by kernel_rfl) ?_
      refine Rn.split zB 1000 rfl (fun b1 => ?_) (fun b1 => ?_)
      · repeat (refine Rn.split zB 1000 rfl (fun _ => ?_) (fun h => by cases h))
        refine Rn.out zB 1000 rfl rfl ?_
        refine Rn.out zB 1000 rfl rfl ?_
        refine Rn.fin0 zB 1000 rfl rfl rfl rfl ?_
        refine badV fun c => ?_
        rw [((c.r i r hr).2 j q hjt hqj).1] at b1
        cases b1
      have b1 : olderB q r = true := by simpa using b1
      refine Rn.ask zB 1000 rfl ⟨by omega, by omega⟩ ?_
      refine Rn.loadR zB 1000 rfl (LoadR.fld eRt (f := 0) (v := .int .i64 q.no) hqj (by simp) rfl rfl) ?_
      refine Rn.ask zB 1000 rfl ⟨by omega, by omega⟩ ?_
      refine Rn.loadR zB 1000 rfl (LoadR.fld eRt (f := 0) (v := .int .i64 r.no) hr (by simp) rfl rfl) ?_
      refine Rn.split zB 1000 rfl (fun b2 => ?_) (fun b2 => ?_)
      · refine Rn.out zB 1000 rfl rfl ?_
        refine Rn.out zB 1000 rfl rfl ?_
        refine Rn.fin0 zB 1000 rfl rfl rfl rfl ?_
        refine badV fun c => ?_
        exact ((c.r i r hr).2 j q hjt hqj).2 (by simpa using b2)
      have b2 : q.no ≠ r.no := by simpa using b2
      refine Rn.again zB 1000 rfl (j + 1) [some 0, some 1, some 2, some 3] (by omega) (⟨hjt, fun k q' hk hq' => by
        by_cases e : k = j
        · subst e; rw [hqj] at hq'; injection hq' with e; subst e; exact ⟨b1, b2⟩
        · exact hq k q' (by omega) hq'⟩) ⟨rfl, rfl, rfl, rfl, rfl, by (repeat' first | exact trivial | exact rfl | exact Or.inl (And.intro rfl rfl) | exact wsucc _ (by omega) | exact wlin (by first | omega | (push_cast; omega)) (by omega) | exact wint (by omega) (by omega) | refine And.intro ?_ ?_ | refine Or.inr ?_), by (repeat' first | exact trivial | exact rfl | exact (by decide) | exact zerosI _ | exact zerosN _ | exact OfRaw.rows (by omega) | exact Or.inl (And.intro rfl rfl) | refine And.intro ?_ ?_ | refine Exists.intro _ (Exists.intro _ (And.intro rfl (And.intro (by decide) ?_))))⟩
    have hji : j = i := by simp at hjt; omega
    subst hji
    refine Rn.out zB 1000 rfl rfl ?_
    refine Rn.again zB 1000 rfl (j + 1) [some 0, some 1, some 2, some 3] (by omega) (⟨hlt, fun k hk => by
      by_cases e : k = j
      · subst e
        exact fun r' hr' => by rw [hr] at hr'; injection hr' with e; subst e; exact ⟨b0, fun k q hk hq' => hq k q hk hq'⟩
      · exact hp k (by omega)⟩) ⟨rfl, rfl, rfl, rfl, rfl, by (repeat' first | exact trivial | exact rfl | exact Or.inl (And.intro rfl rfl) | exact wsucc _ (by omega) | exact wlin (by first | omega | (push_cast; omega)) (by omega) | exact wint (by omega) (by omega) | refine And.intro ?_ ?_ | refine Or.inr ?_), by (repeat' first | exact trivial | exact rfl | exact (by decide) | exact zerosI _ | exact zerosN _ | exact OfRaw.rows (by omega) | exact Or.inl (And.intro rfl rfl) | refine And.intro ?_ ?_ | refine Exists.intro _ (Exists.intro _ (And.intro rfl (And.intro (by decide) ?_))))⟩
  have hge : i = rs.length := by simp at hlt; omega
  subst hge
  have hR : ∀ (i : Nat) (r : Rt), rs[i]? = some r → rightB r = true ∧ ∀ (j : Nat) (q : Rt), j < i → rs[j]? = some q → olderB q r = true ∧ q.no ≠ r.no := fun i r hr => hp i (List.getElem?_eq_some_iff.mp hr).1 r hr
  clear hp hi hlt
  refine Rn.out zB 1000 rfl rfl ?_
  refine Rn.loop zB 1000 rfl (T := Nat) (fun i => ss.length - i) (fun i => i ≤ ss.length ∧ ∀ j, j < i → PS ss j) (fun i => [(7, iA i), (1, .one (.ptr (some (3, 0))))]) (fun _ => shC rs ss po f1 f2 f3) (fun _ => 4) (0) [some 0, some 1, some 2, some 3] (⟨Nat.zero_le _, fun j h => absurd h (Nat.not_lt_zero j)⟩) ⟨rfl, rfl, rfl, rfl, rfl, by (repeat' first | exact trivial | exact rfl | exact Or.inl (And.intro rfl rfl) | exact wsucc _ (by omega) | exact wlin (by first | omega | (push_cast; omega)) (by omega) | exact wint (by omega) (by omega) | refine And.intro ?_ ?_ | refine Or.inr ?_), by (repeat' first | exact trivial | exact rfl | exact (by decide) | exact zerosI _ | exact zerosN _ | exact OfRaw.rows (by omega) | exact Or.inl (And.intro rfl rfl) | refine And.intro ?_ ?_ | refine Exists.intro _ (Exists.intro _ (And.intro rfl (And.intro (by decide) ?_))))⟩ ?_
  rintro i ⟨hi, hp⟩
  refine Rn.split zB 1000 rfl (fun hlt => ?_) (fun hlt => ?_)
  · have hlt : i < ss.length := by simpa using hlt
    obtain ⟨x, hx⟩ : ∃ r, ss[i]? = some r := ⟨ss[i], List.getElem?_eq_getElem hlt⟩
    refine Rn.ask zB 1000 rfl ⟨by first | omega | (dsimp only; omega), by first | omega | (dsimp only; omega)⟩ ?_
    refine Rn.loadR zB 1000 rfl (LoadR.elt eSu hx (by simp)) ?_
    refine Rn.split zB 1000 rfl (fun b0 => ?_) (fun b0 => ?_)
    · repeat (refine Rn.split zB 1000 rfl (fun _ => ?_) (fun h => by cases h))
      refine Rn.out zB 1000 rfl rfl ?_
      refine Rn.fin0 zB 1000 rfl rfl rfl rfl ?_
      refine badV fun c => ?_
      have := suB_fine (c.s i x hx).1
      rw [this.1] at b0
      cases b0
    refine Rn.split zB 1000 rfl (fun b1 => ?_) (fun b1 => ?_)
    · repeat (refine Rn.split zB 1000 rfl (fun _ => ?_) (fun h => by cases h))
      refine Rn.out zB 1000 rfl rfl ?_
      refine Rn.fin0 zB 1000 rfl rfl rfl rfl ?_
      refine badV fun c => ?_
      have := suB_fine (c.s i x hx).1
      rw [this.2.1] at b1
      cases b1
    refine Rn.split zB 1000 rfl (fun b2 => ?_) (fun b2 => ?_)
    · refine Rn.out zB 1000 rfl rfl ?_
      refine Rn.fin0 zB 1000 rfl rfl rfl rfl ?_
      refine badV fun c => ?_
      have := suB_fine (c.s i x hx).1
      rw [this.2.2] at b2
      cases b2
    refine Rn.draw zB 1000 [0, 1, 3, 7, 15, 7, 39, 127, 255, 511, 7, 1031, 4095, 8191, 16383, 32767, 16383, 81919, 262143, 524287, 1048575, 16383, 2113535, 8388607, 16777215, 33554431, 67108863, 33554431, 167772159, 536870911, 1073741823, 2147483647, 33554431, 4328521727, 17179869183, 34359738367, 68719476735, 137438953471] rfl (by kernel_rfl) (by kernel_rfl) ?_
    refine Rn.cutS [] rfl (T := Bool) (fun b => (b = true → ¬ ∀ q : Su, 0 < i → ss[i - 1]? = some q → q.valley < x.valley ∨ (q.valley = x.valley ∧ q.day < x.day)) ∧ (b = false → ∀ q : Su, 0 < i → ss[i - 1]? = some q → q.valley < x.valley ∨ (q.valley = x.valley ∧ q.day < x.day))) (fun b => [(147, .one (.bool b)), (7, iA i), (1, .one (.ptr (some (3, 0))))]) (fun _ => shC rs ss po f1 f2 f3) (fun _ => 4) ?_ ?_
    · refine Rn.split zB 1000 rfl (fun b8 => ?_) (fun b8 => ?_)
      · have h0 : 0 < i := by simp at b8; omega
        obtain ⟨q, hq⟩ : ∃ q, ss[i - 1]? = some q := ⟨ss[i - 1], List.getElem?_eq_getElem (by omega)⟩
        refine Rn.ask zB 1000 rfl ⟨by rw [wpred i h0 (by omega)]; omega, by rw [wpred i h0 (by omega)]; omega⟩ ?_
        refine Rn.loadR zB 1000 rfl (LoadR.fld eSu (f := 0) (v := .int .i64 q.valley) hq (by rw [wpred i h0 (by omega)]; simp) rfl rfl) ?_
        refine Rn.split zB 1000 rfl (fun c1 => ?_) (fun c1 => ?_)
        · have c1 : x.valley < q.valley := by simp at c1; omega
          repeat (refine Rn.split zB 1000 rfl (fun _ => ?_) (fun h => by cases h))
          refine Rn.cutEnd zB 1000 rfl (true) [some 0, some 1, some 2, some 3] (⟨fun _ c => (by have := c q h0 hq; omega), fun h => (by cases h)⟩) ⟨rfl, rfl, rfl, rfl, rfl, by (repeat' first | exact trivial | exact rfl | exact Or.inl (And.intro rfl rfl) | exact wsucc _ (by omega) | exact wlin (by first | omega | (push_cast; omega)) (by omega) | exact wint (by omega) (by omega) | refine And.intro ?_ ?_ | refine Or.inr ?_), by (repeat' first | exact trivial | exact rfl | exact (by decide) | exact zerosI _ | exact zerosN _ | exact OfRaw.rows (by omega) | exact Or.inl (And.intro rfl rfl) | refine And.intro ?_ ?_ | refine Exists.intro _ (Exists.intro _ (And.intro rfl (And.intro (by decide) ?_))))⟩
        have c1 : q.valley ≤ x.valley := by simp at c1; omega
        refine Rn.ask zB 1000 rfl ⟨by rw [wpred i h0 (by omega)]; omega, by rw [wpred i h0 (by omega)]; omega⟩ ?_
        refine Rn.loadR zB 1000 rfl (LoadR.fld eSu (f := 0) (v := .int .i64 q.valley) hq (by rw [wpred i h0 (by omega)]; simp) rfl rfl) ?_
        refine Rn.split zB 1000 rfl (fun c2 => ?_) (fun c2 => ?_)
        · have c2 : q.valley = x.valley := by simpa using c2
          refine Rn.ask zB 1000 rfl ⟨by rw [wpred i h0 (by omega)]; omega, by rw [wpred i h0 (by omega)]; omega⟩ ?_
          refine Rn.loadR zB 1000 rfl (LoadR.fld eSu (f := 1) (v := .int .i64 q.day) hq (by rw [wpred i h0 (by omega)]; simp) rfl rfl) ?_
          refine Rn.cutEnd zB 1000 rfl (decide (q.day ≥ x.day)) [some 0, some 1, some 2, some 3] (⟨fun h c => (by have := c q h0 hq; simp at h; omega), fun h q' _ hq' => (by rw [hq] at hq'; injection hq' with e; subst e; simp at h; exact .inr ⟨c2, h⟩)⟩) ⟨rfl, rfl, rfl, rfl, rfl, by (repeat' first | exact trivial | exact rfl | exact Or.inl (And.intro rfl rfl) | exact wsucc _ (by omega) | exact wlin (by first | omega | (push_cast; omega)) (by omega) | exact wint (by omega) (by omega) | refine And.intro ?_ ?_ | refine Or.inr ?_), by (repeat' first | exact trivial | exact rfl | exact (by decide) | exact zerosI _ | exact zerosN _ | exact OfRaw.rows (by omega) | exact Or.inl (And.intro rfl rfl) | refine And.intro ?_ ?_ | refine Exists.intro _ (Exists.intro _ (And.intro rfl (And.intro (by decide) ?_))))⟩
        · have c2 : q.valley ≠ x.valley := by simpa using c2
          repeat (refine Rn.split zB 1000 rfl (fun h => by cases h) (fun _ => ?_))
          refine Rn.cutEnd zB 1000 rfl (false) [some 0, some 1, some 2, some 3] (⟨fun h => (by cases h), fun h q' _ hq' => (by rw [hq] at hq'; injection hq' with e; subst e; exact .inl (by omega))⟩) ⟨rfl, rfl, rfl, rfl, rfl, by (repeat' first | exact trivial | exact rfl | exact Or.inl (And.intro rfl rfl) | exact wsucc _ (by omega) | exact wlin (by first | omega | (push_cast; omega)) (by omega) | exact wint (by omega) (by omega) | refine And.intro ?_ ?_ | refine Or.inr ?_), by (repeat' first | exact trivial | exact rfl | exact (by decide) | exact zerosI _ | exact zerosN _ | exact OfRaw.rows (by omega) | exact Or.inl (And.intro rfl rfl) | refine And.intro ?_ ?_ | refine Exists.intro _ (Exists.intro _ (And.intro rfl (And.intro (by decide) ?_))))⟩
      · have h0 : i = 0 := by simp at b8; omega
        repeat (refine Rn.split zB 1000 rfl (fun h => by cases h) (fun _ => ?_))
        refine Rn.cutEnd zB 1000 rfl (false) [some 0, some 1, some 2, some 3] (⟨fun h => (by cases h), fun h q' h0' _ => (by omega)⟩) ⟨rfl, rfl, rfl, rfl, rfl, by (repeat' first | exact trivial | exact rfl | exact Or.inl (And.intro rfl rfl) | exact wsucc _ (by omega) | exact wlin (by first | omega | (push_cast; omega)) (by omega) | exact wint (by omega) (by omega) | refine And.intro ?_ ?_ | refine Or.inr ?_), by (repeat' first | exact trivial | exact rfl | exact (by decide) | exact zerosI _ | exact zerosN _ | exact OfRaw.rows (by omega) | exact Or.inl (And.intro rfl rfl) | refine And.intro ?_ ?_ | refine Exists.intro _ (Exists.intro _ (And.intro rfl (And.intro (by decide) ?_))))⟩
    rintro b ⟨hbt, hbf⟩
    refine Rn.split zB 1000 rfl (fun b9 => ?_) (fun b9 => ?_)
    · refine Rn.out zB 1000 rfl rfl ?_
      refine Rn.fin0 zB 1000 rfl rfl rfl rfl ?_
      exact badV fun c => hbt b9 (c.s i x hx).2
    refine Rn.again zB 1000 rfl (i + 1) [some 0, some 1, some 2, some 3] (by omega) (⟨hlt, fun j hj => by
      by_cases e : j = i
      · subst e
        exact fun r' hr' => by rw [hx] at hr'; injection hr' with e; subst e; exact ⟨by unfold suB; simp at b0 b1 b2; simp [b0, b1, b2], hbf b9⟩
      · exact hp j (by omega)⟩) ⟨rfl, rfl, rfl, rfl, rfl, by (repeat' first | exact trivial | exact rfl | exact Or.inl (And.intro rfl rfl) | exact wsucc _ (by omega) | exact wlin (by first | omega | (push_cast; omega)) (by omega) | exact wint (by omega) (by omega) | refine And.intro ?_ ?_ | refine Or.inr ?_), by (repeat' first | exact trivial | exact rfl | exact (by decide) | exact zerosI _ | exact zerosN _ | exact OfRaw.rows (by omega) | exact Or.inl (And.intro rfl rfl) | refine And.intro ?_ ?_ | refine Exists.intro _ (Exists.intro _ (And.intro rfl (And.intro (by decide) ?_))))⟩
  have hge : i = ss.length := by simp at hlt; omega
  subst hge
  have hS := hp
  clear hp hi hlt
  refine Rn.out zB 1000 rfl rfl ?_
  refine Rn.loop zB 1000 rfl (T := Nat) (fun i => po.length - i) (fun i => i ≤ po.length ∧ ∀ j, j < i → PP po j) (fun i => [(12, iA i), (1, .one (.ptr (some (3, 0))))]) (fun _ => shC rs ss po f1 f2 f3) (fun _ => 4) (0) [some 0, some 1, some 2, some 3] (⟨Nat.zero_le _, fun j h => absurd h (Nat.not_lt_zero j)⟩) ⟨rfl, rfl, rfl, rfl, rfl, by (repeat' first | exact trivial | exact rfl | exact Or.inl (And.intro rfl rfl) | exact wsucc _ (by omega) | exact wlin (by first | omega | (push_cast; omega)) (by omega) | exact wint (by omega) (by omega) | refine And.intro ?_ ?_ | refine Or.inr ?_), by (repeat' first | exact trivial | exact rfl | exact (by decide) | exact zerosI _ | exact zerosN _ | exact OfRaw.rows (by omega) | exact Or.inl (And.intro rfl rfl) | refine And.intro ?_ ?_ | refine Exists.intro _ (Exists.intro _ (And.intro rfl (And.intro (by decide) ?_))))⟩ ?_
  rintro i ⟨hi, hp⟩
  refine Rn.split zB 1000 rfl (fun hlt => ?_) (fun hlt => ?_)
  · have hlt : i < po.length := by simpa using hlt
    obtain ⟨x, hx⟩ : ∃ r, po[i]? = some r := ⟨po[i], List.getElem?_eq_getElem hlt⟩
    refine Rn.ask zB 1000 rfl ⟨by first | omega | (dsimp only; omega), by first | omega | (dsimp only; omega)⟩ ?_
    refine Rn.loadR zB 1000 rfl (LoadR.fld ePo (f := 0) (v := .int .i64 x.valley) hx (by simp) rfl rfl) ?_
    refine Rn.ask zB 1000 rfl ⟨by first | omega | (dsimp only; omega), by first | omega | (dsimp only; omega)⟩ ?_
    refine Rn.loadR zB 1000 rfl (LoadR.fld ePo (f := 1) (v := .int .i64 x.room) hx (by simp) rfl rfl) ?_
    refine Rn.draw zB 1000 [0, 1, 3, 7, 15, 31, 63, 127, 255, 511, 1023, 2047, 1023, 5119, 16383, 32767, 65535, 1023, 132095, 1023, 918527, 1967103, 4064255, 8388607, 16777215, 33554431] rfl (by kernel_rfl) (by kernel_rfl) ?_
    refine Rn.cutS [] rfl (T := Bool) (fun b => (b = true → ¬ PP po i) ∧ (b = false → PP po i)) (fun b => [(194, .one (.bool b)), (12, iA i), (1, .one (.ptr (some (3, 0))))]) (fun _ => shC rs ss po f1 f2 f3) (fun _ => 4) ?_ ?_
    · refine Rn.split zB 1000 rfl (fun b0 => ?_) (fun b0 => ?_)
      · repeat (refine Rn.split zB 1000 rfl (fun _ => ?_) (fun h => by cases h))
        refine Rn.cutEnd zB 1000 rfl (true) [some 0, some 1, some 2, some 3] (⟨fun _ c => (by have := poB_fine (c x hx).1; rw [this.1] at b0; cases b0), fun h => (by cases h)⟩) ⟨rfl, rfl, rfl, rfl, rfl, by (repeat' first | exact trivial | exact rfl | exact Or.inl (And.intro rfl rfl) | exact wsucc _ (by omega) | exact wlin (by first | omega | (push_cast; omega)) (by omega) | exact wint (by omega) (by omega) | refine And.intro ?_ ?_ | refine Or.inr ?_), by (repeat' first | exact trivial | exact rfl | exact (by decide) | exact zerosI _ | exact zerosN _ | exact OfRaw.rows (by omega) | exact Or.inl (And.intro rfl rfl) | refine And.intro ?_ ?_ | refine Exists.intro _ (Exists.intro _ (And.intro rfl (And.intro (by decide) ?_))))⟩
      have b0 : isNum x.valley = true := by simpa using b0
      refine Rn.split zB 1000 rfl (fun b1 => ?_) (fun b1 => ?_)
      · repeat (refine Rn.split zB 1000 rfl (fun _ => ?_) (fun h => by cases h))
        refine Rn.cutEnd zB 1000 rfl (true) [some 0, some 1, some 2, some 3] (⟨fun _ c => (by have := poB_fine (c x hx).1; rw [this.2] at b1; cases b1), fun h => (by cases h)⟩) ⟨rfl, rfl, rfl, rfl, rfl, by (repeat' first | exact trivial | exact rfl | exact Or.inl (And.intro rfl rfl) | exact wsucc _ (by omega) | exact wlin (by first | omega | (push_cast; omega)) (by omega) | exact wint (by omega) (by omega) | refine And.intro ?_ ?_ | refine Or.inr ?_), by (repeat' first | exact trivial | exact rfl | exact (by decide) | exact zerosI _ | exact zerosN _ | exact OfRaw.rows (by omega) | exact Or.inl (And.intro rfl rfl) | refine And.intro ?_ ?_ | refine Exists.intro _ (Exists.intro _ (And.intro rfl (And.intro (by decide) ?_))))⟩
      have b1 : isVol x.room = true := by simpa using b1
      have hb : poB x = true := by unfold poB; rw [b0, b1]; rfl
      refine Rn.split zB 1000 rfl (fun b8 => ?_) (fun b8 => ?_)
      · have h0 : 0 < i := by simp at b8; omega
        obtain ⟨q, hq⟩ : ∃ q, po[i - 1]? = some q := ⟨po[i - 1], List.getElem?_eq_getElem (by omega)⟩
        refine Rn.ask zB 1000 rfl ⟨by rw [wpred i h0 (by omega)]; omega, by rw [wpred i h0 (by omega)]; omega⟩ ?_
        refine Rn.loadR zB 1000 rfl (LoadR.fld ePo (f := 0) (v := .int .i64 q.valley) hq (by rw [wpred i h0 (by omega)]; simp) rfl rfl) ?_
        refine Rn.ask zB 1000 rfl ⟨by omega, by omega⟩ ?_
        refine Rn.loadR zB 1000 rfl (LoadR.fld ePo (f := 0) (v := .int .i64 x.valley) hx (by simp) rfl rfl) ?_
        refine Rn.cutEnd zB 1000 rfl (decide (q.valley ≥ x.valley)) [some 0, some 1, some 2, some 3] (⟨fun h c => (by have := (c x hx).2 q h0 hq; simp at h; omega), fun h y hy => (by rw [hx] at hy; injection hy with e; subst e; exact ⟨hb, fun q' _ hq' => (by rw [hq] at hq'; injection hq' with e; subst e; simp at h; exact h)⟩)⟩) ⟨rfl, rfl, rfl, rfl, rfl, by (repeat' first | exact trivial | exact rfl | exact Or.inl (And.intro rfl rfl) | exact wsucc _ (by omega) | exact wlin (by first | omega | (push_cast; omega)) (by omega) | exact wint (by omega) (by omega) | refine And.intro ?_ ?_ | refine Or.inr ?_), by (repeat' first | exact trivial | exact rfl | exact (by decide) | exact zerosI _ | exact zerosN _ | exact OfRaw.rows (by omega) | exact Or.inl (And.intro rfl rfl) | refine And.intro ?_ ?_ | refine Exists.intro _ (Exists.intro _ (And.intro rfl (And.intro (by decide) ?_))))⟩
      · have h0 : i = 0 := by simp at b8; omega
        repeat (refine Rn.split zB 1000 rfl (fun h => by cases h) (fun _ => ?_))
        refine Rn.cutEnd zB 1000 rfl (false) [some 0, some 1, some 2, some 3] (⟨fun h => (by cases h), fun h y hy => (by rw [hx] at hy; injection hy with e; subst e; exact ⟨hb, fun q' h0' _ => (by omega)⟩)⟩) ⟨rfl, rfl, rfl, rfl, rfl, by (repeat' first | exact trivial | exact rfl | exact Or.inl (And.intro rfl rfl) | exact wsucc _ (by omega) | exact wlin (by first | omega | (push_cast; omega)) (by omega) | exact wint (by omega) (by omega) | refine And.intro ?_ ?_ | refine Or.inr ?_), by (repeat' first | exact trivial | exact rfl | exact (by decide) | exact zerosI _ | exact zerosN _ | exact OfRaw.rows (by omega) | exact Or.inl (And.intro rfl rfl) | refine And.intro ?_ ?_ | refine Exists.intro _ (Exists.intro _ (And.intro rfl (And.intro (by decide) ?_))))⟩
    rintro b ⟨hbt, hbf⟩
    refine Rn.split zB 1000 rfl (fun b9 => ?_) (fun b9 => ?_)
    · refine Rn.out zB 1000 rfl rfl ?_
      refine Rn.fin0 zB 1000 rfl rfl rfl rfl ?_
      exact badV fun c => hbt b9 (c.p i)
    refine Rn.again zB 1000 rfl (i + 1) [some 0, some 1, some 2, some 3] (by omega) (⟨hlt, fun j hj => by
      by_cases e : j = i
      · subst e
        exact hbf b9
      · exact hp j (by omega)⟩) ⟨rfl, rfl, rfl, rfl, rfl, by (repeat' first | exact trivial | exact rfl | exact Or.inl (And.intro rfl rfl) | exact wsucc _ (by omega) | exact wlin (by first | omega | (push_cast; omega)) (by omega) | exact wint (by omega) (by omega) | refine And.intro ?_ ?_ | refine Or.inr ?_), by (repeat' first | exact trivial | exact rfl | exact (by decide) | exact zerosI _ | exact zerosN _ | exact OfRaw.rows (by omega) | exact Or.inl (And.intro rfl rfl) | refine And.intro ?_ ?_ | refine Exists.intro _ (Exists.intro _ (And.intro rfl (And.intro (by decide) ?_))))⟩
  have hge : i = po.length := by simp at hlt; omega
  subst hge
  refine Rn.out zB 1000 rfl rfl ?_
  refine Rn.fin0 zB 1000 rfl rfl rfl rfl ?_
  rw [shErr_ok ⟨e0, e1, e2, hR, fun i x hx => hS i (List.getElem?_eq_some_iff.mp hx).1 x hx, fun i x hx => hp i (List.getElem?_eq_some_iff.mp hx).1 x hx⟩]
end Go.AM
