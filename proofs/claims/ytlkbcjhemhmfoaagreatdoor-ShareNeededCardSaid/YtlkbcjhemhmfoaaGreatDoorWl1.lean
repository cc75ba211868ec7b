/- Walks: Clone, small; Enough and Promise of a valid share. -/
import Derived.Test.YtlkbcjhemhmfoaaGreatDoorWl0
import Derived.Test.YtlkbcjhemhmfoaaGreatDoorMm
set_option linter.unusedSimpArgs false
set_option linter.unusedVariables false
namespace Go.AM
open Go Go.Proofs
open Snow (Arc Pipe arcsOf Laid IsMax)
set_option maxRecDepth 10000
set_option maxHeartbeats 1000000

theorem beqF {n : Nat} (h : n ≠ 0) : Nat.beq n 0 = false := by
  cases hb : Nat.beq n 0 with
  | false => rfl
  | true => exact absurd (Nat.eq_of_beq_eq_true hb) h
theorem c_clone (xs : List Int) (full : Bool) (hb : xs.length < 90000000000) : Ct envB 48 [slA 0 0 xs.length full 1] [⟨0, false, none, .raw (arr iC xs)⟩] 1 Unit (fun _ => slA 1 0 xs.length (Nat.beq xs.length 0) 1) (fun _ => [⟨1, true, none, .raw (arr iC xs)⟩]) (fun _ => 2) := by
  refine Ct.of zB (fn := Tryz.f48) (by kernel_rfl) (by kernel_rfl) rfl rfl ?_
  refine Rn.isNil true zB 1000 rfl rfl (.inl ⟨rfl, rfl⟩) rfl rfl rfl (fun h => ?_) ?_
  · obtain rfl : xs = [] := List.length_eq_zero_iff.mp h
    repeat (refine Rn.split zB 1000 rfl (fun _ => ?_) (fun h => by cases h))
    refine Rn.fin zB 1000 rfl rfl rfl () [some 0, none] rfl rfl ?_ ?_ rfl rfl rfl
    · (repeat' first | exact trivial | exact rfl | exact Or.inl (And.intro rfl rfl) | exact wsucc _ (by omega) | exact wlin (by first | omega | (push_cast; omega)) (by omega) | exact wint (by omega) (by omega) | refine And.intro ?_ ?_ | refine Or.inr ?_)
    · (repeat' first | exact trivial | exact rfl | exact (by decide) | exact zerosI _ | exact zerosN _ | exact OfRaw.rows (by omega) | exact Or.inl (And.intro rfl rfl) | refine And.intro ?_ ?_ | refine Exists.intro _ (Exists.intro _ (And.intro rfl (And.intro (by decide) ?_))))
  repeat (refine Rn.split zB 1000 rfl (fun h => by cases h) (fun _ => ?_))
  rcases Nat.eq_zero_or_pos xs.length with h0 | h0
  · obtain rfl : xs = [] := List.length_eq_zero_iff.mp h0
    refine Rn.app0 zB 1000 rfl (Src.ex rfl rfl rfl (cells_ex rfl)) (Src.raw rfl rfl (cells_all eI [])) rfl (by omega) rfl (by omega) rfl ?_
    refine Rn.fin zB 1000 rfl rfl rfl () [some 0, some 1] rfl rfl ?_ ?_ rfl rfl rfl
    · (repeat' first | exact trivial | exact rfl | exact Or.inl (And.intro rfl rfl) | exact wsucc _ (by omega) | exact wlin (by first | omega | (push_cast; omega)) (by omega) | exact wint (by omega) (by omega) | refine And.intro ?_ ?_ | refine Or.inr ?_)
    · (repeat' first | exact trivial | exact rfl | exact (by decide) | exact zerosI _ | exact zerosN _ | exact OfRaw.rows (by omega) | exact Or.inl (And.intro rfl rfl) | refine And.intro ?_ ?_ | refine Exists.intro _ (Exists.intro _ (And.intro rfl (And.intro (by decide) ?_))))
  · have hbe : Nat.beq xs.length 0 = false := beqF (by omega)
    rw [hbe]
    refine Rn.appF zB 1000 rfl (arr iC xs) (Src.ex rfl rfl rfl (cells_ex rfl)) (Src.raw rfl rfl (cells_all eI xs)) (rfl) rfl (xs.length) (by first | rfl | omega | (simp; done) | (simp; omega)) (by omega) rfl (by omega) (.inl rfl) rfl ?_
    refine Rn.fin zB 1000 rfl rfl rfl () [some 0, some 2] rfl rfl ?_ ?_ rfl rfl rfl
    · (repeat' first | exact trivial | exact rfl | exact Or.inl (And.intro rfl rfl) | exact wsucc _ (by omega) | exact wlin (by first | omega | (push_cast; omega)) (by omega) | exact wint (by omega) (by omega) | refine And.intro ?_ ?_ | refine Or.inr ?_)
    · (repeat' first | exact trivial | exact rfl | exact (by decide) | exact zerosI _ | exact zerosN _ | exact OfRaw.rows (by omega) | exact Or.inl (And.intro rfl rfl) | refine And.intro ?_ ?_ | refine Exists.intro _ (Exists.intro _ (And.intro rfl (And.intro (by decide) ?_))))
theorem c_cloneR (xs : List Rt) (full : Bool) (hb : xs.length < 90000000000) : Ct envB 49 [slA 0 0 xs.length full 7] [⟨0, false, none, .raw (arr Rt.c xs)⟩] 1 Unit (fun _ => slA 1 0 xs.length (Nat.beq xs.length 0) 7) (fun _ => [⟨1, true, none, .raw (arr Rt.c xs)⟩]) (fun _ => 2) := by
  refine Ct.of zB (fn := Tryz.f49) (by kernel_rfl) (by kernel_rfl) rfl rfl ?_
  refine Rn.isNil true zB 1000 rfl rfl (.inl ⟨rfl, rfl⟩) rfl rfl rfl (fun h => ?_) ?_
  · obtain rfl : xs = [] := List.length_eq_zero_iff.mp h
    repeat (refine Rn.split zB 1000 rfl (fun _ => ?_) (fun h => by cases h))
    refine Rn.fin zB 1000 rfl rfl rfl () [some 0, none] rfl rfl ?_ ?_ rfl rfl rfl
    · (repeat' first | exact trivial | exact rfl | exact Or.inl (And.intro rfl rfl) | exact wsucc _ (by omega) | exact wlin (by first | omega | (push_cast; omega)) (by omega) | exact wint (by omega) (by omega) | refine And.intro ?_ ?_ | refine Or.inr ?_)
    · (repeat' first | exact trivial | exact rfl | exact (by decide) | exact zerosI _ | exact zerosN _ | exact OfRaw.rows (by omega) | exact Or.inl (And.intro rfl rfl) | refine And.intro ?_ ?_ | refine Exists.intro _ (Exists.intro _ (And.intro rfl (And.intro (by decide) ?_))))
  repeat (refine Rn.split zB 1000 rfl (fun h => by cases h) (fun _ => ?_))
  rcases Nat.eq_zero_or_pos xs.length with h0 | h0
  · obtain rfl : xs = [] := List.length_eq_zero_iff.mp h0
    refine Rn.app0 zB 1000 rfl (Src.ex rfl rfl rfl (cells_ex rfl)) (Src.raw rfl rfl (cells_all eRt [])) rfl (by omega) rfl (by omega) rfl ?_
    refine Rn.fin zB 1000 rfl rfl rfl () [some 0, some 1] rfl rfl ?_ ?_ rfl rfl rfl
    · (repeat' first | exact trivial | exact rfl | exact Or.inl (And.intro rfl rfl) | exact wsucc _ (by omega) | exact wlin (by first | omega | (push_cast; omega)) (by omega) | exact wint (by omega) (by omega) | refine And.intro ?_ ?_ | refine Or.inr ?_)
    · (repeat' first | exact trivial | exact rfl | exact (by decide) | exact zerosI _ | exact zerosN _ | exact OfRaw.rows (by omega) | exact Or.inl (And.intro rfl rfl) | refine And.intro ?_ ?_ | refine Exists.intro _ (Exists.intro _ (And.intro rfl (And.intro (by decide) ?_))))
  · have hbe : Nat.beq xs.length 0 = false := beqF (by omega)
    rw [hbe]
    refine Rn.appF zB 1000 rfl (arr Rt.c xs) (Src.ex rfl rfl rfl (cells_ex rfl)) (Src.raw rfl rfl (cells_all eRt xs)) (rfl) rfl (xs.length) (by first | rfl | omega | (simp; done) | (simp; omega)) (by omega) rfl (by omega) (.inl rfl) rfl ?_
    refine Rn.fin zB 1000 rfl rfl rfl () [some 0, some 2] rfl rfl ?_ ?_ rfl rfl rfl
    · (repeat' first | exact trivial | exact rfl | exact Or.inl (And.intro rfl rfl) | exact wsucc _ (by omega) | exact wlin (by first | omega | (push_cast; omega)) (by omega) | exact wint (by omega) (by omega) | refine And.intro ?_ ?_ | refine Or.inr ?_)
    · (repeat' first | exact trivial | exact rfl | exact (by decide) | exact zerosI _ | exact zerosN _ | exact OfRaw.rows (by omega) | exact Or.inl (And.intro rfl rfl) | refine And.intro ?_ ?_ | refine Exists.intro _ (Exists.intro _ (And.intro rfl (And.intro (by decide) ?_))))
theorem c_cloneS (xs : List Su) (full : Bool) (hb : xs.length < 90000000000) : Ct envB 90 [slA 0 0 xs.length full 3] [⟨0, false, none, .raw (arr Su.c xs)⟩] 1 Unit (fun _ => slA 1 0 xs.length (Nat.beq xs.length 0) 3) (fun _ => [⟨1, true, none, .raw (arr Su.c xs)⟩]) (fun _ => 2) := by
  refine Ct.of zB (fn := Tryz.f90) (by kernel_rfl) (by kernel_rfl) rfl rfl ?_
  refine Rn.isNil true zB 1000 rfl rfl (.inl ⟨rfl, rfl⟩) rfl rfl rfl (fun h => ?_) ?_
  · obtain rfl : xs = [] := List.length_eq_zero_iff.mp h
    repeat (refine Rn.split zB 1000 rfl (fun _ => ?_) (fun h => by cases h))
    refine Rn.fin zB 1000 rfl rfl rfl () [some 0, none] rfl rfl ?_ ?_ rfl rfl rfl
    · (repeat' first | exact trivial | exact rfl | exact Or.inl (And.intro rfl rfl) | exact wsucc _ (by omega) | exact wlin (by first | omega | (push_cast; omega)) (by omega) | exact wint (by omega) (by omega) | refine And.intro ?_ ?_ | refine Or.inr ?_)
    · (repeat' first | exact trivial | exact rfl | exact (by decide) | exact zerosI _ | exact zerosN _ | exact OfRaw.rows (by omega) | exact Or.inl (And.intro rfl rfl) | refine And.intro ?_ ?_ | refine Exists.intro _ (Exists.intro _ (And.intro rfl (And.intro (by decide) ?_))))
  repeat (refine Rn.split zB 1000 rfl (fun h => by cases h) (fun _ => ?_))
  rcases Nat.eq_zero_or_pos xs.length with h0 | h0
  · obtain rfl : xs = [] := List.length_eq_zero_iff.mp h0
    refine Rn.app0 zB 1000 rfl (Src.ex rfl rfl rfl (cells_ex rfl)) (Src.raw rfl rfl (cells_all eSu [])) rfl (by omega) rfl (by omega) rfl ?_
    refine Rn.fin zB 1000 rfl rfl rfl () [some 0, some 1] rfl rfl ?_ ?_ rfl rfl rfl
    · (repeat' first | exact trivial | exact rfl | exact Or.inl (And.intro rfl rfl) | exact wsucc _ (by omega) | exact wlin (by first | omega | (push_cast; omega)) (by omega) | exact wint (by omega) (by omega) | refine And.intro ?_ ?_ | refine Or.inr ?_)
    · (repeat' first | exact trivial | exact rfl | exact (by decide) | exact zerosI _ | exact zerosN _ | exact OfRaw.rows (by omega) | exact Or.inl (And.intro rfl rfl) | refine And.intro ?_ ?_ | refine Exists.intro _ (Exists.intro _ (And.intro rfl (And.intro (by decide) ?_))))
  · have hbe : Nat.beq xs.length 0 = false := beqF (by omega)
    rw [hbe]
    refine Rn.appF zB 1000 rfl (arr Su.c xs) (Src.ex rfl rfl rfl (cells_ex rfl)) (Src.raw rfl rfl (cells_all eSu xs)) (rfl) rfl (xs.length) (by first | rfl | omega | (simp; done) | (simp; omega)) (by omega) rfl (by omega) (.inl rfl) rfl ?_
    refine Rn.fin zB 1000 rfl rfl rfl () [some 0, some 2] rfl rfl ?_ ?_ rfl rfl rfl
    · (repeat' first | exact trivial | exact rfl | exact Or.inl (And.intro rfl rfl) | exact wsucc _ (by omega) | exact wlin (by first | omega | (push_cast; omega)) (by omega) | exact wint (by omega) (by omega) | refine And.intro ?_ ?_ | refine Or.inr ?_)
    · (repeat' first | exact trivial | exact rfl | exact (by decide) | exact zerosI _ | exact zerosN _ | exact OfRaw.rows (by omega) | exact Or.inl (And.intro rfl rfl) | refine And.intro ?_ ?_ | refine Exists.intro _ (Exists.intro _ (And.intro rfl (And.intro (by decide) ?_))))
theorem c_cloneP (xs : List Po) (full : Bool) (hb : xs.length < 90000000000) : Ct envB 96 [slA 0 0 xs.length full 2] [⟨0, false, none, .raw (arr Po.c xs)⟩] 1 Unit (fun _ => slA 1 0 xs.length (Nat.beq xs.length 0) 2) (fun _ => [⟨1, true, none, .raw (arr Po.c xs)⟩]) (fun _ => 2) := by
  refine Ct.of zB (fn := Tryz.f96) (by kernel_rfl) (by kernel_rfl) rfl rfl ?_
  refine Rn.isNil true zB 1000 rfl rfl (.inl ⟨rfl, rfl⟩) rfl rfl rfl (fun h => ?_) ?_
  · obtain rfl : xs = [] := List.length_eq_zero_iff.mp h
    repeat (refine Rn.split zB 1000 rfl (fun _ => ?_) (fun h => by cases h))
    refine Rn.fin zB 1000 rfl rfl rfl () [some 0, none] rfl rfl ?_ ?_ rfl rfl rfl
    · (repeat' first | exact trivial | exact rfl | exact Or.inl (And.intro rfl rfl) | exact wsucc _ (by omega) | exact wlin (by first | omega | (push_cast; omega)) (by omega) | exact wint (by omega) (by omega) | refine And.intro ?_ ?_ | refine Or.inr ?_)
    · (repeat' first | exact trivial | exact rfl | exact (by decide) | exact zerosI _ | exact zerosN _ | exact OfRaw.rows (by omega) | exact Or.inl (And.intro rfl rfl) | refine And.intro ?_ ?_ | refine Exists.intro _ (Exists.intro _ (And.intro rfl (And.intro (by decide) ?_))))
  repeat (refine Rn.split zB 1000 rfl (fun h => by cases h) (fun _ => ?_))
  rcases Nat.eq_zero_or_pos xs.length with h0 | h0
  · obtain rfl : xs = [] := List.length_eq_zero_iff.mp h0
    refine Rn.app0 zB 1000 rfl (Src.ex rfl rfl rfl (cells_ex rfl)) (Src.raw rfl rfl (cells_all ePo [])) rfl (by omega) rfl (by omega) rfl ?_
    refine Rn.fin zB 1000 rfl rfl rfl () [some 0, some 1] rfl rfl ?_ ?_ rfl rfl rfl
    · (repeat' first | exact trivial | exact rfl | exact Or.inl (And.intro rfl rfl) | exact wsucc _ (by omega) | exact wlin (by first | omega | (push_cast; omega)) (by omega) | exact wint (by omega) (by omega) | refine And.intro ?_ ?_ | refine Or.inr ?_)
    · (repeat' first | exact trivial | exact rfl | exact (by decide) | exact zerosI _ | exact zerosN _ | exact OfRaw.rows (by omega) | exact Or.inl (And.intro rfl rfl) | refine And.intro ?_ ?_ | refine Exists.intro _ (Exists.intro _ (And.intro rfl (And.intro (by decide) ?_))))
  · have hbe : Nat.beq xs.length 0 = false := beqF (by omega)
    rw [hbe]
    refine Rn.appF zB 1000 rfl (arr Po.c xs) (Src.ex rfl rfl rfl (cells_ex rfl)) (Src.raw rfl rfl (cells_all ePo xs)) (rfl) rfl (xs.length) (by first | rfl | omega | (simp; done) | (simp; omega)) (by omega) rfl (by omega) (.inl rfl) rfl ?_
    refine Rn.fin zB 1000 rfl rfl rfl () [some 0, some 2] rfl rfl ?_ ?_ rfl rfl rfl
    · (repeat' first | exact trivial | exact rfl | exact Or.inl (And.intro rfl rfl) | exact wsucc _ (by omega) | exact wlin (by first | omega | (push_cast; omega)) (by omega) | exact wint (by omega) (by omega) | refine And.intro ?_ ?_ | refine Or.inr ?_)
    · (repeat' first | exact trivial | exact rfl | exact (by decide) | exact zerosI _ | exact zerosN _ | exact OfRaw.rows (by omega) | exact Or.inl (And.intro rfl rfl) | refine And.intro ?_ ?_ | refine Exists.intro _ (Exists.intro _ (And.intro rfl (And.intro (by decide) ?_))))

/-! ### small -/
noncomputable def smB (rs : List Rt) (ss : List Su) (po : List Po) : Bool := decide (rs.length ≤ 8) && decide (ss.length ≤ 10) && decide (po.length ≤ 10) && (shErr rs ss po == 0)
theorem smB_t {rs : List Rt} {ss : List Su} {po : List Po} (h : smB rs ss po = true) : rs.length ≤ 8 ∧ ss.length ≤ 10 ∧ po.length ≤ 10 ∧ ShareOK rs ss po := by
  unfold smB at h
  simp only [Bool.and_eq_true, decide_eq_true_eq, beq_iff_eq] at h
  exact ⟨h.1.1.1, h.1.1.2, h.1.2, shErr_zero h.2⟩
theorem c_small (rs : List Rt) (ss : List Su) (po : List Po) (f1 f2 f3 : Bool) : Ct0 envB 28 [shA rs.length ss.length po.length f1 f2 f3] (shB rs ss po) 3 (.one (.bool (smB rs ss po))) := by
  refine Ct.of zB (fn := Tryz.f28) (by kernel_rfl) (by kernel_rfl) rfl rfl ?_
  refine Rn.split zB 1000 rfl (fun a0 => ?_) (fun a0 => ?_)
  rotate_left
  · repeat (refine Rn.split zB 1000 rfl (fun h => by cases h) (fun _ => ?_))
    refine Rn.fin0 zB 1000 rfl rfl rfl rfl ?_
    have : ¬ rs.length ≤ 8 := by simp at a0; omega
    unfold smB
    rw [decide_eq_false this]
    rfl
  have a0 : rs.length ≤ 8 := by simp at a0; omega
  refine Rn.split zB 1000 rfl (fun a1 => ?_) (fun a1 => ?_)
  rotate_left
  · repeat (refine Rn.split zB 1000 rfl (fun h => by cases h) (fun _ => ?_))
    refine Rn.fin0 zB 1000 rfl rfl rfl rfl ?_
    have : ¬ ss.length ≤ 10 := by simp at a1; omega
    unfold smB
    rw [decide_eq_false this, Bool.and_false]
    rfl
  have a1 : ss.length ≤ 10 := by simp at a1; omega
  refine Rn.split zB 1000 rfl (fun a2 => ?_) (fun a2 => ?_)
  rotate_left
  · refine Rn.fin0 zB 1000 rfl rfl rfl rfl ?_
    have : ¬ po.length ≤ 10 := by simp at a2; omega
    unfold smB
    rw [decide_eq_false this, Bool.and_false]
    rfl
  have a2 : po.length ≤ 10 := by simp at a2; omega
  refine Rn.call0 zB 1000 rfl (c_checkShare rs ss po f1 f2 f3 (by omega) (by omega) (by omega)) [some 0, some 1, some 2] rfl rfl (by (repeat' first | exact trivial | exact rfl | exact Or.inl (And.intro rfl rfl) | exact wsucc _ (by omega) | exact wlin (by first | omega | (push_cast; omega)) (by omega) | exact wint (by omega) (by omega) | refine And.intro ?_ ?_ | refine Or.inr ?_)) (by (repeat' first | exact trivial | exact rfl | exact (by decide) | exact zerosI _ | exact zerosN _ | exact OfRaw.rows (by omega) | exact Or.inl (And.intro rfl rfl) | refine And.intro ?_ ?_ | refine Exists.intro _ (Exists.intro _ (And.intro rfl (And.intro (by decide) ?_))))) rfl rfl rfl rfl rfl ?_
  refine Rn.fin0 zB 1000 rfl rfl rfl rfl ?_
  unfold smB
  rw [decide_eq_true a0, decide_eq_true a1, decide_eq_true a2]
  rfl

/-! ### Enough, with what it shows -/
theorem c_enoughM (rs : List Rt) (ss : List Su) (po : List Po) (vs : List Int) (f1 f2 f3 f4 : Bool) (h1 : rs.length < 90000000000) (h2 : ss.length < 90000000000) (h3 : po.length < 90000000000) : Ct envB 40 [shA rs.length ss.length po.length f1 f2 f3, slA 3 0 vs.length f4 1] (shV rs ss po vs) 4 { _u : Unit // wErr rs ss po vs = 0 → ∃ v, IsMax (instOf rs ss po) (vOf vs) v } (fun _ => enV rs ss po vs) (fun _ => []) (fun _ => 4) := by
  refine Ct.of zB (fn := Tryz.f40) (by kernel_rfl) (by kernel_rfl) rfl rfl ?_
  refine Rn.call0 zB 1000 rfl (c_wants rs ss po vs f1 f2 f3 f4 h1 h2 h3) [some 0, some 1, some 2, some 3] rfl rfl (by (repeat' first | exact trivial | exact rfl | exact Or.inl (And.intro rfl rfl) | exact wsucc _ (by omega) | exact wlin (by first | omega | (push_cast; omega)) (by omega) | exact wint (by omega) (by omega) | refine And.intro ?_ ?_ | refine Or.inr ?_)) (by (repeat' first | exact trivial | exact rfl | exact (by decide) | exact zerosI _ | exact zerosN _ | exact OfRaw.rows (by omega) | exact Or.inl (And.intro rfl rfl) | refine And.intro ?_ ?_ | refine Exists.intro _ (Exists.intro _ (And.intro rfl (And.intro (by decide) ?_))))) rfl rfl rfl rfl rfl ?_
  refine Rn.split zB 1000 rfl (fun e0 => ?_) (fun e0 => ?_)
  · have e0 : wErr rs ss po vs ≠ 0 := by simpa using e0
    unfold enV
    rw [enL_bad e0]
    refine Rn.fin zB 1000 rfl rfl rfl ⟨(), fun c => absurd c e0⟩ [some 0, some 1, some 2, some 3] rfl rfl ?_ ?_ rfl rfl rfl
    · (repeat' first | exact trivial | exact rfl | exact Or.inl (And.intro rfl rfl) | exact wsucc _ (by omega) | exact wlin (by first | omega | (push_cast; omega)) (by omega) | exact wint (by omega) (by omega) | refine And.intro ?_ ?_ | refine Or.inr ?_)
    · (repeat' first | exact trivial | exact rfl | exact (by decide) | exact zerosI _ | exact zerosN _ | exact OfRaw.rows (by omega) | exact Or.inl (And.intro rfl rfl) | refine And.intro ?_ ?_ | refine Exists.intro _ (Exists.intro _ (And.intro rfl (And.intro (by decide) ?_))))
  have e0 : wErr rs ss po vs = 0 := by simpa using e0
  obtain ⟨hok, hvo⟩ := wErr_zero e0
  have B := hok.b
  have hvb := hvo.bound B
  have hl := hvo.len
  have nr := B.nr
  have ns := B.ns
  have np := B.np
  have c := c_lay rs ss po f1 f2 f3 f4 vs nr ns (by omega) hl
  rw [hl]
  refine Rn.call zB 1000 rfl (c) [some 0, some 1, some 2, some 3] rfl (by (repeat' first | exact trivial | exact rfl | exact Or.inl (And.intro rfl rfl) | exact wsucc _ (by omega) | exact wlin (by first | omega | (push_cast; omega)) (by omega) | exact wint (by omega) (by omega) | refine And.intro ?_ ?_ | refine Or.inr ?_)) (by (repeat' first | exact trivial | exact rfl | exact (by decide) | exact zerosI _ | exact zerosN _ | exact OfRaw.rows (by omega) | exact Or.inl (And.intro rfl rfl) | refine And.intro ?_ ?_ | refine Exists.intro _ (Exists.intro _ (And.intro rfl (And.intro (by decide) ?_))))) rfl rfl rfl ?_
  rintro ⟨⟨out, ends, draws⟩, L⟩
  dsimp only at L
  refine ⟨_, _, rfl, ?_⟩
  have P0 := layP_pipes B hvb L.o (layP_len _ nr ns)
  have c2 := c_push (layP rs ss po (vOf vs) rs.length) out _ (Snow.arcs_len _) false true rs.length draws.length false false P0
  rw [L.o.len] at c2
  refine Rn.call zB 1000 rfl (c2) [some 5, some 6, some 7, some 8, some 9] rfl (by (repeat' first | exact trivial | exact rfl | exact Or.inl (And.intro rfl rfl) | exact wsucc _ (by omega) | exact wlin (by first | omega | (push_cast; omega)) (by omega) | exact wint (by omega) (by omega) | refine And.intro ?_ ?_ | refine Or.inr ?_)) (by (repeat' first | exact trivial | exact rfl | exact (by decide) | exact zerosI _ | exact zerosN _ | exact OfRaw.rows (by omega) | exact Or.inl (And.intro rfl rfl) | refine And.intro ?_ ?_ | refine Exists.intro _ (Exists.intro _ (And.intro rfl (And.intro (by decide) ?_))))) rfl rfl rfl ?_
  rintro ⟨⟨t, qs⟩, hPu⟩
  dsimp only at hPu
  refine ⟨_, _, rfl, ?_⟩
  have cs := c_sum vs f4 (by omega)
  rw [hl] at cs
  refine Rn.call0 zB 1000 rfl (cs) [some 3] rfl rfl (by (repeat' first | exact trivial | exact rfl | exact Or.inl (And.intro rfl rfl) | exact wsucc _ (by omega) | exact wlin (by first | omega | (push_cast; omega)) (by omega) | exact wint (by omega) (by omega) | refine And.intro ?_ ?_ | refine Or.inr ?_)) (by (repeat' first | exact trivial | exact rfl | exact (by decide) | exact zerosI _ | exact zerosN _ | exact OfRaw.rows (by omega) | exact Or.inl (And.intro rfl rfl) | refine And.intro ?_ ?_ | refine Exists.intro _ (Exists.intro _ (And.intro rfl (And.intro (by decide) ?_))))) rfl rfl rfl rfl rfl ?_
  have hm := push_max B hvb L.e hPu
  unfold enV
  rw [enL_ok e0, e0]
  unfold enB
  rw [maxOf_eq hm]
  refine Rn.fin zB 1000 rfl rfl rfl ⟨(), fun _ => ⟨t, hm⟩⟩ [some 0, some 1, some 2, some 3] rfl rfl ?_ ?_ rfl rfl rfl
  · (repeat' first | exact trivial | exact rfl | exact Or.inl (And.intro rfl rfl) | exact wsucc _ (by omega) | exact wlin (by first | omega | (push_cast; omega)) (by omega) | exact wint (by omega) (by omega) | refine And.intro ?_ ?_ | refine Or.inr ?_)
  · (repeat' first | exact trivial | exact rfl | exact (by decide) | exact zerosI _ | exact zerosN _ | exact OfRaw.rows (by omega) | exact Or.inl (And.intro rfl rfl) | refine And.intro ?_ ?_ | refine Exists.intro _ (Exists.intro _ (And.intro rfl (And.intro (by decide) ?_))))
theorem c_promiseOKX (rx rs : List Rt) (hpre : ∀ (i : Nat) (r : Rt), rs[i]? = some r → rx[i]? = some r) (ss : List Su) (po : List Po) (f1 f2 f3 : Bool) (hok : ShareOK rs ss po) : Ct envB 33 [shA rs.length ss.length po.length f1 f2 f3] (shB rx ss po) 3 { p : List Int // PromRes rs ss po p } (fun _ => .tup [(false, [.sl (some (3, 0)) rs.length true 1]), (false, [.int .i64 0])]) (fun a => [⟨3, true, none, .raw (arr iC a.1)⟩]) (fun _ => 4) := by
  have nr := hok.nr
  have ns := hok.ns
  have np := hok.np
  have c1 := c_checkShareX rx rs hpre ss po f1 f2 f3 (by omega) (by omega) (by omega)
  rw [shErr_ok hok] at c1
  refine Ct.of zB (fn := Tryz.f33) (by kernel_rfl) (by kernel_rfl) rfl rfl ?_
  refine Rn.call0 zB 1000 rfl (c1) [some 0, some 1, some 2] rfl rfl (by (repeat' first | exact trivial | exact rfl | exact Or.inl (And.intro rfl rfl) | exact wsucc _ (by omega) | exact wlin (by first | omega | (push_cast; omega)) (by omega) | exact wint (by omega) (by omega) | refine And.intro ?_ ?_ | refine Or.inr ?_)) (by (repeat' first | exact trivial | exact rfl | exact (by decide) | exact zerosI _ | exact zerosN _ | exact OfRaw.rows (by omega) | exact Or.inl (And.intro rfl rfl) | refine And.intro ?_ ?_ | refine Exists.intro _ (Exists.intro _ (And.intro rfl (And.intro (by decide) ?_))))) rfl rfl rfl rfl rfl ?_
  repeat (refine Rn.split zB 1000 rfl (fun h => by cases h) (fun _ => ?_))
  have c := c_promisedX rx rs hpre ss po f1 f2 f3 hok.b
  refine Rn.call zB 1000 rfl (c) [some 0, some 1, some 2] rfl (by (repeat' first | exact trivial | exact rfl | exact Or.inl (And.intro rfl rfl) | exact wsucc _ (by omega) | exact wlin (by first | omega | (push_cast; omega)) (by omega) | exact wint (by omega) (by omega) | refine And.intro ?_ ?_ | refine Or.inr ?_)) (by (repeat' first | exact trivial | exact rfl | exact (by decide) | exact zerosI _ | exact zerosN _ | exact OfRaw.rows (by omega) | exact Or.inl (And.intro rfl rfl) | refine And.intro ?_ ?_ | refine Exists.intro _ (Exists.intro _ (And.intro rfl (And.intro (by decide) ?_))))) rfl rfl rfl ?_
  rintro ⟨p, hp⟩
  refine ⟨_, _, rfl, ?_⟩
  refine Rn.fin zB 1000 rfl rfl rfl ⟨p, hp⟩ [some 0, some 1, some 2, some 4] rfl rfl ?_ ?_ rfl rfl rfl
  · (repeat' first | exact trivial | exact rfl | exact Or.inl (And.intro rfl rfl) | exact wsucc _ (by omega) | exact wlin (by first | omega | (push_cast; omega)) (by omega) | exact wint (by omega) (by omega) | refine And.intro ?_ ?_ | refine Or.inr ?_)
  · (repeat' first | exact trivial | exact rfl | exact (by decide) | exact zerosI _ | exact zerosN _ | exact OfRaw.rows (by omega) | exact Or.inl (And.intro rfl rfl) | refine And.intro ?_ ?_ | refine Exists.intro _ (Exists.intro _ (And.intro rfl (And.intro (by decide) ?_))))
theorem c_promiseOK (rs : List Rt) (ss : List Su) (po : List Po) (f1 f2 f3 : Bool) (hok : ShareOK rs ss po) : Ct envB 33 [shA rs.length ss.length po.length f1 f2 f3] (shB rs ss po) 3 { p : List Int // PromRes rs ss po p } (fun _ => .tup [(false, [.sl (some (3, 0)) rs.length true 1]), (false, [.int .i64 0])]) (fun a => [⟨3, true, none, .raw (arr iC a.1)⟩]) (fun _ => 4) := c_promiseOKX rs rs (fun _ _ h => h) ss po f1 f2 f3 hok
end Go.AM
