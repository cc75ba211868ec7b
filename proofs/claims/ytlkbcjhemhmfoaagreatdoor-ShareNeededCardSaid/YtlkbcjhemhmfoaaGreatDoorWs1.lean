/- Walks: sums; a supply that follows one; rooms. -/
import Derived.Test.YtlkbcjhemhmfoaaGreatDoorMk
set_option linter.unusedSimpArgs false
set_option linter.unusedVariables false
namespace Go.AM
open Go Go.Proofs
set_option maxRecDepth 10000
set_option maxHeartbeats 1000000

/-- The sum of numbers, as the program adds. -/
def sumW (xs : List Int) : Int := xs.foldl (fun a x => IntKind.wrap .i64 (a + x)) 0
theorem sumW_succ {xs : List Int} {i : Nat} {a : Int} (h : xs[i]? = some a) : sumW (xs.take (i + 1)) = IntKind.wrap .i64 (sumW (xs.take i) + a) := by
  rw [List.take_add_one, h]
  simp [sumW]

theorem c_sum (xs : List Int) (full : Bool) (hb : xs.length < 1152921504606846976) : Ct0 envB 73 [slA 0 0 xs.length full 1] [⟨0, false, none, .raw (arr iC xs)⟩] 1 (.one (.int .i64 (sumW xs))) := by
  refine Ct.of zB (fn := Tryz.f73) (by kernel_rfl) (by kernel_rfl) rfl rfl ?_
  refine Rn.loop zB 1000 rfl (T := Nat) (fun i => xs.length - i) (fun i => i ≤ xs.length) (fun i => [(7, .one (.int .i64 xs.length)), (6, slA 0 0 xs.length full 1), (8, .one (.int .i64 i)), (3, .one (.int .i64 (sumW (xs.take i))))]) (fun _ => [⟨0, false, none, .raw (arr iC xs)⟩]) (fun _ => 1) (0) [some 0] ((Nat.zero_le _)) ⟨rfl, rfl, rfl, rfl, rfl, by (repeat' first | exact trivial | exact rfl | exact Or.inl (And.intro rfl rfl) | exact wsucc _ (by omega) | exact wlin (by first | omega | (push_cast; omega)) (by omega) | exact wint (by omega) (by omega) | refine And.intro ?_ ?_ | refine Or.inr ?_), by (repeat' first | exact trivial | exact rfl | exact (by decide) | exact zerosI _ | exact zerosN _ | exact OfRaw.rows (by omega) | exact Or.inl (And.intro rfl rfl) | refine And.intro ?_ ?_ | refine Exists.intro _ (Exists.intro _ (And.intro rfl (And.intro (by decide) ?_))))⟩ ?_
  rintro i hi
  refine Rn.split zB 1000 rfl (fun h => ?_) (fun h => ?_)
  · have hlt : i < xs.length := by simpa using h
    obtain ⟨a, ha⟩ : ∃ a, xs[i]? = some a := ⟨xs[i], List.getElem?_eq_getElem (by omega)⟩
    refine Rn.ask zB 1000 rfl ⟨by first | omega | (dsimp only; omega), by first | omega | (dsimp only; omega)⟩ ?_
    refine Rn.loadR zB 1000 rfl (LoadR.fld eI (f := 0) (v := .int .i64 a) ha (by simp) rfl rfl) ?_
    refine Rn.again zB 1000 rfl (i + 1) [some 0] (by omega) ((show i + 1 ≤ xs.length by omega)) ⟨rfl, rfl, rfl, rfl, rfl, by rw [sumW_succ ha]; (repeat' first | exact trivial | exact rfl | exact Or.inl (And.intro rfl rfl) | exact wsucc _ (by omega) | exact wlin (by first | omega | (push_cast; omega)) (by omega) | exact wint (by omega) (by omega) | refine And.intro ?_ ?_ | refine Or.inr ?_), by (repeat' first | exact trivial | exact rfl | exact (by decide) | exact zerosI _ | exact zerosN _ | exact OfRaw.rows (by omega) | exact Or.inl (And.intro rfl rfl) | refine And.intro ?_ ?_ | refine Exists.intro _ (Exists.intro _ (And.intro rfl (And.intro (by decide) ?_))))⟩
  · refine Rn.out zB 1000 rfl rfl ?_
    refine Rn.fin0 zB 1000 rfl rfl rfl rfl ?_
    have : i = xs.length := by simp at h; omega
    rw [this, List.take_length]
theorem c_rsum (xs : List Int) (full : Bool) (hb : xs.length < 1152921504606846976) : Ct0 envB 69 [slA 0 0 xs.length full 1] [⟨0, false, none, .raw (arr iC xs)⟩] 1 (.one (.int .i64 (sumW xs))) := by
  refine Ct.of zB (fn := Tryz.f69) (by kernel_rfl) (by kernel_rfl) rfl rfl ?_
  refine Rn.loop zB 1000 rfl (T := Nat) (fun i => xs.length - i) (fun i => i ≤ xs.length) (fun i => [(0, slA 0 0 xs.length full 1), (4, .one (.int .i64 i)), (3, .one (.int .i64 (sumW (xs.take i))))]) (fun _ => [⟨0, false, none, .raw (arr iC xs)⟩]) (fun _ => 1) (0) [some 0] ((Nat.zero_le _)) ⟨rfl, rfl, rfl, rfl, rfl, by (repeat' first | exact trivial | exact rfl | exact Or.inl (And.intro rfl rfl) | exact wsucc _ (by omega) | exact wlin (by first | omega | (push_cast; omega)) (by omega) | exact wint (by omega) (by omega) | refine And.intro ?_ ?_ | refine Or.inr ?_), by (repeat' first | exact trivial | exact rfl | exact (by decide) | exact zerosI _ | exact zerosN _ | exact OfRaw.rows (by omega) | exact Or.inl (And.intro rfl rfl) | refine And.intro ?_ ?_ | refine Exists.intro _ (Exists.intro _ (And.intro rfl (And.intro (by decide) ?_))))⟩ ?_
  rintro i hi
  refine Rn.split zB 1000 rfl (fun h => ?_) (fun h => ?_)
  · have hlt : i < xs.length := by simpa using h
    obtain ⟨a, ha⟩ : ∃ a, xs[i]? = some a := ⟨xs[i], List.getElem?_eq_getElem (by omega)⟩
    refine Rn.ask zB 1000 rfl ⟨by first | omega | (dsimp only; omega), by first | omega | (dsimp only; omega)⟩ ?_
    refine Rn.loadR zB 1000 rfl (LoadR.fld eI (f := 0) (v := .int .i64 a) ha (by simp) rfl rfl) ?_
    refine Rn.again zB 1000 rfl (i + 1) [some 0] (by omega) ((show i + 1 ≤ xs.length by omega)) ⟨rfl, rfl, rfl, rfl, rfl, by rw [sumW_succ ha]; (repeat' first | exact trivial | exact rfl | exact Or.inl (And.intro rfl rfl) | exact wsucc _ (by omega) | exact wlin (by first | omega | (push_cast; omega)) (by omega) | exact wint (by omega) (by omega) | refine And.intro ?_ ?_ | refine Or.inr ?_), by (repeat' first | exact trivial | exact rfl | exact (by decide) | exact zerosI _ | exact zerosN _ | exact OfRaw.rows (by omega) | exact Or.inl (And.intro rfl rfl) | refine And.intro ?_ ?_ | refine Exists.intro _ (Exists.intro _ (And.intro rfl (And.intro (by decide) ?_))))⟩
  · refine Rn.out zB 1000 rfl rfl ?_
    refine Rn.fin0 zB 1000 rfl rfl rfl rfl ?_
    have : i = xs.length := by simp at h; omega
    rw [this, List.take_length]
theorem c_total (xs : List Int) (full : Bool) (hb : xs.length < 1152921504606846976) : Ct0 envB 47 [slA 0 0 xs.length full 1] [⟨0, false, none, .raw (arr iC xs)⟩] 1 (.one (.int .i64 (sumW xs))) := by
  refine Ct.of zB (fn := Tryz.f47) (by kernel_rfl) (by kernel_rfl) rfl rfl ?_
  refine Rn.loop zB 1000 rfl (T := Nat) (fun i => xs.length - i) (fun i => i ≤ xs.length) (fun i => [(6, .one (.int .i64 xs.length)), (5, slA 0 0 xs.length full 1), (7, .one (.int .i64 i)), (2, .one (.int .i64 (sumW (xs.take i))))]) (fun _ => [⟨0, false, none, .raw (arr iC xs)⟩]) (fun _ => 1) (0) [some 0] ((Nat.zero_le _)) ⟨rfl, rfl, rfl, rfl, rfl, by (repeat' first | exact trivial | exact rfl | exact Or.inl (And.intro rfl rfl) | exact wsucc _ (by omega) | exact wlin (by first | omega | (push_cast; omega)) (by omega) | exact wint (by omega) (by omega) | refine And.intro ?_ ?_ | refine Or.inr ?_), by (repeat' first | exact trivial | exact rfl | exact (by decide) | exact zerosI _ | exact zerosN _ | exact OfRaw.rows (by omega) | exact Or.inl (And.intro rfl rfl) | refine And.intro ?_ ?_ | refine Exists.intro _ (Exists.intro _ (And.intro rfl (And.intro (by decide) ?_))))⟩ ?_
  rintro i hi
  refine Rn.split zB 1000 rfl (fun h => ?_) (fun h => ?_)
  · have hlt : i < xs.length := by simpa using h
    obtain ⟨a, ha⟩ : ∃ a, xs[i]? = some a := ⟨xs[i], List.getElem?_eq_getElem (by omega)⟩
    refine Rn.ask zB 1000 rfl ⟨by first | omega | (dsimp only; omega), by first | omega | (dsimp only; omega)⟩ ?_
    refine Rn.loadR zB 1000 rfl (LoadR.fld eI (f := 0) (v := .int .i64 a) ha (by simp) rfl rfl) ?_
    refine Rn.again zB 1000 rfl (i + 1) [some 0] (by omega) ((show i + 1 ≤ xs.length by omega)) ⟨rfl, rfl, rfl, rfl, rfl, by rw [sumW_succ ha]; (repeat' first | exact trivial | exact rfl | exact Or.inl (And.intro rfl rfl) | exact wsucc _ (by omega) | exact wlin (by first | omega | (push_cast; omega)) (by omega) | exact wint (by omega) (by omega) | refine And.intro ?_ ?_ | refine Or.inr ?_), by (repeat' first | exact trivial | exact rfl | exact (by decide) | exact zerosI _ | exact zerosN _ | exact OfRaw.rows (by omega) | exact Or.inl (And.intro rfl rfl) | refine And.intro ?_ ?_ | refine Exists.intro _ (Exists.intro _ (And.intro rfl (And.intro (by decide) ?_))))⟩
  · refine Rn.out zB 1000 rfl rfl ?_
    refine Rn.fin0 zB 1000 rfl rfl rfl rfl ?_
    have : i = xs.length := by simp at h; omega
    rw [this, List.take_length]
/-! ### A share -/
abbrev shA (nr ns np : Nat) (f1 f2 f3 : Bool) : AV := .agg [.sl (some (0, 0)) nr f1 7, .sl (some (1, 0)) ns f2 3, .sl (some (2, 0)) np f3 2]
abbrev shB (rs : List Rt) (ss : List Su) (ps : List Po) : BL := [⟨0, false, none, .raw (arr Rt.c rs)⟩, ⟨1, false, none, .raw (arr Su.c ss)⟩, ⟨2, false, none, .raw (arr Po.c ps)⟩]
theorem c_placesX (rx : List Rt) (n : Nat) (ss : List Su) (ps : List Po) (f1 f2 f3 : Bool) : Ct0 envB 131 [shA n ss.length ps.length f1 f2 f3] (shB rx ss ps) 3 (.one (.int .i64 (IntKind.wrap .i64 (IntKind.wrap .i64 (2 + ss.length) + n)))) := by
  refine Ct.of zB (fn := Tryz.f131) (by kernel_rfl) (by kernel_rfl) rfl rfl ?_
  refine Rn.fin0 zB 1000 rfl rfl rfl rfl ?_
  rfl
theorem c_places (rs : List Rt) (ss : List Su) (ps : List Po) (f1 f2 f3 : Bool) : Ct0 envB 131 [shA rs.length ss.length ps.length f1 f2 f3] (shB rs ss ps) 3 (.one (.int .i64 (IntKind.wrap .i64 (IntKind.wrap .i64 (2 + ss.length) + rs.length)))) := c_placesX rs rs.length ss ps f1 f2 f3
/-- The room of a valley. -/
def roomOf (ps : List Po) (v : Int) : Int := match ps with
  | [] => 0
  | p :: r => if p.valley = v then p.room else roomOf r v
theorem roomOf_drop {ps : List Po} {i : Nat} {p : Po} (h : ps[i]? = some p) (v : Int) : roomOf (ps.drop i) v = if p.valley = v then p.room else roomOf (ps.drop (i + 1)) v := by
  obtain ⟨hi, e⟩ := List.getElem?_eq_some_iff.mp h
  rw [List.drop_eq_getElem_cons hi, e, roomOf]
theorem c_roomX (rs : List Rt) (n : Nat) (ss : List Su) (ps : List Po) (f1 f2 f3 : Bool) (hb : ps.length < 1152921504606846976) (v : Int) : Ct0 envB 81 [shA n ss.length ps.length f1 f2 f3, .one (.int .i64 v)] (shB rs ss ps) 3 (.one (.int .i64 (roomOf ps v))) := by
  refine Ct.of zB (fn := Tryz.f81) (by kernel_rfl) (by kernel_rfl) rfl rfl ?_
  refine Rn.loop zB 1000 rfl (T := Nat) (fun i => ps.length - i) (fun i => i ≤ ps.length ∧ roomOf ps v = roomOf (ps.drop i) v) (fun i => [(1, .one (.int .i64 v)), (9, .one (.int .i64 ps.length)), (8, .one (.sl (some (2, 0)) ps.length f3 2)), (10, .one (.int .i64 i))]) (fun _ => shB rs ss ps) (fun _ => 3) (0) [some 0, some 1, some 2] (⟨Nat.zero_le _, rfl⟩) ⟨rfl, rfl, rfl, rfl, rfl, by (repeat' first | exact trivial | exact rfl | exact Or.inl (And.intro rfl rfl) | exact wsucc _ (by omega) | exact wlin (by first | omega | (push_cast; omega)) (by omega) | exact wint (by omega) (by omega) | refine And.intro ?_ ?_ | refine Or.inr ?_), by (repeat' first | exact trivial | exact rfl | exact (by decide) | exact zerosI _ | exact zerosN _ | exact OfRaw.rows (by omega) | exact Or.inl (And.intro rfl rfl) | refine And.intro ?_ ?_ | refine Exists.intro _ (Exists.intro _ (And.intro rfl (And.intro (by decide) ?_))))⟩ ?_
  rintro i ⟨hi, he⟩
  refine Rn.split zB 1000 rfl (fun h => ?_) (fun h => ?_)
  · have hlt : i < ps.length := by simpa using h
    obtain ⟨a, ha⟩ : ∃ a, ps[i]? = some a := ⟨ps[i], List.getElem?_eq_getElem (by omega)⟩
    refine Rn.ask zB 1000 rfl ⟨by first | omega | (dsimp only; omega), by first | omega | (dsimp only; omega)⟩ ?_
    refine Rn.loadR zB 1000 rfl (LoadR.elt ePo ha (by simp)) ?_
    rw [roomOf_drop ha] at he
    refine Rn.split zB 1000 rfl (fun hv => ?_) (fun hv => ?_)
    · refine Rn.out zB 1000 rfl rfl ?_
      refine Rn.fin0 zB 1000 rfl rfl rfl rfl ?_
      have hv : a.valley = v := by simpa using hv
      rw [he, if_pos hv]
    · have hv : ¬ a.valley = v := by simpa using hv
      rw [if_neg hv] at he
      refine Rn.again zB 1000 rfl (i + 1) [some 0, some 1, some 2] (by omega) (⟨by omega, he⟩) ⟨rfl, rfl, rfl, rfl, rfl, by (repeat' first | exact trivial | exact rfl | exact Or.inl (And.intro rfl rfl) | exact wsucc _ (by omega) | exact wlin (by first | omega | (push_cast; omega)) (by omega) | exact wint (by omega) (by omega) | refine And.intro ?_ ?_ | refine Or.inr ?_), by (repeat' first | exact trivial | exact rfl | exact (by decide) | exact zerosI _ | exact zerosN _ | exact OfRaw.rows (by omega) | exact Or.inl (And.intro rfl rfl) | refine And.intro ?_ ?_ | refine Exists.intro _ (Exists.intro _ (And.intro rfl (And.intro (by decide) ?_))))⟩
  · refine Rn.out zB 1000 rfl rfl ?_
    refine Rn.fin0 zB 1000 rfl rfl rfl rfl ?_
    have : i = ps.length := by simp at h; omega
    rw [he, this, List.drop_length]
    rfl
theorem c_room (rs : List Rt) (ss : List Su) (ps : List Po) (f1 f2 f3 : Bool) (hb : ps.length < 1152921504606846976) (v : Int) : Ct0 envB 81 [shA rs.length ss.length ps.length f1 f2 f3, .one (.int .i64 v)] (shB rs ss ps) 3 (.one (.int .i64 (roomOf ps v))) := c_roomX rs rs.length ss ps f1 f2 f3 hb v
theorem c_rroom (rs : List Rt) (ss : List Su) (ps : List Po) (f1 f2 f3 : Bool) (hb : ps.length < 1152921504606846976) (v : Int) : Ct0 envB 137 [shA rs.length ss.length ps.length f1 f2 f3, .one (.int .i64 v)] (shB rs ss ps) 3 (.one (.int .i64 (roomOf ps v))) := by
  refine Ct.of zB (fn := Tryz.f137) (by kernel_rfl) (by kernel_rfl) rfl rfl ?_
  refine Rn.loop zB 1000 rfl (T := Nat) (fun i => ps.length - i) (fun i => i ≤ ps.length ∧ roomOf ps v = roomOf (ps.drop i) v) (fun i => [(1, .one (.int .i64 v)), (2, .one (.ptr (some (3, 0)))), (5, .one (.int .i64 i))]) (fun _ => ⟨3, true, none, .ex [.sl (some (0, 0)) rs.length f1 7, .sl (some (1, 0)) ss.length f2 3, .sl (some (2, 0)) ps.length f3 2]⟩ :: shB rs ss ps) (fun _ => 4) (0) [some 0, some 1, some 2, some 3] (⟨Nat.zero_le _, rfl⟩) ⟨rfl, rfl, rfl, rfl, rfl, by (repeat' first | exact trivial | exact rfl | exact Or.inl (And.intro rfl rfl) | exact wsucc _ (by omega) | exact wlin (by first | omega | (push_cast; omega)) (by omega) | exact wint (by omega) (by omega) | refine And.intro ?_ ?_ | refine Or.inr ?_), by (repeat' first | exact trivial | exact rfl | exact (by decide) | exact zerosI _ | exact zerosN _ | exact OfRaw.rows (by omega) | exact Or.inl (And.intro rfl rfl) | refine And.intro ?_ ?_ | refine Exists.intro _ (Exists.intro _ (And.intro rfl (And.intro (by decide) ?_))))⟩ ?_
  rintro i ⟨hi, he⟩
  refine Rn.split zB 1000 rfl (fun h => ?_) (fun h => ?_)
  · have hlt : i < ps.length := by simpa using h
    obtain ⟨a, ha⟩ : ∃ a, ps[i]? = some a := ⟨ps[i], List.getElem?_eq_getElem (by omega)⟩
    refine Rn.ask zB 1000 rfl ⟨by first | omega | (dsimp only; omega), by first | omega | (dsimp only; omega)⟩ ?_
    refine Rn.loadR zB 1000 rfl (LoadR.fld ePo (f := 0) (v := .int .i64 a.valley) ha (by simp) rfl rfl) ?_
    rw [roomOf_drop ha] at he
    refine Rn.split zB 1000 rfl (fun hv => ?_) (fun hv => ?_)
    · refine Rn.ask zB 1000 rfl ⟨by first | omega | (dsimp only; omega), by first | omega | (dsimp only; omega)⟩ ?_
      refine Rn.loadR zB 1000 rfl (LoadR.fld ePo (f := 1) (v := .int .i64 a.room) ha (by simp) rfl rfl) ?_
      refine Rn.out zB 1000 rfl rfl ?_
      refine Rn.fin0 zB 1000 rfl rfl rfl rfl ?_
      have hv : a.valley = v := by simpa using hv
      rw [he, if_pos hv]
    · have hv : ¬ a.valley = v := by simpa using hv
      rw [if_neg hv] at he
      refine Rn.again zB 1000 rfl (i + 1) [some 0, some 1, some 2, some 3] (by omega) (⟨by omega, he⟩) ⟨rfl, rfl, rfl, rfl, rfl, by (repeat' first | exact trivial | exact rfl | exact Or.inl (And.intro rfl rfl) | exact wsucc _ (by omega) | exact wlin (by first | omega | (push_cast; omega)) (by omega) | exact wint (by omega) (by omega) | refine And.intro ?_ ?_ | refine Or.inr ?_), by (repeat' first | exact trivial | exact rfl | exact (by decide) | exact zerosI _ | exact zerosN _ | exact OfRaw.rows (by omega) | exact Or.inl (And.intro rfl rfl) | refine And.intro ?_ ?_ | refine Exists.intro _ (Exists.intro _ (And.intro rfl (And.intro (by decide) ?_))))⟩
  · refine Rn.out zB 1000 rfl rfl ?_
    refine Rn.fin0 zB 1000 rfl rfl rfl rfl ?_
    have : i = ps.length := by simp at h; omega
    rw [he, this, List.drop_length]
    rfl
/-! ### follows -/
def fol (ss : List Su) (i : Nat) : Bool := decide (0 < i) && (match ss[i - 1]?, ss[i]? with | some a, some b => a.valley == b.valley | _, _ => false)
theorem fol_zero (ss : List Su) : fol ss 0 = false := rfl
theorem fol_pos {ss : List Su} {i : Nat} {a b : Su} (h0 : 0 < i) (ha : ss[i - 1]? = some a) (hb : ss[i]? = some b) : fol ss i = (a.valley == b.valley) := by
  unfold fol
  rw [ha, hb, decide_eq_true h0, Bool.true_and]
theorem c_follows (ss : List Su) (full : Bool) (i : Nat) (hi : i < ss.length) (hb : ss.length < 90000000000) : Ct0 envB 80 [slA 0 0 ss.length full 3, iA i] [⟨0, false, none, .raw (arr Su.c ss)⟩] 1 (.one (.bool (fol ss i))) := by
  refine Ct.of zB (fn := Tryz.f80) (by kernel_rfl) (by kernel_rfl) rfl rfl ?_
  refine Rn.draw zB 1000 [0, 1, 3, 7, 7, 23, 63, 127, 255, 7, 7, 1543, 3591, 7687, 16383, 32767, 65535] rfl (by kernel_rfl) (by kernel_rfl) ?_
  refine Rn.split zB 1000 rfl (fun h0 => ?_) (fun h0 => ?_)
  · have h0 : 0 < i := by simp at h0; omega
    obtain ⟨a, ha⟩ : ∃ a, ss[i - 1]? = some a := ⟨ss[i - 1], List.getElem?_eq_getElem (by omega)⟩
    obtain ⟨b, hb'⟩ : ∃ a, ss[i]? = some a := ⟨ss[i], List.getElem?_eq_getElem hi⟩
    refine Rn.ask zB 1000 rfl ⟨by rw [wpred i h0 (by omega)]; omega, by rw [wpred i h0 (by omega)]; omega⟩ ?_
    refine Rn.loadR zB 1000 rfl (LoadR.fld eSu (f := 0) (v := .int .i64 a.valley) ha (by rw [wpred i h0 (by omega)]; simp) rfl rfl) ?_
    refine Rn.ask zB 1000 rfl ⟨by first | omega | (dsimp only; omega), by first | omega | (dsimp only; omega)⟩ ?_
    refine Rn.loadR zB 1000 rfl (LoadR.fld eSu (f := 0) (v := .int .i64 b.valley) hb' (by simp) rfl rfl) ?_
    refine Rn.fin0 zB 1000 rfl rfl rfl rfl ?_
    rw [fol_pos h0 ha hb']
  · have h0 : i = 0 := by simp at h0; omega
    refine Rn.fin0 zB 1000 rfl rfl rfl rfl ?_
    rw [h0, fol_zero]
end Go.AM
