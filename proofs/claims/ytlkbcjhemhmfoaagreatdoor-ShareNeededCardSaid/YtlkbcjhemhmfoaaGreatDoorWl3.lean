/- Walks: richer. -/
import Derived.Test.YtlkbcjhemhmfoaaGreatDoorWl1
import Derived.Test.YtlkbcjhemhmfoaaGreatDoorWl2
set_option linter.unusedSimpArgs false
set_option linter.unusedVariables false
namespace Go.AM
open Go Go.Proofs
set_option maxRecDepth 10000
set_option maxHeartbeats 1000000

/-- What richer asks for. -/
def richB (ns np : Nat) (at_ n : Int) (b : Bool) : Bool := decide (0 ≤ n ∧ n ≤ 1099511627776 ∧ 0 ≤ at_ ∧ at_ < (if b then np else ns))
theorem c_richBad (rs : List Rt) (ss : List Su) (po : List Po) (f1 f2 f3 b : Bool) (at_ n : Int) (hb : richB ss.length po.length at_ n b = false) :
    Ct envB 32 [shA rs.length ss.length po.length f1 f2 f3, iA at_, iA n, .one (.bool b)] (shB rs ss po) 3 Unit (fun _ => .tup [(true, [.sl (some (0, 0)) rs.length f1 7, .sl (some (1, 0)) ss.length f2 3, .sl (some (2, 0)) po.length f3 2]), (false, [.bool false])]) (fun _ => []) (fun _ => 3) := by
  have hb := of_decide_eq_false hb
  refine Ct.of zB (fn := Tryz.f32) (by kernel_rfl) (by kernel_rfl) rfl rfl ?_
  refine Rn.split zB 1000 rfl (fun a0 => ?_) (fun a0 => ?_)
  · repeat (refine Rn.split zB 1000 rfl (fun _ => ?_) (fun h => by cases h))
    refine Rn.fin zB 1000 rfl rfl rfl () [some 0, some 1, some 2] rfl rfl ?_ ?_ rfl rfl rfl
    · (repeat' first | exact trivial | exact rfl | exact Or.inl (And.intro rfl rfl) | exact wsucc _ (by omega) | exact wlin (by first | omega | (push_cast; omega)) (by omega) | exact wint (by omega) (by omega) | refine And.intro ?_ ?_ | refine Or.inr ?_)
    · (repeat' first | exact trivial | exact rfl | exact (by decide) | exact zerosI _ | exact zerosN _ | exact OfRaw.rows (by omega) | exact Or.inl (And.intro rfl rfl) | refine And.intro ?_ ?_ | refine Exists.intro _ (Exists.intro _ (And.intro rfl (And.intro (by decide) ?_))))
  refine Rn.split zB 1000 rfl (fun a1 => ?_) (fun a1 => ?_)
  · repeat (refine Rn.split zB 1000 rfl (fun _ => ?_) (fun h => by cases h))
    refine Rn.fin zB 1000 rfl rfl rfl () [some 0, some 1, some 2] rfl rfl ?_ ?_ rfl rfl rfl
    · (repeat' first | exact trivial | exact rfl | exact Or.inl (And.intro rfl rfl) | exact wsucc _ (by omega) | exact wlin (by first | omega | (push_cast; omega)) (by omega) | exact wint (by omega) (by omega) | refine And.intro ?_ ?_ | refine Or.inr ?_)
    · (repeat' first | exact trivial | exact rfl | exact (by decide) | exact zerosI _ | exact zerosN _ | exact OfRaw.rows (by omega) | exact Or.inl (And.intro rfl rfl) | refine And.intro ?_ ?_ | refine Exists.intro _ (Exists.intro _ (And.intro rfl (And.intro (by decide) ?_))))
  refine Rn.split zB 1000 rfl (fun a2 => ?_) (fun a2 => ?_)
  · refine Rn.fin zB 1000 rfl rfl rfl () [some 0, some 1, some 2] rfl rfl ?_ ?_ rfl rfl rfl
    · (repeat' first | exact trivial | exact rfl | exact Or.inl (And.intro rfl rfl) | exact wsucc _ (by omega) | exact wlin (by first | omega | (push_cast; omega)) (by omega) | exact wint (by omega) (by omega) | refine And.intro ?_ ?_ | refine Or.inr ?_)
    · (repeat' first | exact trivial | exact rfl | exact (by decide) | exact zerosI _ | exact zerosN _ | exact OfRaw.rows (by omega) | exact Or.inl (And.intro rfl rfl) | refine And.intro ?_ ?_ | refine Exists.intro _ (Exists.intro _ (And.intro rfl (And.intro (by decide) ?_))))
  refine Rn.split zB 1000 rfl (fun a3 => ?_) (fun a3 => ?_)
  · refine Rn.split zB 1000 rfl (fun a4 => ?_) (fun a4 => ?_)
    · refine Rn.fin zB 1000 rfl rfl rfl () [some 0, some 1, some 2] rfl rfl ?_ ?_ rfl rfl rfl
      · (repeat' first | exact trivial | exact rfl | exact Or.inl (And.intro rfl rfl) | exact wsucc _ (by omega) | exact wlin (by first | omega | (push_cast; omega)) (by omega) | exact wint (by omega) (by omega) | refine And.intro ?_ ?_ | refine Or.inr ?_)
      · (repeat' first | exact trivial | exact rfl | exact (by decide) | exact zerosI _ | exact zerosN _ | exact OfRaw.rows (by omega) | exact Or.inl (And.intro rfl rfl) | refine And.intro ?_ ?_ | refine Exists.intro _ (Exists.intro _ (And.intro rfl (And.intro (by decide) ?_))))
    · subst a3
      simp at a0 a1 a2 a4 hb
      omega
  refine Rn.split zB 1000 rfl (fun a4 => ?_) (fun a4 => ?_)
  · refine Rn.fin zB 1000 rfl rfl rfl () [some 0, some 1, some 2] rfl rfl ?_ ?_ rfl rfl rfl
    · (repeat' first | exact trivial | exact rfl | exact Or.inl (And.intro rfl rfl) | exact wsucc _ (by omega) | exact wlin (by first | omega | (push_cast; omega)) (by omega) | exact wint (by omega) (by omega) | refine And.intro ?_ ?_ | refine Or.inr ?_)
    · (repeat' first | exact trivial | exact rfl | exact (by decide) | exact zerosI _ | exact zerosN _ | exact OfRaw.rows (by omega) | exact Or.inl (And.intro rfl rfl) | refine And.intro ?_ ?_ | refine Exists.intro _ (Exists.intro _ (And.intro rfl (And.intro (by decide) ?_))))
  · subst a3
    simp at a0 a1 a2 a4 hb
    omega
def minW (v : Int) : Int := if (1099511627776 : Int) < v then 1099511627776 else v
theorem c_richS (rs : List Rt) (ss : List Su) (po : List Po) (f1 f2 f3 : Bool) (at_ : Nat) (n : Int) (hn0 : 0 ≤ n) (hn : n ≤ 1099511627776) (h1 : ss.length < 90000000000) (x : Su) (hx : ss[at_]? = some x) (hv0 : 0 ≤ x.vol) (hv1 : x.vol ≤ 1099511627776) :
    Ct envB 32 [shA rs.length ss.length po.length f1 f2 f3, iA at_, iA n, .one (.bool false)] (shB rs ss po) 3 Unit (fun _ => .tup [(true, [.sl (some (0, 0)) rs.length f1 7, .sl (some (3, 0)) ss.length (Nat.beq ss.length 0) 3, .sl (some (2, 0)) po.length f3 2]), (false, [.bool true])])
      (fun _ => [⟨3, true, none, .raw (arr Su.c (ss.set at_ (setVol x (minW (x.vol + n)))))⟩]) (fun _ => 4) := by
  have hat := (List.getElem?_eq_some_iff.mp hx).1
  refine Ct.of zB (fn := Tryz.f32) (by kernel_rfl) (by kernel_rfl) rfl rfl ?_
  refine Rn.split zB 1000 rfl (fun a0 => ?_) (fun a0 => ?_)
  · simp at a0; omega
  refine Rn.split zB 1000 rfl (fun a1 => ?_) (fun a1 => ?_)
  · simp at a1; omega
  refine Rn.split zB 1000 rfl (fun a2 => ?_) (fun a2 => ?_)
  · simp at a2; omega
  repeat (refine Rn.split zB 1000 rfl (fun h => by cases h) (fun _ => ?_))
  refine Rn.split zB 1000 rfl (fun a4 => ?_) (fun a4 => ?_)
  · simp at a4; omega
  refine Rn.call zB 1000 rfl (c_cloneS ss f2 (by omega)) [some 1] rfl (by (repeat' first | exact trivial | exact rfl | exact Or.inl (And.intro rfl rfl) | exact wsucc _ (by omega) | exact wlin (by first | omega | (push_cast; omega)) (by omega) | exact wint (by omega) (by omega) | refine And.intro ?_ ?_ | refine Or.inr ?_)) (by (repeat' first | exact trivial | exact rfl | exact (by decide) | exact zerosI _ | exact zerosN _ | exact OfRaw.rows (by omega) | exact Or.inl (And.intro rfl rfl) | refine And.intro ?_ ?_ | refine Exists.intro _ (Exists.intro _ (And.intro rfl (And.intro (by decide) ?_))))) rfl rfl rfl (fun _ => ⟨_, _, rfl, ?_⟩)
  refine Rn.draw zB 1000 [0, 1, 0, 0, 8, 0, 56, 120, 248, 0, 1016, 2040, 4095, 8191, 16383] rfl (by kernel_rfl) (by kernel_rfl) ?_
  refine Rn.ask zB 1000 rfl ⟨by omega, by omega⟩ ?_
  refine Rn.loadR zB 1000 rfl (LoadR.fld eSu (f := 2) (v := .int .i64 x.vol) hx (by simp) rfl rfl) ?_
  refine Rn.ask zB 1000 rfl ⟨by omega, by omega⟩ ?_
  refine Rn.storeR zB 1000 rfl (StoreR.fld eSu (f := 2) (a' := setVol x (minW (x.vol + n))) hx (by simp) (by omega) (by rw [w64_id (by omega) (by omega)]; rfl)) rfl ?_
  refine Rn.fin zB 1000 rfl rfl rfl () [some 0, some 1, some 2, some 5] rfl rfl ?_ ?_ rfl rfl rfl
  · (repeat' first | exact trivial | exact rfl | exact Or.inl (And.intro rfl rfl) | exact wsucc _ (by omega) | exact wlin (by first | omega | (push_cast; omega)) (by omega) | exact wint (by omega) (by omega) | refine And.intro ?_ ?_ | refine Or.inr ?_)
  · (repeat' first | exact trivial | exact rfl | exact (by decide) | exact zerosI _ | exact zerosN _ | exact OfRaw.rows (by omega) | exact Or.inl (And.intro rfl rfl) | refine And.intro ?_ ?_ | refine Exists.intro _ (Exists.intro _ (And.intro rfl (And.intro (by decide) ?_))))
theorem c_richP (rs : List Rt) (ss : List Su) (po : List Po) (f1 f2 f3 : Bool) (at_ : Nat) (n : Int) (hn0 : 0 ≤ n) (hn : n ≤ 1099511627776) (h1 : po.length < 90000000000) (x : Po) (hx : po[at_]? = some x) (hv0 : 0 ≤ x.room) (hv1 : x.room ≤ 1099511627776) :
    Ct envB 32 [shA rs.length ss.length po.length f1 f2 f3, iA at_, iA n, .one (.bool true)] (shB rs ss po) 3 Unit (fun _ => .tup [(true, [.sl (some (0, 0)) rs.length f1 7, .sl (some (1, 0)) ss.length f2 3, .sl (some (3, 0)) po.length (Nat.beq po.length 0) 2]), (false, [.bool true])])
      (fun _ => [⟨3, true, none, .raw (arr Po.c (po.set at_ (setRoom x (minW (x.room + n)))))⟩]) (fun _ => 4) := by
  have hat := (List.getElem?_eq_some_iff.mp hx).1
  refine Ct.of zB (fn := Tryz.f32) (by kernel_rfl) (by kernel_rfl) rfl rfl ?_
  refine Rn.split zB 1000 rfl (fun a0 => ?_) (fun a0 => ?_)
  · simp at a0; omega
  refine Rn.split zB 1000 rfl (fun a1 => ?_) (fun a1 => ?_)
  · simp at a1; omega
  refine Rn.split zB 1000 rfl (fun a2 => ?_) (fun a2 => ?_)
  · simp at a2; omega
  repeat (refine Rn.split zB 1000 rfl (fun _ => ?_) (fun h => by cases h))
  refine Rn.split zB 1000 rfl (fun a4 => ?_) (fun a4 => ?_)
  · simp at a4; omega
  refine Rn.call zB 1000 rfl (c_cloneP po f3 (by omega)) [some 2] rfl (by (repeat' first | exact trivial | exact rfl | exact Or.inl (And.intro rfl rfl) | exact wsucc _ (by omega) | exact wlin (by first | omega | (push_cast; omega)) (by omega) | exact wint (by omega) (by omega) | refine And.intro ?_ ?_ | refine Or.inr ?_)) (by (repeat' first | exact trivial | exact rfl | exact (by decide) | exact zerosI _ | exact zerosN _ | exact OfRaw.rows (by omega) | exact Or.inl (And.intro rfl rfl) | refine And.intro ?_ ?_ | refine Exists.intro _ (Exists.intro _ (And.intro rfl (And.intro (by decide) ?_))))) rfl rfl rfl (fun _ => ⟨_, _, rfl, ?_⟩)
  refine Rn.draw zB 1000 [0, 1, 0, 0, 8, 0, 56, 120, 248, 0, 1016, 2040, 4095, 8191, 16383] rfl (by kernel_rfl) (by kernel_rfl) ?_
  refine Rn.ask zB 1000 rfl ⟨by omega, by omega⟩ ?_
  refine Rn.loadR zB 1000 rfl (LoadR.fld ePo (f := 1) (v := .int .i64 x.room) hx (by simp) rfl rfl) ?_
  refine Rn.ask zB 1000 rfl ⟨by omega, by omega⟩ ?_
  refine Rn.storeR zB 1000 rfl (StoreR.fld ePo (f := 1) (a' := setRoom x (minW (x.room + n))) hx (by simp) (by omega) (by rw [w64_id (by omega) (by omega)]; rfl)) rfl ?_
  refine Rn.fin zB 1000 rfl rfl rfl () [some 0, some 1, some 2, some 5] rfl rfl ?_ ?_ rfl rfl rfl
  · (repeat' first | exact trivial | exact rfl | exact Or.inl (And.intro rfl rfl) | exact wsucc _ (by omega) | exact wlin (by first | omega | (push_cast; omega)) (by omega) | exact wint (by omega) (by omega) | refine And.intro ?_ ?_ | refine Or.inr ?_)
  · (repeat' first | exact trivial | exact rfl | exact (by decide) | exact zerosI _ | exact zerosN _ | exact OfRaw.rows (by omega) | exact Or.inl (And.intro rfl rfl) | refine And.intro ?_ ?_ | refine Exists.intro _ (Exists.intro _ (And.intro rfl (And.intro (by decide) ?_))))
end Go.AM
