/- Walks: continues, Check. -/
import Derived.Test.YtlkbcjhemhmfoaaGreatDoorWe1
set_option linter.unusedSimpArgs false
set_option linter.unusedVariables false
namespace Go.AM
open Go Go.Proofs
set_option maxRecDepth 10000
set_option maxHeartbeats 1000000

/-- Does an event not come behind others? -/
def badOrd (l : List Evt) (e : Evt) : Bool := (e.no != l.length) || (match l.getLast? with | some a => decide (a.known > e.known) | none => false)
/-- The error of an event that is to continue others. -/
def contErr (l : List Evt) (e : Evt) : Int :=
  if ckEv e ≠ 0 then 80
  else if badOrd l e then 81
  else match l.find? (isGrant e.right) with
    | some g => if e.kind = 1 ∨ e.day < g.day then 81 else 0
    | none => if e.kind = 1 then 0 else 81

theorem ckEv_cases (e : Evt) : ckEv e = 0 ∨ ckEv e = 80 := by unfold ckEv; split <;> simp
theorem last_take {α : Type} {xs : List α} {n : Nat} (hn : n ≤ xs.length) (h0 : 0 < n) : ∃ a, xs[n - 1]? = some a ∧ (xs.take n).getLast? = some a := by
  refine ⟨xs[n - 1]'(by omega), List.getElem?_eq_getElem (by omega), ?_⟩
  rw [List.getLast?_eq_getElem?, List.length_take, Nat.min_eq_left hn, List.getElem?_take_of_lt (by omega), List.getElem?_eq_getElem]
theorem wpred (n : Nat) (h0 : 0 < n) (h : n < 4611686018427387904) : IntKind.wrap .i64 ((n : Int) - 1) = ((n - 1 : Nat) : Int) := by rw [w64_id (by omega) (by omega)]; omega

theorem c_continues (xs : List Evt) (n : Nat) (full : Bool) (hn : n ≤ xs.length) (hb : n < 1152921504606846976) (e : Evt) : Ct0 envB 118 [slA 0 0 n full 10, .agg e.c] [⟨0, false, none, .raw (arr Evt.c xs)⟩] 1 (.one (.int .i64 (contErr (xs.take n) e))) := by
  refine Ct.of zB (fn := Tryz.f118) (by kernel_rfl) (by kernel_rfl) rfl rfl ?_
  have hlen : (xs.take n).length = n := by rw [List.length_take]; omega
  refine Rn.split zB 1000 rfl (fun h => ?_) (fun h => ?_)
  · refine Rn.fin0 zB 1000 rfl rfl rfl rfl ?_
    simp [contErr, show ckEv e ≠ 0 by simpa using h]
  have hck : ckEv e = 0 := by simpa using h
  refine Rn.draw zB 1000 [0, 1, 0, 4, 15, 31, 63, 127, 255, 511, 1023, 1023, 3071, 7167, 16383, 32767, 65535, 1023, 132095, 524287, 1048575, 2097151] rfl (by kernel_rfl) (by kernel_rfl) ?_
  refine Rn.split zB 1000 rfl (fun hno => ?_) (fun hno => ?_)
  · refine Rn.split zB 1000 rfl (fun h => ?_) (fun h => ?_)
    · refine Rn.fin0 zB 1000 rfl rfl rfl rfl ?_
      simp [contErr, hck, badOrd, hlen, show e.no ≠ n by simpa using hno]
    · cases h
  have hno : e.no = n := by simpa using hno
  refine Rn.split zB 1000 rfl (fun hpos => ?_) (fun hpos => ?_)
  · have hpos : 0 < n := by simpa using hpos
    obtain ⟨a, ha, hl⟩ := last_take hn hpos
    refine Rn.ask zB 1000 rfl ⟨by rw [wpred n hpos (by omega)]; omega, by rw [wpred n hpos (by omega)]; omega⟩ ?_
    refine Rn.loadR zB 1000 rfl (LoadR.fld eEvt (f := 1) (v := .int .i64 a.known) ha (by rw [wpred n hpos (by omega)]; simp) rfl rfl) ?_
    refine Rn.split zB 1000 rfl (fun hk => ?_) (fun hk => ?_)
    · refine Rn.fin0 zB 1000 rfl rfl rfl rfl ?_
      simp [contErr, hck, badOrd, hlen, hl, show a.known > e.known by simpa using hk]
    have hk : ¬ a.known > e.known := by simpa using hk
    have hbad : badOrd (xs.take n) e = false := by simp [badOrd, hlen, *]
    have c := c_granted xs n full hn hb e.right
    cases hf : (xs.take n).find? (isGrant e.right) with
    | none =>
      rw [hf] at c
      have hv : contErr (xs.take n) e = if e.kind = 1 then 0 else 81 := by simp [contErr, hck, hbad, hf]
      rw [hv]
      refine Rn.call0 zB 1000 rfl (c) [some 0] rfl rfl (by (repeat' first | exact trivial | exact rfl | exact Or.inl (And.intro rfl rfl) | exact wsucc _ (by omega) | refine And.intro ?_ ?_)) (by (repeat' first | exact trivial | exact rfl | exact (by decide) | exact Or.inl (And.intro rfl rfl) | refine And.intro ?_ ?_ | refine Exists.intro _ (Exists.intro _ (And.intro rfl (And.intro (by decide) ?_))))) rfl rfl rfl rfl rfl ?_
      repeat' first | (rename_i h; exact absurd h (by decide)) | (refine Rn.fin0 zB 1000 rfl rfl rfl rfl ?_; first | rfl | (simp [contErr, *]; done) | (simp_all [contErr]; done)) | refine Rn.split zB 1000 rfl (fun h => ?_) (fun h => ?_)
    | some g =>
      rw [hf] at c
      have hv : contErr (xs.take n) e = if e.kind = 1 ∨ e.day < g.day then 81 else 0 := by simp [contErr, hck, hbad, hf]
      rw [hv]
      refine Rn.call0 zB 1000 rfl (c) [some 0] rfl rfl (by (repeat' first | exact trivial | exact rfl | exact Or.inl (And.intro rfl rfl) | exact wsucc _ (by omega) | refine And.intro ?_ ?_)) (by (repeat' first | exact trivial | exact rfl | exact (by decide) | exact Or.inl (And.intro rfl rfl) | refine And.intro ?_ ?_ | refine Exists.intro _ (Exists.intro _ (And.intro rfl (And.intro (by decide) ?_))))) rfl rfl rfl rfl rfl ?_
      repeat' first | (rename_i h; exact absurd h (by decide)) | (refine Rn.fin0 zB 1000 rfl rfl rfl rfl ?_; first | rfl | (simp [contErr, *]; done) | (simp_all [contErr]; done)) | refine Rn.split zB 1000 rfl (fun h => ?_) (fun h => ?_)
  · have hz : n = 0 := by simpa using hpos
    have hnil : (xs.take n).getLast? = none := by rw [hz]; rfl
    refine Rn.split zB 1000 rfl (fun h => ?_) (fun h => ?_)
    · cases h
    have hbad : badOrd (xs.take n) e = false := by simp [badOrd, hlen, *]
    have c := c_granted xs n full hn hb e.right
    cases hf : (xs.take n).find? (isGrant e.right) with
    | none =>
      rw [hf] at c
      have hv : contErr (xs.take n) e = if e.kind = 1 then 0 else 81 := by simp [contErr, hck, hbad, hf]
      rw [hv]
      refine Rn.call0 zB 1000 rfl (c) [some 0] rfl rfl (by (repeat' first | exact trivial | exact rfl | exact Or.inl (And.intro rfl rfl) | exact wsucc _ (by omega) | refine And.intro ?_ ?_)) (by (repeat' first | exact trivial | exact rfl | exact (by decide) | exact Or.inl (And.intro rfl rfl) | refine And.intro ?_ ?_ | refine Exists.intro _ (Exists.intro _ (And.intro rfl (And.intro (by decide) ?_))))) rfl rfl rfl rfl rfl ?_
      repeat' first | (rename_i h; exact absurd h (by decide)) | (refine Rn.fin0 zB 1000 rfl rfl rfl rfl ?_; first | rfl | (simp [contErr, *]; done) | (simp_all [contErr]; done)) | refine Rn.split zB 1000 rfl (fun h => ?_) (fun h => ?_)
    | some g =>
      rw [hf] at c
      have hv : contErr (xs.take n) e = if e.kind = 1 ∨ e.day < g.day then 81 else 0 := by simp [contErr, hck, hbad, hf]
      rw [hv]
      refine Rn.call0 zB 1000 rfl (c) [some 0] rfl rfl (by (repeat' first | exact trivial | exact rfl | exact Or.inl (And.intro rfl rfl) | exact wsucc _ (by omega) | refine And.intro ?_ ?_)) (by (repeat' first | exact trivial | exact rfl | exact (by decide) | exact Or.inl (And.intro rfl rfl) | refine And.intro ?_ ?_ | refine Exists.intro _ (Exists.intro _ (And.intro rfl (And.intro (by decide) ?_))))) rfl rfl rfl rfl rfl ?_
      repeat' first | (rename_i h; exact absurd h (by decide)) | (refine Rn.fin0 zB 1000 rfl rfl rfl rfl ?_; first | rfl | (simp [contErr, *]; done) | (simp_all [contErr]; done)) | refine Rn.split zB 1000 rfl (fun h => ?_) (fun h => ?_)

end Go.AM
