/- Walks: the reference's Check; Enter of both; SameRegister. -/
import Derived.Test.YtlkbcjhemhmfoaaGreatDoorWe3
set_option linter.unusedSimpArgs false
set_option linter.unusedVariables false
namespace Go.AM
open Go Go.Proofs
set_option maxRecDepth 10000
set_option maxHeartbeats 1000000

theorem c_rcheck (xs : List Evt) (full : Bool) (hb : xs.length < 1152921504606846976) : Ct0 envB 59 [.agg [.sl (some (0, 0)) xs.length full 10]] [⟨0, false, none, .raw (arr Evt.c xs)⟩] 1 (.one (.int .i64 (ckReg xs))) := by
  refine Ct.of zB (fn := Tryz.f59) (by kernel_rfl) (by kernel_rfl) rfl rfl ?_
  refine Rn.split zB 1000 rfl (fun hl => ?_) (fun hl => ?_)
  · refine Rn.fin0 zB 1000 rfl rfl rfl rfl ?_
    rw [ckReg, if_pos (by simp at hl; omega)]
  have hl : ¬ 256 < xs.length := by simp at hl; omega
  rw [ckReg, if_neg hl]
  refine Rn.loop zB 1000 rfl (T := Nat) (fun i => xs.length - i) (fun i => i ≤ xs.length ∧ firstErr xs i = 0) (fun i => [(3, .one (.int .i64 i)), (1, .one (.ptr (some (1, 0))))]) (fun _ => [⟨1, true, none, .ex [.sl (some (0, 0)) xs.length full 10]⟩, ⟨0, false, none, .raw (arr Evt.c xs)⟩]) (fun _ => 2) (0) [some 0, some 1] ⟨Nat.zero_le _, rfl⟩ ⟨rfl, rfl, rfl, rfl, rfl, by (repeat' first | exact trivial | exact rfl | exact Or.inl (And.intro rfl rfl) | exact wsucc _ (by omega) | refine And.intro ?_ ?_ | refine Or.inr ?_), by (repeat' first | exact trivial | exact rfl | exact (by decide) | exact Or.inl (And.intro rfl rfl) | refine And.intro ?_ ?_ | refine Exists.intro _ (Exists.intro _ (And.intro rfl (And.intro (by decide) ?_))))⟩ ?_
  rintro i ⟨hi, he⟩
  refine Rn.split zB 1000 rfl (fun h => ?_) (fun h => ?_)
  · have hlt : i < xs.length := by simpa using h
    obtain ⟨a, ha⟩ : ∃ a, xs[i]? = some a := ⟨xs[i], List.getElem?_eq_getElem (by omega)⟩
    refine Rn.draw zB 1000 [0, 1, 0, 7, 0, 16, 0, 112, 240, 511, 1023] rfl (by kernel_rfl) (by kernel_rfl) ?_
    refine Rn.ask zB 1000 rfl ⟨by omega, by omega, by omega, by omega⟩ ?_
    refine Rn.ask zB 1000 rfl ⟨by omega, by omega⟩ ?_
    refine Rn.loadR zB 1000 rfl (LoadR.elt eEvt ha (by simp)) ?_
    refine Rn.call0d zB 1000 rfl (c_rfollows xs i (full && decide (i = xs.length)) (by omega) (by omega) a) [some 0] rfl rfl rfl (by (repeat' first | exact trivial | exact rfl | exact Or.inl (And.intro rfl rfl) | exact wsucc _ (by omega) | refine And.intro ?_ ?_ | refine Or.inr ?_)) (by (repeat' first | exact trivial | exact rfl | exact (by decide) | exact Or.inl (And.intro rfl rfl) | refine And.intro ?_ ?_ | refine Exists.intro _ (Exists.intro _ (And.intro rfl (And.intro (by decide) ?_))))) rfl rfl rfl rfl ?_
    refine Rn.split zB 1000 rfl (fun hz => ?_) (fun hz => ?_)
    · refine Rn.out zB 1000 rfl rfl ?_
      refine Rn.fin0 zB 1000 rfl rfl rfl rfl ?_
      rw [firstErr_at (k := i + 1) (by rw [firstErr_succ he ha]; simpa using hz) (by omega), firstErr_succ he ha]
    · refine Rn.again zB 1000 rfl (i + 1) [some 0, some 1] (by omega) ⟨by omega, by rw [firstErr_succ he ha]; simpa using hz⟩ ⟨rfl, rfl, rfl, rfl, rfl, by (repeat' first | exact trivial | exact rfl | exact Or.inl (And.intro rfl rfl) | exact wsucc _ (by omega) | refine And.intro ?_ ?_ | refine Or.inr ?_), by (repeat' first | exact trivial | exact rfl | exact (by decide) | exact Or.inl (And.intro rfl rfl) | refine And.intro ?_ ?_ | refine Exists.intro _ (Exists.intro _ (And.intro rfl (And.intro (by decide) ?_))))⟩
  · refine Rn.out zB 1000 rfl rfl ?_
    refine Rn.fin0 zB 1000 rfl rfl rfl rfl ?_
    have : i = xs.length := by simp at h; omega
    rw [← this, he]

/-- What Enter answers: an error, or all events. -/
def entErr (xs : List Evt) (e : Evt) : Int := if ckReg xs ≠ 0 then ckReg xs else if ckEv e ≠ 0 then 80 else if xs.length = 256 then 2 else contErr xs e
def entL (xs : List Evt) (e : Evt) : List Evt := if entErr xs e = 0 then xs ++ [e] else []
def entV (xs : List Evt) (e : Evt) (_ : Unit) : AV := .tup [(true, [.sl (some (1, 0)) (entL xs e).length false 10]), (false, [.int .i64 (entErr xs e)])]
def entB (xs : List Evt) (e : Evt) (_ : Unit) : BL := [⟨1, true, none, .raw (arr Evt.c (entL xs e))⟩]

theorem c_enter (xs : List Evt) (full : Bool) (hb : xs.length < 1152921504606846976) (e : Evt) : Ct envB 54 [.agg [.sl (some (0, 0)) xs.length full 10], .agg e.c] [⟨0, false, none, .raw (arr Evt.c xs)⟩] 1 Unit (entV xs e) (entB xs e) (fun _ => 2) := by
  refine Ct.of zB (fn := Tryz.f54) (by kernel_rfl) (by kernel_rfl) rfl rfl ?_
  refine Rn.call0 zB 1000 rfl (c_check xs full hb) [some 0] rfl rfl (by (repeat' first | exact trivial | exact rfl | exact Or.inl (And.intro rfl rfl) | exact wsucc _ (by omega) | refine And.intro ?_ ?_ | refine Or.inr ?_)) (by (repeat' first | exact trivial | exact rfl | exact (by decide) | exact Or.inl (And.intro rfl rfl) | refine And.intro ?_ ?_ | refine Exists.intro _ (Exists.intro _ (And.intro rfl (And.intro (by decide) ?_))))) rfl rfl rfl rfl rfl ?_
  refine Rn.split zB 1000 rfl (fun hc => ?_) (fun hc => ?_)
  · have hne : ckReg xs ≠ 0 := by simpa using hc
    have he : entErr xs e = ckReg xs := by rw [entErr, if_pos hne]
    unfold entV entB
    have hl : entL xs e = [] := by rw [entL, if_neg (by rw [he]; exact hne)]
    rw [hl, he]
    refine Rn.fin zB 1000 rfl rfl rfl () [some 0, none] rfl rfl ?_ ?_ rfl rfl rfl
    · (repeat' first | exact trivial | exact rfl | exact Or.inl (And.intro rfl rfl) | exact wsucc _ (by omega) | refine And.intro ?_ ?_ | refine Or.inr ?_)
    · (repeat' first | exact trivial | exact rfl | exact (by decide) | exact Or.inl (And.intro rfl rfl) | refine And.intro ?_ ?_ | refine Exists.intro _ (Exists.intro _ (And.intro rfl (And.intro (by decide) ?_))))
  have hc : ckReg xs = 0 := by simpa using hc
  have hle : ¬ 256 < xs.length := fun h => by rw [ckReg, if_pos h] at hc; cases hc
  refine Rn.split zB 1000 rfl (fun hk => ?_) (fun hk => ?_)
  · have hk : ckEv e ≠ 0 := by simpa using hk
    have he : entErr xs e = 80 := by rw [entErr, if_neg (by simp [hc]), if_pos hk]
    have hne : (80 : Int) ≠ 0 := by decide
    unfold entV entB
    have hl : entL xs e = [] := by rw [entL, if_neg (by rw [he]; exact hne)]
    rw [hl, he]
    refine Rn.fin zB 1000 rfl rfl rfl () [some 0, none] rfl rfl ?_ ?_ rfl rfl rfl
    · (repeat' first | exact trivial | exact rfl | exact Or.inl (And.intro rfl rfl) | exact wsucc _ (by omega) | refine And.intro ?_ ?_ | refine Or.inr ?_)
    · (repeat' first | exact trivial | exact rfl | exact (by decide) | exact Or.inl (And.intro rfl rfl) | refine And.intro ?_ ?_ | refine Exists.intro _ (Exists.intro _ (And.intro rfl (And.intro (by decide) ?_))))
  have hk : ckEv e = 0 := by simpa using hk
  refine Rn.split zB 1000 rfl (fun hn => ?_) (fun hn => ?_)
  · have hn : xs.length = 256 := by simp at hn; omega
    have he : entErr xs e = 2 := by rw [entErr, if_neg (by simp [hc]), if_neg (by simp [hk]), if_pos hn]
    have hne : (2 : Int) ≠ 0 := by decide
    unfold entV entB
    have hl : entL xs e = [] := by rw [entL, if_neg (by rw [he]; exact hne)]
    rw [hl, he]
    refine Rn.fin zB 1000 rfl rfl rfl () [some 0, none] rfl rfl ?_ ?_ rfl rfl rfl
    · (repeat' first | exact trivial | exact rfl | exact Or.inl (And.intro rfl rfl) | exact wsucc _ (by omega) | refine And.intro ?_ ?_ | refine Or.inr ?_)
    · (repeat' first | exact trivial | exact rfl | exact (by decide) | exact Or.inl (And.intro rfl rfl) | refine And.intro ?_ ?_ | refine Exists.intro _ (Exists.intro _ (And.intro rfl (And.intro (by decide) ?_))))
  have hn : xs.length ≠ 256 := by simp at hn; omega
  have c := c_continues xs xs.length full (Nat.le_refl _) hb e
  rw [List.take_length] at c
  refine Rn.call0 zB 1000 rfl (c) [some 0] rfl rfl (by (repeat' first | exact trivial | exact rfl | exact Or.inl (And.intro rfl rfl) | exact wsucc _ (by omega) | refine And.intro ?_ ?_ | refine Or.inr ?_)) (by (repeat' first | exact trivial | exact rfl | exact (by decide) | exact Or.inl (And.intro rfl rfl) | refine And.intro ?_ ?_ | refine Exists.intro _ (Exists.intro _ (And.intro rfl (And.intro (by decide) ?_))))) rfl rfl rfl rfl rfl ?_
  have he : entErr xs e = contErr xs e := by rw [entErr, if_neg (by simp [hc]), if_neg (by simp [hk]), if_neg hn]
  refine Rn.split zB 1000 rfl (fun hz => ?_) (fun hz => ?_)
  · have hne : contErr xs e ≠ 0 := by simpa using hz
    unfold entV entB
    have hl : entL xs e = [] := by rw [entL, if_neg (by rw [he]; exact hne)]
    rw [hl, he]
    refine Rn.fin zB 1000 rfl rfl rfl () [some 0, none] rfl rfl ?_ ?_ rfl rfl rfl
    · (repeat' first | exact trivial | exact rfl | exact Or.inl (And.intro rfl rfl) | exact wsucc _ (by omega) | refine And.intro ?_ ?_ | refine Or.inr ?_)
    · (repeat' first | exact trivial | exact rfl | exact (by decide) | exact Or.inl (And.intro rfl rfl) | refine And.intro ?_ ?_ | refine Exists.intro _ (Exists.intro _ (And.intro rfl (And.intro (by decide) ?_))))
  have hz : contErr xs e = 0 := by simpa using hz
  rw [hz] at he
  refine Rn.draw zB 1000 [0, 1, 0, 0, 15, 0, 32, 127, 255, 511, 1023] rfl (by kernel_rfl) (by kernel_rfl) ?_
  refine Rn.ask zB 1000 rfl ⟨by omega, by omega, by omega, by omega⟩ ?_
  refine Rn.appF zB 1000 rfl (arr Evt.c (xs ++ [e])) (Src.raw rfl rfl (cells_all eEvt xs)) (Src.ex rfl rfl rfl (cells_one eEvt e)) ((arr_append _ _).symm) rfl (xs.length + 1) (by first | rfl | omega | (simp; done) | (simp; omega)) (by omega) rfl (by omega) (.inl (by simp)) rfl ?_
  unfold entV entB
  have hl : entL xs e = xs ++ [e] := by rw [entL, if_pos he]
  rw [hl, he, List.length_append]
  refine Rn.fin zB 1000 rfl rfl rfl () [some 0, some 5] rfl rfl ?_ ?_ rfl rfl rfl
  · (repeat' first | exact trivial | exact rfl | exact Or.inl (And.intro rfl rfl) | exact wsucc _ (by omega) | refine And.intro ?_ ?_ | refine Or.inr ?_)
  · (repeat' first | exact trivial | exact rfl | exact (by decide) | exact Or.inl (And.intro rfl rfl) | refine And.intro ?_ ?_ | refine Exists.intro _ (Exists.intro _ (And.intro rfl (And.intro (by decide) ?_))))

theorem c_renter (xs : List Evt) (full : Bool) (hb : xs.length < 1152921504606846976) (e : Evt) : Ct envB 55 [.agg [.sl (some (0, 0)) xs.length full 10], .agg e.c] [⟨0, false, none, .raw (arr Evt.c xs)⟩] 1 Unit (entV xs e) (entB xs e) (fun _ => 2) := by
  refine Ct.of zB (fn := Tryz.f55) (by kernel_rfl) (by kernel_rfl) rfl rfl ?_
  refine Rn.call0 zB 1000 rfl (c_rcheck xs full hb) [some 0] rfl rfl (by (repeat' first | exact trivial | exact rfl | exact Or.inl (And.intro rfl rfl) | exact wsucc _ (by omega) | refine And.intro ?_ ?_ | refine Or.inr ?_)) (by (repeat' first | exact trivial | exact rfl | exact (by decide) | exact Or.inl (And.intro rfl rfl) | refine And.intro ?_ ?_ | refine Exists.intro _ (Exists.intro _ (And.intro rfl (And.intro (by decide) ?_))))) rfl rfl rfl rfl rfl ?_
  refine Rn.split zB 1000 rfl (fun hc => ?_) (fun hc => ?_)
  · have hne : ckReg xs ≠ 0 := by simpa using hc
    have he : entErr xs e = ckReg xs := by rw [entErr, if_pos hne]
    unfold entV entB
    have hl : entL xs e = [] := by rw [entL, if_neg (by rw [he]; exact hne)]
    rw [hl, he]
    refine Rn.fin zB 1000 rfl rfl rfl () [some 0, none] rfl rfl ?_ ?_ rfl rfl rfl
    · (repeat' first | exact trivial | exact rfl | exact Or.inl (And.intro rfl rfl) | exact wsucc _ (by omega) | refine And.intro ?_ ?_ | refine Or.inr ?_)
    · (repeat' first | exact trivial | exact rfl | exact (by decide) | exact Or.inl (And.intro rfl rfl) | refine And.intro ?_ ?_ | refine Exists.intro _ (Exists.intro _ (And.intro rfl (And.intro (by decide) ?_))))
  have hc : ckReg xs = 0 := by simpa using hc
  have hle : ¬ 256 < xs.length := fun h => by rw [ckReg, if_pos h] at hc; cases hc
  refine Rn.split zB 1000 rfl (fun hk => ?_) (fun hk => ?_)
  · have hk : ckEv e ≠ 0 := by simpa using hk
    have hk2 : ckEv e = 80 := (ckEv_cases e).resolve_left hk
    have he : entErr xs e = ckEv e := by rw [entErr, if_neg (by simp [hc]), if_pos hk, hk2]
    have hne := hk
    unfold entV entB
    have hl : entL xs e = [] := by rw [entL, if_neg (by rw [he]; exact hne)]
    rw [hl, he]
    refine Rn.fin zB 1000 rfl rfl rfl () [some 0, none] rfl rfl ?_ ?_ rfl rfl rfl
    · (repeat' first | exact trivial | exact rfl | exact Or.inl (And.intro rfl rfl) | exact wsucc _ (by omega) | refine And.intro ?_ ?_ | refine Or.inr ?_)
    · (repeat' first | exact trivial | exact rfl | exact (by decide) | exact Or.inl (And.intro rfl rfl) | refine And.intro ?_ ?_ | refine Exists.intro _ (Exists.intro _ (And.intro rfl (And.intro (by decide) ?_))))
  have hk : ckEv e = 0 := by simpa using hk
  refine Rn.split zB 1000 rfl (fun hn => ?_) (fun hn => ?_)
  · have hn : xs.length = 256 := by simp at hn; omega
    have he : entErr xs e = 2 := by rw [entErr, if_neg (by simp [hc]), if_neg (by simp [hk]), if_pos hn]
    have hne : (2 : Int) ≠ 0 := by decide
    unfold entV entB
    have hl : entL xs e = [] := by rw [entL, if_neg (by rw [he]; exact hne)]
    rw [hl, he]
    refine Rn.fin zB 1000 rfl rfl rfl () [some 0, none] rfl rfl ?_ ?_ rfl rfl rfl
    · (repeat' first | exact trivial | exact rfl | exact Or.inl (And.intro rfl rfl) | exact wsucc _ (by omega) | refine And.intro ?_ ?_ | refine Or.inr ?_)
    · (repeat' first | exact trivial | exact rfl | exact (by decide) | exact Or.inl (And.intro rfl rfl) | refine And.intro ?_ ?_ | refine Exists.intro _ (Exists.intro _ (And.intro rfl (And.intro (by decide) ?_))))
  have hn : xs.length ≠ 256 := by simp at hn; omega
  have c := c_rfollows xs xs.length full (Nat.le_refl _) hb e
  rw [List.take_length] at c
  refine Rn.call0 zB 1000 rfl (c) [some 0] rfl rfl (by (repeat' first | exact trivial | exact rfl | exact Or.inl (And.intro rfl rfl) | exact wsucc _ (by omega) | refine And.intro ?_ ?_ | refine Or.inr ?_)) (by (repeat' first | exact trivial | exact rfl | exact (by decide) | exact Or.inl (And.intro rfl rfl) | refine And.intro ?_ ?_ | refine Exists.intro _ (Exists.intro _ (And.intro rfl (And.intro (by decide) ?_))))) rfl rfl rfl rfl rfl ?_
  have he : entErr xs e = contErr xs e := by rw [entErr, if_neg (by simp [hc]), if_neg (by simp [hk]), if_neg hn]
  refine Rn.split zB 1000 rfl (fun hz => ?_) (fun hz => ?_)
  · have hne : contErr xs e ≠ 0 := by simpa using hz
    unfold entV entB
    have hl : entL xs e = [] := by rw [entL, if_neg (by rw [he]; exact hne)]
    rw [hl, he]
    refine Rn.fin zB 1000 rfl rfl rfl () [some 0, none] rfl rfl ?_ ?_ rfl rfl rfl
    · (repeat' first | exact trivial | exact rfl | exact Or.inl (And.intro rfl rfl) | exact wsucc _ (by omega) | refine And.intro ?_ ?_ | refine Or.inr ?_)
    · (repeat' first | exact trivial | exact rfl | exact (by decide) | exact Or.inl (And.intro rfl rfl) | refine And.intro ?_ ?_ | refine Exists.intro _ (Exists.intro _ (And.intro rfl (And.intro (by decide) ?_))))
  have hz : contErr xs e = 0 := by simpa using hz
  rw [hz] at he
  have hl : entL xs e = xs ++ [e] := by rw [entL, if_pos he]
  unfold entV entB
  rw [hl, he, List.length_append]
  rcases Nat.eq_zero_or_pos xs.length with h0 | h0
  · have hx : xs = [] := List.eq_nil_of_length_eq_zero h0
    refine Rn.app0 zB 1000 rfl (⟨rfl, rfl⟩) (Src.raw rfl rfl (cells_all eEvt xs)) rfl (by omega) rfl (by omega) rfl ?_
    refine Rn.appF zB 1000 rfl (arr Evt.c (xs ++ [e])) (⟨rfl, rfl⟩) (Src.ex rfl rfl rfl (cells_one eEvt e)) ((by rw [hx]; rfl)) rfl (xs.length + 1) (by first | rfl | omega | (simp; done) | (simp; omega)) (by omega) rfl (by omega) (.inr rfl) rfl ?_
    refine Rn.fin zB 1000 rfl rfl rfl () [some 0, some 5] rfl rfl ?_ ?_ rfl rfl rfl
    · (repeat' first | exact trivial | exact rfl | exact Or.inl (And.intro rfl rfl) | exact wsucc _ (by omega) | refine And.intro ?_ ?_ | refine Or.inr ?_)
    · (repeat' first | exact trivial | exact rfl | exact (by decide) | exact Or.inl (And.intro rfl rfl) | refine And.intro ?_ ?_ | refine Exists.intro _ (Exists.intro _ (And.intro rfl (And.intro (by decide) ?_))))
  · refine Rn.appF zB 1000 rfl (arr Evt.c xs) (⟨rfl, rfl⟩) (Src.raw rfl rfl (cells_all eEvt xs)) (rfl) rfl (xs.length) (by first | rfl | omega | (simp; done) | (simp; omega)) (by omega) rfl (by omega) (.inr rfl) rfl ?_
    refine Rn.appN zB 1000 rfl (arr Evt.c (xs ++ [e])) (Src.raw rfl rfl (cells_all eEvt xs)) (Src.ex rfl rfl rfl (cells_one eEvt e)) ((arr_append _ _).symm) rfl (xs.length + 1) (by first | rfl | omega | (simp; done) | (simp; omega)) (by omega) rfl (by omega) rfl rfl ?_
    refine Rn.fin zB 1000 rfl rfl rfl () [some 0, some 6] rfl rfl ?_ ?_ rfl rfl rfl
    · (repeat' first | exact trivial | exact rfl | exact Or.inl (And.intro rfl rfl) | exact wsucc _ (by omega) | refine And.intro ?_ ?_ | refine Or.inr ?_)
    · (repeat' first | exact trivial | exact rfl | exact (by decide) | exact Or.inl (And.intro rfl rfl) | refine And.intro ?_ ?_ | refine Exists.intro _ (Exists.intro _ (And.intro rfl (And.intro (by decide) ?_))))

/-! ### SameRegister -/
theorem evt_ne {a b : Evt} (h : (!decide ([a.no, a.known, a.day, a.kind, a.right, a.holder, a.valley, a.fr, a.to, a.claim] = [b.no, b.known, b.day, b.kind, b.right, b.holder, b.valley, b.fr, b.to, b.claim])) = true) : a ≠ b := fun e => by
  subst e; simp at h
theorem evt_eq {a b : Evt} (h : (!decide ([a.no, a.known, a.day, a.kind, a.right, a.holder, a.valley, a.fr, a.to, a.claim] = [b.no, b.known, b.day, b.kind, b.right, b.holder, b.valley, b.fr, b.to, b.claim])) = false) : a = b := by
  cases a; cases b; simpa using h
/-- Lists that are alike place by place. -/
theorem eq_of_places {α : Type} {xs ys : List α} (hl : xs.length = ys.length) (h : ∀ j, j < xs.length → xs[j]? = ys[j]?) : xs = ys := by
  apply List.ext_getElem?
  intro j
  rcases Nat.lt_or_ge j xs.length with h1 | h1
  · exact h j h1
  · rw [List.getElem?_eq_none h1, List.getElem?_eq_none (by omega)]
theorem moreSame {α : Type} {xs ys : List α} {i : Nat} (h : ∀ j, j < i → xs[j]? = ys[j]?) (hi : xs[i]? = ys[i]?) : ∀ j, j < i + 1 → xs[j]? = ys[j]? := fun j hj => by
  rcases Nat.lt_or_ge j i with h1 | h1
  · exact h j h1
  · have : j = i := by omega
    rw [this]; exact hi

theorem c_sameReg (xs ys : List Evt) (full full' : Bool) (hb : xs.length < 1152921504606846976) (hb2 : ys.length < 1152921504606846976) : Ct0 envB 60 [.agg [.sl (some (0, 0)) xs.length full 10], .agg [.sl (some (1, 0)) ys.length full' 10]] [⟨0, false, none, .raw (arr Evt.c xs)⟩, ⟨1, false, none, .raw (arr Evt.c ys)⟩] 2 (.one (.bool (decide (xs = ys)))) := by
  refine Ct.of zB (fn := Tryz.f60) (by kernel_rfl) (by kernel_rfl) rfl rfl ?_
  refine Rn.split zB 1000 rfl (fun hl => ?_) (fun hl => ?_)
  · refine Rn.fin0 zB 1000 rfl rfl rfl rfl ?_
    have hl : xs.length ≠ ys.length := by simp at hl; omega
    rw [decide_eq_false (fun h => hl (by rw [h]))]
  have hl : xs.length = ys.length := by simp at hl; omega
  refine Rn.loop zB 1000 rfl (T := Nat) (fun i => xs.length - i) (fun i => i ≤ xs.length ∧ ∀ j, j < i → xs[j]? = ys[j]?) (fun i => [(5, .one (.int .i64 i)), (3, .one (.ptr (some (3, 0)))), (2, .one (.ptr (some (2, 0))))]) (fun _ => [⟨3, true, none, .ex [.sl (some (1, 0)) ys.length full' 10]⟩, ⟨2, true, none, .ex [.sl (some (0, 0)) xs.length full 10]⟩, ⟨0, false, none, .raw (arr Evt.c xs)⟩, ⟨1, false, none, .raw (arr Evt.c ys)⟩]) (fun _ => 4) (0) [some 0, some 1, some 2, some 3] ⟨Nat.zero_le _, fun j h => absurd h (Nat.not_lt_zero j)⟩ ⟨rfl, rfl, rfl, rfl, rfl, by (repeat' first | exact trivial | exact rfl | exact Or.inl (And.intro rfl rfl) | exact wsucc _ (by omega) | refine And.intro ?_ ?_ | refine Or.inr ?_), by (repeat' first | exact trivial | exact rfl | exact (by decide) | exact Or.inl (And.intro rfl rfl) | refine And.intro ?_ ?_ | refine Exists.intro _ (Exists.intro _ (And.intro rfl (And.intro (by decide) ?_))))⟩ ?_
  rintro i ⟨hi, he⟩
  refine Rn.split zB 1000 rfl (fun h => ?_) (fun h => ?_)
  · have hlt : i < xs.length := by simpa using h
    obtain ⟨a, ha⟩ : ∃ a, xs[i]? = some a := ⟨xs[i], List.getElem?_eq_getElem (by omega)⟩
    obtain ⟨b, hb'⟩ : ∃ b, ys[i]? = some b := ⟨ys[i], List.getElem?_eq_getElem (by omega)⟩
    refine Rn.draw zB 1000 [0, 1, 0, 7, 15, 0, 32, 0, 224, 480, 1023] rfl (by kernel_rfl) (by kernel_rfl) ?_
    refine Rn.ask zB 1000 rfl ⟨by omega, by omega⟩ ?_
    refine Rn.loadR zB 1000 rfl (LoadR.elt eEvt ha (by simp)) ?_
    refine Rn.ask zB 1000 rfl ⟨by omega, by omega⟩ ?_
    refine Rn.loadR zB 1000 rfl (LoadR.elt eEvt hb' (by simp)) ?_
    refine Rn.split zB 1000 rfl (fun hz => ?_) (fun hz => ?_)
    · refine Rn.out zB 1000 rfl rfl ?_
      refine Rn.fin0 zB 1000 rfl rfl rfl rfl ?_
      rw [decide_eq_false (fun h => evt_ne hz (by rw [h, hb'] at ha; injection ha with ha; exact ha.symm))]
    · refine Rn.again zB 1000 rfl (i + 1) [some 0, some 1, some 2, some 3] (by omega) ⟨by omega, moreSame he (by rw [ha, hb', evt_eq hz])⟩ ⟨rfl, rfl, rfl, rfl, rfl, by (repeat' first | exact trivial | exact rfl | exact Or.inl (And.intro rfl rfl) | exact wsucc _ (by omega) | refine And.intro ?_ ?_ | refine Or.inr ?_), by (repeat' first | exact trivial | exact rfl | exact (by decide) | exact Or.inl (And.intro rfl rfl) | refine And.intro ?_ ?_ | refine Exists.intro _ (Exists.intro _ (And.intro rfl (And.intro (by decide) ?_))))⟩
  · refine Rn.out zB 1000 rfl rfl ?_
    refine Rn.fin0 zB 1000 rfl rfl rfl rfl ?_
    have : i = xs.length := by simp at h; omega
    rw [decide_eq_true (eq_of_places hl (this ▸ he))]

end Go.AM
