/- Walks: the reference's follows; Check of both. -/
import Derived.Test.YtlkbcjhemhmfoaaGreatDoorWe2
set_option linter.unusedSimpArgs false
set_option linter.unusedVariables false
namespace Go.AM
open Go Go.Proofs
set_option maxRecDepth 10000
set_option maxHeartbeats 1000000

theorem c_rgrant (xs : List Evt) (n : Nat) (full : Bool) (hn : n ≤ xs.length) (hb : n < 1152921504606846976) (right : Int) : Ct0 envB 147 [slA 0 0 n full 10, .one (.int .i64 right)] [⟨0, false, none, .raw (arr Evt.c xs)⟩] 1 (.one (.int .i64 (idxI (isGrant right) (xs.take n)))) := by
  refine Ct.of zB (fn := Tryz.f147) (by kernel_rfl) (by kernel_rfl) rfl rfl ?_
  refine Rn.loop zB 1000 rfl (T := Nat) (fun i => n - i) (fun i => i ≤ n ∧ ∀ j a, j < i → xs[j]? = some a → isGrant right a = false) (fun i => [(5, .one (.int .i64 i)), (1, .one (.int .i64 right)), (0, slA 0 0 n full 10)]) (fun _ => [⟨0, false, none, .raw (arr Evt.c xs)⟩]) (fun _ => 1) (0) [some 0] ⟨Nat.zero_le _, fun j _ h => absurd h (Nat.not_lt_zero j)⟩ ⟨rfl, rfl, rfl, rfl, rfl, by (repeat' first | exact trivial | exact rfl | exact Or.inl (And.intro rfl rfl) | exact wsucc _ (by omega) | refine And.intro ?_ ?_), by (repeat' first | exact trivial | exact rfl | exact (by decide) | exact Or.inl (And.intro rfl rfl) | refine And.intro ?_ ?_ | refine Exists.intro _ (Exists.intro _ (And.intro rfl (And.intro (by decide) ?_))))⟩ ?_
  rintro i ⟨hi, hno⟩
  refine Rn.split zB 1000 rfl (fun h => ?_) (fun h => ?_)
  · have hlt : i < n := by simpa using h
    obtain ⟨a, ha⟩ : ∃ a, xs[i]? = some a := ⟨xs[i], List.getElem?_eq_getElem (by omega)⟩
    refine Rn.ask zB 1000 rfl ⟨by omega, by omega⟩ ?_
    refine Rn.loadR zB 1000 rfl (LoadR.fld eEvt (f := 3) (v := .int .i64 a.kind) ha (by simp) rfl rfl) ?_
    refine Rn.split zB 1000 rfl (fun hk => ?_) (fun hk => ?_)
    · refine Rn.ask zB 1000 rfl ⟨by omega, by omega⟩ ?_
      refine Rn.loadR zB 1000 rfl (LoadR.fld eEvt (f := 4) (v := .int .i64 a.right) ha (by simp) rfl rfl) ?_
      refine Rn.split zB 1000 rfl (fun hr => ?_) (fun hr => ?_)
      · refine Rn.out zB 1000 rfl rfl ?_
        refine Rn.fin0 zB 1000 rfl rfl rfl rfl ?_
        rw [idxI_found hno ha (by simp [isGrant, hk, hr]) hlt]
      · refine Rn.again zB 1000 rfl (i + 1) [some 0] (by omega) ⟨by omega, noMore hno ha (by simp [isGrant, hk, hr])⟩ ⟨rfl, rfl, rfl, rfl, rfl, by (repeat' first | exact trivial | exact rfl | exact Or.inl (And.intro rfl rfl) | exact wsucc _ (by omega) | refine And.intro ?_ ?_), by (repeat' first | exact trivial | exact rfl | exact (by decide) | exact Or.inl (And.intro rfl rfl) | refine And.intro ?_ ?_ | refine Exists.intro _ (Exists.intro _ (And.intro rfl (And.intro (by decide) ?_))))⟩
    · refine Rn.split zB 1000 rfl (fun h => ?_) (fun h => ?_)
      · cases h
      · refine Rn.again zB 1000 rfl (i + 1) [some 0] (by omega) ⟨by omega, noMore hno ha (by simp [isGrant, hk])⟩ ⟨rfl, rfl, rfl, rfl, rfl, by (repeat' first | exact trivial | exact rfl | exact Or.inl (And.intro rfl rfl) | exact wsucc _ (by omega) | refine And.intro ?_ ?_), by (repeat' first | exact trivial | exact rfl | exact (by decide) | exact Or.inl (And.intro rfl rfl) | refine And.intro ?_ ?_ | refine Exists.intro _ (Exists.intro _ (And.intro rfl (And.intro (by decide) ?_))))⟩
  · refine Rn.out zB 1000 rfl rfl ?_
    refine Rn.fin0 zB 1000 rfl rfl rfl rfl ?_
    have hge : n ≤ i := by simpa using h
    rw [idxI_none fun j b hj => hno j b (by omega)]

theorem c_rfollows (xs : List Evt) (n : Nat) (full : Bool) (hn : n ≤ xs.length) (hb : n < 1152921504606846976) (e : Evt) : Ct0 envB 119 [slA 0 0 n full 10, .agg e.c] [⟨0, false, none, .raw (arr Evt.c xs)⟩] 1 (.one (.int .i64 (contErr (xs.take n) e))) := by
  refine Ct.of zB (fn := Tryz.f119) (by kernel_rfl) (by kernel_rfl) rfl rfl ?_
  have hlen : (xs.take n).length = n := by rw [List.length_take]; omega
  refine Rn.split zB 1000 rfl (fun h => ?_) (fun h => ?_)
  · refine Rn.fin0 zB 1000 rfl rfl rfl rfl ?_
    have h : ckEv e ≠ 0 := by simpa using h
    have h2 : ckEv e = 80 := (ckEv_cases e).resolve_left h
    simp only [contErr, h2]
    rfl
  have hck : ckEv e = 0 := by simpa using h
  refine Rn.draw zB 1000 [0, 1, 0, 4, 15, 31, 63, 127, 255, 511, 1023, 1023, 3071, 7167, 16383, 32767, 65535, 1023, 132095, 524287, 1048575, 2097151] rfl (by kernel_rfl) (by kernel_rfl) ?_
  refine Rn.split zB 1000 rfl (fun hno => ?_) (fun hno => ?_)
  · refine Rn.split zB 1000 rfl (fun h => ?_) (fun h => ?_)
    · refine Rn.fin0 zB 1000 rfl rfl rfl rfl ?_
      simp [contErr, hck, badOrd, hlen, show e.no ≠ n by simpa using hno]
    · cases h
  have hno : e.no = n := by simpa using hno
  refine Rn.split zB 1000 rfl (fun hpos => ?_) (fun hpos => ?_)
  · have hpos : 0 < n := by simpa using hpos
    obtain ⟨a, ha, hl⟩ := last_take hn hpos
    refine Rn.ask zB 1000 rfl ⟨by rw [wpred n hpos (by omega)]; omega, by rw [wpred n hpos (by omega)]; omega⟩ ?_
    refine Rn.loadR zB 1000 rfl (LoadR.fld eEvt (f := 1) (v := .int .i64 a.known) ha (by rw [wpred n hpos (by omega)]; simp) rfl rfl) ?_
    refine Rn.split zB 1000 rfl (fun hk => ?_) (fun hk => ?_)
    · refine Rn.fin0 zB 1000 rfl rfl rfl rfl ?_
      simp [contErr, hck, badOrd, hlen, hl, show a.known > e.known by simpa using hk]
    have hk : ¬ a.known > e.known := by simpa using hk
    have hbad : badOrd (xs.take n) e = false := by simp [badOrd, hlen, *]
    have c := c_rgrant xs n full hn hb e.right
    rcases idxI_cases (isGrant e.right) (xs.take n) with ⟨h1, h2⟩ | ⟨i, g, h1, h2, h3⟩
    · rw [h1] at c
      have hv : contErr (xs.take n) e = if e.kind = 1 then 0 else 81 := by simp [contErr, hck, hbad, h2]
      rw [hv]
      refine Rn.call0 zB 1000 rfl (c) [some 0] rfl rfl (by (repeat' first | exact trivial | exact rfl | exact Or.inl (And.intro rfl rfl) | exact wsucc _ (by omega) | refine And.intro ?_ ?_)) (by (repeat' first | exact trivial | exact rfl | exact (by decide) | exact Or.inl (And.intro rfl rfl) | refine And.intro ?_ ?_ | refine Exists.intro _ (Exists.intro _ (And.intro rfl (And.intro (by decide) ?_))))) rfl rfl rfl rfl rfl ?_
      refine Rn.split zB 1000 rfl (fun hk => ?_) (fun hk => ?_)
      · refine Rn.split zB 1000 rfl (fun h => ?_) (fun h => ?_)
        · cases h
        · refine Rn.fin0 zB 1000 rfl rfl rfl rfl ?_
          rw [if_pos (by simpa using hk)]
      · refine Rn.draw zB 1000 [0, 1, 3, 7, 15, 7, 7, 103, 231, 487, 1023, 2047] rfl (by kernel_rfl) (by kernel_rfl) ?_
        refine Rn.split zB 1000 rfl (fun h => ?_) (fun h => ?_)
        · refine Rn.split zB 1000 rfl (fun h => ?_) (fun h => ?_)
          · refine Rn.fin0 zB 1000 rfl rfl rfl rfl ?_
            rw [if_neg (by simpa using hk)]
          · cases h
        · cases h
    · rw [h1] at c
      have hv : contErr (xs.take n) e = if e.kind = 1 ∨ e.day < g.day then 81 else 0 := by simp [contErr, hck, hbad, h3]
      rw [hv]
      have hin : i < n := by
        rcases Nat.lt_or_ge i n with h | h
        · exact h
        · rw [List.getElem?_take_eq_none h] at h2; cases h2
      rw [List.getElem?_take_of_lt hin] at h2
      refine Rn.call0 zB 1000 rfl (c) [some 0] rfl rfl (by (repeat' first | exact trivial | exact rfl | exact Or.inl (And.intro rfl rfl) | exact wsucc _ (by omega) | refine And.intro ?_ ?_)) (by (repeat' first | exact trivial | exact rfl | exact (by decide) | exact Or.inl (And.intro rfl rfl) | refine And.intro ?_ ?_ | refine Exists.intro _ (Exists.intro _ (And.intro rfl (And.intro (by decide) ?_))))) rfl rfl rfl rfl rfl ?_
      refine Rn.split zB 1000 rfl (fun hk => ?_) (fun hk => ?_)
      · refine Rn.split zB 1000 rfl (fun h => ?_) (fun h => ?_)
        · refine Rn.fin0 zB 1000 rfl rfl rfl rfl ?_
          rw [if_pos (.inl (by simpa using hk))]
        · simp at h
      · refine Rn.draw zB 1000 [0, 1, 3, 7, 15, 7, 7, 103, 231, 487, 1023, 2047] rfl (by kernel_rfl) (by kernel_rfl) ?_
        refine Rn.split zB 1000 rfl (fun h => ?_) (fun h => ?_)
        · simp at h; omega
        refine Rn.ask zB 1000 rfl ⟨by omega, by omega⟩ ?_
        refine Rn.loadR zB 1000 rfl (LoadR.fld eEvt (f := 2) (v := .int .i64 g.day) h2 (by simp) rfl rfl) ?_
        refine Rn.split zB 1000 rfl (fun hd => ?_) (fun hd => ?_)
        · refine Rn.fin0 zB 1000 rfl rfl rfl rfl ?_
          rw [if_pos (.inr (by simpa using hd))]
        · refine Rn.fin0 zB 1000 rfl rfl rfl rfl ?_
          rw [if_neg (by simp at hk hd; omega)]
  · have hz : n = 0 := by simpa using hpos
    have hnil : (xs.take n).getLast? = none := by rw [hz]; rfl
    refine Rn.split zB 1000 rfl (fun h => ?_) (fun h => ?_)
    · cases h
    have hbad : badOrd (xs.take n) e = false := by simp [badOrd, hlen, *]
    have c := c_rgrant xs n full hn hb e.right
    rcases idxI_cases (isGrant e.right) (xs.take n) with ⟨h1, h2⟩ | ⟨i, g, h1, h2, h3⟩
    · rw [h1] at c
      have hv : contErr (xs.take n) e = if e.kind = 1 then 0 else 81 := by simp [contErr, hck, hbad, h2]
      rw [hv]
      refine Rn.call0 zB 1000 rfl (c) [some 0] rfl rfl (by (repeat' first | exact trivial | exact rfl | exact Or.inl (And.intro rfl rfl) | exact wsucc _ (by omega) | refine And.intro ?_ ?_)) (by (repeat' first | exact trivial | exact rfl | exact (by decide) | exact Or.inl (And.intro rfl rfl) | refine And.intro ?_ ?_ | refine Exists.intro _ (Exists.intro _ (And.intro rfl (And.intro (by decide) ?_))))) rfl rfl rfl rfl rfl ?_
      refine Rn.split zB 1000 rfl (fun hk => ?_) (fun hk => ?_)
      · refine Rn.split zB 1000 rfl (fun h => ?_) (fun h => ?_)
        · cases h
        · refine Rn.fin0 zB 1000 rfl rfl rfl rfl ?_
          rw [if_pos (by simpa using hk)]
      · refine Rn.draw zB 1000 [0, 1, 3, 7, 15, 7, 7, 103, 231, 487, 1023, 2047] rfl (by kernel_rfl) (by kernel_rfl) ?_
        refine Rn.split zB 1000 rfl (fun h => ?_) (fun h => ?_)
        · refine Rn.split zB 1000 rfl (fun h => ?_) (fun h => ?_)
          · refine Rn.fin0 zB 1000 rfl rfl rfl rfl ?_
            rw [if_neg (by simpa using hk)]
          · cases h
        · cases h
    · rw [h1] at c
      have hv : contErr (xs.take n) e = if e.kind = 1 ∨ e.day < g.day then 81 else 0 := by simp [contErr, hck, hbad, h3]
      rw [hv]
      have hin : i < n := by
        rcases Nat.lt_or_ge i n with h | h
        · exact h
        · rw [List.getElem?_take_eq_none h] at h2; cases h2
      rw [List.getElem?_take_of_lt hin] at h2
      refine Rn.call0 zB 1000 rfl (c) [some 0] rfl rfl (by (repeat' first | exact trivial | exact rfl | exact Or.inl (And.intro rfl rfl) | exact wsucc _ (by omega) | refine And.intro ?_ ?_)) (by (repeat' first | exact trivial | exact rfl | exact (by decide) | exact Or.inl (And.intro rfl rfl) | refine And.intro ?_ ?_ | refine Exists.intro _ (Exists.intro _ (And.intro rfl (And.intro (by decide) ?_))))) rfl rfl rfl rfl rfl ?_
      refine Rn.split zB 1000 rfl (fun hk => ?_) (fun hk => ?_)
      · refine Rn.split zB 1000 rfl (fun h => ?_) (fun h => ?_)
        · refine Rn.fin0 zB 1000 rfl rfl rfl rfl ?_
          rw [if_pos (.inl (by simpa using hk))]
        · simp at h
      · refine Rn.draw zB 1000 [0, 1, 3, 7, 15, 7, 7, 103, 231, 487, 1023, 2047] rfl (by kernel_rfl) (by kernel_rfl) ?_
        refine Rn.split zB 1000 rfl (fun h => ?_) (fun h => ?_)
        · simp at h; omega
        refine Rn.ask zB 1000 rfl ⟨by omega, by omega⟩ ?_
        refine Rn.loadR zB 1000 rfl (LoadR.fld eEvt (f := 2) (v := .int .i64 g.day) h2 (by simp) rfl rfl) ?_
        refine Rn.split zB 1000 rfl (fun hd => ?_) (fun hd => ?_)
        · refine Rn.fin0 zB 1000 rfl rfl rfl rfl ?_
          rw [if_pos (.inr (by simpa using hd))]
        · refine Rn.fin0 zB 1000 rfl rfl rfl rfl ?_
          rw [if_neg (by simp at hk hd; omega)]

/-- The first error among the first so many events. -/
def firstErr (xs : List Evt) : Nat → Int
  | 0 => 0
  | k + 1 => if firstErr xs k ≠ 0 then firstErr xs k else match xs[k]? with
    | some e => contErr (xs.take k) e
    | none => 0
def ckReg (xs : List Evt) : Int := if 256 < xs.length then 2 else firstErr xs xs.length
theorem firstErr_keep {xs : List Evt} {k : Nat} (h : firstErr xs k ≠ 0) : ∀ m, firstErr xs (k + m) = firstErr xs k
  | 0 => rfl
  | m + 1 => by
    show firstErr xs ((k + m) + 1) = _
    rw [firstErr, if_pos (by rw [firstErr_keep h m]; exact h), firstErr_keep h m]
theorem firstErr_at {xs : List Evt} {k n : Nat} (h : firstErr xs k ≠ 0) (hk : k ≤ n) : firstErr xs n = firstErr xs k := by
  have := firstErr_keep h (n - k)
  rwa [show k + (n - k) = n by omega] at this
theorem firstErr_succ {xs : List Evt} {k : Nat} {e : Evt} (h : firstErr xs k = 0) (he : xs[k]? = some e) : firstErr xs (k + 1) = contErr (xs.take k) e := by
  rw [firstErr, if_neg (by simp [h]), he]

theorem c_check (xs : List Evt) (full : Bool) (hb : xs.length < 1152921504606846976) : Ct0 envB 58 [.agg [.sl (some (0, 0)) xs.length full 10]] [⟨0, false, none, .raw (arr Evt.c xs)⟩] 1 (.one (.int .i64 (ckReg xs))) := by
  refine Ct.of zB (fn := Tryz.f58) (by kernel_rfl) (by kernel_rfl) rfl rfl ?_
  refine Rn.split zB 1000 rfl (fun hl => ?_) (fun hl => ?_)
  · refine Rn.fin0 zB 1000 rfl rfl rfl rfl ?_
    rw [ckReg, if_pos (by simp at hl; omega)]
  have hl : ¬ 256 < xs.length := by simp at hl; omega
  rw [ckReg, if_neg hl]
  refine Rn.loop zB 1000 rfl (T := Nat) (fun i => xs.length - i) (fun i => i ≤ xs.length ∧ firstErr xs i = 0) (fun i => [(13, .one (.int .i64 i)), (12, .one (.int .i64 xs.length)), (11, slA 0 0 xs.length full 10), (1, .one (.ptr (some (1, 0))))]) (fun _ => [⟨1, true, none, .ex [.sl (some (0, 0)) xs.length full 10]⟩, ⟨0, false, none, .raw (arr Evt.c xs)⟩]) (fun _ => 2) (0) [some 0, some 1] ⟨Nat.zero_le _, rfl⟩ ⟨rfl, rfl, rfl, rfl, rfl, by (repeat' first | exact trivial | exact rfl | exact Or.inl (And.intro rfl rfl) | exact wsucc _ (by omega) | refine And.intro ?_ ?_), by (repeat' first | exact trivial | exact rfl | exact (by decide) | exact Or.inl (And.intro rfl rfl) | refine And.intro ?_ ?_ | refine Exists.intro _ (Exists.intro _ (And.intro rfl (And.intro (by decide) ?_))))⟩ ?_
  rintro i ⟨hi, he⟩
  refine Rn.split zB 1000 rfl (fun h => ?_) (fun h => ?_)
  · have hlt : i < xs.length := by simpa using h
    obtain ⟨a, ha⟩ : ∃ a, xs[i]? = some a := ⟨xs[i], List.getElem?_eq_getElem (by omega)⟩
    refine Rn.ask zB 1000 rfl ⟨by omega, by omega⟩ ?_
    refine Rn.loadR zB 1000 rfl (LoadR.elt eEvt ha (by simp)) ?_
    refine Rn.draw zB 1000 [0, 1, 0, 7, 0, 31, 63] rfl (by kernel_rfl) (by kernel_rfl) ?_
    refine Rn.ask zB 1000 rfl ⟨by omega, by omega, by omega, by omega⟩ ?_
    refine Rn.call0d zB 1000 rfl (c_continues xs i (full && decide (i = xs.length)) (by omega) (by omega) a) [some 0] rfl rfl rfl (by (repeat' first | exact trivial | exact rfl | exact Or.inl (And.intro rfl rfl) | exact wsucc _ (by omega) | refine And.intro ?_ ?_)) (by (repeat' first | exact trivial | exact rfl | exact (by decide) | exact Or.inl (And.intro rfl rfl) | refine And.intro ?_ ?_ | refine Exists.intro _ (Exists.intro _ (And.intro rfl (And.intro (by decide) ?_))))) rfl rfl rfl rfl ?_
    refine Rn.split zB 1000 rfl (fun hz => ?_) (fun hz => ?_)
    · refine Rn.out zB 1000 rfl rfl ?_
      refine Rn.fin0 zB 1000 rfl rfl rfl rfl ?_
      rw [firstErr_at (k := i + 1) (by rw [firstErr_succ he ha]; simpa using hz) (by omega), firstErr_succ he ha]
    · refine Rn.again zB 1000 rfl (i + 1) [some 0, some 1] (by omega) ⟨by omega, by rw [firstErr_succ he ha]; simpa using hz⟩ ⟨rfl, rfl, rfl, rfl, rfl, by (repeat' first | exact trivial | exact rfl | exact Or.inl (And.intro rfl rfl) | exact wsucc _ (by omega) | refine And.intro ?_ ?_), by (repeat' first | exact trivial | exact rfl | exact (by decide) | exact Or.inl (And.intro rfl rfl) | refine And.intro ?_ ?_ | refine Exists.intro _ (Exists.intro _ (And.intro rfl (And.intro (by decide) ?_))))⟩
  · refine Rn.out zB 1000 rfl rfl ?_
    refine Rn.fin0 zB 1000 rfl rfl rfl rfl ?_
    have : i = xs.length := by simp at h; omega
    rw [← this, he]

end Go.AM
