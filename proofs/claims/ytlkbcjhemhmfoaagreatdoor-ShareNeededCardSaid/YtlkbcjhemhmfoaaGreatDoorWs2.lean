/- Walks: CheckShare. -/
import Derived.Test.YtlkbcjhemhmfoaaGreatDoorWd0
import Derived.Test.YtlkbcjhemhmfoaaGreatDoorMk
set_option linter.unusedSimpArgs false
set_option linter.unusedVariables false
namespace Go.AM
open Go Go.Proofs
set_option maxRecDepth 10000
set_option maxHeartbeats 1000000

def hasNo (no : Int) (r : Rt) : Bool := r.no == no
theorem c_hasNo (r : Rt) (q : Rt) : Ct0 envB 108 [.agg r.c, .one (.ptr (some (0, 0)))] [⟨0, false, none, .ex q.c⟩] 1 (.one (.bool (hasNo q.no r))) := by
  refine Ct.of zB (fn := Tryz.f108) (by kernel_rfl) (by kernel_rfl) rfl rfl ?_
  refine Rn.fin0 zB 1000 rfl rfl rfl rfl ?_
  rfl
theorem c_idxNo (xs : List Rt) (n : Nat) (full : Bool) (hn : n ≤ xs.length) (hb : n < 1152921504606846976) (q : Rt) : Ct0 envB 74 [slA 0 0 n full 7, .one (.fn 108 [(1, 0)])] [⟨0, false, none, .raw (arr Rt.c xs)⟩, ⟨1, false, none, .ex q.c⟩] 2 (.one (.int .i64 (idxI (hasNo q.no) (xs.take n)))) := by
  refine Ct.of zB (fn := Tryz.f74) (by kernel_rfl) (by kernel_rfl) rfl rfl ?_
  refine Rn.loop zB 1000 rfl (T := Nat) (fun i => n - i) (fun i => i ≤ n ∧ ∀ j a, j < i → xs[j]? = some a → hasNo q.no a = false) (fun i => [(8, .one (.int .i64 i)), (7, .one (.int .i64 n)), (1, .one (.fn 108 [(1, 0)])), (0, slA 0 0 n full 7)]) (fun _ => [⟨0, false, none, .raw (arr Rt.c xs)⟩, ⟨1, false, none, .ex q.c⟩]) (fun _ => 2) (0) [some 0, some 1] (⟨Nat.zero_le _, fun j _ h => absurd h (Nat.not_lt_zero j)⟩) ⟨rfl, rfl, rfl, rfl, rfl, by (repeat' first | exact trivial | exact rfl | exact Or.inl (And.intro rfl rfl) | exact wsucc _ (by omega) | exact wlin (by first | omega | (push_cast; omega)) (by omega) | exact wint (by omega) (by omega) | refine And.intro ?_ ?_ | refine Or.inr ?_), by (repeat' first | exact trivial | exact rfl | exact (by decide) | exact zerosI _ | exact zerosN _ | exact OfRaw.rows (by omega) | exact Or.inl (And.intro rfl rfl) | refine And.intro ?_ ?_ | refine Exists.intro _ (Exists.intro _ (And.intro rfl (And.intro (by decide) ?_))))⟩ ?_
  rintro i ⟨hi, hno⟩
  refine Rn.split zB 1000 rfl (fun h => ?_) (fun h => ?_)
  · have hlt : i < n := by simpa using h
    obtain ⟨a, ha⟩ : ∃ a, xs[i]? = some a := ⟨xs[i], List.getElem?_eq_getElem (by omega)⟩
    refine Rn.ask zB 1000 rfl ⟨by first | omega | (dsimp only; omega), by first | omega | (dsimp only; omega)⟩ ?_
    refine Rn.loadR zB 1000 rfl (LoadR.elt eRt ha (by simp)) ?_
    refine Rn.call0 zB 1000 rfl (c_hasNo a q) [some 1] rfl rfl (by (repeat' first | exact trivial | exact rfl | exact Or.inl (And.intro rfl rfl) | exact wsucc _ (by omega) | exact wlin (by first | omega | (push_cast; omega)) (by omega) | exact wint (by omega) (by omega) | refine And.intro ?_ ?_ | refine Or.inr ?_)) (by (repeat' first | exact trivial | exact rfl | exact (by decide) | exact zerosI _ | exact zerosN _ | exact OfRaw.rows (by omega) | exact Or.inl (And.intro rfl rfl) | refine And.intro ?_ ?_ | refine Exists.intro _ (Exists.intro _ (And.intro rfl (And.intro (by decide) ?_))))) rfl rfl rfl rfl rfl ?_
    refine Rn.split zB 1000 rfl (fun hp => ?_) (fun hp => ?_)
    · refine Rn.out zB 1000 rfl rfl ?_
      refine Rn.fin0 zB 1000 rfl rfl rfl rfl ?_
      rw [idxI_found hno ha hp hlt]
    · refine Rn.again zB 1000 rfl (i + 1) [some 0, some 1] (by omega) (⟨by omega, noMore hno ha hp⟩) ⟨rfl, rfl, rfl, rfl, rfl, by (repeat' first | exact trivial | exact rfl | exact Or.inl (And.intro rfl rfl) | exact wsucc _ (by omega) | exact wlin (by first | omega | (push_cast; omega)) (by omega) | exact wint (by omega) (by omega) | refine And.intro ?_ ?_ | refine Or.inr ?_), by (repeat' first | exact trivial | exact rfl | exact (by decide) | exact zerosI _ | exact zerosN _ | exact OfRaw.rows (by omega) | exact Or.inl (And.intro rfl rfl) | refine And.intro ?_ ?_ | refine Exists.intro _ (Exists.intro _ (And.intro rfl (And.intro (by decide) ?_))))⟩
  · refine Rn.out zB 1000 rfl rfl ?_
    refine Rn.fin0 zB 1000 rfl rfl rfl rfl ?_
    have hge : n ≤ i := by simpa using h
    rw [idxI_none fun j b hj => hno j b (by omega)]
def anyNo (xs : List Rt) (n : Nat) (no : Int) : Bool := decide (idxI (hasNo no) (xs.take n) ≥ 0)
theorem c_contains (xs : List Rt) (n : Nat) (full : Bool) (hn : n ≤ xs.length) (hb : n < 1152921504606846976) (q : Rt) : Ct0 envB 107 [slA 0 0 n full 7, .one (.fn 108 [(1, 0)])] [⟨0, false, none, .raw (arr Rt.c xs)⟩, ⟨1, false, none, .ex q.c⟩] 2 (.one (.bool (anyNo xs n q.no))) := by
  refine Ct.of zB (fn := Tryz.f107) (by kernel_rfl) (by kernel_rfl) rfl rfl ?_
  refine Rn.call0 zB 1000 rfl (c_idxNo xs n full hn hb q) [some 0, some 1] rfl rfl (by (repeat' first | exact trivial | exact rfl | exact Or.inl (And.intro rfl rfl) | exact wsucc _ (by omega) | exact wlin (by first | omega | (push_cast; omega)) (by omega) | exact wint (by omega) (by omega) | refine And.intro ?_ ?_ | refine Or.inr ?_)) (by (repeat' first | exact trivial | exact rfl | exact (by decide) | exact zerosI _ | exact zerosN _ | exact OfRaw.rows (by omega) | exact Or.inl (And.intro rfl rfl) | refine And.intro ?_ ?_ | refine Exists.intro _ (Exists.intro _ (And.intro rfl (And.intro (by decide) ?_))))) rfl rfl rfl rfl rfl ?_
  refine Rn.fin0 zB 1000 rfl rfl rfl rfl ?_
  rfl
theorem anyNo_f {xs : List Rt} {n : Nat} {no : Int} (h : anyNo xs n no = false) : ∀ (j : Nat) (q : Rt), j < n → xs[j]? = some q → q.no ≠ no := fun j q hj hq e => by
  unfold anyNo idxI at h
  cases hf : (xs.take n).findIdx? (hasNo no) with
  | some i => rw [hf] at h; simp at h
  | none =>
    rw [List.findIdx?_eq_none_iff] at hf
    have := hf q (List.mem_of_getElem? (by rw [List.getElem?_take_of_lt hj]; exact hq))
    unfold hasNo at this
    simp [e] at this
theorem anyNo_t {xs : List Rt} {n : Nat} {no : Int} (h : anyNo xs n no = true) : ∃ (j : Nat) (q : Rt), j < n ∧ xs[j]? = some q ∧ q.no = no := by
  unfold anyNo idxI at h
  cases hf : (xs.take n).findIdx? (hasNo no) with
  | none => rw [hf] at h; simp at h
  | some i =>
    rw [List.findIdx?_eq_some_iff_getElem] at hf
    obtain ⟨hl, hp, _⟩ := hf
    rw [List.length_take] at hl
    rw [List.getElem_take] at hp
    exact ⟨i, xs[i]'(by omega), by omega, List.getElem?_eq_getElem _, by unfold hasNo at hp; simpa using hp⟩

def fineR (r : Rt) : Bool := isNum r.no && isNum r.holder && isNum r.valley && isDay r.age && isDay r.fr && isDay r.to && isVol r.claim
theorem rightB_fine {r : Rt} (h : rightB r = true) : fineR r = true := by
  unfold rightB at h
  unfold fineR
  simp only [Bool.and_eq_true] at h ⊢
  exact h.1
theorem suB_fine {x : Su} (h : suB x = true) : isNum x.valley = true ∧ isDay x.day = true ∧ isVol x.vol = true := by
  unfold suB at h
  simp only [Bool.and_eq_true] at h
  exact ⟨h.1.1, h.1.2, h.2⟩
def PS (ss : List Su) (i : Nat) : Prop := ∀ x : Su, ss[i]? = some x → suB x = true ∧ ∀ q : Su, 0 < i → ss[i - 1]? = some q → q.valley < x.valley ∨ (q.valley = x.valley ∧ q.day < x.day)
def PP (po : List Po) (i : Nat) : Prop := ∀ x : Po, po[i]? = some x → poB x = true ∧ ∀ q : Po, 0 < i → po[i - 1]? = some q → q.valley < x.valley
theorem poB_fine {x : Po} (h : poB x = true) : isNum x.valley = true ∧ isVol x.room = true := by
  unfold poB at h
  simp only [Bool.and_eq_true] at h
  exact h
theorem badV {rs : List Rt} {ss : List Su} {po : List Po} (h : ¬ ShareOK rs ss po) : AV.one (.int .i64 82) = AV.one (.int .i64 (shErr rs ss po)) := by rw [shErr_bad h]
/-- The blocks of a check. -/
abbrev shC (rs : List Rt) (ss : List Su) (po : List Po) (f1 f2 f3 : Bool) : BL := ⟨3, true, none, .ex [.sl (some (0, 0)) rs.length f1 7, .sl (some (1, 0)) ss.length f2 3, .sl (some (2, 0)) po.length f3 2]⟩ :: shB rs ss po
abbrev shCX (rx rs : List Rt) (ss : List Su) (po : List Po) (f1 f2 f3 : Bool) : BL := ⟨3, true, none, .ex [.sl (some (0, 0)) rs.length f1 7, .sl (some (1, 0)) ss.length f2 3, .sl (some (2, 0)) po.length f3 2]⟩ :: shB rx ss po
theorem c_checkShareX (rx rs : List Rt) (hpre : ∀ (i : Nat) (r : Rt), rs[i]? = some r → rx[i]? = some r) (ss : List Su) (po : List Po) (f1 f2 f3 : Bool) (h1 : rs.length < 90000000000) (h2 : ss.length < 90000000000) (h3 : po.length < 90000000000) : Ct0 envB 44 [shA rs.length ss.length po.length f1 f2 f3] (shB rx ss po) 3 (.one (.int .i64 (shErr rs ss po))) := by
  refine Ct.of zB (fn := Tryz.f44) (by kernel_rfl) (by kernel_rfl) rfl rfl ?_
  refine Rn.split zB 1000 rfl (fun e0 => ?_) (fun e0 => ?_)
  · repeat (refine Rn.split zB 1000 rfl (fun _ => ?_) (fun h => by cases h))
    refine Rn.fin0 zB 1000 rfl rfl rfl rfl ?_
    refine badV fun c => ?_
    have := c.nr; simp at e0; omega
  refine Rn.split zB 1000 rfl (fun e1 => ?_) (fun e1 => ?_)
  · repeat (refine Rn.split zB 1000 rfl (fun _ => ?_) (fun h => by cases h))
    refine Rn.fin0 zB 1000 rfl rfl rfl rfl ?_
    refine badV fun c => ?_
    have := c.ns; simp at e1; omega
  refine Rn.split zB 1000 rfl (fun e2 => ?_) (fun e2 => ?_)
  · repeat (refine Rn.split zB 1000 rfl (fun _ => ?_) (fun h => by cases h))
    refine Rn.fin0 zB 1000 rfl rfl rfl rfl ?_
    refine badV fun c => ?_
    have := c.np; simp at e2; omega
  repeat (refine Rn.split zB 1000 rfl (fun h => by cases h) (fun _ => ?_))
  have e0 : rs.length ≤ 32 := by simp at e0; omega
  have e1 : ss.length ≤ 64 := by simp at e1; omega
  have e2 : po.length ≤ 64 := by simp at e2; omega
  refine Rn.loop zB 1000 rfl (T := Nat) (fun i => rs.length - i) (fun i => i ≤ rs.length ∧ ∀ j, j < i → PR rs j) (fun i => [(29, iA i), (28, iA rs.length), (27, slA 0 0 rs.length f1 7), (1, .one (.ptr (some (3, 0))))]) (fun _ => shCX rx rs ss po f1 f2 f3) (fun _ => 4) (0) [some 0, some 1, some 2, some 3] (⟨Nat.zero_le _, fun j h => absurd h (Nat.not_lt_zero j)⟩) ⟨rfl, rfl, rfl, rfl, rfl, by (repeat' first | exact trivial | exact rfl | exact Or.inl (And.intro rfl rfl) | exact wsucc _ (by omega) | exact wlin (by first | omega | (push_cast; omega)) (by omega) | exact wint (by omega) (by omega) | refine And.intro ?_ ?_ | refine Or.inr ?_), by (repeat' first | exact trivial | exact rfl | exact (by decide) | exact zerosI _ | exact zerosN _ | exact OfRaw.rows (by omega) | exact Or.inl (And.intro rfl rfl) | refine And.intro ?_ ?_ | refine Exists.intro _ (Exists.intro _ (And.intro rfl (And.intro (by decide) ?_))))⟩ ?_
  rintro i ⟨hi, hp⟩
  refine Rn.split zB 1000 rfl (fun hlt => ?_) (fun hlt => ?_)
  · have hlt : i < rs.length := by simpa using hlt
    obtain ⟨r, hr⟩ : ∃ r, rs[i]? = some r := ⟨rs[i], List.getElem?_eq_getElem hlt⟩
    refine Rn.ask zB 1000 rfl ⟨by first | omega | (dsimp only; omega), by first | omega | (dsimp only; omega)⟩ ?_
    refine Rn.loadR zB 1000 rfl (LoadR.elt eRt (hpre _ _ hr) (by simp)) ?_
    refine Rn.split zB 1000 rfl (fun b0 => ?_) (fun b0 => ?_)
    rotate_left
    · repeat (refine Rn.split zB 1000 rfl (fun h => by cases h) (fun _ => ?_))
      refine Rn.draw zB 1000 [0, 1, 3, 7, 15, 7, 39, 127, 255, 511, 1023, 2047, 4095, 8191, 16383, 8191, 40959, 131071, 262143, 8191, 1048575, 2097151, 4194303, 8388607] rfl (by kernel_rfl) (by kernel_rfl) ?_
      repeat (refine Rn.split zB 1000 rfl (fun _ => ?_) (fun h => by cases h))
      refine Rn.out zB 1000 rfl rfl ?_
      refine Rn.fin0 zB 1000 rfl rfl rfl rfl ?_
      refine badV fun c => ?_
      have := rightB_fine (c.r i r hr).1
      simp [fineR, b0] at this
    refine Rn.split zB 1000 rfl (fun b1 => ?_) (fun b1 => ?_)
    rotate_left
    · repeat (refine Rn.split zB 1000 rfl (fun h => by cases h) (fun _ => ?_))
      refine Rn.draw zB 1000 [0, 1, 3, 7, 15, 7, 39, 127, 255, 511, 1023, 2047, 4095, 8191, 16383, 8191, 40959, 131071, 262143, 8191, 1048575, 2097151, 4194303, 8388607] rfl (by kernel_rfl) (by kernel_rfl) ?_
      repeat (refine Rn.split zB 1000 rfl (fun _ => ?_) (fun h => by cases h))
      refine Rn.out zB 1000 rfl rfl ?_
      refine Rn.fin0 zB 1000 rfl rfl rfl rfl ?_
      refine badV fun c => ?_
      have := rightB_fine (c.r i r hr).1
      simp [fineR, b1] at this
    refine Rn.split zB 1000 rfl (fun b2 => ?_) (fun b2 => ?_)
    rotate_left
    · repeat (refine Rn.split zB 1000 rfl (fun h => by cases h) (fun _ => ?_))
      refine Rn.draw zB 1000 [0, 1, 3, 7, 15, 7, 39, 127, 255, 511, 1023, 2047, 4095, 8191, 16383, 8191, 40959, 131071, 262143, 8191, 1048575, 2097151, 4194303, 8388607] rfl (by kernel_rfl) (by kernel_rfl) ?_
      repeat (refine Rn.split zB 1000 rfl (fun _ => ?_) (fun h => by cases h))
      refine Rn.out zB 1000 rfl rfl ?_
      refine Rn.fin0 zB 1000 rfl rfl rfl rfl ?_
      refine badV fun c => ?_
      have := rightB_fine (c.r i r hr).1
      simp [fineR, b2] at this
    refine Rn.split zB 1000 rfl (fun b3 => ?_) (fun b3 => ?_)
    rotate_left
    · repeat (refine Rn.split zB 1000 rfl (fun h => by cases h) (fun _ => ?_))
      refine Rn.draw zB 1000 [0, 1, 3, 7, 15, 7, 39, 127, 255, 511, 1023, 2047, 4095, 8191, 16383, 8191, 40959, 131071, 262143, 8191, 1048575, 2097151, 4194303, 8388607] rfl (by kernel_rfl) (by kernel_rfl) ?_
      repeat (refine Rn.split zB 1000 rfl (fun _ => ?_) (fun h => by cases h))
      refine Rn.out zB 1000 rfl rfl ?_
      refine Rn.fin0 zB 1000 rfl rfl rfl rfl ?_
      refine badV fun c => ?_
      have := rightB_fine (c.r i r hr).1
      simp [fineR, b3] at this
    refine Rn.split zB 1000 rfl (fun b4 => ?_) (fun b4 => ?_)
    rotate_left
    · repeat (refine Rn.split zB 1000 rfl (fun h => by cases h) (fun _ => ?_))
      refine Rn.draw zB 1000 [0, 1, 3, 7, 15, 7, 39, 127, 255, 511, 1023, 2047, 4095, 8191, 16383, 8191, 40959, 131071, 262143, 8191, 1048575, 2097151, 4194303, 8388607] rfl (by kernel_rfl) (by kernel_rfl) ?_
      repeat (refine Rn.split zB 1000 rfl (fun _ => ?_) (fun h => by cases h))
      refine Rn.out zB 1000 rfl rfl ?_
      refine Rn.fin0 zB 1000 rfl rfl rfl rfl ?_
      refine badV fun c => ?_
      have := rightB_fine (c.r i r hr).1
      simp [fineR, b4] at this
    refine Rn.split zB 1000 rfl (fun b5 => ?_) (fun b5 => ?_)
    rotate_left
    · repeat (refine Rn.split zB 1000 rfl (fun h => by cases h) (fun _ => ?_))
      refine Rn.draw zB 1000 [0, 1, 3, 7, 15, 7, 39, 127, 255, 511, 1023, 2047, 4095, 8191, 16383, 8191, 40959, 131071, 262143, 8191, 1048575, 2097151, 4194303, 8388607] rfl (by kernel_rfl) (by kernel_rfl) ?_
      repeat (refine Rn.split zB 1000 rfl (fun _ => ?_) (fun h => by cases h))
      refine Rn.out zB 1000 rfl rfl ?_
      refine Rn.fin0 zB 1000 rfl rfl rfl rfl ?_
      refine badV fun c => ?_
      have := rightB_fine (c.r i r hr).1
      simp [fineR, b5] at this
    refine Rn.draw zB 1000 [0, 1, 3, 7, 15, 7, 39, 127, 255, 511, 1023, 2047, 4095, 8191, 16383, 8191, 40959, 131071, 262143, 8191, 1048575, 2097151, 4194303, 8388607] rfl (by kernel_rfl) (by kernel_rfl) ?_
    refine Rn.split zB 1000 rfl (fun b6 => ?_) (fun b6 => ?_)
    · repeat (refine Rn.split zB 1000 rfl (fun _ => ?_) (fun h => by cases h))
      refine Rn.out zB 1000 rfl rfl ?_
      refine Rn.fin0 zB 1000 rfl rfl rfl rfl ?_
      refine badV fun c => ?_
      have := rightB_fine (c.r i r hr).1
      unfold fineR at this
      simp only [Bool.and_eq_true] at this
      rw [this.2] at b6
      cases b6
    have b6 : isVol r.claim = true := by simpa using b6
    refine Rn.split zB 1000 rfl (fun b7 => ?_) (fun b7 => ?_)
    · repeat (refine Rn.split zB 1000 rfl (fun _ => ?_) (fun h => by cases h))
      refine Rn.out zB 1000 rfl rfl ?_
      refine Rn.fin0 zB 1000 rfl rfl rfl rfl ?_
      refine badV fun c => ?_
      have := (rightB_b (c.r i r hr).1).2.2.2
      simp at b7
      omega
    have hrb : rightB r = true := by
      unfold rightB
      simp only [b0, b1, b2, b3, b4, b5, b6, Bool.true_and, Bool.and_true, decide_eq_true_eq]
      simp at b7
      exact b7
    refine Rn.cutS [] rfl (T := Bool) (fun b => (b = true → ∃ q : Rt, 0 < i ∧ rs[i - 1]? = some q ∧ ¬ elderI q r < 0) ∧ (b = false → ∀ q : Rt, 0 < i → rs[i - 1]? = some q → elderI q r < 0)) (fun b => [(90, .one (.bool b)), (4, .one (.ptr (some (4, 0)))), (3, iA i), (29, iA i), (28, iA rs.length), (27, slA 0 0 rs.length f1 7), (1, .one (.ptr (some (3, 0))))]) (fun _ => ⟨4, true, none, .ex r.c⟩ :: shCX rx rs ss po f1 f2 f3) (fun _ => 5) ?_ ?_
    · refine Rn.split zB 1000 rfl (fun b8 => ?_) (fun b8 => ?_)
      · have h0 : 0 < i := by simp at b8; omega
        obtain ⟨q, hq⟩ : ∃ q, rs[i - 1]? = some q := ⟨rs[i - 1], List.getElem?_eq_getElem (by omega)⟩
        refine Rn.ask zB 1000 rfl ⟨by rw [wpred i h0 (by omega)]; omega, by rw [wpred i h0 (by omega)]; omega⟩ ?_
        refine Rn.loadR zB 1000 rfl (LoadR.elt eRt (hpre _ _ hq) (by rw [wpred i h0 (by omega)]; simp)) ?_
        refine Rn.cutEnd zB 1000 rfl (decide (elderI q r ≥ 0)) [some 0, some 1, some 2, some 3, some 4] (⟨fun h => ⟨q, h0, hq, by simp at h; omega⟩, fun h q' _ hq' => by rw [hq] at hq'; injection hq' with e; subst e; simp at h; exact h⟩) ⟨rfl, rfl, rfl, rfl, rfl, by (repeat' first | exact trivial | exact rfl | exact Or.inl (And.intro rfl rfl) | exact wsucc _ (by omega) | exact wlin (by first | omega | (push_cast; omega)) (by omega) | exact wint (by omega) (by omega) | refine And.intro ?_ ?_ | refine Or.inr ?_), by (repeat' first | exact trivial | exact rfl | exact (by decide) | exact zerosI _ | exact zerosN _ | exact OfRaw.rows (by omega) | exact Or.inl (And.intro rfl rfl) | refine And.intro ?_ ?_ | refine Exists.intro _ (Exists.intro _ (And.intro rfl (And.intro (by decide) ?_))))⟩
      · have h0 : i = 0 := by simp at b8; omega
        repeat (refine Rn.split zB 1000 rfl (fun h => by cases h) (fun _ => ?_))
        refine Rn.cutEnd zB 1000 rfl (false) [some 0, some 1, some 2, some 3, some 4] (⟨fun h => (by cases h), fun h q' h0' _ => (by omega)⟩) ⟨rfl, rfl, rfl, rfl, rfl, by (repeat' first | exact trivial | exact rfl | exact Or.inl (And.intro rfl rfl) | exact wsucc _ (by omega) | exact wlin (by first | omega | (push_cast; omega)) (by omega) | exact wint (by omega) (by omega) | refine And.intro ?_ ?_ | refine Or.inr ?_), by (repeat' first | exact trivial | exact rfl | exact (by decide) | exact zerosI _ | exact zerosN _ | exact OfRaw.rows (by omega) | exact Or.inl (And.intro rfl rfl) | refine And.intro ?_ ?_ | refine Exists.intro _ (Exists.intro _ (And.intro rfl (And.intro (by decide) ?_))))⟩
    rintro b ⟨hbt, hbf⟩
    refine Rn.split zB 1000 rfl (fun b9 => ?_) (fun b9 => ?_)
    · refine Rn.out zB 1000 rfl rfl ?_
      refine Rn.fin0 zB 1000 rfl rfl rfl rfl ?_
      refine badV fun c => ?_
      obtain ⟨q, h0, hq, hn⟩ := hbt b9
      exact hn ((c.pr i r hr).2.1 q h0 hq)
    have hel := hbf b9
    refine Rn.ask zB 1000 rfl ⟨by first | omega | (dsimp only; omega), by first | omega | (dsimp only; omega), by first | omega | (dsimp only; omega), by first | omega | (dsimp only; omega)⟩ ?_
    refine Rn.call0 zB 1000 rfl (c_contains rx i _ (Nat.le_of_lt (List.getElem?_eq_some_iff.mp (hpre _ _ hr)).1) (by omega) r) [some 0, some 4] rfl rfl (by (repeat' first | exact trivial | exact rfl | exact Or.inl (And.intro rfl rfl) | exact wsucc _ (by omega) | exact wlin (by first | omega | (push_cast; omega)) (by omega) | exact wint (by omega) (by omega) | refine And.intro ?_ ?_ | refine Or.inr ?_)) (by (repeat' first | exact trivial | exact rfl | exact (by decide) | exact zerosI _ | exact zerosN _ | exact OfRaw.rows (by omega) | exact Or.inl (And.intro rfl rfl) | refine And.intro ?_ ?_ | refine Exists.intro _ (Exists.intro _ (And.intro rfl (And.intro (by decide) ?_))))) rfl rfl rfl rfl rfl ?_
    refine Rn.split zB 1000 rfl (fun b10 => ?_) (fun b10 => ?_)
    · refine Rn.out zB 1000 rfl rfl ?_
      refine Rn.fin0 zB 1000 rfl rfl rfl rfl ?_
      refine badV fun c => ?_
      obtain ⟨j, q, hj, hq, hno⟩ := anyNo_t b10
      have hq2 : rs[j]? = some q := by
        have h3 := hpre j (rs[j]'(by omega)) (List.getElem?_eq_getElem _)
        rw [hq] at h3; injection h3 with h3
        rw [List.getElem?_eq_getElem (by omega), ← h3]
      exact (c.pr i r hr).2.2 j q hj hq2 hno
    refine Rn.again zB 1000 rfl (i + 1) [some 0, some 1, some 2, some 3] (by omega) (⟨hlt, fun j hj => by
      by_cases e : j = i
      · subst e
        exact fun r' hr' => by rw [hr] at hr'; injection hr' with e; subst e; exact ⟨hrb, hel, fun j q hj hq => anyNo_f b10 j q hj (hpre _ _ hq)⟩
      · exact hp j (by omega)⟩) ⟨rfl, rfl, rfl, rfl, rfl, by (repeat' first | exact trivial | exact rfl | exact Or.inl (And.intro rfl rfl) | exact wsucc _ (by omega) | exact wlin (by first | omega | (push_cast; omega)) (by omega) | exact wint (by omega) (by omega) | refine And.intro ?_ ?_ | refine Or.inr ?_), by (repeat' first | exact trivial | exact rfl | exact (by decide) | exact zerosI _ | exact zerosN _ | exact OfRaw.rows (by omega) | exact Or.inl (And.intro rfl rfl) | refine And.intro ?_ ?_ | refine Exists.intro _ (Exists.intro _ (And.intro rfl (And.intro (by decide) ?_))))⟩
  have hge : i = rs.length := by simp at hlt; omega
  subst hge
  have hR := pr_all hp
  clear hp hi hlt
  refine Rn.out zB 1000 rfl rfl ?_
  refine Rn.loop zB 1000 rfl (T := Nat) (fun i => ss.length - i) (fun i => i ≤ ss.length ∧ ∀ j, j < i → PS ss j) (fun i => [(101, iA i), (100, iA ss.length), (99, slA 1 0 ss.length f2 3), (1, .one (.ptr (some (3, 0))))]) (fun _ => shCX rx rs ss po f1 f2 f3) (fun _ => 4) (0) [some 0, some 1, some 2, some 3] (⟨Nat.zero_le _, fun j h => absurd h (Nat.not_lt_zero j)⟩) ⟨rfl, rfl, rfl, rfl, rfl, by (repeat' first | exact trivial | exact rfl | exact Or.inl (And.intro rfl rfl) | exact wsucc _ (by omega) | exact wlin (by first | omega | (push_cast; omega)) (by omega) | exact wint (by omega) (by omega) | refine And.intro ?_ ?_ | refine Or.inr ?_), by (repeat' first | exact trivial | exact rfl | exact (by decide) | exact zerosI _ | exact zerosN _ | exact OfRaw.rows (by omega) | exact Or.inl (And.intro rfl rfl) | refine And.intro ?_ ?_ | refine Exists.intro _ (Exists.intro _ (And.intro rfl (And.intro (by decide) ?_))))⟩ ?_
  rintro i ⟨hi, hp⟩
  refine Rn.split zB 1000 rfl (fun hlt => ?_) (fun hlt => ?_)
  · have hlt : i < ss.length := by simpa using hlt
    obtain ⟨x, hx⟩ : ∃ r, ss[i]? = some r := ⟨ss[i], List.getElem?_eq_getElem hlt⟩
    refine Rn.ask zB 1000 rfl ⟨by first | omega | (dsimp only; omega), by first | omega | (dsimp only; omega)⟩ ?_
    refine Rn.loadR zB 1000 rfl (LoadR.elt eSu hx (by simp)) ?_
    refine Rn.split zB 1000 rfl (fun b0 => ?_) (fun b0 => ?_)
    · repeat (refine Rn.split zB 1000 rfl (fun _ => ?_) (fun h => by cases h))
      refine Rn.out zB 1000 rfl rfl ?_
      refine Rn.fin0 zB 1000 rfl rfl rfl rfl ?_
      refine badV fun c => ?_
      have := suB_fine (c.s i x hx).1
      rw [this.1] at b0
      cases b0
    refine Rn.split zB 1000 rfl (fun b1 => ?_) (fun b1 => ?_)
    · repeat (refine Rn.split zB 1000 rfl (fun _ => ?_) (fun h => by cases h))
      refine Rn.out zB 1000 rfl rfl ?_
      refine Rn.fin0 zB 1000 rfl rfl rfl rfl ?_
      refine badV fun c => ?_
      have := suB_fine (c.s i x hx).1
      rw [this.2.1] at b1
      cases b1
    refine Rn.split zB 1000 rfl (fun b2 => ?_) (fun b2 => ?_)
    · refine Rn.out zB 1000 rfl rfl ?_
      refine Rn.fin0 zB 1000 rfl rfl rfl rfl ?_
      refine badV fun c => ?_
      have := suB_fine (c.s i x hx).1
      rw [this.2.2] at b2
      cases b2
    refine Rn.draw zB 1000 [0, 1, 3, 7, 15, 7, 39, 127, 255, 511, 7, 1031, 4095, 8191, 16383, 32767, 16383, 131071, 262143, 524287, 1048575, 524287, 2621439, 8388607, 16777215, 33554431, 524287, 67633151, 268435455, 536870911, 1073741823, 2147483647] rfl (by kernel_rfl) (by kernel_rfl) ?_
    refine Rn.cutS [] rfl (T := Bool) (fun b => (b = true → ¬ ∀ q : Su, 0 < i → ss[i - 1]? = some q → q.valley < x.valley ∨ (q.valley = x.valley ∧ q.day < x.day)) ∧ (b = false → ∀ q : Su, 0 < i → ss[i - 1]? = some q → q.valley < x.valley ∨ (q.valley = x.valley ∧ q.day < x.day))) (fun b => [(153, .one (.bool b)), (101, iA i), (100, iA ss.length), (99, slA 1 0 ss.length f2 3), (1, .one (.ptr (some (3, 0))))]) (fun _ => shCX rx rs ss po f1 f2 f3) (fun _ => 4) ?_ ?_
    · refine Rn.split zB 1000 rfl (fun b8 => ?_) (fun b8 => ?_)
      · have h0 : 0 < i := by simp at b8; omega
        obtain ⟨q, hq⟩ : ∃ q, ss[i - 1]? = some q := ⟨ss[i - 1], List.getElem?_eq_getElem (by omega)⟩
        have hfl : fol ss i = (q.valley == x.valley) := fol_pos h0 hq hx
        refine Rn.ask zB 1000 rfl ⟨by rw [wpred i h0 (by omega)]; omega, by rw [wpred i h0 (by omega)]; omega⟩ ?_
        refine Rn.loadR zB 1000 rfl (LoadR.fld eSu (f := 0) (v := .int .i64 q.valley) hq (by rw [wpred i h0 (by omega)]; simp) rfl rfl) ?_
        refine Rn.split zB 1000 rfl (fun c1 => ?_) (fun c1 => ?_)
        · have c1 : x.valley < q.valley := by simp at c1; omega
          refine Rn.cutEnd zB 1000 rfl (true) [some 0, some 1, some 2, some 3] (⟨fun _ c => (by have := c q h0 hq; omega), fun h => (by cases h)⟩) ⟨rfl, rfl, rfl, rfl, rfl, by (repeat' first | exact trivial | exact rfl | exact Or.inl (And.intro rfl rfl) | exact wsucc _ (by omega) | exact wlin (by first | omega | (push_cast; omega)) (by omega) | exact wint (by omega) (by omega) | refine And.intro ?_ ?_ | refine Or.inr ?_), by (repeat' first | exact trivial | exact rfl | exact (by decide) | exact zerosI _ | exact zerosN _ | exact OfRaw.rows (by omega) | exact Or.inl (And.intro rfl rfl) | refine And.intro ?_ ?_ | refine Exists.intro _ (Exists.intro _ (And.intro rfl (And.intro (by decide) ?_))))⟩
        have c1 : q.valley ≤ x.valley := by simp at c1; omega
        refine Rn.call0d zB 1000 rfl (c_follows ss f2 i hlt h2) [some 1] rfl rfl rfl (by (repeat' first | exact trivial | exact rfl | exact Or.inl (And.intro rfl rfl) | exact wsucc _ (by omega) | exact wlin (by first | omega | (push_cast; omega)) (by omega) | exact wint (by omega) (by omega) | refine And.intro ?_ ?_ | refine Or.inr ?_)) (by (repeat' first | exact trivial | exact rfl | exact (by decide) | exact zerosI _ | exact zerosN _ | exact OfRaw.rows (by omega) | exact Or.inl (And.intro rfl rfl) | refine And.intro ?_ ?_ | refine Exists.intro _ (Exists.intro _ (And.intro rfl (And.intro (by decide) ?_))))) rfl rfl rfl rfl ?_
        refine Rn.split zB 1000 rfl (fun c2 => ?_) (fun c2 => ?_)
        · have c2 : q.valley = x.valley := by rw [hfl] at c2; simpa using c2
          refine Rn.ask zB 1000 rfl ⟨by rw [wpred i h0 (by omega)]; omega, by rw [wpred i h0 (by omega)]; omega⟩ ?_
          refine Rn.loadR zB 1000 rfl (LoadR.fld eSu (f := 1) (v := .int .i64 q.day) hq (by rw [wpred i h0 (by omega)]; simp) rfl rfl) ?_
          refine Rn.cutEnd zB 1000 rfl (decide (q.day ≥ x.day)) [some 0, some 1, some 2, some 3] (⟨fun h c => (by have := c q h0 hq; simp at h; omega), fun h q' _ hq' => (by rw [hq] at hq'; injection hq' with e; subst e; simp at h; exact .inr ⟨c2, h⟩)⟩) ⟨rfl, rfl, rfl, rfl, rfl, by (repeat' first | exact trivial | exact rfl | exact Or.inl (And.intro rfl rfl) | exact wsucc _ (by omega) | exact wlin (by first | omega | (push_cast; omega)) (by omega) | exact wint (by omega) (by omega) | refine And.intro ?_ ?_ | refine Or.inr ?_), by (repeat' first | exact trivial | exact rfl | exact (by decide) | exact zerosI _ | exact zerosN _ | exact OfRaw.rows (by omega) | exact Or.inl (And.intro rfl rfl) | refine And.intro ?_ ?_ | refine Exists.intro _ (Exists.intro _ (And.intro rfl (And.intro (by decide) ?_))))⟩
        · have c2 : q.valley ≠ x.valley := by rw [hfl] at c2; simpa using c2
          refine Rn.cutEnd zB 1000 rfl (false) [some 0, some 1, some 2, some 3] (⟨fun h => (by cases h), fun h q' _ hq' => (by rw [hq] at hq'; injection hq' with e; subst e; exact .inl (by omega))⟩) ⟨rfl, rfl, rfl, rfl, rfl, by (repeat' first | exact trivial | exact rfl | exact Or.inl (And.intro rfl rfl) | exact wsucc _ (by omega) | exact wlin (by first | omega | (push_cast; omega)) (by omega) | exact wint (by omega) (by omega) | refine And.intro ?_ ?_ | refine Or.inr ?_), by (repeat' first | exact trivial | exact rfl | exact (by decide) | exact zerosI _ | exact zerosN _ | exact OfRaw.rows (by omega) | exact Or.inl (And.intro rfl rfl) | refine And.intro ?_ ?_ | refine Exists.intro _ (Exists.intro _ (And.intro rfl (And.intro (by decide) ?_))))⟩
      · have h0 : i = 0 := by simp at b8; omega
        repeat (refine Rn.split zB 1000 rfl (fun h => by cases h) (fun _ => ?_))
        refine Rn.cutEnd zB 1000 rfl (false) [some 0, some 1, some 2, some 3] (⟨fun h => (by cases h), fun h q' h0' _ => (by omega)⟩) ⟨rfl, rfl, rfl, rfl, rfl, by (repeat' first | exact trivial | exact rfl | exact Or.inl (And.intro rfl rfl) | exact wsucc _ (by omega) | exact wlin (by first | omega | (push_cast; omega)) (by omega) | exact wint (by omega) (by omega) | refine And.intro ?_ ?_ | refine Or.inr ?_), by (repeat' first | exact trivial | exact rfl | exact (by decide) | exact zerosI _ | exact zerosN _ | exact OfRaw.rows (by omega) | exact Or.inl (And.intro rfl rfl) | refine And.intro ?_ ?_ | refine Exists.intro _ (Exists.intro _ (And.intro rfl (And.intro (by decide) ?_))))⟩
    rintro b ⟨hbt, hbf⟩
    refine Rn.split zB 1000 rfl (fun b9 => ?_) (fun b9 => ?_)
    · refine Rn.out zB 1000 rfl rfl ?_
      refine Rn.fin0 zB 1000 rfl rfl rfl rfl ?_
      exact badV fun c => hbt b9 (c.s i x hx).2
    refine Rn.again zB 1000 rfl (i + 1) [some 0, some 1, some 2, some 3] (by omega) (⟨hlt, fun j hj => by
      by_cases e : j = i
      · subst e
        exact fun r' hr' => by rw [hx] at hr'; injection hr' with e; subst e; exact ⟨by unfold suB; simp at b0 b1 b2; simp [b0, b1, b2], hbf b9⟩
      · exact hp j (by omega)⟩) ⟨rfl, rfl, rfl, rfl, rfl, by (repeat' first | exact trivial | exact rfl | exact Or.inl (And.intro rfl rfl) | exact wsucc _ (by omega) | exact wlin (by first | omega | (push_cast; omega)) (by omega) | exact wint (by omega) (by omega) | refine And.intro ?_ ?_ | refine Or.inr ?_), by (repeat' first | exact trivial | exact rfl | exact (by decide) | exact zerosI _ | exact zerosN _ | exact OfRaw.rows (by omega) | exact Or.inl (And.intro rfl rfl) | refine And.intro ?_ ?_ | refine Exists.intro _ (Exists.intro _ (And.intro rfl (And.intro (by decide) ?_))))⟩
  have hge : i = ss.length := by simp at hlt; omega
  subst hge
  have hS := hp
  clear hp hi hlt
  refine Rn.out zB 1000 rfl rfl ?_
  refine Rn.loop zB 1000 rfl (T := Nat) (fun i => po.length - i) (fun i => i ≤ po.length ∧ ∀ j, j < i → PP po j) (fun i => [(158, iA i), (157, iA po.length), (156, slA 2 0 po.length f3 2), (1, .one (.ptr (some (3, 0))))]) (fun _ => shCX rx rs ss po f1 f2 f3) (fun _ => 4) (0) [some 0, some 1, some 2, some 3] (⟨Nat.zero_le _, fun j h => absurd h (Nat.not_lt_zero j)⟩) ⟨rfl, rfl, rfl, rfl, rfl, by (repeat' first | exact trivial | exact rfl | exact Or.inl (And.intro rfl rfl) | exact wsucc _ (by omega) | exact wlin (by first | omega | (push_cast; omega)) (by omega) | exact wint (by omega) (by omega) | refine And.intro ?_ ?_ | refine Or.inr ?_), by (repeat' first | exact trivial | exact rfl | exact (by decide) | exact zerosI _ | exact zerosN _ | exact OfRaw.rows (by omega) | exact Or.inl (And.intro rfl rfl) | refine And.intro ?_ ?_ | refine Exists.intro _ (Exists.intro _ (And.intro rfl (And.intro (by decide) ?_))))⟩ ?_
  rintro i ⟨hi, hp⟩
  refine Rn.split zB 1000 rfl (fun hlt => ?_) (fun hlt => ?_)
  · have hlt : i < po.length := by simpa using hlt
    obtain ⟨x, hx⟩ : ∃ r, po[i]? = some r := ⟨po[i], List.getElem?_eq_getElem hlt⟩
    refine Rn.ask zB 1000 rfl ⟨by first | omega | (dsimp only; omega), by first | omega | (dsimp only; omega)⟩ ?_
    refine Rn.loadR zB 1000 rfl (LoadR.elt ePo hx (by simp)) ?_
    refine Rn.draw zB 1000 [0, 1, 3, 7, 15, 31, 63, 127, 255, 511, 1023, 2047, 4095, 8191, 16383, 32767, 16383, 81919, 262143, 524287, 1048575, 16383, 2113535, 8388607, 16777215, 33554431] rfl (by kernel_rfl) (by kernel_rfl) ?_
    refine Rn.cutS [] rfl (T := Bool) (fun b => (b = true → ¬ PP po i) ∧ (b = false → PP po i)) (fun b => [(188, .one (.bool b)), (158, iA i), (157, iA po.length), (156, slA 2 0 po.length f3 2), (1, .one (.ptr (some (3, 0))))]) (fun _ => shCX rx rs ss po f1 f2 f3) (fun _ => 4) ?_ ?_
    · refine Rn.split zB 1000 rfl (fun b0 => ?_) (fun b0 => ?_)
      · repeat (refine Rn.split zB 1000 rfl (fun _ => ?_) (fun h => by cases h))
        refine Rn.cutEnd zB 1000 rfl (true) [some 0, some 1, some 2, some 3] (⟨fun _ c => (by have := poB_fine (c x hx).1; rw [this.1] at b0; cases b0), fun h => (by cases h)⟩) ⟨rfl, rfl, rfl, rfl, rfl, by (repeat' first | exact trivial | exact rfl | exact Or.inl (And.intro rfl rfl) | exact wsucc _ (by omega) | exact wlin (by first | omega | (push_cast; omega)) (by omega) | exact wint (by omega) (by omega) | refine And.intro ?_ ?_ | refine Or.inr ?_), by (repeat' first | exact trivial | exact rfl | exact (by decide) | exact zerosI _ | exact zerosN _ | exact OfRaw.rows (by omega) | exact Or.inl (And.intro rfl rfl) | refine And.intro ?_ ?_ | refine Exists.intro _ (Exists.intro _ (And.intro rfl (And.intro (by decide) ?_))))⟩
      have b0 : isNum x.valley = true := by simpa using b0
      refine Rn.split zB 1000 rfl (fun b1 => ?_) (fun b1 => ?_)
      · repeat (refine Rn.split zB 1000 rfl (fun _ => ?_) (fun h => by cases h))
        refine Rn.cutEnd zB 1000 rfl (true) [some 0, some 1, some 2, some 3] (⟨fun _ c => (by have := poB_fine (c x hx).1; rw [this.2] at b1; cases b1), fun h => (by cases h)⟩) ⟨rfl, rfl, rfl, rfl, rfl, by (repeat' first | exact trivial | exact rfl | exact Or.inl (And.intro rfl rfl) | exact wsucc _ (by omega) | exact wlin (by first | omega | (push_cast; omega)) (by omega) | exact wint (by omega) (by omega) | refine And.intro ?_ ?_ | refine Or.inr ?_), by (repeat' first | exact trivial | exact rfl | exact (by decide) | exact zerosI _ | exact zerosN _ | exact OfRaw.rows (by omega) | exact Or.inl (And.intro rfl rfl) | refine And.intro ?_ ?_ | refine Exists.intro _ (Exists.intro _ (And.intro rfl (And.intro (by decide) ?_))))⟩
      have b1 : isVol x.room = true := by simpa using b1
      have hb : poB x = true := by unfold poB; rw [b0, b1]; rfl
      refine Rn.split zB 1000 rfl (fun b8 => ?_) (fun b8 => ?_)
      · have h0 : 0 < i := by simp at b8; omega
        obtain ⟨q, hq⟩ : ∃ q, po[i - 1]? = some q := ⟨po[i - 1], List.getElem?_eq_getElem (by omega)⟩
        refine Rn.ask zB 1000 rfl ⟨by rw [wpred i h0 (by omega)]; omega, by rw [wpred i h0 (by omega)]; omega⟩ ?_
        refine Rn.loadR zB 1000 rfl (LoadR.fld ePo (f := 0) (v := .int .i64 q.valley) hq (by rw [wpred i h0 (by omega)]; simp) rfl rfl) ?_
        refine Rn.cutEnd zB 1000 rfl (decide (q.valley ≥ x.valley)) [some 0, some 1, some 2, some 3] (⟨fun h c => (by have := (c x hx).2 q h0 hq; simp at h; omega), fun h y hy => (by rw [hx] at hy; injection hy with e; subst e; exact ⟨hb, fun q' _ hq' => (by rw [hq] at hq'; injection hq' with e; subst e; simp at h; exact h)⟩)⟩) ⟨rfl, rfl, rfl, rfl, rfl, by (repeat' first | exact trivial | exact rfl | exact Or.inl (And.intro rfl rfl) | exact wsucc _ (by omega) | exact wlin (by first | omega | (push_cast; omega)) (by omega) | exact wint (by omega) (by omega) | refine And.intro ?_ ?_ | refine Or.inr ?_), by (repeat' first | exact trivial | exact rfl | exact (by decide) | exact zerosI _ | exact zerosN _ | exact OfRaw.rows (by omega) | exact Or.inl (And.intro rfl rfl) | refine And.intro ?_ ?_ | refine Exists.intro _ (Exists.intro _ (And.intro rfl (And.intro (by decide) ?_))))⟩
      · have h0 : i = 0 := by simp at b8; omega
        repeat (refine Rn.split zB 1000 rfl (fun h => by cases h) (fun _ => ?_))
        refine Rn.cutEnd zB 1000 rfl (false) [some 0, some 1, some 2, some 3] (⟨fun h => (by cases h), fun h y hy => (by rw [hx] at hy; injection hy with e; subst e; exact ⟨hb, fun q' h0' _ => (by omega)⟩)⟩) ⟨rfl, rfl, rfl, rfl, rfl, by (repeat' first | exact trivial | exact rfl | exact Or.inl (And.intro rfl rfl) | exact wsucc _ (by omega) | exact wlin (by first | omega | (push_cast; omega)) (by omega) | exact wint (by omega) (by omega) | refine And.intro ?_ ?_ | refine Or.inr ?_), by (repeat' first | exact trivial | exact rfl | exact (by decide) | exact zerosI _ | exact zerosN _ | exact OfRaw.rows (by omega) | exact Or.inl (And.intro rfl rfl) | refine And.intro ?_ ?_ | refine Exists.intro _ (Exists.intro _ (And.intro rfl (And.intro (by decide) ?_))))⟩
    rintro b ⟨hbt, hbf⟩
    refine Rn.split zB 1000 rfl (fun b9 => ?_) (fun b9 => ?_)
    · refine Rn.out zB 1000 rfl rfl ?_
      refine Rn.fin0 zB 1000 rfl rfl rfl rfl ?_
      exact badV fun c => hbt b9 (c.p i)
    refine Rn.again zB 1000 rfl (i + 1) [some 0, some 1, some 2, some 3] (by omega) (⟨hlt, fun j hj => by
      by_cases e : j = i
      · subst e
        exact hbf b9
      · exact hp j (by omega)⟩) ⟨rfl, rfl, rfl, rfl, rfl, by (repeat' first | exact trivial | exact rfl | exact Or.inl (And.intro rfl rfl) | exact wsucc _ (by omega) | exact wlin (by first | omega | (push_cast; omega)) (by omega) | exact wint (by omega) (by omega) | refine And.intro ?_ ?_ | refine Or.inr ?_), by (repeat' first | exact trivial | exact rfl | exact (by decide) | exact zerosI _ | exact zerosN _ | exact OfRaw.rows (by omega) | exact Or.inl (And.intro rfl rfl) | refine And.intro ?_ ?_ | refine Exists.intro _ (Exists.intro _ (And.intro rfl (And.intro (by decide) ?_))))⟩
  have hge : i = po.length := by simp at hlt; omega
  subst hge
  refine Rn.out zB 1000 rfl rfl ?_
  refine Rn.fin0 zB 1000 rfl rfl rfl rfl ?_
  rw [shErr_ok ⟨e0, e1, e2, hR, fun i x hx => hS i (List.getElem?_eq_some_iff.mp hx).1 x hx, fun i x hx => hp i (List.getElem?_eq_some_iff.mp hx).1 x hx⟩]
theorem c_checkShare (rs : List Rt) (ss : List Su) (po : List Po) (f1 f2 f3 : Bool) (h1 : rs.length < 90000000000) (h2 : ss.length < 90000000000) (h3 : po.length < 90000000000) : Ct0 envB 44 [shA rs.length ss.length po.length f1 f2 f3] (shB rs ss po) 3 (.one (.int .i64 (shErr rs ss po))) := c_checkShareX rs rs (fun _ _ h => h) ss po f1 f2 f3 h1 h2 h3
end Go.AM
