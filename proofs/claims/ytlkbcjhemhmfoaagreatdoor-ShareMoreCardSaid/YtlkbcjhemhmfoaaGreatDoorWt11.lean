/- Walks: the statement ShareMore. -/
import Derived.Test.YtlkbcjhemhmfoaaGreatDoorWl3
set_option linter.unusedSimpArgs false
set_option linter.unusedVariables false
namespace Go.AM
open Go Go.Proofs
open Snow (IsMax)
set_option maxRecDepth 10000
set_option maxHeartbeats 1000000

theorem minW_b {v n : Int} (h0 : 0 ≤ v) (h1 : v ≤ 1099511627776) (hn : 0 ≤ n) : v ≤ minW (v + n) ∧ 0 ≤ minW (v + n) ∧ minW (v + n) ≤ 1099511627776 := by
  unfold minW
  split <;> omega
theorem c_shareMore (rs : List Rt) (ss : List Su) (po : List Po) (vs : List Int) (at_ n : Int) (b : Bool) (f1 f2 f3 f4 : Bool) : Ct0 envB 11 [shA rs.length ss.length po.length f1 f2 f3, slA 3 0 vs.length f4 1, iA at_, iA n, .one (.bool b)] (shV rs ss po vs) 4 (.one (.bool true)) := by
  refine Ct.of zB (fn := Tryz.f11) (by kernel_rfl) (by kernel_rfl) rfl rfl ?_
  refine Rn.split zB 1000 rfl (fun h => ?_) (fun h => ?_)
  · cases h
  refine Rn.call0 zB 1000 rfl (c_small rs ss po f1 f2 f3) [some 0, some 1, some 2] rfl rfl (by (repeat' first | exact trivial | exact rfl | exact Or.inl (And.intro rfl rfl) | exact wsucc _ (by omega) | exact wlin (by first | omega | (push_cast; omega)) (by omega) | exact wint (by omega) (by omega) | refine And.intro ?_ ?_ | refine Or.inr ?_)) (by (repeat' first | exact trivial | exact rfl | exact (by decide) | exact zerosI _ | exact zerosN _ | exact OfRaw.rows (by omega) | exact Or.inl (And.intro rfl rfl) | refine And.intro ?_ ?_ | refine Exists.intro _ (Exists.intro _ (And.intro rfl (And.intro (by decide) ?_))))) rfl rfl rfl rfl rfl ?_
  refine Rn.split zB 1000 rfl (fun hs => ?_) (fun hs => ?_)
  · exact Rn.fin0 zB 1000 rfl rfl rfl rfl rfl
  obtain ⟨l1, l2, l3, hok⟩ := smB_t (by simpa using hs)
  have B := hok.b
  cases hr : richB ss.length po.length at_ n b with
  | false =>
    refine Rn.call zB 1000 rfl (c_richBad rs ss po f1 f2 f3 b at_ n hr) [some 0, some 1, some 2] rfl (by (repeat' first | exact trivial | exact rfl | exact Or.inl (And.intro rfl rfl) | exact wsucc _ (by omega) | exact wlin (by first | omega | (push_cast; omega)) (by omega) | exact wint (by omega) (by omega) | refine And.intro ?_ ?_ | refine Or.inr ?_)) (by (repeat' first | exact trivial | exact rfl | exact (by decide) | exact zerosI _ | exact zerosN _ | exact OfRaw.rows (by omega) | exact Or.inl (And.intro rfl rfl) | refine And.intro ?_ ?_ | refine Exists.intro _ (Exists.intro _ (And.intro rfl (And.intro (by decide) ?_))))) rfl rfl rfl (fun _ => ⟨_, _, rfl, ?_⟩)
    repeat (refine Rn.split zB 1000 rfl (fun _ => ?_) (fun h => by cases h))
    exact Rn.fin0 zB 1000 rfl rfl rfl rfl rfl
  | true =>
  obtain ⟨hn0, hn1, ha0, ha1⟩ := of_decide_eq_true hr
  obtain ⟨k, rfl⟩ : ∃ k : Nat, at_ = k := ⟨at_.toNat, by omega⟩
  cases b with
  | false =>
    have ha1 : k < ss.length := by simpa using ha1
    obtain ⟨x, hx⟩ : ∃ x, ss[k]? = some x := ⟨ss[k], List.getElem?_eq_getElem ha1⟩
    have hv := B.vol x (List.mem_of_getElem? hx)
    have hv1 : x.vol ≤ 1099511627776 := (isVol_b (suB_fine (hok.s k x hx).1).2.2).2
    obtain ⟨m1, m2, m3⟩ := minW_b hv.1 hv1 hn0
    have hok2 := shareOK_vol hok hx m2 m3
    obtain ⟨R, hroom⟩ := richer_vol (rs := rs) (po := po) hx m1
    have hl2 : (ss.set k (setVol x (minW (x.vol + n)))).length = ss.length := List.length_set
    have V' : ∀ l : List Int, enL rs (ss.set k (setVol x (minW (x.vol + n)))) po l = (if wErr rs ss po l = 0 then enB rs (ss.set k (setVol x (minW (x.vol + n)))) po l else false) := fun l => by
      unfold enL
      rw [show wErr rs (ss.set k (setVol x (minW (x.vol + n)))) po l = wErr rs ss po l from by unfold wErr; rw [if_pos hok2, if_pos hok]]
    have hwe : ∀ l : List Int, wErr rs (ss.set k (setVol x (minW (x.vol + n)))) po l = wErr rs ss po l := fun l => by unfold wErr; rw [if_pos hok2, if_pos hok]
    refine Rn.call zB 1000 rfl (c_richS rs ss po f1 f2 f3 k n hn0 hn1 (by omega) x hx hv.1 hv1) [some 0, some 1, some 2] rfl (by (repeat' first | exact trivial | exact rfl | exact Or.inl (And.intro rfl rfl) | exact wsucc _ (by omega) | exact wlin (by first | omega | (push_cast; omega)) (by omega) | exact wint (by omega) (by omega) | refine And.intro ?_ ?_ | refine Or.inr ?_)) (by (repeat' first | exact trivial | exact rfl | exact (by decide) | exact zerosI _ | exact zerosN _ | exact OfRaw.rows (by omega) | exact Or.inl (And.intro rfl rfl) | refine And.intro ?_ ?_ | refine Exists.intro _ (Exists.intro _ (And.intro rfl (And.intro (by decide) ?_))))) rfl rfl rfl (fun _ => ⟨_, _, rfl, ?_⟩)
    repeat (refine Rn.split zB 1000 rfl (fun h => by cases h) (fun _ => ?_))
    refine Rn.call zB 1000 rfl (c_promiseOK rs ss po f1 f2 f3 hok) [some 0, some 1, some 2] rfl (by (repeat' first | exact trivial | exact rfl | exact Or.inl (And.intro rfl rfl) | exact wsucc _ (by omega) | exact wlin (by first | omega | (push_cast; omega)) (by omega) | exact wint (by omega) (by omega) | refine And.intro ?_ ?_ | refine Or.inr ?_)) (by (repeat' first | exact trivial | exact rfl | exact (by decide) | exact zerosI _ | exact zerosN _ | exact OfRaw.rows (by omega) | exact Or.inl (And.intro rfl rfl) | refine And.intro ?_ ?_ | refine Exists.intro _ (Exists.intro _ (And.intro rfl (And.intro (by decide) ?_))))) rfl rfl rfl ?_
    rintro ⟨p, hp⟩
    refine ⟨_, _, rfl, ?_⟩
    have c2 := c_promiseOK rs ((ss.set k (setVol x (minW (x.vol + n))))) (po) f1 (Nat.beq ss.length 0) f3 hok2
    rw [hl2] at c2
    refine Rn.call zB 1000 rfl (c2) [some 0, some 5, some 2] rfl (by (repeat' first | exact trivial | exact rfl | exact Or.inl (And.intro rfl rfl) | exact wsucc _ (by omega) | exact wlin (by first | omega | (push_cast; omega)) (by omega) | exact wint (by omega) (by omega) | refine And.intro ?_ ?_ | refine Or.inr ?_)) (by (repeat' first | exact trivial | exact rfl | exact (by decide) | exact zerosI _ | exact zerosN _ | exact OfRaw.rows (by omega) | exact Or.inl (And.intro rfl rfl) | refine And.intro ?_ ?_ | refine Exists.intro _ (Exists.intro _ (And.intro rfl (And.intro (by decide) ?_))))) rfl rfl rfl ?_
    rintro ⟨q, hq⟩
    refine ⟨_, _, rfl, ?_⟩
    have pl := hp.len
    have ql := hq.len
    repeat (refine Rn.split zB 1000 rfl (fun h => by cases h) (fun _ => ?_))
    refine Rn.split zB 1000 rfl (fun k1 => ?_) (fun k1 => ?_)
    · simp at k1
    refine Rn.split zB 1000 rfl (fun k2 => ?_) (fun k2 => ?_)
    · simp at k2
    refine Rn.loop zB 1000 rfl (T := Nat) (fun i => rs.length - i) (fun i => i ≤ rs.length) (fun i => [(68, iA i), (67, iA rs.length), (15, slA 8 0 rs.length true 1), (13, slA 7 0 rs.length true 1), (11, .one (.ptr (some (6, 0)))), (5, .one (.ptr (some (4, 0)))), (4, .one (.bool false)), (1, slA 3 0 vs.length f4 1)]) (fun i => [⟨8, true, none, .raw (arr iC q)⟩, ⟨7, true, none, .raw (arr iC p)⟩, ⟨6, true, none, .ex [.sl (some (0, 0)) rs.length f1 7, .sl (some (5, 0)) ss.length (Nat.beq ss.length 0) 3, .sl (some (2, 0)) po.length f3 2]⟩, ⟨4, true, none, .ex [.sl (some (0, 0)) rs.length f1 7, .sl (some (1, 0)) ss.length f2 3, .sl (some (2, 0)) po.length f3 2]⟩, ⟨5, true, none, .raw (arr Su.c ((ss.set k (setVol x (minW (x.vol + n))))))⟩] ++ shV rs ss po vs) (fun _ => 9) (0) [some 0, some 1, some 2, some 3, some 4, some 5, some 6, some 7, some 8] (Nat.zero_le _) ⟨rfl, rfl, rfl, rfl, rfl, by (repeat' first | exact trivial | exact rfl | exact Or.inl (And.intro rfl rfl) | exact wsucc _ (by omega) | exact wlin (by first | omega | (push_cast; omega)) (by omega) | exact wint (by omega) (by omega) | refine And.intro ?_ ?_ | refine Or.inr ?_), by (repeat' first | exact trivial | exact rfl | exact (by decide) | exact zerosI _ | exact zerosN _ | exact OfRaw.rows (by omega) | exact Or.inl (And.intro rfl rfl) | refine And.intro ?_ ?_ | refine Exists.intro _ (Exists.intro _ (And.intro rfl (And.intro (by decide) ?_))))⟩ ?_
    rintro i hi
    refine Rn.split zB 1000 rfl (fun hlt => ?_) (fun hlt => ?_)
    · have hlt : i < rs.length := by simpa using hlt
      obtain ⟨x, hx⟩ : ∃ x, p[i]? = some x := ⟨p[i]'(by omega), List.getElem?_eq_getElem _⟩
      obtain ⟨y, hy⟩ : ∃ y, q[i]? = some y := ⟨q[i]'(by omega), List.getElem?_eq_getElem _⟩
      have hpx : p.getD i 0 = x := by rw [List.getD_eq_getElem?_getD, hx]; rfl
      have hqy : q.getD i 0 = y := by rw [List.getD_eq_getElem?_getD, hy]; rfl
      refine Rn.draw zB 1000 [0, 0, 3, 7, 0, 0, 48, 112, 255, 511, 1023, 2047, 4095, 8191, 16383, 32767, 65535] rfl (by kernel_rfl) (by kernel_rfl) ?_
      refine Rn.ask zB 1000 rfl ⟨by omega, by omega⟩ ?_
      refine Rn.loadR zB 1000 rfl (LoadR.fld eI (f := 0) (v := .int .i64 y) hy (by simp) rfl rfl) ?_
      refine Rn.ask zB 1000 rfl ⟨by omega, by omega⟩ ?_
      refine Rn.loadR zB 1000 rfl (LoadR.fld eI (f := 0) (v := .int .i64 x) hx (by simp) rfl rfl) ?_
      have hle := promised_more B R hroom hp hq i hlt
      refine Rn.split zB 1000 rfl (fun d2 => ?_) (fun d2 => ?_)
      · simp at d2; omega
      repeat (refine Rn.split zB 1000 rfl (fun h => by cases h) (fun _ => ?_))
      refine Rn.again zB 1000 rfl (i + 1) [some 0, some 1, some 2, some 3, some 4, some 5, some 6, some 7, some 8] (by omega) (hlt) ⟨rfl, rfl, rfl, rfl, rfl, by (repeat' first | exact trivial | exact rfl | exact Or.inl (And.intro rfl rfl) | exact wsucc _ (by omega) | exact wlin (by first | omega | (push_cast; omega)) (by omega) | exact wint (by omega) (by omega) | refine And.intro ?_ ?_ | refine Or.inr ?_), by (repeat' first | exact trivial | exact rfl | exact (by decide) | exact zerosI _ | exact zerosN _ | exact OfRaw.rows (by omega) | exact Or.inl (And.intro rfl rfl) | refine And.intro ?_ ?_ | refine Exists.intro _ (Exists.intro _ (And.intro rfl (And.intro (by decide) ?_))))⟩
    refine Rn.out zB 1000 rfl rfl ?_
    have ct := c_total q true (by omega)
    rw [ql] at ct
    refine Rn.call0 zB 1000 rfl (ct) [some 8] rfl rfl (by (repeat' first | exact trivial | exact rfl | exact Or.inl (And.intro rfl rfl) | exact wsucc _ (by omega) | exact wlin (by first | omega | (push_cast; omega)) (by omega) | exact wint (by omega) (by omega) | refine And.intro ?_ ?_ | refine Or.inr ?_)) (by (repeat' first | exact trivial | exact rfl | exact (by decide) | exact zerosI _ | exact zerosN _ | exact OfRaw.rows (by omega) | exact Or.inl (And.intro rfl rfl) | refine And.intro ?_ ?_ | refine Exists.intro _ (Exists.intro _ (And.intro rfl (And.intro (by decide) ?_))))) rfl rfl rfl rfl rfl ?_
    have ct := c_total p true (by omega)
    rw [pl] at ct
    refine Rn.call0 zB 1000 rfl (ct) [some 7] rfl rfl (by (repeat' first | exact trivial | exact rfl | exact Or.inl (And.intro rfl rfl) | exact wsucc _ (by omega) | exact wlin (by first | omega | (push_cast; omega)) (by omega) | exact wint (by omega) (by omega) | refine And.intro ?_ ?_ | refine Or.inr ?_)) (by (repeat' first | exact trivial | exact rfl | exact (by decide) | exact zerosI _ | exact zerosN _ | exact OfRaw.rows (by omega) | exact Or.inl (And.intro rfl rfl) | refine And.intro ?_ ?_ | refine Exists.intro _ (Exists.intro _ (And.intro rfl (And.intro (by decide) ?_))))) rfl rfl rfl rfl rfl ?_
    have htot := promised_total B hok2.b R hp hq
    refine Rn.split zB 1000 rfl (fun k3 => ?_) (fun k3 => ?_)
    · simp at k3; omega
    refine Rn.call zB 1000 rfl (c_enoughM rs ss po vs f1 f2 f3 f4 (by omega) (by omega) (by omega)) [some 0, some 1, some 2, some 3] rfl (by (repeat' first | exact trivial | exact rfl | exact Or.inl (And.intro rfl rfl) | exact wsucc _ (by omega) | exact wlin (by first | omega | (push_cast; omega)) (by omega) | exact wint (by omega) (by omega) | refine And.intro ?_ ?_ | refine Or.inr ?_)) (by (repeat' first | exact trivial | exact rfl | exact (by decide) | exact zerosI _ | exact zerosN _ | exact OfRaw.rows (by omega) | exact Or.inl (And.intro rfl rfl) | refine And.intro ?_ ?_ | refine Exists.intro _ (Exists.intro _ (And.intro rfl (And.intro (by decide) ?_))))) rfl rfl rfl ?_
    rintro ⟨_, hE⟩
    refine ⟨_, _, rfl, ?_⟩
    have ce := c_enoughM rs ((ss.set k (setVol x (minW (x.vol + n))))) (po) vs f1 (Nat.beq ss.length 0) f3 f4 (by omega) (by rw [hl2]; omega) (by omega)
    rw [hl2] at ce
    refine Rn.call zB 1000 rfl (ce) [some 0, some 5, some 2, some 3] rfl (by (repeat' first | exact trivial | exact rfl | exact Or.inl (And.intro rfl rfl) | exact wsucc _ (by omega) | exact wlin (by first | omega | (push_cast; omega)) (by omega) | exact wint (by omega) (by omega) | refine And.intro ?_ ?_ | refine Or.inr ?_)) (by (repeat' first | exact trivial | exact rfl | exact (by decide) | exact zerosI _ | exact zerosN _ | exact OfRaw.rows (by omega) | exact Or.inl (And.intro rfl rfl) | refine And.intro ?_ ?_ | refine Exists.intro _ (Exists.intro _ (And.intro rfl (And.intro (by decide) ?_))))) rfl rfl rfl ?_
    rintro ⟨_, hE2⟩
    refine ⟨_, _, rfl, ?_⟩
    have e1 := hwe vs
    rw [e1]
    refine Rn.split zB 1000 rfl (fun k4 => ?_) (fun k4 => ?_)
    rotate_left
    · simp at k4
    refine Rn.split zB 1000 rfl (fun k5 => ?_) (fun k5 => ?_)
    · repeat (refine Rn.split zB 1000 rfl (fun _ => ?_) (fun h => by cases h))
      refine Rn.fin0 zB 1000 rfl rfl rfl rfl ?_
      simp
    have k5 : enL rs ss po vs = true := by simpa using k5
    have hw0 : wErr rs ss po vs = 0 := Classical.byContradiction fun c => by rw [enL_bad c] at k5; cases k5
    refine Rn.fin0 zB 1000 rfl rfl rfl rfl ?_
    have := enough_more B hok2.b R (wErr_zero hw0).2 (hE hw0) (hE2 (e1.trans hw0)) (by rw [← enL_ok hw0]; exact k5)
    rw [enL_ok (e1.trans hw0), this]
  | true =>
    have ha1 : k < po.length := by simpa using ha1
    obtain ⟨x, hx⟩ : ∃ x, po[k]? = some x := ⟨po[k], List.getElem?_eq_getElem ha1⟩
    have hv := B.room x (List.mem_of_getElem? hx)
    have hv1 := hv.2
    obtain ⟨m1, m2, m3⟩ := minW_b hv.1 hv1 hn0
    have hok2 := shareOK_room hok hx m2 m3
    have R := richer_room (rs := rs) (ss := ss) hx m1
    have hl2 : (po.set k (setRoom x (minW (x.room + n)))).length = po.length := List.length_set
    have V' : ∀ l : List Int, enL rs ss (po.set k (setRoom x (minW (x.room + n)))) l = (if wErr rs ss po l = 0 then enB rs ss (po.set k (setRoom x (minW (x.room + n)))) l else false) := fun l => by
      unfold enL
      rw [show wErr rs ss (po.set k (setRoom x (minW (x.room + n)))) l = wErr rs ss po l from by unfold wErr; rw [if_pos hok2, if_pos hok]]
    have hwe : ∀ l : List Int, wErr rs ss (po.set k (setRoom x (minW (x.room + n)))) l = wErr rs ss po l := fun l => by unfold wErr; rw [if_pos hok2, if_pos hok]
    refine Rn.call zB 1000 rfl (c_richP rs ss po f1 f2 f3 k n hn0 hn1 (by omega) x hx hv.1 hv1) [some 0, some 1, some 2] rfl (by (repeat' first | exact trivial | exact rfl | exact Or.inl (And.intro rfl rfl) | exact wsucc _ (by omega) | exact wlin (by first | omega | (push_cast; omega)) (by omega) | exact wint (by omega) (by omega) | refine And.intro ?_ ?_ | refine Or.inr ?_)) (by (repeat' first | exact trivial | exact rfl | exact (by decide) | exact zerosI _ | exact zerosN _ | exact OfRaw.rows (by omega) | exact Or.inl (And.intro rfl rfl) | refine And.intro ?_ ?_ | refine Exists.intro _ (Exists.intro _ (And.intro rfl (And.intro (by decide) ?_))))) rfl rfl rfl (fun _ => ⟨_, _, rfl, ?_⟩)
    repeat (refine Rn.split zB 1000 rfl (fun h => by cases h) (fun _ => ?_))
    refine Rn.call zB 1000 rfl (c_promiseOK rs ss po f1 f2 f3 hok) [some 0, some 1, some 2] rfl (by (repeat' first | exact trivial | exact rfl | exact Or.inl (And.intro rfl rfl) | exact wsucc _ (by omega) | exact wlin (by first | omega | (push_cast; omega)) (by omega) | exact wint (by omega) (by omega) | refine And.intro ?_ ?_ | refine Or.inr ?_)) (by (repeat' first | exact trivial | exact rfl | exact (by decide) | exact zerosI _ | exact zerosN _ | exact OfRaw.rows (by omega) | exact Or.inl (And.intro rfl rfl) | refine And.intro ?_ ?_ | refine Exists.intro _ (Exists.intro _ (And.intro rfl (And.intro (by decide) ?_))))) rfl rfl rfl ?_
    rintro ⟨p, hp⟩
    refine ⟨_, _, rfl, ?_⟩
    have c2 := c_promiseOK rs (ss) ((po.set k (setRoom x (minW (x.room + n))))) f1 f2 (Nat.beq po.length 0) hok2
    rw [hl2] at c2
    refine Rn.call zB 1000 rfl (c2) [some 0, some 1, some 5] rfl (by (repeat' first | exact trivial | exact rfl | exact Or.inl (And.intro rfl rfl) | exact wsucc _ (by omega) | exact wlin (by first | omega | (push_cast; omega)) (by omega) | exact wint (by omega) (by omega) | refine And.intro ?_ ?_ | refine Or.inr ?_)) (by (repeat' first | exact trivial | exact rfl | exact (by decide) | exact zerosI _ | exact zerosN _ | exact OfRaw.rows (by omega) | exact Or.inl (And.intro rfl rfl) | refine And.intro ?_ ?_ | refine Exists.intro _ (Exists.intro _ (And.intro rfl (And.intro (by decide) ?_))))) rfl rfl rfl ?_
    rintro ⟨q, hq⟩
    refine ⟨_, _, rfl, ?_⟩
    have pl := hp.len
    have ql := hq.len
    repeat (refine Rn.split zB 1000 rfl (fun h => by cases h) (fun _ => ?_))
    refine Rn.split zB 1000 rfl (fun k1 => ?_) (fun k1 => ?_)
    · simp at k1
    refine Rn.split zB 1000 rfl (fun k2 => ?_) (fun k2 => ?_)
    · simp at k2
    refine Rn.loop zB 1000 rfl (T := Nat) (fun i => rs.length - i) (fun i => i ≤ rs.length) (fun i => [(68, iA i), (67, iA rs.length), (15, slA 8 0 rs.length true 1), (13, slA 7 0 rs.length true 1), (11, .one (.ptr (some (6, 0)))), (5, .one (.ptr (some (4, 0)))), (4, .one (.bool true)), (1, slA 3 0 vs.length f4 1)]) (fun i => [⟨8, true, none, .raw (arr iC q)⟩, ⟨7, true, none, .raw (arr iC p)⟩, ⟨6, true, none, .ex [.sl (some (0, 0)) rs.length f1 7, .sl (some (1, 0)) ss.length f2 3, .sl (some (5, 0)) po.length (Nat.beq po.length 0) 2]⟩, ⟨4, true, none, .ex [.sl (some (0, 0)) rs.length f1 7, .sl (some (1, 0)) ss.length f2 3, .sl (some (2, 0)) po.length f3 2]⟩, ⟨5, true, none, .raw (arr Po.c ((po.set k (setRoom x (minW (x.room + n))))))⟩] ++ shV rs ss po vs) (fun _ => 9) (0) [some 0, some 1, some 2, some 3, some 4, some 5, some 6, some 7, some 8] (Nat.zero_le _) ⟨rfl, rfl, rfl, rfl, rfl, by (repeat' first | exact trivial | exact rfl | exact Or.inl (And.intro rfl rfl) | exact wsucc _ (by omega) | exact wlin (by first | omega | (push_cast; omega)) (by omega) | exact wint (by omega) (by omega) | refine And.intro ?_ ?_ | refine Or.inr ?_), by (repeat' first | exact trivial | exact rfl | exact (by decide) | exact zerosI _ | exact zerosN _ | exact OfRaw.rows (by omega) | exact Or.inl (And.intro rfl rfl) | refine And.intro ?_ ?_ | refine Exists.intro _ (Exists.intro _ (And.intro rfl (And.intro (by decide) ?_))))⟩ ?_
    rintro i hi
    refine Rn.split zB 1000 rfl (fun hlt => ?_) (fun hlt => ?_)
    · have hlt : i < rs.length := by simpa using hlt
      obtain ⟨x, hx⟩ : ∃ x, p[i]? = some x := ⟨p[i]'(by omega), List.getElem?_eq_getElem _⟩
      obtain ⟨y, hy⟩ : ∃ y, q[i]? = some y := ⟨q[i]'(by omega), List.getElem?_eq_getElem _⟩
      have hpx : p.getD i 0 = x := by rw [List.getD_eq_getElem?_getD, hx]; rfl
      have hqy : q.getD i 0 = y := by rw [List.getD_eq_getElem?_getD, hy]; rfl
      refine Rn.draw zB 1000 [0, 0, 3, 7, 0, 0, 48, 112, 255, 511, 1023, 2047, 4095, 8191, 16383, 32767, 65535] rfl (by kernel_rfl) (by kernel_rfl) ?_
      refine Rn.ask zB 1000 rfl ⟨by omega, by omega⟩ ?_
      refine Rn.loadR zB 1000 rfl (LoadR.fld eI (f := 0) (v := .int .i64 y) hy (by simp) rfl rfl) ?_
      refine Rn.ask zB 1000 rfl ⟨by omega, by omega⟩ ?_
      refine Rn.loadR zB 1000 rfl (LoadR.fld eI (f := 0) (v := .int .i64 x) hx (by simp) rfl rfl) ?_
      refine Rn.split zB 1000 rfl (fun d2 => ?_) (fun d2 => ?_)
      · repeat (refine Rn.split zB 1000 rfl (fun h => by cases h) (fun _ => ?_))
        refine Rn.split zB 1000 rfl (fun d3 => ?_) (fun d3 => ?_)
        · have d3 : i = 0 := by simp at d3; omega
          subst d3
          have hle := promised_first R hp hq hlt
          simp at d2; omega
        refine Rn.again zB 1000 rfl (i + 1) [some 0, some 1, some 2, some 3, some 4, some 5, some 6, some 7, some 8] (by omega) (hlt) ⟨rfl, rfl, rfl, rfl, rfl, by (repeat' first | exact trivial | exact rfl | exact Or.inl (And.intro rfl rfl) | exact wsucc _ (by omega) | exact wlin (by first | omega | (push_cast; omega)) (by omega) | exact wint (by omega) (by omega) | refine And.intro ?_ ?_ | refine Or.inr ?_), by (repeat' first | exact trivial | exact rfl | exact (by decide) | exact zerosI _ | exact zerosN _ | exact OfRaw.rows (by omega) | exact Or.inl (And.intro rfl rfl) | refine And.intro ?_ ?_ | refine Exists.intro _ (Exists.intro _ (And.intro rfl (And.intro (by decide) ?_))))⟩
      repeat (refine Rn.split zB 1000 rfl (fun h => by cases h) (fun _ => ?_))
      refine Rn.again zB 1000 rfl (i + 1) [some 0, some 1, some 2, some 3, some 4, some 5, some 6, some 7, some 8] (by omega) (hlt) ⟨rfl, rfl, rfl, rfl, rfl, by (repeat' first | exact trivial | exact rfl | exact Or.inl (And.intro rfl rfl) | exact wsucc _ (by omega) | exact wlin (by first | omega | (push_cast; omega)) (by omega) | exact wint (by omega) (by omega) | refine And.intro ?_ ?_ | refine Or.inr ?_), by (repeat' first | exact trivial | exact rfl | exact (by decide) | exact zerosI _ | exact zerosN _ | exact OfRaw.rows (by omega) | exact Or.inl (And.intro rfl rfl) | refine And.intro ?_ ?_ | refine Exists.intro _ (Exists.intro _ (And.intro rfl (And.intro (by decide) ?_))))⟩
    refine Rn.out zB 1000 rfl rfl ?_
    have ct := c_total q true (by omega)
    rw [ql] at ct
    refine Rn.call0 zB 1000 rfl (ct) [some 8] rfl rfl (by (repeat' first | exact trivial | exact rfl | exact Or.inl (And.intro rfl rfl) | exact wsucc _ (by omega) | exact wlin (by first | omega | (push_cast; omega)) (by omega) | exact wint (by omega) (by omega) | refine And.intro ?_ ?_ | refine Or.inr ?_)) (by (repeat' first | exact trivial | exact rfl | exact (by decide) | exact zerosI _ | exact zerosN _ | exact OfRaw.rows (by omega) | exact Or.inl (And.intro rfl rfl) | refine And.intro ?_ ?_ | refine Exists.intro _ (Exists.intro _ (And.intro rfl (And.intro (by decide) ?_))))) rfl rfl rfl rfl rfl ?_
    have ct := c_total p true (by omega)
    rw [pl] at ct
    refine Rn.call0 zB 1000 rfl (ct) [some 7] rfl rfl (by (repeat' first | exact trivial | exact rfl | exact Or.inl (And.intro rfl rfl) | exact wsucc _ (by omega) | exact wlin (by first | omega | (push_cast; omega)) (by omega) | exact wint (by omega) (by omega) | refine And.intro ?_ ?_ | refine Or.inr ?_)) (by (repeat' first | exact trivial | exact rfl | exact (by decide) | exact zerosI _ | exact zerosN _ | exact OfRaw.rows (by omega) | exact Or.inl (And.intro rfl rfl) | refine And.intro ?_ ?_ | refine Exists.intro _ (Exists.intro _ (And.intro rfl (And.intro (by decide) ?_))))) rfl rfl rfl rfl rfl ?_
    have htot := promised_total B hok2.b R hp hq
    refine Rn.split zB 1000 rfl (fun k3 => ?_) (fun k3 => ?_)
    · simp at k3; omega
    refine Rn.call zB 1000 rfl (c_enoughM rs ss po vs f1 f2 f3 f4 (by omega) (by omega) (by omega)) [some 0, some 1, some 2, some 3] rfl (by (repeat' first | exact trivial | exact rfl | exact Or.inl (And.intro rfl rfl) | exact wsucc _ (by omega) | exact wlin (by first | omega | (push_cast; omega)) (by omega) | exact wint (by omega) (by omega) | refine And.intro ?_ ?_ | refine Or.inr ?_)) (by (repeat' first | exact trivial | exact rfl | exact (by decide) | exact zerosI _ | exact zerosN _ | exact OfRaw.rows (by omega) | exact Or.inl (And.intro rfl rfl) | refine And.intro ?_ ?_ | refine Exists.intro _ (Exists.intro _ (And.intro rfl (And.intro (by decide) ?_))))) rfl rfl rfl ?_
    rintro ⟨_, hE⟩
    refine ⟨_, _, rfl, ?_⟩
    have ce := c_enoughM rs (ss) ((po.set k (setRoom x (minW (x.room + n))))) vs f1 f2 (Nat.beq po.length 0) f4 (by omega) (by rw [show ss.length = ss.length from rfl]; omega) (by omega)
    rw [hl2] at ce
    refine Rn.call zB 1000 rfl (ce) [some 0, some 1, some 5, some 3] rfl (by (repeat' first | exact trivial | exact rfl | exact Or.inl (And.intro rfl rfl) | exact wsucc _ (by omega) | exact wlin (by first | omega | (push_cast; omega)) (by omega) | exact wint (by omega) (by omega) | refine And.intro ?_ ?_ | refine Or.inr ?_)) (by (repeat' first | exact trivial | exact rfl | exact (by decide) | exact zerosI _ | exact zerosN _ | exact OfRaw.rows (by omega) | exact Or.inl (And.intro rfl rfl) | refine And.intro ?_ ?_ | refine Exists.intro _ (Exists.intro _ (And.intro rfl (And.intro (by decide) ?_))))) rfl rfl rfl ?_
    rintro ⟨_, hE2⟩
    refine ⟨_, _, rfl, ?_⟩
    have e1 := hwe vs
    rw [e1]
    refine Rn.split zB 1000 rfl (fun k4 => ?_) (fun k4 => ?_)
    rotate_left
    · simp at k4
    refine Rn.split zB 1000 rfl (fun k5 => ?_) (fun k5 => ?_)
    · repeat (refine Rn.split zB 1000 rfl (fun _ => ?_) (fun h => by cases h))
      refine Rn.fin0 zB 1000 rfl rfl rfl rfl ?_
      simp
    have k5 : enL rs ss po vs = true := by simpa using k5
    have hw0 : wErr rs ss po vs = 0 := Classical.byContradiction fun c => by rw [enL_bad c] at k5; cases k5
    refine Rn.fin0 zB 1000 rfl rfl rfl rfl ?_
    have := enough_more B hok2.b R (wErr_zero hw0).2 (hE hw0) (hE2 (e1.trans hw0)) (by rw [← enL_ok hw0]; exact k5)
    rw [enL_ok (e1.trans hw0), this]
end Go.AM
