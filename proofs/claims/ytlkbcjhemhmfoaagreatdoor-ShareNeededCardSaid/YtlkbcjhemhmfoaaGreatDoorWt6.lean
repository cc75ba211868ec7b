/- Walks: the statement ShareNeeded. -/
import Derived.Test.YtlkbcjhemhmfoaaGreatDoorWl5
import Derived.Test.YtlkbcjhemhmfoaaGreatDoorWl3
set_option linter.unusedSimpArgs false
set_option linter.unusedVariables false
namespace Go.AM
open Go Go.Proofs
set_option maxRecDepth 10000
set_option maxHeartbeats 1000000

theorem c_fit2 (x : Su) (v d : Int) : Ct0 envB 30 [.agg x.c, .one (.ptr (some (0, 0))), .one (.ptr (some (1, 0)))] [⟨0, false, none, .ex [.int .i64 v]⟩, ⟨1, false, none, .ex [.int .i64 d]⟩] 2 (.one (.bool (fitS v d x))) := by
  refine Ct.of zB (fn := Tryz.f30) (by kernel_rfl) (by kernel_rfl) rfl rfl ?_
  refine Rn.split zB 1000 rfl (fun h => ?_) (fun h => ?_)
  · refine Rn.fin0 zB 1000 rfl rfl rfl rfl ?_
    unfold fitS
    rw [h]; rfl
  · refine Rn.fin0 zB 1000 rfl rfl rfl rfl ?_
    unfold fitS
    rw [h]; rfl
theorem c_seek2 (ss : List Su) (full : Bool) (hb : ss.length < 90000000000) (v d : Int) : Ct0 envB 29 [slA 0 0 ss.length full 3, .one (.fn 30 [(1, 0), (2, 0)])] [⟨0, false, none, .raw (arr Su.c ss)⟩, ⟨1, false, none, .ex [.int .i64 v]⟩, ⟨2, false, none, .ex [.int .i64 d]⟩] 3 (.one (.int .i64 (idxI (fitS v d) ss))) := by
  refine Ct.of zB (fn := Tryz.f29) (by kernel_rfl) (by kernel_rfl) rfl rfl ?_
  refine Rn.loop zB 1000 rfl (T := Nat) (fun i => ss.length - i) (fun i => i ≤ ss.length ∧ ∀ j a, j < i → ss[j]? = some a → fitS v d a = false) (fun i => [(8, iA i), (7, iA ss.length), (1, .one (.fn 30 [(1, 0), (2, 0)])), (0, slA 0 0 ss.length full 3)]) (fun _ => [⟨0, false, none, .raw (arr Su.c ss)⟩, ⟨1, false, none, .ex [.int .i64 v]⟩, ⟨2, false, none, .ex [.int .i64 d]⟩]) (fun _ => 3) (0) [some 0, some 1, some 2] (⟨Nat.zero_le _, fun j _ h => absurd h (Nat.not_lt_zero j)⟩) ⟨rfl, rfl, rfl, rfl, rfl, by (repeat' first | exact trivial | exact rfl | exact Or.inl (And.intro rfl rfl) | exact wsucc _ (by omega) | exact wlin (by first | omega | (push_cast; omega)) (by omega) | exact wint (by omega) (by omega) | refine And.intro ?_ ?_ | refine Or.inr ?_), by (repeat' first | exact trivial | exact rfl | exact (by decide) | exact zerosI _ | exact zerosN _ | exact OfRaw.rows (by omega) | exact Or.inl (And.intro rfl rfl) | refine And.intro ?_ ?_ | refine Exists.intro _ (Exists.intro _ (And.intro rfl (And.intro (by decide) ?_))))⟩ ?_
  rintro i ⟨hi, hno⟩
  have htk : ss.take ss.length = ss := List.take_length
  refine Rn.split zB 1000 rfl (fun h => ?_) (fun h => ?_)
  · have hlt : i < ss.length := by simpa using h
    obtain ⟨a, ha⟩ : ∃ a, ss[i]? = some a := ⟨ss[i], List.getElem?_eq_getElem (by omega)⟩
    refine Rn.ask zB 1000 rfl ⟨by first | omega | (dsimp only; omega), by first | omega | (dsimp only; omega)⟩ ?_
    refine Rn.loadR zB 1000 rfl (LoadR.elt eSu ha (by simp)) ?_
    refine Rn.call0 zB 1000 rfl (c_fit2 a v d) [some 1, some 2] rfl rfl (by (repeat' first | exact trivial | exact rfl | exact Or.inl (And.intro rfl rfl) | exact wsucc _ (by omega) | exact wlin (by first | omega | (push_cast; omega)) (by omega) | exact wint (by omega) (by omega) | refine And.intro ?_ ?_ | refine Or.inr ?_)) (by (repeat' first | exact trivial | exact rfl | exact (by decide) | exact zerosI _ | exact zerosN _ | exact OfRaw.rows (by omega) | exact Or.inl (And.intro rfl rfl) | refine And.intro ?_ ?_ | refine Exists.intro _ (Exists.intro _ (And.intro rfl (And.intro (by decide) ?_))))) rfl rfl rfl rfl rfl ?_
    refine Rn.split zB 1000 rfl (fun hp => ?_) (fun hp => ?_)
    · refine Rn.out zB 1000 rfl rfl ?_
      refine Rn.fin0 zB 1000 rfl rfl rfl rfl ?_
      rw [← htk, idxI_found hno ha hp hlt]
    · refine Rn.again zB 1000 rfl (i + 1) [some 0, some 1, some 2] (by omega) (⟨by omega, noMore hno ha hp⟩) ⟨rfl, rfl, rfl, rfl, rfl, by (repeat' first | exact trivial | exact rfl | exact Or.inl (And.intro rfl rfl) | exact wsucc _ (by omega) | exact wlin (by first | omega | (push_cast; omega)) (by omega) | exact wint (by omega) (by omega) | refine And.intro ?_ ?_ | refine Or.inr ?_), by (repeat' first | exact trivial | exact rfl | exact (by decide) | exact zerosI _ | exact zerosN _ | exact OfRaw.rows (by omega) | exact Or.inl (And.intro rfl rfl) | refine And.intro ?_ ?_ | refine Exists.intro _ (Exists.intro _ (And.intro rfl (And.intro (by decide) ?_))))⟩
  · refine Rn.out zB 1000 rfl rfl ?_
    refine Rn.fin0 zB 1000 rfl rfl rfl rfl ?_
    have hge : ss.length ≤ i := by simpa using h
    rw [← htk, idxI_none fun j b hj => hno j b (by omega)]
/-- Whether an amount is fine, where it can be said. -/
theorem c_ask2 (rs : List Rt) (ss : List Su) (po : List Po) (f1 f2 f3 : Bool) (right at_ : Nat) (s : Su) (hok : ShareOK rs ss po) (hr : right < rs.length) (hs : ss[at_]? = some s) (x : Int) (h0 : 0 ≤ x) (h1 : x ≤ 35184372088832) :
    Ct0 envB 31 [iA x, .one (.ptr (some (3, 0))), .one (.ptr (some (4, 0))), .one (.ptr (some (5, 0)))] (shB rs ss po ++ [⟨3, false, none, .ex [.sl (some (0, 0)) rs.length f1 7, .sl (some (1, 0)) ss.length f2 3, .sl (some (2, 0)) po.length f3 2]⟩, ⟨4, false, none, .ex [.int .i64 at_]⟩, ⟨5, false, none, .ex [.int .i64 right]⟩]) 6
      (.tup [(false, [.bool (if s.vol + x ≤ 1099511627776 then fineB rs ss po right at_ x else false)]), (false, [.bool (decide (s.vol + x ≤ 1099511627776))])]) := by
  have ns := hok.ns
  have nr := hok.nr
  have ha : at_ < ss.length := (List.getElem?_eq_some_iff.mp hs).1
  have hv := isVol_b (suB_fine (hok.s at_ s hs).1).2.2
  obtain ⟨r, hrr⟩ : ∃ r, rs[right]? = some r := ⟨rs[right], List.getElem?_eq_getElem hr⟩
  have hw : IntKind.wrap .i64 (1099511627776 - s.vol) = 1099511627776 - s.vol := w64_id (by omega) (by omega)
  refine Ct.of zB (fn := Tryz.f31) (by kernel_rfl) (by kernel_rfl) rfl rfl ?_
  refine Rn.ask zB 1000 rfl ⟨by omega, by omega⟩ ?_
  refine Rn.loadR zB 1000 rfl (LoadR.fld eSu (f := 2) (v := .int .i64 s.vol) hs (by simp) rfl rfl) ?_
  refine Rn.split zB 1000 rfl (fun a0 => ?_) (fun a0 => ?_)
  · rw [hw] at a0
    have a0 : ¬ s.vol + x ≤ 1099511627776 := by simp at a0; omega
    refine Rn.fin0 zB 1000 rfl rfl rfl rfl ?_
    rw [if_neg a0, decide_eq_false a0]
  rw [hw] at a0
  have a0 : s.vol + x ≤ 1099511627776 := by simp at a0; omega
  rw [if_pos a0, decide_eq_true a0]
  have hm : minW (s.vol + x) = s.vol + x := by unfold minW; rw [if_neg (by omega)]
  refine Rn.call zB 1000 rfl (c_richS rs ss po f1 f2 f3 at_ x h0 (by omega) (by omega) s hs hv.1 hv.2) [some 0, some 1, some 2] rfl (by (repeat' first | exact trivial | exact rfl | exact Or.inl (And.intro rfl rfl) | exact wsucc _ (by omega) | exact wlin (by first | omega | (push_cast; omega)) (by omega) | exact wint (by omega) (by omega) | refine And.intro ?_ ?_ | refine Or.inr ?_)) (by (repeat' first | exact trivial | exact rfl | exact (by decide) | exact zerosI _ | exact zerosN _ | exact OfRaw.rows (by omega) | exact Or.inl (And.intro rfl rfl) | refine And.intro ?_ ?_ | refine Exists.intro _ (Exists.intro _ (And.intro rfl (And.intro (by decide) ?_))))) rfl rfl rfl (fun _ => ⟨_, _, rfl, ?_⟩)
  have hme := moreS_eq hs x
  rw [hm]
  have hok2 := shareOK_vol hok hs (v := s.vol + x) (by omega) a0
  have hl2 : (ss.set at_ (setVol s (s.vol + x))).length = ss.length := List.length_set
  have c2 := c_promiseOK rs (ss.set at_ (setVol s (s.vol + x))) po f1 (Nat.beq ss.length 0) f3 hok2
  rw [hl2] at c2
  refine Rn.call zB 1000 rfl (c2) [some 0, some 6, some 2] rfl (by (repeat' first | exact trivial | exact rfl | exact Or.inl (And.intro rfl rfl) | exact wsucc _ (by omega) | exact wlin (by first | omega | (push_cast; omega)) (by omega) | exact wint (by omega) (by omega) | refine And.intro ?_ ?_ | refine Or.inr ?_)) (by (repeat' first | exact trivial | exact rfl | exact (by decide) | exact zerosI _ | exact zerosN _ | exact OfRaw.rows (by omega) | exact Or.inl (And.intro rfl rfl) | refine And.intro ?_ ?_ | refine Exists.intro _ (Exists.intro _ (And.intro rfl (And.intro (by decide) ?_))))) rfl rfl rfl ?_
  rintro ⟨p, hp⟩
  refine ⟨_, _, rfl, ?_⟩
  have pl := hp.len
  obtain ⟨y, hy⟩ : ∃ y, p[right]? = some y := ⟨p[right]'(by omega), List.getElem?_eq_getElem _⟩
  have hf : fineB rs ss po right at_ x = (y == r.claim) := by
    unfold fineB
    rw [hme, promX_eq hp, List.getD_eq_getElem?_getD, hy]
    unfold claimOf
    rw [hrr]; rfl
  rw [hf]
  refine Rn.draw zB 1000 [0, 1, 3, 7, 15, 7, 39, 103, 255, 511, 1023, 2047, 2047, 8191, 16383, 2047, 34815, 2047, 231423, 493567, 1017855, 2097151, 4194303, 8388607, 16777215] rfl (by kernel_rfl) (by kernel_rfl) ?_
  repeat (refine Rn.split zB 1000 rfl (fun _ => ?_) (fun h => by cases h))
  refine Rn.split zB 1000 rfl (fun k1 => ?_) (fun k1 => ?_)
  rotate_left
  · simp at k1
  refine Rn.ask zB 1000 rfl ⟨by omega, by omega⟩ ?_
  refine Rn.loadR zB 1000 rfl (LoadR.fld eI (f := 0) (v := .int .i64 y) hy (by simp) rfl rfl) ?_
  refine Rn.ask zB 1000 rfl ⟨by omega, by omega⟩ ?_
  refine Rn.loadR zB 1000 rfl (LoadR.fld eRt (f := 6) (v := .int .i64 r.claim) hrr (by simp) rfl rfl) ?_
  exact Rn.fin0 zB 1000 rfl rfl rfl rfl rfl
theorem c_shareNeeded (rs : List Rt) (ss : List Su) (po : List Po) (right v d : Int) (f1 f2 f3 : Bool) : Ct0 envB 6 [shA rs.length ss.length po.length f1 f2 f3, iA right, iA v, iA d] (shB rs ss po) 3 (.one (.bool true)) := by
  refine Ct.of zB (fn := Tryz.f6) (by kernel_rfl) (by kernel_rfl) rfl rfl ?_
  refine Rn.split zB 1000 rfl (fun h => ?_) (fun h => ?_)
  · cases h
  refine Rn.call0 zB 1000 rfl (c_small rs ss po f1 f2 f3) [some 0, some 1, some 2] rfl rfl (by (repeat' first | exact trivial | exact rfl | exact Or.inl (And.intro rfl rfl) | exact wsucc _ (by omega) | exact wlin (by first | omega | (push_cast; omega)) (by omega) | exact wint (by omega) (by omega) | refine And.intro ?_ ?_ | refine Or.inr ?_)) (by (repeat' first | exact trivial | exact rfl | exact (by decide) | exact zerosI _ | exact zerosN _ | exact OfRaw.rows (by omega) | exact Or.inl (And.intro rfl rfl) | refine And.intro ?_ ?_ | refine Exists.intro _ (Exists.intro _ (And.intro rfl (And.intro (by decide) ?_))))) rfl rfl rfl rfl rfl ?_
  refine Rn.split zB 1000 rfl (fun hs => ?_) (fun hs => ?_)
  · exact Rn.fin0 zB 1000 rfl rfl rfl rfl rfl
  obtain ⟨l1, l2, l3, hok⟩ := smB_t (by simpa using hs)
  have B := hok.b
  have e0 := shErr_ok hok
  refine Rn.call zB 1000 rfl (c_need rs ss po f1 f2 f3 right v d (by omega) (by omega) (by omega)) [some 0, some 1, some 2] rfl (by (repeat' first | exact trivial | exact rfl | exact Or.inl (And.intro rfl rfl) | exact wsucc _ (by omega) | exact wlin (by first | omega | (push_cast; omega)) (by omega) | exact wint (by omega) (by omega) | refine And.intro ?_ ?_ | refine Or.inr ?_)) (by (repeat' first | exact trivial | exact rfl | exact (by decide) | exact zerosI _ | exact zerosN _ | exact OfRaw.rows (by omega) | exact Or.inl (And.intro rfl rfl) | refine And.intro ?_ ?_ | refine Exists.intro _ (Exists.intro _ (And.intro rfl (And.intro (by decide) ?_))))) rfl rfl rfl ?_
  rintro ⟨⟨x, a, e⟩, hx⟩
  refine ⟨_, _, rfl, ?_⟩
  dsimp only at hx
  by_cases hA : needArg rs right v d
  rotate_left
  · obtain ⟨rfl, rfl, rfl⟩ := hx.arg e0 hA
    repeat (refine Rn.split zB 1000 rfl (fun _ => ?_) (fun h => by cases h))
    exact Rn.fin0 zB 1000 rfl rfl rfl rfl rfl
  obtain ⟨k, rfl⟩ : ∃ k : Nat, right = k := ⟨right.toNat, by have := hA.1; omega⟩
  have hk : k < rs.length := by have := hA.2.1; omega
  by_cases hN : idxI (fitS v d) ss < 0
  · obtain ⟨rfl, rfl, rfl⟩ := hx.none e0 hA hN
    repeat (refine Rn.split zB 1000 rfl (fun h => by cases h) (fun _ => ?_))
    refine Rn.split zB 1000 rfl (fun a1 => ?_) (fun a1 => ?_)
    · simp at a1; omega
    refine Rn.call0 zB 1000 rfl (c_seek2 ss f2 (by omega) v d) [some 1, some 5, some 6] rfl rfl (by (repeat' first | exact trivial | exact rfl | exact Or.inl (And.intro rfl rfl) | exact wsucc _ (by omega) | exact wlin (by first | omega | (push_cast; omega)) (by omega) | exact wint (by omega) (by omega) | refine And.intro ?_ ?_ | refine Or.inr ?_)) (by (repeat' first | exact trivial | exact rfl | exact (by decide) | exact zerosI _ | exact zerosN _ | exact OfRaw.rows (by omega) | exact Or.inl (And.intro rfl rfl) | refine And.intro ?_ ?_ | refine Exists.intro _ (Exists.intro _ (And.intro rfl (And.intro (by decide) ?_))))) rfl rfl rfl rfl rfl ?_
    refine Rn.split zB 1000 rfl (fun a2 => ?_) (fun a2 => ?_)
    rotate_left
    · simp at a2; omega
    repeat (refine Rn.split zB 1000 rfl (fun _ => ?_) (fun h => by cases h))
    exact Rn.fin0 zB 1000 rfl rfl rfl rfl rfl
  have hN : 0 ≤ idxI (fitS v d) ss := by omega
  obtain ⟨n, hn, hnl⟩ := idxI_nat hN
  obtain ⟨s, hss⟩ : ∃ s, ss[n]? = some s := ⟨ss[n], List.getElem?_eq_getElem hnl⟩
  have hv := isVol_b (suB_fine (hok.s n s hss).1).2.2
  have hcs := claims_sum B
  have hw : IntKind.wrap .i64 (1099511627776 - s.vol) = 1099511627776 - s.vol := w64_id (by omega) (by omega)
  cases hF : fineB rs ss po k n (sumW (claimsOf rs)) with
  | false =>
    obtain ⟨rfl, rfl, rfl⟩ := hx.no e0 hA hN (by rw [hn]; exact hF)
    repeat (refine Rn.split zB 1000 rfl (fun h => by cases h) (fun _ => ?_))
    refine Rn.split zB 1000 rfl (fun a1 => ?_) (fun a1 => ?_)
    · simp at a1; omega
    refine Rn.call0 zB 1000 rfl (c_seek2 ss f2 (by omega) v d) [some 1, some 5, some 6] rfl rfl (by (repeat' first | exact trivial | exact rfl | exact Or.inl (And.intro rfl rfl) | exact wsucc _ (by omega) | exact wlin (by first | omega | (push_cast; omega)) (by omega) | exact wint (by omega) (by omega) | refine And.intro ?_ ?_ | refine Or.inr ?_)) (by (repeat' first | exact trivial | exact rfl | exact (by decide) | exact zerosI _ | exact zerosN _ | exact OfRaw.rows (by omega) | exact Or.inl (And.intro rfl rfl) | refine And.intro ?_ ?_ | refine Exists.intro _ (Exists.intro _ (And.intro rfl (And.intro (by decide) ?_))))) rfl rfl rfl rfl rfl ?_
    refine Rn.split zB 1000 rfl (fun a2 => ?_) (fun a2 => ?_)
    · simp at a2; omega
    rw [hn]
    repeat (refine Rn.split zB 1000 rfl (fun _ => ?_) (fun h => by cases h))
    refine Rn.ask zB 1000 rfl ⟨by omega, by omega⟩ ?_
    refine Rn.loadR zB 1000 rfl (LoadR.fld eSu (f := 2) (v := .int .i64 s.vol) hss (by simp) rfl rfl) ?_
    have cq := c_ask2 rs ss po f1 f2 f3 k n s hok hk hss (1099511627776 - s.vol) (by omega) (by omega)
    have hno : fineB rs ss po k n (1099511627776 - s.vol) = false := by
      cases hq : fineB rs ss po k n (1099511627776 - s.vol) with
      | false => rfl
      | true =>
        by_cases hle : 1099511627776 - s.vol ≤ sumW (claimsOf rs)
        · rw [fine_mono hok hk hnl (by omega) hle hcs.2 hq] at hF; cases hF
        · rw [fine_sat hok hk hnl (by omega) (by omega) hq] at hF; cases hF
    rw [if_pos (by omega), decide_eq_true (by omega), hno] at cq
    refine Rn.call0 zB 1000 rfl (cq) [some 0, some 1, some 2, some 3, some 7, some 4] rfl rfl (by (try dsimp only); rw [hw]; (repeat' first | exact trivial | exact rfl | exact Or.inl (And.intro rfl rfl) | exact wsucc _ (by omega) | exact wlin (by first | omega | (push_cast; omega)) (by omega) | exact wint (by omega) (by omega) | refine And.intro ?_ ?_ | refine Or.inr ?_)) (by (repeat' first | exact trivial | exact rfl | exact (by decide) | exact zerosI _ | exact zerosN _ | exact OfRaw.rows (by omega) | exact Or.inl (And.intro rfl rfl) | refine And.intro ?_ ?_ | refine Exists.intro _ (Exists.intro _ (And.intro rfl (And.intro (by decide) ?_))))) rfl rfl rfl rfl rfl ?_
    repeat (refine Rn.split zB 1000 rfl (fun _ => ?_) (fun h => by cases h))
    exact Rn.fin0 zB 1000 rfl rfl rfl rfl rfl
  | true =>
    obtain ⟨hx1, rfl, rfl⟩ := hx.yes e0 hA hN (by rw [hn]; exact hF)
    rw [hn] at hx1
    have hx1 : x = leastI (fineB rs ss po k n) 0 (sumW (claimsOf rs)) := hx1
    have hxb := leastI_bound (P := fineB rs ss po k n) _ 0 (sumW (claimsOf rs)) (Nat.le_refl _) hcs.1
    have hxf := leastI_fine (P := fineB rs ss po k n) _ 0 (sumW (claimsOf rs)) (Nat.le_refl _) hcs.1 hF
    have hxl := leastI_least (P := fineB rs ss po k n) (b := 35184372088832) (fun a b h1 h2 h3 h4 => fine_mono hok hk hnl h1 h2 h3 h4) _ 0 (sumW (claimsOf rs)) (Nat.le_refl _) (Int.le_refl _) hcs.1 hcs.2
    rw [← hx1] at hxb hxf hxl
    repeat (refine Rn.split zB 1000 rfl (fun h => by cases h) (fun _ => ?_))
    refine Rn.split zB 1000 rfl (fun a1 => ?_) (fun a1 => ?_)
    · simp at a1; omega
    refine Rn.call0 zB 1000 rfl (c_seek2 ss f2 (by omega) v d) [some 1, some 5, some 6] rfl rfl (by (repeat' first | exact trivial | exact rfl | exact Or.inl (And.intro rfl rfl) | exact wsucc _ (by omega) | exact wlin (by first | omega | (push_cast; omega)) (by omega) | exact wint (by omega) (by omega) | refine And.intro ?_ ?_ | refine Or.inr ?_)) (by (repeat' first | exact trivial | exact rfl | exact (by decide) | exact zerosI _ | exact zerosN _ | exact OfRaw.rows (by omega) | exact Or.inl (And.intro rfl rfl) | refine And.intro ?_ ?_ | refine Exists.intro _ (Exists.intro _ (And.intro rfl (And.intro (by decide) ?_))))) rfl rfl rfl rfl rfl ?_
    refine Rn.split zB 1000 rfl (fun a2 => ?_) (fun a2 => ?_)
    · simp at a2; omega
    rw [hn]
    repeat (refine Rn.split zB 1000 rfl (fun h => by cases h) (fun _ => ?_))
    refine Rn.split zB 1000 rfl (fun b0 => ?_) (fun b0 => ?_)
    · simp at b0; omega
    have cq := c_ask2 rs ss po f1 f2 f3 k n s hok hk hss x hxb.1 (by omega)
    rw [hxf] at cq
    refine Rn.call0 zB 1000 rfl (cq) [some 0, some 1, some 2, some 3, some 7, some 4] rfl rfl (by (repeat' first | exact trivial | exact rfl | exact Or.inl (And.intro rfl rfl) | exact wsucc _ (by omega) | exact wlin (by first | omega | (push_cast; omega)) (by omega) | exact wint (by omega) (by omega) | refine And.intro ?_ ?_ | refine Or.inr ?_)) (by (repeat' first | exact trivial | exact rfl | exact (by decide) | exact zerosI _ | exact zerosN _ | exact OfRaw.rows (by omega) | exact Or.inl (And.intro rfl rfl) | refine And.intro ?_ ?_ | refine Exists.intro _ (Exists.intro _ (And.intro rfl (And.intro (by decide) ?_))))) rfl rfl rfl rfl rfl ?_
    refine Rn.split zB 1000 rfl (fun b1 => ?_) (fun b1 => ?_)
    · have b1 : s.vol + x ≤ 1099511627776 := of_decide_eq_true b1
      rw [if_pos b1]
      repeat (refine Rn.split zB 1000 rfl (fun h => by cases h) (fun _ => ?_))
      refine Rn.split zB 1000 rfl (fun b2 => ?_) (fun b2 => ?_)
      · exact Rn.fin0 zB 1000 rfl rfl rfl rfl rfl
      have b2 : x ≠ 0 := by simpa using b2
      have hw1 : IntKind.wrap .i64 (x - 1) = x - 1 := w64_id (by omega) (by omega)
      have hf1 : fineB rs ss po k n (x - 1) = false := hxl (x - 1) (by omega) (by omega)
      have cq := c_ask2 rs ss po f1 f2 f3 k n s hok hk hss (x - 1) (by omega) (by omega)
      rw [hf1, ite_self] at cq
      refine Rn.call0 zB 1000 rfl (cq) [some 0, some 1, some 2, some 3, some 7, some 4] rfl rfl (by (try dsimp only); rw [hw1]; (repeat' first | exact trivial | exact rfl | exact Or.inl (And.intro rfl rfl) | exact wsucc _ (by omega) | exact wlin (by first | omega | (push_cast; omega)) (by omega) | exact wint (by omega) (by omega) | refine And.intro ?_ ?_ | refine Or.inr ?_)) (by (repeat' first | exact trivial | exact rfl | exact (by decide) | exact zerosI _ | exact zerosN _ | exact OfRaw.rows (by omega) | exact Or.inl (And.intro rfl rfl) | refine And.intro ?_ ?_ | refine Exists.intro _ (Exists.intro _ (And.intro rfl (And.intro (by decide) ?_))))) rfl rfl rfl rfl rfl ?_
      refine Rn.split zB 1000 rfl (fun b3 => ?_) (fun b3 => ?_)
      · exact Rn.fin0 zB 1000 rfl rfl rfl rfl rfl
      · exact Rn.fin0 zB 1000 rfl rfl rfl rfl rfl
    · repeat (refine Rn.split zB 1000 rfl (fun h => by cases h) (fun _ => ?_))
      refine Rn.split zB 1000 rfl (fun b2 => ?_) (fun b2 => ?_)
      · exact Rn.fin0 zB 1000 rfl rfl rfl rfl rfl
      have b2 : x ≠ 0 := by simpa using b2
      have hw1 : IntKind.wrap .i64 (x - 1) = x - 1 := w64_id (by omega) (by omega)
      have hf1 : fineB rs ss po k n (x - 1) = false := hxl (x - 1) (by omega) (by omega)
      have cq := c_ask2 rs ss po f1 f2 f3 k n s hok hk hss (x - 1) (by omega) (by omega)
      rw [hf1, ite_self] at cq
      refine Rn.call0 zB 1000 rfl (cq) [some 0, some 1, some 2, some 3, some 7, some 4] rfl rfl (by (try dsimp only); rw [hw1]; (repeat' first | exact trivial | exact rfl | exact Or.inl (And.intro rfl rfl) | exact wsucc _ (by omega) | exact wlin (by first | omega | (push_cast; omega)) (by omega) | exact wint (by omega) (by omega) | refine And.intro ?_ ?_ | refine Or.inr ?_)) (by (repeat' first | exact trivial | exact rfl | exact (by decide) | exact zerosI _ | exact zerosN _ | exact OfRaw.rows (by omega) | exact Or.inl (And.intro rfl rfl) | refine And.intro ?_ ?_ | refine Exists.intro _ (Exists.intro _ (And.intro rfl (And.intro (by decide) ?_))))) rfl rfl rfl rfl rfl ?_
      refine Rn.split zB 1000 rfl (fun b3 => ?_) (fun b3 => ?_)
      · exact Rn.fin0 zB 1000 rfl rfl rfl rfl rfl
      · exact Rn.fin0 zB 1000 rfl rfl rfl rfl rfl
end Go.AM
