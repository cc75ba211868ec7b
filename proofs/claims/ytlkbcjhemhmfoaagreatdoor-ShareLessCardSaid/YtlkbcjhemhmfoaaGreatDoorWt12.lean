/- Walks: the statement ShareLess. -/
import Derived.Test.YtlkbcjhemhmfoaaGreatDoorWl1
set_option linter.unusedSimpArgs false
set_option linter.unusedVariables false
namespace Go.AM
open Go Go.Proofs
open Snow (IsMax)
set_option maxRecDepth 10000
set_option maxHeartbeats 1000000

/-- A lesser list. -/
structure Lesser (vs l : List Int) : Prop where
  len : l.length = vs.length
  le : ∀ (j : Nat) (x : Int), l[j]? = some x → ∃ y, vs[j]? = some y ∧ 0 ≤ x ∧ x ≤ y
theorem Lesser.set {vs l : List Int} (h : Lesser vs l) {i : Nat} {x y : Int} (hy : l[i]? = some y) (h0 : 0 ≤ x) (h1 : x ≤ y) : Lesser vs (l.set i x) where
  len := by rw [List.length_set]; exact h.len
  le j z hz := by
    rcases setGet hz with ⟨e1, e2⟩ | ⟨e1, e2⟩
    · subst e1; subst e2
      obtain ⟨w, hw, _, h3⟩ := h.le _ y hy
      exact ⟨w, hw, h0, by omega⟩
    · exact h.le j z e2
theorem Lesser.refl {rs : List Rt} {vs : List Int} (V : VolOK rs vs) : Lesser vs vs where
  len := rfl
  le j x hx := ⟨x, hx, by
    have hj : j < vs.length := (List.getElem?_eq_some_iff.mp hx).1
    have := V.v j x (rs[j]'(by have := V.len; omega)) hx (List.getElem?_eq_getElem _)
    omega⟩
theorem Lesser.vol {rs : List Rt} {vs l : List Int} (h : Lesser vs l) (V : VolOK rs vs) : VolOK rs l where
  len := h.len.trans V.len
  v i x r hx hr := by
    obtain ⟨y, hy, h0, h1⟩ := h.le i x hx
    have := V.v i y r hy hr
    omega
theorem Lesser.of {vs l : List Int} (h : Lesser vs l) (k : Nat) (hk : k < vs.length) : vOf l k ≤ vOf vs k := by
  have hl := h.len
  obtain ⟨y, hy, _, h1⟩ := h.le k (l[k]'(by omega)) (List.getElem?_eq_getElem _)
  unfold vOf
  rw [List.getD_eq_getElem?_getD, List.getD_eq_getElem?_getD, hy, List.getElem?_eq_getElem (by omega)]
  exact h1

def mnW (w y : Int) : Int := let a := if (0 : Int) > w then 0 else w; if y < a then y else a
theorem mnW_le (w y : Int) (h : 0 ≤ y) : 0 ≤ mnW w y ∧ mnW w y ≤ y := by
  unfold mnW
  dsimp only
  (repeat' split) <;> omega
theorem c_shareLess (rs : List Rt) (ss : List Su) (po : List Po) (vs ws : List Int) (at_ cl : Int) (f1 f2 f3 f4 f5 : Bool) : Ct0 envB 12 [shA rs.length ss.length po.length f1 f2 f3, slA 3 0 vs.length f4 1, slA 4 0 ws.length f5 1, iA at_, iA cl] (shV rs ss po vs ++ [⟨4, false, none, .raw (arr iC ws)⟩]) 5 (.one (.bool true)) := by
  refine Ct.of zB (fn := Tryz.f12) (by kernel_rfl) (by kernel_rfl) rfl rfl ?_
  refine Rn.split zB 1000 rfl (fun h => ?_) (fun h => ?_)
  · cases h
  refine Rn.call0 zB 1000 rfl (c_small rs ss po f1 f2 f3) [some 0, some 1, some 2] rfl rfl (by (repeat' first | exact trivial | exact rfl | exact Or.inl (And.intro rfl rfl) | exact wsucc _ (by omega) | exact wlin (by first | omega | (push_cast; omega)) (by omega) | exact wint (by omega) (by omega) | refine And.intro ?_ ?_ | refine Or.inr ?_)) (by (repeat' first | exact trivial | exact rfl | exact (by decide) | exact zerosI _ | exact zerosN _ | exact OfRaw.rows (by omega) | exact Or.inl (And.intro rfl rfl) | refine And.intro ?_ ?_ | refine Exists.intro _ (Exists.intro _ (And.intro rfl (And.intro (by decide) ?_))))) rfl rfl rfl rfl rfl ?_
  refine Rn.split zB 1000 rfl (fun hs => ?_) (fun hs => ?_)
  · exact Rn.fin0 zB 1000 rfl rfl rfl rfl rfl
  obtain ⟨l1, l2, l3, hok⟩ := smB_t (by simpa using hs)
  have B := hok.b
  refine Rn.call zB 1000 rfl (c_enoughM rs ss po vs f1 f2 f3 f4 (by omega) (by omega) (by omega)) [some 0, some 1, some 2, some 3] rfl (by (repeat' first | exact trivial | exact rfl | exact Or.inl (And.intro rfl rfl) | exact wsucc _ (by omega) | exact wlin (by first | omega | (push_cast; omega)) (by omega) | exact wint (by omega) (by omega) | refine And.intro ?_ ?_ | refine Or.inr ?_)) (by (repeat' first | exact trivial | exact rfl | exact (by decide) | exact zerosI _ | exact zerosN _ | exact OfRaw.rows (by omega) | exact Or.inl (And.intro rfl rfl) | refine And.intro ?_ ?_ | refine Exists.intro _ (Exists.intro _ (And.intro rfl (And.intro (by decide) ?_))))) rfl rfl rfl ?_
  rintro ⟨_, hE⟩
  refine ⟨_, _, rfl, ?_⟩
  refine Rn.unseq [] rfl ?_
  refine Rn.cutS [_] rfl (T := Unit) (fun _ => True) (fun _ => [(5, .one (.ptr (some (5, 0)))), (4, iA cl), (3, iA at_)]) (fun _ => ⟨5, true, none, .ex [.sl (some (0, 0)) rs.length f1 7, .sl (some (1, 0)) ss.length f2 3, .sl (some (2, 0)) po.length f3 2]⟩ :: shB rs ss po) (fun _ => 6) ?_ ?_
  · refine Rn.split zB 1000 rfl (fun e1 => ?_) (fun e1 => ?_)
    rotate_left
    · repeat (refine Rn.split zB 1000 rfl (fun h => by cases h) (fun _ => ?_))
      refine Rn.cutEnd zB 1000 rfl (()) [some 0, some 1, some 2, some 3, some 4, some 5] (trivial) ⟨rfl, rfl, rfl, rfl, rfl, by (repeat' first | exact trivial | exact rfl | exact Or.inl (And.intro rfl rfl) | exact wsucc _ (by omega) | exact wlin (by first | omega | (push_cast; omega)) (by omega) | exact wint (by omega) (by omega) | refine And.intro ?_ ?_ | refine Or.inr ?_), by (repeat' first | exact trivial | exact rfl | exact (by decide) | exact zerosI _ | exact zerosN _ | exact OfRaw.rows (by omega) | exact Or.inl (And.intro rfl rfl) | refine And.intro ?_ ?_ | refine Exists.intro _ (Exists.intro _ (And.intro rfl (And.intro (by decide) ?_))))⟩
    refine Rn.split zB 1000 rfl (fun e2 => ?_) (fun e2 => ?_)
    rotate_left
    · repeat (refine Rn.split zB 1000 rfl (fun h => by cases h) (fun _ => ?_))
      refine Rn.cutEnd zB 1000 rfl (()) [some 0, some 1, some 2, some 3, some 4, some 5] (trivial) ⟨rfl, rfl, rfl, rfl, rfl, by (repeat' first | exact trivial | exact rfl | exact Or.inl (And.intro rfl rfl) | exact wsucc _ (by omega) | exact wlin (by first | omega | (push_cast; omega)) (by omega) | exact wint (by omega) (by omega) | refine And.intro ?_ ?_ | refine Or.inr ?_), by (repeat' first | exact trivial | exact rfl | exact (by decide) | exact zerosI _ | exact zerosN _ | exact OfRaw.rows (by omega) | exact Or.inl (And.intro rfl rfl) | refine And.intro ?_ ?_ | refine Exists.intro _ (Exists.intro _ (And.intro rfl (And.intro (by decide) ?_))))⟩
    refine Rn.split zB 1000 rfl (fun e3 => ?_) (fun e3 => ?_)
    rotate_left
    · refine Rn.cutEnd zB 1000 rfl (()) [some 0, some 1, some 2, some 3, some 4, some 5] (trivial) ⟨rfl, rfl, rfl, rfl, rfl, by (repeat' first | exact trivial | exact rfl | exact Or.inl (And.intro rfl rfl) | exact wsucc _ (by omega) | exact wlin (by first | omega | (push_cast; omega)) (by omega) | exact wint (by omega) (by omega) | refine And.intro ?_ ?_ | refine Or.inr ?_), by (repeat' first | exact trivial | exact rfl | exact (by decide) | exact zerosI _ | exact zerosN _ | exact OfRaw.rows (by omega) | exact Or.inl (And.intro rfl rfl) | refine And.intro ?_ ?_ | refine Exists.intro _ (Exists.intro _ (And.intro rfl (And.intro (by decide) ?_))))⟩
    have e1 : wErr rs ss po vs = 0 := by simpa using e1
    have e3 : vs.length ≤ ws.length := by simp at e3; omega
    have hV := (wErr_zero e1).2
    have hvl := hV.len
    have e2 : enB rs ss po vs = true := by rw [← enL_ok e1]; exact e2
    refine Rn.call zB 1000 rfl (c_clone vs f4 (by omega)) [some 3] rfl (by (repeat' first | exact trivial | exact rfl | exact Or.inl (And.intro rfl rfl) | exact wsucc _ (by omega) | exact wlin (by first | omega | (push_cast; omega)) (by omega) | exact wint (by omega) (by omega) | refine And.intro ?_ ?_ | refine Or.inr ?_)) (by (repeat' first | exact trivial | exact rfl | exact (by decide) | exact zerosI _ | exact zerosN _ | exact OfRaw.rows (by omega) | exact Or.inl (And.intro rfl rfl) | refine And.intro ?_ ?_ | refine Exists.intro _ (Exists.intro _ (And.intro rfl (And.intro (by decide) ?_))))) rfl rfl rfl (fun _ => ⟨_, _, rfl, ?_⟩)
    refine Rn.loop zB 1000 rfl (T := Nat × List Int) (fun t => vs.length - t.1) (fun t => t.1 ≤ vs.length ∧ Lesser vs t.2) (fun t => [(49, iA t.1), (48, iA vs.length), (13, slA 6 0 vs.length (Nat.beq vs.length 0) 1), (2, slA 4 0 ws.length f5 1), (5, .one (.ptr (some (5, 0)))), (4, iA cl), (3, iA at_)]) (fun t => ⟨6, true, none, .raw (arr iC t.2)⟩ :: ⟨5, true, none, .ex [.sl (some (0, 0)) rs.length f1 7, .sl (some (1, 0)) ss.length f2 3, .sl (some (2, 0)) po.length f3 2]⟩ :: (shB rs ss po ++ [⟨4, false, none, .raw (arr iC ws)⟩])) (fun _ => 7) ((0, vs)) [some 0, some 1, some 2, some 3, some 4, some 5, some 6] (⟨Nat.zero_le _, Lesser.refl hV⟩) ⟨rfl, rfl, rfl, rfl, rfl, by (repeat' first | exact trivial | exact rfl | exact Or.inl (And.intro rfl rfl) | exact wsucc _ (by omega) | exact wlin (by first | omega | (push_cast; omega)) (by omega) | exact wint (by omega) (by omega) | refine And.intro ?_ ?_ | refine Or.inr ?_), by (repeat' first | exact trivial | exact rfl | exact (by decide) | exact zerosI _ | exact zerosN _ | exact OfRaw.rows (by omega) | exact Or.inl (And.intro rfl rfl) | refine And.intro ?_ ?_ | refine Exists.intro _ (Exists.intro _ (And.intro rfl (And.intro (by decide) ?_))))⟩ ?_
    rintro ⟨i, l⟩ ⟨hi, hl⟩
    dsimp only at hi hl
    have hll := hl.len
    refine Rn.split zB 1000 rfl (fun hlt => ?_) (fun hlt => ?_)
    · have hlt : i < vs.length := by simpa using hlt
      obtain ⟨w, hw⟩ : ∃ w, ws[i]? = some w := ⟨ws[i]'(by omega), List.getElem?_eq_getElem _⟩
      obtain ⟨y, hy⟩ : ∃ y, l[i]? = some y := ⟨l[i]'(by omega), List.getElem?_eq_getElem _⟩
      obtain ⟨z, _, hy0, _⟩ := hl.le i y hy
      refine Rn.draw zB 1000 [0, 0, 0, 0, 12, 28, 60, 0, 0, 384, 896, 2044, 4095, 8191] rfl (by kernel_rfl) (by kernel_rfl) ?_
      refine Rn.ask zB 1000 rfl ⟨by omega, by omega⟩ ?_
      refine Rn.loadR zB 1000 rfl (LoadR.fld eI (f := 0) (v := .int .i64 w) hw (by simp) rfl rfl) ?_
      refine Rn.ask zB 1000 rfl ⟨by omega, by omega⟩ ?_
      refine Rn.loadR zB 1000 rfl (LoadR.fld eI (f := 0) (v := .int .i64 y) hy (by simp) rfl rfl) ?_
      refine Rn.ask zB 1000 rfl ⟨by omega, by omega⟩ ?_
      refine Rn.storeR zB 1000 rfl (StoreR.fld eI (f := 0) (a' := mnW w y) hy (by simp) (by omega) rfl) rfl ?_
      have hm := mnW_le w y hy0
      refine Rn.again zB 1000 rfl ((i + 1, l.set i (mnW w y))) [some 0, some 1, some 2, some 3, some 4, some 5, some 6] (by dsimp only; omega) (⟨hlt, hl.set hy hm.1 hm.2⟩) ⟨rfl, rfl, rfl, rfl, rfl, by (repeat' first | exact trivial | exact rfl | exact Or.inl (And.intro rfl rfl) | exact wsucc _ (by omega) | exact wlin (by first | omega | (push_cast; omega)) (by omega) | exact wint (by omega) (by omega) | refine And.intro ?_ ?_ | refine Or.inr ?_), by (repeat' first | exact trivial | exact rfl | exact (by decide) | exact zerosI _ | exact zerosN _ | exact OfRaw.rows (by omega) | exact Or.inl (And.intro rfl rfl) | refine And.intro ?_ ?_ | refine Exists.intro _ (Exists.intro _ (And.intro rfl (And.intro (by decide) ?_))))⟩
    have hi2 : i = vs.length := by simp at hlt; omega
    subst hi2
    have hV2 := hl.vol hV
    have hl2 := hV2.len
    refine Rn.out zB 1000 rfl rfl ?_
    have ce := c_enoughM rs ss po l f1 f2 f3 (Nat.beq vs.length 0) (by omega) (by omega) (by omega)
    rw [hll] at ce
    refine Rn.call zB 1000 rfl (ce) [some 0, some 1, some 2, some 6] rfl (by (repeat' first | exact trivial | exact rfl | exact Or.inl (And.intro rfl rfl) | exact wsucc _ (by omega) | exact wlin (by first | omega | (push_cast; omega)) (by omega) | exact wint (by omega) (by omega) | refine And.intro ?_ ?_ | refine Or.inr ?_)) (by (repeat' first | exact trivial | exact rfl | exact (by decide) | exact zerosI _ | exact zerosN _ | exact OfRaw.rows (by omega) | exact Or.inl (And.intro rfl rfl) | refine And.intro ?_ ?_ | refine Exists.intro _ (Exists.intro _ (And.intro rfl (And.intro (by decide) ?_))))) rfl rfl rfl ?_
    rintro ⟨_, hE2⟩
    refine ⟨_, _, rfl, ?_⟩
    have hw2 : wErr rs ss po l = 0 := wErr_ok hok hV2
    have he : enL rs ss po l = true := by rw [enL_ok hw2]; exact enough_less B hV hV2 (hE e1) (hE2 hw2) (fun k hk => hl.of k (by omega)) e2
    rw [he, hw2]
    repeat (refine Rn.split zB 1000 rfl (fun h => by cases h) (fun _ => ?_))
    refine Rn.cutEnd zB 1000 rfl (()) [some 0, some 1, some 2, some 3, some 4, some 5] (trivial) ⟨rfl, rfl, rfl, rfl, rfl, by (repeat' first | exact trivial | exact rfl | exact Or.inl (And.intro rfl rfl) | exact wsucc _ (by omega) | exact wlin (by first | omega | (push_cast; omega)) (by omega) | exact wint (by omega) (by omega) | refine And.intro ?_ ?_ | refine Or.inr ?_), by (repeat' first | exact trivial | exact rfl | exact (by decide) | exact zerosI _ | exact zerosN _ | exact OfRaw.rows (by omega) | exact Or.inl (And.intro rfl rfl) | refine And.intro ?_ ?_ | refine Exists.intro _ (Exists.intro _ (And.intro rfl (And.intro (by decide) ?_))))⟩
  rintro - -
  refine Rn.split zB 1000 rfl (fun g1 => ?_) (fun g1 => ?_)
  · repeat (refine Rn.split zB 1000 rfl (fun _ => ?_) (fun h => by cases h))
    exact Rn.fin0 zB 1000 rfl rfl rfl rfl rfl
  obtain ⟨n, rfl⟩ : ∃ n : Nat, at_ = n := ⟨at_.toNat, by simp at g1; omega⟩
  refine Rn.split zB 1000 rfl (fun g2 => ?_) (fun g2 => ?_)
  · repeat (refine Rn.split zB 1000 rfl (fun _ => ?_) (fun h => by cases h))
    exact Rn.fin0 zB 1000 rfl rfl rfl rfl rfl
  have g2 : n < rs.length := by simp at g2; omega
  refine Rn.split zB 1000 rfl (fun g3 => ?_) (fun g3 => ?_)
  · repeat (refine Rn.split zB 1000 rfl (fun _ => ?_) (fun h => by cases h))
    exact Rn.fin0 zB 1000 rfl rfl rfl rfl rfl
  have g3 : 0 ≤ cl := by simpa using g3
  obtain ⟨r, hr⟩ : ∃ r, rs[n]? = some r := ⟨rs[n], List.getElem?_eq_getElem g2⟩
  refine Rn.ask zB 1000 rfl ⟨by omega, by omega⟩ ?_
  refine Rn.loadR zB 1000 rfl (LoadR.fld eRt (f := 6) (v := .int .i64 r.claim) hr (by simp) rfl rfl) ?_
  refine Rn.split zB 1000 rfl (fun g4 => ?_) (fun g4 => ?_)
  · exact Rn.fin0 zB 1000 rfl rfl rfl rfl rfl
  have g4 : cl ≤ r.claim := by simpa using g4
  have hok2 := shareOK_set hok hr g3 g4
  have hl3 : (rs.set n (setClaim r cl)).length = rs.length := List.length_set
  refine Rn.call zB 1000 rfl (c_cloneR rs f1 (by omega)) [some 0] rfl (by (repeat' first | exact trivial | exact rfl | exact Or.inl (And.intro rfl rfl) | exact wsucc _ (by omega) | exact wlin (by first | omega | (push_cast; omega)) (by omega) | exact wint (by omega) (by omega) | refine And.intro ?_ ?_ | refine Or.inr ?_)) (by (repeat' first | exact trivial | exact rfl | exact (by decide) | exact zerosI _ | exact zerosN _ | exact OfRaw.rows (by omega) | exact Or.inl (And.intro rfl rfl) | refine And.intro ?_ ?_ | refine Exists.intro _ (Exists.intro _ (And.intro rfl (And.intro (by decide) ?_))))) rfl rfl rfl (fun _ => ⟨_, _, rfl, ?_⟩)
  refine Rn.ask zB 1000 rfl ⟨by omega, by omega⟩ ?_
  refine Rn.storeR zB 1000 rfl (StoreR.fld eRt (f := 6) (a' := setClaim r cl) hr (by simp) (by omega) rfl) rfl ?_
  refine Rn.call zB 1000 rfl (c_promiseOK rs ss po f1 f2 f3 hok) [some 0, some 1, some 2] rfl (by (repeat' first | exact trivial | exact rfl | exact Or.inl (And.intro rfl rfl) | exact wsucc _ (by omega) | exact wlin (by first | omega | (push_cast; omega)) (by omega) | exact wint (by omega) (by omega) | refine And.intro ?_ ?_ | refine Or.inr ?_)) (by (repeat' first | exact trivial | exact rfl | exact (by decide) | exact zerosI _ | exact zerosN _ | exact OfRaw.rows (by omega) | exact Or.inl (And.intro rfl rfl) | refine And.intro ?_ ?_ | refine Exists.intro _ (Exists.intro _ (And.intro rfl (And.intro (by decide) ?_))))) rfl rfl rfl ?_
  rintro ⟨p, hp⟩
  refine ⟨_, _, rfl, ?_⟩
  have c2 := c_promiseOK (rs.set n (setClaim r cl)) ss po (Nat.beq rs.length 0) f2 f3 hok2
  rw [hl3] at c2
  refine Rn.call zB 1000 rfl (c2) [some 7, some 1, some 2] rfl (by (repeat' first | exact trivial | exact rfl | exact Or.inl (And.intro rfl rfl) | exact wsucc _ (by omega) | exact wlin (by first | omega | (push_cast; omega)) (by omega) | exact wint (by omega) (by omega) | refine And.intro ?_ ?_ | refine Or.inr ?_)) (by (repeat' first | exact trivial | exact rfl | exact (by decide) | exact zerosI _ | exact zerosN _ | exact OfRaw.rows (by omega) | exact Or.inl (And.intro rfl rfl) | refine And.intro ?_ ?_ | refine Exists.intro _ (Exists.intro _ (And.intro rfl (And.intro (by decide) ?_))))) rfl rfl rfl ?_
  rintro ⟨q, hq⟩
  refine ⟨_, _, rfl, ?_⟩
  obtain ⟨hge, hcl⟩ := promised_less B hr g3 g4 hp hq
  have pl := hp.len
  have ql := hq.len
  rw [hl3] at ql
  repeat (refine Rn.split zB 1000 rfl (fun h => by cases h) (fun _ => ?_))
  refine Rn.split zB 1000 rfl (fun k1 => ?_) (fun k1 => ?_)
  · simp at k1
  refine Rn.split zB 1000 rfl (fun k2 => ?_) (fun k2 => ?_)
  · simp at k2
  refine Rn.loop zB 1000 rfl (T := Nat) (fun i => rs.length - i) (fun i => i ≤ rs.length) (fun i => [(145, iA i), (144, iA rs.length), (19, slA 9 0 rs.length true 1), (18, slA 8 0 rs.length true 1), (4, iA cl), (3, iA n)]) (fun i => [⟨8, true, none, .raw (arr iC p)⟩, ⟨9, true, none, .raw (arr iC q)⟩]) (fun _ => 10) (0) [some 0, some 1, some 2, some 3, some 4, some 5, some 6, some 7, some 8, some 9] (Nat.zero_le _) ⟨rfl, rfl, rfl, rfl, rfl, by (repeat' first | exact trivial | exact rfl | exact Or.inl (And.intro rfl rfl) | exact wsucc _ (by omega) | exact wlin (by first | omega | (push_cast; omega)) (by omega) | exact wint (by omega) (by omega) | refine And.intro ?_ ?_ | refine Or.inr ?_), by (repeat' first | exact trivial | exact rfl | exact (by decide) | exact zerosI _ | exact zerosN _ | exact OfRaw.rows (by omega) | exact Or.inl (And.intro rfl rfl) | refine And.intro ?_ ?_ | refine Exists.intro _ (Exists.intro _ (And.intro rfl (And.intro (by decide) ?_))))⟩ ?_
  rintro i hi
  refine Rn.split zB 1000 rfl (fun hlt => ?_) (fun hlt => ?_)
  · have hlt : i < rs.length := by simpa using hlt
    obtain ⟨x, hx⟩ : ∃ x, p[i]? = some x := ⟨p[i]'(by omega), List.getElem?_eq_getElem _⟩
    obtain ⟨y, hy⟩ : ∃ y, q[i]? = some y := ⟨q[i]'(by omega), List.getElem?_eq_getElem _⟩
    have hxy : i ≠ n → x ≤ y := fun hne => by
      have := hge i hlt hne
      rw [List.getD_eq_getElem?_getD, List.getD_eq_getElem?_getD, hx, hy] at this
      exact this
    refine Rn.draw zB 1000 [0, 0, 3, 7, 15, 15, 63, 127, 15, 15, 783, 1807, 4095, 8191] rfl (by kernel_rfl) (by kernel_rfl) ?_
    refine Rn.split zB 1000 rfl (fun d1 => ?_) (fun d1 => ?_)
    · have d1 : i ≠ n := by simp at d1; omega
      have hxy := hxy d1
      refine Rn.ask zB 1000 rfl ⟨by omega, by omega⟩ ?_
      refine Rn.loadR zB 1000 rfl (LoadR.fld eI (f := 0) (v := .int .i64 y) hy (by simp) rfl rfl) ?_
      refine Rn.ask zB 1000 rfl ⟨by omega, by omega⟩ ?_
      refine Rn.loadR zB 1000 rfl (LoadR.fld eI (f := 0) (v := .int .i64 x) hx (by simp) rfl rfl) ?_
      refine Rn.split zB 1000 rfl (fun d2 => ?_) (fun d2 => ?_)
      · simp at d2; omega
      refine Rn.again zB 1000 rfl (i + 1) [some 0, some 1, some 2, some 3, some 4, some 5, some 6, some 7, some 8, some 9] (by omega) (hlt) ⟨rfl, rfl, rfl, rfl, rfl, by (repeat' first | exact trivial | exact rfl | exact Or.inl (And.intro rfl rfl) | exact wsucc _ (by omega) | exact wlin (by first | omega | (push_cast; omega)) (by omega) | exact wint (by omega) (by omega) | refine And.intro ?_ ?_ | refine Or.inr ?_), by (repeat' first | exact trivial | exact rfl | exact (by decide) | exact zerosI _ | exact zerosN _ | exact OfRaw.rows (by omega) | exact Or.inl (And.intro rfl rfl) | refine And.intro ?_ ?_ | refine Exists.intro _ (Exists.intro _ (And.intro rfl (And.intro (by decide) ?_))))⟩
    · repeat (refine Rn.split zB 1000 rfl (fun h => by cases h) (fun _ => ?_))
      refine Rn.again zB 1000 rfl (i + 1) [some 0, some 1, some 2, some 3, some 4, some 5, some 6, some 7, some 8, some 9] (by omega) (hlt) ⟨rfl, rfl, rfl, rfl, rfl, by (repeat' first | exact trivial | exact rfl | exact Or.inl (And.intro rfl rfl) | exact wsucc _ (by omega) | exact wlin (by first | omega | (push_cast; omega)) (by omega) | exact wint (by omega) (by omega) | refine And.intro ?_ ?_ | refine Or.inr ?_), by (repeat' first | exact trivial | exact rfl | exact (by decide) | exact zerosI _ | exact zerosN _ | exact OfRaw.rows (by omega) | exact Or.inl (And.intro rfl rfl) | refine And.intro ?_ ?_ | refine Exists.intro _ (Exists.intro _ (And.intro rfl (And.intro (by decide) ?_))))⟩
  refine Rn.out zB 1000 rfl rfl ?_
  obtain ⟨y, hy⟩ : ∃ y, q[n]? = some y := ⟨q[n]'(by omega), List.getElem?_eq_getElem _⟩
  have hyc : y ≤ cl := by
    rw [List.getD_eq_getElem?_getD, hy] at hcl
    exact hcl
  refine Rn.ask zB 1000 rfl ⟨by omega, by omega⟩ ?_
  refine Rn.loadR zB 1000 rfl (LoadR.fld eI (f := 0) (v := .int .i64 y) hy (by simp) rfl rfl) ?_
  refine Rn.fin0 zB 1000 rfl rfl rfl rfl ?_
  rw [decide_eq_true hyc]
end Go.AM
