/- Walks: the specification's laid. -/
import Derived.Test.YtlkbcjhemhmfoaaGreatDoorWp0
set_option linter.unusedSimpArgs false
set_option linter.unusedVariables false
namespace Go.AM
open Go Go.Proofs
open Snow (Pipe)
set_option maxRecDepth 10000
set_option maxHeartbeats 1000000

def pipC (p : Pipe) : List Sc := [.int .i64 p.fr, .int .i64 p.to, .int .i64 p.most, .int .i64 p.now]
theorem ePip : Elt pipC 4 := ⟨fun _ => rfl, fun _ => rfl⟩
theorem pipCells (ps : List Pipe) {a b m : Int} {fr to : Nat} (ha : a = fr) (hb : b = to) : arr pipC ps ++ [.int .i64 a, .int .i64 b, .int .i64 m, .int .i64 0] = arr pipC (ps ++ [Pipe.mk fr to m 0]) := by
  subst ha; subst hb
  rw [arr_append]; rfl
def rdP (rs : List Rt) (ss : List Su) (v : Nat → Int) (i k : Nat) : List Pipe := ((List.range k).filter (fun k => winOf rs ss k i)).map fun k => ⟨1 + i, 1 + ss.length + k, v k, 0⟩
def rsP (rs : List Rt) (ss : List Su) (po : List Po) (v : Nat → Int) (i : Nat) : List Pipe := [⟨0, 1 + i, volOf ss i, 0⟩] ++ (if i + 1 < ss.length ∧ fol ss (i + 1) = true then [⟨1 + i, 1 + i + 1, (instOf rs ss po).room (i + 1), 0⟩] else []) ++ rdP rs ss v i rs.length
def rlayP (rs : List Rt) (ss : List Su) (po : List Po) (v : Nat → Int) : List Pipe := Snow.refPipes (instOf rs ss po) (fol ss) v
theorem rlayP_eq (rs : List Rt) (ss : List Su) (po : List Po) (v : Nat → Int) : rlayP rs ss po v = (List.range ss.length).flatMap (rsP rs ss po v) ++ (List.range rs.length).map fun k => ⟨1 + ss.length + k, 1 + ss.length + rs.length, v k, 0⟩ := rfl
theorem fol_next {ss : List Su} {i : Nat} {a b : Su} (ha : ss[i]? = some a) (hb : ss[i + 1]? = some b) : fol ss (i + 1) = (a.valley == b.valley) := fol_pos (by omega) ha hb
theorem fol_val {ss : List Su} {i : Nat} (h : fol ss (i + 1) = true) : valOf ss (i + 1) = valOf ss i := by
  unfold fol at h
  rw [Nat.add_sub_cancel] at h
  unfold valOf
  cases ha : ss[i]? with
  | none => rw [ha] at h; simp at h
  | some a => cases hb : ss[i + 1]? with
    | none => rw [ha, hb] at h; simp at h
    | some b => rw [ha, hb] at h; simp at h; exact h.symm

theorem c_rlaid (rs : List Rt) (ss : List Su) (po : List Po) (f1 f2 f3 fv : Bool) (vs : List Int) (hr : rs.length ≤ 32) (hs : ss.length ≤ 64) (hp : po.length < 1152921504606846976) (hv : vs.length = rs.length) :
    Ct envB 130 [shA rs.length ss.length po.length f1 f2 f3, slA 3 0 rs.length fv 1] (shB rs ss po ++ [⟨3, false, none, .raw (arr iC vs)⟩]) 4 Unit (fun _ => slA 4 0 (rlayP rs ss po (vOf vs)).length false 4) (fun _ => [⟨4, true, none, .raw (arr pipC (rlayP rs ss po (vOf vs)))⟩]) (fun _ => 5) := by
  have hw1 : IntKind.wrap .i64 (1 + (ss.length : Int)) = ((1 + ss.length : Nat) : Int) := by rw [w64_id (by omega) (by omega)]; omega
  have hw2 : IntKind.wrap .i64 (IntKind.wrap .i64 (1 + (ss.length : Int)) + (rs.length : Int)) = ((1 + ss.length + rs.length : Nat) : Int) := by rw [hw1, w64_id (by omega) (by omega)]; omega
  refine Ct.of zB (fn := Tryz.f130) (by kernel_rfl) (by kernel_rfl) rfl rfl ?_
  refine Rn.loop zB 1000 rfl (T := Nat × List Pipe) (fun t => ss.length - t.1) (fun t => t.1 ≤ ss.length ∧ t.2 = (List.range t.1).flatMap (rsP rs ss po (vOf vs)) ∧ t.2.length ≤ 34 * t.1) (fun t => [(8, iA t.1), (7, iA (1 + ss.length + rs.length : Nat)), (6, iA ss.length), (5, slA 5 0 t.2.length false 4), (2, .one (.ptr (some (4, 0)))), (1, slA 3 0 rs.length fv 1)]) (fun t => [⟨4, true, none, .ex [.sl (some (0, 0)) rs.length f1 7, .sl (some (1, 0)) ss.length f2 3, .sl (some (2, 0)) po.length f3 2]⟩, ⟨5, true, none, .raw (arr pipC t.2)⟩, ⟨3, false, none, .raw (arr iC vs)⟩] ++ shB rs ss po) (fun _ => 6) ((0, [])) [some 0, some 1, some 2, some 3, some 4, none] (⟨Nat.zero_le _, rfl, Nat.le_refl _⟩) ⟨rfl, rfl, rfl, rfl, rfl, by (repeat' first | exact trivial | exact rfl | exact Or.inl (And.intro rfl rfl) | exact wsucc _ (by omega) | exact wlin (by first | omega | (push_cast; omega)) (by omega) | refine And.intro ?_ ?_ | refine Or.inr ?_), by (repeat' first | exact trivial | exact rfl | exact (by decide) | exact zerosI _ | exact zerosN _ | exact OfRaw.rows (by omega) | exact Or.inl (And.intro rfl rfl) | refine And.intro ?_ ?_ | refine Exists.intro _ (Exists.intro _ (And.intro rfl (And.intro (by decide) ?_))))⟩ ?_
  rintro ⟨i, ps⟩ ⟨hi, hps, hpl⟩
  dsimp only at hi hps hpl
  refine Rn.split zB 1000 rfl (fun hlt => ?_) (fun hlt => ?_)
  · have hlt : i < ss.length := by simpa using hlt
    obtain ⟨x, hx⟩ : ∃ x, ss[i]? = some x := ⟨ss[i], List.getElem?_eq_getElem hlt⟩
    have hvol : volOf ss i = x.vol := by unfold volOf; rw [hx]
    have hval : valOf ss i = x.valley := by unfold valOf; rw [hx]
    have hwi : IntKind.wrap .i64 (1 + (i : Int)) = ((1 + i : Nat) : Int) := by rw [w64_id (by omega) (by omega)]; omega
    refine Rn.ask zB 1000 rfl ⟨by first | omega | (dsimp only; omega), by first | omega | (dsimp only; omega)⟩ ?_
    refine Rn.loadR zB 1000 rfl (LoadR.elt eSu hx (by simp)) ?_
    have hl1 : (ps ++ [Pipe.mk 0 (1 + i) x.vol 0]).length = ps.length + 1 := by simp
    refine Rn.appN zB 1000 rfl (arr pipC (ps ++ [Pipe.mk 0 (1 + i) x.vol 0])) (Src.raw rfl rfl (cells_all ePip ps)) (Src.ex rfl rfl rfl (cells_ex rfl)) (pipCells ps rfl hwi) rfl ((ps ++ [Pipe.mk 0 (1 + i) x.vol 0]).length) (by first | rfl | omega | (simp; done) | (simp; omega)) (by omega) rfl (by omega) rfl rfl ?_
    refine Rn.draw zB 1000 [0, 1, 0, 7, 15, 31, 63, 31, 159, 511, 1023, 2047, 31, 4127, 16383, 32767] rfl (by kernel_rfl) (by kernel_rfl) ?_
    have hwi1 : IntKind.wrap .i64 ((i : Int) + 1) = ((i + 1 : Nat) : Int) := by rw [w64_id (by omega) (by omega)]; omega
    have hwi2 : IntKind.wrap .i64 (2 + (i : Int)) = ((1 + i + 1 : Nat) : Int) := by rw [w64_id (by omega) (by omega)]; omega
    refine Rn.split zB 1000 rfl (fun h9 => ?_) (fun h9 => ?_)
    · have h9 : i + 1 < ss.length := by rw [hwi1] at h9; simp at h9; omega
      obtain ⟨y, hy⟩ : ∃ y, ss[i + 1]? = some y := ⟨ss[i + 1], List.getElem?_eq_getElem h9⟩
      refine Rn.ask zB 1000 rfl ⟨by first | omega | (dsimp only; omega), by first | omega | (dsimp only; omega)⟩ ?_
      refine Rn.loadR zB 1000 rfl (LoadR.fld eSu (f := 0) (v := .int .i64 y.valley) hy (by rw [hwi1]; simp) rfl rfl) ?_
      refine Rn.split zB 1000 rfl (fun hf => ?_) (fun hf => ?_)
      · have hf : fol ss (i + 1) = true := by
          rw [fol_next hx hy]; simp at hf ⊢; omega
        have hcond : (if i + 1 < ss.length ∧ fol ss (i + 1) = true then [Pipe.mk (1 + i) (1 + i + 1) ((instOf rs ss po).room (i + 1)) 0] else []) = [Pipe.mk (1 + i) (1 + i + 1) (roomOf po x.valley) 0] := by
          rw [if_pos ⟨h9, hf⟩]; simp [instOf, hf, fol_val hf, hval]
        refine Rn.call0 zB 1000 rfl (c_rroom rs ss po f1 f2 f3 hp x.valley) [some 0, some 1, some 2] rfl rfl (by (repeat' first | exact trivial | exact rfl | exact Or.inl (And.intro rfl rfl) | exact wsucc _ (by omega) | exact wlin (by first | omega | (push_cast; omega)) (by omega) | refine And.intro ?_ ?_ | refine Or.inr ?_)) (by (repeat' first | exact trivial | exact rfl | exact (by decide) | exact zerosI _ | exact zerosN _ | exact OfRaw.rows (by omega) | exact Or.inl (And.intro rfl rfl) | refine And.intro ?_ ?_ | refine Exists.intro _ (Exists.intro _ (And.intro rfl (And.intro (by decide) ?_))))) rfl rfl rfl rfl rfl ?_
        have hl2 : ((ps ++ [Pipe.mk 0 (1 + i) x.vol 0]) ++ [Pipe.mk (1 + i) (1 + i + 1) (roomOf po x.valley) 0]).length = ps.length + 1 + 1 := by simp
        refine Rn.appN zB 1000 rfl (arr pipC ((ps ++ [Pipe.mk 0 (1 + i) x.vol 0]) ++ [Pipe.mk (1 + i) (1 + i + 1) (roomOf po x.valley) 0])) (Src.raw rfl rfl (cells_all ePip (ps ++ [Pipe.mk 0 (1 + i) x.vol 0]))) (Src.ex rfl rfl rfl (cells_ex rfl)) (pipCells (ps ++ [Pipe.mk 0 (1 + i) x.vol 0]) hwi hwi2) rfl (((ps ++ [Pipe.mk 0 (1 + i) x.vol 0]) ++ [Pipe.mk (1 + i) (1 + i + 1) (roomOf po x.valley) 0]).length) (by first | rfl | omega | (simp; done) | (simp; omega)) (by omega) rfl (by omega) rfl rfl ?_
        refine Rn.loop zB 1000 rfl (T := Nat × List Pipe) (fun t => rs.length - t.1) (fun t => t.1 ≤ rs.length ∧ t.2 = ((ps ++ [Pipe.mk 0 (1 + i) x.vol 0]) ++ [Pipe.mk (1 + i) (1 + i + 1) (roomOf po x.valley) 0]) ++ rdP rs ss (vOf vs) i t.1 ∧ t.2.length ≤ 34 * i + 2 + t.1) (fun t => [(10, iA t.1), (9, .one (.ptr (some (6, 0)))), (8, iA i), (7, iA (1 + ss.length + rs.length : Nat)), (6, iA ss.length), (5, slA 5 0 t.2.length false 4), (2, .one (.ptr (some (4, 0)))), (1, slA 3 0 rs.length fv 1)]) (fun t => [⟨4, true, none, .ex [.sl (some (0, 0)) rs.length f1 7, .sl (some (1, 0)) ss.length f2 3, .sl (some (2, 0)) po.length f3 2]⟩, ⟨5, true, none, .raw (arr pipC t.2)⟩, ⟨6, true, none, .ex x.c⟩, ⟨3, false, none, .raw (arr iC vs)⟩] ++ shB rs ss po) (fun _ => 7) ((0, ((ps ++ [Pipe.mk 0 (1 + i) x.vol 0]) ++ [Pipe.mk (1 + i) (1 + i + 1) (roomOf po x.valley) 0]))) [some 0, some 1, some 2, some 3, some 4, some 10, some 6] (⟨Nat.zero_le _, by dsimp only; simp [rdP], by dsimp only; omega⟩) ⟨rfl, rfl, rfl, rfl, rfl, by (repeat' first | exact trivial | exact rfl | exact Or.inl (And.intro rfl rfl) | exact wsucc _ (by omega) | exact wlin (by first | omega | (push_cast; omega)) (by omega) | refine And.intro ?_ ?_ | refine Or.inr ?_), by (repeat' first | exact trivial | exact rfl | exact (by decide) | exact zerosI _ | exact zerosN _ | exact OfRaw.rows (by omega) | exact Or.inl (And.intro rfl rfl) | refine And.intro ?_ ?_ | refine Exists.intro _ (Exists.intro _ (And.intro rfl (And.intro (by decide) ?_))))⟩ ?_
        rintro ⟨j, qs⟩ ⟨hj, hqs, hql⟩
        dsimp only at hj hqs hql
        refine Rn.split zB 1000 rfl (fun hlj => ?_) (fun hlj => ?_)
        · have hlj : j < rs.length := by simpa using hlj
          obtain ⟨r, hrj⟩ : ∃ r, rs[j]? = some r := ⟨rs[j], List.getElem?_eq_getElem hlj⟩
          have hwo : winOf rs ss j i = win r x := by unfold winOf; rw [hrj, hx]
          refine Rn.draw zB 1000 [0, 1, 0, 7, 15, 0, 63, 127] rfl (by kernel_rfl) (by kernel_rfl) ?_
          refine Rn.ask zB 1000 rfl ⟨by first | omega | (dsimp only; omega), by first | omega | (dsimp only; omega)⟩ ?_
          refine Rn.loadR zB 1000 rfl (LoadR.elt eRt hrj (by simp)) ?_
          refine Rn.split zB 1000 rfl (fun hwin => ?_) (fun hwin => ?_)
          · have hwin : winOf rs ss j i = true := hwo.trans hwin
            have hvj : vs[j]? = some (vOf vs j) := by unfold vOf; rw [List.getD_eq_getElem?_getD, List.getElem?_eq_getElem (by omega)]; rfl
            have hwj : IntKind.wrap .i64 (IntKind.wrap .i64 (1 + (ss.length : Int)) + (j : Int)) = ((1 + ss.length + j : Nat) : Int) := by rw [hw1, w64_id (by omega) (by omega)]; omega
            refine Rn.ask zB 1000 rfl ⟨by first | omega | (dsimp only; omega), by first | omega | (dsimp only; omega)⟩ ?_
            refine Rn.loadR zB 1000 rfl (LoadR.fld eI (f := 0) (v := .int .i64 (vOf vs j)) hvj (by simp) rfl rfl) ?_
            have hdl : (qs ++ [Pipe.mk (1 + i) (1 + ss.length + j) (vOf vs j) 0]).length = qs.length + 1 := by simp
            refine Rn.appN zB 1000 rfl (arr pipC (qs ++ [Pipe.mk (1 + i) (1 + ss.length + j) (vOf vs j) 0])) (Src.raw rfl rfl (cells_all ePip qs)) (Src.ex rfl rfl rfl (cells_ex rfl)) (pipCells qs hwi hwj) rfl ((qs ++ [Pipe.mk (1 + i) (1 + ss.length + j) (vOf vs j) 0]).length) (by first | rfl | omega | (simp; done) | (simp; omega)) (by omega) rfl (by omega) rfl rfl ?_
            refine Rn.again zB 1000 rfl ((j + 1, qs ++ [Pipe.mk (1 + i) (1 + ss.length + j) (vOf vs j) 0])) [some 0, some 1, some 2, some 3, some 4, some 8, some 6] (by dsimp only; omega) ⟨hlj, by dsimp only; rw [hqs, rdP, rdP, range_filter_t (fun k => winOf rs ss k i) hwin]; simp, by dsimp only; simp; omega⟩ ⟨rfl, rfl, rfl, rfl, rfl, by (repeat' first | exact trivial | exact rfl | exact Or.inl (And.intro rfl rfl) | exact wsucc _ (by omega) | exact wlin (by first | omega | (push_cast; omega)) (by omega) | refine And.intro ?_ ?_ | refine Or.inr ?_), by (repeat' first | exact trivial | exact rfl | exact (by decide) | exact zerosI _ | exact zerosN _ | exact OfRaw.rows (by omega) | exact Or.inl (And.intro rfl rfl) | refine And.intro ?_ ?_ | refine Exists.intro _ (Exists.intro _ (And.intro rfl (And.intro (by decide) ?_))))⟩
          · have hwin : winOf rs ss j i = false := hwo.trans hwin
            refine Rn.again zB 1000 rfl ((j + 1, qs)) [some 0, some 1, some 2, some 3, some 4, some 5, some 6] (by dsimp only; omega) ⟨hlj, by dsimp only; rw [hqs, rdP, rdP, range_filter_f (fun k => winOf rs ss k i) hwin], by dsimp only; omega⟩ ⟨rfl, rfl, rfl, rfl, rfl, by (repeat' first | exact trivial | exact rfl | exact Or.inl (And.intro rfl rfl) | exact wsucc _ (by omega) | exact wlin (by first | omega | (push_cast; omega)) (by omega) | refine And.intro ?_ ?_ | refine Or.inr ?_), by (repeat' first | exact trivial | exact rfl | exact (by decide) | exact zerosI _ | exact zerosN _ | exact OfRaw.rows (by omega) | exact Or.inl (And.intro rfl rfl) | refine And.intro ?_ ?_ | refine Exists.intro _ (Exists.intro _ (And.intro rfl (And.intro (by decide) ?_))))⟩
        · have hlj : j = rs.length := by simp at hlj; omega
          subst hlj
          refine Rn.out zB 1000 rfl rfl ?_
          refine Rn.again zB 1000 rfl ((i + 1, qs)) [some 0, some 1, some 2, some 3, some 4, some 5] (by dsimp only; omega) ⟨hlt, by dsimp only; rw [range_flat, ← hps, hqs, rsP, hcond, hvol]; simp, by dsimp only; omega⟩ ⟨rfl, rfl, rfl, rfl, rfl, by (repeat' first | exact trivial | exact rfl | exact Or.inl (And.intro rfl rfl) | exact wsucc _ (by omega) | exact wlin (by first | omega | (push_cast; omega)) (by omega) | refine And.intro ?_ ?_ | refine Or.inr ?_), by (repeat' first | exact trivial | exact rfl | exact (by decide) | exact zerosI _ | exact zerosN _ | exact OfRaw.rows (by omega) | exact Or.inl (And.intro rfl rfl) | refine And.intro ?_ ?_ | refine Exists.intro _ (Exists.intro _ (And.intro rfl (And.intro (by decide) ?_))))⟩
      · have hf : fol ss (i + 1) = false := by
          rw [fol_next hx hy]; simp at hf ⊢; omega
        have hcond : (if i + 1 < ss.length ∧ fol ss (i + 1) = true then [Pipe.mk (1 + i) (1 + i + 1) ((instOf rs ss po).room (i + 1)) 0] else []) = [] := by rw [hf]; simp
        refine Rn.loop zB 1000 rfl (T := Nat × List Pipe) (fun t => rs.length - t.1) (fun t => t.1 ≤ rs.length ∧ t.2 = (ps ++ [Pipe.mk 0 (1 + i) x.vol 0]) ++ rdP rs ss (vOf vs) i t.1 ∧ t.2.length ≤ 34 * i + 2 + t.1) (fun t => [(10, iA t.1), (9, .one (.ptr (some (6, 0)))), (8, iA i), (7, iA (1 + ss.length + rs.length : Nat)), (6, iA ss.length), (5, slA 5 0 t.2.length false 4), (2, .one (.ptr (some (4, 0)))), (1, slA 3 0 rs.length fv 1)]) (fun t => [⟨4, true, none, .ex [.sl (some (0, 0)) rs.length f1 7, .sl (some (1, 0)) ss.length f2 3, .sl (some (2, 0)) po.length f3 2]⟩, ⟨5, true, none, .raw (arr pipC t.2)⟩, ⟨6, true, none, .ex x.c⟩, ⟨3, false, none, .raw (arr iC vs)⟩] ++ shB rs ss po) (fun _ => 7) ((0, (ps ++ [Pipe.mk 0 (1 + i) x.vol 0]))) [some 0, some 1, some 2, some 3, some 4, some 8, some 6] (⟨Nat.zero_le _, by dsimp only; simp [rdP], by dsimp only; omega⟩) ⟨rfl, rfl, rfl, rfl, rfl, by (repeat' first | exact trivial | exact rfl | exact Or.inl (And.intro rfl rfl) | exact wsucc _ (by omega) | exact wlin (by first | omega | (push_cast; omega)) (by omega) | refine And.intro ?_ ?_ | refine Or.inr ?_), by (repeat' first | exact trivial | exact rfl | exact (by decide) | exact zerosI _ | exact zerosN _ | exact OfRaw.rows (by omega) | exact Or.inl (And.intro rfl rfl) | refine And.intro ?_ ?_ | refine Exists.intro _ (Exists.intro _ (And.intro rfl (And.intro (by decide) ?_))))⟩ ?_
        rintro ⟨j, qs⟩ ⟨hj, hqs, hql⟩
        dsimp only at hj hqs hql
        refine Rn.split zB 1000 rfl (fun hlj => ?_) (fun hlj => ?_)
        · have hlj : j < rs.length := by simpa using hlj
          obtain ⟨r, hrj⟩ : ∃ r, rs[j]? = some r := ⟨rs[j], List.getElem?_eq_getElem hlj⟩
          have hwo : winOf rs ss j i = win r x := by unfold winOf; rw [hrj, hx]
          refine Rn.draw zB 1000 [0, 1, 0, 7, 15, 0, 63, 127] rfl (by kernel_rfl) (by kernel_rfl) ?_
          refine Rn.ask zB 1000 rfl ⟨by first | omega | (dsimp only; omega), by first | omega | (dsimp only; omega)⟩ ?_
          refine Rn.loadR zB 1000 rfl (LoadR.elt eRt hrj (by simp)) ?_
          refine Rn.split zB 1000 rfl (fun hwin => ?_) (fun hwin => ?_)
          · have hwin : winOf rs ss j i = true := hwo.trans hwin
            have hvj : vs[j]? = some (vOf vs j) := by unfold vOf; rw [List.getD_eq_getElem?_getD, List.getElem?_eq_getElem (by omega)]; rfl
            have hwj : IntKind.wrap .i64 (IntKind.wrap .i64 (1 + (ss.length : Int)) + (j : Int)) = ((1 + ss.length + j : Nat) : Int) := by rw [hw1, w64_id (by omega) (by omega)]; omega
            refine Rn.ask zB 1000 rfl ⟨by first | omega | (dsimp only; omega), by first | omega | (dsimp only; omega)⟩ ?_
            refine Rn.loadR zB 1000 rfl (LoadR.fld eI (f := 0) (v := .int .i64 (vOf vs j)) hvj (by simp) rfl rfl) ?_
            have hdl : (qs ++ [Pipe.mk (1 + i) (1 + ss.length + j) (vOf vs j) 0]).length = qs.length + 1 := by simp
            refine Rn.appN zB 1000 rfl (arr pipC (qs ++ [Pipe.mk (1 + i) (1 + ss.length + j) (vOf vs j) 0])) (Src.raw rfl rfl (cells_all ePip qs)) (Src.ex rfl rfl rfl (cells_ex rfl)) (pipCells qs hwi hwj) rfl ((qs ++ [Pipe.mk (1 + i) (1 + ss.length + j) (vOf vs j) 0]).length) (by first | rfl | omega | (simp; done) | (simp; omega)) (by omega) rfl (by omega) rfl rfl ?_
            refine Rn.again zB 1000 rfl ((j + 1, qs ++ [Pipe.mk (1 + i) (1 + ss.length + j) (vOf vs j) 0])) [some 0, some 1, some 2, some 3, some 4, some 8, some 6] (by dsimp only; omega) ⟨hlj, by dsimp only; rw [hqs, rdP, rdP, range_filter_t (fun k => winOf rs ss k i) hwin]; simp, by dsimp only; simp; omega⟩ ⟨rfl, rfl, rfl, rfl, rfl, by (repeat' first | exact trivial | exact rfl | exact Or.inl (And.intro rfl rfl) | exact wsucc _ (by omega) | exact wlin (by first | omega | (push_cast; omega)) (by omega) | refine And.intro ?_ ?_ | refine Or.inr ?_), by (repeat' first | exact trivial | exact rfl | exact (by decide) | exact zerosI _ | exact zerosN _ | exact OfRaw.rows (by omega) | exact Or.inl (And.intro rfl rfl) | refine And.intro ?_ ?_ | refine Exists.intro _ (Exists.intro _ (And.intro rfl (And.intro (by decide) ?_))))⟩
          · have hwin : winOf rs ss j i = false := hwo.trans hwin
            refine Rn.again zB 1000 rfl ((j + 1, qs)) [some 0, some 1, some 2, some 3, some 4, some 5, some 6] (by dsimp only; omega) ⟨hlj, by dsimp only; rw [hqs, rdP, rdP, range_filter_f (fun k => winOf rs ss k i) hwin], by dsimp only; omega⟩ ⟨rfl, rfl, rfl, rfl, rfl, by (repeat' first | exact trivial | exact rfl | exact Or.inl (And.intro rfl rfl) | exact wsucc _ (by omega) | exact wlin (by first | omega | (push_cast; omega)) (by omega) | refine And.intro ?_ ?_ | refine Or.inr ?_), by (repeat' first | exact trivial | exact rfl | exact (by decide) | exact zerosI _ | exact zerosN _ | exact OfRaw.rows (by omega) | exact Or.inl (And.intro rfl rfl) | refine And.intro ?_ ?_ | refine Exists.intro _ (Exists.intro _ (And.intro rfl (And.intro (by decide) ?_))))⟩
        · have hlj : j = rs.length := by simp at hlj; omega
          subst hlj
          refine Rn.out zB 1000 rfl rfl ?_
          refine Rn.again zB 1000 rfl ((i + 1, qs)) [some 0, some 1, some 2, some 3, some 4, some 5] (by dsimp only; omega) ⟨hlt, by dsimp only; rw [range_flat, ← hps, hqs, rsP, hcond, hvol]; simp, by dsimp only; omega⟩ ⟨rfl, rfl, rfl, rfl, rfl, by (repeat' first | exact trivial | exact rfl | exact Or.inl (And.intro rfl rfl) | exact wsucc _ (by omega) | exact wlin (by first | omega | (push_cast; omega)) (by omega) | refine And.intro ?_ ?_ | refine Or.inr ?_), by (repeat' first | exact trivial | exact rfl | exact (by decide) | exact zerosI _ | exact zerosN _ | exact OfRaw.rows (by omega) | exact Or.inl (And.intro rfl rfl) | refine And.intro ?_ ?_ | refine Exists.intro _ (Exists.intro _ (And.intro rfl (And.intro (by decide) ?_))))⟩
    · have h9 : ¬ i + 1 < ss.length := by rw [hwi1] at h9; simp at h9; omega
      have hcond : (if i + 1 < ss.length ∧ fol ss (i + 1) = true then [Pipe.mk (1 + i) (1 + i + 1) ((instOf rs ss po).room (i + 1)) 0] else []) = [] := if_neg fun h => h9 h.1
      refine Rn.split zB 1000 rfl (fun h => ?_) (fun h => ?_)
      · cases h
      refine Rn.loop zB 1000 rfl (T := Nat × List Pipe) (fun t => rs.length - t.1) (fun t => t.1 ≤ rs.length ∧ t.2 = (ps ++ [Pipe.mk 0 (1 + i) x.vol 0]) ++ rdP rs ss (vOf vs) i t.1 ∧ t.2.length ≤ 34 * i + 2 + t.1) (fun t => [(10, iA t.1), (9, .one (.ptr (some (6, 0)))), (8, iA i), (7, iA (1 + ss.length + rs.length : Nat)), (6, iA ss.length), (5, slA 5 0 t.2.length false 4), (2, .one (.ptr (some (4, 0)))), (1, slA 3 0 rs.length fv 1)]) (fun t => [⟨4, true, none, .ex [.sl (some (0, 0)) rs.length f1 7, .sl (some (1, 0)) ss.length f2 3, .sl (some (2, 0)) po.length f3 2]⟩, ⟨5, true, none, .raw (arr pipC t.2)⟩, ⟨6, true, none, .ex x.c⟩, ⟨3, false, none, .raw (arr iC vs)⟩] ++ shB rs ss po) (fun _ => 7) ((0, (ps ++ [Pipe.mk 0 (1 + i) x.vol 0]))) [some 0, some 1, some 2, some 3, some 4, some 8, some 6] (⟨Nat.zero_le _, by dsimp only; simp [rdP], by dsimp only; omega⟩) ⟨rfl, rfl, rfl, rfl, rfl, by (repeat' first | exact trivial | exact rfl | exact Or.inl (And.intro rfl rfl) | exact wsucc _ (by omega) | exact wlin (by first | omega | (push_cast; omega)) (by omega) | refine And.intro ?_ ?_ | refine Or.inr ?_), by (repeat' first | exact trivial | exact rfl | exact (by decide) | exact zerosI _ | exact zerosN _ | exact OfRaw.rows (by omega) | exact Or.inl (And.intro rfl rfl) | refine And.intro ?_ ?_ | refine Exists.intro _ (Exists.intro _ (And.intro rfl (And.intro (by decide) ?_))))⟩ ?_
      rintro ⟨j, qs⟩ ⟨hj, hqs, hql⟩
      dsimp only at hj hqs hql
      refine Rn.split zB 1000 rfl (fun hlj => ?_) (fun hlj => ?_)
      · have hlj : j < rs.length := by simpa using hlj
        obtain ⟨r, hrj⟩ : ∃ r, rs[j]? = some r := ⟨rs[j], List.getElem?_eq_getElem hlj⟩
        have hwo : winOf rs ss j i = win r x := by unfold winOf; rw [hrj, hx]
        refine Rn.draw zB 1000 [0, 1, 0, 7, 15, 0, 63, 127] rfl (by kernel_rfl) (by kernel_rfl) ?_
        refine Rn.ask zB 1000 rfl ⟨by first | omega | (dsimp only; omega), by first | omega | (dsimp only; omega)⟩ ?_
        refine Rn.loadR zB 1000 rfl (LoadR.elt eRt hrj (by simp)) ?_
        refine Rn.split zB 1000 rfl (fun hwin => ?_) (fun hwin => ?_)
        · have hwin : winOf rs ss j i = true := hwo.trans hwin
          have hvj : vs[j]? = some (vOf vs j) := by unfold vOf; rw [List.getD_eq_getElem?_getD, List.getElem?_eq_getElem (by omega)]; rfl
          have hwj : IntKind.wrap .i64 (IntKind.wrap .i64 (1 + (ss.length : Int)) + (j : Int)) = ((1 + ss.length + j : Nat) : Int) := by rw [hw1, w64_id (by omega) (by omega)]; omega
          refine Rn.ask zB 1000 rfl ⟨by first | omega | (dsimp only; omega), by first | omega | (dsimp only; omega)⟩ ?_
          refine Rn.loadR zB 1000 rfl (LoadR.fld eI (f := 0) (v := .int .i64 (vOf vs j)) hvj (by simp) rfl rfl) ?_
          have hdl : (qs ++ [Pipe.mk (1 + i) (1 + ss.length + j) (vOf vs j) 0]).length = qs.length + 1 := by simp
          refine Rn.appN zB 1000 rfl (arr pipC (qs ++ [Pipe.mk (1 + i) (1 + ss.length + j) (vOf vs j) 0])) (Src.raw rfl rfl (cells_all ePip qs)) (Src.ex rfl rfl rfl (cells_ex rfl)) (pipCells qs hwi hwj) rfl ((qs ++ [Pipe.mk (1 + i) (1 + ss.length + j) (vOf vs j) 0]).length) (by first | rfl | omega | (simp; done) | (simp; omega)) (by omega) rfl (by omega) rfl rfl ?_
          refine Rn.again zB 1000 rfl ((j + 1, qs ++ [Pipe.mk (1 + i) (1 + ss.length + j) (vOf vs j) 0])) [some 0, some 1, some 2, some 3, some 4, some 8, some 6] (by dsimp only; omega) ⟨hlj, by dsimp only; rw [hqs, rdP, rdP, range_filter_t (fun k => winOf rs ss k i) hwin]; simp, by dsimp only; simp; omega⟩ ⟨rfl, rfl, rfl, rfl, rfl, by (repeat' first | exact trivial | exact rfl | exact Or.inl (And.intro rfl rfl) | exact wsucc _ (by omega) | exact wlin (by first | omega | (push_cast; omega)) (by omega) | refine And.intro ?_ ?_ | refine Or.inr ?_), by (repeat' first | exact trivial | exact rfl | exact (by decide) | exact zerosI _ | exact zerosN _ | exact OfRaw.rows (by omega) | exact Or.inl (And.intro rfl rfl) | refine And.intro ?_ ?_ | refine Exists.intro _ (Exists.intro _ (And.intro rfl (And.intro (by decide) ?_))))⟩
        · have hwin : winOf rs ss j i = false := hwo.trans hwin
          refine Rn.again zB 1000 rfl ((j + 1, qs)) [some 0, some 1, some 2, some 3, some 4, some 5, some 6] (by dsimp only; omega) ⟨hlj, by dsimp only; rw [hqs, rdP, rdP, range_filter_f (fun k => winOf rs ss k i) hwin], by dsimp only; omega⟩ ⟨rfl, rfl, rfl, rfl, rfl, by (repeat' first | exact trivial | exact rfl | exact Or.inl (And.intro rfl rfl) | exact wsucc _ (by omega) | exact wlin (by first | omega | (push_cast; omega)) (by omega) | refine And.intro ?_ ?_ | refine Or.inr ?_), by (repeat' first | exact trivial | exact rfl | exact (by decide) | exact zerosI _ | exact zerosN _ | exact OfRaw.rows (by omega) | exact Or.inl (And.intro rfl rfl) | refine And.intro ?_ ?_ | refine Exists.intro _ (Exists.intro _ (And.intro rfl (And.intro (by decide) ?_))))⟩
      · have hlj : j = rs.length := by simp at hlj; omega
        subst hlj
        refine Rn.out zB 1000 rfl rfl ?_
        refine Rn.again zB 1000 rfl ((i + 1, qs)) [some 0, some 1, some 2, some 3, some 4, some 5] (by dsimp only; omega) ⟨hlt, by dsimp only; rw [range_flat, ← hps, hqs, rsP, hcond, hvol]; simp, by dsimp only; omega⟩ ⟨rfl, rfl, rfl, rfl, rfl, by (repeat' first | exact trivial | exact rfl | exact Or.inl (And.intro rfl rfl) | exact wsucc _ (by omega) | exact wlin (by first | omega | (push_cast; omega)) (by omega) | refine And.intro ?_ ?_ | refine Or.inr ?_), by (repeat' first | exact trivial | exact rfl | exact (by decide) | exact zerosI _ | exact zerosN _ | exact OfRaw.rows (by omega) | exact Or.inl (And.intro rfl rfl) | refine And.intro ?_ ?_ | refine Exists.intro _ (Exists.intro _ (And.intro rfl (And.intro (by decide) ?_))))⟩
  · have hi2 : i = ss.length := by simp at hlt; omega
    subst hi2
    refine Rn.out zB 1000 rfl rfl ?_
    refine Rn.loop zB 1000 rfl (T := Nat × List Pipe) (fun t => rs.length - t.1) (fun t => t.1 ≤ rs.length ∧ t.2 = ps ++ (List.range t.1).map (fun k => Pipe.mk (1 + ss.length + k) (1 + ss.length + rs.length) (vOf vs k) 0) ∧ t.2.length ≤ 3000 + t.1) (fun t => [(12, iA t.1), (7, iA (1 + ss.length + rs.length : Nat)), (6, iA ss.length), (5, slA 5 0 t.2.length false 4), (2, .one (.ptr (some (4, 0)))), (1, slA 3 0 rs.length fv 1)]) (fun t => [⟨4, true, none, .ex [.sl (some (0, 0)) rs.length f1 7, .sl (some (1, 0)) ss.length f2 3, .sl (some (2, 0)) po.length f3 2]⟩, ⟨5, true, none, .raw (arr pipC t.2)⟩, ⟨3, false, none, .raw (arr iC vs)⟩] ++ shB rs ss po) (fun _ => 6) ((0, ps)) [some 0, some 1, some 2, some 3, some 4, some 5] (⟨Nat.zero_le _, by dsimp only; simp, by dsimp only; omega⟩) ⟨rfl, rfl, rfl, rfl, rfl, by (repeat' first | exact trivial | exact rfl | exact Or.inl (And.intro rfl rfl) | exact wsucc _ (by omega) | exact wlin (by first | omega | (push_cast; omega)) (by omega) | refine And.intro ?_ ?_ | refine Or.inr ?_), by (repeat' first | exact trivial | exact rfl | exact (by decide) | exact zerosI _ | exact zerosN _ | exact OfRaw.rows (by omega) | exact Or.inl (And.intro rfl rfl) | refine And.intro ?_ ?_ | refine Exists.intro _ (Exists.intro _ (And.intro rfl (And.intro (by decide) ?_))))⟩ ?_
    rintro ⟨k, qs⟩ ⟨hk, hqs, hql⟩
    dsimp only at hk hqs hql
    refine Rn.split zB 1000 rfl (fun hlk => ?_) (fun hlk => ?_)
    · have hlk : k < rs.length := by simpa using hlk
      have hvk : vs[k]? = some (vOf vs k) := by unfold vOf; rw [List.getD_eq_getElem?_getD, List.getElem?_eq_getElem (by omega)]; rfl
      have hwk : IntKind.wrap .i64 (IntKind.wrap .i64 (1 + (ss.length : Int)) + (k : Int)) = ((1 + ss.length + k : Nat) : Int) := by rw [hw1, w64_id (by omega) (by omega)]; omega
      refine Rn.ask zB 1000 rfl ⟨by first | omega | (dsimp only; omega), by first | omega | (dsimp only; omega)⟩ ?_
      refine Rn.loadR zB 1000 rfl (LoadR.fld eI (f := 0) (v := .int .i64 (vOf vs k)) hvk (by simp) rfl rfl) ?_
      have hdl : (qs ++ [Pipe.mk (1 + ss.length + k) (1 + ss.length + rs.length) (vOf vs k) 0]).length = qs.length + 1 := by simp
      refine Rn.appN zB 1000 rfl (arr pipC (qs ++ [Pipe.mk (1 + ss.length + k) (1 + ss.length + rs.length) (vOf vs k) 0])) (Src.raw rfl rfl (cells_all ePip qs)) (Src.ex rfl rfl rfl (cells_ex rfl)) (pipCells qs hwk rfl) rfl ((qs ++ [Pipe.mk (1 + ss.length + k) (1 + ss.length + rs.length) (vOf vs k) 0]).length) (by first | rfl | omega | (simp; done) | (simp; omega)) (by omega) rfl (by omega) rfl rfl ?_
      refine Rn.again zB 1000 rfl ((k + 1, qs ++ [Pipe.mk (1 + ss.length + k) (1 + ss.length + rs.length) (vOf vs k) 0])) [some 0, some 1, some 2, some 3, some 4, some 7] (by dsimp only; omega) ⟨hlk, by dsimp only; rw [hqs, List.range_succ]; simp, by dsimp only; simp; omega⟩ ⟨rfl, rfl, rfl, rfl, rfl, by (repeat' first | exact trivial | exact rfl | exact Or.inl (And.intro rfl rfl) | exact wsucc _ (by omega) | exact wlin (by first | omega | (push_cast; omega)) (by omega) | refine And.intro ?_ ?_ | refine Or.inr ?_), by (repeat' first | exact trivial | exact rfl | exact (by decide) | exact zerosI _ | exact zerosN _ | exact OfRaw.rows (by omega) | exact Or.inl (And.intro rfl rfl) | refine And.intro ?_ ?_ | refine Exists.intro _ (Exists.intro _ (And.intro rfl (And.intro (by decide) ?_))))⟩
    · have hk2 : k = rs.length := by simp at hlk; omega
      subst hk2
      have hfin : qs = rlayP rs ss po (vOf vs) := by rw [hqs, hps, rlayP_eq]
      subst hfin
      refine Rn.out zB 1000 rfl rfl ?_
      refine Rn.fin zB 1000 rfl rfl rfl () [some 0, some 1, some 2, some 3, some 5] rfl rfl ?_ ?_ rfl rfl rfl
      · (repeat' first | exact trivial | exact rfl | exact Or.inl (And.intro rfl rfl) | exact wsucc _ (by omega) | exact wlin (by first | omega | (push_cast; omega)) (by omega) | refine And.intro ?_ ?_ | refine Or.inr ?_)
      · (repeat' first | exact trivial | exact rfl | exact (by decide) | exact zerosI _ | exact zerosN _ | exact OfRaw.rows (by omega) | exact Or.inl (And.intro rfl rfl) | refine And.intro ?_ ?_ | refine Exists.intro _ (Exists.intro _ (And.intro rfl (And.intro (by decide) ?_))))
end Go.AM
