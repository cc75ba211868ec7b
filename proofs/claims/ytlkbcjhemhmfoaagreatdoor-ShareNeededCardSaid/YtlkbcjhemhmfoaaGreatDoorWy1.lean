/- Walks: what Need seeks, and what it asks of an amount. -/
import Derived.Test.YtlkbcjhemhmfoaaGreatDoorWl1
import Derived.Test.YtlkbcjhemhmfoaaGreatDoorWl2
import Derived.Test.YtlkbcjhemhmfoaaGreatDoorWx0
set_option linter.unusedSimpArgs false
set_option linter.unusedVariables false
namespace Go.AM
open Go Go.Proofs
set_option maxRecDepth 10000
set_option maxHeartbeats 1000000

def fitS (v d : Int) (x : Su) : Bool := (x.valley == v) && decide (x.day ≥ d)
theorem c_fit (x : Su) (v d : Int) : Ct0 envB 88 [.agg x.c, .one (.ptr (some (0, 0))), .one (.ptr (some (1, 0)))] [⟨0, false, none, .ex [.int .i64 v]⟩, ⟨1, false, none, .ex [.int .i64 d]⟩] 2 (.one (.bool (fitS v d x))) := by
  refine Ct.of zB (fn := Tryz.f88) (by kernel_rfl) (by kernel_rfl) rfl rfl ?_
  refine Rn.split zB 1000 rfl (fun h => ?_) (fun h => ?_)
  · refine Rn.fin0 zB 1000 rfl rfl rfl rfl ?_
    unfold fitS
    rw [h]; rfl
  · refine Rn.fin0 zB 1000 rfl rfl rfl rfl ?_
    unfold fitS
    rw [h]; rfl
theorem c_seek (ss : List Su) (full : Bool) (hb : ss.length < 90000000000) (v d : Int) : Ct0 envB 29 [slA 0 0 ss.length full 3, .one (.fn 88 [(1, 0), (2, 0)])] [⟨0, false, none, .raw (arr Su.c ss)⟩, ⟨1, false, none, .ex [.int .i64 v]⟩, ⟨2, false, none, .ex [.int .i64 d]⟩] 3 (.one (.int .i64 (idxI (fitS v d) ss))) := by
  refine Ct.of zB (fn := Tryz.f29) (by kernel_rfl) (by kernel_rfl) rfl rfl ?_
  refine Rn.loop zB 1000 rfl (T := Nat) (fun i => ss.length - i) (fun i => i ≤ ss.length ∧ ∀ j a, j < i → ss[j]? = some a → fitS v d a = false) (fun i => [(8, iA i), (7, iA ss.length), (1, .one (.fn 88 [(1, 0), (2, 0)])), (0, slA 0 0 ss.length full 3)]) (fun _ => [⟨0, false, none, .raw (arr Su.c ss)⟩, ⟨1, false, none, .ex [.int .i64 v]⟩, ⟨2, false, none, .ex [.int .i64 d]⟩]) (fun _ => 3) (0) [some 0, some 1, some 2] (⟨Nat.zero_le _, fun j _ h => absurd h (Nat.not_lt_zero j)⟩) ⟨rfl, rfl, rfl, rfl, rfl, by (repeat' first | exact trivial | exact rfl | exact Or.inl (And.intro rfl rfl) | exact wsucc _ (by omega) | exact wlin (by first | omega | (push_cast; omega)) (by omega) | exact wint (by omega) (by omega) | refine And.intro ?_ ?_ | refine Or.inr ?_), by (repeat' first | exact trivial | exact rfl | exact (by decide) | exact zerosI _ | exact zerosN _ | exact OfRaw.rows (by omega) | exact Or.inl (And.intro rfl rfl) | refine And.intro ?_ ?_ | refine Exists.intro _ (Exists.intro _ (And.intro rfl (And.intro (by decide) ?_))))⟩ ?_
  rintro i ⟨hi, hno⟩
  have htk : ss.take ss.length = ss := List.take_length
  refine Rn.split zB 1000 rfl (fun h => ?_) (fun h => ?_)
  · have hlt : i < ss.length := by simpa using h
    obtain ⟨a, ha⟩ : ∃ a, ss[i]? = some a := ⟨ss[i], List.getElem?_eq_getElem (by omega)⟩
    refine Rn.ask zB 1000 rfl ⟨by first | omega | (dsimp only; omega), by first | omega | (dsimp only; omega)⟩ ?_
    refine Rn.loadR zB 1000 rfl (LoadR.elt eSu ha (by simp)) ?_
    refine Rn.call0 zB 1000 rfl (c_fit a v d) [some 1, some 2] rfl rfl (by (repeat' first | exact trivial | exact rfl | exact Or.inl (And.intro rfl rfl) | exact wsucc _ (by omega) | exact wlin (by first | omega | (push_cast; omega)) (by omega) | exact wint (by omega) (by omega) | refine And.intro ?_ ?_ | refine Or.inr ?_)) (by (repeat' first | exact trivial | exact rfl | exact (by decide) | exact zerosI _ | exact zerosN _ | exact OfRaw.rows (by omega) | exact Or.inl (And.intro rfl rfl) | refine And.intro ?_ ?_ | refine Exists.intro _ (Exists.intro _ (And.intro rfl (And.intro (by decide) ?_))))) rfl rfl rfl rfl rfl ?_
    refine Rn.split zB 1000 rfl (fun hp => ?_) (fun hp => ?_)
    · refine Rn.out zB 1000 rfl rfl ?_
      refine Rn.fin0 zB 1000 rfl rfl rfl rfl ?_
      rw [← htk, idxI_found hno ha hp hlt]
    · refine Rn.again zB 1000 rfl (i + 1) [some 0, some 1, some 2] (by omega) (⟨by omega, noMore hno ha hp⟩) ⟨rfl, rfl, rfl, rfl, rfl, by (repeat' first | exact trivial | exact rfl | exact Or.inl (And.intro rfl rfl) | exact wsucc _ (by omega) | exact wlin (by first | omega | (push_cast; omega)) (by omega) | exact wint (by omega) (by omega) | refine And.intro ?_ ?_ | refine Or.inr ?_), by (repeat' first | exact trivial | exact rfl | exact (by decide) | exact zerosI _ | exact zerosN _ | exact OfRaw.rows (by omega) | exact Or.inl (And.intro rfl rfl) | refine And.intro ?_ ?_ | refine Exists.intro _ (Exists.intro _ (And.intro rfl (And.intro (by decide) ?_))))⟩
  · refine Rn.out zB 1000 rfl rfl ?_
    refine Rn.fin0 zB 1000 rfl rfl rfl rfl ?_
    have hge : ss.length ≤ i := by simpa using h
    rw [← htk, idxI_none fun j b hj => hno j b (by omega)]
/-! ### An amount -/
open Classical in
noncomputable def promX (rs : List Rt) (ss : List Su) (po : List Po) : List Int := if h : ∃ p, PromRes rs ss po p then Classical.choose h else []
theorem promX_eq {rs : List Rt} {ss : List Su} {po : List Po} {p : List Int} (hp : PromRes rs ss po p) : promX rs ss po = p := by
  unfold promX
  rw [dif_pos ⟨p, hp⟩]
  exact (Classical.choose_spec (⟨p, hp⟩ : ∃ p, PromRes rs ss po p)).unique hp
def moreS (ss : List Su) (at_ : Nat) (x : Int) : List Su := match ss[at_]? with | some s => ss.set at_ (setVol s (s.vol + x)) | none => ss
theorem moreS_eq {ss : List Su} {at_ : Nat} {s : Su} (h : ss[at_]? = some s) (x : Int) : moreS ss at_ x = ss.set at_ (setVol s (s.vol + x)) := by unfold moreS; rw [h]
theorem moreS_len (ss : List Su) (at_ : Nat) (x : Int) : (moreS ss at_ x).length = ss.length := by
  unfold moreS
  split
  · rw [List.length_set]
  · rfl
noncomputable def fineB (rs : List Rt) (ss : List Su) (po : List Po) (right at_ : Nat) (x : Int) : Bool := (promX rs (moreS ss at_ x) po).getD right 0 == claimOf rs right
theorem moreB {rs : List Rt} {ss : List Su} {po : List Po} (hok : ShareOK rs ss po) (at_ : Nat) {x : Int} (h0 : 0 ≤ x) (h1 : x ≤ 35184372088832) : ShB rs (moreS ss at_ x) po where
  nr := hok.nr
  ns := by rw [moreS_len]; exact hok.ns
  np := hok.np
  vol y hy := by
    have hB := hok.b
    unfold moreS at hy
    split at hy
    · rename_i s hs
      obtain ⟨j, hj⟩ := List.getElem?_of_mem hy
      have hv := isVol_b (suB_fine (hok.s at_ s hs).1).2.2
      rcases setGet hj with ⟨e1, e2⟩ | ⟨e1, e2⟩
      · subst e2
        show 0 ≤ s.vol + x ∧ s.vol + x ≤ _
        omega
      · exact hB.vol y (List.mem_of_getElem? e2)
    · exact hB.vol y hy
  room := hok.b.room
  claim := hok.b.claim
abbrev nbox (nr ns np : Nat) (f1 f3 : Bool) (sc : Sc) : Cl := .ex [.sl (some (0, 0)) nr f1 7, sc, .sl (some (2, 0)) np f3 2]
/-- The blocks of an asking. -/
abbrev askB (rs : List Rt) (ss : List Su) (po : List Po) (f1 f2 f3 : Bool) (right at_ : Nat) (sc : Sc) (zs : List Sc) : BL :=
  shB rs ss po ++ [⟨3, false, none, nbox rs.length ss.length po.length f1 f3 (.sl (some (1, 0)) ss.length f2 3)⟩, ⟨4, true, none, nbox rs.length ss.length po.length f1 f3 sc⟩, ⟨5, false, none, .ex [.int .i64 at_]⟩, ⟨6, false, none, .ex [.int .i64 right]⟩, ⟨7, false, none, .raw zs⟩]
abbrev askC (rs : List Rt) (ss : List Su) (po : List Po) (f1 f2 f3 : Bool) (right at_ : Nat) (n7 : Nat) (f7 : Bool) (zs : List Sc) : BL :=
  shB rs ss po ++ [⟨3, false, none, nbox rs.length ss.length po.length f1 f3 (.sl (some (1, 0)) ss.length f2 3)⟩, ⟨4, true, none, nbox rs.length ss.length po.length f1 f3 (.sl (some (8, 0)) n7 f7 3)⟩, ⟨5, false, none, .ex [.int .i64 at_]⟩, ⟨6, false, none, .ex [.int .i64 right]⟩, ⟨8, false, none, .raw zs⟩]
theorem c_ask (rs : List Rt) (ss : List Su) (po : List Po) (f1 f2 f3 : Bool) (right at_ : Nat) (sc : Sc) (zs : List Sc) (hok : ShareOK rs ss po) (hr : right < rs.length) (ha : at_ < ss.length) (x : Int) (h0 : 0 ≤ x) (h1 : x ≤ 35184372088832) :
    Ct envB 89 [iA x, .one (.ptr (some (3, 0))), .one (.ptr (some (4, 0))), .one (.ptr (some (5, 0))), .one (.ptr (some (6, 0)))] (askB rs ss po f1 f2 f3 right at_ sc zs) 8 Unit (fun _ => .one (.bool (fineB rs ss po right at_ x)))
      (fun _ => [⟨4, true, none, nbox rs.length ss.length po.length f1 f3 (.sl (some (8, 0)) ss.length (Nat.beq ss.length 0) 3)⟩, ⟨8, true, none, .raw (arr Su.c (moreS ss at_ x))⟩]) (fun _ => 9) := by
  have B := moreB hok at_ h0 h1
  have ns := hok.ns
  have nr := hok.nr
  obtain ⟨s, hs⟩ : ∃ s, ss[at_]? = some s := ⟨ss[at_], List.getElem?_eq_getElem ha⟩
  have hv := isVol_b (suB_fine (hok.s at_ s hs).1).2.2
  obtain ⟨r, hrr⟩ : ∃ r, rs[right]? = some r := ⟨rs[right], List.getElem?_eq_getElem hr⟩
  refine Ct.of zB (fn := Tryz.f89) (by kernel_rfl) (by kernel_rfl) rfl rfl ?_
  refine Rn.call zB 1000 rfl (c_cloneS ss f2 (by omega)) [some 1] rfl (by (repeat' first | exact trivial | exact rfl | exact Or.inl (And.intro rfl rfl) | exact wsucc _ (by omega) | exact wlin (by first | omega | (push_cast; omega)) (by omega) | exact wint (by omega) (by omega) | refine And.intro ?_ ?_ | refine Or.inr ?_)) (by (repeat' first | exact trivial | exact rfl | exact (by decide) | exact zerosI _ | exact zerosN _ | exact OfRaw.rows (by omega) | exact Or.inl (And.intro rfl rfl) | refine And.intro ?_ ?_ | refine Exists.intro _ (Exists.intro _ (And.intro rfl (And.intro (by decide) ?_))))) rfl rfl rfl (fun _ => ⟨_, _, rfl, ?_⟩)
  refine Rn.ask zB 1000 rfl ⟨by omega, by omega⟩ ?_
  refine Rn.loadR zB 1000 rfl (LoadR.fld eSu (f := 2) (v := .int .i64 s.vol) hs (by simp) rfl rfl) ?_
  refine Rn.ask zB 1000 rfl ⟨by omega, by omega⟩ ?_
  refine Rn.storeR zB 1000 rfl (StoreR.fld eSu (f := 2) (a' := setVol s (s.vol + x)) hs (by simp) (by omega) (by rw [w64_id (by omega) (by omega)]; rfl)) rfl ?_
  refine Rn.draw zB 1000 [0, 1, 0, 7, 15, 0, 32, 0, 224, 480, 992, 2047, 4095] rfl (by kernel_rfl) (by kernel_rfl) ?_
  have c := c_promised rs (moreS ss at_ x) po f1 (Nat.beq ss.length 0) f3 B
  rw [moreS_eq hs, List.length_set] at c
  refine Rn.call zB 1000 rfl (c) [some 0, some 8, some 2] rfl (by (repeat' first | exact trivial | exact rfl | exact Or.inl (And.intro rfl rfl) | exact wsucc _ (by omega) | exact wlin (by first | omega | (push_cast; omega)) (by omega) | exact wint (by omega) (by omega) | refine And.intro ?_ ?_ | refine Or.inr ?_)) (by (repeat' first | exact trivial | exact rfl | exact (by decide) | exact zerosI _ | exact zerosN _ | exact OfRaw.rows (by omega) | exact Or.inl (And.intro rfl rfl) | refine And.intro ?_ ?_ | refine Exists.intro _ (Exists.intro _ (And.intro rfl (And.intro (by decide) ?_))))) rfl rfl rfl ?_
  rintro ⟨p, hp⟩
  refine ⟨_, _, rfl, ?_⟩
  have pl := hp.len
  obtain ⟨y, hy⟩ : ∃ y, p[right]? = some y := ⟨p[right]'(by omega), List.getElem?_eq_getElem _⟩
  have hf : fineB rs ss po right at_ x = (y == r.claim) := by
    unfold fineB
    rw [moreS_eq hs, promX_eq hp, List.getD_eq_getElem?_getD, hy]
    unfold claimOf
    rw [hrr]; rfl
  refine Rn.ask zB 1000 rfl ⟨by omega, by omega⟩ ?_
  refine Rn.loadR zB 1000 rfl (LoadR.fld eI (f := 0) (v := .int .i64 y) hy (by simp) rfl rfl) ?_
  refine Rn.ask zB 1000 rfl ⟨by omega, by omega⟩ ?_
  refine Rn.loadR zB 1000 rfl (LoadR.fld eRt (f := 6) (v := .int .i64 r.claim) hrr (by simp) rfl rfl) ?_
  rw [hf, moreS_eq hs]
  refine Rn.fin zB 1000 rfl rfl rfl () [some 0, some 1, some 2, some 3, some 4, some 5, some 6, some 7, some 8] rfl rfl ?_ ?_ rfl rfl rfl
  · (repeat' first | exact trivial | exact rfl | exact Or.inl (And.intro rfl rfl) | exact wsucc _ (by omega) | exact wlin (by first | omega | (push_cast; omega)) (by omega) | exact wint (by omega) (by omega) | refine And.intro ?_ ?_ | refine Or.inr ?_)
  · (repeat' first | exact trivial | exact rfl | exact (by decide) | exact zerosI _ | exact zerosN _ | exact OfRaw.rows (by omega) | exact Or.inl (And.intro rfl rfl) | refine And.intro ?_ ?_ | refine Exists.intro _ (Exists.intro _ (And.intro rfl (And.intro (by decide) ?_))))
/-! ### The least amount -/
/-- Halving. -/
def leastI (P : Int → Bool) (lo hi : Int) : Int := if h : lo < hi then (if P (lo + (hi - lo) / 2) then leastI P lo (lo + (hi - lo) / 2) else leastI P (lo + (hi - lo) / 2 + 1) hi) else lo
termination_by (hi - lo).toNat
decreasing_by all_goals omega
theorem leastI_t {P : Int → Bool} {lo hi : Int} (h : lo < hi) (hp : P (lo + (hi - lo) / 2) = true) : leastI P lo hi = leastI P lo (lo + (hi - lo) / 2) := by
  conv => lhs; unfold leastI
  rw [dif_pos h, if_pos hp]
theorem leastI_f {P : Int → Bool} {lo hi : Int} (h : lo < hi) (hp : P (lo + (hi - lo) / 2) = false) : leastI P lo hi = leastI P (lo + (hi - lo) / 2 + 1) hi := by
  conv => lhs; unfold leastI
  rw [dif_pos h, if_neg (by rw [hp]; decide)]
theorem leastI_z {P : Int → Bool} {lo hi : Int} (h : hi ≤ lo) : leastI P lo hi = lo := by
  unfold leastI
  rw [dif_neg (by omega)]
theorem midW {lo hi : Int} (h0 : 0 ≤ lo) (h : lo < hi) (hb : hi ≤ 35184372088832) : IntKind.wrap .i64 (lo + IntKind.wrap .i64 (Int.tdiv (IntKind.wrap .i64 (hi - lo)) 2)) = lo + (hi - lo) / 2 := by
  rw [w64_id (n := hi - lo) (by omega) (by omega), Int.tdiv_eq_ediv_of_nonneg (by omega), w64_id (n := (hi - lo) / 2) (by omega) (by omega), w64_id (by omega) (by omega)]
theorem c_least (rs : List Rt) (ss : List Su) (po : List Po) (f1 f2 f3 : Bool) (right at_ : Nat) (n7 : Nat) (f7 : Bool) (zs : List Sc) (hok : ShareOK rs ss po) (hr : right < rs.length) (ha : at_ < ss.length) (hi : Int) (h0 : 0 ≤ hi) (h1 : hi ≤ 35184372088832) :
    Ct envB 92 [iA 0, iA hi, .one (.fn 89 [(3, 0), (4, 0), (5, 0), (6, 0)])] (askB rs ss po f1 f2 f3 right at_ (.sl (some (7, 0)) n7 f7 3) zs) 8 Unit (fun _ => iA (leastI (fineB rs ss po right at_) 0 hi)) (fun _ => []) (fun _ => 8) := by
  refine Ct.of zB (fn := Tryz.f92) (by kernel_rfl) (by kernel_rfl) rfl rfl ?_
  refine Rn.loop zB 1000 rfl (T := (Int × Int) × Nat × Bool × List Sc) (fun t => (t.1.2 - t.1.1).toNat) (fun t => 0 ≤ t.1.1 ∧ t.1.2 ≤ 35184372088832 ∧ leastI (fineB rs ss po right at_) t.1.1 t.1.2 = leastI (fineB rs ss po right at_) 0 hi) (fun t => [(2, .one (.fn 89 [(3, 0), (4, 0), (5, 0), (6, 0)])), (1, iA t.1.2), (0, iA t.1.1)]) (fun t => askC rs ss po f1 f2 f3 right at_ t.2.1 t.2.2.1 t.2.2.2) (fun _ => 9) (((0, hi), n7, f7, zs)) [some 0, some 1, some 2, some 3, some 4, some 5, some 6, some 7, some 7] (⟨Int.le_refl _, h1, rfl⟩) ⟨rfl, rfl, rfl, rfl, rfl, by (repeat' first | exact trivial | exact rfl | exact Or.inl (And.intro rfl rfl) | exact wsucc _ (by omega) | exact wlin (by first | omega | (push_cast; omega)) (by omega) | exact wint (by omega) (by omega) | refine And.intro ?_ ?_ | refine Or.inr ?_), by (repeat' first | exact trivial | exact rfl | exact (by decide) | exact zerosI _ | exact zerosN _ | exact OfRaw.rows (by omega) | exact Or.inl (And.intro rfl rfl) | refine And.intro ?_ ?_ | refine Exists.intro _ (Exists.intro _ (And.intro rfl (And.intro (by decide) ?_))))⟩ ?_
  rintro ⟨⟨lo, hi2⟩, m7, g7, ys⟩ ⟨b0, b1, he⟩
  dsimp only at b0 b1 he
  refine Rn.split zB 1000 rfl (fun hlt => ?_) (fun hlt => ?_)
  · have hlt : lo < hi2 := by simpa using hlt
    have c := c_ask rs ss po f1 f2 f3 right at_ (.sl (some (7, 0)) m7 g7 3) ys hok hr ha (lo + (hi2 - lo) / 2) (by omega) (by omega)
    refine Rn.call zB 1000 rfl (c) [some 0, some 1, some 2, some 3, some 4, some 5, some 6, some 8] rfl (by dsimp only; rw [midW b0 hlt b1]; (repeat' first | exact trivial | exact rfl | exact Or.inl (And.intro rfl rfl) | exact wsucc _ (by omega) | exact wlin (by first | omega | (push_cast; omega)) (by omega) | exact wint (by omega) (by omega) | refine And.intro ?_ ?_ | refine Or.inr ?_)) (by (repeat' first | exact trivial | exact rfl | exact (by decide) | exact zerosI _ | exact zerosN _ | exact OfRaw.rows (by omega) | exact Or.inl (And.intro rfl rfl) | refine And.intro ?_ ?_ | refine Exists.intro _ (Exists.intro _ (And.intro rfl (And.intro (by decide) ?_))))) rfl rfl rfl (fun _ => ⟨_, _, rfl, ?_⟩)
    refine Rn.split zB 1000 rfl (fun hp => ?_) (fun hp => ?_)
    · refine Rn.again zB 1000 rfl (((lo, lo + (hi2 - lo) / 2), ss.length, Nat.beq ss.length 0, arr Su.c (moreS ss at_ (lo + (hi2 - lo) / 2)))) [some 0, some 1, some 2, some 3, some 4, some 5, some 6, some 7, some 9] (by dsimp only; omega) (⟨b0, by dsimp only; omega, (leastI_t hlt hp).symm.trans he⟩) ⟨rfl, rfl, rfl, rfl, rfl, by (try dsimp only); rw [midW b0 hlt b1]; (repeat' first | exact trivial | exact rfl | exact Or.inl (And.intro rfl rfl) | exact wsucc _ (by omega) | exact wlin (by first | omega | (push_cast; omega)) (by omega) | exact wint (by omega) (by omega) | refine And.intro ?_ ?_ | refine Or.inr ?_), by (repeat' first | exact trivial | exact rfl | exact (by decide) | exact zerosI _ | exact zerosN _ | exact OfRaw.rows (by omega) | exact Or.inl (And.intro rfl rfl) | refine And.intro ?_ ?_ | refine Exists.intro _ (Exists.intro _ (And.intro rfl (And.intro (by decide) ?_))))⟩
    · refine Rn.again zB 1000 rfl (((lo + (hi2 - lo) / 2 + 1, hi2), ss.length, Nat.beq ss.length 0, arr Su.c (moreS ss at_ (lo + (hi2 - lo) / 2)))) [some 0, some 1, some 2, some 3, some 4, some 5, some 6, some 7, some 9] (by dsimp only; omega) (⟨by dsimp only; omega, b1, (leastI_f hlt hp).symm.trans he⟩) ⟨rfl, rfl, rfl, rfl, rfl, by (try dsimp only); rw [midW b0 hlt b1]; (repeat' first | exact trivial | exact rfl | exact Or.inl (And.intro rfl rfl) | exact wsucc _ (by omega) | exact wlin (by first | omega | (push_cast; omega)) (by omega) | exact wint (by omega) (by omega) | refine And.intro ?_ ?_ | refine Or.inr ?_), by (repeat' first | exact trivial | exact rfl | exact (by decide) | exact zerosI _ | exact zerosN _ | exact OfRaw.rows (by omega) | exact Or.inl (And.intro rfl rfl) | refine And.intro ?_ ?_ | refine Exists.intro _ (Exists.intro _ (And.intro rfl (And.intro (by decide) ?_))))⟩
  · have hge : hi2 ≤ lo := by simpa using hlt
    refine Rn.out zB 1000 rfl rfl ?_
    refine Rn.fin0 zB 1000 rfl rfl rfl rfl ?_
    show iA lo = _
    rw [← he, leastI_z hge]
/-! ### Need -/
theorem vOf_get' {vs : List Int} {k : Nat} {x : Int} (h : vs[k]? = some x) : vOf vs k = x := by unfold vOf; rw [List.getD_eq_getElem?_getD, h]; rfl
def claimsOf (rs : List Rt) : List Int := rs.map Rt.claim
theorem claims_get {rs : List Rt} {i : Nat} {r : Rt} (h : rs[i]? = some r) : (claimsOf rs)[i]? = some r.claim := by unfold claimsOf; rw [List.getElem?_map, h]; rfl
theorem claims_sum {rs : List Rt} {ss : List Su} {po : List Po} (B : ShB rs ss po) : 0 ≤ sumW (claimsOf rs) ∧ sumW (claimsOf rs) ≤ 35184372088832 := by
  have nr := B.nr
  have hl : (claimsOf rs).length = rs.length := by simp [claimsOf]
  have hb : ∀ k, k < (claimsOf rs).length → 0 ≤ vOf (claimsOf rs) k ∧ vOf (claimsOf rs) k ≤ 1099511627776 := fun k hk => by
    have h := claims_get (List.getElem?_eq_getElem (show k < rs.length by omega))
    rw [vOf_get' h]
    exact B.claim _ (List.getElem_mem _)
  rw [sumW_all (by omega) hb]
  refine ⟨Snow.S_nonneg fun i hi => (hb i hi).1, ?_⟩
  have := S_le_mul (n := (claimsOf rs).length) (f := vOf (claimsOf rs)) (b := 1099511627776) fun i hi => (hb i hi).2
  omega
def needArg (rs : List Rt) (right v d : Int) : Prop := 0 ≤ right ∧ right < rs.length ∧ isNum v = true ∧ isDay d = true
/-- What Need answers. -/
structure NeedIs (rs : List Rt) (ss : List Su) (po : List Po) (right v d : Int) (x : Int) (ok : Bool) (e : Int) : Prop where
  bad : shErr rs ss po ≠ 0 → x = 0 ∧ ok = false ∧ e = shErr rs ss po
  arg : shErr rs ss po = 0 → ¬ needArg rs right v d → x = 0 ∧ ok = false ∧ e = 1
  none : shErr rs ss po = 0 → needArg rs right v d → idxI (fitS v d) ss < 0 → x = 0 ∧ ok = false ∧ e = 0
  no : shErr rs ss po = 0 → needArg rs right v d → 0 ≤ idxI (fitS v d) ss → fineB rs ss po right.toNat (idxI (fitS v d) ss).toNat (sumW (claimsOf rs)) = false → x = 0 ∧ ok = false ∧ e = 0
  yes : shErr rs ss po = 0 → needArg rs right v d → 0 ≤ idxI (fitS v d) ss → fineB rs ss po right.toNat (idxI (fitS v d) ss).toNat (sumW (claimsOf rs)) = true → x = leastI (fineB rs ss po right.toNat (idxI (fitS v d) ss).toNat) 0 (sumW (claimsOf rs)) ∧ ok = true ∧ e = 0
end Go.AM
