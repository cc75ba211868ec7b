/- Walks: the specification's Need. -/
import Derived.Test.YtlkbcjhemhmfoaaGreatDoorWy2
set_option linter.unusedSimpArgs false
set_option linter.unusedVariables false
namespace Go.AM
open Go Go.Proofs
set_option maxRecDepth 10000
set_option maxHeartbeats 1000000

theorem c_rask (rs : List Rt) (ss : List Su) (po : List Po) (f1 f2 f3 : Bool) (right at_ : Nat) (hok : ShareOK rs ss po) (hr : right < rs.length) (ha : at_ < ss.length) (x : Int) (h0 : 0 ≤ x) (h1 : x ≤ 35184372088832) :
    Ct0 envB 95 [shA rs.length ss.length po.length f1 f2 f3, iA at_, iA right, iA x] (shB rs ss po) 3 (.one (.bool (fineB rs ss po right at_ x))) := by
  have B := moreB hok at_ h0 h1
  have ns := hok.ns
  have nr := hok.nr
  obtain ⟨s, hs⟩ : ∃ s, ss[at_]? = some s := ⟨ss[at_], List.getElem?_eq_getElem ha⟩
  have hv := isVol_b (suB_fine (hok.s at_ s hs).1).2.2
  obtain ⟨r, hrr⟩ : ∃ r, rs[right]? = some r := ⟨rs[right], List.getElem?_eq_getElem hr⟩
  refine Ct.of zB (fn := Tryz.f95) (by kernel_rfl) (by kernel_rfl) rfl rfl ?_
  refine Rn.appF zB 1000 rfl (arr Su.c ss) (Src.ex rfl rfl rfl (cells_ex rfl)) (Src.raw rfl rfl (cells_all eSu ss)) (rfl) rfl (ss.length) (by first | rfl | omega | (simp; done) | (simp; omega)) (by omega) rfl (by omega) (.inl rfl) rfl ?_
  refine Rn.draw zB 1000 [0, 1, 0, 0, 8, 0, 56, 120, 248, 0, 1016, 2047, 4095, 8191] rfl (by kernel_rfl) (by kernel_rfl) ?_
  refine Rn.ask zB 1000 rfl ⟨by omega, by omega⟩ ?_
  refine Rn.loadR zB 1000 rfl (LoadR.fld eSu (f := 2) (v := .int .i64 s.vol) hs (by simp) rfl rfl) ?_
  refine Rn.ask zB 1000 rfl ⟨by omega, by omega⟩ ?_
  refine Rn.storeR zB 1000 rfl (StoreR.fld eSu (f := 2) (a' := setVol s (s.vol + x)) hs (by simp; rfl) (by omega) (by rw [w64_id (by omega) (by omega)]; rfl)) rfl ?_
  obtain ⟨p, hp⟩ := prom_exists B
  have c := c_rpromised rs (moreS ss at_ x) po f1 false f3 B p hp
  have pl := hp.len
  rw [moreS_eq hs, List.length_set] at c
  refine Rn.call zB 1000 rfl (c) [some 0, some 6, some 2] rfl (by (repeat' first | exact trivial | exact rfl | exact Or.inl (And.intro rfl rfl) | exact wsucc _ (by omega) | exact wlin (by first | omega | (push_cast; omega)) (by omega) | exact wint (by omega) (by omega) | refine And.intro ?_ ?_ | refine Or.inr ?_)) (by (repeat' first | exact trivial | exact rfl | exact (by decide) | exact zerosI _ | exact zerosN _ | exact OfRaw.rows (by omega) | exact Or.inl (And.intro rfl rfl) | refine And.intro ?_ ?_ | refine Exists.intro _ (Exists.intro _ (And.intro rfl (And.intro (by decide) ?_))))) rfl rfl rfl (fun _ => ⟨_, _, rfl, ?_⟩)
  obtain ⟨y, hy⟩ : ∃ y, p[right]? = some y := ⟨p[right]'(by omega), List.getElem?_eq_getElem _⟩
  have hf : fineB rs ss po right at_ x = (y == r.claim) := by
    unfold fineB
    rw [promX_eq hp, List.getD_eq_getElem?_getD, hy]
    unfold claimOf
    rw [hrr]; rfl
  refine Rn.draw zB 1000 [0, 0, 3, 7, 0, 16, 0, 112, 240, 496, 1023, 2047] rfl (by kernel_rfl) (by kernel_rfl) ?_
  refine Rn.ask zB 1000 rfl ⟨by omega, by omega⟩ ?_
  refine Rn.loadR zB 1000 rfl (LoadR.fld eI (f := 0) (v := .int .i64 y) hy (by simp) rfl rfl) ?_
  refine Rn.ask zB 1000 rfl ⟨by omega, by omega⟩ ?_
  refine Rn.loadR zB 1000 rfl (LoadR.fld eRt (f := 6) (v := .int .i64 r.claim) hrr (by simp) rfl rfl) ?_
  refine Rn.fin0 zB 1000 rfl rfl rfl rfl ?_
  rw [hf]
theorem midR {lo hi : Int} (h0 : 0 ≤ lo) (h : lo < hi) (hb : hi ≤ 35184372088832) : IntKind.wrap .i64 (Int.tdiv (IntKind.wrap .i64 (lo + hi)) 2) = lo + (hi - lo) / 2 := by
  rw [w64_id (n := lo + hi) (by omega) (by omega), Int.tdiv_eq_ediv_of_nonneg (by omega), w64_id (by omega) (by omega)]
  omega
/-- What is known of a search from behind. -/
def Seek (ss : List Su) (v d : Int) (m : Nat) (cur : Int) : Prop := (cur = -1 ∧ ∀ (j : Nat) (a : Su), m ≤ j → ss[j]? = some a → fitS v d a = false) ∨ ∃ (j : Nat) (a : Su), cur = j ∧ m ≤ j ∧ ss[j]? = some a ∧ fitS v d a = true ∧ ∀ (i : Nat) (b : Su), m ≤ i → i < j → ss[i]? = some b → fitS v d b = false
theorem Seek.hit {ss : List Su} {v d : Int} {m : Nat} {cur : Int} (h0 : 0 < m) {x : Su} (hx : ss[m - 1]? = some x) (hf : fitS v d x = true) : Seek ss v d (m - 1) ((m - 1 : Nat) : Int) :=
  .inr ⟨m - 1, x, rfl, Nat.le_refl _, hx, hf, fun i b h1 h2 => by omega⟩
theorem Seek.miss {ss : List Su} {v d : Int} {m : Nat} {cur : Int} (h : Seek ss v d m cur) (h0 : 0 < m) {x : Su} (hx : ss[m - 1]? = some x) (hf : fitS v d x = false) : Seek ss v d (m - 1) cur := by
  have key : ∀ (j : Nat) (a : Su), m - 1 ≤ j → ss[j]? = some a → j = m - 1 → fitS v d a = false := fun j a hj ha e => by subst e; rw [hx] at ha; injection ha with ha; rw [← ha]; exact hf
  rcases h with ⟨h1, h2⟩ | ⟨j, a, h1, h2, h3, h4, h5⟩
  · refine .inl ⟨h1, fun j a hj ha => ?_⟩
    by_cases e : j = m - 1
    · exact key j a hj ha e
    · exact h2 j a (by omega) ha
  · refine .inr ⟨j, a, h1, by omega, h3, h4, fun i b hi hij hb => ?_⟩
    by_cases e : i = m - 1
    · exact key i b hi hb e
    · exact h5 i b (by omega) hij hb
theorem Seek.done {ss : List Su} {v d : Int} {cur : Int} (h : Seek ss v d 0 cur) : cur = idxI (fitS v d) ss := by
  have htk : ss.take ss.length = ss := List.take_length
  rcases h with ⟨h1, h2⟩ | ⟨j, a, h1, h2, h3, h4, h5⟩
  · rw [← htk, idxI_none fun j b _ => h2 j b (Nat.zero_le _), h1]
  · rw [← htk, idxI_found (fun i b hi => h5 i b (Nat.zero_le _) hi) h3 h4 (List.getElem?_eq_some_iff.mp h3).1, h1]
theorem c_rneed (rs : List Rt) (ss : List Su) (po : List Po) (f1 f2 f3 : Bool) (right v d : Int) (h1 : rs.length < 90000000000) (h2 : ss.length < 90000000000) (h3 : po.length < 90000000000) :
    Ct envB 27 [shA rs.length ss.length po.length f1 f2 f3, iA right, iA v, iA d] (shB rs ss po) 3 { t : Int × Bool × Int // NeedIs rs ss po right v d t.1 t.2.1 t.2.2 } (fun a => needA a.1) (fun _ => []) (fun _ => 3) := by
  refine Ct.of zB (fn := Tryz.f27) (by kernel_rfl) (by kernel_rfl) rfl rfl ?_
  refine Rn.call0 zB 1000 rfl (c_rcheckShare rs ss po f1 f2 f3 h1 h2 h3) [some 0, some 1, some 2] rfl rfl (by (repeat' first | exact trivial | exact rfl | exact Or.inl (And.intro rfl rfl) | exact wsucc _ (by omega) | exact wlin (by first | omega | (push_cast; omega)) (by omega) | exact wint (by omega) (by omega) | refine And.intro ?_ ?_ | refine Or.inr ?_)) (by (repeat' first | exact trivial | exact rfl | exact (by decide) | exact zerosI _ | exact zerosN _ | exact OfRaw.rows (by omega) | exact Or.inl (And.intro rfl rfl) | refine And.intro ?_ ?_ | refine Exists.intro _ (Exists.intro _ (And.intro rfl (And.intro (by decide) ?_))))) rfl rfl rfl rfl rfl ?_
  refine Rn.split zB 1000 rfl (fun e0 => ?_) (fun e0 => ?_)
  · have e0 : shErr rs ss po ≠ 0 := by simpa using e0
    refine Rn.fin zB 1000 rfl rfl rfl ⟨(0, false, shErr rs ss po), ⟨fun _ => ⟨rfl, rfl, rfl⟩, fun h => absurd h e0, fun h => absurd h e0, fun h => absurd h e0, fun h => absurd h e0⟩⟩ [some 0, some 1, some 2] rfl rfl ?_ ?_ rfl rfl rfl
    · (repeat' first | exact trivial | exact rfl | exact Or.inl (And.intro rfl rfl) | exact wsucc _ (by omega) | exact wlin (by first | omega | (push_cast; omega)) (by omega) | exact wint (by omega) (by omega) | refine And.intro ?_ ?_ | refine Or.inr ?_)
    · (repeat' first | exact trivial | exact rfl | exact (by decide) | exact zerosI _ | exact zerosN _ | exact OfRaw.rows (by omega) | exact Or.inl (And.intro rfl rfl) | refine And.intro ?_ ?_ | refine Exists.intro _ (Exists.intro _ (And.intro rfl (And.intro (by decide) ?_))))
  have e0 : shErr rs ss po = 0 := by simpa using e0
  have hok := shErr_zero e0
  have B := hok.b
  have nr := B.nr
  have ns := B.ns
  have hbad : ¬ needArg rs right v d → NeedIs rs ss po right v d 0 false 1 := fun hn => ⟨fun h => absurd e0 h, fun _ _ => ⟨rfl, rfl, rfl⟩, fun _ h => absurd h hn, fun _ h => absurd h hn, fun _ h => absurd h hn⟩
  refine Rn.split zB 1000 rfl (fun a2 => ?_) (fun a2 => ?_)
  · repeat (refine Rn.split zB 1000 rfl (fun _ => ?_) (fun h => by cases h))
    refine Rn.fin zB 1000 rfl rfl rfl ⟨(0, false, 1), hbad fun c => (by have := c.2.2.1; rw [this] at a2; cases a2)⟩ [some 0, some 1, some 2] rfl rfl ?_ ?_ rfl rfl rfl
    · (repeat' first | exact trivial | exact rfl | exact Or.inl (And.intro rfl rfl) | exact wsucc _ (by omega) | exact wlin (by first | omega | (push_cast; omega)) (by omega) | exact wint (by omega) (by omega) | refine And.intro ?_ ?_ | refine Or.inr ?_)
    · (repeat' first | exact trivial | exact rfl | exact (by decide) | exact zerosI _ | exact zerosN _ | exact OfRaw.rows (by omega) | exact Or.inl (And.intro rfl rfl) | refine And.intro ?_ ?_ | refine Exists.intro _ (Exists.intro _ (And.intro rfl (And.intro (by decide) ?_))))
  refine Rn.split zB 1000 rfl (fun a3 => ?_) (fun a3 => ?_)
  · repeat (refine Rn.split zB 1000 rfl (fun _ => ?_) (fun h => by cases h))
    refine Rn.fin zB 1000 rfl rfl rfl ⟨(0, false, 1), hbad fun c => (by have := c.2.2.2; rw [this] at a3; cases a3)⟩ [some 0, some 1, some 2] rfl rfl ?_ ?_ rfl rfl rfl
    · (repeat' first | exact trivial | exact rfl | exact Or.inl (And.intro rfl rfl) | exact wsucc _ (by omega) | exact wlin (by first | omega | (push_cast; omega)) (by omega) | exact wint (by omega) (by omega) | refine And.intro ?_ ?_ | refine Or.inr ?_)
    · (repeat' first | exact trivial | exact rfl | exact (by decide) | exact zerosI _ | exact zerosN _ | exact OfRaw.rows (by omega) | exact Or.inl (And.intro rfl rfl) | refine And.intro ?_ ?_ | refine Exists.intro _ (Exists.intro _ (And.intro rfl (And.intro (by decide) ?_))))
  refine Rn.split zB 1000 rfl (fun a0 => ?_) (fun a0 => ?_)
  · repeat (refine Rn.split zB 1000 rfl (fun _ => ?_) (fun h => by cases h))
    refine Rn.fin zB 1000 rfl rfl rfl ⟨(0, false, 1), hbad fun c => (by have := c.1; simp at a0; omega)⟩ [some 0, some 1, some 2] rfl rfl ?_ ?_ rfl rfl rfl
    · (repeat' first | exact trivial | exact rfl | exact Or.inl (And.intro rfl rfl) | exact wsucc _ (by omega) | exact wlin (by first | omega | (push_cast; omega)) (by omega) | exact wint (by omega) (by omega) | refine And.intro ?_ ?_ | refine Or.inr ?_)
    · (repeat' first | exact trivial | exact rfl | exact (by decide) | exact zerosI _ | exact zerosN _ | exact OfRaw.rows (by omega) | exact Or.inl (And.intro rfl rfl) | refine And.intro ?_ ?_ | refine Exists.intro _ (Exists.intro _ (And.intro rfl (And.intro (by decide) ?_))))
  refine Rn.split zB 1000 rfl (fun a1 => ?_) (fun a1 => ?_)
  · refine Rn.fin zB 1000 rfl rfl rfl ⟨(0, false, 1), hbad fun c => (by have := c.2.1; simp at a1; omega)⟩ [some 0, some 1, some 2] rfl rfl ?_ ?_ rfl rfl rfl
    · (repeat' first | exact trivial | exact rfl | exact Or.inl (And.intro rfl rfl) | exact wsucc _ (by omega) | exact wlin (by first | omega | (push_cast; omega)) (by omega) | exact wint (by omega) (by omega) | refine And.intro ?_ ?_ | refine Or.inr ?_)
    · (repeat' first | exact trivial | exact rfl | exact (by decide) | exact zerosI _ | exact zerosN _ | exact OfRaw.rows (by omega) | exact Or.inl (And.intro rfl rfl) | refine And.intro ?_ ?_ | refine Exists.intro _ (Exists.intro _ (And.intro rfl (And.intro (by decide) ?_))))
  have harg : needArg rs right v d := ⟨by simp at a0; omega, by simp at a1; omega, by simpa using a2, by simpa using a3⟩
  obtain ⟨k, rfl⟩ : ∃ k : Nat, right = k := ⟨right.toNat, by have := harg.1; omega⟩
  have hk : k < rs.length := by have := harg.2.1; omega
  have hw0 : IntKind.wrap .i64 ((ss.length : Int) - 1) = ((ss.length : Int) - 1) := w64_id (by omega) (by omega)
  refine Rn.loop zB 1000 rfl (T := Nat × Int) (fun t => t.1) (fun t => t.1 ≤ ss.length ∧ Seek ss v d t.1 t.2) (fun t => [(15, iA ((t.1 : Int) - 1)), (14, iA t.2), (4, .one (.ptr (some (3, 0)))), (3, iA d), (2, iA v), (1, iA k)]) (fun _ => shC rs ss po f1 f2 f3) (fun _ => 4) ((ss.length, -1)) [some 0, some 1, some 2, some 3] (⟨Nat.le_refl _, .inl ⟨rfl, fun j a hj ha => by have := (List.getElem?_eq_some_iff.mp ha).1; omega⟩⟩) ⟨rfl, rfl, rfl, rfl, rfl, by (repeat' first | exact trivial | exact rfl | exact Or.inl (And.intro rfl rfl) | exact wsucc _ (by omega) | exact wlin (by first | omega | (push_cast; omega)) (by omega) | exact wint (by omega) (by omega) | refine And.intro ?_ ?_ | refine Or.inr ?_), by (repeat' first | exact trivial | exact rfl | exact (by decide) | exact zerosI _ | exact zerosN _ | exact OfRaw.rows (by omega) | exact Or.inl (And.intro rfl rfl) | refine And.intro ?_ ?_ | refine Exists.intro _ (Exists.intro _ (And.intro rfl (And.intro (by decide) ?_))))⟩ ?_
  rintro ⟨m, cur⟩ ⟨hm, hS⟩
  dsimp only at hm hS
  refine Rn.split zB 1000 rfl (fun hlt => ?_) (fun hlt => ?_)
  · have hlt : 0 < m := by simp at hlt; omega
    obtain ⟨x, hx⟩ : ∃ x, ss[m - 1]? = some x := ⟨ss[m - 1]'(by omega), List.getElem?_eq_getElem _⟩
    have hto : ((m : Int) - 1).toNat = m - 1 := by omega
    have hmi : (m : Int) - 1 = ((m - 1 : Nat) : Int) := by omega
    have hwm : IntKind.wrap .i64 ((m : Int) - 1 - 1) = (((m - 1 : Nat) : Int) - 1) := by rw [w64_id (by omega) (by omega)]; omega
    refine Rn.ask zB 1000 rfl ⟨by dsimp only; omega, by dsimp only; omega⟩ ?_
    refine Rn.loadR zB 1000 rfl (LoadR.fld eSu (f := 0) (v := .int .i64 x.valley) hx (by dsimp only; rw [hto]; simp) rfl rfl) ?_
    refine Rn.split zB 1000 rfl (fun c1 => ?_) (fun c1 => ?_)
    · refine Rn.ask zB 1000 rfl ⟨by dsimp only; omega, by dsimp only; omega⟩ ?_
      refine Rn.loadR zB 1000 rfl (LoadR.fld eSu (f := 1) (v := .int .i64 x.day) hx (by dsimp only; rw [hto]; simp) rfl rfl) ?_
      refine Rn.split zB 1000 rfl (fun c2 => ?_) (fun c2 => ?_)
      · have hf : fitS v d x = true := by unfold fitS; rw [c1, c2]; rfl
        refine Rn.again zB 1000 rfl ((m - 1, (m : Int) - 1)) [some 0, some 1, some 2, some 3] (by dsimp only; omega) (⟨by dsimp only; omega, by rw [hmi]; exact Seek.hit (cur := cur) hlt hx hf⟩) ⟨rfl, rfl, rfl, rfl, rfl, by (try dsimp only); rw [hwm]; (repeat' first | exact trivial | exact rfl | exact Or.inl (And.intro rfl rfl) | exact wsucc _ (by omega) | exact wlin (by first | omega | (push_cast; omega)) (by omega) | exact wint (by omega) (by omega) | refine And.intro ?_ ?_ | refine Or.inr ?_), by (repeat' first | exact trivial | exact rfl | exact (by decide) | exact zerosI _ | exact zerosN _ | exact OfRaw.rows (by omega) | exact Or.inl (And.intro rfl rfl) | refine And.intro ?_ ?_ | refine Exists.intro _ (Exists.intro _ (And.intro rfl (And.intro (by decide) ?_))))⟩
      · have hf : fitS v d x = false := by unfold fitS; rw [c1, c2]; rfl
        refine Rn.again zB 1000 rfl ((m - 1, cur)) [some 0, some 1, some 2, some 3] (by dsimp only; omega) (⟨by dsimp only; omega, hS.miss hlt hx hf⟩) ⟨rfl, rfl, rfl, rfl, rfl, by (try dsimp only); rw [hwm]; (repeat' first | exact trivial | exact rfl | exact Or.inl (And.intro rfl rfl) | exact wsucc _ (by omega) | exact wlin (by first | omega | (push_cast; omega)) (by omega) | exact wint (by omega) (by omega) | refine And.intro ?_ ?_ | refine Or.inr ?_), by (repeat' first | exact trivial | exact rfl | exact (by decide) | exact zerosI _ | exact zerosN _ | exact OfRaw.rows (by omega) | exact Or.inl (And.intro rfl rfl) | refine And.intro ?_ ?_ | refine Exists.intro _ (Exists.intro _ (And.intro rfl (And.intro (by decide) ?_))))⟩
    · have hf : fitS v d x = false := by unfold fitS; rw [c1]; rfl
      repeat (refine Rn.split zB 1000 rfl (fun h => by cases h) (fun _ => ?_))
      refine Rn.again zB 1000 rfl ((m - 1, cur)) [some 0, some 1, some 2, some 3] (by dsimp only; omega) (⟨by dsimp only; omega, hS.miss hlt hx hf⟩) ⟨rfl, rfl, rfl, rfl, rfl, by (try dsimp only); rw [hwm]; (repeat' first | exact trivial | exact rfl | exact Or.inl (And.intro rfl rfl) | exact wsucc _ (by omega) | exact wlin (by first | omega | (push_cast; omega)) (by omega) | exact wint (by omega) (by omega) | refine And.intro ?_ ?_ | refine Or.inr ?_), by (repeat' first | exact trivial | exact rfl | exact (by decide) | exact zerosI _ | exact zerosN _ | exact OfRaw.rows (by omega) | exact Or.inl (And.intro rfl rfl) | refine And.intro ?_ ?_ | refine Exists.intro _ (Exists.intro _ (And.intro rfl (And.intro (by decide) ?_))))⟩
  have hm0 : m = 0 := by simp at hlt; omega
  subst hm0
  have hcur := hS.done
  subst hcur
  refine Rn.out zB 1000 rfl rfl ?_
  refine Rn.split zB 1000 rfl (fun b0 => ?_) (fun b0 => ?_)
  · have b0 : idxI (fitS v d) ss < 0 := by simpa using b0
    refine Rn.fin zB 1000 rfl rfl rfl ⟨(0, false, 0), ⟨fun h => absurd e0 h, fun _ h => absurd harg h, fun _ _ _ => ⟨rfl, rfl, rfl⟩, fun _ _ h => (by omega), fun _ _ h => (by omega)⟩⟩ [some 0, some 1, some 2] rfl rfl ?_ ?_ rfl rfl rfl
    · (repeat' first | exact trivial | exact rfl | exact Or.inl (And.intro rfl rfl) | exact wsucc _ (by omega) | exact wlin (by first | omega | (push_cast; omega)) (by omega) | exact wint (by omega) (by omega) | refine And.intro ?_ ?_ | refine Or.inr ?_)
    · (repeat' first | exact trivial | exact rfl | exact (by decide) | exact zerosI _ | exact zerosN _ | exact OfRaw.rows (by omega) | exact Or.inl (And.intro rfl rfl) | refine And.intro ?_ ?_ | refine Exists.intro _ (Exists.intro _ (And.intro rfl (And.intro (by decide) ?_))))
  have b0 : 0 ≤ idxI (fitS v d) ss := by simpa using b0
  obtain ⟨n, hn, hnl⟩ := idxI_nat b0
  have hcs := claims_sum B
  have hcl : (claimsOf rs).length = rs.length := by simp [claimsOf]
  rw [hn]
  refine Rn.loop zB 1000 rfl (T := Nat) (fun i => rs.length - i) (fun i => i ≤ rs.length) (fun i => [(17, iA i), (16, iA (sumW ((claimsOf rs).take i))), (14, iA n), (4, .one (.ptr (some (3, 0)))), (1, iA k)]) (fun _ => shC rs ss po f1 f2 f3) (fun _ => 4) (0) [some 0, some 1, some 2, some 3] (Nat.zero_le _) ⟨rfl, rfl, rfl, rfl, rfl, by (repeat' first | exact trivial | exact rfl | exact Or.inl (And.intro rfl rfl) | exact wsucc _ (by omega) | exact wlin (by first | omega | (push_cast; omega)) (by omega) | exact wint (by omega) (by omega) | refine And.intro ?_ ?_ | refine Or.inr ?_), by (repeat' first | exact trivial | exact rfl | exact (by decide) | exact zerosI _ | exact zerosN _ | exact OfRaw.rows (by omega) | exact Or.inl (And.intro rfl rfl) | refine And.intro ?_ ?_ | refine Exists.intro _ (Exists.intro _ (And.intro rfl (And.intro (by decide) ?_))))⟩ ?_
  rintro i hi
  refine Rn.split zB 1000 rfl (fun hlt => ?_) (fun hlt => ?_)
  · have hlt : i < rs.length := by simpa using hlt
    obtain ⟨r, hr⟩ : ∃ r, rs[i]? = some r := ⟨rs[i], List.getElem?_eq_getElem hlt⟩
    have hs := sumW_succ (claims_get hr)
    refine Rn.ask zB 1000 rfl ⟨by first | omega | (dsimp only; omega), by first | omega | (dsimp only; omega)⟩ ?_
    refine Rn.loadR zB 1000 rfl (LoadR.fld eRt (f := 6) (v := .int .i64 r.claim) hr (by simp) rfl rfl) ?_
    refine Rn.again zB 1000 rfl (i + 1) [some 0, some 1, some 2, some 3] (by omega) (hlt) ⟨rfl, rfl, rfl, rfl, rfl, by (try dsimp only); rw [hs]; (repeat' first | exact trivial | exact rfl | exact Or.inl (And.intro rfl rfl) | exact wsucc _ (by omega) | exact wlin (by first | omega | (push_cast; omega)) (by omega) | exact wint (by omega) (by omega) | refine And.intro ?_ ?_ | refine Or.inr ?_), by (repeat' first | exact trivial | exact rfl | exact (by decide) | exact zerosI _ | exact zerosN _ | exact OfRaw.rows (by omega) | exact Or.inl (And.intro rfl rfl) | refine And.intro ?_ ?_ | refine Exists.intro _ (Exists.intro _ (And.intro rfl (And.intro (by decide) ?_))))⟩
  have hi2 : i = rs.length := by simp at hlt; omega
  subst hi2
  have htk : (claimsOf rs).take rs.length = claimsOf rs := by rw [← hcl, List.take_length]
  rw [htk]
  refine Rn.out zB 1000 rfl rfl ?_
  refine Rn.call0 zB 1000 rfl (c_rask rs ss po f1 f2 f3 k n hok hk hnl (sumW (claimsOf rs)) hcs.1 hcs.2) [some 0, some 1, some 2] rfl rfl (by (repeat' first | exact trivial | exact rfl | exact Or.inl (And.intro rfl rfl) | exact wsucc _ (by omega) | exact wlin (by first | omega | (push_cast; omega)) (by omega) | exact wint (by omega) (by omega) | refine And.intro ?_ ?_ | refine Or.inr ?_)) (by (repeat' first | exact trivial | exact rfl | exact (by decide) | exact zerosI _ | exact zerosN _ | exact OfRaw.rows (by omega) | exact Or.inl (And.intro rfl rfl) | refine And.intro ?_ ?_ | refine Exists.intro _ (Exists.intro _ (And.intro rfl (And.intro (by decide) ?_))))) rfl rfl rfl rfl rfl ?_
  refine Rn.split zB 1000 rfl (fun b1 => ?_) (fun b1 => ?_)
  · have b1 : fineB rs ss po k n (sumW (claimsOf rs)) = false := by simpa using b1
    refine Rn.fin zB 1000 rfl rfl rfl ⟨(0, false, 0), ⟨fun h => absurd e0 h, fun _ h => absurd harg h, fun _ _ h => (by omega), fun _ _ _ _ => ⟨rfl, rfl, rfl⟩, fun _ _ _ h => (by rw [hn] at h; rw [show fineB rs ss po ((k : Int)).toNat ((n : Int)).toNat (sumW (claimsOf rs)) = false from b1] at h; cases h)⟩⟩ [some 0, some 1, some 2] rfl rfl ?_ ?_ rfl rfl rfl
    · (repeat' first | exact trivial | exact rfl | exact Or.inl (And.intro rfl rfl) | exact wsucc _ (by omega) | exact wlin (by first | omega | (push_cast; omega)) (by omega) | exact wint (by omega) (by omega) | refine And.intro ?_ ?_ | refine Or.inr ?_)
    · (repeat' first | exact trivial | exact rfl | exact (by decide) | exact zerosI _ | exact zerosN _ | exact OfRaw.rows (by omega) | exact Or.inl (And.intro rfl rfl) | refine And.intro ?_ ?_ | refine Exists.intro _ (Exists.intro _ (And.intro rfl (And.intro (by decide) ?_))))
  have b1 : fineB rs ss po k n (sumW (claimsOf rs)) = true := by simpa using b1
  refine Rn.loop zB 1000 rfl (T := Int × Int) (fun t => (t.2 - t.1).toNat) (fun t => 0 ≤ t.1 ∧ t.1 ≤ t.2 ∧ t.2 ≤ 35184372088832 ∧ leastI (fineB rs ss po k n) t.1 t.2 = leastI (fineB rs ss po k n) 0 (sumW (claimsOf rs))) (fun t => [(19, iA t.1), (16, iA t.2), (14, iA n), (4, .one (.ptr (some (3, 0)))), (1, iA k)]) (fun _ => shC rs ss po f1 f2 f3) (fun _ => 4) ((0, sumW (claimsOf rs))) [some 0, some 1, some 2, some 3] (⟨Int.le_refl _, hcs.1, hcs.2, rfl⟩) ⟨rfl, rfl, rfl, rfl, rfl, by (repeat' first | exact trivial | exact rfl | exact Or.inl (And.intro rfl rfl) | exact wsucc _ (by omega) | exact wlin (by first | omega | (push_cast; omega)) (by omega) | exact wint (by omega) (by omega) | refine And.intro ?_ ?_ | refine Or.inr ?_), by (repeat' first | exact trivial | exact rfl | exact (by decide) | exact zerosI _ | exact zerosN _ | exact OfRaw.rows (by omega) | exact Or.inl (And.intro rfl rfl) | refine And.intro ?_ ?_ | refine Exists.intro _ (Exists.intro _ (And.intro rfl (And.intro (by decide) ?_))))⟩ ?_
  rintro ⟨lo, hi2⟩ ⟨d0, d1, d2, he⟩
  dsimp only at d0 d1 d2 he
  refine Rn.split zB 1000 rfl (fun hlt => ?_) (fun hlt => ?_)
  · have hlt : lo < hi2 := by simpa using hlt
    have c := c_rask rs ss po f1 f2 f3 k n hok hk hnl (lo + (hi2 - lo) / 2) (by omega) (by omega)
    have hmid := midR d0 hlt d2
    refine Rn.call0 zB 1000 rfl (c) [some 0, some 1, some 2] rfl rfl (by (try dsimp only); rw [hmid]; (repeat' first | exact trivial | exact rfl | exact Or.inl (And.intro rfl rfl) | exact wsucc _ (by omega) | exact wlin (by first | omega | (push_cast; omega)) (by omega) | exact wint (by omega) (by omega) | refine And.intro ?_ ?_ | refine Or.inr ?_)) (by (repeat' first | exact trivial | exact rfl | exact (by decide) | exact zerosI _ | exact zerosN _ | exact OfRaw.rows (by omega) | exact Or.inl (And.intro rfl rfl) | refine And.intro ?_ ?_ | refine Exists.intro _ (Exists.intro _ (And.intro rfl (And.intro (by decide) ?_))))) rfl rfl rfl rfl rfl ?_
    refine Rn.split zB 1000 rfl (fun hp => ?_) (fun hp => ?_)
    · refine Rn.again zB 1000 rfl ((lo, lo + (hi2 - lo) / 2)) [some 0, some 1, some 2, some 3] (by dsimp only; omega) (⟨d0, by dsimp only; omega, by dsimp only; omega, (leastI_t hlt hp).symm.trans he⟩) ⟨rfl, rfl, rfl, rfl, rfl, by (try dsimp only); rw [hmid]; (repeat' first | exact trivial | exact rfl | exact Or.inl (And.intro rfl rfl) | exact wsucc _ (by omega) | exact wlin (by first | omega | (push_cast; omega)) (by omega) | exact wint (by omega) (by omega) | refine And.intro ?_ ?_ | refine Or.inr ?_), by (repeat' first | exact trivial | exact rfl | exact (by decide) | exact zerosI _ | exact zerosN _ | exact OfRaw.rows (by omega) | exact Or.inl (And.intro rfl rfl) | refine And.intro ?_ ?_ | refine Exists.intro _ (Exists.intro _ (And.intro rfl (And.intro (by decide) ?_))))⟩
    · refine Rn.again zB 1000 rfl ((lo + (hi2 - lo) / 2 + 1, hi2)) [some 0, some 1, some 2, some 3] (by dsimp only; omega) (⟨by dsimp only; omega, by dsimp only; omega, d2, (leastI_f hlt hp).symm.trans he⟩) ⟨rfl, rfl, rfl, rfl, rfl, by (try dsimp only); rw [hmid]; (repeat' first | exact trivial | exact rfl | exact Or.inl (And.intro rfl rfl) | exact wsucc _ (by omega) | exact wlin (by first | omega | (push_cast; omega)) (by omega) | exact wint (by omega) (by omega) | refine And.intro ?_ ?_ | refine Or.inr ?_), by (repeat' first | exact trivial | exact rfl | exact (by decide) | exact zerosI _ | exact zerosN _ | exact OfRaw.rows (by omega) | exact Or.inl (And.intro rfl rfl) | refine And.intro ?_ ?_ | refine Exists.intro _ (Exists.intro _ (And.intro rfl (And.intro (by decide) ?_))))⟩
  have hge : lo = hi2 := by simp at hlt; omega
  subst hge
  refine Rn.out zB 1000 rfl rfl ?_
  rw [leastI_z (Int.le_refl _)] at he
  refine Rn.fin zB 1000 rfl rfl rfl ⟨(lo, true, 0), ⟨fun h => absurd e0 h, fun _ h => absurd harg h, fun _ _ h => (by omega), fun _ _ _ h => (by rw [hn] at h; rw [show fineB rs ss po ((k : Int)).toNat ((n : Int)).toNat (sumW (claimsOf rs)) = true from b1] at h; cases h), fun _ _ _ _ => (by rw [hn]; exact ⟨he, rfl, rfl⟩)⟩⟩ [some 0, some 1, some 2] rfl rfl ?_ ?_ rfl rfl rfl
  · (repeat' first | exact trivial | exact rfl | exact Or.inl (And.intro rfl rfl) | exact wsucc _ (by omega) | exact wlin (by first | omega | (push_cast; omega)) (by omega) | exact wint (by omega) (by omega) | refine And.intro ?_ ?_ | refine Or.inr ?_)
  · (repeat' first | exact trivial | exact rfl | exact (by decide) | exact zerosI _ | exact zerosN _ | exact OfRaw.rows (by omega) | exact Or.inl (And.intro rfl rfl) | refine And.intro ?_ ?_ | refine Exists.intro _ (Exists.intro _ (And.intro rfl (And.intro (by decide) ?_))))
end Go.AM
